/- Regions whose order is drawn: sound. -/
import Derived.Test.YtlelnfcjghemhaaGreatDoorA5
import Derived.Orders
namespace Go.AE
open Go Go.RowKit

variable {P : Program} {E : Env} {B : Nat} {w0 : World}

/-! what an operation answers hangs on its operands alone -/
theorem opdsC_congr {t t' : T} : ∀ {l : List Operand} {n : Nat}, (∀ x ∈ l, (opdC x).out t = (opdC x).out t') → (opdsC n l).out t = (opdsC n l).out t'
  | [], _, _ => rfl
  | [x], _, h => h x (List.mem_singleton.2 rfl)
  | x :: y :: l, n, h => by
    have h1 := h x (List.mem_cons_self ..)
    have h2 := opdsC_congr (l := y :: l) (n := n - 1) fun z hz => h z (List.mem_cons_of_mem _ hz)
    simp only [opdsC, KF.app_eq, KF.out_mk] at h2 ⊢
    rw [h1]
    congr 1
    funext v
    exact congrArg (fun r => ob r _) h2

theorem optC_congr {t t' : T} {x : Option Operand} (h : ∀ y, x = some y → (opdC y).out t = (opdC y).out t') : (optC x).out t = (optC x).out t' := by
  cases x with
  | none => rfl
  | some y => simp only [optC, KF.app_eq, KF.out_mk]; rw [h y rfl]

theorem putC_congr {t t' : T} {place : Nat → Option (Nat × Nat)} : ∀ {l : List (Nat × Operand)}, (∀ x ∈ l.map (·.2), (opdC x).out t = (opdC x).out t') → ∀ r, (putC place l).out t r = (putC place l).out t' r
  | [], _, _ => rfl
  | (i, o) :: l, h, r => by
    have h1 := h o (by simp)
    have h2 := putC_congr (place := place) (l := l) fun z hz => h z (by simp at hz ⊢; exact .inr hz)
    unfold putC
    split
    · simp only [KF.app_eq, KF.out_mk]
      rw [h1]
      simp only [h2]
    · rfl

/-- a compiled operation answers the same -/
def Alike (call : Call) (t t' : T) (ck : CK) : Prop := ∀ hs : HS, stepC call ck t hs = stepC call ck t' hs

section
variable {call : Call} {t t' : T}
def OpEq (t t' : T) (x : Operand) : Prop := (opdC x).out t = (opdC x).out t'

theorem cMove_same {x : Operand} (h : OpEq t t' x) : Alike call t t' (cMove x) := fun hs => by unfold OpEq at h; simp only [cMove, stepC, h]
theorem cPick_same {a b c : Operand} (h1 : OpEq t t' a) (h2 : OpEq t t' b) (h3 : OpEq t t' c) : Alike call t t' (cPick a b c) := fun hs => by unfold OpEq at h1 h2 h3; simp only [cPick, KF.app_eq, stepC, h1, h2, h3]
theorem cAlloc_same {e : Nat} : Alike call t t' (cAlloc E e) := fun hs => by simp only [cAlloc, KF.app_eq]; split <;> rfl
theorem cBox_same {e : Nat} {x : Operand} (h : OpEq t t' x) : Alike call t t' (cBox e x) := fun hs => by unfold OpEq at h; simp only [cBox, KF.app_eq, stepC, h]
theorem cBuild_same {ty : Nat} {ps : Array (Nat × Operand)} (h : ∀ x ∈ ps.toList.map (·.2), OpEq t t' x) : Alike call t t' (cBuild E ty ps) := fun hs => by
  have := fun pl => putC_congr (place := pl) (l := ps.toList) (t := t) (t' := t') h
  simp only [cBuild, KF.app_eq]
  split
  · cases (Array.all _ _ : Bool) <;> simp only [bi, stepC, this]
  · split <;> simp only [stepC, this]
  · rfl
theorem cBuildSlice_same {ty n : Nat} {ps : Array (Nat × Operand)} (h : ∀ x ∈ ps.toList.map (·.2), OpEq t t' x) : Alike call t t' (cBuildSlice E ty n ps) := fun hs => by
  have := fun pl => putC_congr (place := pl) (l := ps.toList) (t := t) (t' := t') h
  simp only [cBuildSlice, KF.app_eq]
  split
  · split
    · rw [bi_if]; split <;> simp only [stepC, this]
    · rfl
  · rfl
theorem cLoad_same {e : Nat} {x : Operand} (h : OpEq t t' x) : Alike call t t' (cLoad E e x) := fun hs => by unfold OpEq at h; simp only [cLoad, KF.app_eq, stepC, h]
theorem cStore_same {e : Nat} {x y : Operand} (h : OpEq t t' x) (h2 : OpEq t t' y) : Alike call t t' (cStore E e x y) := fun hs => by unfold OpEq at h h2; simp only [cStore, KF.app_eq, stepC, h, h2]
theorem cNilCheck_same {x : Operand} (h : OpEq t t' x) : Alike call t t' (cNilCheck x) := fun hs => by unfold OpEq at h; simp only [cNilCheck, KF.app_eq, stepC, h]
theorem cBin_same {op : BinOp} {e : Nat} {x y : Operand} (h : OpEq t t' x) (h2 : OpEq t t' y) : Alike call t t' (cBin E op e x y) := fun hs => by unfold OpEq at h h2; simp only [cBin, KF.app_eq, stepC, h, h2]
theorem cUn_same {op : UnOp} {x : Operand} (h : OpEq t t' x) : Alike call t t' (cUn op x) := fun hs => by unfold OpEq at h; simp only [cUn, KF.app_eq, stepC, h]
theorem cConv_same {s d : Nat} {x : Operand} (h : OpEq t t' x) : Alike call t t' (cConv E s d x) := fun hs => by
  unfold OpEq at h
  unfold cConv
  rw [KF.app_eq]
  split
  · simp only [stepC, h]
  · simp only [stepC, h]
  · rw [bi_if]; split
    · simp only [stepC, h]
    · rfl
  · rw [bi_if]; split
    · simp only [stepC, h]
    · rfl
  · rw [bi_if]; split
    · simp only [stepC, h]
    · rfl
  · rfl
theorem cMakeFunc_same {f : Nat} {a b : Array Operand} (h : ∀ x ∈ a.toList, OpEq t t' x) (h' : ∀ x ∈ b.toList, OpEq t t' x) : Alike call t t' (cMakeFunc f a b) := fun hs => by
  have h1 := opdsC_congr (n := a.toList.length) h
  have h2 := opdsC_congr (n := b.toList.length) h'
  simp only [cMakeFunc, KF.app_eq, stepC, h1, h2]
theorem cMakeMap_same {r : Option Operand} : Alike call t t' (cMakeMap r) := fun hs => by cases r <;> simp only [cMakeMap, stepC]
theorem cMakeSlice_same {ty : Nat} {x y : Operand} (h : OpEq t t' x) (h2 : OpEq t t' y) : Alike call t t' (cMakeSlice E ty x y) := fun hs => by
  unfold OpEq at h h2
  simp only [cMakeSlice, KF.app_eq]
  split
  · split
    · rw [bi_if]; split <;> simp only [stepC, h, h2]
    · rfl
  · rfl
theorem cSlice_same {ty : Nat} {x : Operand} {lo hi mx : Option Operand} (h : OpEq t t' x) (hl : ∀ y, lo = some y → OpEq t t' y) (hh : ∀ y, hi = some y → OpEq t t' y) (hm : ∀ y, mx = some y → OpEq t t' y) : Alike call t t' (cSlice E ty x lo hi mx) := fun hs => by
  unfold OpEq at h
  simp only [cSlice, KF.app_eq, stepC, h, optC_congr hl, optC_congr hh, optC_congr hm]
theorem cFieldAddr_same {s f : Nat} {x : Operand} (h : OpEq t t' x) : Alike call t t' (cFieldAddr E s x f) := fun hs => by
  unfold OpEq at h
  simp only [cFieldAddr, KF.app_eq]
  split
  · split
    · split <;> simp only [stepC, h]
    · rfl
  · rfl
theorem cField_same {s f : Nat} {x : Operand} (h : OpEq t t' x) : Alike call t t' (cField E s x f) := fun hs => by
  unfold OpEq at h
  simp only [cField, KF.app_eq]
  split
  · split <;> simp only [stepC, h]
  · rfl
theorem cIndexAddr_same {ty : Nat} {x y : Operand} (h : OpEq t t' x) (h2 : OpEq t t' y) : Alike call t t' (cIndexAddr E ty x y) := fun hs => by
  unfold OpEq at h h2
  simp only [cIndexAddr, KF.app_eq]
  split
  · split <;> simp only [stepC, h, h2]
  · split <;> simp only [stepC, h, h2]
  · rfl
theorem cIndex_same {ty : Nat} {x y : Operand} (h : OpEq t t' x) (h2 : OpEq t t' y) : Alike call t t' (cIndex E ty x y) := fun hs => by
  unfold OpEq at h h2
  simp only [cIndex, KF.app_eq]
  split
  · split <;> simp only [stepC, h, h2]
  · simp only [stepC, h, h2]
  · rfl
theorem cLookup_same {ty : Nat} {x y : Operand} {ok : Bool} (h : OpEq t t' x) (h2 : OpEq t t' y) : Alike call t t' (cLookup E ty x y ok) := fun hs => by
  unfold OpEq at h h2
  simp only [cLookup, KF.app_eq]
  split
  · split
    · cases ok <;> simp only [stepC, h, h2]
    · rfl
  · rfl
theorem cMapUpdate_same {ty : Nat} {x y z : Operand} (h : OpEq t t' x) (h2 : OpEq t t' y) (h3 : OpEq t t' z) : Alike call t t' (cMapUpdate E ty x y z) := fun hs => by
  unfold OpEq at h h2 h3
  simp only [cMapUpdate, KF.app_eq]
  split
  · split <;> simp only [stepC, h, h2, h3]
  · rfl
theorem cMapEntry_same {ty : Nat} {x y : Operand} (h : OpEq t t' x) (h2 : OpEq t t' y) : Alike call t t' (cMapEntry E ty x y) := fun hs => by
  unfold OpEq at h h2
  simp only [cMapEntry, KF.app_eq]
  split
  · split <;> simp only [stepC, h, h2]
  · rfl
theorem cEntryStore_same {x y z : Operand} (h : OpEq t t' x) (h2 : OpEq t t' y) (h3 : OpEq t t' z) : Alike call t t' (cEntryStore x y z) := fun hs => by
  unfold OpEq at h h2 h3
  simp only [cEntryStore, KF.app_eq, stepC, h, h2, h3]
theorem cRange_same {ty : Nat} {x : Operand} (h : OpEq t t' x) : Alike call t t' (cRange E ty x) := fun hs => by
  unfold OpEq at h
  simp only [cRange, KF.app_eq]
  split <;> simp only [stepC, h]
theorem cNext_same {x : Operand} (h : OpEq t t' x) : Alike call t t' (cNext x) := fun hs => by unfold OpEq at h; simp only [cNext, KF.app_eq, stepC, h]
theorem cEntry_same {x : Operand} (h : OpEq t t' x) : Alike call t t' (cEntry x) := fun hs => by unfold OpEq at h; simp only [cEntry, KF.app_eq, stepC, h]
theorem cExtract_same {x : Operand} {i : Nat} (h : OpEq t t' x) : Alike call t t' (cExtract x i) := fun hs => by unfold OpEq at h; simp only [cExtract, KF.app_eq, stepC, h]
theorem cCallF_same {f : Nat} {l : List Operand} (h : ∀ x ∈ l, OpEq t t' x) : Alike call t t' (cCallF f l) := fun hs => by
  have h1 := opdsC_congr (n := l.length) h
  simp only [cCallF, KF.app_eq, stepC, h1]
theorem cCallV_same {f : Operand} {l : List Operand} (h0 : OpEq t t' f) (h : ∀ x ∈ l, OpEq t t' x) : Alike call t t' (cCallV f l) := fun hs => by
  have h1 := opdsC_congr (n := l.length) h
  unfold OpEq at h0
  simp only [cCallV, KF.app_eq, stepC, h0, h1]
theorem cAppend_same {t0 : Nat} {t1 : Option Nat} {x y : Operand} (h : OpEq t t' x) (h2 : OpEq t t' y) : Alike call t t' (cAppend E t0 t1 x y) := fun hs => by unfold OpEq at h h2; simp only [cAppend, KF.app_eq, stepC, h, h2]
theorem cCopy_same {t0 : Nat} {x y : Operand} (h : OpEq t t' x) (h2 : OpEq t t' y) : Alike call t t' (cCopy E t0 x y) := fun hs => by unfold OpEq at h h2; simp only [cCopy, KF.app_eq, stepC, h, h2]
theorem cLen_same {t0 : Nat} {x : Operand} (h : OpEq t t' x) : Alike call t t' (cLen E t0 x) := fun hs => by
  unfold OpEq at h
  simp only [cLen, KF.app_eq]
  split <;> simp only [stepC, h]
theorem cCap_same {t0 : Nat} {x : Operand} (h : OpEq t t' x) : Alike call t t' (cCap E t0 x) := fun hs => by
  unfold OpEq at h
  simp only [cCap, KF.app_eq]
  split <;> simp only [stepC, h]
theorem cMinmax_same {b : Bool} {t0 : Nat} {x y : Operand} (h : OpEq t t' x) (h2 : OpEq t t' y) : Alike call t t' (cMinmax E b t0 x y) := fun hs => by
  unfold OpEq at h h2
  simp only [cMinmax, KF.app_eq]
  split <;> simp only [stepC, h, h2]
theorem cClear_same {t0 : Nat} {x : Operand} (h : OpEq t t' x) : Alike call t t' (cClear E t0 x) := fun hs => by
  unfold OpEq at h
  simp only [cClear, KF.app_eq]
  split <;> simp only [stepC, h]
theorem cDelete_same {t0 : Nat} {x y : Operand} (h : OpEq t t' x) (h2 : OpEq t t' y) : Alike call t t' (cDelete E t0 x y) := fun hs => by
  unfold OpEq at h h2
  simp only [cDelete, KF.app_eq]
  split
  · split <;> simp only [stepC, h, h2]
  · rfl
theorem bad_same : Alike call t t' .bad := fun _ => rfl

theorem compB_same {b : Builtin} {ty : Nat} {l : List Operand} {tys : Array TypeId} (h : ∀ x ∈ l, OpEq t t' x) : Alike call t t' (compB E b ty l tys) := by
  have h1 : ∀ {x : Operand} {r : List Operand}, l = x :: r → OpEq t t' x := fun e => h _ (by rw [e]; exact List.mem_cons_self ..)
  have h2 : ∀ {x y : Operand} {r : List Operand}, l = x :: y :: r → OpEq t t' y := fun e => h _ (by rw [e]; exact List.mem_cons_of_mem _ (List.mem_cons_self ..))
  unfold compB
  split
  · exact cAppend_same (h1 rfl) (h2 rfl)
  · exact cCopy_same (h1 rfl) (h2 rfl)
  · exact cLen_same (h1 rfl)
  · exact cCap_same (h1 rfl)
  · exact cMinmax_same (h1 rfl) (h2 rfl)
  · exact cMinmax_same (h1 rfl) (h2 rfl)
  · exact cClear_same (h1 rfl)
  · exact cDelete_same (h1 rfl) (h2 rfl)
  · exact bad_same

theorem compCall_same {c : Go.Call} {ty : Nat} (h : ∀ x ∈ c.operands, OpEq t t' x) : Alike call t t' (compCall E c ty) := by
  have ha : ∀ x ∈ c.args.toList, OpEq t t' x := fun x hx => h x (by simp only [Call.operands, Array.mem_append]; exact .inr (by simpa using hx))
  unfold compCall
  split
  · exact cCallF_same ha
  · rename_i f _ hc; exact cCallV_same (h f (by simp [Call.operands, hc])) ha
  · exact compB_same ha
  · exact bad_same

theorem comp_same {o : Oper} (h : ∀ x ∈ o.op.operands, OpEq t t' x) : Alike call t t' (comp E o) := by
  unfold comp
  split <;> rename_i ho <;> (try rw [ho] at h; simp only [Op.operands] at h)
  · exact cMove_same (h _ (by simp))
  · exact cMove_same (h _ (by simp))
  · exact cPick_same (h _ (by simp)) (h _ (by simp)) (h _ (by simp))
  · exact cAlloc_same
  · exact cBox_same (h _ (by simp))
  · exact cBuild_same fun x hx => h x (by simpa using hx)
  · exact cBuildSlice_same fun x hx => h x (by simpa using hx)
  · exact cLoad_same (h _ (by simp))
  · exact cStore_same (h _ (by simp)) (h _ (by simp))
  · exact cNilCheck_same (h _ (by simp))
  · exact cBin_same (h _ (by simp)) (h _ (by simp))
  · exact cUn_same (h _ (by simp))
  · exact cConv_same (h _ (by simp))
  · exact cMakeFunc_same (fun x hx => h x (by simp at hx ⊢; exact .inl hx)) (fun x hx => h x (by simp at hx ⊢; exact .inr hx))
  · exact cMakeMap_same
  · exact cMakeSlice_same (h _ (by simp)) (h _ (by simp))
  · exact cSlice_same (h _ (by simp)) (fun y hy => h y (by subst hy; simp)) (fun y hy => h y (by subst hy; simp)) (fun y hy => h y (by subst hy; simp))
  · exact cFieldAddr_same (h _ (by simp))
  · exact cField_same (h _ (by simp))
  · exact cIndexAddr_same (h _ (by simp)) (h _ (by simp))
  · exact cIndex_same (h _ (by simp)) (h _ (by simp))
  · exact cLookup_same (h _ (by simp)) (h _ (by simp))
  · exact cMapUpdate_same (h _ (by simp)) (h _ (by simp)) (h _ (by simp))
  · exact cMapEntry_same (h _ (by simp)) (h _ (by simp))
  · exact cEntryStore_same (h _ (by simp)) (h _ (by simp)) (h _ (by simp))
  · exact cRange_same (h _ (by simp))
  · exact cNext_same (h _ (by simp))
  · exact cEntry_same (h _ (by simp))
  · exact cExtract_same (h _ (by simp))
  · exact compCall_same h
  · exact bad_same
end
end Go.AE

namespace Go.AE
open Go Go.RowKit

variable {P : Program} {E : Env} {B : Nat} {w0 : World}

/-! blocks that are there ahead of their time -/
def over (h X : Nat → Option Blk) (id : Nat) : Option Blk := match X id with
  | some b => some b
  | none => h id
theorem over_some {h X : Nat → Option Blk} {id : Nat} {b : Blk} (hx : X id = some b) : over h X id = some b := by simp [over, hx]
theorem over_none {h X : Nat → Option Blk} {id : Nat} (hx : X id = none) : over h X id = h id := by simp [over, hx]

theorem St.widen {σ σ' : Val} {h h' : Nat → Option Blk} {c c' d d' : Nat} {w w' : World} (s : St P B w0 σ h d w σ' h' d' w') (h1 : c ≤ d) (h2 : d' ≤ c') : St P B w0 σ h c w σ' h' c' w' := by
  have := s.le
  exact ⟨⟨s.ext.le, fun i hi hc => s.ext.blk i hi (by omega), fun i hi hc => s.ext.cap i hi (by omega), fun i hi hc => s.ext.opq i hi (by omega)⟩, s.rel, by omega, s.size, s.frame, s.foot,
    fun id hi hc => s.virt id hi (by omega)⟩

theorem St.thence {σ σ' σ'' : Val} {h h' h'' : Nat → Option Blk} {c c' : Nat} {w w' w'' : World} (s : St P B w0 σ h c w σ' h' c' w') (k : St P B w0 σ' h' c w' σ'' h'' c' w'') :
    St P B w0 σ h c w σ'' h'' c' w'' :=
  ⟨⟨s.ext.le.trans k.ext.le, fun i hi hc => k.ext.blk i (s.ext.blk i hi hc) hc, fun i hi hc => k.ext.cap i (s.ext.cap i hi hc) hc, fun i hi hc => k.ext.opq i (s.ext.opq i hi hc) hc⟩, k.rel, s.le, Nat.le_trans s.size k.size,
   fun b hb hf => (k.frame b (Nat.lt_of_lt_of_le hb s.size) fun id h1 h2 => (by
      obtain ⟨id0, a, b'⟩ := s.foot id b h1 h2 hb
      exact hf id0 a b')).trans (s.frame b hb hf),
   fun id n h1 h2 hn => (by
      obtain ⟨id1, a, b⟩ := k.foot id n h1 h2 (Nat.lt_of_lt_of_le hn s.size)
      exact s.foot id1 n a b hn),
   fun id h1 h2 => (k.virt id (s.ext.blk id h1 h2) h2).trans (s.virt id h1 h2)⟩

theorem HRel.part {σ : Val} {h G : Nat → Option Blk} {w : World} (hr : HRel P B w0 σ G w) (hs : ∀ id, h id ≠ none → h id = G id) : HRel P B w0 σ h w :=
  ⟨fun id b n h1 h2 => hr.blk id b n (by rw [← hs id (by rw [h1]; simp)]; exact h1) h2,
   fun id id' n h1 h1' h2 h2' => hr.inj id id' n (by rw [← hs id h1]; exact h1) (by rw [← hs id' h1']; exact h1') h2 h2', hr.dom,
   fun id n h1 h2 => hr.own id n (by rw [← hs id h1]; exact h1) h2, hr.keep, hr.base⟩

/-- a step beside them -/
theorem St.over {σ σ' : Val} {h h' X : Nat → Option Blk} {c c' d d' : Nat} {w w' : World} (hX : ∀ id, X id ≠ none → h id = none ∧ (id < d ∨ d' ≤ id) ∧ c ≤ id ∧ id < c')
    (hr : HRel P B w0 σ (over h X) w) (s : St P B w0 σ h d w σ' h' d' w') (h1 : c ≤ d) (h2 : d' ≤ c') : St P B w0 σ (over h X) c w σ' (over h' X) c' w' := by
  have hle := s.le
  -- a block of X is known after the step as it was known before it
  have back : ∀ id n, X id ≠ none → σ'.blk id = some n → σ.blk id = some n := by
    intro id n hx hn
    cases hb : σ.blk id with
    | none => rw [s.ext.blk id hb (hX id hx).2.1] at hn; cases hn
    | some m => rw [s.ext.le.blk id m hb] at hn; exact hn
  have hin : ∀ id, h id ≠ none → AE.over h X id ≠ none := by
    intro id hi
    cases hx : X id with
    | none => rw [over_none hx]; exact hi
    | some b => rw [over_some hx]; simp
  have xin : ∀ id, X id ≠ none → AE.over h X id ≠ none := by
    intro id hi
    cases hx : X id with
    | none => exact absurd hx hi
    | some b => rw [over_some hx]; simp
  -- and its block is none of h's
  have apart : ∀ id n, X id ≠ none → σ.blk id = some n → ∀ id0, h id0 ≠ none → σ.blk id0 ≠ some n := by
    intro id n hx hn id0 h0 hn0
    have := hr.inj id id0 n (xin id hx) (hin id0 h0) hn hn0
    subst this
    exact h0 (hX id hx).1
  have xlt : ∀ id n, X id ≠ none → σ.blk id = some n → n < w.heap.size := by
    intro id n hx hn
    cases hb : AE.over h X id with
    | none => exact absurd hb (xin id hx)
    | some b => exact hr.lt hb hn
  have live' : ∀ id, AE.over h' X id ≠ none → X id ≠ none ∨ (X id = none ∧ h' id ≠ none) := by
    intro id hi
    cases hx : X id with
    | none => rw [over_none hx] at hi; exact .inr ⟨rfl, hi⟩
    | some b => exact .inl (by simp)
  have foot' : ∀ id n, AE.over h' X id ≠ none → σ'.blk id = some n → n < w.heap.size → ∃ id0, AE.over h X id0 ≠ none ∧ σ.blk id0 = some n := by
    intro id n hi hn hlt
    rcases live' id hi with hx | ⟨_, hi⟩
    · exact ⟨id, xin id hx, back id n hx hn⟩
    · obtain ⟨id0, a, b⟩ := s.foot id n hi hn hlt
      exact ⟨id0, hin id0 a, b⟩
  have mixed : ∀ id id' n, X id ≠ none → h' id' ≠ none → σ'.blk id = some n → σ'.blk id' = some n → False := by
    intro id id' n hx hi h1 h2
    have hn := back id n hx h1
    obtain ⟨id0, a, b⟩ := s.foot id' n hi h2 (xlt id n hx hn)
    exact apart id n hx hn id0 a b
  refine ⟨⟨s.ext.le, fun i hi hc => s.ext.blk i hi (by omega), fun i hi hc => s.ext.cap i hi (by omega), fun i hi hc => s.ext.opq i hi (by omega)⟩,
    ⟨fun id b n k1 k2 => ?_, fun id id' n k1 k1' k2 k2' => ?_, s.rel.dom, fun id n k1 k2 => ?_, s.rel.keep, s.rel.base⟩, by omega, s.size, fun b hb hf => s.frame b hb fun id k1 => hf id (hin id k1), foot', fun id k1 k2 => ?_⟩
  · cases hx : X id with
    | none => rw [over_none hx] at k1; exact s.rel.blk id b n k1 k2
    | some b' =>
      rw [over_some hx] at k1
      cases k1
      have hx' : X id ≠ none := by rw [hx]; simp
      have hn := back id n hx' k2
      rw [s.frame n (xlt id n hx' hn) (apart id n hx' hn)]
      exact (hr.blk id b n (over_some hx) hn).mono P s.ext.le
  · rcases live' id k1 with hx | ⟨_, hi⟩ <;> rcases live' id' k1' with hx' | ⟨_, hi'⟩
    · exact hr.inj id id' n (xin id hx) (xin id' hx') (back id n hx k2) (back id' n hx' k2')
    · exact (mixed id id' n hx hi' k2 k2').elim
    · exact (mixed id' id n hx' hi k2' k2).elim
    · exact s.rel.inj id id' n hi hi' k2 k2'
  · rcases live' id k1 with hx | ⟨_, hi⟩
    · exact hr.own id n (xin id hx) (back id n hx k2)
    · exact s.rel.own id n hi k2
  · have hx : X id = none := by
      cases hx : X id with
      | none => rfl
      | some b => have := hX id (by rw [hx]; simp); omega
    rw [over_none hx, over_none hx]
    exact s.virt id k1 (by omega)

/-- a block that lay ready is made -/
theorem St.allocV {σ σ' : Val} {G : Nat → Option Blk} {w w' : World} {obj : Obj} {b : Blk} {i : Nat} (hr : HRel P B w0 σ G w) (hG : G i = some b) (hlt : i < 16384) (g : Grew w w' obj)
    (he : Ext σ σ' i (i + 1)) (hc : σ'.blk i = some w.heap.size) (hb : BR P σ' b (some obj)) : St P B w0 σ G i w σ' G (i + 1) w' := by
  have old : ∀ id n, id ≠ i → σ'.blk id = some n → σ.blk id = some n := by
    intro id n hne h1
    cases h2 : σ.blk id with
    | none =>
      have := he.blk id h2 (by omega)
      rw [this] at h1; cases h1
    | some m => have := he.le.blk id m h2; rw [h1] at this; exact this.symm
  have dom' : ∀ id n, σ'.blk id = some n → id < 16384 := fun id n h1 => by
    by_cases e : id = i
    · omega
    · exact hr.dom id n (old id n e h1)
  have live : ∀ id n, G id ≠ none → σ'.blk id = some n → (id = i ∧ n = w.heap.size) ∨ (id ≠ i ∧ G id ≠ none ∧ σ.blk id = some n ∧ n < w.heap.size) := by
    intro id n h1 h2
    by_cases e : id = i
    · subst e; rw [hc] at h2; cases h2; exact .inl ⟨rfl, rfl⟩
    · have h3 := old id n e h2
      cases hb' : G id with
      | none => exact absurd hb' h1
      | some b' => exact .inr ⟨e, by simp, h3, hr.lt hb' h3⟩
  refine ⟨he, ⟨fun id b' n h1 h2 => ?_, fun id id' n h1 h1' h2 h2' => ?_, dom', fun id n h1 h2 => ?_, g.below hr.keep hr.base, by rw [g.size]; have := hr.base; omega⟩, Nat.le_succ _, by rw [g.size]; omega, fun m hm _ => ?_, fun id n h1 h2 hn => ?_, fun id h1 h2 => rfl⟩
  · by_cases e : id = i
    · subst e
      rw [hc] at h2; cases h2
      rw [hG] at h1; cases h1
      rw [g.get, if_pos rfl]; exact hb
    · have h3 := old id n e h2
      have := hr.lt h1 h3
      rw [g.get, if_neg (by omega)]
      exact (hr.blk id b' n h1 h3).mono P he.le
  · rcases live id n h1 h2 with ⟨a, b⟩ | ⟨a, b, c, d⟩ <;> rcases live id' n h1' h2' with ⟨a', b'⟩ | ⟨a', b', c', d'⟩
    · omega
    · omega
    · omega
    · exact hr.inj id id' n b b' c c'
  · rcases live id n h1 h2 with ⟨a, b⟩ | ⟨a, b, c, d⟩
    · rw [b]; exact hr.base
    · exact hr.own id n b c
  · rw [g.get, if_neg (by omega)]
  · rcases live id n h1 h2 with ⟨a, b⟩ | ⟨a, b, c, d⟩
    · omega
    · exact ⟨id, b, c⟩
end Go.AE

namespace Go.AE
open Go Go.RowKit

variable {P : Program} {E : Env} {B : Nat} {w0 : World}

/-! what is known of a drawn region ahead -/
theorem hasB_eq (m j : Nat) : hasB m j = m.testBit j := by
  rw [Nat.testBit_eq_decide_div_mod_eq, ← Nat.shiftRight_eq_div_pow]
  have hb : ∀ x : Nat, Nat.beq x 1 = decide (x = 1) := fun x => by
    by_cases h : x = 1
    · rw [beq_iff.2 h, decide_eq_true h]
    · rw [beq_false.2 h, decide_eq_false h]
  exact hb (Nat.shiftRight m j % 2)
theorem hasB_zero (j : Nat) : hasB 0 j = false := by rw [hasB_eq]; exact Nat.zero_testBit j
theorem hasB_lor (a b j : Nat) : hasB (Nat.lor a b) j = (hasB a j || hasB b j) := by
  rw [hasB_eq, hasB_eq, hasB_eq]; exact Nat.testBit_or a b j
theorem hasB_one {k j : Nat} (h : hasB (Nat.shiftLeft 1 k) j = true) : j = k := by
  rw [hasB_eq] at h
  have e : Nat.shiftLeft 1 k = 1 <<< k := rfl
  rw [e, Nat.testBit_shiftLeft] at h
  simp at h
  obtain ⟨h1, h2⟩ := h
  have : j - k = 0 := by
    cases hjk : j - k with
    | zero => rfl
    | succ n => rw [hjk] at h2; simp [Nat.testBit_succ] at h2
  omega

theorem memL_iff {n : Nat} : ∀ {l : List Nat}, memL n l = true ↔ n ∈ l
  | [] => by simp [memL]
  | m :: l => by
    unfold memL
    rw [bi_if]
    by_cases h : n = m
    · rw [if_pos (beq_iff.2 h)]; simp [h]
    · rw [if_neg (by rw [beq_iff]; exact h), memL_iff]; simp [h]

def InEdges (S : Nat → Prop) (o : Oper) : Prop := ∀ e ∈ o.after, Region.binds .any e = true → S e.on
/-- with each, all that come before it -/
def ClosedS (ops : List Oper) (S : Nat → Prop) : Prop := ∀ i o, S i → ops[i]? = some o → InEdges S o
def TabOK (ops : List Oper) (S : Nat → Prop) (tab : List (Nat × Nat)) : Prop := ∀ i m, (i, m) ∈ tab → ∃ o, ops[i]? = some o ∧ (InEdges S o → ∀ j, hasB m j = true → S j)

theorem maskOf_mem {i j : Nat} : ∀ {tab : List (Nat × Nat)}, hasB (maskOf i tab) j = true → ∃ m, (i, m) ∈ tab ∧ hasB m j = true
  | [], h => by rw [maskOf, hasB_zero] at h; cases h
  | (k, m) :: l, h => by
    unfold maskOf at h
    rw [bi_if] at h
    split at h
    · rename_i hk
      have hk := beq_iff.1 hk
      subst hk
      exact ⟨m, List.mem_cons_self .., h⟩
    · obtain ⟨m', h1, h2⟩ := maskOf_mem h
      exact ⟨m', List.mem_cons_of_mem _ h1, h2⟩

theorem edgeM_ok {ops : List Oper} {S : Nat → Prop} {tab : List (Nat × Nat)} (ht : TabOK ops S tab) (hS : ClosedS ops S) {j : Nat} : ∀ {l : List Edge}, (∀ e ∈ l, Region.binds .any e = true → S e.on) → hasB (edgeM tab l) j = true → S j
  | [], _, h => by rw [edgeM, hasB_zero] at h; cases h
  | e :: l, hl, h => by
    have ih := fun (h : hasB (edgeM tab l) j = true) => edgeM_ok ht hS (j := j) (l := l) (fun e he => hl e (List.mem_cons_of_mem _ he)) h
    unfold edgeM at h
    split at h
    · rename_i hb
      have he := hl e (List.mem_cons_self ..) hb
      rw [hasB_lor, hasB_lor, Bool.or_eq_true, Bool.or_eq_true] at h
      rcases h with (h | h) | h
      · rw [hasB_one h]; exact he
      · obtain ⟨m, h1, h2⟩ := maskOf_mem h
        obtain ⟨o, ho, hm⟩ := ht _ _ h1
        exact hm (hS _ _ he ho) j h2
      · exact ih h
    · exact ih h

theorem dis_ok {ops : List Oper} {S : Nat → Prop} (hS : ClosedS ops S) : ∀ {l : List Nat} {tab : List (Nat × Nat)}, TabOK ops S tab → ∀ d ∈ dis E ops tab l,
    ops[d.i]? = some d.o ∧ d.k = kindOf (comp E d.o) ∧ d.looks = looksOf ops d.o ∧ (InEdges S d.o → ∀ j, hasB d.m j = true → S j)
  | [], _, _, d, hd => by cases hd
  | i :: l, tab, ht, d, hd => by
    unfold dis at hd
    split at hd
    · rename_i o ho
      rw [fN_eq, fN_eq] at hd
      rcases List.mem_cons.1 hd with rfl | hd
      · exact ⟨ho, rfl, rfl, fun he j hj => edgeM_ok ht hS (fun e h1 h2 => he e (by simpa using h1) h2) hj⟩
      · refine dis_ok hS (l := l) (fun i' m' hm => ?_) d hd
        rcases List.mem_cons.1 hm with e | hm
        · cases e
          exact ⟨o, ho, fun he j hj => edgeM_ok ht hS (fun e h1 h2 => he e (by simpa using h1) h2) hj⟩
        · exact ht i' m' hm
    · cases hd

structure DOK (E : Env) (ops : List Oper) (ds : List DI) : Prop where
  op : ∀ p, p < ds.length → ops[(dAt ds p).i]? = some (dAt ds p).o
  kind : ∀ p, p < ds.length → (dAt ds p).k = kindOf (comp E (dAt ds p).o)
  looks : ∀ p, p < ds.length → (dAt ds p).looks = looksOf ops (dAt ds p).o
  anc : ∀ S, ClosedS ops S → ∀ p, p < ds.length → InEdges S (dAt ds p).o → ∀ j, hasB (dAt ds p).m j = true → S j
  pair : ∀ p q, p < q → q < ds.length → pairOk (dAt ds p) (dAt ds q) = true
  topo : ∀ p, p < ds.length → ∀ e ∈ (dAt ds p).o.after, Region.binds .any e = true → ∃ r, r < p ∧ (dAt ds r).i = e.on
  cover : ∀ i, i < ops.length → ∃ p, p < ds.length ∧ (dAt ds p).i = i
  good : ∀ p, p < ds.length → (dAt ds p).k ≠ 4

theorem dAt_cons (d : DI) (l : List DI) (p : Nat) : dAt (d :: l) (p + 1) = dAt l p := by simp [dAt]
theorem dAt_zero (d : DI) (l : List DI) : dAt (d :: l) 0 = d := by simp [dAt]
theorem dAt_mem {ds : List DI} {p : Nat} (h : p < ds.length) : dAt ds p ∈ ds := by
  unfold dAt
  rw [List.getD_eq_getElem?_getD, List.getElem?_eq_getElem h]
  exact List.getElem_mem h
theorem mem_dAt {ds : List DI} {d : DI} (h : d ∈ ds) : ∃ p, p < ds.length ∧ dAt ds p = d := by
  obtain ⟨p, hp, e⟩ := List.getElem_of_mem h
  exact ⟨p, hp, by unfold dAt; rw [List.getD_eq_getElem?_getD, List.getElem?_eq_getElem hp]; exact e⟩

theorem pwOk_at : ∀ {ds : List DI}, pwOk ds = true → ∀ p q, p < q → q < ds.length → pairOk (dAt ds p) (dAt ds q) = true
  | [], _, p, q, _, hq => by cases hq
  | d :: l, h, p, q, hpq, hq => by
    unfold pwOk at h
    rw [Bool.and_eq_true, List.all_eq_true] at h
    cases q with
    | zero => cases hpq
    | succ q =>
      have hq : q < l.length := by simpa using hq
      cases p with
      | zero => rw [dAt_zero, dAt_cons]; exact h.1 _ (dAt_mem hq)
      | succ p => rw [dAt_cons, dAt_cons]; exact pwOk_at h.2 p q (by omega) hq

theorem edgesIn_ok {done : List Nat} {o : Oper} (h : edgesIn done o = true) : ∀ e ∈ o.after, Region.binds .any e = true → e.on ∈ done := by
  intro e he hb
  unfold edgesIn at h
  rw [List.all_eq_true] at h
  have := h e (by simpa using he)
  rw [Bool.or_eq_true, memL_iff] at this
  rcases this with h | h
  · rw [hb] at h; cases h
  · exact h

theorem topoOk_at : ∀ {ds : List DI} {done : List Nat}, topoOk done ds = true → ∀ p, p < ds.length → ∀ e ∈ (dAt ds p).o.after, Region.binds .any e = true → e.on ∈ done ∨ ∃ r, r < p ∧ (dAt ds r).i = e.on
  | [], _, _, p, hp => by cases hp
  | d :: l, done, h, p, hp => by
    unfold topoOk at h
    rw [Bool.and_eq_true] at h
    cases p with
    | zero => intro e he hb; rw [dAt_zero] at he; exact .inl (edgesIn_ok h.1 e he hb)
    | succ p =>
      intro e he hb
      rw [dAt_cons] at he
      rcases topoOk_at h.2 p (by simpa using hp) e he hb with h | ⟨r, h1, h2⟩
      · rcases List.mem_cons.1 h with h | h
        · exact .inr ⟨0, by omega, by rw [dAt_zero]; exact h.symm⟩
        · exact .inl h
      · exact .inr ⟨r + 1, by omega, by rw [dAt_cons]; exact h2⟩

theorem drawnOk_ok {ops : List Oper} {l : List Nat} (h : drawnOk ops (dis E ops [] l) = true) : DOK E ops (dis E ops [] l) := by
  unfold drawnOk at h
  rw [Bool.and_eq_true, Bool.and_eq_true, Bool.and_eq_true] at h
  obtain ⟨⟨⟨h1, h2⟩, h3⟩, h4⟩ := h
  have ht : ∀ S, TabOK ops S [] := fun S i m h => by cases h
  have hall : ClosedS ops (fun _ => True) := fun _ _ _ _ _ _ _ => trivial
  rw [List.all_eq_true] at h3
  refine ⟨fun p hp => (dis_ok hall (ht _) _ (dAt_mem hp)).1, fun p hp => (dis_ok hall (ht _) _ (dAt_mem hp)).2.1, fun p hp => (dis_ok hall (ht _) _ (dAt_mem hp)).2.2.1,
    fun S hS p hp => (dis_ok hS (ht _) _ (dAt_mem hp)).2.2.2, pwOk_at h2, fun p hp e he hb => ?_, fun i hi => ?_, fun p hp hk => ?_⟩
  · rcases topoOk_at h1 p hp e he hb with h | h
    · cases h
    · exact h
  · have := h3 i (List.mem_range.2 hi)
    rw [memL_iff, List.mem_map] at this
    obtain ⟨d, hd, e⟩ := this
    obtain ⟨p, hp, e'⟩ := mem_dAt hd
    exact ⟨p, hp, by rw [e']; exact e⟩
  · have hf : (dis E ops [] l).any (fun d => Nat.beq d.k 4) = true := List.any_eq_true.2 ⟨_, dAt_mem hp, beq_iff.2 hk⟩
    rw [hf] at h4
    cases h4

/-! what was carried out -/
theorem stepK_eq {call : Call} {ck : CK} {t : T} {h : HS} : stepK call ck t h = stepC call ck t h := by
  cases ck with
  | pure f => simp only [stepK, stepC]; cases f t <;> rfl
  | read f => simp only [stepK, stepC]; cases f t h <;> rfl
  | alloc f => simp only [stepK, stepC]; cases f t <;> rfl
  | eff f => rfl
  | call f =>
    simp only [stepK, stepC]
    cases f t with
    | none => rfl
    | some fa =>
      show Cs.rec (motive := fun _ => Option VH) _ _ ((call fa.f).out fa.a h) = _
      simp only [Option.bind_some]
      cases (call fa.f).out fa.a h <;> rfl
  | bad => rfl

/-- one operation was carried out, or passed over -/
def StepAt (E : Env) (call : Call) (nt : Nat) (ops : List Oper) (o : Oper) (t : T) (h : HS) (w : Bool) (v : V) (h1 : HS) : Prop :=
  dstOk nt o.dst = true ∧ h.c ≤ h1.c ∧
  ((w = true ∧ (∀ f, wantC ops o.guard = some f → f t = some true) ∧ stepC call (comp E o) t h = some ⟨v, h1⟩) ∨
   (w = false ∧ v = undefV ∧ h1 = h ∧ ∃ f, wantC ops o.guard = some f ∧ f t = some false))

def TrR (E : Env) (call : Call) (nt : Nat) (ops : List Oper) : List DI → T → HS → List Ent → T → HS → Prop
  | [], t, h, tr, t', h' => tr = [] ∧ t = t' ∧ h = h'
  | d :: l, t, h, tr, t', h' => ∃ w v h1 tr', tr = ⟨d.o, t, h, w, v⟩ :: tr' ∧ StepAt E call nt ops d.o t h w v h1 ∧ TrR E call nt ops l ((setC d.o.dst).out t v) h1 tr' t' h'

theorem compD_run {call : Call} {nt fn rid : Nat} {ops : List Oper} {fin : List Ent → HS → Bool} : ∀ {l : List DI} {t t' : T} {h h' : HS} {s : List Ent} {x : Nat}, (compD E call nt fn rid ops fin l).out t h s = .ok x t' h' →
    x = 0 ∧ ∃ tr, TrR E call nt ops l t h tr t' h' ∧ fin (tr.reverse ++ s) h' = true
  | [], t, t', h, h', s, x, hr => by
    unfold compD at hr
    have hr : bi (fin s h) (.ok 0 t h) (.bad fn rid 99990) = Rs.ok x t' h' := hr
    rw [bi_if] at hr
    split at hr
    · rename_i hf; cases hr; exact ⟨rfl, [], ⟨rfl, rfl, rfl⟩, hf⟩
    · cases hr
  | d :: l, t, t', h, h', s, x, hr => by
    unfold compD at hr
    rw [KF.out_bi, bi_if] at hr
    split at hr
    · rename_i hd
      rw [KF.app_eq, KF.app_eq, KF.app_eq, KF.out_mk] at hr
      have go : Option.rec (motive := fun _ => Rs) (.bad fn rid d.i) (fun vh => VH.rec (motive := fun _ => Rs) (fun v h' => bi (Nat.ble h.c h'.c) ((compD E call nt fn rid ops fin l).out ((setC d.o.dst).out t v) h' (⟨d.o, t, h, true, v⟩ :: s)) (.bad fn rid d.i)) vh) (stepK call (comp E d.o) t h) = Rs.ok x t' h' →
          (∀ f, wantC ops d.o.guard = some f → f t = some true) →
          x = 0 ∧ ∃ tr, TrR E call nt ops (d :: l) t h tr t' h' ∧ fin (tr.reverse ++ s) h' = true := by
        intro hr hw
        rw [stepK_eq] at hr
        cases hst : stepC call (comp E d.o) t h with
        | none => rw [hst] at hr; cases hr
        | some vh =>
          rw [hst] at hr
          obtain ⟨v, h1⟩ := vh
          have hr : bi (Nat.ble h.c h1.c) ((compD E call nt fn rid ops fin l).out ((setC d.o.dst).out t v) h1 (⟨d.o, t, h, true, v⟩ :: s)) (.bad fn rid d.i) = Rs.ok x t' h' := hr
          rw [bi_if] at hr
          split at hr
          · rename_i hb
            obtain ⟨hx, tr, h2, h3⟩ := compD_run hr
            refine ⟨hx, _ :: tr, ⟨true, v, h1, tr, rfl, ⟨hd, ble_iff.1 hb, .inl ⟨rfl, hw, hst⟩⟩, h2⟩, ?_⟩
            rw [List.reverse_cons, List.append_assoc]; exact h3
          · cases hr
      cases hw : wantC ops d.o.guard with
      | none =>
        simp only [hw, KF.out_mk] at hr
        exact go hr fun f hf => by rw [hw] at hf; cases hf
      | some f =>
        simp only [hw, KF.out_mk] at hr
        cases hf : f t with
        | none => rw [hf] at hr; cases hr
        | some b =>
          rw [hf] at hr
          cases b with
          | true => exact go hr fun g hg => by rw [hw] at hg; cases hg; exact hf
          | false =>
            have hr : (compD E call nt fn rid ops fin l).out ((setC d.o.dst).out t undefV) h (⟨d.o, t, h, false, undefV⟩ :: s) = Rs.ok x t' h' := hr
            obtain ⟨hx, tr, h2, h3⟩ := compD_run hr
            refine ⟨hx, _ :: tr, ⟨false, undefV, h, tr, rfl, ⟨hd, Nat.le_refl _, .inr ⟨rfl, rfl, rfl, f, hw, hf⟩⟩, h2⟩, ?_⟩
            rw [List.reverse_cons, List.append_assoc]; exact h3
    · cases hr

def tAt (tr : List Ent) (t : T) (q : Nat) : T := match tr[q]? with
  | some e => e.t
  | none => t

theorem TrR.at {call : Call} {nt : Nat} {ops : List Oper} : ∀ {l : List DI} {t t' : T} {h h' : HS} {tr : List Ent}, TrR E call nt ops l t h tr t' h' →
    tr.length = l.length ∧ tAt tr t' 0 = t ∧ hAt tr h' 0 = h ∧ ∀ p, p < l.length → ∃ e, tr[p]? = some e ∧ e.o = (dAt l p).o ∧ StepAt E call nt ops e.o e.t e.h e.w e.v (hAt tr h' (p + 1)) ∧ tAt tr t' (p + 1) = (setC e.o.dst).out e.t e.v
  | [], t, t', h, h', tr, hr => by obtain ⟨rfl, rfl, rfl⟩ := hr; exact ⟨rfl, rfl, rfl, fun p hp => by cases hp⟩
  | d :: l, t, t', h, h', tr, hr => by
    obtain ⟨w, v, h1, tr', rfl, hs, hr⟩ := hr
    obtain ⟨h2, h3, h4, h5⟩ := TrR.at hr
    refine ⟨by simp [h2], rfl, rfl, fun p hp => ?_⟩
    have et : ∀ q, tAt (⟨d.o, t, h, w, v⟩ :: tr') t' (q + 1) = tAt tr' t' q := fun q => by simp [tAt]
    have eh : ∀ q, hAt (⟨d.o, t, h, w, v⟩ :: tr') h' (q + 1) = hAt tr' h' q := fun q => by simp [hAt]
    cases p with
    | zero => exact ⟨_, rfl, by rw [dAt_zero], by rw [eh, h4]; exact hs, by rw [et, h3]⟩
    | succ p =>
      obtain ⟨e, e1, e2, e3, e4⟩ := h5 p (by simpa using hp)
      exact ⟨e, by simpa using e1, by rw [dAt_cons]; exact e2, by rw [eh]; exact e3, by rw [et]; exact e4⟩
end Go.AE

namespace Go.AE
open Go Go.RowKit

variable {P : Program} {E : Env} {B : Nat} {w0 : World}

/-- all that is known of a drawn region that was carried out in one order -/
structure Cx (E : Env) (call : Call) (nt : Nat) (ops : List Oper) (ds : List DI) (tt : Nat → T) (hh : Nat → HS) (ww : Nat → Bool) (vv : Nat → V) : Prop where
  dok : DOK E ops ds
  step : ∀ p, p < ds.length → StepAt E call nt ops (dAt ds p).o (tt p) (hh p) (ww p) (vv p) (hh (p + 1))
  next : ∀ p, p < ds.length → tt (p + 1) = (setC (dAt ds p).o.dst).out (tt p) (vv p)
  fresh : ∀ p r, p ≤ r → r < ds.length → (dAt ds r).k = 2 → (hh p).get (hh r).c = none
  reads : ∀ j q, j < ds.length → (dAt ds j).k = 1 → ww j = true → q ≤ ds.length → (q = ds.length ∨ (dAt ds q).k = 3) → possible ds j q = true → lexical ds j q = false →
    ∃ f, comp E (dAt ds j).o = .read f ∧ f (tt j) (hh q) = some (vv j)

/-- the block that is made there -/
noncomputable def blkAt (E : Env) (ds : List DI) (tt : Nat → T) (hh : Nat → HS) (ww : Nat → Bool) (p : Nat) : Option Blk := match comp E (dAt ds p).o with
  | .alloc f => (match ww p with
    | true => (f (tt p)).map fun bf => bf.b (hh p).c
    | false => none)
  | _ => none
/-- the blocks that are made from p on -/
noncomputable def xAt (E : Env) (ds : List DI) (tt : Nat → T) (hh : Nat → HS) (ww : Nat → Bool) : Nat → Nat → Nat → Option Blk
  | 0, _, _ => none
  | k + 1, p, id => match blkAt E ds tt hh ww p with
    | some b => if id = (hh p).c then some b else xAt E ds tt hh ww k (p + 1) id
    | none => xAt E ds tt hh ww k (p + 1) id
noncomputable def oAt (E : Env) (ds : List DI) (tt : Nat → T) (hh : Nat → HS) (ww : Nat → Bool) (p : Nat) : Nat → Option Blk := over (hh p).fn (xAt E ds tt hh ww (ds.length - p) p)

section
variable {call : Call} {nt : Nat} {ops : List Oper} {ds : List DI} {tt : Nat → T} {hh : Nat → HS} {ww : Nat → Bool} {vv : Nat → V}

theorem Cx.mono (cx : Cx E call nt ops ds tt hh ww vv) {p q : Nat} (h : p ≤ q) (hq : q ≤ ds.length) : (hh p).c ≤ (hh q).c := by
  induction q with
  | zero => have : p = 0 := by omega
            subst this; exact Nat.le_refl _
  | succ q ih =>
    by_cases e : p = q + 1
    · subst e; exact Nat.le_refl _
    · exact Nat.le_trans (ih (by omega) (by omega)) (cx.step q (by omega)).2.1

theorem xAt_some {b : Blk} {id : Nat} : ∀ {k p : Nat}, xAt E ds tt hh ww k p id = some b → ∃ r, p ≤ r ∧ r < p + k ∧ blkAt E ds tt hh ww r = some b ∧ id = (hh r).c
  | 0, p, h => by cases h
  | k + 1, p, h => by
    unfold xAt at h
    have ih := fun (h : xAt E ds tt hh ww k (p + 1) id = some b) => xAt_some h
    cases hb : blkAt E ds tt hh ww p with
    | none =>
      simp only [hb] at h
      obtain ⟨r, h1, h2, h3⟩ := ih h
      exact ⟨r, by omega, by omega, h3⟩
    | some b' =>
      simp only [hb] at h
      split at h
      · rename_i e; cases h; exact ⟨p, Nat.le_refl _, by omega, hb, e⟩
      · obtain ⟨r, h1, h2, h3⟩ := ih h
        exact ⟨r, by omega, by omega, h3⟩

/-- what making a block comes to -/
theorem Cx.alloc (cx : Cx E call nt ops ds tt hh ww vv) {p : Nat} (hp : p < ds.length) {b : Blk} (hb : blkAt E ds tt hh ww p = some b) :
    ∃ f bf, comp E (dAt ds p).o = .alloc f ∧ ww p = true ∧ f (tt p) = some bf ∧ b = bf.b (hh p).c ∧ vv p = bf.v (hh p).c ∧ (hh p).c < 16384 ∧ (hh (p + 1)).c = (hh p).c + 1 ∧
      ∀ j, (hh (p + 1)).fn j = if j = (hh p).c then some b else (hh p).fn j := by
  unfold blkAt at hb
  cases hc : comp E (dAt ds p).o with
  | alloc f =>
    simp only [hc] at hb
    cases hw : ww p with
    | false => simp only [hw] at hb; cases hb
    | true =>
      simp only [hw, Option.map_eq_some_iff] at hb
      obtain ⟨bf, hf, rfl⟩ := hb
      obtain ⟨_, _, ⟨_, _, hst⟩ | ⟨hw', _⟩⟩ := cx.step p hp
      · rw [hc] at hst
        simp only [stepC, hf, Option.bind_some] at hst
        obtain ⟨h1, h2, h3, h4⟩ := HS.new_eq hst
        exact ⟨f, bf, rfl, rfl, hf, rfl, h2, h1, h3, h4⟩
      · rw [hw] at hw'; cases hw'
  | _ => simp only [hc] at hb; cases hb

theorem Cx.blk_kind (cx : Cx E call nt ops ds tt hh ww vv) {p : Nat} (hp : p < ds.length) {b : Blk} (hb : blkAt E ds tt hh ww p = some b) : (dAt ds p).k = 2 := by
  obtain ⟨f, _, hc, _⟩ := cx.alloc hp hb
  rw [cx.dok.kind p hp, hc]; rfl

theorem Cx.xAt_at (cx : Cx E call nt ops ds tt hh ww vv) {r : Nat} {b : Blk} (hb : blkAt E ds tt hh ww r = some b) : ∀ {k p : Nat}, p ≤ r → r < p + k → p + k ≤ ds.length → xAt E ds tt hh ww k p (hh r).c = some b
  | 0, p, h1, h2, _ => by omega
  | k + 1, p, h1, h2, h3 => by
    unfold xAt
    by_cases e : p = r
    · subst e; simp [hb]
    · have ih := cx.xAt_at hb (k := k) (p := p + 1) (by omega) (by omega) (by omega)
      cases hb' : blkAt E ds tt hh ww p with
      | none => exact ih
      | some b' =>
        obtain ⟨_, _, _, _, _, _, _, _, hc, _⟩ := cx.alloc (by omega) hb'
        have := cx.mono (p := p + 1) (q := r) (by omega) (by omega)
        simp only []
        rw [if_neg (by omega)]; exact ih

/-- outside of the blocks to be made nothing is laid over -/
theorem Cx.sub (cx : Cx E call nt ops ds tt hh ww vv) {p id : Nat} (hp : p ≤ ds.length) (hx : xAt E ds tt hh ww (ds.length - p) p id ≠ none) : (hh p).fn id = none ∧ (hh 0).c ≤ id ∧ id < (hh ds.length).c ∧ (hh p).c ≤ id := by
  cases hx' : xAt E ds tt hh ww (ds.length - p) p id with
  | none => exact absurd hx' hx
  | some b =>
    obtain ⟨r, h1, h2, h3, rfl⟩ := xAt_some hx'
    have hr : r < ds.length := by omega
    obtain ⟨_, _, _, _, _, _, _, hlt, hc, _⟩ := cx.alloc hr h3
    have := cx.fresh p r h1 hr (cx.blk_kind hr h3)
    rw [HS.get_eq _ hlt] at this
    have := cx.mono (p := r + 1) (q := ds.length) (by omega) (Nat.le_refl _)
    exact ⟨by assumption, cx.mono (Nat.zero_le _) (by omega), by omega, cx.mono h1 (by omega)⟩

theorem Cx.part (cx : Cx E call nt ops ds tt hh ww vv) {p : Nat} (hp : p ≤ ds.length) {σ : Val} {w : World} (hr : HRel P B w0 σ (oAt E ds tt hh ww p) w) : HRel P B w0 σ (hh p).fn w := by
  refine hr.part fun id hid => ?_
  unfold oAt
  rw [over_none]
  cases hx : xAt E ds tt hh ww (ds.length - p) p id with
  | none => rfl
  | some b => exact absurd (cx.sub hp (by rw [hx]; simp)).1 hid

theorem Cx.noblk {p : Nat} (cx : Cx E call nt ops ds tt hh ww vv) (hp : p < ds.length) (hk : (dAt ds p).k ≠ 2) : blkAt E ds tt hh ww p = none := by
  cases hb : blkAt E ds tt hh ww p with
  | none => rfl
  | some b => exact absurd (cx.blk_kind hp hb) hk

theorem xAt_skip {p : Nat} (hp : p < ds.length) (hb : blkAt E ds tt hh ww p = none) : xAt E ds tt hh ww (ds.length - p) p = xAt E ds tt hh ww (ds.length - (p + 1)) (p + 1) := by
  rw [show ds.length - p = (ds.length - (p + 1)) + 1 by omega]
  funext id
  conv => lhs; unfold xAt
  simp only [hb]

/-- where no block is made and none is changed, nothing changes -/
theorem oAt_skip {p : Nat} (hp : p < ds.length) (hb : blkAt E ds tt hh ww p = none) (hh1 : hh (p + 1) = hh p) : oAt E ds tt hh ww (p + 1) = oAt E ds tt hh ww p := by
  unfold oAt
  rw [xAt_skip hp hb, hh1]

theorem Cx.o_step (cx : Cx E call nt ops ds tt hh ww vv) {p : Nat} (hp : p < ds.length) (hk : (dAt ds p).k ≠ 3) : oAt E ds tt hh ww (p + 1) = oAt E ds tt hh ww p := by
  have hkind := cx.dok.kind p hp
  obtain ⟨_, _, hst⟩ := cx.step p hp
  cases hb : blkAt E ds tt hh ww p with
  | none =>
    refine oAt_skip hp hb ?_
    rcases hst with ⟨hw, _, hst⟩ | ⟨_, _, h1, _⟩
    · cases hc : comp E (dAt ds p).o with
      | pure f => rw [hc] at hst; simp only [stepC, Option.map_eq_some_iff] at hst; obtain ⟨v, _, e⟩ := hst; exact (congrArg VH.h e).symm
      | read f => rw [hc] at hst; simp only [stepC, Option.map_eq_some_iff] at hst; obtain ⟨v, _, e⟩ := hst; exact (congrArg VH.h e).symm
      | alloc f =>
        rw [hc] at hst
        simp only [stepC, Option.bind_eq_some_iff] at hst
        obtain ⟨bf, hf, _⟩ := hst
        unfold blkAt at hb
        simp only [hc, hw, hf, Option.map_some] at hb
        cases hb
      | eff f => rw [hc] at hkind; exact absurd hkind hk
      | call f => rw [hc] at hkind; exact absurd hkind hk
      | bad => rw [hc] at hkind; exact absurd hkind (cx.dok.good p hp)
    · exact h1
  | some b =>
    obtain ⟨_, _, _, _, _, _, _, _, hc, hf⟩ := cx.alloc hp hb
    unfold oAt
    funext id
    rw [show ds.length - p = (ds.length - (p + 1)) + 1 by omega]
    by_cases e : id = (hh p).c
    · have hx : xAt E ds tt hh ww (ds.length - (p + 1) + 1) p id = some b := by
        unfold xAt; simp only [hb]; rw [if_pos e]
      rw [over_some hx]
      cases hx' : xAt E ds tt hh ww (ds.length - (p + 1)) (p + 1) id with
      | none => rw [over_none hx', hf, if_pos e]
      | some b' =>
        obtain ⟨r, h1, h2, _, h3⟩ := xAt_some hx'
        have := cx.mono (p := p + 1) (q := r) h1 (by omega)
        omega
    · have hx : xAt E ds tt hh ww (ds.length - (p + 1) + 1) p id = xAt E ds tt hh ww (ds.length - (p + 1)) (p + 1) id := by
        conv => lhs; unfold xAt
        simp only [hb]; rw [if_neg e]
      cases hx' : xAt E ds tt hh ww (ds.length - (p + 1)) (p + 1) id with
      | none => rw [over_none hx', over_none (hx.trans hx'), hf, if_neg e]
      | some b' => rw [over_some hx', over_some (hx.trans hx')]

theorem Cx.o_eq (cx : Cx E call nt ops ds tt hh ww vv) {p q : Nat} (hpq : p ≤ q) (hq : q ≤ ds.length) (h : ∀ r, p ≤ r → r < q → (dAt ds r).k ≠ 3) : oAt E ds tt hh ww q = oAt E ds tt hh ww p := by
  induction q with
  | zero => have : p = 0 := by omega
            subst this; rfl
  | succ q ih =>
    by_cases e : p = q + 1
    · subst e; rfl
    · rw [cx.o_step (by omega) (h q (by omega) (by omega))]
      exact ih (by omega) (by omega) fun r h1 h2 => h r h1 (by omega)

/-- the next effect -/
theorem next_eff (ds : List DI) (m : Nat) (hm : m ≤ ds.length) : ∃ q, m ≤ q ∧ q ≤ ds.length ∧ (q = ds.length ∨ (dAt ds q).k = 3) ∧ ∀ r, m ≤ r → r < q → (dAt ds r).k ≠ 3 := by
  have : ∀ j m, ds.length - m = j → m ≤ ds.length → ∃ q, m ≤ q ∧ q ≤ ds.length ∧ (q = ds.length ∨ (dAt ds q).k = 3) ∧ ∀ r, m ≤ r → r < q → (dAt ds r).k ≠ 3 := by
    intro j
    induction j with
    | zero => intro m h1 h2; exact ⟨m, Nat.le_refl _, h2, .inl (by omega), fun r h3 h4 => by omega⟩
    | succ j ih =>
      intro m h1 h2
      by_cases hk : (dAt ds m).k = 3
      · exact ⟨m, Nat.le_refl _, h2, .inr hk, fun r h3 h4 => by omega⟩
      · obtain ⟨q, a, b, c, d⟩ := ih (m + 1) (by omega) (by omega)
        refine ⟨q, by omega, b, c, fun r h3 h4 => ?_⟩
        by_cases e : r = m
        · subst e; exact hk
        · exact d r (by omega) h4
  exact this _ m rfl hm

/-! the temporaries -/
theorem setC_at {d : Option Tmp} {t : T} {v : V} {nt n : Nat} (hnt : nt ≤ 256) (hd : dstOk nt d = true) (hn : n < 256) : NT.at 8 ((setC d).out t v) n = if d = some n then some v else NT.at 8 t n := by
  cases d with
  | none => rw [if_neg (by simp)]; rfl
  | some d =>
    have hd : d < nt := ble_iff.1 hd
    have e : (setC (some d)).out t v = (tsetC (α := Option V) 8 d).out t (some v) := by
      show KF.out (KF.app (tsetC (α := Option V) 8 d) fun g => KF.mk fun t v => g t (some v)) t v = _
      rw [KF.app_eq]; rfl
    rw [e, tsetC_at 8 d t (some v) n (Nat.lt_of_lt_of_le hd hnt) hn]
    by_cases h : n = d
    · rw [if_pos h, if_pos (by rw [h])]
    · rw [if_neg h, if_neg (fun h' => h (by cases h'; rfl))]

theorem dst_ne {a b : DI} (h : pairOk a b = true) {d : Nat} (ha : a.o.dst = some d) : b.o.dst ≠ some d := by
  intro hb
  unfold pairOk at h
  rw [Bool.and_eq_true, Bool.and_eq_true] at h
  have := h.1.2
  simp only [dstEq, ha, hb] at this
  rw [beq_iff.2 rfl] at this
  cases this
theorem idx_ne {a b : DI} (h : pairOk a b = true) : a.i ≠ b.i := by
  intro e
  unfold pairOk at h
  rw [Bool.and_eq_true, Bool.and_eq_true] at h
  have := h.1.1
  rw [beq_iff.2 e] at this
  cases this
theorem pair_anc {a b : DI} (h : pairOk a b = true) (hc : (∃ d, a.o.dst = some d ∧ d ∈ b.looks) ∨ (∃ d, b.o.dst = some d ∧ d ∈ a.looks) ∨ (a.k = 3 ∧ b.k = 3)) : hasB b.m a.i = true := by
  unfold pairOk at h
  rw [Bool.and_eq_true, Bool.or_eq_true] at h
  rcases h.2 with h | h
  · exact h
  · exfalso
    have hb : (dstIn a.o.dst b.looks || dstIn b.o.dst a.looks || (Nat.beq a.k 3 && Nat.beq b.k 3)) = true := by
      rw [Bool.or_eq_true, Bool.or_eq_true, Bool.and_eq_true]
      rcases hc with ⟨d, h1, h2⟩ | ⟨d, h1, h2⟩ | ⟨h1, h2⟩
      · exact .inl (.inl (by rw [h1]; exact memL_iff.2 h2))
      · exact .inl (.inr (by rw [h1]; exact memL_iff.2 h2))
      · exact .inr ⟨beq_iff.2 h1, beq_iff.2 h2⟩
    rw [hb] at h
    cases h

theorem Cx.tt_dst (cx : Cx E call nt ops ds tt hh ww vv) (hnt : nt ≤ 256) {p d : Nat} (hd : (dAt ds p).o.dst = some d) : ∀ {q : Nat}, p < q → q ≤ ds.length → NT.at 8 (tt q) d = some (vv p)
  | 0, h, _ => by omega
  | q + 1, h, hq => by
    have hdk := (cx.step p (by omega)).1
    have hlt : d < 256 := by
      rw [hd] at hdk
      have : d < nt := ble_iff.1 hdk
      omega
    rw [cx.next q (by omega), setC_at hnt (cx.step q (by omega)).1 hlt]
    by_cases e : p = q
    · subst e; rw [if_pos hd]
    · rw [if_neg (dst_ne (cx.dok.pair p q (by omega) (by omega)) hd)]
      exact cx.tt_dst hnt hd (by omega) (by omega)

theorem Cx.tt_keep (cx : Cx E call nt ops ds tt hh ww vv) (hnt : nt ≤ 256) {d : Nat} (hd : d < 256) : ∀ {q : Nat}, q ≤ ds.length → (∀ p, p < q → (dAt ds p).o.dst ≠ some d) → NT.at 8 (tt q) d = NT.at 8 (tt 0) d
  | 0, _, _ => rfl
  | q + 1, hq, h => by
    rw [cx.next q (by omega), setC_at hnt (cx.step q (by omega)).1 hd, if_neg (h q (by omega))]
    exact cx.tt_keep hnt hd (by omega) fun p hp => h p (by omega)

/-- those temporaries alone at which an operation looks -/
noncomputable def view (t : NT (Option V) 8) (l : List Nat) : NT (Option V) 8 := l.foldr (fun n (a : NT (Option V) 8) => (tsetC (α := Option V) 8 (n % 256)).out a (NT.at 8 t (n % 256))) (NT.fill none 8)
theorem view_at {t : NT (Option V) 8} {n : Nat} (hn : n < 2 ^ 8) : ∀ {l : List Nat}, (∀ m ∈ l, m < 2 ^ 8) → NT.at 8 (view t l) n = if n ∈ l then NT.at 8 t n else none
  | [], _ => by rw [if_neg (by simp)]; exact NT.fill_at none 8 n
  | m :: l, h => by
    have hm := h m (List.mem_cons_self ..)
    have ih := view_at (t := t) hn (l := l) fun k hk => h k (List.mem_cons_of_mem _ hk)
    have e : view t (m :: l) = (tsetC (α := Option V) 8 m).out (view t l) (NT.at 8 t m) := by
      have e2 : m % 256 = m := Nat.mod_eq_of_lt hm
      show (tsetC (α := Option V) 8 (m % 256)).out (view t l) (NT.at 8 t (m % 256)) = _
      rw [e2]
    rw [e, tsetC_at 8 m _ _ n hm hn, ih]
    by_cases e : n = m
    · subst e; rw [if_pos rfl, if_pos (List.mem_cons_self ..)]
    · rw [if_neg e]
      by_cases hl : n ∈ l
      · rw [if_pos hl, if_pos (List.mem_cons_of_mem _ hl)]
      · rw [if_neg hl, if_neg (by simp [e, hl])]
end
end Go.AE

namespace Go.AE
open Go Go.RowKit

variable {P : Program} {E : Env} {B : Nat} {w0 : World}

theorem opdC_tmp (t : T) (n : Nat) : (opdC (.tmp n)).out t = if n < 256 then NT.at 8 t n else none := by
  show (bi (Nat.ble (Nat.succ n) 256) (tgetC (α := Option V) 8 n) (.mk fun _ => none)).out t = _
  rw [bi_if]
  by_cases h : n < 256
  · rw [if_pos (ble_iff.2 h), if_pos h]; exact tgetC_out 8 n t
  · rw [if_neg (fun h' => h (ble_iff.1 h')), if_neg h]; rfl

/-- what an operation sees -/
noncomputable def sight (t : NT (Option V) 8) (l : List Nat) : NT (Option V) 8 := view t (l.filter fun n => decide (n < 256))
theorem sight_at {t : NT (Option V) 8} {n : Nat} (hn : n < 256) {l : List Nat} : NT.at 8 (sight t l) n = if n ∈ l then NT.at 8 t n else none := by
  unfold sight
  rw [view_at hn (fun m hm => by simpa using (List.mem_filter.1 hm).2)]
  by_cases h : n ∈ l
  · rw [if_pos h, if_pos (List.mem_filter.2 ⟨h, by simpa using hn⟩)]
  · rw [if_neg h, if_neg (fun h' => h (List.mem_filter.1 h').1)]

theorem sight_opd {t : T} {l : List Nat} {n : Nat} (h : n ∈ l) : (opdC (.tmp n)).out (sight t l) = (opdC (.tmp n)).out t := by
  rw [opdC_tmp, opdC_tmp]
  by_cases hn : n < 256
  · rw [if_pos hn, if_pos hn, sight_at hn, if_pos h]
  · rw [if_neg hn, if_neg hn]

theorem sight_oper {ops : List Oper} {o : Oper} {t : T} : ∀ x ∈ o.op.operands, OpEq (sight t (looksOf ops o)) t x := by
  intro x hx
  unfold OpEq
  cases x with
  | tmp n => exact sight_opd (List.mem_append_left _ (List.mem_filterMap.2 ⟨.tmp n, by simpa using hx, rfl⟩))
  | const v => simp only [opdC]; cases cv v <;> rfl
  | global g => rfl
  | func f => rfl

theorem sight_want {ops : List Oper} {o : Oper} {t : T} {f : T → Option Bool} (hf : wantC ops o.guard = some f) : f (sight t (looksOf ops o)) = f t := by
  cases hg : o.guard with
  | none => rw [hg] at hf; cases hf
  | some gw =>
    obtain ⟨j, want⟩ := gw
    rw [hg] at hf
    unfold wantC at hf
    simp only [Option.some.injEq] at hf
    subst hf
    cases hj : ops[j]? with
    | none => rfl
    | some oj =>
      simp only
      cases hd : oj.dst with
      | none => rfl
      | some d =>
        simp only [KF.app_eq, KF.out_mk]
        rw [sight_opd]
        refine List.mem_append_right _ ?_
        rw [hg]
        simp only [hj, hd]
        exact List.mem_singleton.2 rfl

theorem St.drawn {σ : Val} {h : Nat → Option Blk} {c : Nat} {w : World} (hr : HRel P B w0 σ h w) (n : Nat) : St P B w0 σ h c w σ h c { w with drawn := n } :=
  ⟨Ext.refl _ _ _, ⟨hr.blk, hr.inj, hr.dom, hr.own, ⟨hr.keep.os, hr.keep.tape, hr.keep.output, hr.keep.size, hr.keep.block⟩, hr.base⟩, Nat.le_refl _, Nat.le_refl _, fun _ _ _ => rfl, fun id _ h1 h2 _ => ⟨id, h1, h2⟩, fun _ _ _ => rfl⟩

/-- which are carried out -/
def Listed (l : Array Bool) (i : Nat) : Prop := l.getD i false = true

/-- how it stands when some are carried out -/
structure Inv (P : Program) (E : Env) (B : Nat) (w0 : World) (nt : Nat) (ops : List Oper) (ds : List DI) (tt : Nat → T) (hh : Nat → HS) (ww : Nat → Bool) (vv : Nat → V)
    (σ0 : Val) (a0 : Act) (ws : World) (l : Array Bool) (a : Act) (w : World) (σ : Val) (q : Nat) : Prop where
  closed : ClosedS ops (Listed l)
  lsize : l.size = ops.length
  le : q ≤ ds.length
  eff : q = ds.length ∨ (dAt ds q).k = 3
  sep : ∀ r, r < ds.length → (dAt ds r).k = 3 → (r < q ↔ Listed l (dAt ds r).i)
  st : St P B w0 σ0 (hh 0).fn (hh 0).c ws σ (oAt E ds tt hh ww q) (hh ds.length).c w
  und : ∀ p, p < ds.length → ¬ Listed l (dAt ds p).i → Und σ (hh p).c (hh (p + 1)).c
  lie : ∀ p, p < ds.length → ¬ Listed l (dAt ds p).i → ∀ b, blkAt E ds tt hh ww p = some b → oAt E ds tt hh ww q (hh p).c = some b
  size : a.tmps.size = nt
  defers : a.defers = a0.defers
  got : ∀ p, p < ds.length → Listed l (dAt ds p).i → ∀ d, (dAt ds p).o.dst = some d → VR σ (vv p) (a.tmps.getD d undef)
  kept : ∀ d, (∀ p, p < ds.length → Listed l (dAt ds p).i → (dAt ds p).o.dst ≠ some d) → a.tmps.getD d undef = a0.tmps.getD d undef

section
variable {call : Call} {nt : Nat} {ops : List Oper} {ds : List DI} {tt : Nat → T} {hh : Nat → HS} {ww : Nat → Bool} {vv : Nat → V}
  {σ0 σ : Val} {a0 a : Act} {ws w : World} {l : Array Bool} {q : Nat}

theorem Cx.inj (cx : Cx E call nt ops ds tt hh ww vv) {p r : Nat} (hp : p < ds.length) (hr : r < ds.length) (h : (dAt ds p).i = (dAt ds r).i) : p = r := by
  by_cases e : p = r
  · exact e
  · exfalso
    by_cases hlt : p < r
    · exact idx_ne (cx.dok.pair p r hlt hr) h
    · exact idx_ne (cx.dok.pair r p (by omega) hp) h.symm

/-- what an operation that is ready sees is so -/
theorem Inv.sight (cx : Cx E call nt ops ds tt hh ww vv) (hnt : nt ≤ 256) (ht0 : TR σ0 nt (tt 0) a0) (iv : Inv P E B w0 nt ops ds tt hh ww vv σ0 a0 ws l a w σ q) {b : Nat} (hb : b < ds.length)
    (hnl : ¬ Listed l (dAt ds b).i) (hin : InEdges (Listed l) (dAt ds b).o) : TR σ nt (AE.sight (tt b) (looksOf ops (dAt ds b).o)) a := by
  refine ⟨iv.size, fun n v hn hv => ?_⟩
  rw [sight_at hn] at hv
  split at hv
  · rename_i hl
    rw [← cx.dok.looks b hb] at hl
    by_cases hex : ∃ p, p < b ∧ (dAt ds p).o.dst = some n
    · obtain ⟨p, hpb, hd⟩ := hex
      rw [cx.tt_dst hnt hd hpb (by omega)] at hv
      cases hv
      have hanc := pair_anc (cx.dok.pair p b hpb hb) (.inl ⟨n, hd, hl⟩)
      have hS := cx.dok.anc _ iv.closed b hb hin _ hanc
      have hdk := (cx.step p (by omega)).1
      rw [hd] at hdk
      exact ⟨ble_iff.1 hdk, iv.got p (by omega) hS n hd⟩
    · have hno : ∀ p, p < b → (dAt ds p).o.dst ≠ some n := fun p h1 h2 => hex ⟨p, h1, h2⟩
      rw [cx.tt_keep hnt hn (by omega) hno] at hv
      obtain ⟨h1, h2⟩ := ht0.tmp n v hn hv
      refine ⟨h1, ?_⟩
      rw [iv.kept n fun p hp hS hd => ?_]
      · exact h2.mono iv.st.ext.le
      · have hpb : b ≤ p := by
          by_cases h : p < b
          · exact absurd hd (hno p h)
          · omega
        by_cases e : p = b
        · subst e; exact hnl hS
        · have hanc := pair_anc (cx.dok.pair b p (by omega) hp) (.inr (.inl ⟨n, hd, hl⟩))
          exact hnl (cx.dok.anc _ iv.closed p hp (iv.closed _ _ hS (cx.dok.op p hp)) _ hanc)
  · cases hv

theorem listed_set {l : Array Bool} {i j : Nat} (hi : i < l.size) : Listed (l.setIfInBounds i true) j ↔ j = i ∨ Listed l j := by
  unfold Listed
  simp only [Array.getD_eq_getD_getElem?]
  by_cases e : j = i
  · subst e; simp [hi]
  · rw [Array.getElem?_setIfInBounds_ne (Ne.symm e)]; simp [e]

/-- the next state: temporaries and lists -/
theorem Inv.step (cx : Cx E call nt ops ds tt hh ww vv) (iv : Inv P E B w0 nt ops ds tt hh ww vv σ0 a0 ws l a w σ q) {b : Nat} (hb : b < ds.length)
    (hnl : ¬ Listed l (dAt ds b).i) (hin : InEdges (Listed l) (dAt ds b).o) {x : Value} {w' : World} {σ' : Val} {q' : Nat}
    (hle : q' ≤ ds.length) (heff : q' = ds.length ∨ (dAt ds q').k = 3) (hsep : ∀ r, r < ds.length → (dAt ds r).k = 3 → (r < q' ↔ r = b ∨ r < q))
    (hst : St P B w0 σ (oAt E ds tt hh ww q) (hh 0).c w σ' (oAt E ds tt hh ww q') (hh ds.length).c w')
    (hext : Ext σ σ' (hh b).c (hh (b + 1)).c)
    (hlie : ∀ p, p < ds.length → p ≠ b → ¬ Listed l (dAt ds p).i → ∀ k, blkAt E ds tt hh ww p = some k → oAt E ds tt hh ww q' (hh p).c = some k)
    (hv : VR σ' (vv b) x) : Inv P E B w0 nt ops ds tt hh ww vv σ0 a0 ws (l.setIfInBounds (dAt ds b).i true) (a.put (dAt ds b).o.dst x) w' σ' q' := by
  have hop := cx.dok.op b hb
  have hil : (dAt ds b).i < l.size := by rw [iv.lsize]; exact (List.getElem?_eq_some_iff.1 hop).1
  have hL := fun j => listed_set (j := j) hil
  have hLp : ∀ p, p < ds.length → (Listed (l.setIfInBounds (dAt ds b).i true) (dAt ds p).i ↔ p = b ∨ Listed l (dAt ds p).i) := fun p hp => by
    rw [hL]
    constructor
    · rintro (h | h)
      · exact .inl (cx.inj hp hb h)
      · exact .inr h
    · rintro (h | h)
      · subst h; exact .inl rfl
      · exact .inr h
  have apart : ∀ p, p < ds.length → p ≠ b → (hh (p + 1)).c ≤ (hh b).c ∨ (hh (b + 1)).c ≤ (hh p).c := fun p hp hne => by
    by_cases h : p < b
    · exact .inl (cx.mono (by omega) (by omega))
    · exact .inr (cx.mono (by omega) (by omega))
  have putd : ∀ d, (dAt ds b).o.dst ≠ some d → (a.put (dAt ds b).o.dst x).tmps.getD d undef = a.tmps.getD d undef := fun d hd => by
    cases h : (dAt ds b).o.dst with
    | none => rfl
    | some e =>
      rw [h] at hd
      have hne : e ≠ d := fun h => hd (by rw [h])
      simp [Act.put, Array.getElem?_setIfInBounds_ne hne]
  refine ⟨fun i o hi ho => ?_, by simp [iv.lsize], hle, heff, fun r hr hk => ?_, iv.st.thence hst, fun p hp hn => ?_, fun p hp hn k hk => ?_, ?_, ?_, fun p hp hS d hd => ?_, fun d hd => ?_⟩
  · rcases (hL i).1 hi with rfl | hi
    · rw [hop] at ho; cases ho
      exact fun e he hbd => (hL _).2 (.inr (hin e he hbd))
    · exact fun e he hbd => (hL _).2 (.inr (iv.closed i o hi ho e he hbd))
  · rw [hsep r hr hk, hLp r hr, iv.sep r hr hk]
  · have hne : p ≠ b := fun e => hn ((hLp p hp).2 (.inl e))
    have hu := iv.und p hp fun h => hn ((hLp p hp).2 (.inr h))
    have := apart p hp hne
    exact ⟨fun i h1 h2 => hext.blk i (hu.blk i h1 h2) (by omega), fun i h1 h2 => hext.cap i (hu.cap i h1 h2) (by omega), fun i h1 h2 => hext.opq i (hu.opq i h1 h2) (by omega)⟩
  · exact hlie p hp (fun e => hn ((hLp p hp).2 (.inl e))) (fun h => hn ((hLp p hp).2 (.inr h))) k hk
  · cases h : (dAt ds b).o.dst with
    | none => exact iv.size
    | some d => simp [Act.put, iv.size]
  · rw [put_defers]; exact iv.defers
  · rcases (hLp p hp).1 hS with rfl | hS1
    · have hdk := (cx.step p hp).1
      rw [hd] at hdk ⊢
      have hlt : d < a.tmps.size := by rw [iv.size]; exact ble_iff.1 hdk
      simpa [Act.put, hlt] using hv
    · have hne : p ≠ b := fun e => hnl (e ▸ hS1)
      rw [putd d fun h => ?_]
      · exact (iv.got p hp hS1 d hd).mono hst.ext.le
      · by_cases hlt : p < b
        · exact dst_ne (cx.dok.pair p b hlt hb) hd h
        · exact dst_ne (cx.dok.pair b p (by omega) hp) h hd
  · rw [putd d (hd b hb ((hLp b hb).2 (.inl rfl)))]
    exact iv.kept d fun p hp hS => hd p hp ((hLp p hp).2 (.inr hS))
end
end Go.AE

namespace Go.AE
open Go Go.RowKit

variable {P : Program} {E : Env} {B : Nat} {w0 : World}

section
variable {call : Call} {nt : Nat} {ops : List Oper} {ds : List DI} {tt : Nat → T} {hh : Nat → HS} {ww : Nat → Bool} {vv : Nat → V}
  {σ0 σ : Val} {a0 a : Act} {ws w : World} {l : Array Bool} {q : Nat}

theorem Inv.here (cx : Cx E call nt ops ds tt hh ww vv) (iv : Inv P E B w0 nt ops ds tt hh ww vv σ0 a0 ws l a w σ q) {b : Nat} (hb : b < ds.length)
    (hnl : ¬ Listed l (dAt ds b).i) (hin : InEdges (Listed l) (dAt ds b).o) (hk : (dAt ds b).k = 3) : q = b := by
  have h1 : ¬ b < q := fun h => hnl ((iv.sep b hb hk).1 h)
  rcases iv.eff with h | h
  · exfalso; omega
  · by_cases e : q = b
    · exact e
    · exfalso
      have hanc := pair_anc (cx.dok.pair q b (by omega) hb) (.inr (.inr ⟨h, hk⟩))
      have hS := cx.dok.anc _ iv.closed b hb hin _ hanc
      have := (iv.sep q (by omega) h).2 hS
      omega

/-- nothing changes but a value -/
theorem Inv.still (hE : EnvOK P E B w0) (hc : CallOK P B w0 call) (hen : Enters P call) (cx : Cx E call nt ops ds tt hh ww vv) (iv : Inv P E B w0 nt ops ds tt hh ww vv σ0 a0 ws l a w σ q) {b : Nat} (hb : b < ds.length)
    (hnl : ¬ Listed l (dAt ds b).i) (hin : InEdges (Listed l) (dAt ds b).o) (hk : (dAt ds b).k ≠ 3) {t : T} (ht : TR σ nt t a) {m : Nat} (hm : m ≤ ds.length) (hq : oAt E ds tt hh ww m = oAt E ds tt hh ww q)
    (hst : stepC call (comp E (dAt ds b).o) t (hh m) = some ⟨vv b, hh m⟩) {K : Act → World → Prop} {Q : Exit → Act → World → Prop}
    (hK : ∀ a' w' σ' q', Inv P E B w0 nt ops ds tt hh ww vv σ0 a0 ws (l.setIfInBounds (dAt ds b).i true) a' w' σ' q' → K a' w') : (dAt ds b).o.wp P a w K Q := by
  have hr : HRel P B w0 σ (hh m).fn w := cx.part hm (by rw [hq]; exact iv.st.rel)
  refine step_ok hc (fun f args w v h a0 h' => hen f args w v h a0 h') (comp_ok hE (dAt ds b).o) σ t a (hh m) w ⟨vv b, hh m⟩ ht hr ⟨fun i h1 h2 => ?_, fun i h1 h2 => ?_, fun i h1 h2 => ?_⟩ hst K Q fun x w' σ' hst' hv => ?_
  · exact absurd h2 (by simp only; omega)
  · exact absurd h2 (by simp only; omega)
  · exact absurd h2 (by simp only; omega)
  · have hov := St.over (X := xAt E ds tt hh ww (ds.length - m) m) (c := (hh 0).c) (c' := (hh ds.length).c) (fun id hx => ⟨(cx.sub hm hx).1, by simp only; omega, (cx.sub hm hx).2.1, (cx.sub hm hx).2.2.1⟩)
      (by have := iv.st.rel; rw [← hq] at this; exact this) hst' (cx.mono (Nat.zero_le _) hm) (cx.mono hm (Nat.le_refl _))
    have hov : St P B w0 σ (oAt E ds tt hh ww m) (hh 0).c w σ' (oAt E ds tt hh ww m) (hh ds.length).c w' := hov
    rw [hq] at hov
    exact hK _ _ σ' q (iv.step cx hb hnl hin iv.le iv.eff (fun r hr hrk => ⟨fun h => .inr h, fun h => h.elim (fun e => absurd hrk (e ▸ hk)) id⟩) hov
      ⟨hst'.ext.le, fun i h1 _ => hst'.ext.blk i h1 (by simp only; omega), fun i h1 _ => hst'.ext.cap i h1 (by simp only; omega), fun i h1 _ => hst'.ext.opq i h1 (by simp only; omega)⟩
      (fun p hp hne hnp k hbk => iv.lie p hp hnp k hbk) hv)

theorem possible_ok (cx : Cx E call nt ops ds tt hh ww vv) (iv : Inv P E B w0 nt ops ds tt hh ww vv σ0 a0 ws l a w σ q) {b : Nat} (hb : b < ds.length)
    (hnl : ¬ Listed l (dAt ds b).i) (hin : InEdges (Listed l) (dAt ds b).o) : possible ds b q = true := by
  unfold possible
  rw [List.all_eq_true]
  intro r hr
  have hr := List.mem_range.1 hr
  unfold isE
  rw [bi_if]
  by_cases hk : (dAt ds r).k = 3
  · rw [beq_iff.2 hk]
    by_cases hq : q ≤ r
    · rw [if_pos (ble_iff.2 hq)]
      cases hh' : hasB (dAt ds b).m (dAt ds r).i with
      | false => rfl
      | true =>
        have := (iv.sep r hr hk).2 (cx.dok.anc _ iv.closed b hb hin _ hh')
        omega
    · rw [if_neg (fun h => hq (ble_iff.1 h))]
      cases hh' : hasB (dAt ds r).m (dAt ds b).i with
      | false => rfl
      | true =>
        have hS := (iv.sep r hr hk).1 (by omega)
        exact absurd (cx.dok.anc _ iv.closed r hr (iv.closed _ _ hS (cx.dok.op r hr)) _ hh') hnl
  · rw [beq_false.2 hk]; rfl

theorem lexical_ok {b : Nat} (hq : q ≤ ds.length) (h : lexical ds b q = true) : b ≤ q ∧ ∀ r, b ≤ r → r < q → (dAt ds r).k ≠ 3 := by
  unfold lexical at h
  rw [Bool.and_eq_true, List.all_eq_true] at h
  refine ⟨ble_iff.1 h.1, fun r h1 h2 hk => ?_⟩
  have := h.2 r (List.mem_range.2 (by omega))
  unfold isE at this
  rw [beq_iff.2 hk, ble_iff.2 h1, ble_iff.2 h2] at this
  cases this

/-- one operation that may be next -/
theorem Inv.op {opsA : Array Oper} (hops : opsA.toList = ops) (hE : EnvOK P E B w0) (hc : CallOK P B w0 call) (hen : Enters P call) (hnt : nt ≤ 256) (cx : Cx E call nt ops ds tt hh ww vv) (ht0 : TR σ0 nt (tt 0) a0)
    (iv : Inv P E B w0 nt ops ds tt hh ww vv σ0 a0 ws l a w σ q) {b : Nat} (hb : b < ds.length)
    (hnl : ¬ Listed l (dAt ds b).i) (hin : InEdges (Listed l) (dAt ds b).o) {K : Act → World → Prop} {Q : Exit → Act → World → Prop}
    (hK : ∀ a' w' σ' q', Inv P E B w0 nt ops ds tt hh ww vv σ0 a0 ws (l.setIfInBounds (dAt ds b).i true) a' w' σ' q' → K a' w') : wpOp P opsA Q (dAt ds b).i K a w := by
  subst hops
  have hop := cx.dok.op b hb
  have hopA : opsA[(dAt ds b).i]? = some (dAt ds b).o := by rw [← hop]; simp
  have ht := iv.sight cx hnt ht0 hb hnl hin
  have hsee := comp_same (E := E) (call := call) (sight_oper (ops := opsA.toList) (o := (dAt ds b).o) (t := tt b))
  have hw := wantC_ok ht (ops := opsA.toList) (o := (dAt ds b).o)
  rw [Array.toArray_toList] at hw
  unfold wpOp
  simp only [hopA]
  obtain ⟨_, hcle, hstep⟩ := cx.step b hb
  have hkind := cx.dok.kind b hb
  -- the next effect, when an effect is passed
  rcases hstep with ⟨hwt, hwf, hst⟩ | ⟨hwt, hvu, hhu, f, hwf, hff⟩
  · have hwant : Region.wanted (dAt ds b).o (yielded opsA a.tmps) = true := by
      cases hg : wantC opsA.toList (dAt ds b).o.guard with
      | none => rw [hg] at hw; exact hw
      | some f =>
        rw [hg] at hw
        refine hw true ?_
        rw [sight_want (ops := opsA.toList) (o := (dAt ds b).o) (t := tt b) hg]
        exact hwf f hg
    rw [if_pos hwant]
    left
    cases hc' : comp E (dAt ds b).o with
    | pure f =>
      have hk1 : (dAt ds b).k = 0 := by rw [hkind, hc']; rfl
      rw [hc'] at hst hkind hsee
      refine iv.still hE hc hen cx hb hnl hin (by rw [hk1]; decide) ht iv.le rfl ?_ hK
      rw [hc', hsee (hh q)]
      simp only [stepC, Option.map_eq_some_iff] at hst ⊢
      obtain ⟨v, h1, h2⟩ := hst
      have h3 : v = vv b := congrArg VH.v h2
      exact ⟨v, h1, by rw [h3]⟩
    | read f =>
      have hk1 : (dAt ds b).k = 1 := by rw [hkind, hc']; rfl
      rw [hc'] at hst hkind hsee
      by_cases hlex : lexical ds b q = true
      · obtain ⟨h1, h2⟩ := lexical_ok iv.le hlex
        refine iv.still hE hc hen cx hb hnl hin (by rw [hk1]; decide) ht (m := b) (by omega) (cx.o_eq h1 iv.le h2).symm ?_ hK
        rw [hc', hsee (hh b)]
        simp only [stepC, Option.map_eq_some_iff] at hst ⊢
        obtain ⟨v, h1, h2⟩ := hst
        have h3 : v = vv b := congrArg VH.v h2
        exact ⟨v, h1, by rw [h3]⟩
      · obtain ⟨f', h1, h2⟩ := cx.reads b q hb hk1 hwt iv.le iv.eff (possible_ok cx iv hb hnl hin) (by simpa using hlex)
        rw [hc'] at h1
        cases h1
        refine iv.still hE hc hen cx hb hnl hin (by rw [hk1]; decide) ht iv.le rfl ?_ hK
        rw [hc', hsee (hh q)]
        simp only [stepC, h2, Option.map_some]
    | alloc f =>
      have hk1 : (dAt ds b).k = 2 := by rw [hkind, hc']; rfl
      have hst1 := (hsee (hh b)).trans hst
      rw [hc'] at hst1
      simp only [stepC, Option.bind_eq_some_iff] at hst1
      obtain ⟨bf, hbf, hn⟩ := hst1
      obtain ⟨hlt, ev, ec, hfn⟩ := HS.new_eq hn
      have hblk : blkAt E ds tt hh ww b = some (bf.b (hh b).c) := by
        rw [hc'] at hst
        have hst2 := hst
        simp only [stepC, Option.bind_eq_some_iff] at hst2
        obtain ⟨bf2, hbf2, hn2⟩ := hst2
        have h1 := (HS.new_eq hn2).2.2.2 (hh b).c
        have h2 := hfn (hh b).c
        rw [if_pos rfl] at h1 h2
        have h3 : bf2.b (hh b).c = bf.b (hh b).c := by
          have := h1.symm.trans h2
          exact Option.some.inj this
        unfold blkAt
        simp only [hc', hwt, hbf2, Option.map_some]
        rw [h3]
      have hck := comp_ok hE (P := P) (dAt ds b).o
      rw [hc'] at hck
      have hund := iv.und b hb hnl
      have ec' : (hh (b + 1)).c = (hh b).c + 1 := ec
      rw [ec'] at hund
      obtain ⟨x, w', σ', obj, hrun, hg, he, hbl, hbr, hv⟩ := hck σ nt _ a bf ht hbf w (hh b).c hund
      unfold Oper.wp
      rw [hrun]
      have hal := St.allocV iv.st.rel (iv.lie b hb hnl _ hblk) hlt hg he hbl hbr
      have hal := hal.widen (c := (hh 0).c) (c' := (hh ds.length).c) (cx.mono (Nat.zero_le _) (by omega)) (by rw [← ec']; exact cx.mono (by omega) (Nat.le_refl _))
      exact hK _ _ σ' q (iv.step cx hb hnl hin iv.le iv.eff (fun r hr hrk => ⟨fun h => .inr h, fun h => h.elim (fun e => by rw [e, hk1] at hrk; cases hrk) id⟩) hal
        (by rw [ec']; exact he) (fun p hp hne hnp k hbk => iv.lie p hp hnp k hbk) (by have ev : vv b = _ := ev; rw [ev]; exact hv))
    | bad => rw [hc'] at hkind; exact absurd hkind (cx.dok.good b hb)
    | _ =>
      have hk3 : (dAt ds b).k = 3 := by rw [hkind, hc']; rfl
      have hqb := iv.here cx hb hnl hin hk3
      subst hqb
      have hnb : blkAt E ds tt hh ww q = none := cx.noblk hb (by rw [hk3]; decide)
      have hsk := xAt_skip hb hnb
      obtain ⟨q', hq1, hq2, hq3, hq4⟩ := next_eff ds (q + 1) (by omega)
      have hst1 := (hsee (hh q)).trans hst
      refine step_ok hc (fun f args w v h a0 h' => hen f args w v h a0 h') (comp_ok hE (dAt ds q).o) σ _ a (hh q) w ⟨vv q, hh (q + 1)⟩ ht (cx.part iv.le iv.st.rel) (iv.und q hb hnl) hst1 K Q fun x w' σ' hst' hv => ?_
      have hov := St.over (X := xAt E ds tt hh ww (ds.length - (q + 1)) (q + 1)) (c := (hh 0).c) (c' := (hh ds.length).c)
        (fun id hx => ⟨(cx.sub iv.le (by rw [hsk]; exact hx)).1, .inr (cx.sub (p := q + 1) (by omega) hx).2.2.2, (cx.sub iv.le (by rw [hsk]; exact hx)).2.1, (cx.sub iv.le (by rw [hsk]; exact hx)).2.2.1⟩)
        (by have := iv.st.rel; unfold oAt at this; rw [hsk] at this; exact this) hst' (cx.mono (Nat.zero_le _) iv.le) (cx.mono (by omega) (Nat.le_refl _))
      have e1 : over (hh q).fn (xAt E ds tt hh ww (ds.length - (q + 1)) (q + 1)) = oAt E ds tt hh ww q := by unfold oAt; rw [hsk]
      have e2 : oAt E ds tt hh ww q' = oAt E ds tt hh ww (q + 1) := cx.o_eq hq1 hq2 hq4
      rw [e1] at hov
      have hov : St P B w0 σ (oAt E ds tt hh ww q) (hh 0).c w σ' (oAt E ds tt hh ww (q + 1)) (hh ds.length).c w' := hov
      rw [← e2] at hov
      refine hK _ _ σ' q' (iv.step cx hb hnl hin hq2 hq3 (fun r hr hrk => ?_) hov hst'.ext (fun p hp hne hnp k hbk => ?_) hv)
      · constructor
        · intro h
          by_cases e : q + 1 ≤ r
          · exact absurd hrk (hq4 r e h)
          · omega
        · intro h; omega
      · rw [e2]
        by_cases hpq : q < p
        · exact over_some (cx.xAt_at hbk (by omega) (by omega) (by omega))
        · obtain ⟨_, _, _, _, _, _, _, _, hcp, _⟩ := cx.alloc hp hbk
          have hm1 := cx.mono (p := p + 1) (q := q) (by omega) iv.le
          have hx : xAt E ds tt hh ww (ds.length - (q + 1)) (q + 1) (hh p).c = none := by
            cases hx : xAt E ds tt hh ww (ds.length - (q + 1)) (q + 1) (hh p).c with
            | none => rfl
            | some b' =>
              have := (cx.sub (p := q + 1) (by omega) (by rw [hx]; simp)).2.2.2
              have := cx.mono (p := q) (q := q + 1) (by omega) (by omega)
              omega
          have h1 := iv.lie p hp hnp k hbk
          unfold oAt at h1 ⊢
          rw [hsk, over_none hx] at h1
          rw [over_none hx, ← h1]
          exact hst'.virt _ ((iv.und p hp hnp).blk _ (Nat.le_refl _) (by omega)) (.inl (by omega))
  · have hwant : Region.wanted (dAt ds b).o (yielded opsA a.tmps) = false := by
      rw [hwf] at hw
      refine hw false ?_
      rw [sight_want (ops := opsA.toList) (o := (dAt ds b).o) (t := tt b) hwf]
      exact hff
    rw [if_neg (by rw [hwant]; simp)]
    have hnb : blkAt E ds tt hh ww b = none := by
      unfold blkAt
      rw [hwt]
      split <;> rfl
    have hundef : VR σ (vv b) undef := by rw [hvu]; exact undef_VR σ
    by_cases hk3 : (dAt ds b).k = 3
    · have hqb := iv.here cx hb hnl hin hk3
      subst hqb
      obtain ⟨q', hq1, hq2, hq3, hq4⟩ := next_eff ds (q + 1) (by omega)
      have e2 : oAt E ds tt hh ww q' = oAt E ds tt hh ww q := (cx.o_eq hq1 hq2 hq4).trans (oAt_skip hb hnb hhu)
      refine hK _ _ σ q' (iv.step cx hb hnl hin hq2 hq3 (fun r hr hrk => ?_) (by rw [e2]; exact (St.refl iv.st.rel).widen (Nat.le_refl _) (cx.mono (Nat.zero_le _) (Nat.le_refl _))) (Ext.refl _ _ _) (fun p hp hne hnp k hbk => ?_) hundef)
      · constructor
        · intro h
          by_cases e : q + 1 ≤ r
          · exact absurd hrk (hq4 r e h)
          · omega
        · intro h; omega
      · rw [e2]; exact iv.lie p hp hnp k hbk
    · exact hK _ _ σ q (iv.step cx hb hnl hin iv.le iv.eff (fun r hr hrk => ⟨fun h => .inr h, fun h => h.elim (fun e => absurd hrk (e ▸ hk3)) id⟩) ((St.refl iv.st.rel).widen (Nat.le_refl _) (cx.mono (Nat.zero_le _) (Nat.le_refl _)))
        (Ext.refl _ _ _) (fun p hp hne hnp k hbk => iv.lie p hp hnp k hbk) hundef)
end
end Go.AE

namespace Go.AE
open Go Go.RowKit

variable {P : Program} {E : Env} {B : Nat} {w0 : World}

theorem count_set : ∀ {l : List Bool} {i : Nat}, l[i]? = some false → (l.set i true).count false + 1 = l.count false
  | [], _, h => by cases h
  | b :: l, 0, h => by
    have h : b = false := by simpa using h
    subst h
    simp
  | b :: l, i + 1, h => by
    have := count_set (l := l) (i := i) (by simpa using h)
    rw [List.set_cons_succ, List.count_cons, List.count_cons]
    omega

section
variable {call : Call} {nt : Nat} {ops : List Oper} {ds : List DI} {tt : Nat → T} {hh : Nat → HS} {ww : Nat → Bool} {vv : Nat → V}
  {σ0 σ : Val} {a0 a : Act} {ws w : World} {l : Array Bool} {q : Nat}

/-- all are carried out -/
theorem Inv.done (hnt : nt ≤ 256) (cx : Cx E call nt ops ds tt hh ww vv) (ht0 : TR σ0 nt (tt 0) a0) (iv : Inv P E B w0 nt ops ds tt hh ww vv σ0 a0 ws l a w σ q)
    (hall : ∀ p, p < ds.length → Listed l (dAt ds p).i) : Post P B w0 nt a0.defers σ0 (hh 0) ws 0 (tt ds.length) (hh ds.length) .normal a w := by
  have hq : q = ds.length := by
    rcases iv.eff with h | h
    · exact h
    · by_cases e : q < ds.length
      · have := (iv.sep q e h).2 (hall q e); omega
      · have := iv.le; omega
  have ho : oAt E ds tt hh ww q = (hh ds.length).fn := by
    subst hq
    unfold oAt
    rw [Nat.sub_self]
    funext id
    exact over_none rfl
  have hst := iv.st
  rw [ho] at hst
  refine ⟨σ, rfl, ⟨iv.size, fun n v hn hv => ?_⟩, iv.defers, hst⟩
  by_cases hex : ∃ p, p < ds.length ∧ (dAt ds p).o.dst = some n
  · obtain ⟨p, hp, hd⟩ := hex
    rw [cx.tt_dst hnt hd hp (Nat.le_refl _)] at hv
    cases hv
    have hdk := (cx.step p hp).1
    rw [hd] at hdk
    exact ⟨ble_iff.1 hdk, iv.got p hp (hall p hp) n hd⟩
  · have hno : ∀ p, p < ds.length → (dAt ds p).o.dst ≠ some n := fun p h1 h2 => hex ⟨p, h1, h2⟩
    rw [cx.tt_keep hnt hn (Nat.le_refl _) hno] at hv
    obtain ⟨h1, h2⟩ := ht0.tmp n v hn hv
    refine ⟨h1, ?_⟩
    rw [iv.kept n fun p hp _ => hno p hp]
    exact h2.mono iv.st.ext.le

/-- while one is left, one is ready -/
theorem Inv.ready {opsA : Array Oper} (hops : opsA.toList = ops) (cx : Cx E call nt ops ds tt hh ww vv) (iv : Inv P E B w0 nt ops ds tt hh ww vv σ0 a0 ws l a w σ q)
    (hr : Region.ready .any opsA l = []) : ∀ p, p < ds.length → Listed l (dAt ds p).i := by
  intro p
  induction p using Nat.strongRecOn with
  | ind p ih =>
    intro hp
    cases hL : l.getD (dAt ds p).i false with
    | true => exact hL
    | false =>
      exfalso
      have hop := cx.dok.op p hp
      have hlt : (dAt ds p).i < l.size := by rw [iv.lsize]; exact (List.getElem?_eq_some_iff.1 hop).1
      have hmem : (dAt ds p).i ∈ Region.ready .any opsA l := by
        rw [mem_ready]
        refine ⟨?_, (dAt ds p).o, ?_, fun e he hb => ?_⟩
        · simp only [Array.getD_eq_getD_getElem?, Array.getElem?_eq_getElem hlt, Option.getD_some] at hL ⊢
          exact hL
        · rw [← hop, ← hops]; simp
        · obtain ⟨r, hr1, hr2⟩ := cx.dok.topo p hp e he hb
          have := ih r hr1 (by omega)
          rw [hr2] at this
          exact this
      rw [hr] at hmem
      cases hmem

theorem drawn_any {opsA : Array Oper} (hops : opsA.toList = ops) (hE : EnvOK P E B w0) (hc : CallOK P B w0 call) (hen : Enters P call) (hnt : nt ≤ 256) (cx : Cx E call nt ops ds tt hh ww vv) (ht0 : TR σ0 nt (tt 0) a0) :
    ∀ (fuel : Nat) (l : Array Bool) (a : Act) (w : World) (σ : Val) (q : Nat), Inv P E B w0 nt ops ds tt hh ww vv σ0 a0 ws l a w σ q → l.toList.count false ≤ fuel →
      wpAny P .any opsA (Post P B w0 nt a0.defers σ0 (hh 0) ws 0 (tt ds.length) (hh ds.length)) fuel l a w := by
  intro fuel
  induction fuel with
  | zero =>
    intro l a w σ q iv hcount
    have hcount : l.toList.count false = 0 := by omega
    have hno : Region.ready .any opsA l = [] := by
      cases hr : Region.ready .any opsA l with
      | nil => rfl
      | cons j js =>
        exfalso
        have hj : j ∈ Region.ready .any opsA l := by rw [hr]; exact List.mem_cons_self ..
        rw [mem_ready] at hj
        have h1 := hj.1
        by_cases hlt : j < l.size
        · simp only [Array.getD_eq_getD_getElem?, Array.getElem?_eq_getElem hlt, Option.getD_some] at h1
          have : false ∈ l.toList := by rw [← h1]; simp
          exact absurd this (List.count_eq_zero.1 hcount)
        · simp only [Array.getD_eq_getD_getElem?, Array.getElem?_eq_none (Nat.le_of_not_lt hlt), Option.getD_none] at h1
          cases h1
    exact ⟨hno, iv.done hnt cx ht0 (iv.ready hops cx hno)⟩
  | succ fuel ih =>
    intro l a w σ q iv hcount
    refine ⟨fun hno => iv.done hnt cx ht0 (iv.ready hops cx hno), fun i hi => ?_⟩
    rw [mem_ready] at hi
    obtain ⟨h1, o, ho, he⟩ := hi
    have ho' : ops[i]? = some o := by rw [← hops, ← ho]; simp
    have hlt : i < ops.length := (List.getElem?_eq_some_iff.1 ho').1
    have hlt' : i < l.size := by rw [iv.lsize]; exact hlt
    obtain ⟨b, hb, rfl⟩ := cx.dok.cover i hlt
    have hob := cx.dok.op b hb
    rw [ho'] at hob
    cases hob
    have hnl : ¬ Listed l (dAt ds b).i := by
      unfold Listed
      simp only [Array.getD_eq_getD_getElem?, Array.getElem?_eq_getElem hlt', Option.getD_some] at h1 ⊢
      rw [h1]; simp
    refine iv.op hops hE hc hen hnt cx ht0 hb hnl (fun e h2 h3 => he e h2 h3) fun a' w' σ' q' iv' => ih _ a' w' σ' q' iv' ?_
    have : l.toList[(dAt ds b).i]? = some false := by
      simp only [Array.getD_eq_getD_getElem?, Array.getElem?_eq_getElem hlt', Option.getD_some] at h1
      simp [hlt', h1]
    have := count_set this
    rw [Array.toList_setIfInBounds]
    omega
end

theorem drawn_cx {call : Call} {nt : Nat} {ops : List Oper} {ds : List DI} (hd : DOK E ops ds) {t t' : T} {h h' : HS} {tr : List Ent} (hr : TrR E call nt ops ds t h tr t' h') (hf : finD E ds tr.reverse h' = true) :
    ∃ tt hh ww vv, Cx E call nt ops ds tt hh ww vv ∧ tt 0 = t ∧ hh 0 = h ∧ tt ds.length = t' ∧ hh ds.length = h' := by
  obtain ⟨hlen, h0t, h0h, hat⟩ := hr.at
  unfold finD at hf
  rw [List.reverse_reverse, Bool.and_eq_true, List.all_eq_true, List.all_eq_true] at hf
  obtain ⟨hf1, hf2⟩ := hf
  have hAt_e : ∀ {p : Nat} {e : Ent}, tr[p]? = some e → hAt tr h' p = e.h := fun h => by simp [hAt, h]
  have tAt_e : ∀ {p : Nat} {e : Ent}, tr[p]? = some e → tAt tr t' p = e.t := fun h => by simp [tAt, h]
  refine ⟨tAt tr t', hAt tr h', fun p => (tr[p]?).elim false (·.w), fun p => (tr[p]?).elim undefV (·.v), ⟨hd, fun p hp => ?_, fun p hp => ?_, fun p r hpr hr' hk => ?_, fun j q hj hk hw hq hq' hpos hlex => ?_⟩, h0t, h0h, ?_, ?_⟩
  · obtain ⟨e, e1, e2, e3, e4⟩ := hat p hp
    rw [hAt_e e1, tAt_e e1]
    simp only [e1, Option.elim_some]
    rw [← e2]; exact e3
  · obtain ⟨e, e1, e2, e3, e4⟩ := hat p hp
    rw [tAt_e e1]
    simp only [e1, Option.elim_some]
    rw [← e2]; exact e4
  · have hm : r ∈ allocsOf ds := List.mem_filter.2 ⟨List.mem_range.2 hr', beq_iff.2 hk⟩
    have := hf2 r hm
    unfold freshAt at this
    rw [List.all_eq_true] at this
    have := this p (List.mem_range.2 (by omega))
    cases hg : (hAt tr h' p).get (hAt tr h' r).c with
    | none => rfl
    | some b => rw [hg] at this; cases this
  · have hm : (j, q) ∈ recheck ds := by
      unfold recheck
      rw [List.mem_flatMap]
      refine ⟨j, List.mem_range.2 hj, ?_⟩
      rw [beq_iff.2 hk]
      refine List.mem_filterMap.2 ⟨q, List.mem_range.2 (by omega), ?_⟩
      have hb : (Nat.beq q ds.length || isE ds q) = true := by
        rw [Bool.or_eq_true]
        rcases hq' with h | h
        · exact .inl (beq_iff.2 h)
        · exact .inr (beq_iff.2 h)
      rw [hb, hpos, hlex]
      rfl
    have := hf1 _ hm
    obtain ⟨e, e1, e2, e3, e4⟩ := hat j hj
    simp only [e1, Option.elim_some] at hw
    unfold rechk at this
    simp only [e1, hw] at this
    rw [tAt_e e1]
    simp only [e1, Option.elim_some]
    rw [← e2]
    cases hc : comp E e.o with
    | read f =>
      simp only [hc] at this
      refine ⟨f, rfl, ?_⟩
      cases hv : f e.t (hAt tr h' q) with
      | none => simp only [hv] at this; cases this
      | some v => simp only [hv] at this; rw [of_decide_eq_true this]
    | _ => simp only [hc] at this; cases this
  · simp [tAt, ← hlen]
  · simp [hAt, ← hlen]

/-- drawn regions are sound -/
theorem hdr_ok (hE : EnvOK P E B w0) : ∀ call, CallOK P B w0 call → Enters P call → ∀ nt, nt ≤ 256 → ∀ fn id ops, CodeOK P B w0 nt (compDrawn E call nt fn id (Array.toList ops)).out (.region id ops true) := by
  intro call hc hen nt hnt fn id ops
  have inv : ∀ {t t' : T} {h h' : HS} {x : Nat}, (compDrawn E call nt fn id ops.toList).out t h = .ok x t' h' →
      x = 0 ∧ ∃ ds tt hh ww vv, Cx E call nt ops.toList ds tt hh ww vv ∧ tt 0 = t ∧ hh 0 = h ∧ tt ds.length = t' ∧ hh ds.length = h' := by
    intro t t' h h' x hr
    have hr : (bi (drawnOk ops.toList (dis E ops.toList [] (topo ops.toList ops.toList.length [] (List.range ops.toList.length))))
      ((compD E call nt fn id ops.toList (finD E (dis E ops.toList [] (topo ops.toList ops.toList.length [] (List.range ops.toList.length)))) (dis E ops.toList [] (topo ops.toList ops.toList.length [] (List.range ops.toList.length)))).app fun k => KF.mk fun (t : T) (h : HS) => k t h [])
      (KF.mk fun _ _ => .bad fn id 99991)).out t h = .ok x t' h' := hr
    rw [KF.out_bi, bi_if] at hr
    split at hr
    · rename_i hd
      rw [KF.app_eq] at hr
      have hr : (compD E call nt fn id ops.toList (finD E (dis E ops.toList [] (topo ops.toList ops.toList.length [] (List.range ops.toList.length)))) (dis E ops.toList [] (topo ops.toList ops.toList.length [] (List.range ops.toList.length)))).out t h [] = .ok x t' h' := hr
      obtain ⟨hx, tr, h1, h2⟩ := compD_run hr
      rw [List.append_nil] at h2
      exact ⟨hx, _, drawn_cx (drawnOk_ok hd) h1 h2⟩
    · cases hr
  refine ⟨fun {D σ t t' a h h' w x} ht hdf hrel hu hrun => ?_, fun {t t' h h' x} hrun => ?_⟩
  · subst hdf
    obtain ⟨rfl, ds, tt, hh, ww, vv, cx, rfl, rfl, rfl, rfl⟩ := inv hrun
    refine wp_region_any hE.mixed ?_
    have hd := St.drawn (c := (hh 0).c) hrel (w.drawn + 1)
    obtain ⟨q, hq1, hq2, hq3, hq4⟩ := next_eff ds 0 (Nat.zero_le _)
    have hnot : ∀ i, ¬ Listed (Array.replicate ops.size false) i := fun i => by
      unfold Listed
      simp only [Array.getD_eq_getD_getElem?]
      by_cases h : i < ops.size <;> simp [h]
    have hq0 : oAt E ds tt hh ww q = oAt E ds tt hh ww 0 := cx.o_eq hq1 hq2 hq4
    have hx : ∀ id n, σ.blk id = some n → xAt E ds tt hh ww (ds.length - 0) 0 id = none := by
      intro id n hn
      cases hx : xAt E ds tt hh ww (ds.length - 0) 0 id with
      | none => rfl
      | some b =>
        have h1 := cx.sub (p := 0) (Nat.zero_le _) (by rw [hx]; simp)
        rw [hu.blk id h1.2.1 h1.2.2.1] at hn
        cases hn
    have live : ∀ id n, oAt E ds tt hh ww 0 id ≠ none → σ.blk id = some n → (hh 0).fn id ≠ none := by
      intro id n h1 h2
      unfold oAt at h1
      rw [over_none (hx id n h2)] at h1
      exact h1
    have hst : St P B w0 σ (hh 0).fn (hh 0).c w σ (oAt E ds tt hh ww q) (hh ds.length).c { w with drawn := w.drawn + 1 } := by
      rw [hq0]
      refine ⟨Ext.refl _ _ _, ⟨fun id b n h1 h2 => ?_, fun id id' n h1 h1' h2 h2' => hd.rel.inj id id' n (live id n h1 h2) (live id' n h1' h2') h2 h2', hd.rel.dom, fun id n h1 h2 => hd.rel.own id n (live id n h1 h2) h2, hd.rel.keep, hd.rel.base⟩,
        cx.mono (Nat.zero_le _) (Nat.le_refl _), Nat.le_refl _, fun _ _ _ => rfl, fun id n h1 h2 _ => ⟨id, live id n h1 h2, h2⟩, fun id h1 h2 => ?_⟩
      · unfold oAt at h1
        rw [over_none (hx id n h2)] at h1
        exact hd.rel.blk id b n h1 h2
      · cases hx : xAt E ds tt hh ww (ds.length - 0) 0 id with
        | none => unfold oAt; rw [over_none hx]
        | some b =>
          have h3 := cx.sub (p := 0) (Nat.zero_le _) (by rw [hx]; simp)
          omega
    have iv : Inv P E B w0 nt ops.toList ds tt hh ww vv σ a w (Array.replicate ops.size false) a { w with drawn := w.drawn + 1 } σ q :=
      ⟨fun i o hi => absurd hi (hnot i), by simp, hq2, hq3, fun r hr hk => ⟨fun h => absurd hk (hq4 r (Nat.zero_le _) h), fun h => absurd h (hnot _)⟩, hst,
        fun p hp _ => hu.sub (cx.mono (Nat.zero_le _) (by omega)) (cx.mono (by omega) (Nat.le_refl _)),
        fun p hp _ b hb => by
          rw [hq0]
          exact over_some (cx.xAt_at hb (Nat.zero_le _) (by omega) (by omega)),
        ht.size, rfl, fun p _ h => absurd h (hnot _), fun d _ => rfl⟩
    exact drawn_any rfl hE hc hen hnt cx ht ops.size _ a _ σ q iv (by rw [Array.toList_replicate]; exact Nat.le_trans List.count_le_length (by simp))
  · obtain ⟨_, ds, tt, hh, ww, vv, cx, rfl, rfl, rfl, rfl⟩ := inv hrun
    exact cx.mono (Nat.zero_le _) (Nat.le_refl _)
end Go.AE

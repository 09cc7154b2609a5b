/- Regions in order, code, loops and functions: sound. -/
import Derived.Test.YtlelnfcjghemhaaGreatDoorA4
import Derived.Tactics
import Derived.Scope
namespace Go.AE
open Go Go.RowKit

variable {P : Program} {E : Env} {B : Nat} {w0 : World}

/-- what a call of the evaluator means -/
def CallOK (P : Program) (B : Nat) (w0 : World) (call : Call) : Prop :=
  ∀ f σ a args h w v h', SR σ a args → HRel P B w0 σ h.fn w → Und σ h.c h'.c → (call f).out a h = .ok v h' →
    Calls P f args.toArray w fun e w' => match e with
      | .returned x => ∃ σ', St P B w0 σ h.fn h.c w σ' h'.fn h'.c w' ∧ VR σ' v x
      | _ => False

/-- how a piece of code is left -/
def exitN : Exit → Nat → Prop
  | .normal, n => n = 0
  | .ret, n => n = 1
  | .exit id, n => n = id + 2
  | _, _ => False

/-- a run of the evaluator is sound for a statement about exits -/
def RunOK (P : Program) (B : Nat) (w0 : World) (nt : Nat) (run : T → HS → Rs) (wp : (Exit → Act → World → Prop) → Act → World → Prop) : Prop :=
  ∀ σ t a h w x t' h', TR σ nt t a → a.defers = [] → HRel P B w0 σ h.fn w → Und σ h.c h'.c → run t h = .ok x t' h' →
    wp (fun e a' w' => ∃ σ', exitN e x ∧ TR σ' nt t' a' ∧ a'.defers = [] ∧ St P B w0 σ h.fn h.c w σ' h'.fn h'.c w') a w

/-! one operation -/

/-- is the operation carried out? -/
theorem wantC_ok {σ : Val} {nt : Nat} {t : T} {a : Act} (ht : TR σ nt t a) {ops : List Oper} {o : Oper} :
    match wantC ops o.guard with
    | none => Region.wanted o (yielded ops.toArray a.tmps) = true
    | some f => ∀ b, f t = some b → Region.wanted o (yielded ops.toArray a.tmps) = b := by
  cases hg : o.guard with
  | none => simp [wantC, Region.wanted, hg]
  | some gw =>
    obtain ⟨j, want⟩ := gw
    show ∀ b, _ → _
    intro b hb
    have hwd : Region.wanted o (yielded ops.toArray a.tmps) = (yielded ops.toArray a.tmps j == some want) := by simp [Region.wanted, hg]
    rw [hwd]
    cases hj : ops[j]? with
    | none => simp only [hj] at hb; cases hb
    | some oj =>
      simp only [hj] at hb
      cases hd : oj.dst with
      | none => simp only [hd] at hb; cases hb
      | some d =>
        simp only [hd, KF.app_eq] at hb
        have hb : ob ((opdC (.tmp d)).out t) (fun v => V.rec (motive := fun _ => Option Bool) (fun _ _ => none) (fun _ _ => none) (fun b => some (bi want b (notB b))) (fun _ => none) (fun _ => none) (fun _ _ => none) (fun _ _ => none) (fun _ _ _ _ _ => none)
          none (fun _ => none) (fun _ _ _ _ _ => none) (fun _ _ => none) (fun _ _ => some false) (fun _ => none) none (fun _ _ _ => none) (fun _ _ _ _ _ _ => none) v) = some b := hb
        simp only [ob_eq] at hb
        obtain ⟨v, hv, hb⟩ := hb
        have hx := opdC_ok ht hv
        have hsome : a.tmps[d]? = some (a.eval (.tmp d)) := by
          have h : (bi (Nat.ble (Nat.succ d) 256) (tgetC (α := Option V) 8 d) (.mk fun _ => none)).out t = some v := hv
          rw [bi_if] at h
          split at h
          · rename_i hn
            have hn : d < 256 := ble_iff.1 hn
            have e : (tgetC (α := Option V) 8 d).out t = NT.at 8 t d := tgetC_out 8 d t
            have := (ht.tmp d v hn (e.symm.trans h)).1
            rw [← ht.size] at this
            simp [Act.eval, this]
          · cases h
        have hy : yielded ops.toArray a.tmps j = match a.eval (.tmp d) with
          | .bool b => some b
          | _ => none := by
          unfold yielded
          simp only [List.getElem?_toArray, hj, Option.bind_some, hd, hsome]
          cases a.eval (.tmp d) <;> rfl
        rw [hy]
        cases v with
        | bool c =>
          rw [VR_bool hx]
          have hb : some (bi want c (notB c)) = some b := hb
          cases hb
          cases want <;> cases c <;> rfl
        | tup r =>
          obtain ⟨cs, _, e⟩ := VR_tup hx
          rw [e]
          have hb : some false = some b := hb
          cases hb
          rfl
        | _ => cases hb

/-- what is asked of the step of one operation -/
def StepOK (P : Program) (B : Nat) (w0 : World) (nt : Nat) (o : Oper) (step : T → HS → Option VH) : Prop :=
  ∀ σ t a h w vh, TR σ nt t a → HRel P B w0 σ h.fn w → Und σ h.c vh.h.c → step t h = some vh →
    ∀ (K : Act → World → Prop) (Q : Exit → Act → World → Prop), (∀ x w' σ', St P B w0 σ h.fn h.c w σ' vh.h.fn vh.h.c w' → VR σ' vh.v x → K (a.put o.dst x) w') → o.wp P a w K Q

noncomputable def stepC (call : Call) : CK → T → HS → Option VH
  | .pure f => fun t h => (f t).map fun v => VH.mk v h
  | .read f => fun t h => (f t h).map fun v => VH.mk v h
  | .alloc f => fun t h => (f t).bind fun bf => h.new (bf.b h.c) bf.v
  | .eff f => f
  | .call f => fun t h => (f t).bind fun fa => match (call fa.f).out fa.a h with
    | .ok v h' => some (VH.mk v h')
    | .bad _ _ _ => none
  | .bad => fun _ _ => none

theorem step_ok {call : Call} (hc : CallOK P B w0 call) {nt : Nat} {o : Oper} (henter : ∀ f args w, ∀ v h a0 h', (call f).out a0 h = .ok v h' → (callFunc f args).run P w = .ok (.enter f args) w) {ck : CK} (h : CKOK P B w0 o ck) :
    StepOK P B w0 nt o (stepC call ck) := by
  intro σ t a hs w vh ht hr hun hst K Q hK
  unfold Oper.wp
  cases ck with
  | pure f =>
    simp only [stepC, Option.map_eq_some_iff] at hst
    obtain ⟨v, hf, rfl⟩ := hst
    obtain ⟨x, hrun, hv⟩ := h σ nt t a v ht hf
    rw [hrun w]
    exact hK x w σ (St.refl hr) hv
  | read f =>
    simp only [stepC, Option.map_eq_some_iff] at hst
    obtain ⟨v, hf, rfl⟩ := hst
    obtain ⟨x, hrun, hv⟩ := h σ nt t a hs w v ht hr hf
    rw [hrun]
    exact hK x w σ (St.refl hr) hv
  | alloc f =>
    simp only [stepC, Option.bind_eq_some_iff] at hst
    obtain ⟨bf, hf, hn⟩ := hst
    obtain ⟨_, ev, ec, _⟩ := HS.new_eq hn
    obtain ⟨x, w', σ', obj, hrun, hg, he, hblk, hb, hv⟩ := h σ nt t a bf ht hf w hs.c (by rw [← ec]; exact hun)
    rw [hrun]
    exact hK x w' σ' (St.alloc hr hn hg he hblk hb) (by rw [ev]; exact hv)
  | eff f =>
    obtain ⟨x, w', σ', hrun | ⟨hrun, rfl⟩, hst', hv⟩ := h σ nt t a hs w vh ht hr hun hst <;> rw [hrun]
    · exact hK x w' σ' hst' hv
    · exact hK undef w' σ' hst' hv
  | call f =>
    simp only [stepC, Option.bind_eq_some_iff] at hst
    obtain ⟨fa, hf, hn⟩ := hst
    split at hn <;> cases hn
    rename_i v h' hcall
    obtain ⟨args, hargs, hrun⟩ := h σ nt t a fa ht hf
    rw [hrun, henter fa.f args w v hs fa.a h' hcall]
    have := hc fa.f σ fa.a args.toList hs w v h' hargs hr hun hcall
    simp only [Array.toArray_toList] at this
    refine Calls.mono this fun e w'' he => ?_
    cases e with
    | returned x => obtain ⟨σ', h1, h2⟩ := he; exact hK x w'' σ' h1 h2
    | panicked c => exact he.elim
    | outgrown => exact he.elim
  | bad => cases hst
end Go.AE

namespace Go.AE
open Go Go.RowKit

variable {P : Program} {E : Env} {B : Nat} {w0 : World}

/-- the run of one operation, as it stands in the evaluator -/
noncomputable def runC (call : Call) (fn rid i : Nat) (set : T → V → T) (k : T → HS → Rs) : CK → T → HS → Rs
  | .pure f => fun t h => Option.rec (motive := fun _ => Rs) (.bad fn rid i) (fun v => k (set t v) h) (f t)
  | .read f => fun t h => Option.rec (motive := fun _ => Rs) (.bad fn rid i) (fun v => k (set t v) h) (f t h)
  | .alloc f => fun t h => Option.rec (motive := fun _ => Rs) (.bad fn rid i) (fun vh => VH.rec (motive := fun _ => Rs) (fun v h => k (set t v) h) vh) (ob (f t) fun bf => h.new (bf.b h.c) bf.v)
  | .eff f => fun t h => Option.rec (motive := fun _ => Rs) (.bad fn rid i) (fun vh => VH.rec (motive := fun _ => Rs) (fun v h' => bi (Nat.ble h.c h'.c) (k (set t v) h') (.bad fn rid i)) vh) (f t h)
  | .call f => fun t h => Option.rec (motive := fun _ => Rs) (.bad fn rid i) (fun fa => Cs.rec (motive := fun _ => Rs) (fun v h' => bi (Nat.ble h.c h'.c) (k (set t v) h') (.bad fn rid i)) (fun a b c => .bad a b c) ((call fa.f).out fa.a h)) (f t)
  | .bad => fun _ _ => .bad fn rid i

theorem runC_ok {call : Call} {fn rid i : Nat} {set : T → V → T} {k : T → HS → Rs} {ck : CK} {t t' : T} {h h' : HS} {x : Nat} (hr : runC call fn rid i set k ck t h = .ok x t' h') :
    ∃ vh, stepC call ck t h = some vh ∧ h.c ≤ vh.h.c ∧ k (set t vh.v) vh.h = .ok x t' h' := by
  cases ck with
  | pure f =>
    simp only [runC] at hr
    cases hf : f t with
    | none => rw [hf] at hr; cases hr
    | some v => rw [hf] at hr; exact ⟨VH.mk v h, by simp [stepC, hf], Nat.le_refl _, hr⟩
  | read f =>
    simp only [runC] at hr
    cases hf : f t h with
    | none => rw [hf] at hr; cases hr
    | some v => rw [hf] at hr; exact ⟨VH.mk v h, by simp [stepC, hf], Nat.le_refl _, hr⟩
  | alloc f =>
    simp only [runC] at hr
    cases hf : f t with
    | none => rw [hf] at hr; cases hr
    | some bf =>
      rw [hf] at hr
      have e : ob (some bf) (fun bf => h.new (bf.b h.c) bf.v) = h.new (bf.b h.c) bf.v := rfl
      rw [e] at hr
      cases hn : h.new (bf.b h.c) bf.v with
      | none => rw [hn] at hr; cases hr
      | some vh =>
        rw [hn] at hr
        obtain ⟨_, _, ec, _⟩ := HS.new_eq hn
        exact ⟨vh, by simp [stepC, hf, hn], by omega, by cases vh; exact hr⟩
  | eff f =>
    simp only [runC] at hr
    cases hf : f t h with
    | none => rw [hf] at hr; cases hr
    | some vh =>
      rw [hf] at hr
      obtain ⟨v, h1⟩ := vh
      have hr : bi (Nat.ble h.c h1.c) (k (set t v) h1) (.bad fn rid i) = .ok x t' h' := hr
      rw [bi_if] at hr
      split at hr
      · rename_i hb; exact ⟨_, hf, ble_iff.1 hb, hr⟩
      · cases hr
  | call f =>
    simp only [runC] at hr
    cases hf : f t with
    | none => rw [hf] at hr; cases hr
    | some fa =>
      rw [hf] at hr
      cases hcl : (call fa.f).out fa.a h with
      | bad a b c =>
        have hr : Cs.rec (motive := fun _ => Rs) (fun v h' => bi (Nat.ble h.c h'.c) (k (set t v) h') (.bad fn rid i)) (fun a b c => .bad a b c) ((call fa.f).out fa.a h) = .ok x t' h' := hr
        rw [hcl] at hr; cases hr
      | ok v h1 =>
        have hr : Cs.rec (motive := fun _ => Rs) (fun v h' => bi (Nat.ble h.c h'.c) (k (set t v) h') (.bad fn rid i)) (fun a b c => .bad a b c) ((call fa.f).out fa.a h) = .ok x t' h' := hr
        rw [hcl] at hr
        have hr : bi (Nat.ble h.c h1.c) (k (set t v) h1) (.bad fn rid i) = .ok x t' h' := hr
        rw [bi_if] at hr
        split at hr
        · rename_i hb; exact ⟨VH.mk v h1, by simp [stepC, hf, hcl], ble_iff.1 hb, hr⟩
        · cases hr
  | bad => cases hr

theorem compOps_cons {call : Call} {nt fn rid i : Nat} {ops l : List Oper} {o : Oper} {t t' : T} {h h' : HS} {x : Nat} (hr : (compOps E call nt fn rid ops i (o :: l)).out t h = .ok x t' h') :
    dstOk nt o.dst = true ∧
    ((∃ f, wantC ops o.guard = some f ∧ f t = some false ∧ (compOps E call nt fn rid ops (i + 1) l).out ((setC o.dst).out t undefV) h = .ok x t' h') ∨
     ((∀ f, wantC ops o.guard = some f → f t = some true) ∧ ∃ vh, stepC call (comp E o) t h = some vh ∧ h.c ≤ vh.h.c ∧ (compOps E call nt fn rid ops (i + 1) l).out ((setC o.dst).out t vh.v) vh.h = .ok x t' h')) := by
  unfold compOps at hr
  rw [KF.out_bi, bi_if] at hr
  split at hr
  · rename_i hd
    refine ⟨hd, ?_⟩
    rw [KF.app_eq, KF.app_eq, KF.out_mk] at hr
    have hrun : ∀ t h, (match comp E o with
      | .pure f => fun (t : T) (h : HS) => Option.rec (motive := fun _ => Rs) (.bad fn rid i) (fun v => (compOps E call nt fn rid ops (i + 1) l).app fun k => k ((setC o.dst).out t v) h) (f t)
      | .read f => fun t h => Option.rec (motive := fun _ => Rs) (.bad fn rid i) (fun v => (compOps E call nt fn rid ops (i + 1) l).app fun k => k ((setC o.dst).out t v) h) (f t h)
      | .alloc f => fun t h => Option.rec (motive := fun _ => Rs) (.bad fn rid i) (fun vh => VH.rec (motive := fun _ => Rs) (fun v h => (compOps E call nt fn rid ops (i + 1) l).app fun k => k ((setC o.dst).out t v) h) vh) (ob (f t) fun bf => h.new (bf.b h.c) bf.v)
      | .eff f => fun t h => Option.rec (motive := fun _ => Rs) (.bad fn rid i) (fun vh => VH.rec (motive := fun _ => Rs) (fun v h' => bi (Nat.ble h.c h'.c) ((compOps E call nt fn rid ops (i + 1) l).app fun k => k ((setC o.dst).out t v) h') (.bad fn rid i)) vh) (f t h)
      | .call f => fun t h => Option.rec (motive := fun _ => Rs) (.bad fn rid i) (fun (fa : FA) => Cs.rec (motive := fun _ => Rs) (fun v h' => bi (Nat.ble h.c h'.c) ((compOps E call nt fn rid ops (i + 1) l).app fun k => k ((setC o.dst).out t v) h') (.bad fn rid i)) (fun a b c => .bad a b c) ((call fa.f).app fun g => g fa.a h)) (f t)
      | .bad => fun _ _ => .bad fn rid i) t h = runC call fn rid i (setC o.dst).out (compOps E call nt fn rid ops (i + 1) l).out (comp E o) t h := by
      intro t h
      cases comp E o <;> simp only [runC, KF.app_eq]
    cases hw : wantC ops o.guard with
    | none =>
      simp only [hw, KF.out_mk] at hr
      have hr := (hrun t h).symm.trans hr
      exact .inr ⟨(fun f hf => by cases hf), runC_ok hr⟩
    | some f =>
      simp only [hw] at hr
      have hr : Option.rec (motive := fun _ => Rs) (.bad fn rid i) (fun b => bi b (runC call fn rid i (setC o.dst).out (compOps E call nt fn rid ops (i + 1) l).out (comp E o) t h) ((compOps E call nt fn rid ops (i + 1) l).out ((setC o.dst).out t undefV) h)) (f t) = .ok x t' h' := by
        rw [← hr, ← hrun t h]
        simp only [KF.app_eq]
        rfl
      cases hf : f t with
      | none => rw [hf] at hr; cases hr
      | some b =>
        rw [hf] at hr
        have hr : bi b (runC call fn rid i (setC o.dst).out (compOps E call nt fn rid ops (i + 1) l).out (comp E o) t h) ((compOps E call nt fn rid ops (i + 1) l).out ((setC o.dst).out t undefV) h) = .ok x t' h' := hr
        cases b with
        | true => exact .inr ⟨(fun g hg => by cases hg; exact hf), runC_ok hr⟩
        | false => exact .inl ⟨f, rfl, hf, hr⟩
  · cases hr

theorem compOps_mono {call : Call} {nt fn rid : Nat} {ops : List Oper} : ∀ {l : List Oper} {i : Nat} {t t' : T} {h h' : HS} {x : Nat}, (compOps E call nt fn rid ops i l).out t h = .ok x t' h' → h.c ≤ h'.c ∧ x = 0
  | [], _, _, _, _, _, _, hr => by cases hr; exact ⟨Nat.le_refl _, rfl⟩
  | o :: l, i, t, t', h, h', x, hr => by
    obtain ⟨_, ⟨f, _, _, hk⟩ | ⟨_, vh, _, hle, hk⟩⟩ := compOps_cons hr
    · exact compOps_mono hk
    · have := compOps_mono hk
      exact ⟨Nat.le_trans hle this.1, this.2⟩
end Go.AE

namespace Go.AE
open Go Go.RowKit

variable {P : Program} {E : Env} {B : Nat} {w0 : World}

/-- the post of a run -/
def Post (P : Program) (B : Nat) (w0 : World) (nt : Nat) (D : List Deferred) (σ : Val) (h : HS) (w : World) (x : Nat) (t' : T) (h' : HS) (e : Exit) (a' : Act) (w' : World) : Prop :=
  ∃ σ', exitN e x ∧ TR σ' nt t' a' ∧ a'.defers = D ∧ St P B w0 σ h.fn h.c w σ' h'.fn h'.c w'

/-- every function that the evaluator can call is entered -/
def Enters (P : Program) (call : Call) : Prop := ∀ f args w v h a0 h', (call f).out a0 h = .ok v h' → (callFunc f args).run P w = .ok (.enter f args) w

theorem put_defers (a : Act) (d : Option Tmp) (v : Value) : (a.put d v).defers = a.defers := by cases d <;> rfl

theorem compOps_ok (hE : EnvOK P E B w0) {call : Call} (hc : CallOK P B w0 call) (hen : Enters P call) {nt fn rid : Nat} {D : List Deferred} (hnt : nt ≤ 256) {ops : List Oper} {σ0 : Val} {h0 : HS} {ws : World} {x : Nat} {t' : T} {h' : HS} :
    ∀ {l : List Oper} {i : Nat} {σ : Val} {t : T} {a : Act} {h : HS} {w : World}, TR σ nt t a → a.defers = D → St P B w0 σ0 h0.fn h0.c ws σ h.fn h.c w → Und σ h.c h'.c → (compOps E call nt fn rid ops i l).out t h = .ok x t' h' →
    wpList P ops.toArray (Post P B w0 nt D σ0 h0 ws x t' h') l a w
  | [], _, σ, _, _, _, _, ht, hd, hs, _, hr => by cases hr; exact ⟨σ, rfl, ht, hd, hs⟩
  | o :: l, i, σ, t, a, h, w, ht, hd, hs, hu, hr => by
    obtain ⟨hdst, hcases⟩ := compOps_cons hr
    have hw := wantC_ok ht (ops := ops) (o := o)
    unfold wpList
    rcases hcases with ⟨f, hf, hft, hk⟩ | ⟨hf, vh, hst, hle, hk⟩
    · rw [hf] at hw
      have := hw false hft
      rw [if_neg (by rw [this]; simp)]
      exact compOps_ok hE hc hen hnt (ht.put hnt hdst (undef_VR σ)) (by rw [put_defers]; exact hd) hs hu hk
    · have hwant : Region.wanted o (yielded ops.toArray a.tmps) = true := by
        cases hg : wantC ops o.guard with
        | none => rw [hg] at hw; exact hw
        | some f => rw [hg] at hw; exact hw true (hf f hg)
      rw [if_pos hwant]
      left
      have hmono := (compOps_mono hk).1
      have hstep := step_ok hc (nt := nt) (o := o) (fun f args w v h a0 h' => hen f args w v h a0 h') (comp_ok hE o)
      refine hstep σ t a h w vh ht hs.rel (hu.sub (Nat.le_refl _) hmono) hst _ _ fun y w' σ' hst' hv => ?_
      exact compOps_ok hE hc hen hnt ((ht.mono hst'.ext.le).put hnt hdst hv) (by rw [put_defers]; exact hd) (hs.trans hst') (hu.after hst'.ext hst'.le) hk

/-- a region in its order -/
theorem region_ok (hE : EnvOK P E B w0) {call : Call} (hc : CallOK P B w0 call) (hen : Enters P call) {nt fn id : Nat} {D : List Deferred} (hnt : nt ≤ 256) {ops : Array Oper} {σ : Val} {t t' : T} {a : Act} {h h' : HS} {w : World} {x : Nat}
    (ht : TR σ nt t a) (hd : a.defers = D) (hr : HRel P B w0 σ h.fn w) (hu : Und σ h.c h'.c) (hrun : (compOps E call nt fn id ops.toList 0 ops.toList).out t h = .ok x t' h') :
    (Code.region id ops false).wp P (Post P B w0 nt D σ h w x t' h') a w := by
  have := compOps_ok hE hc hen hnt (ops := ops.toList) ht hd (St.refl hr) hu hrun
  rw [Array.toArray_toList] at this
  exact wp_region_list this
end Go.AE

namespace Go.AE
open Go Go.RowKit

variable {P : Program} {E : Env} {B : Nat} {w0 : World}

/-- a run that is sound for a piece of code -/
structure CodeOK (P : Program) (B : Nat) (w0 : World) (nt : Nat) (g : T → HS → Rs) (c : Code) : Prop where
  sound : ∀ {D : List Deferred} {σ : Val} {t t' : T} {a : Act} {h h' : HS} {w : World} {x : Nat}, TR σ nt t a → a.defers = D → HRel P B w0 σ h.fn w → Und σ h.c h'.c → g t h = .ok x t' h' → c.wp P (Post P B w0 nt D σ h w x t' h') a w
  mono : ∀ {t t' : T} {h h' : HS} {x : Nat}, g t h = .ok x t' h' → h.c ≤ h'.c

theorem Post.trans {nt : Nat} {D : List Deferred} {σ σ1 : Val} {h h1 h' : HS} {w w1 : World} {x : Nat} {t' : T} {e : Exit} {a' : Act} {w' : World} (hs : St P B w0 σ h.fn h.c w σ1 h1.fn h1.c w1) (hp : Post P B w0 nt D σ1 h1 w1 x t' h' e a' w') :
    Post P B w0 nt D σ h w x t' h' e a' w' := by
  obtain ⟨σ', h1, h2, h3, h4⟩ := hp
  exact ⟨σ', h1, h2, h3, hs.trans h4⟩

theorem CodeOK.seq {nt : Nat} {g k : T → HS → Rs} {c d : Code} (hg : CodeOK P B w0 nt g c) (hk : CodeOK P B w0 nt k d) :
    CodeOK P B w0 nt (fun t h => Rs.rec (motive := fun _ => Rs) (fun x t h => bi (Nat.beq x 0) (k t h) (.ok x t h)) (fun a b c => .bad a b c) (g t h)) (.seq c d) := by
  have inv : ∀ {t t' : T} {h h' : HS} {x : Nat}, Rs.rec (motive := fun _ => Rs) (fun x t h => bi (Nat.beq x 0) (k t h) (.ok x t h)) (fun a b c => .bad a b c) (g t h) = .ok x t' h' →
      ∃ x1 t1 h1, g t h = .ok x1 t1 h1 ∧ ((x1 = 0 ∧ k t1 h1 = .ok x t' h') ∨ (x1 ≠ 0 ∧ x1 = x ∧ t1 = t' ∧ h1 = h')) := by
    intro t t' h h' x hr
    cases hgt : g t h with
    | bad a b c => rw [hgt] at hr; cases hr
    | ok x1 t1 h1 =>
      rw [hgt] at hr
      have hr : bi (Nat.beq x1 0) (k t1 h1) (.ok x1 t1 h1) = .ok x t' h' := hr
      rw [bi_if] at hr
      split at hr
      · rename_i h0; exact ⟨x1, t1, h1, rfl, .inl ⟨beq_iff.1 h0, hr⟩⟩
      · rename_i h0; cases hr; exact ⟨_, _, _, rfl, .inr ⟨fun e => h0 (beq_iff.2 e), rfl, rfl, rfl⟩⟩
  refine ⟨fun {D σ t t' a h h' w x} ht hd hr hu hrun => ?_, fun {t t' h h' x} hrun => ?_⟩
  · obtain ⟨x1, t1, h1, hgt, ⟨rfl, hkt⟩ | ⟨hne, rfl, rfl, rfl⟩⟩ := inv hrun
    · have m1 := hg.mono hgt
      have m2 := hk.mono hkt
      refine wp_seq (Code.wp_mono ?_ (hg.sound ht hd hr (hu.sub (Nat.le_refl _) m2) hgt))
      rintro e a1 w1 ⟨σ1, he, ht1, hd1, hs1⟩
      cases e <;> simp only [exitN] at he
      case normal =>
        exact Code.wp_mono (fun e a' w' hp => Post.trans hs1 hp) (hk.sound ht1 hd1 hs1.rel (hu.after hs1.ext hs1.le) hkt)
      all_goals first | exact he.elim | omega
    · refine wp_seq (Code.wp_mono ?_ (hg.sound ht hd hr hu hgt))
      rintro e a1 w1 hp
      have he := hp
      obtain ⟨σ1, he, _⟩ := he
      cases e with
      | normal => exact absurd he hne
      | _ => exact hp
  · obtain ⟨x1, t1, h1, hgt, ⟨rfl, hkt⟩ | ⟨hne, rfl, rfl, rfl⟩⟩ := inv hrun
    · exact Nat.le_trans (hg.mono hgt) (hk.mono hkt)
    · exact hg.mono hgt

theorem CodeOK.block {nt id : Nat} {g : T → HS → Rs} {c : Code} (hg : CodeOK P B w0 nt g c) :
    CodeOK P B w0 nt (fun t h => Rs.rec (motive := fun _ => Rs) (fun x t h => bi (Nat.beq x (id + 2)) (.ok 0 t h) (.ok x t h)) (fun a b c => .bad a b c) (g t h)) (.block id c) := by
  have inv : ∀ {t t' : T} {h h' : HS} {x : Nat}, Rs.rec (motive := fun _ => Rs) (fun x t h => bi (Nat.beq x (id + 2)) (.ok 0 t h) (.ok x t h)) (fun a b c => .bad a b c) (g t h) = .ok x t' h' →
      ∃ x1, g t h = .ok x1 t' h' ∧ ((x1 = id + 2 ∧ x = 0) ∨ (x1 ≠ id + 2 ∧ x1 = x)) := by
    intro t t' h h' x hr
    cases hgt : g t h with
    | bad a b c => rw [hgt] at hr; cases hr
    | ok x1 t1 h1 =>
      rw [hgt] at hr
      have hr : bi (Nat.beq x1 (id + 2)) (Rs.ok 0 t1 h1) (.ok x1 t1 h1) = .ok x t' h' := hr
      rw [bi_if] at hr
      split at hr <;> rename_i h0 <;> cases hr
      · exact ⟨x1, rfl, .inl ⟨beq_iff.1 h0, rfl⟩⟩
      · exact ⟨_, rfl, .inr ⟨fun e => h0 (beq_iff.2 e), rfl⟩⟩
  refine ⟨fun {D σ t t' a h h' w x} ht hd hr hu hrun => ?_, fun {t t' h h' x} hrun => ?_⟩
  · obtain ⟨x1, hgt, hx⟩ := inv hrun
    refine wp_block (Code.wp_mono ?_ (hg.sound ht hd hr hu hgt))
    rintro e a1 w1 ⟨σ1, he, hrest⟩
    rcases hx with ⟨rfl, rfl⟩ | ⟨hne, rfl⟩
    · cases e <;> simp only [exitN] at he
      case exit id' =>
        have : id' = id := by omega
        subst this
        simp only [Exit.inBlock, if_true]
        exact ⟨σ1, rfl, hrest⟩
      all_goals first | exact he.elim | omega
    · cases e <;> simp only [exitN] at he
      case exit id' =>
        have : id' ≠ id := by omega
        simp only [Exit.inBlock, if_neg this]
        exact ⟨σ1, he, hrest⟩
      case normal => exact ⟨σ1, he, hrest⟩
      case ret => exact ⟨σ1, he, hrest⟩
  · obtain ⟨x1, hgt, _⟩ := inv hrun
    exact hg.mono hgt
end Go.AE

namespace Go.AE
open Go Go.RowKit

variable {P : Program} {E : Env} {B : Nat} {w0 : World}

theorem exists_least (p : Nat → Prop) (h : ∃ n, p n) : ∃ n, p n ∧ ∀ m, p m → n ≤ m := by
  obtain ⟨n, hn⟩ := h
  induction n using Nat.strongRecOn with
  | _ n ih =>
    by_cases h : ∃ m, m < n ∧ p m
    · obtain ⟨m, hm, hp⟩ := h
      exact ih m hm hp
    · refine ⟨n, hn, fun m hm => ?_⟩
      rcases Nat.lt_or_ge m n with hlt | hge
      · exact absurd ⟨m, hlt, hm⟩ h
      · exact hge

open Classical in
noncomputable def least (p : Nat → Prop) : Nat := if h : ∃ n, p n then Classical.choose (exists_least p h) else 0
theorem least_spec {p : Nat → Prop} (h : ∃ n, p n) : p (least p) ∧ ∀ m, p m → least p ≤ m := by
  unfold least
  rw [dif_pos h]
  exact Classical.choose_spec (exists_least p h)

theorem loopRun_succ (g : T → HS → Rs) (n : Nat) (t : T) (h : HS) : loopRun g (n + 1) t h = Rs.rec (motive := fun _ => Rs) (fun x t h => bi (Nat.beq x 0) (loopRun g n t h) (.ok x t h)) (fun a b c => .bad a b c) (g t h) := rfl

theorem loopRun_inv {g : T → HS → Rs} {n : Nat} {t t' : T} {h h' : HS} {x : Nat} (hr : loopRun g (n + 1) t h = .ok x t' h') :
    ∃ x1 t1 h1, g t h = .ok x1 t1 h1 ∧ ((x1 = 0 ∧ loopRun g n t1 h1 = .ok x t' h') ∨ (x1 ≠ 0 ∧ x1 = x ∧ t1 = t' ∧ h1 = h')) := by
  rw [loopRun_succ] at hr
  cases hgt : g t h with
  | bad a b c => rw [hgt] at hr; cases hr
  | ok x1 t1 h1 =>
    rw [hgt] at hr
    have hr : bi (Nat.beq x1 0) (loopRun g n t1 h1) (.ok x1 t1 h1) = .ok x t' h' := hr
    rw [bi_if] at hr
    split at hr
    · rename_i h0; exact ⟨x1, t1, h1, rfl, .inl ⟨beq_iff.1 h0, hr⟩⟩
    · rename_i h0; cases hr; exact ⟨_, _, _, rfl, .inr ⟨fun e => h0 (beq_iff.2 e), rfl, rfl, rfl⟩⟩

theorem loopRun_mono {g : T → HS → Rs} (hg : ∀ {t t' : T} {h h' : HS} {x : Nat}, g t h = .ok x t' h' → h.c ≤ h'.c) : ∀ {n : Nat} {t t' : T} {h h' : HS} {x : Nat}, loopRun g n t h = .ok x t' h' → h.c ≤ h'.c
  | 0, _, _, _, _, _, hr => by cases hr
  | n + 1, t, t', h, h', x, hr => by
    obtain ⟨x1, t1, h1, hgt, ⟨_, hk⟩ | ⟨_, _, _, e⟩⟩ := loopRun_inv hr
    · exact Nat.le_trans (hg hgt) (loopRun_mono hg hk)
    · rw [← e]; exact hg hgt

theorem CodeOK.loop {nt n : Nat} {g : T → HS → Rs} {c : Code} (hg : CodeOK P B w0 nt g c) : CodeOK P B w0 nt (loopRun g n) (.loop c) := by
  refine ⟨fun {D σ t t' a h h' w x} ht hd hr hu hrun => ?_, loopRun_mono hg.mono⟩
  let J : Act → World → Nat → Prop := fun a1 w1 m => ∃ σ1 t1 h1, TR σ1 nt t1 a1 ∧ a1.defers = D ∧ St P B w0 σ h.fn h.c w σ1 h1.fn h1.c w1 ∧ Und σ1 h1.c h'.c ∧ loopRun g m t1 h1 = .ok x t' h'
  refine wp_loop (fun a1 w1 => ∃ m, J a1 w1 m) (fun a1 w1 => least (J a1 w1)) ⟨n, σ, t, h, ht, hd, St.refl hr, hu, hrun⟩ fun a1 w1 hI => ?_
  obtain ⟨hJ, hmin⟩ := least_spec hI
  show c.wp P (Exit.then (fun a' w' => (∃ m, J a' w' m) ∧ least (J a' w') < least (J a1 w1)) _) a1 w1
  generalize least (J a1 w1) = m at hJ hmin ⊢
  obtain ⟨σ1, t1, h1, ht1, hd1, hs1, hu1, hrun1⟩ := hJ
  cases m with
  | zero => cases hrun1
  | succ m =>
    obtain ⟨x1, t2, h2, hgt, ⟨rfl, hk⟩ | ⟨hne, rfl, rfl, rfl⟩⟩ := loopRun_inv hrun1
    · have m2 := loopRun_mono hg.mono hk
      refine Code.wp_mono ?_ (hg.sound ht1 hd1 hs1.rel (hu1.sub (Nat.le_refl _) m2) hgt)
      rintro e a2 w2 ⟨σ2, he, ht2, hd2, hs2⟩
      cases e <;> simp only [exitN] at he
      case normal =>
        have hJ2 : J a2 w2 m := ⟨σ2, t2, h2, ht2, hd2, hs1.trans hs2, hu1.after hs2.ext hs2.le, hk⟩
        have := (least_spec (p := J a2 w2) ⟨m, hJ2⟩).2 m hJ2
        exact ⟨⟨m, hJ2⟩, by omega⟩
      all_goals first | exact he.elim | omega
    · refine Code.wp_mono ?_ (hg.sound ht1 hd1 hs1.rel hu1 hgt)
      rintro e a2 w2 hp
      have he := hp
      obtain ⟨σ2, he, _⟩ := he
      cases e with
      | normal => exact absurd he hne
      | _ => exact Post.trans hs1 hp

theorem CodeOK.scope {nt : Nat} {g : T → HS → Rs} {c : Code} (hg : CodeOK P B w0 nt g c) : CodeOK P B w0 nt g (.scope c) := by
  refine ⟨fun {D σ t t' a h h' w x} ht hd hr hu hrun => ?_, hg.mono⟩
  refine wp_scope_straight (Code.wp_mono ?_ (hg.sound ht hd hr hu hrun))
  rintro e a1 w1 hp
  cases e with
  | goto l => obtain ⟨_, he, _⟩ := hp; exact he.elim
  | _ => exact hp

theorem CodeOK.cond {nt fn : Nat} {o : Operand} {g k : T → HS → Rs} {c d : Code} (hg : CodeOK P B w0 nt g c) (hk : CodeOK P B w0 nt k d) :
    CodeOK P B w0 nt (fun t h => Option.rec (motive := fun _ => Rs) (.bad fn 0 88888) (fun x => bi x (g t h) (k t h)) (ob ((opdC o).out t) fun v => onBool v some)) (.cond o c d) := by
  have inv : ∀ {t t' : T} {h h' : HS} {x : Nat}, Option.rec (motive := fun _ => Rs) (.bad fn 0 88888) (fun x => bi x (g t h) (k t h)) (ob ((opdC o).out t) fun v => onBool v some) = .ok x t' h' →
      ∃ b, (opdC o).out t = some (.bool b) ∧ (bi b (g t h) (k t h)) = .ok x t' h' := by
    intro t t' h h' x hr
    cases ho : (ob ((opdC o).out t) fun v => onBool v some) with
    | none => rw [ho] at hr; cases hr
    | some b =>
      rw [ho] at hr
      simp only [ob_eq, onBool_eq] at ho
      obtain ⟨v, hv, b', rfl, e⟩ := ho
      cases e
      exact ⟨b, hv, hr⟩
  refine ⟨fun {D σ t t' a h h' w x} ht hd hr hu hrun => ?_, fun {t t' h h' x} hrun => ?_⟩
  · obtain ⟨b, hb, hrun⟩ := inv hrun
    have hc := VR_bool (opdC_ok ht hb)
    refine wp_cond hc ?_
    cases b
    · exact hk.sound ht hd hr hu hrun
    · exact hg.sound ht hd hr hu hrun
  · obtain ⟨b, hb, hrun⟩ := inv hrun
    cases b
    · exact hk.mono hrun
    · exact hg.mono hrun
end Go.AE

namespace Go.AE
open Go Go.RowKit

variable {P : Program} {E : Env} {B : Nat} {w0 : World}

/-- the loops that are taken as a whole are sound -/
def LovOK (P : Program) (B : Nat) (w0 : World) (lov : LOv) (nt fn : Nat) : Code → Prop
  | .seq a b => LovOK P B w0 lov nt fn a ∧ LovOK P B w0 lov nt fn b
  | .cond _ a b => LovOK P B w0 lov nt fn a ∧ LovOK P B w0 lov nt fn b
  | .block _ b => LovOK P B w0 lov nt fn b
  | .scope b => LovOK P B w0 lov nt fn b
  | .loop b => (loopOv lov fn b).elim (LovOK P B w0 lov nt fn b) fun g => CodeOK P B w0 nt g (.loop b)
  | _ => True

theorem compCode_ok (hE : EnvOK P E B w0) {call : Call} (hc : CallOK P B w0 call) (hen : Enters P call) {lov : LOv} {nt fn : Nat} (hnt : nt ≤ 256)
    (hdr : ∀ id ops, CodeOK P B w0 nt (compDrawn E call nt fn id ops.toList).out (.region id ops true)) : ∀ (c : Code), LovOK P B w0 lov nt fn c → CodeOK P B w0 nt (compCode E call lov nt fn c).out c := by
  intro c
  induction c with
  | skip => exact fun _ => ⟨fun ht hd hr _ hrun => by cases hrun; exact wp_skip ⟨_, rfl, ht, hd, St.refl hr⟩, fun hrun => by cases hrun; exact Nat.le_refl _⟩
  | label => exact fun _ => ⟨fun ht hd hr _ hrun => by cases hrun; exact wp_label ⟨_, rfl, ht, hd, St.refl hr⟩, fun hrun => by cases hrun; exact Nat.le_refl _⟩
  | ret => exact fun _ => ⟨fun ht hd hr _ hrun => by cases hrun; exact wp_ret ⟨_, rfl, ht, hd, St.refl hr⟩, fun hrun => by cases hrun; exact Nat.le_refl _⟩
  | exit => exact fun _ => ⟨fun ht hd hr _ hrun => by cases hrun; exact wp_exit ⟨_, rfl, ht, hd, St.refl hr⟩, fun hrun => by cases hrun; exact Nat.le_refl _⟩
  | region id ops drawn =>
    intro _
    cases drawn with
    | false => exact ⟨fun ht hd hr hu hrun => region_ok hE hc hen hnt ht hd hr hu hrun, fun hrun => (compOps_mono hrun).1⟩
    | true => exact hdr id ops
  | seq a b iha ihb =>
    intro hl
    have := (iha hl.1).seq (ihb hl.2)
    unfold compCode
    simp only [KF.app_eq, KF.out_mk]
    exact this
  | cond o a b iha ihb =>
    intro hl
    have := CodeOK.cond (fn := fn) (o := o) (iha hl.1) (ihb hl.2)
    unfold compCode
    simp only [KF.app_eq, KF.out_mk]
    exact this
  | block id b ih =>
    intro hl
    have := CodeOK.block (id := id) (ih hl)
    unfold compCode
    simp only [KF.app_eq, KF.out_mk]
    exact this
  | loop b ih =>
    intro hl
    unfold LovOK at hl
    unfold compCode
    generalize loopOv lov fn b = g at hl ⊢
    cases g with
    | some g => exact hl
    | none =>
      have := CodeOK.loop (n := 1000000) (ih hl)
      simp only [KF.app_eq, KF.out_mk]
      exact this
  | scope b ih =>
    intro hl
    have := CodeOK.scope (ih hl)
    unfold compCode
    simp only [KF.app_eq, KF.out_mk]
    exact this
  | _ => exact fun _ => ⟨(fun _ _ _ _ hrun => by cases hrun), fun hrun => by cases hrun⟩
end Go.AE

namespace Go.AE
open Go Go.RowKit

variable {P : Program} {E : Env} {B : Nat} {w0 : World}

theorem bindC_succ (i n : Nat) (a : V) (t : T) : (bindC i (n + 1)).out a t = ob (a.get i) fun v => (bindC (i + 1) n).out a ((tsetC (α := Option V) 8 i).out t (some v)) := by
  show KF.out ((tsetC (α := Option V) 8 i).app fun s => (bindC (i + 1) n).app fun k => .mk fun a t => ob (a.get i) fun v => k a (s t (some v))) a t = _
  rw [KF.app_eq, KF.app_eq]
  rfl

/-- the parameters laid into the temporaries -/
theorem bindC_ok {σ : Val} {a : V} {args : List Value} {nt : Nat} (ha : SR σ a args) (hnt : nt ≤ 256) {act : Act} (hsz : act.tmps.size = nt) (hget : ∀ j x, args[j]? = some x → act.tmps.getD j undef = x) :
    ∀ {n i : Nat} {t t' : T}, i + n ≤ nt → TR σ nt t act → (bindC i n).out a t = some t' → TR σ nt t' act
  | 0, _, _, _, _, ht, h => by cases h; exact ht
  | n + 1, i, t, t', hle, ht, h => by
    rw [bindC_succ] at h
    simp only [ob_eq] at h
    obtain ⟨v, hv, h⟩ := h
    obtain ⟨x, hx, hvr⟩ := SR.get ha hv
    refine bindC_ok ha hnt hsz hget (by omega) ⟨hsz, fun m u hm hu => ?_⟩ h
    rw [tsetC_at 8 i t (some v) m (by show i < 256; omega) hm] at hu
    by_cases e : m = i
    · subst e
      rw [if_pos rfl] at hu
      cases hu
      exact ⟨by omega, by rw [hget m x hx]; exact hvr⟩
    · rw [if_neg e] at hu
      exact ht.tmp m u hm hu

/-- one result -/
noncomputable def res1 (E : Env) (r : ResultVar) (t : T) (h : HS) : Option V := match r with
  | .tmp d => (opdC (.tmp d)).out t
  | .cell a ty => ob ((opdC (.tmp a)).out t) fun p => (loadC E ty).out p h

theorem resC_nil (t : T) (h : HS) : (resC E []).out t h = some .nil := rfl
theorem resC_one (r : ResultVar) (t : T) (h : HS) : (resC E [r]).out t h = res1 E r t h := by
  cases r <;> (unfold resC; simp only [KF.app_eq, KF.out_mk]; rfl)
theorem resC_more (r s : ResultVar) (l : List ResultVar) (t : T) (h : HS) : (resC E (r :: s :: l)).out t h = ob (res1 E r t h) fun v => ob ((resC E (s :: l)).out t h) fun vs => some (.cat 1 ((s :: l).length + 1) v vs) := by
  cases r <;> (conv => lhs; unfold resC) <;> simp only [KF.app_eq, KF.out_mk] <;> rfl

theorem res1_ok (hE : EnvOK P E B w0) {σ : Val} {nt : Nat} {t : T} {a : Act} (ht : TR σ nt t a) {h : HS} {w : World} (hr : HRel P B w0 σ h.fn w) {r : ResultVar} {v : V} (hv : res1 E r t h = some v) :
    ∃ x, ((match r with
      | .tmp t => pure (a.tmps.getD t undef)
      | .cell b ty => do loadVar ty (← asAddr (a.tmps.getD b undef)) : Sem Value)).run P w = .ok x w ∧ VR σ v x := by
  cases r with
  | tmp d =>
    have hv : (opdC (.tmp d)).out t = some v := hv
    exact ⟨a.tmps.getD d undef, rfl, opdC_ok ht hv⟩
  | cell b ty =>
    simp only [res1, ob_eq, loadC_out, onPtrs_eq, onCells_eq] at hv
    obtain ⟨p, hp, ⟨i, off, rfl, e, r, bx, hg, hv⟩ | ⟨g, off, rfl, r, hg, hv⟩⟩ := hv
    · obtain ⟨b', hb, ep⟩ := VR_ptr (opdC_ok ht hp)
      have ep : a.tmps.getD b undef = _ := ep
      obtain ⟨_, cs, rest, fz, hw, hsr, h1, _, _⟩ := hr.get hb hg
      obtain ⟨y, hy, hyv⟩ := run_loadVar_of hE hw hsr h1 hv
      exact ⟨y, by simp only [ep]; simp [asAddr, hy], hyv⟩
    · have ep := VR_gptr (opdC_ok ht hp)
      have ep : a.tmps.getD b undef = _ := ep
      obtain ⟨hlt, cs, rest, e, fz, hw0, hsr, h1⟩ := hE.glob g r hg
      have hw : w.heap[g]? = some (.cells (cs ++ rest).toArray e fz) := by
        rw [← hw0]; exact hr.keep.block g hlt
      obtain ⟨y, hy, hyv⟩ := run_loadVar_of hE hw (hsr σ) h1 hv
      exact ⟨y, by simp only [ep]; simp [asAddr, hy], hyv⟩

theorem resC_ok (hE : EnvOK P E B w0) {σ : Val} {nt : Nat} {t : T} {a : Act} (ht : TR σ nt t a) {h : HS} {w : World} (hr : HRel P B w0 σ h.fn w) : ∀ {l : List ResultVar} {r : V}, (resC E l).out t h = some r →
    ∃ vs, (l.mapM fun r => (match r with
      | .tmp t => pure (a.tmps.getD t undef)
      | .cell b ty => do loadVar ty (← asAddr (a.tmps.getD b undef)) : Sem Value)).run P w = .ok vs w ∧ SR σ r vs ∧ vs.length = l.length ∧ (∀ x, vs = [x] → VR σ r x)
  | [], r, hv => by cases hv; exact ⟨[], rfl, rfl, rfl, fun x e => by cases e⟩
  | [s], r, hv => by
    rw [resC_one] at hv
    obtain ⟨x, hx, hvx⟩ := res1_ok hE ht hr hv
    exact ⟨[x], by rw [List.mapM_cons, Sem.run_bind, hx]; rfl, hvx.2, rfl, fun y e => by cases e; exact hvx⟩
  | s :: s' :: l, r, hv => by
    rw [resC_more] at hv
    simp only [ob_eq] at hv
    obtain ⟨v, hv1, vs, hv2, e⟩ := hv
    cases e
    obtain ⟨x, hx, hvx⟩ := res1_ok hE ht hr hv1
    obtain ⟨xs, hxs, hsr, hlen, _⟩ := resC_ok hE ht hr (l := s' :: l) hv2
    refine ⟨x :: xs, ?_, ⟨[x], xs, hvx.2, hsr, rfl, by simp [hlen]; omega, rfl⟩, by simp [hlen], fun y e => ?_⟩
    · rw [List.mapM_cons, Sem.run_bind, hx, Result.andThen_ok, Sem.run_bind, hxs]; rfl
    · cases e
      simp at hlen
end Go.AE

namespace Go.AE
open Go Go.RowKit

variable {P : Program} {E : Env} {B : Nat} {w0 : World}

/-- what a call answers, of one function -/
def FnOK (P : Program) (B : Nat) (w0 : World) (f : Nat) (g : V → HS → Cs) : Prop :=
  ∀ σ a args h w v h', SR σ a args → HRel P B w0 σ h.fn w → Und σ h.c h'.c → g a h = .ok v h' →
    Calls P f args.toArray w fun e w' => match e with
      | .returned x => ∃ σ', St P B w0 σ h.fn h.c w σ' h'.fn h'.c w' ∧ VR σ' v x
      | _ => False

theorem evalFn_body {fov : FOv} {lov : LOv} {d f : Nat} {a : V} {h h' : HS} {v : V} (hf : fov f = none) (hr : (evalFn E fov lov (d + 1) f).out a h = .ok v h') :
    ∃ fn body, E.fn f = some fn ∧ fn.body = some body ∧ fn.ntmps ≤ 256 ∧ fn.params.size + fn.nfree ≤ fn.ntmps ∧ a.size = fn.params.size + fn.nfree ∧
      ∃ t, (bindC 0 (fn.params.size + fn.nfree)).out a (NT.fill none 8) = some t ∧ ∃ x t', (compCode E (evalFn E fov lov d) lov fn.ntmps f body).out t h = .ok x t' h' ∧ x ≤ 1 ∧
        ∃ r, (resC E fn.results.toList).out t' h' = some r ∧ v = (match fn.results.size with
            | 1 => fun v => v
            | _ => V.tup) r := by
  unfold evalFn at hr
  simp only [hf] at hr
  cases hfn : E.fn f with
  | none => simp only [hfn] at hr; cases hr
  | some fn =>
    simp only [hfn] at hr
    cases hb : fn.body with
    | none => simp only [hb] at hr; cases hr
    | some body =>
      simp only [hb] at hr
      rw [KF.out_bi, bi_if] at hr
      split at hr
      · rename_i hc
        rw [Bool.and_eq_true] at hc
        have h1 : fn.ntmps ≤ 256 := ble_iff.1 hc.1
        have h2 : fn.params.size + fn.nfree ≤ fn.ntmps := ble_iff.1 hc.2
        simp only [KF.app_eq, KF.out_mk] at hr
        have hr : bi (Nat.beq a.size (fn.params.size + fn.nfree)) (Option.rec (motive := fun _ => Cs) (.bad f 0 55555)
            (fun t => Rs.rec (motive := fun _ => Cs) (fun x t h => bi (Nat.ble x 1) (Option.rec (motive := fun _ => Cs) (.bad f 0 44444) (fun v => .ok ((match fn.results.size with
            | 1 => fun v => v
            | _ => V.tup) v) h) ((resC E fn.results.toList).out t h)) (.bad f 0 33333)) (fun a b c => .bad a b c)
              ((compCode E (evalFn E fov lov d) lov fn.ntmps f body).out t h)) ((bindC 0 (fn.params.size + fn.nfree)).out a (NT.fill none 8))) (.bad f 0 22223) = .ok v h' := hr
        rw [bi_if] at hr
        split at hr
        · rename_i hsz
          cases hbd : (bindC 0 (fn.params.size + fn.nfree)).out a (NT.fill none 8) with
          | none => rw [hbd] at hr; cases hr
          | some t =>
            rw [hbd] at hr
            have hr : Rs.rec (motive := fun _ => Cs) (fun x t h => bi (Nat.ble x 1) (Option.rec (motive := fun _ => Cs) (.bad f 0 44444) (fun v => .ok ((match fn.results.size with
              | 1 => fun v => v
              | _ => V.tup) v) h) ((resC E fn.results.toList).out t h)) (.bad f 0 33333)) (fun a b c => .bad a b c)
                ((compCode E (evalFn E fov lov d) lov fn.ntmps f body).out t h) = .ok v h' := hr
            cases hcode : (compCode E (evalFn E fov lov d) lov fn.ntmps f body).out t h with
            | bad a b c => rw [hcode] at hr; cases hr
            | ok x t' h1' =>
              rw [hcode] at hr
              have hr : bi (Nat.ble x 1) (Option.rec (motive := fun _ => Cs) (.bad f 0 44444) (fun v => .ok ((match fn.results.size with
                | 1 => fun v => v
                | _ => V.tup) v) h1') ((resC E fn.results.toList).out t' h1')) (.bad f 0 33333) = .ok v h' := hr
              rw [bi_if] at hr
              split at hr
              · rename_i hx
                cases hres : (resC E fn.results.toList).out t' h1' with
                | none => rw [hres] at hr; cases hr
                | some r =>
                  rw [hres] at hr
                  cases hr
                  exact ⟨fn, body, rfl, hb, h1, h2, beq_iff.1 hsz, t, hbd, x, t', hcode, ble_iff.1 hx, r, hres, rfl⟩
              · cases hr
        · cases hr
      · cases hr

theorem fn_ok (hE : EnvOK P E B w0) {fov : FOv} {lov : LOv}
    (hfov : ∀ f g, fov f = some g → FnOK P B w0 f g ∧ ∀ args w v h a0 h', g a0 h = .ok v h' → (callFunc f args).run P w = .ok (.enter f args) w)
    (hdr : ∀ call, CallOK P B w0 call → Enters P call → ∀ nt, nt ≤ 256 → ∀ fn id ops, CodeOK P B w0 nt (compDrawn E call nt fn id (Array.toList ops)).out (.region id ops true))
    (hlov : ∀ d, CallOK P B w0 (evalFn E fov lov d) → Enters P (evalFn E fov lov d) → ∀ f fn body, E.fn f = some fn → fn.body = some body → fov f = none → LovOK P B w0 lov fn.ntmps f body) :
    ∀ d, CallOK P B w0 (evalFn E fov lov d) ∧ Enters P (evalFn E fov lov d) := by
  intro d
  induction d with
  | zero => exact ⟨fun f σ a args h w v h' _ _ _ hr => (by cases hr), fun f args w v h a0 h' hr => (by cases hr)⟩
  | succ d ih =>
    obtain ⟨hc, hen⟩ := ih
    refine ⟨fun f σ a args h w v h' ha hr hu hrun => ?_, fun f args w v h a0 h' hrun => ?_⟩
    · cases hf : fov f with
      | some g =>
        have hrun : g a h = .ok v h' := by
          unfold evalFn at hrun
          simp only [hf] at hrun
          exact hrun
        exact (hfov f g hf).1 σ a args h w v h' ha hr hu hrun
      | none =>
        obtain ⟨fn, body, hfn, hb, h256, hle, hsz, t, hbd, x, t', hcode, hx, r, hres, rfl⟩ := evalFn_body hf hrun
        have hPf := hE.fn f fn hfn
        have hlen : args.length = fn.params.size + fn.nfree := (SR.len ha).trans hsz
        have hcok := compCode_ok hE hc hen (lov := lov) (nt := fn.ntmps) (fn := f) h256 (hdr _ hc hen fn.ntmps h256 f) body (hlov d hc hen f fn body hfn hb hf)
        refine calls_of_wp hPf hb ?_
        let act : Act := { tmps := args.toArray ++ Array.replicate (fn.ntmps - args.toArray.size) undef, defers := [] }
        have hasz : act.tmps.size = fn.ntmps := by simp [act]; omega
        have hget : ∀ j y, args[j]? = some y → act.tmps.getD j undef = y := by
          intro j y hj
          have hlt : j < args.length := (List.getElem?_eq_some_iff.1 hj).1
          simp only [act, Array.getD_eq_getD_getElem?]
          rw [Array.getElem?_append_left (by simpa using hlt)]
          simp [hj]
        have ht0 : TR σ fn.ntmps (NT.fill none 8) act := ⟨hasz, fun n v _ hv => by rw [NT.fill_at] at hv; cases hv⟩
        have ht := bindC_ok ha h256 hasz hget (by omega) ht0 hbd
        refine Code.wp_mono ?_ (hcok.sound ht rfl hr hu hcode)
        rintro e a1 w1 ⟨σ', he, ht', hd', hs'⟩
        obtain ⟨vs, hvs, hsr, hvl, hv1⟩ := resC_ok hE ht' hs'.rel hres
        have hfin : ∃ y, (results fn a1.tmps).run P w1 = .ok y w1 ∧ VR σ' ((match fn.results.size with
            | 1 => fun v => v
            | _ => V.tup) r) y := by
          have hm : (fn.results.mapM fun r => (match r with
              | .tmp t => pure (a1.tmps.getD t undef)
              | .cell b ty => do loadVar ty (← asAddr (a1.tmps.getD b undef)) : Sem Value)).run P w1 = .ok vs.toArray w1 := by
            rw [Array.mapM_eq_mapM_toList]
            rw [map_eq_pure_bind, Sem.run_bind]
            exact congrArg (fun r => Result.andThen r fun a w' => Sem.run P (pure (List.toArray a)) w') hvs
          have hsize : vs.length = fn.results.size := by simpa using hvl
          by_cases h1 : fn.results.size = 1
          · rw [h1] at hsize ⊢
            obtain ⟨y, rfl⟩ := List.length_eq_one_iff.1 hsize
            refine ⟨y, ?_, hv1 y rfl⟩
            unfold results
            rw [Sem.run_bind]
            exact congrArg (fun r => Result.andThen r fun (vs : Array Value) w' => Sem.run P (pure (if h : vs.size = 1 then vs[0] else .tuple vs)) w') hm
          · refine ⟨.tuple vs.toArray, ?_, ?_⟩
            · unfold results
              rw [Sem.run_bind]
              have : vs.toArray.size ≠ 1 := by simpa using fun h => h1 (hsize ▸ h)
              refine (congrArg (fun r => Result.andThen r fun (vs : Array Value) w' => Sem.run P (pure (if h : vs.size = 1 then vs[0] else .tuple vs)) w') hm).trans ?_
              rw [Result.andThen_ok, dif_neg this]
              rfl
            · have : (match fn.results.size with
                | 1 => fun v => v
                | _ => V.tup) = V.tup := by
                split
                · rename_i h; exact absurd h h1
                · rfl
              rw [this]
              exact ⟨rfl, vs, hsr, rfl⟩
        obtain ⟨y, hy, hvy⟩ := hfin
        cases e <;> simp only [exitN] at he
        case normal => exact ⟨hd', y, hy, σ', hs', hvy⟩
        case ret => exact ⟨hd', y, hy, σ', hs', hvy⟩
        case exit id => omega
    · cases hf : fov f with
      | some g =>
        have hrun : g a0 h = .ok v h' := by
          unfold evalFn at hrun
          simp only [hf] at hrun
          exact hrun
        exact (hfov f g hf).2 args w v h a0 h' hrun
      | none =>
        obtain ⟨fn, body, hfn, hb, _⟩ := evalFn_body hf hrun
        exact hE.enter f fn hfn (by rw [hb]; rfl) args w
end Go.AE

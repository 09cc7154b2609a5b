/- Every call of the evaluator is a call of the program. -/
import Derived.Test.YtlelnfcjghemhaaGreatDoorB6
import Derived.Test.YtlelnfcjghemhaaGreatDoorB7
import Derived.Test.YtlelnfcjghemhaaGreatDoorB8
import Derived.KernelRfl
namespace Go.AE
open Go Go.RowKit
set_option maxRecDepth 100000

theorem LovOK.none {P : Program} {B : Nat} {w0 : World} {lov : LOv} {nt fn : Nat} (h : ∀ r, lov fn r = Option.none) : ∀ c : Code, LovOK P B w0 lov nt fn c := by
  have h2 : ∀ b, loopOv lov fn b = Option.none := fun b => by
    unfold loopOv
    split
    · exact h _
    · rfl
  intro c
  induction c with
  | seq a b iha ihb => exact ⟨iha, ihb⟩
  | cond c a b iha ihb => exact ⟨iha, ihb⟩
  | block _ b ih => exact ih
  | scope b ih => exact ih
  | loop b ih => unfold LovOK; rw [h2]; exact ih
  | _ => trivial

theorem lov0_none {f : Nat} (h1 : f ≠ 121) (h2 : f ≠ 47) (h3 : f ≠ 34) (h4 : f ≠ 68) : ∀ r, lov0 f r = Option.none := by
  intro r
  unfold lov0
  rw [beq_false.2 h1, beq_false.2 h2, beq_false.2 h3, beq_false.2 h4]
  rfl

section
variable {B : Nat} {w0 : World}
theorem lov121 : ∀ body, Go.Proofs.Tryz.f121.body = some body → LovOK Go.Proofs.Tryz.prog B w0 lov0 36 121 body := by
  intro body hb
  cases hb
  repeat' (first | exact trivial | exact lovSum_ok rfl | refine And.intro ?_ ?_)
theorem lov47 : ∀ body, Go.Proofs.Tryz.f47.body = some body → LovOK Go.Proofs.Tryz.prog B w0 lov0 41 47 body := by
  intro body hb
  cases hb
  repeat' (first | exact trivial | exact lovFlush_ok rfl | refine And.intro ?_ ?_)
theorem lov34 : ∀ body, Go.Proofs.Tryz.f34.body = some body → LovOK Go.Proofs.Tryz.prog B w0 lov0 75 34 body := by
  intro body hb
  cases hb
  repeat' (first | exact trivial | exact bag34_ok rfl | refine And.intro ?_ ?_)
theorem lov68 : ∀ body, Go.Proofs.Tryz.f68.body = some body → LovOK Go.Proofs.Tryz.prog B w0 lov0 101 68 body := by
  intro body hb
  cases hb
  repeat' (first | exact trivial | exact bag68_ok rfl | refine And.intro ?_ ?_)
end
end Go.AE

namespace Go.AE
open Go Go.RowKit
set_option maxRecDepth 100000

noncomputable abbrev PP : Program := Go.Proofs.Tryz.prog

section
variable {B : Nat} {w0 : World}

theorem lov_all (f : Nat) (fn : Func) (body : Code) (hf : EE.fn f = some fn) (hb : fn.body = some body) : LovOK PP B w0 lov0 fn.ntmps f body := by
  have hf : PP.funcs[f]? = some fn := hf
  by_cases h1 : f = 121
  · subst h1
    rw [Go.Proofs.Tryz.func121] at hf
    cases hf
    exact lov121 body hb
  · by_cases h2 : f = 47
    · subst h2
      rw [Go.Proofs.Tryz.func47] at hf
      cases hf
      exact lov47 body hb
    · by_cases h3 : f = 34
      · subst h3
        rw [Go.Proofs.Tryz.func34] at hf
        cases hf
        exact lov34 body hb
      · by_cases h4 : f = 68
        · subst h4
          rw [Go.Proofs.Tryz.func68] at hf
          cases hf
          exact lov68 body hb
        · exact LovOK.none (lov0_none h1 h2 h3 h4) body

theorem fov0_ok (f : Nat) (g : V → HS → Cs) (hf : fov0 f = some g) : FnOK PP B w0 f g ∧ ∀ args w v h a0 h', g a0 h = .ok v h' → (callFunc f args).run PP w = .ok (.enter f args) w := by
  unfold fov0 at hf
  simp only [bi_eq, beq_iff] at hf
  rcases hf with ⟨rfl, e⟩ | ⟨_, ⟨rfl, e⟩ | ⟨_, e⟩⟩ <;> cases e
  · exact ⟨ovSort_ok, fun args w _ _ _ _ _ => enter_ok names_ok Go.Proofs.Tryz.func76 rfl args w⟩
  · exact ⟨ovValue_ok, fun args w _ _ _ _ _ => enter_ok names_ok Go.Proofs.Tryz.func23 rfl args w⟩

theorem calls0 (hE : EnvOK PP EE B w0) (d : Nat) : CallOK PP B w0 (evalFn EE fov0 lov0 d) ∧ Enters PP (evalFn EE fov0 lov0 d) :=
  fn_ok hE fov0_ok (fun call hc hen nt hnt fn id ops => hdr_ok hE call hc hen nt hnt fn id ops) (fun _ _ _ f fn body hf hb _ => lov_all f fn body hf hb) d

theorem fov1_ok (hE : EnvOK PP EE B w0) (f : Nat) (g : V → HS → Cs) (hf : fov1 EE f = some g) : FnOK PP B w0 f g ∧ ∀ args w v h a0 h', g a0 h = .ok v h' → (callFunc f args).run PP w = .ok (.enter f args) w := by
  unfold fov1 at hf
  rw [bi_eq] at hf
  rcases hf with ⟨h6, e⟩ | ⟨_, e⟩
  · have h6 := beq_iff.1 h6
    subst h6
    cases e
    obtain ⟨hc, hen⟩ := calls0 hE 40
    exact evalRF_ok hE hc hen fun fn body hf hb => lov_all 6 fn body hf hb
  · exact fov0_ok f g e

/-- Every call of the evaluator is a call of the program. -/
theorem calls1 (hE : EnvOK PP EE B w0) (d : Nat) : CallOK PP B w0 (evalFn EE (fov1 EE) lov0 d) ∧ Enters PP (evalFn EE (fov1 EE) lov0 d) :=
  fn_ok hE (fov1_ok hE) (fun call hc hen nt hnt fn id ops => hdr_ok hE call hc hen nt hnt fn id ops) (fun _ _ _ f fn body hf hb _ => lov_all f fn body hf hb) d
end
end Go.AE

namespace Go.AE
open Go
noncomputable section
/-- is it so, with counters that are low enough? -/
def isTrueC (c : Cs) : Bool := Cs.rec (motive := fun _ => Bool) (fun v _ => V.rec (motive := fun _ => Bool) (fun _ _ => false) (fun _ _ => false) (fun b => b) (fun _ => false) (fun _ => false) (fun _ _ => false) (fun _ _ => false) (fun _ _ _ _ _ => false)
    false (fun _ => false) (fun _ _ _ _ _ => false) (fun _ _ => false) (fun _ _ => false) (fun _ => false) false (fun _ _ _ => false) (fun _ _ _ _ _ _ => false) v) (fun _ _ _ => false) c
end
end Go.AE

namespace Go.AE
open Go Go.RowKit
set_option maxRecDepth 100000

theorem St.below {P : Program} {B : Nat} {w0 : World} {σ : Val} {h : Nat → Option Blk} {c : Nat} {w w' : World} (hr : HRel P B w0 σ h w) (hb : Below w.heap.size w w') : St P B w0 σ h c w σ h c w' :=
  ⟨Ext.refl _ _ _, ⟨fun id b n h1 h2 => by rw [hb.block n (hr.lt h1 h2)]; exact hr.blk id b n h1 h2, hr.inj, hr.dom, hr.own, hr.keep.trans (hb.mono hr.base), Nat.le_trans hr.base hb.size⟩, Nat.le_refl _, hb.size,
    fun b hb' _ => hb.block b hb', fun id _ h1 h2 _ => ⟨id, h1, h2⟩, fun _ _ _ => rfl⟩

/-- nothing is known -/
def noVal : Val := ⟨fun _ => none, fun _ => none, fun _ => none⟩
theorem noVal_rel {P : Program} (h : Nat → Option Blk) (w : World) : HRel P w.heap.size w noVal h w :=
  ⟨fun _ _ _ _ h => (by cases h), fun _ _ _ _ _ h => (by cases h), fun _ _ h => (by cases h), fun _ _ _ h => (by cases h), Below.refl _ _, Nat.le_refl _⟩
theorem noVal_und (c c' : Nat) : Und noVal c c' := ⟨fun _ _ _ => rfl, fun _ _ _ => rfl, fun _ _ _ => rfl⟩

/-- the table of the program's library -/
def Table (w : World) : Prop := ∃ e fz, w.heap[0]? = some (.cells (bruijn.map fun n => Value.int .u8 (n : Nat)).toArray e fz)
theorem Table.pos {w : World} (h : Table w) : 0 < w.heap.size := by
  obtain ⟨e, fz, h⟩ := h
  exact (Array.getElem?_eq_some_iff.1 h).1

theorem isTrueC_eq {c : Cs} (h : isTrueC c = true) : ∃ h', c = .ok (.bool true) h' := by
  cases c with
  | bad a b c => cases h
  | ok v h' =>
    cases v with
    | bool b => cases b with
      | true => exact ⟨h', rfl⟩
      | false => cases h
    | _ => cases h

/-- a run of the evaluator that starts with nothing -/
theorem run_calls {fov : FOv} (hcalls : ∀ (B : Nat) (w0 : World), EnvOK PP EE B w0 → ∀ d, CallOK PP B w0 (evalFn EE fov lov0 d) ∧ Enters PP (evalFn EE fov lov0 d)) {d f : Nat} {a : V} {args : List Value} (hrun : isTrueC ((evalFn EE fov lov0 d f).out a HS.empty) = true)
    {w : World} (ht : Table w) (ha : SR noVal a args) : Calls PP f args.toArray w fun e w' => e = .returned (.bool true) ∧ Below w.heap.size w w' := by
  obtain ⟨h', hr⟩ := isTrueC_eq hrun
  have hE := env_ok (B := w.heap.size) (w0 := w) ht.pos ht
  refine Calls.mono ((hcalls _ _ hE d).1 f noVal a args HS.empty w (.bool true) h' ha (noVal_rel _ w) (noVal_und _ _) hr) ?_
  intro e w' he
  cases e with
  | returned x =>
    obtain ⟨σ', hs, hv⟩ := he
    exact ⟨by rw [VR_bool hv], hs.rel.keep⟩
  | panicked c => exact he.elim
  | outgrown => exact he.elim

/-- the argument: an Op of which the kinds alone are known -/
def argO : V := .agg (.cat 1 6 (.opq 100001) (.cat 1 5 (.opq 100001) (.cat 1 4 (.opq 100000) (.cat 1 3 (.opq 100000) (.cat 1 2 (.opq 100001) (.opq 100002))))))
theorem argO_SR {σ : Val} {a b c : Int} {s t : ByteArray} {x : Value} (hx : x.oneCell' = true) : SR σ argO [.agg #[.int .i64 a, .int .i64 b, .string s, .string t, .int .i64 c, x]] := by
  refine ⟨[.int .i64 a, .int .i64 b, .string s, .string t, .int .i64 c, x], ?_, ?_, rfl⟩
  · exact ⟨[_], [_, _, _, _, _], VR.anyInt.2, ⟨[_], [_, _, _, _], VR.anyInt.2, ⟨[_], [_, _, _], VR.anyStr.2, ⟨[_], [_, _], VR.anyStr.2, ⟨[_], [_], VR.anyInt.2, (VR.any hx).2, rfl, rfl, rfl⟩, rfl, rfl, rfl⟩, rfl, rfl, rfl⟩, rfl, rfl, rfl⟩, rfl, rfl, rfl⟩
  · intro v hv
    simp at hv
    rcases hv with rfl | rfl | rfl | rfl | rfl | rfl <;> first | rfl | exact hx

end Go.AE

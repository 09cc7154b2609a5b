/- ciboriumlaw11.StoreNil answers true for every argument, and each argument reads behind the call as it read before: the tied card. Conditions: those of the given row (the table math/bits.deBruijn64tab as the program lays it). -/
import Derived.Test.YtlelnfcjghemhaaGreatDoorC1
import Derived.Test.YtlelnfcjghemhaaGreatDoorC2
import Derived.Test.YtlelnfcjghemhaaGreatDoorC3
import Derived.Test.YtlelnfcjghemhaaGreatDoorC4
import Derived.Test.YtlelnfcjghemhaaGreatDoorCards
import Derived.Test.YtlelnfcjghemhaaGreatDoorTie
import Derived.WalkKit
import Derived.ProofKit
import Derived.OpenShut
import Derived.Deep.DeepHandedRow
import Derived.Lib.LaidTab
import Derived.SevenTiedAt
namespace Go.Proofs.YtlelnfcjghemhaaGreatDoor
open Go Go.ChangeShapes Go.WideShapes Go.ChangeAt Go.RowKit
set_option maxRecDepth 100000

theorem sOwn : ownKnob Tryz.prog.godebug = none := by kernel_rfl
theorem sTab : Tryz.prog.globalNamed "math/bits.deBruijn64tab" = some 0 := by kernel_rfl
theorem sTabType : (Tryz.prog.globals[0]?).map (·.type) = some 203 := by kernel_rfl
theorem sCells203 : Tryz.prog.cellsOf 203 = 64 := by kernel_rfl
theorem sCells5 : Tryz.prog.cellsOf 5 = 1 := by kernel_rfl
theorem sTypes24 : Tryz.prog.cellTypes Tryz.prog.depth 24 = some [3, 3, 9, 9, 3, 22] := by kernel_rfl
theorem sCells24 : Tryz.prog.cellsOf 24 = 6 := by kernel_rfl
theorem sLaidOut : laidOutB Tryz.prog = true := by kernel_rfl
theorem sRead24 : Tryz.prog.readableRec 24 = true := by kernel_rfl
theorem sRow24 : 24 < Tryz.prog.types.size := of_decide_eq_true (by kernel_rfl)

/-- WHAT THE ROW's LIST GIVES. -/
theorem sTable {W : World} (h : laidMetH Tryz.prog Rows.storeNilRow.laid W) : Go.AE.Table W := by
  have h1 : Lib.TabIs Tryz.prog W "math/bits.deBruijn64tab" .u8 [0, 1, 56, 2, 57, 49, 28, 3, 61, 58, 42, 50, 38, 29, 17, 4, 62, 47, 59, 36, 45, 43, 51, 22, 53, 39, 33, 30, 24, 18, 12, 5, 63, 55, 48, 27, 60, 41, 37, 16, 46, 35, 44, 21, 52, 32, 23, 11, 54, 26, 40, 15, 34, 20, 31, 10, 25, 14, 19, 9, 13, 8, 7, 6] :=
    Lib.tabIs_of_head (rest := []) sTab sTabType Tryz.underlying203 Tryz.underlying5 sCells5 sCells203 h
  unfold Lib.TabIs World.var? at h1
  rw [sTab] at h1
  simp only [Option.bind_some] at h1
  split at h1
  · rename_i cs e fz h2
    cases h1
    exact ⟨e, fz, h2⟩
  · cases h1

/-- WHAT AN ARGUMENT LOOKS LIKE. -/
theorem sShape {W : World} {base : Nat} {v : Value} (h : Value.okWide Tryz.prog W .any base 24 v) :
    ∃ (a b c : Int) (s t : ByteArray) (x : Value), v = .agg #[.int .i64 a, .int .i64 b, .string s, .string t, .int .i64 c, x] ∧ x.oneCell' = true := by
  unfold Value.okWide at h
  simp only [Tryz.underlying24] at h
  obtain ⟨cs, rfl, hsz, ts, hts, _, hall⟩ := h
  rw [sTypes24] at hts
  cases hts
  rw [sCells24] at hsz
  obtain ⟨l⟩ := cs
  have hl : l.length = 6 := by simpa using hsz
  obtain ⟨c0, l0, rfl, k0⟩ := Go.AE.uncons hl
  obtain ⟨c1, l1, rfl, k1⟩ := Go.AE.uncons k0
  obtain ⟨c2, l2, rfl, k2⟩ := Go.AE.uncons k1
  obtain ⟨c3, l3, rfl, k3⟩ := Go.AE.uncons k2
  obtain ⟨c4, l4, rfl, k4⟩ := Go.AE.uncons k3
  obtain ⟨c5, l5, rfl, k5⟩ := Go.AE.uncons k4
  have hnil := List.length_eq_zero_iff.1 k5
  subst hnil
  have int : ∀ {v : Value}, Cell.okWide Tryz.prog W .any base 3 v → ∃ n, v = .int .i64 n := by
    intro v hv
    cases v <;> simp [Cell.okWide, Cell.ok, Tryz.underlying3] at hv
    exact ⟨_, by rw [hv.1]⟩
  have str : ∀ {v : Value}, Cell.okWide Tryz.prog W .any base 9 v → ∃ s, v = .string s := by
    intro v hv
    cases v <;> simp [Cell.okWide, Cell.ok, Tryz.underlying9] at hv
    exact ⟨_, rfl⟩
  have sl : ∀ {v : Value}, Cell.okWide Tryz.prog W .any base 22 v → v.oneCell' = true := by
    intro v hv
    cases v <;> simp [Cell.okWide, Cell.ok, Tryz.underlying22] at hv ⊢
    all_goals rfl
  obtain ⟨u0, e0, h0⟩ := hall 0 c0 rfl
  obtain ⟨u1, e1, h1⟩ := hall 1 c1 rfl
  obtain ⟨u2, e2, h2⟩ := hall 2 c2 rfl
  obtain ⟨u3, e3, h3⟩ := hall 3 c3 rfl
  obtain ⟨u4, e4, h4⟩ := hall 4 c4 rfl
  obtain ⟨u5, e5, h5⟩ := hall 5 c5 rfl
  cases e0; cases e1; cases e2; cases e3; cases e4; cases e5
  obtain ⟨a, rfl⟩ := int h0
  obtain ⟨b, rfl⟩ := int h1
  obtain ⟨s, rfl⟩ := str h2
  obtain ⟨t, rfl⟩ := str h3
  obtain ⟨c, rfl⟩ := int h4
  exact ⟨a, b, c, s, t, c5, rfl, sl h5⟩

/-- WHAT THE CALL DOES, FOR EVERY ARGUMENT AND EVERY WORLD THAT HOLDS THE TABLE. -/
theorem sContract (H : Type) (enc : TypeId × Value → H) (W : World) (base : Nat) (args : Array Value) (ds gs : List (DataW H)) (before : List MemPlace)
    (hval : ∀ (j : Nat) t v, Tryz.f3.params[j]? = some t → args[j]? = some v → Value.okWide Tryz.prog W .any base t v)
    (hW : DataW.Whole enc Tryz.prog Tryz.f3.params.toList Rows.storeNilSpec.vars false W args.toList ds gs before) (hL : laidMetH Tryz.prog Rows.storeNilRow.laid W) :
    Calls Tryz.prog 3 args W fun e W' => ∃ v, e = .returned v ∧ Rows.storeNilSpec.post enc Tryz.prog Tryz.f3 false true false false W args v W' := by
  have hW' := hW
  obtain ⟨p, q, hA0, hV, rfl, hfz, hnd⟩ := hW
  have hA : DataW.TrodAll enc Tryz.prog W 0 (fun _ => true) true Tryz.f3.params.toList args.toList ds p := hA0
  rw [Tryz.params3] at hA hval
  obtain ⟨v0, vs0, d0, ds0, p0, q0, hargs, rfl, rfl, h0, r0⟩ := trodAll_cons hA
  obtain ⟨rfl, rfl, rfl⟩ := trodAll_nil r0
  obtain rfl : args = #[v0] := by cases args; simp_all
  obtain ⟨rfl, rfl⟩ := trodVars_none hV
  obtain ⟨a, b, c, s, t, x, rfl, hx⟩ := sShape (hval 0 24 v0 rfl rfl)
  have hlt := hW'.lt
  refine Calls.mono (Go.AE.storeNil_calls Go.AE.laid_run Go.AE.works_run Go.AE.nil_run (sTable hL) hx) ?_
  rintro e W' ⟨rfl, hb⟩
  refine ⟨_, rfl, [d0], [], p0 ++ [] ++ [], [], p0 ++ [], [], hW', ?_, ?_, ?_, hb.frame _, fun h => by cases h⟩
  · exact trodAll_cons_mk (shut_bool Tryz.underlying4 _) trodAll_mk0
  · exact trodAll_cons_mk (Below.trod sLaidOut sRead24 sRow24 h0 hb fun x hx => hlt x (by simpa using hx)) trodAll_mk0
  · exact rfl

/-- A WORLD FOR THE WITNESS. -/
noncomputable def sArg : Value := .agg #[.int .i64 0, .int .i64 0, .string ⟨#[]⟩, .string ⟨#[]⟩, .int .i64 0, .slice none 0 0]
noncomputable def sWorld (os : Os) : World :=
  { World.holding Tryz.prog os ⟨#[], #[], []⟩ with heap := (World.holding Tryz.prog os ⟨#[], #[], []⟩).heap.modify 0 fun
      | .cells _ t frozen => .cells #[.int .u8 0, .int .u8 1, .int .u8 56, .int .u8 2, .int .u8 57, .int .u8 49, .int .u8 28, .int .u8 3, .int .u8 61, .int .u8 58, .int .u8 42, .int .u8 50, .int .u8 38, .int .u8 29, .int .u8 17, .int .u8 4, .int .u8 62, .int .u8 47, .int .u8 59, .int .u8 36, .int .u8 45, .int .u8 43, .int .u8 51, .int .u8 22, .int .u8 53, .int .u8 39, .int .u8 33, .int .u8 30, .int .u8 24, .int .u8 18, .int .u8 12, .int .u8 5, .int .u8 63, .int .u8 55, .int .u8 48, .int .u8 27, .int .u8 60, .int .u8 41, .int .u8 37, .int .u8 16, .int .u8 46, .int .u8 35, .int .u8 44, .int .u8 21, .int .u8 52, .int .u8 32, .int .u8 23, .int .u8 11, .int .u8 54, .int .u8 26, .int .u8 40, .int .u8 15, .int .u8 34, .int .u8 20, .int .u8 31, .int .u8 10, .int .u8 25, .int .u8 14, .int .u8 19, .int .u8 9, .int .u8 13, .int .u8 8, .int .u8 7, .int .u8 6] t frozen
      | o => o }
theorem sMet (os : Os) : laidMet Tryz.prog Rows.storeNilRow.laid ((sWorld os).forCall (fun _ _ => 0) ⟨#[], #[sArg], []⟩).memory :=
  laidMet_of_run' 8 (by kernel_rfl) (by kernel_rfl)
theorem sReads (os : Os) {H : Type} (enc : TypeId × Value → H) : ∃ places, DataW.whole enc Tryz.prog ((sWorld os).forCall (fun _ _ => 0) ⟨#[], #[sArg], []⟩).memory Tryz.f3.params.toList Rows.storeNilSpec.vars false #[sArg].toList 8 =
    some ([.agg [.lit (.int .i64 0), .lit (.int .i64 0), .lit (.string []), .lit (.string []), .lit (.int .i64 0), .nil]], [], places) :=
  ⟨[], by kernel_rfl⟩

theorem sLifted (os : Os) (started : os.Started) (H : Type) (enc : TypeId × Value → H) (F : Stop.Interp) :
    ReturnsInHanded {} Tryz.checked os 3 .any ((OpenSpec.ofChange Rows.storeNilSpec).preRow enc Tryz.prog Tryz.f3 Rows.storeNilRow.domain false Rows.storeNilRow.laid) (((OpenSpec.ofChange Rows.storeNilSpec).at F).post enc Tryz.prog Tryz.f3 false true false false) := by
  obtain ⟨places, hx⟩ := sReads os enc
  refine returnsInHanded_of_row (C := Tryz.checked) (s := OpenSpec.ofChange Rows.storeNilSpec) sOwn started (by kernel_rfl) Tryz.func3
    (witness_row_at (enc := enc) (C := Tryz.checked) false (sWorld os) #[sArg] rfl (by kernel_rfl) (by kernel_rfl) (by kernel_rfl)
      (OpenSpec.preRow_of_cond 8 hx (by kernel_rfl) (fun k hk => by cases hk) (by kernel_rfl) (sMet os))) ?_
  intro W base args ds gs before hval hW _ _ _ hL _ _
  exact sContract H enc W base args ds gs before hval hW hL

theorem sSaid : Rows.StoreNilSaid :=
  OpenClaim.holds_of_cond 3 Tryz.f3 rfl rfl rfl rfl rfl rfl rfl ⟨rfl, rfl, rfl, rfl, rfl⟩ rfl rfl rfl rfl rfl (by kernel_rfl) Tryz.func3 (by kernel_rfl)
    (of_decide_eq_true (by kernel_rfl)) (by unfold Func.isWrapper; first | (rw [if_pos (by decide +kernel)]; kernel_rfl) | (rw [if_neg (by decide +kernel)]; exact ⟨rfl, rfl⟩))
    (fun os started H enc _ F => by rw [OpenClaim.pre_eq_preRow]; exact sLifted os started H enc F)

/-- No parameter wants a stand-in; the program's own looks are off. -/
theorem sPlain (f : FuncId) (fn : Func) (hf : Tryz.pinned.checked.prog.funcNamed "ciborium/ciboriumlaw11.StoreNil" = some f) (hfn : Tryz.pinned.checked.prog.funcs[f]? = some fn) :
    false = Tryz.pinned.checked.prog.looks [] ∧ ∀ (j : Nat) t, fn.params[j]? = some t → Tryz.pinned.checked.prog.wantsStandIn t = false := by
  obtain rfl : f = 3 := Option.some.inj ((show Tryz.prog.funcNamed "ciborium/ciboriumlaw11.StoreNil" = some 3 by kernel_rfl).symm.trans hf) |>.symm
  obtain rfl : fn = Tryz.f3 := (Option.some.inj (Tryz.func3.symm.trans hfn)).symm
  refine ⟨by kernel_rfl, fun j t ht => ?_⟩
  rw [Tryz.params3] at ht
  obtain rfl : t = 24 := by simpa using Array.mem_of_getElem? ht
  exact (show Tryz.prog.wantsStandIn 24 = false by kernel_rfl)

/-- THE CARD. -/
theorem storeNil_holds : Rows.StoreNilCardSaid :=
  Claim7.holds_tied_plain_at .later [] _ _ _ _ sSaid (fun _ h => by cases h) (by kernel_rfl) (fun _ h => by cases h) storeNil_row_tie rfl ⟨rfl, rfl⟩ (by kernel_rfl) rfl sPlain (by kernel_rfl)
#print axioms storeNil_holds
end Go.Proofs.YtlelnfcjghemhaaGreatDoor

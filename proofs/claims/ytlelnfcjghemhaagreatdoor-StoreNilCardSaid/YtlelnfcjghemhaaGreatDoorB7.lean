/- Op.value answers some text. -/
import Derived.Test.YtlelnfcjghemhaaGreatDoorB4
namespace Go.AE
open Go Go.RowKit
set_option maxRecDepth 100000

set_option maxHeartbeats 1000000 in
theorem value_walk (c0 c1 c2 c5 : Value) (v : ByteArray) (tm : Int) (w : World) :
    Calls Go.Proofs.Tryz.prog 23 #[.agg #[c0, c1, c2, .string v, .int .i64 tm, c5]] w fun e w' => ∃ r : ByteArray, e = .returned (.string r) ∧ w' = w.alloc (.cells #[c0, c1, c2, .string v, .int .i64 tm, c5] 24) := by
  go_enter Go.Proofs.Tryz.func23, Go.Proofs.Tryz.ntmps23
  go_wp2
  go_loop [3, 4] (fun s i => ∃ (t : ByteArray) (k : Nat), s = .string t ∧ i = .int .i64 k ∧ k ≤ 64 ∧ v.size ≤ t.size) (fun _ i => 64 - (match i with | .int _ q => q | _ => 0).toNat)
  case atStart => exact ⟨v, 1, rfl, rfl, by omega, Nat.le_refl _⟩
  case round =>
    obtain ⟨t, k, rfl, rfl, hk, hv⟩ := hrel
    go_wp2
    · exact ⟨⟨t ++ v, k + 1, rfl, rfl, by omega, by rw [ByteArray.size_append]; omega⟩, by simp only; omega⟩
    all_goals (go_ret; exact ⟨⟨_, rfl⟩, rfl⟩)

theorem isOpq_eq {i : Nat} {v : Option V} (h : isOpq i v = some ()) : v = some (.opq i) := by
  unfold isOpq at h
  simp only [ob_eq, onOpq_eq, bi_eq, beq_iff] at h
  obtain ⟨u, hu, j, rfl, ⟨rfl, _⟩ | ⟨_, e⟩⟩ := h
  · exact hu
  · cases e

theorem ovValue_ok {B : Nat} {w0 : World} : FnOK Go.Proofs.Tryz.prog B w0 23 ovValue := by
  intro σ a args h w v h' ha hr hu hrun
  have hy := csOf_eq hrun
  simp only [onAgg_eq, bi_eq, beq_iff, ob_eq] at hy
  obtain ⟨r, rfl, ⟨hsz, _, h3, _, h4, e⟩ | ⟨_, e⟩⟩ := hy <;> cases e
  obtain ⟨cs, hsr, h1, rfl⟩ := ha
  have hl : cs.length = 6 := hsr.len.trans hsz
  obtain ⟨x3, g3, v3⟩ := SR.get hsr (isOpq_eq h3)
  obtain ⟨x4, g4, v4⟩ := SR.get hsr (isOpq_eq h4)
  obtain ⟨s, rfl⟩ := VR_str_any v3
  obtain ⟨n, rfl⟩ := VR_int_any v4
  obtain ⟨c0, l0, rfl, k0⟩ := uncons hl
  obtain ⟨c1, l1, rfl, k1⟩ := uncons k0
  obtain ⟨c2, l2, rfl, k2⟩ := uncons k1
  obtain ⟨c3, l3, rfl, k3⟩ := uncons k2
  obtain ⟨c4, l4, rfl, k4⟩ := uncons k3
  obtain ⟨c5, l5, rfl, k5⟩ := uncons k4
  have hnil := List.length_eq_zero_iff.1 k5
  subst hnil
  have e3 : c3 = .string s := Option.some.inj g3
  have e4 : c4 = .int .i64 n := Option.some.inj g4
  subst e3 e4
  refine Calls.mono (value_walk c0 c1 c2 c5 s n w) ?_
  rintro e w' ⟨q, rfl, rfl⟩
  exact ⟨σ, by
    have := St.more (P := Go.Proofs.Tryz.prog) (c := h.c) hr #[.cells #[c0, c1, c2, .string s, .int .i64 n, c5] 24]
    rw [Array.append_singleton] at this
    exact this, VR.anyStr⟩
end Go.AE

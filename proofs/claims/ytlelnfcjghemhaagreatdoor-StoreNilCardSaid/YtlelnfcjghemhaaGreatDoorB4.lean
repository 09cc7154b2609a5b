/- slices.Sort of whole numbers is what its stand-in says. -/
import Derived.Test.YtlelnfcjghemhaaGreatDoorB1
import Derived.Shelf.Sort.Plain
import Derived.Ground.NamesProg
import Derived.Test.YtlelnfcjghemhaaGreatDoorProg
/-
  DERIVED: THE SHELF's CONTRACTS AT THIS DUMP, IN PLAIN WORDS (tools/lay-plain.mjs out of 'AT5S.lean', which tools/lay-shelf.mjs wrote): THE SAME DECLARATIONS UNDER THE SAME NAMES: 'import', 'namespace', 'open', 'def', 'theorem' AND NOTHING ELSE: no command of the shelf's: FOR A HAND-IN. Each laying: the table of numbers ('.._ren') and one theorem, a field a fact of the dump's own or the kernel's comparison; each contract: ONE APPLICATION.
-/
namespace Go.Proofs
open Go.Shelf
def Tryz.lays189_ren : Go.Shelf.Ren := ⟨fun | 189 => 76 | 125 => 117 | 257 => 116 | 128 => 156 | 129 => 157 | 294 => 147 | 295 => 148 | 296 => 149 | 297 => 150 | 298 => 151 | 299 => 152 | 216 => 153 | 300 => 154 | 301 => 155 | 328 => 170 | 329 => 171 | 330 => 172 | 331 => 173 | 332 => 174 | 215 => 175 | 343 => 181 | n => n, fun | 28 => 22 | 3 => 3 | 46 => 189 | 0 => 0 | 51 => 139 | 53 => 74 | 4 => 4 | 183 => 217 | 182 => 216 | 131 => 123 | 5 => 5 | 9 => 9 | 218 => 233 | 222 => 236 | 228 => 245 | 229 => 246 | n => n, fun | n => n⟩
theorem Tryz.lays189 : Go.Proofs.Lays.n189 Tryz.prog Tryz.lays189_ren := {
  mixed := by kernel_rfl
  f125 := Tryz.func117.trans (congrArg some (by kernel_rfl))
  f128 := Tryz.func156.trans (congrArg some (by kernel_rfl))
  f129 := Tryz.func157.trans (congrArg some (by kernel_rfl))
  f189 := Tryz.func76.trans (congrArg some (by kernel_rfl))
  f215 := Tryz.func175.trans (congrArg some (by kernel_rfl))
  f216 := Tryz.func153.trans (congrArg some (by kernel_rfl))
  f257 := Tryz.func116.trans (congrArg some (by kernel_rfl))
  f294 := Tryz.func147.trans (congrArg some (by kernel_rfl))
  f295 := Tryz.func148.trans (congrArg some (by kernel_rfl))
  f296 := Tryz.func149.trans (congrArg some (by kernel_rfl))
  f297 := Tryz.func150.trans (congrArg some (by kernel_rfl))
  f298 := Tryz.func151.trans (congrArg some (by kernel_rfl))
  f299 := Tryz.func152.trans (congrArg some (by kernel_rfl))
  f300 := Tryz.func154.trans (congrArg some (by kernel_rfl))
  f301 := Tryz.func155.trans (congrArg some (by kernel_rfl))
  f328 := Tryz.func170.trans (congrArg some (by kernel_rfl))
  f329 := Tryz.func171.trans (congrArg some (by kernel_rfl))
  f330 := Tryz.func172.trans (congrArg some (by kernel_rfl))
  f331 := Tryz.func173.trans (congrArg some (by kernel_rfl))
  f332 := Tryz.func174.trans (congrArg some (by kernel_rfl))
  f343 := Tryz.func181.trans (congrArg some (by kernel_rfl))
  t0 := Tryz.underlying0
  a0 := Tryz.isAgg0
  z0 := Tryz.sizeOf0
  v0 := Tryz.zeroValue0
  t3 := Tryz.underlying3
  a3 := Tryz.isAgg3
  z3 := Tryz.sizeOf3
  v3 := Tryz.zeroValue3
  t4 := Tryz.underlying4
  a4 := Tryz.isAgg4
  z4 := Tryz.sizeOf4
  v4 := Tryz.zeroValue4
  t5 := Tryz.underlying5
  a5 := Tryz.isAgg5
  z5 := Tryz.sizeOf5
  v5 := Tryz.zeroValue5
  t9 := Tryz.underlying9
  a9 := Tryz.isAgg9
  z9 := Tryz.sizeOf9
  v9 := Tryz.zeroValue9
  t28 := Tryz.underlying22
  a28 := Tryz.isAgg22
  z28 := Tryz.sizeOf22
  v28 := Tryz.zeroValue22
  t46 := Tryz.underlying189
  a46 := Tryz.isAgg189
  z46 := Tryz.sizeOf189
  v46 := Tryz.zeroValue189
  t51 := Tryz.underlying139
  a51 := Tryz.isAgg139
  z51 := Tryz.sizeOf139
  v51 := Tryz.zeroValue139
  t53 := Tryz.underlying74
  a53 := Tryz.isAgg74
  z53 := Tryz.sizeOf74
  v53 := Tryz.zeroValue74
  t131 := Tryz.underlying123
  a131 := Tryz.isAgg123
  z131 := Tryz.sizeOf123
  v131 := Tryz.zeroValue123
  t182 := Tryz.underlying216
  a182 := Tryz.isAgg216
  z182 := Tryz.sizeOf216
  v182 := Tryz.zeroValue216
  t183 := Tryz.underlying217
  a183 := Tryz.isAgg217
  z183 := Tryz.sizeOf217
  v183 := Tryz.zeroValue217
  t218 := Tryz.underlying233
  a218 := Tryz.isAgg233
  z218 := Tryz.sizeOf233
  v218 := Tryz.zeroValue233
  t222 := Tryz.underlying236
  a222 := Tryz.isAgg236
  z222 := Tryz.sizeOf236
  v222 := Tryz.zeroValue236
  t228 := Tryz.underlying245
  a228 := Tryz.isAgg245
  z228 := Tryz.sizeOf245
  v228 := Tryz.zeroValue245
  t229 := Tryz.underlying246
  a229 := Tryz.isAgg246
  z229 := Tryz.sizeOf246
  v229 := Tryz.zeroValue246 }
end Go.Proofs

namespace Go.Proofs
open Go.Shelf
open Go.Sort Go.RowKit in
theorem Tryz.slices_Sort_int (blk off cap : Nat) (zs : List Int) (w : World) (hH : Holds (Value.int .i64) w blk off zs.toArray) (hblk : blk < w.heap.size) (hsz : zs.length < 4611686018427387904) :
    Calls Tryz.prog 76 #[.slice (some ⟨blk, off, none⟩) zs.length cap] w fun e w' =>
      e = .returned (.tuple #[]) ∧ ∃ n os, w' = grow (putRow (Value.int .i64) (Sort.ahead w n) blk off (zs.mergeSort fun x y => decide (x ≤ y)).toArray) os := Any.slices_Sort_int Tryz.lays189 blk off cap zs w hH hblk hsz
end Go.Proofs

namespace Go.AE
open Go Go.RowKit
set_option maxRecDepth 100000

theorem csOf_eq {f : Nat} {y : Option VH} {v : V} {h : HS} (e : csOf f y = .ok v h) : y = some ⟨v, h⟩ := by
  cases y with
  | none => cases e
  | some vh => obtain ⟨v1, h1⟩ := vh; cases e; rfl

theorem insN_perm (n : Nat) : ∀ l : List Nat, (insN n l).Perm (n :: l)
  | [] => List.Perm.refl _
  | m :: l => by
    show (bi (Nat.ble n m) (n :: m :: l) (m :: insN n l)).Perm _
    rw [bi_if]
    split
    · exact List.Perm.refl _
    · exact ((insN_perm n l).cons m).trans (List.Perm.swap ..)
theorem insN_sorted (n : Nat) : ∀ {l : List Nat}, l.Pairwise (· ≤ ·) → (insN n l).Pairwise (· ≤ ·)
  | [], _ => by simp [insN]
  | m :: l, h => by
    show (bi (Nat.ble n m) (n :: m :: l) (m :: insN n l)).Pairwise _
    obtain ⟨h1, h2⟩ := List.pairwise_cons.1 h
    rw [bi_if]
    split
    · rename_i hb
      have hb := ble_iff.1 hb
      refine List.pairwise_cons.2 ⟨fun x hx => ?_, h⟩
      rcases List.mem_cons.1 hx with rfl | hx
      · exact hb
      · exact Nat.le_trans hb (h1 x hx)
    · rename_i hb
      have hb := ble_false.1 (Bool.eq_false_iff.2 hb)
      refine List.pairwise_cons.2 ⟨fun x hx => ?_, insN_sorted n h2⟩
      rcases List.mem_cons.1 ((insN_perm n l).mem_iff.1 hx) with rfl | hx
      · omega
      · exact h1 x hx

theorem sortRuns_ok {σ : Val} : ∀ {r : V} {xs : List Value} {tl : Runs} {l : List Nat}, SR σ r xs → sortRuns (r.runs tl) = some l →
    ∃ ns lt : List Nat, xs = ns.map (fun n => Value.int .i64 (n : Nat)) ∧ sortRuns tl = some lt ∧ l = ns.foldr insN lt := by
  intro r
  have cons : ∀ {n : Nat} {v : V} {tl : Runs} {l : List Nat}, sortRuns (.cons n v tl) = some l → ∃ b lt, n = 1 ∧ v = .nat .i64 b ∧ sortRuns tl = some lt ∧ l = insN b lt := by
    intro n v tl l h
    replace h : bi (Nat.beq n 1) (onNat v fun k b => bi (kEq k .i64) (ob (sortRuns tl) fun l => some (insN b l)) none) none = some l := h
    simp only [bi_eq, beq_iff, onNat_eq, ob_eq] at h
    obtain ⟨hn, k, b, rfl, ⟨hk, lt, hlt, e⟩ | ⟨_, e⟩⟩ | ⟨_, e⟩ := h <;> cases e
    have hk := kEq_eq hk
    subst hk
    exact ⟨b, lt, hn, rfl, hlt, rfl⟩
  have one : ∀ {v : V} {xs : List Value} {tl : Runs} {l : List Nat}, SR σ v xs → sortRuns (.cons 1 v tl) = some l →
      ∃ ns lt : List Nat, xs = ns.map (fun n => Value.int .i64 (n : Nat)) ∧ sortRuns tl = some lt ∧ l = ns.foldr insN lt := by
    intro v xs tl l hv h
    obtain ⟨b, lt, _, rfl, h1, h2⟩ := cons h
    have hv : xs = [.int .i64 (b : Nat)] := hv
    exact ⟨[b], lt, hv, h1, h2⟩
  induction r with
  | nil =>
    intro xs tl l hr h
    have hr : xs = [] := hr
    exact ⟨[], l, hr, h, rfl⟩
  | rep n v ih =>
    intro xs tl l hr h
    obtain ⟨y, _, hv, rfl⟩ := hr
    obtain ⟨b, lt, rfl, rfl, h1, h2⟩ := cons h
    have hv : [y] = [.int .i64 (b : Nat)] := hv
    cases hv
    exact ⟨[b], lt, rfl, h1, h2⟩
  | cat nl n l r ihl ihr =>
    intro xs tl l' hr h
    obtain ⟨a, b, ha, hb, _, _, rfl⟩ := hr
    obtain ⟨ns, lt, rfl, h1, h2⟩ := ihl ha h
    obtain ⟨ms, lt', rfl, h3, h4⟩ := ihr hb h1
    exact ⟨ns ++ ms, lt', by simp, h3, by rw [h2, h4, List.foldr_append]⟩
  | _ => intro xs tl l hr h; exact one hr h

theorem foldr_insN (ns : List Nat) : (ns.foldr insN []).Perm ns ∧ (ns.foldr insN []).Pairwise (· ≤ ·) := by
  induction ns with
  | nil => exact ⟨List.Perm.refl _, List.Pairwise.nil⟩
  | cons n ns ih => exact ⟨(insN_perm n _).trans (ih.1.cons n), insN_sorted n ih.2⟩

theorem putCells_eq {zs : List Int} {cs rest : List Value} (hl : cs.length = zs.length) :
    Sort.putCells (Value.int .i64) 0 zs.toArray (cs ++ rest).toArray = (zs.map (Value.int .i64) ++ rest).toArray := by
  apply Array.ext_getElem?
  intro k
  unfold Sort.putCells
  rw [Array.getElem?_mapIdx]
  by_cases hk : k < zs.length
  · have h1 : k < (cs ++ rest).length := by rw [List.length_append]; omega
    simp [hk, List.getElem?_append_left, hl]
  · simp [hk, List.getElem?_append, hl]

theorem ovSort_ok {B : Nat} {w0 : World} : FnOK Go.Proofs.Tryz.prog B w0 76 ovSort := by
  intro σ a args h w v h' ha hr hu hrun
  have hy := csOf_eq hrun
  simp only [onSl_eq, bi_eq, onBag_eq, ob_eq, beq_iff, ble_iff] at hy
  obtain ⟨_, e⟩ | ⟨_, e⟩ | ⟨id, off, n, cap, cx, rfl, ⟨rfl, ⟨hn, e, r, x, hbag, ⟨hsz, l, hl, e'⟩ | ⟨_, e'⟩⟩ | ⟨_, e'⟩⟩ | ⟨_, e'⟩⟩ := hy
  · cases e
  · cases e
  · cases e'
    obtain ⟨b, e2, hb, hcap, rfl⟩ := ha
    obtain ⟨hf, cs, cs0, rest, fz, hw, hr0, hp, h1, hfz, hx⟩ := hr.get hb hbag
    have hsize := hr0.len
    obtain ⟨ns, lt, rfl, hlt, rfl⟩ := sortRuns_ok (tl := .nil) hr0 hl
    have hlt : some ([] : List Nat) = some lt := hlt
    cases hlt
    obtain ⟨hl1, hl2⟩ := foldr_insN ns
    let proj : Value → Int := fun v => match v with
      | .int _ q => q
      | _ => 0
    have hcs : cs = (cs.map proj).map (Value.int .i64) := by
      rw [List.map_map]
      symm
      conv => rhs; rw [← List.map_id cs]
      apply List.map_congr_left
      intro c hc
      obtain ⟨n, _, rfl⟩ := List.mem_map.1 (hp.mem_iff.1 hc)
      rfl
    have hzp : (cs.map proj).Perm (ns.map fun n : Nat => (n : Int)) := by
      have := hp.map proj
      rw [List.map_map] at this
      exact this
    generalize cs.map proj = zs at hcs hzp
    subst hcs
    have hlen : zs.length = n := by have := hp.length_eq; simp at this hsize; omega
    have hsort : zs.mergeSort (fun x y => decide (x ≤ y)) = (ns.foldr insN []).map fun n : Nat => (n : Int) := by
      have hperm : zs.Perm ((ns.foldr insN []).map fun n : Nat => (n : Int)) := hzp.trans ((hl1.map _).symm)
      have hs2 : ((ns.foldr insN []).map fun n : Nat => (n : Int)).Pairwise (fun x y => x ≤ y) := by
        rw [List.pairwise_map]
        exact hl2.imp fun h => by exact_mod_cast h
      have hs1 : (zs.mergeSort (fun x y => decide (x ≤ y))).Pairwise (fun x y => x ≤ y) := by
        have := List.pairwise_mergeSort (le := fun x y : Int => decide (x ≤ y)) (fun a b c h1 h2 => by simp at *; omega) (fun a b => by simp; omega) zs
        exact this.imp fun h => of_decide_eq_true h
      exact ((List.mergeSort_perm zs _).trans hperm).eq_of_pairwise (le := fun x y : Int => x ≤ y) (fun a b _ _ h1 h2 => Int.le_antisymm h1 h2) hs1 hs2
    have hblk : b < w.heap.size := (Array.getElem?_eq_some_iff.1 hw).1
    have hH : Sort.Holds (Value.int .i64) w b 0 zs.toArray := by
      intro j hj
      have hj : j < zs.length := by simpa using hj
      refine ⟨?_, ?_⟩
      · rw [cell_of hw]
        rw [Nat.zero_add, List.getElem?_append_left (by simpa using hj)]
        simp [hj]
      · simp only [World.frozen?, hw, Nat.zero_add]
        have hj2 : j < (zs.map (Value.int .i64)).length + rest.length := by simp; omega
        rcases hfz with h | h
        · rw [h, Bool.and_eq_false_iff]
          by_cases hlo : fz.2 ≤ j
          · exact .inr (by simp; omega)
          · exact .inl (by simp; omega)
        · rw [Bool.and_eq_false_iff]
          exact .inl (by simp; omega)
    have hcalls := Go.Proofs.Tryz.slices_Sort_int b 0 (cap + e2) zs w hH hblk (by omega)
    rw [hlen] at hcalls
    refine Calls.mono hcalls ?_
    rintro en w' ⟨rfl, k, os, rfl⟩
    rw [hsort]
    show ∃ σ', St _ B w0 σ h.fn h.c w σ' _ _ _ ∧ VR σ' undefV _
    have hwr : Wrote w (Sort.putRow (Value.int .i64) (Sort.ahead w k) b 0 ((ns.foldr insN []).map fun n : Nat => (n : Int)).toArray) b (.cells (((ns.foldr insN []).map fun n => Value.int .i64 (n : Nat)) ++ rest).toArray e fz) := by
      have hget : ∀ m, (Sort.putRow (Value.int .i64) (Sort.ahead w k) b 0 ((ns.foldr insN []).map fun n : Nat => (n : Int)).toArray).heap[m]? = if b = m then (w.heap[m]?).map (Sort.onCells (Sort.putCells (Value.int .i64) 0 ((ns.foldr insN []).map fun n : Nat => (n : Int)).toArray)) else w.heap[m]? := by
        intro m
        show (w.heap.modify b _)[m]? = _
        rw [Array.getElem?_modify]
      refine ⟨?_, ?_, fun m hm => ?_, rfl, rfl, rfl⟩
      · show (w.heap.modify b _).size = _
        simp
      · rw [hget, if_pos rfl, hw]
        simp only [Option.map_some, Sort.onCells]
        rw [putCells_eq (by have h := hl1.length_eq; have h' := hzp.length_eq; simp at h h' ⊢; omega)]
        rw [List.map_map]
        rfl
      · rw [hget, if_neg (Ne.symm hm)]
    have hst := St.write (b' := .cells e (V.ofList ((ns.foldr insN []).map fun n => .nat .i64 n)) x) hr hf hb hwr ⟨(ns.foldr insN []).map fun n => Value.int .i64 (n : Nat), rest, fz, rfl, ?_, ?_, ?_, by cases x <;> exact hx⟩
    · exact ⟨σ, hst.trans (St.more hst.rel os), undef_VR σ⟩
    · have := ofList_SR (σ := σ) (l := (ns.foldr insN []).map fun n => (V.nat .i64 n, Value.int .i64 (n : Nat))) fun p hp => by
        obtain ⟨n, _, rfl⟩ := List.mem_map.1 hp
        exact VR.nat
      rw [List.map_map, List.map_map] at this
      exact this
    · intro c hc
      obtain ⟨n, _, rfl⟩ := List.mem_map.1 hc
      rfl
    · have h := hl1.length_eq
      have h' := hzp.length_eq
      rcases hfz with h2 | h2
      · exact .inl h2
      · exact .inr (by simp at h h' h2 ⊢; omega)
  all_goals cases e'
end Go.AE

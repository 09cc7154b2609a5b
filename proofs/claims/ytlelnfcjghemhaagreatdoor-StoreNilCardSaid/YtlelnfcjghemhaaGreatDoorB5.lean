/- The loops that collect a map's keys are what their stand-ins say. -/
import Derived.Test.YtlelnfcjghemhaaGreatDoorB4
import Derived.OwnWalk
import Derived.Test.YtlelnfcjghemhaaGreatDoorB3
namespace Go.AE
open Go Go.RowKit
set_option maxRecDepth 100000

/-- the loop that begins with that region -/
def loopAt (r : Nat) : Code → Option Code
  | .loop c => if firstRegion c = some r then some c else loopAt r c
  | .seq a b => (match loopAt r a with
    | some c => some c
    | none => loopAt r b)
  | .block _ c => loopAt r c
  | .scope c => loopAt r c
  | .cond _ a b => (match loopAt r a with
    | some c => some c
    | none => loopAt r b)
  | _ => none

theorem nodup_length {α : Type} {l l' : List α} (hn : l.Nodup) (hs : ∀ x ∈ l, x ∈ l') : l.length ≤ l'.length := by
  letI : DecidableEq α := fun a b => Classical.propDecidable (a = b)
  induction l generalizing l' with
  | nil => exact Nat.zero_le _
  | cons a t ih =>
    obtain ⟨h1, h2⟩ := List.nodup_cons.1 hn
    have ha := hs a (List.mem_cons_self ..)
    have := ih (l' := l'.erase a) h2 fun x hx => (List.mem_erase_of_ne (fun e : x = a => h1 (by rw [← e]; exact hx))).2 (hs x (List.mem_cons_of_mem _ hx))
    have hl := List.length_erase_of_mem ha
    have : 0 < l'.length := List.length_pos_of_mem ha
    simp only [List.length_cons]
    omega

/-- one step of a range over a map -/
theorem next_step {P : Program} {w : World} {ib bm clock st : Nat} {ents : Array MapEntry} {vis : List MapEntry} (hi : w.heap[ib]? = some (.mapIter (some bm) clock (vis.map (·.born)).toArray st)) (hm : w.heap[bm]? = some (.map ents clock))
    (hb : ∀ x ∈ ents.toList, x.born < clock) (hnd : (ents.toList.map (·.born)).Nodup) (hst : clock ≤ st) (hsub : ∀ e ∈ vis, e ∈ ents.toList) (hvn : (vis.map (·.born)).Nodup) (hne : ib ≠ bm) (ty : TypeId) :
    (vis.Perm ents.toList ∧ (Instr.next (.pointer (some ⟨ib, 0, none⟩)) false ty).run P w = .ok (.tuple #[.bool false]) w) ∨
    (vis.length < ents.size ∧ ∃ e ∈ ents.toList, ∃ w2 : World, ((vis ++ [e]).map (·.born)).Nodup ∧ (Instr.next (.pointer (some ⟨ib, 0, none⟩)) false ty).run P w = .ok (.tuple #[.bool true, e.key, e.val]) w2 ∧
      w2.heap[ib]? = some (.mapIter (some bm) clock ((vis ++ [e]).map (·.born)).toArray clock) ∧ (∀ m, m ≠ ib → w2.heap[m]? = w.heap[m]?) ∧ w2.heap.size = w.heap.size ∧ w2.os = w.os ∧ w2.tape = w.tape ∧ w2.output = w.output ∧
      (Instr.entry (.pointer (some ⟨ib, 0, none⟩))).run P w2 = .ok (.tuple #[e.key, e.val]) w2) := by
  have hen : ents.toList.Nodup := (List.pairwise_map.1 hnd).imp fun h e => h (by rw [e])
  have hvd : vis.Nodup := (List.pairwise_map.1 hvn).imp fun h e => h (by rw [e])
  have hlo : ∀ e, e ∈ (leftOf ents (vis.map (·.born)).toArray).toList ↔ e ∈ ents.toList ∧ e.born ∉ vis.map (·.born) := by
    intro e
    simp [leftOf]
  have hinj : ∀ {a b : MapEntry}, a ∈ ents.toList → b ∈ ents.toList → a.born = b.born → a = b := by
    intro a b ha hb' hab
    obtain ⟨i, hi, rfl⟩ := List.getElem_of_mem ha
    obtain ⟨j, hj, rfl⟩ := List.getElem_of_mem hb'
    by_cases hij : i = j
    · subst hij; rfl
    · exfalso
      have hp := List.pairwise_map.1 hnd
      rcases Nat.lt_or_gt_of_ne hij with h | h
      · exact List.pairwise_iff_getElem.1 hp i j hi hj h hab
      · exact List.pairwise_iff_getElem.1 hp j i hj hi h hab.symm
  have hil : ib < w.heap.size := (Array.getElem?_eq_some_iff.1 hi).1
  rcases run_next_at (P := P) w ty ib bm clock st _ ents clock hi hm hb hst with ⟨h0, hrun⟩ | ⟨e, he, w1, hw1, hrun⟩
  · refine .inl ⟨(List.perm_ext_iff_of_nodup hvd hen).2 fun e => ⟨hsub e, fun h => ?_⟩, hrun⟩
    by_cases hin : e.born ∈ vis.map (·.born)
    · obtain ⟨e', he', hb'⟩ := List.mem_map.1 hin
      rw [← hinj (hsub e' he') h hb']; exact he'
    · have := (hlo e).2 ⟨h, hin⟩
      rw [Array.size_eq_zero_iff.1 h0] at this
      cases this
  · obtain ⟨h1, h2⟩ := (hlo e).1 he
    have hnew : e ∉ vis := fun h => h2 (List.mem_map.2 ⟨e, h, rfl⟩)
    have hlen : vis.length < ents.size := by
      have hnd2 : (e :: vis).Nodup := List.nodup_cons.2 ⟨hnew, hvd⟩
      have := nodup_length hnd2 (l' := ents.toList) (fun x hx => (List.mem_cons.1 hx).elim (fun h => h ▸ h1) (hsub x))
      simp at this; omega
    have hheap : w1.heap = w.heap := by rcases hw1 with rfl | rfl <;> rfl
    have hib : (ChangeMaps.setBlock w1 ib (.mapIter (some bm) clock ((vis.map (·.born)).toArray.push e.born) clock)).heap[ib]? = some (.mapIter (some bm) clock ((vis.map (·.born)).toArray.push e.born) clock) := by
      simp [ChangeMaps.setBlock, hheap, hil]
    have hoth : ∀ m, m ≠ ib → (ChangeMaps.setBlock w1 ib (.mapIter (some bm) clock ((vis.map (·.born)).toArray.push e.born) clock)).heap[m]? = w.heap[m]? := by
      intro m hm'
      simp [ChangeMaps.setBlock, hheap, Array.getElem?_setIfInBounds_ne (Ne.symm hm')]
    refine .inr ⟨hlen, e, h1, _, ?_, hrun, ?_, hoth, by simp [ChangeMaps.setBlock, hheap], ?_, ?_, ?_, ?_⟩
    · rw [List.map_append, List.map_cons, List.map_nil]
      exact List.nodup_append.2 ⟨hvn, by simp, fun a ha b hb' => by simp at hb'; subst hb'; exact fun e' => h2 (e' ▸ ha)⟩
    · rw [hib]; simp
    · rcases hw1 with rfl | rfl <;> rfl
    · rcases hw1 with rfl | rfl <;> rfl
    · rcases hw1 with rfl | rfl <;> rfl
    · exact run_entry_at _ ib bm clock _ ents clock e hib (by rw [hoth bm (Ne.symm hne)]; exact hm) h1 hnd
end Go.AE

namespace Go.AE
open Go Go.RowKit
set_option maxRecDepth 100000

theorem int_info : (Go.Proofs.Tryz.prog.info? 3).map (fun i => (i.zero, i.size, i.bytes)) = some (some (.int .i64 0), 1, 8) := by kernel_rfl
/-- so many are seen -/
def seenOf (w : World) (ib : Nat) : Nat := match w.heap[ib]? with
  | some (.mapIter _ _ s _) => s.size
  | _ => 0
/-- nothing changes but one block, and what is new -/
structure Beside (w w' : World) (ib : Nat) : Prop where
  size : w.heap.size ≤ w'.heap.size
  same : ∀ m, m < w.heap.size → m ≠ ib → w'.heap[m]? = w.heap[m]?
  os : w'.os = w.os
  tape : w'.tape = w.tape
  output : w'.output = w.output
theorem Beside.refl (w : World) (ib : Nat) : Beside w w ib := ⟨Nat.le_refl _, fun _ _ _ => rfl, rfl, rfl, rfl⟩
/-- the keys are collected, in some order -/
def BagEnd (w w' : World) (ib : Nat) (ents : Array MapEntry) (v' : Value) : Prop :=
  ∃ vis : List MapEntry, vis.Perm ents.toList ∧ w'.ownsRow w.heap.size 3 1 v' vis.length (vis.map (·.key)) ∧ (v' = .slice none 0 0 ↔ vis = []) ∧ Beside w w' ib
theorem ownsRow_same {w w' : World} {base e size n : Nat} {v : Value} {xs : List Value} (h : ∀ m, base ≤ m → w'.heap[m]? = w.heap[m]?) (hr : w.ownsRow base e size v n xs) : w'.ownsRow base e size v n xs := by
  refine ⟨hr.1, hr.2.imp id ?_⟩
  rintro ⟨g, cap, cur, h1, h2, h3, h4⟩
  exact ⟨g, cap, cur, h1, h2, (h g h2).trans h3, h4⟩

set_option maxHeartbeats 4000000 in
theorem bag34 (b : Code) (hb : (Go.Proofs.Tryz.f34.body.bind (loopAt 9)) = some b) (l : List Value) (hl : l.length = 75) (D : List Deferred) (w : World) {ib bm clock st : Nat} {ents : Array MapEntry}
    (h27 : l[27]? = some (.pointer (some ⟨ib, 0, none⟩))) (h3 : l[3]? = some (.slice none 0 0)) (hi : w.heap[ib]? = some (.mapIter (some bm) clock #[] st)) (hm : w.heap[bm]? = some (.map ents clock))
    (hbn : ∀ x ∈ ents.toList, x.born < clock) (hnd : (ents.toList.map (·.born)).Nodup) (hst : clock ≤ st) (hne : ib ≠ bm) (hkeys : ∀ e ∈ ents.toList, ∃ q : Int, e.key = .int .i64 q) (hsz : ents.size ≤ 1000000)
    (Q : Exit → Act → World → Prop) (hQ : ∀ (l' : List Value) (w' : World) (v' : Value), But [3, 4, 28, 29, 30, 31, 32, 33, 34, 35] 0 l l' → l'[3]? = some v' → BagEnd w w' ib ents v' → Q (.exit 1) { tmps := l'.toArray, defers := D } w') :
    (Code.loop b).wp Go.Proofs.Tryz.prog Q { tmps := l.toArray, defers := D } w := by
  obtain ⟨i0, hi0, hz0, hz1, hz2⟩ := info_parts int_info
  obtain ⟨u0, l0, rfl, k0⟩ := uncons hl
  obtain ⟨u1, l1, rfl, k1⟩ := uncons k0
  obtain ⟨u2, l2, rfl, k2⟩ := uncons k1
  obtain ⟨u3, l3, rfl, k3⟩ := uncons k2
  obtain ⟨u4, l4, rfl, k4⟩ := uncons k3
  obtain ⟨u5, l5, rfl, k5⟩ := uncons k4
  obtain ⟨u6, l6, rfl, k6⟩ := uncons k5
  obtain ⟨u7, l7, rfl, k7⟩ := uncons k6
  obtain ⟨u8, l8, rfl, k8⟩ := uncons k7
  obtain ⟨u9, l9, rfl, k9⟩ := uncons k8
  obtain ⟨u10, l10, rfl, k10⟩ := uncons k9
  obtain ⟨u11, l11, rfl, k11⟩ := uncons k10
  obtain ⟨u12, l12, rfl, k12⟩ := uncons k11
  obtain ⟨u13, l13, rfl, k13⟩ := uncons k12
  obtain ⟨u14, l14, rfl, k14⟩ := uncons k13
  obtain ⟨u15, l15, rfl, k15⟩ := uncons k14
  obtain ⟨u16, l16, rfl, k16⟩ := uncons k15
  obtain ⟨u17, l17, rfl, k17⟩ := uncons k16
  obtain ⟨u18, l18, rfl, k18⟩ := uncons k17
  obtain ⟨u19, l19, rfl, k19⟩ := uncons k18
  obtain ⟨u20, l20, rfl, k20⟩ := uncons k19
  obtain ⟨u21, l21, rfl, k21⟩ := uncons k20
  obtain ⟨u22, l22, rfl, k22⟩ := uncons k21
  obtain ⟨u23, l23, rfl, k23⟩ := uncons k22
  obtain ⟨u24, l24, rfl, k24⟩ := uncons k23
  obtain ⟨u25, l25, rfl, k25⟩ := uncons k24
  obtain ⟨u26, l26, rfl, k26⟩ := uncons k25
  obtain ⟨u27, l27, rfl, k27⟩ := uncons k26
  obtain ⟨u28, l28, rfl, k28⟩ := uncons k27
  obtain ⟨u29, l29, rfl, k29⟩ := uncons k28
  obtain ⟨u30, l30, rfl, k30⟩ := uncons k29
  obtain ⟨u31, l31, rfl, k31⟩ := uncons k30
  obtain ⟨u32, l32, rfl, k32⟩ := uncons k31
  obtain ⟨u33, l33, rfl, k33⟩ := uncons k32
  obtain ⟨u34, l34, rfl, k34⟩ := uncons k33
  obtain ⟨u35, l35, rfl, k35⟩ := uncons k34
  obtain ⟨u36, l36, rfl, k36⟩ := uncons k35
  obtain ⟨u37, l37, rfl, k37⟩ := uncons k36
  obtain ⟨u38, l38, rfl, k38⟩ := uncons k37
  obtain ⟨u39, l39, rfl, k39⟩ := uncons k38
  obtain ⟨u40, l40, rfl, k40⟩ := uncons k39
  obtain ⟨u41, l41, rfl, k41⟩ := uncons k40
  obtain ⟨u42, l42, rfl, k42⟩ := uncons k41
  obtain ⟨u43, l43, rfl, k43⟩ := uncons k42
  obtain ⟨u44, l44, rfl, k44⟩ := uncons k43
  obtain ⟨u45, l45, rfl, k45⟩ := uncons k44
  obtain ⟨u46, l46, rfl, k46⟩ := uncons k45
  obtain ⟨u47, l47, rfl, k47⟩ := uncons k46
  obtain ⟨u48, l48, rfl, k48⟩ := uncons k47
  obtain ⟨u49, l49, rfl, k49⟩ := uncons k48
  obtain ⟨u50, l50, rfl, k50⟩ := uncons k49
  obtain ⟨u51, l51, rfl, k51⟩ := uncons k50
  obtain ⟨u52, l52, rfl, k52⟩ := uncons k51
  obtain ⟨u53, l53, rfl, k53⟩ := uncons k52
  obtain ⟨u54, l54, rfl, k54⟩ := uncons k53
  obtain ⟨u55, l55, rfl, k55⟩ := uncons k54
  obtain ⟨u56, l56, rfl, k56⟩ := uncons k55
  obtain ⟨u57, l57, rfl, k57⟩ := uncons k56
  obtain ⟨u58, l58, rfl, k58⟩ := uncons k57
  obtain ⟨u59, l59, rfl, k59⟩ := uncons k58
  obtain ⟨u60, l60, rfl, k60⟩ := uncons k59
  obtain ⟨u61, l61, rfl, k61⟩ := uncons k60
  obtain ⟨u62, l62, rfl, k62⟩ := uncons k61
  obtain ⟨u63, l63, rfl, k63⟩ := uncons k62
  obtain ⟨u64, l64, rfl, k64⟩ := uncons k63
  obtain ⟨u65, l65, rfl, k65⟩ := uncons k64
  obtain ⟨u66, l66, rfl, k66⟩ := uncons k65
  obtain ⟨u67, l67, rfl, k67⟩ := uncons k66
  obtain ⟨u68, l68, rfl, k68⟩ := uncons k67
  obtain ⟨u69, l69, rfl, k69⟩ := uncons k68
  obtain ⟨u70, l70, rfl, k70⟩ := uncons k69
  obtain ⟨u71, l71, rfl, k71⟩ := uncons k70
  obtain ⟨u72, l72, rfl, k72⟩ := uncons k71
  obtain ⟨u73, l73, rfl, k73⟩ := uncons k72
  obtain ⟨u74, l74, rfl, k74⟩ := uncons k73
  have hnil := List.length_eq_zero_iff.1 k74
  subst hnil
  clear hl k0 k1 k2 k3 k4 k5 k6 k7 k8 k9 k10 k11 k12 k13 k14 k15 k16 k17 k18 k19 k20 k21 k22 k23 k24 k25 k26 k27 k28 k29 k30 k31 k32 k33 k34 k35 k36 k37 k38 k39 k40 k41 k42 k43 k44 k45 k46 k47 k48 k49 k50 k51 k52 k53 k54 k55 k56 k57 k58 k59 k60 k61 k62 k63 k64 k65 k66 k67 k68 k69 k70 k71 k72 k73 k74
  replace h27 := Option.some.inj (show some u27 = some _ from h27)
  replace h3 := Option.some.inj (show some u3 = some _ from h3)
  subst h27 h3
  simp only [Go.Proofs.Tryz.f34, Option.bind_some, loopAt, firstRegion, Option.some.injEq, reduceIte] at hb
  subst hb
  go_loopw [3] (fun v wr => ∃ (vis : List MapEntry) (st : Nat), clock ≤ st ∧ wr.heap[ib]? = some (.mapIter (some bm) clock (vis.map (·.born)).toArray st) ∧ wr.ownsRow w.heap.size 3 1 v vis.length (vis.map (·.key)) ∧
      (v = .slice none 0 0 ↔ vis = []) ∧ (∀ e ∈ vis, e ∈ ents.toList) ∧ (vis.map (·.born)).Nodup ∧ Beside w wr ib)
    (fun _ wr => ents.size - seenOf wr ib)
  case atStart => exact ⟨[], st, hst, hi, World.ownsRow_nil .., by simp, by simp, by simp, Beside.refl w ib⟩
  case round =>
    obtain ⟨vis, st', hst', hi', hrow, hvn, hsub, hnd', hbe⟩ := hrel
    have hil : ib < w.heap.size := (Array.getElem?_eq_some_iff.1 hi).1
    have hml : bm < w.heap.size := (Array.getElem?_eq_some_iff.1 hm).1
    have hm' : wr.heap[bm]? = some (.map ents clock) := (hbe.same bm hml (Ne.symm hne)).trans hm
    rcases next_step (P := Go.Proofs.Tryz.prog) hi' hm' hbn hnd hst' hsub hnd' hne 0 with ⟨hperm, hrun⟩ | ⟨hlt, e, he, w2, hnd2, hrun, hi2, hoth, hsz2, hos, htp, hou, hent⟩
    · clear hi' hm' hi hm hbn hnd hkeys hsub hnd'
      go_wp2
      refine hQ _ _ _ ?_ rfl ⟨vis, hperm, hrow, hvn, hbe⟩
      repeat first | exact But.nil | refine But.keep ?_ | refine But.new (by decide) ?_
    · obtain ⟨q, hq⟩ := hkeys e he
      rw [hq] at hrun hent
      have hrow2 : w2.ownsRow w.heap.size 3 1 u3 vis.length (vis.map (·.key)) := ownsRow_same (fun m hm => hoth m (by omega)) hrow
      have hlen : vis.length ≤ 1000000 := by omega
      have hb2 : w.heap.size ≤ w2.heap.size := by have := hbe.size; omega
      have hbe2 : Beside w w2 ib := ⟨hb2, fun m h1 h2 => (hoth m h2).trans (hbe.same m h1 h2), hos.trans hbe.os, htp.trans hbe.tape, hou.trans hbe.output⟩
      have hseen : seenOf wr ib = vis.length := by simp [seenOf, hi']
      clear hi' hm' hi hm hbn hnd hkeys hnd' hbe hos htp hou hoth hsz2
      go_wp2_with (first
        | (at_builtin; refine wpList_append_own _ rfl _ _ 22 rfl w.heap.size 3 i0 (.int .i64 0) 1 8 Go.Proofs.Tryz.underlying22 hi0 hz0 hz1 hz2 rfl (by decide) _ _ _ rfl (hrow2.alloc _) ⟨w2.heap.size, 0, none⟩ 1 1 [.int .i64 q] rfl rfl (cell_one_new _ _ _) (by simp [Value.oneCell']) (by unfold maxLen; omega) (by omega) (by simp; omega) ?_; intro v' w3 hown' hg3 hnil3)
        | go_in)
      have hown : ∀ k, u3.ownBlock = some k → w.heap.size ≤ k := fun k hk => (hrow2.lt k hk).1
      have hget : ∀ m, m < w.heap.size → w3.heap[m]? = w2.heap[m]? := fun m hm => by
        rw [hg3.block m (by simp; omega) (fun e => by have := hown m e.symm; omega)]
        show (w2.heap.push _)[m]? = _
        rw [Array.getElem?_push, if_neg (by omega)]
      have hi3 : w3.heap[ib]? = some (.mapIter (some bm) clock ((vis ++ [e]).map (·.born)).toArray clock) := (hget ib hil).trans hi2
      go_roundw
      case rel =>
        refine ⟨vis ++ [e], clock, Nat.le_refl _, hi3, by simpa [hq] using hown', ?_, ?_, hnd2, ?_⟩
        · constructor
          · intro h; have := (hnil3.1 h).2; omega
          · intro h; simp at h
        · intro x hx
          rcases List.mem_append.1 hx with h | h
          · exact hsub x h
          · simp at h; subst h; exact he
        · refine ⟨by have := hg3.size; simp at this; omega, fun m h1 h2 => (hget m h1).trans (hbe2.same m h1 h2), hg3.os.trans hbe2.os, hg3.tape.trans hbe2.tape, hg3.output.trans hbe2.output⟩
      case measure =>
        have : seenOf w3 ib = vis.length + 1 := by simp [seenOf, hi3]
        rw [this, hseen]; omega


set_option maxHeartbeats 4000000 in
theorem bag68 (b : Code) (hb : (Go.Proofs.Tryz.f68.body.bind (loopAt 11)) = some b) (l : List Value) (hl : l.length = 101) (D : List Deferred) (w : World) {ib bm clock st : Nat} {ents : Array MapEntry}
    (h27 : l[51]? = some (.pointer (some ⟨ib, 0, none⟩))) (h3 : l[7]? = some (.slice none 0 0)) (hi : w.heap[ib]? = some (.mapIter (some bm) clock #[] st)) (hm : w.heap[bm]? = some (.map ents clock))
    (hbn : ∀ x ∈ ents.toList, x.born < clock) (hnd : (ents.toList.map (·.born)).Nodup) (hst : clock ≤ st) (hne : ib ≠ bm) (hkeys : ∀ e ∈ ents.toList, ∃ q : Int, e.key = .int .i64 q) (hsz : ents.size ≤ 1000000)
    (Q : Exit → Act → World → Prop) (hQ : ∀ (l' : List Value) (w' : World) (v' : Value), But [7, 8, 52, 53, 54, 55, 56, 57, 58, 59] 0 l l' → l'[7]? = some v' → BagEnd w w' ib ents v' → Q (.exit 2) { tmps := l'.toArray, defers := D } w') :
    (Code.loop b).wp Go.Proofs.Tryz.prog Q { tmps := l.toArray, defers := D } w := by
  obtain ⟨i0, hi0, hz0, hz1, hz2⟩ := info_parts int_info
  obtain ⟨u0, l0, rfl, k0⟩ := uncons hl
  obtain ⟨u1, l1, rfl, k1⟩ := uncons k0
  obtain ⟨u2, l2, rfl, k2⟩ := uncons k1
  obtain ⟨u3, l3, rfl, k3⟩ := uncons k2
  obtain ⟨u4, l4, rfl, k4⟩ := uncons k3
  obtain ⟨u5, l5, rfl, k5⟩ := uncons k4
  obtain ⟨u6, l6, rfl, k6⟩ := uncons k5
  obtain ⟨u7, l7, rfl, k7⟩ := uncons k6
  obtain ⟨u8, l8, rfl, k8⟩ := uncons k7
  obtain ⟨u9, l9, rfl, k9⟩ := uncons k8
  obtain ⟨u10, l10, rfl, k10⟩ := uncons k9
  obtain ⟨u11, l11, rfl, k11⟩ := uncons k10
  obtain ⟨u12, l12, rfl, k12⟩ := uncons k11
  obtain ⟨u13, l13, rfl, k13⟩ := uncons k12
  obtain ⟨u14, l14, rfl, k14⟩ := uncons k13
  obtain ⟨u15, l15, rfl, k15⟩ := uncons k14
  obtain ⟨u16, l16, rfl, k16⟩ := uncons k15
  obtain ⟨u17, l17, rfl, k17⟩ := uncons k16
  obtain ⟨u18, l18, rfl, k18⟩ := uncons k17
  obtain ⟨u19, l19, rfl, k19⟩ := uncons k18
  obtain ⟨u20, l20, rfl, k20⟩ := uncons k19
  obtain ⟨u21, l21, rfl, k21⟩ := uncons k20
  obtain ⟨u22, l22, rfl, k22⟩ := uncons k21
  obtain ⟨u23, l23, rfl, k23⟩ := uncons k22
  obtain ⟨u24, l24, rfl, k24⟩ := uncons k23
  obtain ⟨u25, l25, rfl, k25⟩ := uncons k24
  obtain ⟨u26, l26, rfl, k26⟩ := uncons k25
  obtain ⟨u27, l27, rfl, k27⟩ := uncons k26
  obtain ⟨u28, l28, rfl, k28⟩ := uncons k27
  obtain ⟨u29, l29, rfl, k29⟩ := uncons k28
  obtain ⟨u30, l30, rfl, k30⟩ := uncons k29
  obtain ⟨u31, l31, rfl, k31⟩ := uncons k30
  obtain ⟨u32, l32, rfl, k32⟩ := uncons k31
  obtain ⟨u33, l33, rfl, k33⟩ := uncons k32
  obtain ⟨u34, l34, rfl, k34⟩ := uncons k33
  obtain ⟨u35, l35, rfl, k35⟩ := uncons k34
  obtain ⟨u36, l36, rfl, k36⟩ := uncons k35
  obtain ⟨u37, l37, rfl, k37⟩ := uncons k36
  obtain ⟨u38, l38, rfl, k38⟩ := uncons k37
  obtain ⟨u39, l39, rfl, k39⟩ := uncons k38
  obtain ⟨u40, l40, rfl, k40⟩ := uncons k39
  obtain ⟨u41, l41, rfl, k41⟩ := uncons k40
  obtain ⟨u42, l42, rfl, k42⟩ := uncons k41
  obtain ⟨u43, l43, rfl, k43⟩ := uncons k42
  obtain ⟨u44, l44, rfl, k44⟩ := uncons k43
  obtain ⟨u45, l45, rfl, k45⟩ := uncons k44
  obtain ⟨u46, l46, rfl, k46⟩ := uncons k45
  obtain ⟨u47, l47, rfl, k47⟩ := uncons k46
  obtain ⟨u48, l48, rfl, k48⟩ := uncons k47
  obtain ⟨u49, l49, rfl, k49⟩ := uncons k48
  obtain ⟨u50, l50, rfl, k50⟩ := uncons k49
  obtain ⟨u51, l51, rfl, k51⟩ := uncons k50
  obtain ⟨u52, l52, rfl, k52⟩ := uncons k51
  obtain ⟨u53, l53, rfl, k53⟩ := uncons k52
  obtain ⟨u54, l54, rfl, k54⟩ := uncons k53
  obtain ⟨u55, l55, rfl, k55⟩ := uncons k54
  obtain ⟨u56, l56, rfl, k56⟩ := uncons k55
  obtain ⟨u57, l57, rfl, k57⟩ := uncons k56
  obtain ⟨u58, l58, rfl, k58⟩ := uncons k57
  obtain ⟨u59, l59, rfl, k59⟩ := uncons k58
  obtain ⟨u60, l60, rfl, k60⟩ := uncons k59
  obtain ⟨u61, l61, rfl, k61⟩ := uncons k60
  obtain ⟨u62, l62, rfl, k62⟩ := uncons k61
  obtain ⟨u63, l63, rfl, k63⟩ := uncons k62
  obtain ⟨u64, l64, rfl, k64⟩ := uncons k63
  obtain ⟨u65, l65, rfl, k65⟩ := uncons k64
  obtain ⟨u66, l66, rfl, k66⟩ := uncons k65
  obtain ⟨u67, l67, rfl, k67⟩ := uncons k66
  obtain ⟨u68, l68, rfl, k68⟩ := uncons k67
  obtain ⟨u69, l69, rfl, k69⟩ := uncons k68
  obtain ⟨u70, l70, rfl, k70⟩ := uncons k69
  obtain ⟨u71, l71, rfl, k71⟩ := uncons k70
  obtain ⟨u72, l72, rfl, k72⟩ := uncons k71
  obtain ⟨u73, l73, rfl, k73⟩ := uncons k72
  obtain ⟨u74, l74, rfl, k74⟩ := uncons k73
  obtain ⟨u75, l75, rfl, k75⟩ := uncons k74
  obtain ⟨u76, l76, rfl, k76⟩ := uncons k75
  obtain ⟨u77, l77, rfl, k77⟩ := uncons k76
  obtain ⟨u78, l78, rfl, k78⟩ := uncons k77
  obtain ⟨u79, l79, rfl, k79⟩ := uncons k78
  obtain ⟨u80, l80, rfl, k80⟩ := uncons k79
  obtain ⟨u81, l81, rfl, k81⟩ := uncons k80
  obtain ⟨u82, l82, rfl, k82⟩ := uncons k81
  obtain ⟨u83, l83, rfl, k83⟩ := uncons k82
  obtain ⟨u84, l84, rfl, k84⟩ := uncons k83
  obtain ⟨u85, l85, rfl, k85⟩ := uncons k84
  obtain ⟨u86, l86, rfl, k86⟩ := uncons k85
  obtain ⟨u87, l87, rfl, k87⟩ := uncons k86
  obtain ⟨u88, l88, rfl, k88⟩ := uncons k87
  obtain ⟨u89, l89, rfl, k89⟩ := uncons k88
  obtain ⟨u90, l90, rfl, k90⟩ := uncons k89
  obtain ⟨u91, l91, rfl, k91⟩ := uncons k90
  obtain ⟨u92, l92, rfl, k92⟩ := uncons k91
  obtain ⟨u93, l93, rfl, k93⟩ := uncons k92
  obtain ⟨u94, l94, rfl, k94⟩ := uncons k93
  obtain ⟨u95, l95, rfl, k95⟩ := uncons k94
  obtain ⟨u96, l96, rfl, k96⟩ := uncons k95
  obtain ⟨u97, l97, rfl, k97⟩ := uncons k96
  obtain ⟨u98, l98, rfl, k98⟩ := uncons k97
  obtain ⟨u99, l99, rfl, k99⟩ := uncons k98
  obtain ⟨u100, l100, rfl, k100⟩ := uncons k99
  have hnil := List.length_eq_zero_iff.1 k100
  subst hnil
  clear hl k0 k1 k2 k3 k4 k5 k6 k7 k8 k9 k10 k11 k12 k13 k14 k15 k16 k17 k18 k19 k20 k21 k22 k23 k24 k25 k26 k27 k28 k29 k30 k31 k32 k33 k34 k35 k36 k37 k38 k39 k40 k41 k42 k43 k44 k45 k46 k47 k48 k49 k50 k51 k52 k53 k54 k55 k56 k57 k58 k59 k60 k61 k62 k63 k64 k65 k66 k67 k68 k69 k70 k71 k72 k73 k74 k75 k76 k77 k78 k79 k80 k81 k82 k83 k84 k85 k86 k87 k88 k89 k90 k91 k92 k93 k94 k95 k96 k97 k98 k99 k100
  replace h27 := Option.some.inj (show some u51 = some _ from h27)
  replace h3 := Option.some.inj (show some u7 = some _ from h3)
  subst h27 h3
  simp only [Go.Proofs.Tryz.f68, Option.bind_some, loopAt, firstRegion, Option.some.injEq, reduceIte, Nat.reduceEqDiff] at hb
  subst hb
  go_loopw [7] (fun v wr => ∃ (vis : List MapEntry) (st : Nat), clock ≤ st ∧ wr.heap[ib]? = some (.mapIter (some bm) clock (vis.map (·.born)).toArray st) ∧ wr.ownsRow w.heap.size 3 1 v vis.length (vis.map (·.key)) ∧
      (v = .slice none 0 0 ↔ vis = []) ∧ (∀ e ∈ vis, e ∈ ents.toList) ∧ (vis.map (·.born)).Nodup ∧ Beside w wr ib)
    (fun _ wr => ents.size - seenOf wr ib)
  case atStart => exact ⟨[], st, hst, hi, World.ownsRow_nil .., by simp, by simp, by simp, Beside.refl w ib⟩
  case round =>
    obtain ⟨vis, st', hst', hi', hrow, hvn, hsub, hnd', hbe⟩ := hrel
    have hil : ib < w.heap.size := (Array.getElem?_eq_some_iff.1 hi).1
    have hml : bm < w.heap.size := (Array.getElem?_eq_some_iff.1 hm).1
    have hm' : wr.heap[bm]? = some (.map ents clock) := (hbe.same bm hml (Ne.symm hne)).trans hm
    rcases next_step (P := Go.Proofs.Tryz.prog) hi' hm' hbn hnd hst' hsub hnd' hne 0 with ⟨hperm, hrun⟩ | ⟨hlt, e, he, w2, hnd2, hrun, hi2, hoth, hsz2, hos, htp, hou, hent⟩
    · clear hi' hm' hi hm hbn hnd hkeys hsub hnd'
      go_wp2
      refine hQ _ _ _ ?_ rfl ⟨vis, hperm, hrow, hvn, hbe⟩
      repeat first | exact But.nil | refine But.keep ?_ | refine But.new (by decide) ?_
    · obtain ⟨q, hq⟩ := hkeys e he
      rw [hq] at hrun hent
      have hrow2 : w2.ownsRow w.heap.size 3 1 u7 vis.length (vis.map (·.key)) := ownsRow_same (fun m hm => hoth m (by omega)) hrow
      have hlen : vis.length ≤ 1000000 := by omega
      have hb2 : w.heap.size ≤ w2.heap.size := by have := hbe.size; omega
      have hbe2 : Beside w w2 ib := ⟨hb2, fun m h1 h2 => (hoth m h2).trans (hbe.same m h1 h2), hos.trans hbe.os, htp.trans hbe.tape, hou.trans hbe.output⟩
      have hseen : seenOf wr ib = vis.length := by simp [seenOf, hi']
      clear hi' hm' hi hm hbn hnd hkeys hnd' hbe hos htp hou hoth hsz2
      go_wp2_with (first
        | (at_builtin; refine wpList_append_own _ rfl _ _ 22 rfl w.heap.size 3 i0 (.int .i64 0) 1 8 Go.Proofs.Tryz.underlying22 hi0 hz0 hz1 hz2 rfl (by decide) _ _ _ rfl (hrow2.alloc _) ⟨w2.heap.size, 0, none⟩ 1 1 [.int .i64 q] rfl rfl (cell_one_new _ _ _) (by simp [Value.oneCell']) (by unfold maxLen; omega) (by omega) (by simp; omega) ?_; intro v' w3 hown' hg3 hnil3)
        | go_in)
      have hown : ∀ k, u7.ownBlock = some k → w.heap.size ≤ k := fun k hk => (hrow2.lt k hk).1
      have hget : ∀ m, m < w.heap.size → w3.heap[m]? = w2.heap[m]? := fun m hm => by
        rw [hg3.block m (by simp; omega) (fun e => by have := hown m e.symm; omega)]
        show (w2.heap.push _)[m]? = _
        rw [Array.getElem?_push, if_neg (by omega)]
      have hi3 : w3.heap[ib]? = some (.mapIter (some bm) clock ((vis ++ [e]).map (·.born)).toArray clock) := (hget ib hil).trans hi2
      go_roundw
      case rel =>
        refine ⟨vis ++ [e], clock, Nat.le_refl _, hi3, by simpa [hq] using hown', ?_, ?_, hnd2, ?_⟩
        · constructor
          · intro h; have := (hnil3.1 h).2; omega
          · intro h; simp at h
        · intro x hx
          rcases List.mem_append.1 hx with h | h
          · exact hsub x h
          · simp at h; subst h; exact he
        · refine ⟨by have := hg3.size; simp at this; omega, fun m h1 h2 => (hget m h1).trans (hbe2.same m h1 h2), hg3.os.trans hbe2.os, hg3.tape.trans hbe2.tape, hg3.output.trans hbe2.output⟩
      case measure =>
        have : seenOf w3 ib = vis.length + 1 := by simp [seenOf, hi3]
        rw [this, hseen]; omega

end Go.AE

namespace Go.AE
open Go Go.RowKit
set_option maxRecDepth 100000

section
variable {P : Program} {B : Nat} {w0 : World} {σ σ' : Val} {h : HS} {w w' : World} {it ib : Nat}

/-- a block is left alone from now on -/
theorem St.drop (hr : HRel P B w0 σ h.fn w) (hit : h.fn it ≠ none) (hib : σ.blk it = some ib) (hbe : Beside w w' ib) : St P B w0 σ h.fn h.c w σ (h.set it none).fn h.c w' := by
  have hid := hr.dom it ib hib
  have hf := HS.set_fn h hid none
  have live : ∀ j n, (h.set it none).fn j ≠ none → σ.blk j = some n → h.fn j ≠ none ∧ n ≠ ib ∧ n < w.heap.size := by
    intro j n hj hn
    rw [hf j] at hj
    by_cases e : j = it
    · rw [if_pos e] at hj; exact absurd rfl hj
    · rw [if_neg e] at hj
      refine ⟨hj, fun e' => e (hr.inj j it n hj hit hn (by rw [e']; exact hib)), ?_⟩
      cases hb : h.fn j with
      | none => exact absurd hb hj
      | some b => exact hr.lt hb hn
  refine ⟨Ext.refl _ _ _, ⟨fun j b n h1 h2 => ?_, fun j j' n h1 h1' h2 h2' => hr.inj j j' n (live j n h1 h2).1 (live j' n h1' h2').1 h2 h2', hr.dom, fun j n h1 h2 => hr.own j n (live j n h1 h2).1 h2,
    ⟨hbe.os.trans hr.keep.os, hbe.tape.trans hr.keep.tape, hbe.output.trans hr.keep.output, Nat.le_trans hr.keep.size hbe.size, fun k hk => ?_⟩, Nat.le_trans hr.base hbe.size⟩,
    Nat.le_refl _, hbe.size, fun b hb hfo => hbe.same b hb fun e => hfo it hit (by rw [e]; exact hib), fun j n h1 h2 _ => ⟨j, (live j n h1 h2).1, h2⟩, fun j h1 _ => ?_⟩
  · obtain ⟨a, b', c⟩ := live j n (by rw [h1]; simp) h2
    rw [hbe.same n c b']
    rw [hf j] at h1
    by_cases e : j = it
    · rw [if_pos e] at h1; cases h1
    · rw [if_neg e] at h1; exact hr.blk j b n h1 h2
  · have := hr.own it ib hit hib
    rw [hbe.same k (Nat.lt_of_lt_of_le hk hr.base) (by omega)]
    exact hr.keep.block k hk
  · rw [hf j, if_neg (fun e => by rw [e, hib] at h1; cases h1)]

/-- and a new one is there -/
theorem St.dropNew {b : Blk} {f : Nat → V} {vh : VH} {g : Nat} (hr : HRel P B w0 σ h.fn w) (hit : h.fn it ≠ none) (hib : σ.blk it = some ib) (hbe : Beside w w' ib) (hn : (h.set it none).new b f = some vh)
    (hg : w.heap.size ≤ g) (he : Ext σ σ' h.c (h.c + 1)) (hc : σ'.blk h.c = some g) (hb : BR P σ' b w'.heap[g]?) : St P B w0 σ h.fn h.c w σ' vh.h.fn vh.h.c w' := by
  obtain ⟨hlt, _, hc', hf⟩ := HS.new_eq hn
  rw [HS.set_c] at hlt hc' hf
  have hd := St.drop hr hit hib hbe
  have old : ∀ id n, id ≠ h.c → σ'.blk id = some n → σ.blk id = some n := by
    intro id n hne h1
    cases h2 : σ.blk id with
    | none =>
      have := he.blk id h2 (by omega)
      rw [this] at h1; cases h1
    | some m => have := he.le.blk id m h2; rw [h1] at this; exact this.symm
  have live : ∀ id n, vh.h.fn id ≠ none → σ'.blk id = some n → (id = h.c ∧ n = g) ∨ (id ≠ h.c ∧ (h.set it none).fn id ≠ none ∧ σ.blk id = some n ∧ n < w.heap.size) := by
    intro id n h1 h2
    by_cases e : id = h.c
    · subst e; rw [hc] at h2; cases h2; exact .inl ⟨rfl, rfl⟩
    · rw [hf id, if_neg e] at h1
      have h3 := old id n e h2
      refine .inr ⟨e, h1, h3, ?_⟩
      rw [HS.set_fn h (hr.dom it ib hib) none id] at h1
      by_cases e2 : id = it
      · rw [if_pos e2] at h1; exact absurd rfl h1
      · rw [if_neg e2] at h1
        cases hb' : h.fn id with
        | none => exact absurd hb' h1
        | some b' => exact hr.lt hb' h3
  rw [hc']
  refine ⟨he, ⟨fun id b' n h1 h2 => ?_, fun id id' n h1 h1' h2 h2' => ?_, fun id n h1 => ?_, fun id n h1 h2 => ?_, hd.rel.keep, hd.rel.base⟩, Nat.le_succ _, hbe.size, fun m hm hfo => hd.frame m hm hfo, fun id n h1 h2 hn => ?_, fun id h1 h2 => ?_⟩
  · by_cases e : id = h.c
    · subst e
      rw [hc] at h2; cases h2
      rw [hf, if_pos rfl] at h1; cases h1
      exact hb
    · rw [hf, if_neg e] at h1
      exact (hd.rel.blk id b' n h1 (old id n e h2)).mono P he.le
  · rcases live id n h1 h2 with ⟨a, b⟩ | ⟨a, b, c, d⟩ <;> rcases live id' n h1' h2' with ⟨a', b'⟩ | ⟨a', b', c', d'⟩
    · omega
    · omega
    · omega
    · exact hd.rel.inj id id' n b b' c c'
  · by_cases e : id = h.c
    · omega
    · exact hr.dom id n (old id n e h1)
  · rcases live id n h1 h2 with ⟨a, b⟩ | ⟨a, b, c, d⟩
    · have := hr.base; omega
    · exact hd.rel.own id n b c
  · rcases live id n h1 h2 with ⟨a, b⟩ | ⟨a, b, c, d⟩
    · omega
    · exact hd.foot id n b c d
  · rw [hf, if_neg (by omega)]
    exact hd.virt id h1 (by omega)
end

theorem But.perm {ds ds' : List Nat} (hd : ∀ m ∈ ds, m ∈ ds') : ∀ {l l' : List Value} {k : Nat}, But ds k l l' → But ds' k l l'
  | [], _, _, h => h
  | _ :: _, _, _, ⟨v, r, e, h1, h2⟩ => ⟨v, r, e, h1.imp (hd _) id, h2.perm hd⟩

/-! what the loops' stand-ins say -/
theorem freshIter_eq {tit : Nat} {t : T} {h : HS} {f : Nat → Es → Option VH} {vh : VH} (e : freshIter tit t h f = some vh) :
    ∃ it m since stepped es, tg tit t = some (.ptr it 0) ∧ h.get it = some (.iter m since .nil stepped) ∧ h.get m = some (.map es since) ∧ f it es = some vh := by
  unfold freshIter at e
  simp only [ob_eq, onPtr_eq, bi_eq, beq_iff, onIter_eq, onMapB_eq] at e
  obtain ⟨p, hp, it, off, rfl, ⟨rfl, ⟨_, e⟩ | ⟨m, since, seen, stepped, hg, es, ck, hm, ⟨rfl, e⟩ | ⟨_, e⟩⟩⟩ | ⟨_, e⟩⟩ := e
  · cases e
  · cases seen with
    | nil => exact ⟨it, m, ck, stepped, es, hp, hg, hm, e⟩
    | cons => cases e
  · cases e
  · cases e

theorem numsE_eq {β : Type} {f : Option β} {y : β} : ∀ {es : Es}, numsE es f = some y → f = some y ∧ ∀ {σ : Val} {l : List MapEntry}, EsR σ es l → ∀ e ∈ l, ∃ n : Nat, e.key = .int .i64 (n : Nat)
  | .nil, h => ⟨h, fun {σ l} hr e he => by have hr : l = [] := hr; subst hr; cases he⟩
  | .cons k v s tl, h => by
    replace h : onNat k (fun j _ => bi (kEq j .i64) (numsE tl f) none) = some y := h
    simp only [onNat_eq, bi_eq] at h
    obtain ⟨j, n, rfl, ⟨hj, h1⟩ | ⟨_, h1⟩⟩ := h
    · have hj := kEq_eq hj
      subst hj
      obtain ⟨h2, h3⟩ := numsE_eq h1
      refine ⟨h2, fun {σ l} hr e he => ?_⟩
      obtain ⟨e1, l', rfl, hk, _, _, ht⟩ := hr
      rcases List.mem_cons.1 he with rfl | he
      · exact ⟨n, VR_nat hk⟩
      · exact h3 ht e he
    · cases h1

theorem lenE_eq {σ : Val} : ∀ {es : Es} {l : List MapEntry}, EsR σ es l → lenE es = l.length
  | .nil, l, h => by have h : l = [] := h; subst h; rfl
  | .cons k v s tl, l, ⟨e, l', hl, _, _, _, ht⟩ => by
    subst hl
    show Nat.succ (lenE tl) = _
    rw [lenE_eq ht]; rfl
theorem keysE_SR {σ : Val} : ∀ {es : Es} {l : List MapEntry}, EsR σ es l → SR σ (keysE es) (l.map (·.key))
  | .nil, l, h => by have h : l = [] := h; subst h; rfl
  | .cons k v s tl, l, ⟨e, l', hl, hk, _, _, ht⟩ => by
    subst hl
    exact SR.mk hk.2 (keysE_SR ht)

theorem cells3 : Go.Proofs.Tryz.prog.cellsOf 3 = 1 := by kernel_rfl

/-- the walk that is asked for -/
def BagWalk (nt ts tit ex : Nat) (ds : List Nat) (b : Code) : Prop :=
  ∀ (l : List Value) (_ : l.length = nt) (D : List Deferred) (w : World) {ib bm clock st : Nat} {ents : Array MapEntry}
    (_ : l[tit]? = some (.pointer (some ⟨ib, 0, none⟩))) (_ : l[ts]? = some (.slice none 0 0)) (_ : w.heap[ib]? = some (.mapIter (some bm) clock #[] st)) (_ : w.heap[bm]? = some (.map ents clock))
    (_ : ∀ x ∈ ents.toList, x.born < clock) (_ : (ents.toList.map (·.born)).Nodup) (_ : clock ≤ st) (_ : ib ≠ bm) (_ : ∀ e ∈ ents.toList, ∃ q : Int, e.key = .int .i64 q) (_ : ents.size ≤ 1000000)
    (Q : Exit → Act → World → Prop) (_ : ∀ (l' : List Value) (w' : World) (v' : Value), But ds 0 l l' → l'[ts]? = some v' → BagEnd w w' ib ents v' → Q (.exit ex) { tmps := l'.toArray, defers := D } w'),
    (Code.loop b).wp Go.Proofs.Tryz.prog Q { tmps := l.toArray, defers := D } w

theorem bagL_ok {B : Nat} {w0 : World} {fn rid nt ts tit ex : Nat} {cl : List Nat} {b : Code} (hnt : nt ≤ 256) (hts : ts < nt) (htit : tit < nt) (hcl : ∀ m ∈ cl, m < 2 ^ 8) (walk : BagWalk nt ts tit ex (ts :: cl) b) :
    CodeOK Go.Proofs.Tryz.prog B w0 nt (bagL fn rid ts tit (ex + 2) cl) (.loop b) := by
  have inv : ∀ {t t' : T} {h h' : HS} {x : Nat}, bagL fn rid ts tit (ex + 2) cl t h = .ok x t' h' → ∃ v it m since stepped es, tg ts t = some (.nilv 1) ∧ tg tit t = some (.ptr it 0) ∧ h.get it = some (.iter m since .nil stepped) ∧ h.get m = some (.map es since) ∧
      (∀ {σ : Val} {l : List MapEntry}, EsR σ es l → ∀ e ∈ l, ∃ n : Nat, e.key = .int .i64 (n : Nat)) ∧
      ((es = .nil ∧ v = .nilv 1 ∧ h' = h.set it none) ∨ (es ≠ .nil ∧ lenE es ≤ 1000000 ∧ (h.set it none).new (.bag 3 (keysE es) (some h.c)) (fun c => .sl c 0 (lenE es) (lenE es) (some c)) = some ⟨v, h'⟩)) ∧
      x = ex + 2 ∧ t' = (setC (some ts)).out ((clrC cl).out t) v := by
    intro t t' h h' x hr
    unfold bagL at hr
    rw [KF.app_eq, KF.app_eq] at hr
    obtain ⟨v, hy, rfl, rfl⟩ := rsOf_eq hr
    simp only [ob_eq, onSl_eq] at hy
    obtain ⟨s, hs, ⟨rfl, hy⟩ | ⟨_, hy⟩ | ⟨_, _, _, _, _, _, hy⟩⟩ := hy
    · obtain ⟨it, m, since, stepped, es, h1, h2, h3, h4⟩ := freshIter_eq hy
      obtain ⟨h5, h6⟩ := numsE_eq h4
      refine ⟨v, it, m, since, stepped, es, hs, h1, h2, h3, h6, ?_, rfl, rfl⟩
      cases es with
      | nil => cases h5; exact .inl ⟨rfl, rfl, rfl⟩
      | cons k u s tl =>
        replace h5 : fN (lenE (.cons k u s tl)) (fun n => bi (Nat.ble n 1000000) ((h.set it none).new (.bag 3 (keysE (.cons k u s tl)) (some h.c)) fun c => .sl c 0 n n (some c)) none) = some ⟨v, h'⟩ := h5
        rw [fN_eq, bi_eq] at h5
        rcases h5 with ⟨h5, h7⟩ | ⟨_, h7⟩
        · exact .inr ⟨by simp, ble_iff.1 h5, h7⟩
        · cases h7
    · cases hy
    · cases hy
  refine ⟨fun {D σ t t' a h h' w x} ht hd hr hu hrun => ?_, fun {t t' h h' x} hrun => ?_⟩
  · obtain ⟨v, it, m, since, stepped, es, hts', htit', hgi, hgm, hkeys, hcase, rfl, rfl⟩ := inv hrun
    obtain ⟨⟨l⟩, ds⟩ := a
    have hd : ds = D := hd
    subst hd
    have hl : l.length = nt := by have := ht.size; simpa using this
    have get : ∀ {m : Nat} {v : Value}, m < nt → l[m]?.getD undef = v → l[m]? = some v := by
      intro m v hm e
      rw [List.getElem?_eq_getElem (by omega)] at e ⊢
      exact congrArg some e
    have hts8 : ts < 2 ^ 8 := by omega
    have us := get hts (VR_nilv (TR.at ht hts8 hts'))
    obtain ⟨ib, hib, eit⟩ := VR_ptr (TR.at ht (show tit < 2 ^ 8 by omega) htit')
    have uit := get htit eit
    obtain ⟨hf, bm, s, sn, st, hw, hbm, hsi, hsn, hst, hle⟩ := hr.get hib hgi
    have hsn : sn = [] := hsn
    subst hsn
    obtain ⟨hf2, ents, clock, lm, hw2, hck, hpm, hes, hsort⟩ := hr.get hbm hgm
    have hcs : clock = s := by
      rw [hck] at hsi
      simp only [Option.some.injEq, Value.int.injEq, true_and] at hsi
      exact Int.ofNat_inj.1 hsi
    subst hcs
    have hne : ib ≠ bm := fun e => by rw [e, hw2] at hw; cases hw
    have hborn : ∀ x ∈ ents.toList, x.born < clock := fun x hx => hsort.born x (hpm.mem_iff.1 hx)
    have hnd : (ents.toList.map (·.born)).Nodup := ((hpm.map (·.born)).nodup_iff).2 (List.pairwise_map.2 hsort.once)
    have hkint : ∀ e ∈ ents.toList, ∃ q : Int, e.key = .int .i64 q := fun e he => by obtain ⟨n, hn⟩ := hkeys hes e (hpm.mem_iff.1 he); exact ⟨n, hn⟩
    have hlen := lenE_eq hes
    have hplen := hpm.length_eq
    have hsz : ents.size ≤ 1000000 := by
      rcases hcase with ⟨rfl, _⟩ | ⟨_, h1, _⟩
      · have : lm.length = 0 := hlen.symm
        simp at hplen; omega
      · simp at hplen; omega
    refine walk l hl ds w uit us hw hw2 hborn hnd hle hne hkint hsz _ fun l' w' v' hbut hl' hend => ?_
    have hclr : TR σ nt ((clrC (ts :: cl)).out t) { tmps := l'.toArray, defers := ds } := TR.clr ht (fun m hm => (List.mem_cons.1 hm).elim (fun e => e ▸ hts8) (hcl m)) hbut hbut.length
    have htr : ∀ {σ' : Val}, σ.le σ' → VR σ' v v' → TR σ' nt ((setC (some ts)).out ((clrC cl).out t) v) { tmps := l'.toArray, defers := ds } := by
      intro σ' hle' hv
      refine ⟨hclr.size, fun m u hm hu => ?_⟩
      rw [setC_at (nt := nt) hnt (show dstOk nt (some ts) = true from ble_iff.2 hts) hm] at hu
      split at hu
      · rename_i e3
        cases e3
        cases hu
        refine ⟨hts, ?_⟩
        have : ({ tmps := l'.toArray, defers := ds } : Act).tmps.getD ts undef = v' := by simp [hl']
        rw [this]; exact hv
      · rename_i hne'
        have := hclr.tmp m u hm (by
          rw [clrC_at hm (fun m hm => (List.mem_cons.1 hm).elim (fun e => e ▸ hts8) (hcl m))]
          rw [clrC_at hm hcl] at hu
          by_cases hmt : m = ts
          · subst hmt; exact absurd rfl hne'
          · rw [← hu]
            congr 1
            simp [hmt])
        exact ⟨this.1, this.2.mono hle'⟩
    obtain ⟨vis, hperm, hrow, hnil, hbe⟩ := hend
    have hvl : vis.length = lm.length := hperm.length_eq.trans hplen
    rcases hcase with ⟨rfl, rfl, rfl⟩ | ⟨hnn, hn6, hnew⟩
    · have hlm : lm = [] := hes
      subst hlm
      have hv0 : vis = [] := List.length_eq_zero_iff.1 hvl
      have ev : v' = .slice none 0 0 := hnil.2 hv0
      subst ev
      exact ⟨σ, rfl, htr (Val.le.refl σ) ⟨rfl, rfl⟩, rfl, St.drop hr (by rw [hf]; simp) hib hbe⟩
    · have hv0 : vis ≠ [] := by
        intro e
        subst e
        have : lm = [] := List.length_eq_zero_iff.1 hvl.symm
        subst this
        cases es with
        | nil => exact hnn rfl
        | cons k u s tl => obtain ⟨_, _, e, _⟩ := hes; cases e
      obtain ⟨hlen2, ⟨e, _⟩ | ⟨g, cap, cur, rfl, hg, hcur, hcap, hmax, hcs, htake⟩⟩ := hrow
      · exact absurd (hnil.1 e) hv0
      obtain ⟨hlt, ev, ec, _⟩ := HS.new_eq hnew
      rw [HS.set_c] at hlt ev ec
      have ec : h'.c = h.c + 1 := ec
      have hund : Und σ h.c (h.c + 1) := by rw [← ec]; exact hu
      have hx := Val.put_ext hund g (some (cap - vis.length)) none
      have hln : lenE es = vis.length := by omega
      have htl : (cur.toList.take vis.length) = vis.map (·.key) := by rw [← htake, Nat.mul_one]
      have hcur' : cur = (vis.map (·.key) ++ cur.toList.drop vis.length).toArray := by
        rw [← htl, List.take_append_drop]
      have hst := St.dropNew (w' := w') hr (by rw [hf]; simp) hib hbe hnew hg hx (Val.put_blk ..)
        ⟨vis.map (·.key), lm.map (·.key), cur.toList.drop vis.length, (0, 0), by rw [← hcur']; exact hcur, SR.mono hx.le (keysE_SR hes), (hperm.trans hpm).map _, fun c hc => by
          obtain ⟨e, he, rfl⟩ := List.mem_map.1 hc
          obtain ⟨q, hq⟩ := hkint e (hperm.mem_iff.1 he)
          rw [hq]; rfl, .inl rfl, cap - vis.length, Val.put_cap .., by rw [cells3]; simp; omega⟩
      refine ⟨_, rfl, htr hx.le ?_, rfl, hst⟩
      have ev : v = .sl h.c 0 (lenE es) (lenE es) (some h.c) := ev
      rw [ev, hln]
      have := VR.sl (σ := σ.put h.c g (some (cap - vis.length)) none) (i := h.c) (o := 0) (n := vis.length) (c := vis.length) (e := cap - vis.length) (y := some h.c) (Val.put_blk ..) (Val.put_cap ..)
      rw [show vis.length + (cap - vis.length) = cap by omega] at this
      exact this
  · obtain ⟨_, _, _, _, _, _, _, _, _, _, _, ⟨_, _, rfl⟩ | ⟨_, _, hnew⟩, _⟩ := inv hrun
    · exact Nat.le_refl _
    · obtain ⟨_, _, ec, _⟩ := HS.new_eq hnew
      rw [HS.set_c] at ec
      have ec : _ = _ := ec
      simp only at ec
      omega

theorem bag34_ok {B : Nat} {w0 : World} {b : Code} (hb : (Go.Proofs.Tryz.f34.body.bind (loopAt 9)) = some b) : CodeOK Go.Proofs.Tryz.prog B w0 75 (bagL 34 9 3 27 3 [28, 29, 30, 31, 4, 32, 33, 34, 35]) (.loop b) :=
  bagL_ok (ex := 1) (by decide) (by decide) (by decide) (by decide) fun l hl D w _ _ _ _ _ h1 h2 h3 h4 h5 h6 h7 h8 h9 h10 Q hQ =>
    bag34 b hb l hl D w h1 h2 h3 h4 h5 h6 h7 h8 h9 h10 Q fun l' w' v' hbut => hQ l' w' v' (hbut.perm (by decide))
theorem bag68_ok {B : Nat} {w0 : World} {b : Code} (hb : (Go.Proofs.Tryz.f68.body.bind (loopAt 11)) = some b) : CodeOK Go.Proofs.Tryz.prog B w0 101 (bagL 68 11 7 51 4 [52, 53, 54, 55, 8, 56, 57, 58, 59]) (.loop b) :=
  bagL_ok (ex := 2) (by decide) (by decide) (by decide) (by decide) fun l hl D w _ _ _ _ _ h1 h2 h3 h4 h5 h6 h7 h8 h9 h10 Q hQ =>
    bag68 b hb l hl D w h1 h2 h3 h4 h5 h6 h7 h8 h9 h10 Q fun l' w' v' hbut => hQ l' w' v' (hbut.perm (by decide))
end Go.AE

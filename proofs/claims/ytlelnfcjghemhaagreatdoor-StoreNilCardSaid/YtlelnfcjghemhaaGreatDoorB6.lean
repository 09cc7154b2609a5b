/- The loop that writes the waiting sectors to the disk is what its stand-in says. -/
import Derived.Test.YtlelnfcjghemhaaGreatDoorB5
namespace Go.AE
open Go Go.RowKit

/-- A drawn region of operations that yield fixed values, and one that comes last. -/
theorem wpAny_quiet {P : Program} {ops : Array Oper} {Q : Exit → Act → World → Prop} {w : World} {a0 : Act} (m : Nat) (hsz : ops.size = m + 1) (val : Nat → Value) (dst : Nat → Nat)
    (hop : ∀ j, j < m → ∃ o, ops[j]? = some o ∧ o.guard = none ∧ o.dst = some (dst j) ∧ dst j < a0.tmps.size ∧ (∀ e ∈ o.after, Region.binds .any e = true → e.on < j) ∧
      ∀ a : Act, (∀ e ∈ o.after, Region.binds .any e = true → a.tmps.getD (dst e.on) undef = val e.on) → (∀ d, (∀ i, i < m → dst i ≠ d) → a.tmps.getD d undef = a0.tmps.getD d undef) → (execOp a.eval o).run P w = .ok (.value (val j)) w)
    (hinj : ∀ i j, i < m → j < m → dst i = dst j → i = j)
    {o : Oper} (hlast : ops[m]? = some o) (hg : o.guard = none) (hafter : ∀ i, i < m → ∃ e ∈ o.after, Region.binds .any e = true ∧ e.on = i) (hback : ∀ e ∈ o.after, Region.binds .any e = true → e.on < m)
    (hfin : ∀ a : Act, a.tmps.size = a0.tmps.size → a.defers = a0.defers → (∀ i, i < m → a.tmps.getD (dst i) undef = val i) → (∀ d, (∀ i, i < m → dst i ≠ d) → a.tmps.getD d undef = a0.tmps.getD d undef) → o.wp P a w (fun a' w' => Q .normal a' w') Q) :
    wpAny P .any ops Q ops.size (Array.replicate ops.size false) a0 w := by
  -- how it stands while the last one is to come
  have key : ∀ (fuel : Nat) (l : Array Bool) (a : Act), l.size = m + 1 → l.toList.count false = fuel → ¬ Listed l m → a.tmps.size = a0.tmps.size → a.defers = a0.defers → (∀ i, i < m → Listed l i → a.tmps.getD (dst i) undef = val i) →
      (∀ d, (∀ i, i < m → dst i ≠ d) → a.tmps.getD d undef = a0.tmps.getD d undef) → wpAny P .any ops Q fuel l a w := by
    intro fuel
    have unl : ∀ {l : Array Bool} {j : Nat}, l.size = m + 1 → j < m + 1 → ¬ Listed l j → l.getD j true = false := by
      intro l j hl hj hn
      unfold Listed at hn
      simp only [Array.getD_eq_getD_getElem?, Array.getElem?_eq_getElem (by omega : j < l.size), Option.getD_some] at hn ⊢
      simpa using hn
    induction fuel with
    | zero =>
      intro l a hl hc hm _ _ _ _
      exfalso
      have := unl hl (by omega) hm
      simp only [Array.getD_eq_getD_getElem?, Array.getElem?_eq_getElem (by omega : m < l.size), Option.getD_some] at this
      exact absurd (show false ∈ l.toList by rw [← this]; simp) (List.count_eq_zero.1 hc)
    | succ fuel ih =>
      intro l a hl hc hm hs hd hv ho
      refine ⟨fun hno => ?_, fun j hj => ?_⟩
      · exfalso
        -- the least one that is not carried out is ready
        have all : ∀ j, j < m → Listed l j := by
          intro j
          induction j using Nat.strongRecOn with
          | ind j ihj =>
            intro hj
            cases hL : l.getD j false with
            | true => exact hL
            | false =>
              exfalso
              obtain ⟨oj, h1, _, _, _, h2, _⟩ := hop j hj
              have : j ∈ Region.ready .any ops l := by
                rw [mem_ready]
                exact ⟨unl hl (by omega) (by unfold Listed; rw [hL]; simp), oj, h1, fun e he hb => ihj e.on (h2 e he hb) (by have := h2 e he hb; omega)⟩
              rw [hno] at this; cases this
        have : m ∈ Region.ready .any ops l := by
          rw [mem_ready]
          exact ⟨unl hl (by omega) hm, o, hlast, fun e he hb => all e.on (hback e he hb)⟩
        rw [hno] at this; cases this
      · rw [mem_ready] at hj
        obtain ⟨h1, oj, hoj, he⟩ := hj
        have hjn : j < m + 1 := by rw [← hsz]; exact (Array.getElem?_eq_some_iff.1 hoj).1
        have hset : (l.setIfInBounds j true).toList.count false = fuel := by
          have : l.toList[j]? = some false := by
            simp only [Array.getD_eq_getD_getElem?, Array.getElem?_eq_getElem (by omega : j < l.size), Option.getD_some] at h1
            simp [show j < l.size by omega, h1]
          have := count_set this
          rw [Array.toList_setIfInBounds]
          omega
        unfold wpOp
        simp only [hoj]
        by_cases e : j = m
        · subst e
          rw [hlast] at hoj
          cases hoj
          have hwant : Region.wanted o (yielded ops a.tmps) = true := by simp [Region.wanted, hg]
          rw [if_pos hwant]
          left
          have hall : ∀ i, i < j → Listed l i := fun i hi => by
            obtain ⟨e, h2, h3, h4⟩ := hafter i hi
            rw [← h4]; exact he e h2 h3
          refine Oper.wp_mono (fun a' w' hq => ?_) (hfin a hs hd (fun i hi => hv i hi (hall i hi)) ho)
          refine wpAny_done ?_ hq fuel
          cases hr : Region.ready .any ops (l.setIfInBounds j true) with
          | nil => rfl
          | cons k ks =>
            exfalso
            have hk : k ∈ Region.ready .any ops (l.setIfInBounds j true) := by rw [hr]; exact List.mem_cons_self ..
            rw [mem_ready] at hk
            obtain ⟨h2, ok, hok, _⟩ := hk
            have hkn : k < j + 1 := by rw [← hsz]; exact (Array.getElem?_eq_some_iff.1 hok).1
            have hLk : Listed (l.setIfInBounds j true) k := by
              rw [listed_set (by omega)]
              by_cases h : k = j
              · exact .inl h
              · exact .inr (hall k (by omega))
            unfold Listed at hLk
            simp only [Array.getD_eq_getD_getElem?, Array.getElem?_eq_getElem (by simp; omega : k < (l.setIfInBounds j true).size), Option.getD_some] at hLk h2
            rw [hLk] at h2; cases h2
        · have hjm : j < m := by omega
          obtain ⟨o', h2, h3, h4, h5, h6, h7⟩ := hop j hjm
          rw [h2] at hoj
          cases hoj
          have hwant : Region.wanted oj (yielded ops a.tmps) = true := by simp [Region.wanted, h3]
          rw [if_pos hwant]
          left
          have hrun := h7 a (fun e h8 h9 => hv e.on (by have := h6 e h8 h9; omega) (he e h8 h9)) ho
          unfold Oper.wp
          rw [hrun]
          show wpAny P .any ops Q fuel (l.setIfInBounds j true) (a.put oj.dst (val j)) w
          rw [h4]
          have hput : ∀ d, (a.put (some (dst j)) (val j)).tmps.getD d undef = if d = dst j then val j else a.tmps.getD d undef := by
            intro d
            by_cases hd' : d = dst j
            · subst hd'; rw [if_pos rfl]; simp [Act.put, hs, h5]
            · rw [if_neg hd']; simp [Act.put, Array.getElem?_setIfInBounds_ne (Ne.symm hd')]
          refine ih _ _ (by simpa using hl) hset ?_ (by simpa [Act.put] using hs) hd (fun i hi hLi => ?_) (fun d hnd => ?_)
          · rw [listed_set (by omega)]
            rintro (h | h)
            · omega
            · exact hm h
          · rw [hput]
            by_cases hij : i = j
            · subst hij; rw [if_pos rfl]
            · rw [if_neg (fun h => hij (hinj i j hi hjm h))]
              refine hv i hi ?_
              rcases (listed_set (by omega)).1 hLi with h | h
              · exact absurd h hij
              · exact h
          · rw [hput, if_neg (fun h => hnd j hjm h.symm)]
            exact ho d hnd
  have hno : ∀ i, ¬ Listed (Array.replicate ops.size false) i := fun i => by
    unfold Listed
    simp only [Array.getD_eq_getD_getElem?]
    by_cases h : i < ops.size <;> simp [h]
  exact key ops.size _ _ (by simp [hsz]) (by simp) (hno m) rfl rfl (fun i _ h => absurd h (hno i)) (fun _ _ => rfl)
end Go.AE

namespace Go.AE
open Go Go.RowKit
set_option maxRecDepth 100000

/-- cells put in at a place -/
def splice (cs : List Value) (o : Nat) (vs : List Value) : List Value := cs.take o ++ vs ++ cs.drop (o + vs.length)
theorem splice_length {cs vs : List Value} {o : Nat} (h : o + vs.length ≤ cs.length) : (splice cs o vs).length = cs.length := by
  unfold splice; simp; omega
def cellsOfV : Value → List Value
  | .agg vs => vs.toList
  | _ => []
def keyNat : Value → Nat
  | .int _ q => q.toNat
  | _ => 0
/-- the sectors that were waiting lie on the disk -/
def flushed (cs : List Value) (vis : List MapEntry) : List Value := vis.foldl (fun cs e => splice cs (keyNat e.key * 512) (cellsOfV e.val)) cs

theorem flushed_length : ∀ {vis : List MapEntry} {lc : List Value}, (∀ e ∈ vis, keyNat e.key * 512 + (cellsOfV e.val).length ≤ lc.length) → (flushed lc vis).length = lc.length
  | [], _, _ => rfl
  | e :: vis, lc, h => by
    have h1 := splice_length (h e (List.mem_cons_self ..))
    show (flushed (splice lc (keyNat e.key * 512) (cellsOfV e.val)) vis).length = _
    rw [flushed_length (fun e' he' => by rw [h1]; exact h e' (List.mem_cons_of_mem _ he')), h1]

theorem load71 {w : World} {n e o : Nat} {l : List Value} {fz : Nat × Nat} (h : w.heap[n]? = some (.cells l.toArray e fz)) (hl : o + 512 ≤ l.length) :
    (loadVar 71 ⟨n, o, none⟩).run Go.Proofs.Tryz.prog w = .ok (.agg ((l.drop o).take 512).toArray) w := by
  have := run_loadCells_of (P := Go.Proofs.Tryz.prog) h (o := o) (k := 512) (.inr hl)
  unfold loadVar
  simp [this]

theorem splice_all {cs vs : List Value} (h : vs.length = cs.length) : splice cs 0 vs = vs := by
  unfold splice; simp [h]

theorem storeCells71 {w : World} {n e o : Nat} {l vs : List Value} {fz : Nat × Nat} (h : w.heap[n]? = some (.cells l.toArray e fz)) (hl : o + 512 ≤ l.length) (hfz : fzOk fz l.length) (hv : vs.length = 512) (h1 : ∀ v ∈ vs, v.oneCell' = true) :
    ∃ w', (storeCells ⟨n, o, none⟩ vs).run Go.Proofs.Tryz.prog w = .ok () w' ∧ Wrote w w' n (.cells (splice l o vs).toArray e fz) := by
  obtain ⟨w', h2, h3⟩ := run_storeCells_of (P := Go.Proofs.Tryz.prog) vs l fz o 0 w h hfz (.inr (by omega)) h1
  rw [Nat.add_zero] at h3
  exact ⟨w', h2, h3⟩

theorem zero71_size : Go.Proofs.Tryz.zeroCells71.size = 512 := Go.Proofs.Tryz.zeroCells71_size


set_option maxHeartbeats 4000000 in
theorem flush (b : Code) (hb : (Go.Proofs.Tryz.f47.body.bind (loopAt 8)) = some b) (l : List Value) (hl : l.length = 41) (D : List Deferred) (w : World) {ib bm dn nl clock st n cap le de : Nat} {ents : Array MapEntry} {lc : List Value} {lfz dfz : Nat × Nat} {dc : Array Value}
    (h0 : l[0]? = some (.pointer (some ⟨dn, 0, none⟩))) (h24 : l[24]? = some (.pointer (some ⟨ib, 0, none⟩))) (hi : w.heap[ib]? = some (.mapIter (some bm) clock #[] st)) (hm : w.heap[bm]? = some (.map ents clock))
    (hd : w.heap[dn]? = some (.cells dc de dfz)) (hd0 : dc[0]? = some (.slice (some ⟨nl, 0, none⟩) n cap)) (hlast : w.heap[nl]? = some (.cells lc.toArray le lfz)) (hlf : fzOk lfz lc.length)
    (hbn : ∀ x ∈ ents.toList, x.born < clock) (hnd : (ents.toList.map (·.born)).Nodup) (hst : clock ≤ st) (hne : ib ≠ bm) (hn1 : nl ≠ ib) (hn2 : nl ≠ bm) (hn3 : nl ≠ dn) (hn4 : ib ≠ dn)
    (hkeys : ∀ e ∈ ents.toList, ∃ (i : Nat) (vs : List Value), i < n ∧ i * 512 + 512 ≤ lc.length ∧ e.key = .int .i64 (i : Nat) ∧ e.val = .agg vs.toArray ∧ vs.length = 512 ∧ ∀ v ∈ vs, v.oneCell' = true)
    (Q : Exit → Act → World → Prop) (hQ : ∀ (l' : List Value) (w' : World) (vis : List MapEntry), But [25, 26, 27, 28, 29, 4, 5, 30, 31, 32, 33, 34, 35, 36] 0 l l' → vis.Perm ents.toList → w'.heap[nl]? = some (.cells (flushed lc vis).toArray le lfz) →
      w.heap.size ≤ w'.heap.size → (∀ m, m < w.heap.size → m ≠ ib → m ≠ nl → w'.heap[m]? = w.heap[m]?) → w'.os = w.os → w'.tape = w.tape → w'.output = w.output → Q (.exit 0) { tmps := l'.toArray, defers := D } w') :
    (Code.loop b).wp Go.Proofs.Tryz.prog Q { tmps := l.toArray, defers := D } w := by
  obtain ⟨u0, l0, rfl, k0⟩ := uncons hl
  obtain ⟨u1, l1, rfl, k1⟩ := uncons k0
  obtain ⟨u2, l2, rfl, k2⟩ := uncons k1
  obtain ⟨u3, l3, rfl, k3⟩ := uncons k2
  obtain ⟨u4, l4, rfl, k4⟩ := uncons k3
  obtain ⟨u5, l5, rfl, k5⟩ := uncons k4
  obtain ⟨u6, l6, rfl, k6⟩ := uncons k5
  obtain ⟨u7, l7, rfl, k7⟩ := uncons k6
  obtain ⟨u8, l8, rfl, k8⟩ := uncons k7
  obtain ⟨u9, l9, rfl, k9⟩ := uncons k8
  obtain ⟨u10, l10, rfl, k10⟩ := uncons k9
  obtain ⟨u11, l11, rfl, k11⟩ := uncons k10
  obtain ⟨u12, l12, rfl, k12⟩ := uncons k11
  obtain ⟨u13, l13, rfl, k13⟩ := uncons k12
  obtain ⟨u14, l14, rfl, k14⟩ := uncons k13
  obtain ⟨u15, l15, rfl, k15⟩ := uncons k14
  obtain ⟨u16, l16, rfl, k16⟩ := uncons k15
  obtain ⟨u17, l17, rfl, k17⟩ := uncons k16
  obtain ⟨u18, l18, rfl, k18⟩ := uncons k17
  obtain ⟨u19, l19, rfl, k19⟩ := uncons k18
  obtain ⟨u20, l20, rfl, k20⟩ := uncons k19
  obtain ⟨u21, l21, rfl, k21⟩ := uncons k20
  obtain ⟨u22, l22, rfl, k22⟩ := uncons k21
  obtain ⟨u23, l23, rfl, k23⟩ := uncons k22
  obtain ⟨u24, l24, rfl, k24⟩ := uncons k23
  obtain ⟨u25, l25, rfl, k25⟩ := uncons k24
  obtain ⟨u26, l26, rfl, k26⟩ := uncons k25
  obtain ⟨u27, l27, rfl, k27⟩ := uncons k26
  obtain ⟨u28, l28, rfl, k28⟩ := uncons k27
  obtain ⟨u29, l29, rfl, k29⟩ := uncons k28
  obtain ⟨u30, l30, rfl, k30⟩ := uncons k29
  obtain ⟨u31, l31, rfl, k31⟩ := uncons k30
  obtain ⟨u32, l32, rfl, k32⟩ := uncons k31
  obtain ⟨u33, l33, rfl, k33⟩ := uncons k32
  obtain ⟨u34, l34, rfl, k34⟩ := uncons k33
  obtain ⟨u35, l35, rfl, k35⟩ := uncons k34
  obtain ⟨u36, l36, rfl, k36⟩ := uncons k35
  obtain ⟨u37, l37, rfl, k37⟩ := uncons k36
  obtain ⟨u38, l38, rfl, k38⟩ := uncons k37
  obtain ⟨u39, l39, rfl, k39⟩ := uncons k38
  obtain ⟨u40, l40, rfl, k40⟩ := uncons k39
  have hnil := List.length_eq_zero_iff.1 k40
  subst hnil
  clear hl k0 k1 k2 k3 k4 k5 k6 k7 k8 k9 k10 k11 k12 k13 k14 k15 k16 k17 k18 k19 k20 k21 k22 k23 k24 k25 k26 k27 k28 k29 k30 k31 k32 k33 k34 k35 k36 k37 k38 k39 k40
  replace h0 := Option.some.inj (show some u0 = some _ from h0)
  replace h24 := Option.some.inj (show some u24 = some _ from h24)
  subst h0 h24
  simp only [Go.Proofs.Tryz.f47, Option.bind_some, loopAt, firstRegion, Option.some.injEq, reduceIte] at hb
  subst hb
  go_loopw [] (fun wr => ∃ (vis : List MapEntry) (st : Nat), clock ≤ st ∧ wr.heap[ib]? = some (.mapIter (some bm) clock (vis.map (·.born)).toArray st) ∧ wr.heap[nl]? = some (.cells (flushed lc vis).toArray le lfz) ∧
      (∀ e ∈ vis, e ∈ ents.toList) ∧ (vis.map (·.born)).Nodup ∧ w.heap.size ≤ wr.heap.size ∧ (∀ m, m < w.heap.size → m ≠ ib → m ≠ nl → wr.heap[m]? = w.heap[m]?) ∧ wr.os = w.os ∧ wr.tape = w.tape ∧ wr.output = w.output)
    (fun wr => ents.size - seenOf wr ib)
  case atStart => exact ⟨[], st, hst, hi, hlast, by simp, by simp, Nat.le_refl _, fun _ _ _ _ => rfl, rfl, rfl, rfl⟩
  case round =>
    obtain ⟨vis, st', hst', hi', hl', hsub, hnd', hsz, hsame, hwos, hwtp, hwou⟩ := hrel
    have hil : ib < w.heap.size := (Array.getElem?_eq_some_iff.1 hi).1
    have hml : bm < w.heap.size := (Array.getElem?_eq_some_iff.1 hm).1
    have hdl : dn < w.heap.size := (Array.getElem?_eq_some_iff.1 hd).1
    have hnll : nl < w.heap.size := (Array.getElem?_eq_some_iff.1 hlast).1
    have hm' : wr.heap[bm]? = some (.map ents clock) := (hsame bm hml (Ne.symm hne) (Ne.symm hn2)).trans hm
    have hd' : wr.heap[dn]? = some (.cells dc de dfz) := (hsame dn hdl (Ne.symm hn4) (Ne.symm hn3)).trans hd
    rcases next_step (P := Go.Proofs.Tryz.prog) hi' hm' hbn hnd hst' hsub hnd' hne 0 with ⟨hperm, hrun⟩ | ⟨hlt, e, he, w2, hnd2, hrun, hi2, hoth, hsz2, hos, htp, hou, hent⟩
    · clear hi' hm' hi hm hbn hnd hkeys hsub hnd' hd hd' hd0 hlast
      go_wp2
      refine hQ _ _ vis ?_ hperm hl' hsz hsame hwos hwtp hwou
      repeat first | exact But.nil | refine But.keep ?_ | refine But.new (by decide) ?_
    · obtain ⟨i, vs, hin, hib, hk, hval, hvs, hv1⟩ := hkeys e he
      rw [hk, hval] at hrun hent
      have hd2 : w2.heap[dn]? = some (.cells dc de dfz) := (hoth dn (Ne.symm hn4)).trans hd'
      have hl2 : w2.heap[nl]? = some (.cells (flushed lc vis).toArray le lfz) := (hoth nl hn1).trans hl'
      have hz : (w2.alloc (.cells Go.Proofs.Tryz.zeroCells71 71)).heap[wr.heap.size]? = some (.cells (Go.Proofs.Tryz.zeroCells71.toList).toArray 71 (0, 0)) := by
        show (w2.heap.push _)[wr.heap.size]? = _
        rw [← hsz2]; simp
      have hzl : Go.Proofs.Tryz.zeroCells71.toList.length = 512 := by simp
      obtain ⟨w3, hstore, hw3⟩ := storeCells71 (vs := vs) hz (o := 0) (by omega) (.inl rfl) hvs hv1
      rw [splice_all (by omega)] at hw3
      have hne3 : ∀ m, m < wr.heap.size → w3.heap[m]? = w2.heap[m]? := fun m hm => by
        rw [hw3.there m (by omega)]
        show (w2.heap.push _)[m]? = _
        rw [Array.getElem?_push, if_neg (by omega)]
      have hd3 : w3.cell? ⟨dn, 0, none⟩ = some (.slice (some ⟨nl, 0, none⟩) n cap) := by
        simp only [World.cell?, hne3 dn (by omega), hd2, hd0]
        rfl
      have hload : (loadCells ⟨wr.heap.size, 0, none⟩ 512).run Go.Proofs.Tryz.prog w3.drew = .ok vs.toArray w3.drew := by
        have h3 : w3.drew.heap[wr.heap.size]? = some (.cells vs.toArray 71 (0, 0)) := hw3.here
        have := run_loadCells_of (P := Go.Proofs.Tryz.prog) h3 (o := 0) (k := 512) (.inr (by omega))
        rw [List.drop_zero, List.take_of_length_le (by omega)] at this
        exact this
      have hload2 : (loadVar 71 ⟨wr.heap.size, 0, none⟩).run Go.Proofs.Tryz.prog w3.drew = .ok (.agg vs.toArray) w3.drew := by
        unfold loadVar
        simp [hload]
      have hl3 : w3.heap[nl]? = some (.cells (flushed lc vis).toArray le lfz) := (hne3 nl (by omega)).trans hl2
      have hi3 : w3.heap[ib]? = some (.mapIter (some bm) clock ((vis ++ [e]).map (·.born)).toArray clock) := (hne3 ib (by omega)).trans hi2
      have hflen : (flushed lc vis).length = lc.length := flushed_length (fun e he => by
        obtain ⟨i, vs, h1, hib', h2, h3, h4, _⟩ := hkeys e (hsub e he)
        rw [h2, h3]; simp [keyNat, cellsOfV, h4]; omega)
      have hsz3 : w3.heap.size = wr.heap.size + 1 := by rw [hw3.size]; show (w2.heap.push _).size = _; simp [hsz2]
      have hsame3 : ∀ m, m < w.heap.size → m ≠ ib → m ≠ nl → w3.heap[m]? = w.heap[m]? := fun m h1 h2 h3 => ((hne3 m (by omega)).trans (hoth m h2)).trans (hsame m h1 h2 h3)
      have hos3 : w3.os = w.os := hw3.os.trans (hos.trans hwos)
      have htp3 : w3.tape = w.tape := hw3.tape.trans (htp.trans hwtp)
      have hou3 : w3.output = w.output := hw3.output.trans (hou.trans hwou)
      have hseen : seenOf wr ib = vis.length := by simp [seenOf, hi']
      clear hi' hm' hi hm hbn hnd hnd' hd hd' hlast hl' hos htp hou hw3 hz hzl hd0 hd2 hl2 hi2 hsame hoth hwos hwtp hwou
      go_wp2
      refine wp_region_any (by kernel_rfl) (wpAny_quiet (w := w3.drew) 7 rfl (fun j => match j with
        | 0 => .pointer (some ⟨dn, 0, none⟩)
        | 1 => .pointer (some ⟨dn, 0, none⟩)
        | 2 => .pointer (some ⟨dn, 0, none⟩)
        | 3 => .slice (some ⟨nl, 0, none⟩) n cap
        | 4 => .int .i64 (i : Nat)
        | 5 => .agg vs.toArray
        | _ => .pointer (some ⟨nl, i * 512, none⟩)) (fun j => 30 + j) (fun j hj => ?_) (fun i j _ _ h => by omega) rfl rfl ?_ ?_ ?_)
      · have hj : j = 0 ∨ j = 1 ∨ j = 2 ∨ j = 3 ∨ j = 4 ∨ j = 5 ∨ j = 6 := by omega
        rcases hj with rfl | rfl | rfl | rfl | rfl | rfl | rfl
        · refine ⟨_, rfl, rfl, rfl, by simp, by simp, fun a h1 h2 => ?_⟩
          have e0 : a.eval (.tmp 0) = .pointer (some ⟨dn, 0, none⟩) := h2 0 (fun i _ => by omega)
          simp [execOp, e0]
        · refine ⟨_, rfl, rfl, rfl, by simp, by simp, fun a h1 h2 => ?_⟩
          have e0 : a.eval (.tmp 30) = .pointer (some ⟨dn, 0, none⟩) := h1 _ (Array.mem_of_getElem? (i := 0) rfl) rfl
          simp [execOp, e0]
        · refine ⟨_, rfl, rfl, rfl, by simp, by simp, fun a h1 h2 => ?_⟩
          have e0 : a.eval (.tmp 31) = .pointer (some ⟨dn, 0, none⟩) := h1 _ (Array.mem_of_getElem? (i := 0) rfl) rfl
          simp [execOp, e0, Instr.fieldAt, Instr.sureAddr, fieldPlace, add_eq]
        · refine ⟨_, rfl, rfl, rfl, by simp, by simp, fun a h1 h2 => ?_⟩
          have e0 : a.eval (.tmp 32) = .pointer (some ⟨dn, 0, none⟩) := h1 _ (Array.mem_of_getElem? (i := 0) rfl) rfl
          simp [execOp, e0, Instr.loadAt, Instr.sureAddr, loadVar, hd3]
        · refine ⟨_, rfl, rfl, rfl, by simp, by simp, fun a h1 h2 => ?_⟩
          have e0 : a.eval (.tmp 4) = .int .i64 (i : Nat) := h2 4 (fun i _ => by omega)
          simp [execOp, e0]
        · refine ⟨_, rfl, rfl, rfl, by simp, by simp, fun a h1 h2 => ?_⟩
          have e0 : a.eval (.tmp 5) = .pointer (some ⟨wr.heap.size, 0, none⟩) := h2 5 (fun i _ => by omega)
          have hl2' : (Instr.loadAt 71 (.pointer (some ⟨wr.heap.size, 0, none⟩))).run Go.Proofs.Tryz.prog w3.drew = .ok (.agg vs.toArray) w3.drew := by
            unfold Instr.loadAt
            simp only [Sem.run_bind, Instr.sureAddr, Sem.run_pure, Result.andThen_ok]
            exact hload2
          simp [execOp, e0, hl2']
        · refine ⟨_, rfl, rfl, rfl, by simp, by simp, fun a h1 h2 => ?_⟩
          have e0 : a.eval (.tmp 33) = .slice (some ⟨nl, 0, none⟩) n cap := h1 _ (Array.mem_of_getElem? (i := 0) rfl) rfl
          have e1 : a.eval (.tmp 34) = .int .i64 (i : Nat) := h1 _ (Array.mem_of_getElem? (i := 1) rfl) rfl
          simp [execOp, e0, e1, Instr.indexAt, asIntOf, Instr.sureAddr, hin, add_eq]
      · intro i hi
        have hj : i = 0 ∨ i = 1 ∨ i = 2 ∨ i = 3 ∨ i = 4 ∨ i = 5 ∨ i = 6 := by omega
        rcases hj with rfl | rfl | rfl | rfl | rfl | rfl | rfl
        · exact ⟨{ on := 0, ground := .phase }, by simp, rfl, rfl⟩
        · exact ⟨{ on := 1, ground := .phase }, by simp, rfl, rfl⟩
        · exact ⟨{ on := 2, ground := .phase }, by simp, rfl, rfl⟩
        · exact ⟨{ on := 3, ground := .phase }, by simp, rfl, rfl⟩
        · exact ⟨{ on := 4, ground := .phase }, by simp, rfl, rfl⟩
        · exact ⟨{ on := 5, ground := .phase }, by simp, rfl, rfl⟩
        · exact ⟨{ on := 6, ground := .data }, by simp, rfl, rfl⟩
      · simp
      · intro a h1 h2 h3 h4
        have e0 : a.eval (.tmp 36) = .pointer (some ⟨nl, i * 512, none⟩) := h3 6 (by omega)
        have e1 : a.eval (.tmp 35) = .agg vs.toArray := h3 5 (by omega)
        have hl4 : w3.drew.heap[nl]? = some (.cells (flushed lc vis).toArray le lfz) := hl3
        obtain ⟨w4, hst4, hw4⟩ := storeCells71 (vs := vs) hl4 (o := i * 512) (by rw [hflen]; omega) (by rw [hflen]; exact hlf) hvs hv1
        have hst5 : (Instr.storeAt 71 (.pointer (some ⟨nl, i * 512, none⟩)) (.agg vs.toArray)).run Go.Proofs.Tryz.prog w3.drew = .ok () w4 := by
          simp [Instr.storeAt, Instr.sureAddr, storeVar, Value.cells, hvs, hst4]
        unfold Oper.wp
        simp [execOp, e0, e1, hst5]
        clear e0 e1
        obtain ⟨⟨la⟩, da⟩ := a
        have hla : la.length = 41 := h1
        have hda : da = D := h2
        subst hda
        obtain ⟨v0, r0, rfl, q0⟩ := uncons hla
        obtain ⟨v1, r1, rfl, q1⟩ := uncons q0
        obtain ⟨v2, r2, rfl, q2⟩ := uncons q1
        obtain ⟨v3, r3, rfl, q3⟩ := uncons q2
        obtain ⟨v4, r4, rfl, q4⟩ := uncons q3
        obtain ⟨v5, r5, rfl, q5⟩ := uncons q4
        obtain ⟨v6, r6, rfl, q6⟩ := uncons q5
        obtain ⟨v7, r7, rfl, q7⟩ := uncons q6
        obtain ⟨v8, r8, rfl, q8⟩ := uncons q7
        obtain ⟨v9, r9, rfl, q9⟩ := uncons q8
        obtain ⟨v10, r10, rfl, q10⟩ := uncons q9
        obtain ⟨v11, r11, rfl, q11⟩ := uncons q10
        obtain ⟨v12, r12, rfl, q12⟩ := uncons q11
        obtain ⟨v13, r13, rfl, q13⟩ := uncons q12
        obtain ⟨v14, r14, rfl, q14⟩ := uncons q13
        obtain ⟨v15, r15, rfl, q15⟩ := uncons q14
        obtain ⟨v16, r16, rfl, q16⟩ := uncons q15
        obtain ⟨v17, r17, rfl, q17⟩ := uncons q16
        obtain ⟨v18, r18, rfl, q18⟩ := uncons q17
        obtain ⟨v19, r19, rfl, q19⟩ := uncons q18
        obtain ⟨v20, r20, rfl, q20⟩ := uncons q19
        obtain ⟨v21, r21, rfl, q21⟩ := uncons q20
        obtain ⟨v22, r22, rfl, q22⟩ := uncons q21
        obtain ⟨v23, r23, rfl, q23⟩ := uncons q22
        obtain ⟨v24, r24, rfl, q24⟩ := uncons q23
        obtain ⟨v25, r25, rfl, q25⟩ := uncons q24
        obtain ⟨v26, r26, rfl, q26⟩ := uncons q25
        obtain ⟨v27, r27, rfl, q27⟩ := uncons q26
        obtain ⟨v28, r28, rfl, q28⟩ := uncons q27
        obtain ⟨v29, r29, rfl, q29⟩ := uncons q28
        obtain ⟨v30, r30, rfl, q30⟩ := uncons q29
        obtain ⟨v31, r31, rfl, q31⟩ := uncons q30
        obtain ⟨v32, r32, rfl, q32⟩ := uncons q31
        obtain ⟨v33, r33, rfl, q33⟩ := uncons q32
        obtain ⟨v34, r34, rfl, q34⟩ := uncons q33
        obtain ⟨v35, r35, rfl, q35⟩ := uncons q34
        obtain ⟨v36, r36, rfl, q36⟩ := uncons q35
        obtain ⟨v37, r37, rfl, q37⟩ := uncons q36
        obtain ⟨v38, r38, rfl, q38⟩ := uncons q37
        obtain ⟨v39, r39, rfl, q39⟩ := uncons q38
        obtain ⟨v40, r40, rfl, q40⟩ := uncons q39
        have hnil := List.length_eq_zero_iff.1 q40
        subst hnil
        clear hla q0 q1 q2 q3 q4 q5 q6 q7 q8 q9 q10 q11 q12 q13 q14 q15 q16 q17 q18 q19 q20 q21 q22 q23 q24 q25 q26 q27 q28 q29 q30 q31 q32 q33 q34 q35 q36 q37 q38 q39 q40
        have z0 : v0 = .pointer (some ⟨dn, 0, none⟩) := h4 0 (fun i _ => by omega)
        have z1 : v1 = u1 := h4 1 (fun i _ => by omega)
        have z2 : v2 = u2 := h4 2 (fun i _ => by omega)
        have z3 : v3 = u3 := h4 3 (fun i _ => by omega)
        have z6 : v6 = u6 := h4 6 (fun i _ => by omega)
        have z7 : v7 = u7 := h4 7 (fun i _ => by omega)
        have z8 : v8 = u8 := h4 8 (fun i _ => by omega)
        have z9 : v9 = u9 := h4 9 (fun i _ => by omega)
        have z10 : v10 = u10 := h4 10 (fun i _ => by omega)
        have z11 : v11 = u11 := h4 11 (fun i _ => by omega)
        have z12 : v12 = u12 := h4 12 (fun i _ => by omega)
        have z13 : v13 = u13 := h4 13 (fun i _ => by omega)
        have z14 : v14 = u14 := h4 14 (fun i _ => by omega)
        have z15 : v15 = u15 := h4 15 (fun i _ => by omega)
        have z16 : v16 = u16 := h4 16 (fun i _ => by omega)
        have z17 : v17 = u17 := h4 17 (fun i _ => by omega)
        have z18 : v18 = u18 := h4 18 (fun i _ => by omega)
        have z19 : v19 = u19 := h4 19 (fun i _ => by omega)
        have z20 : v20 = u20 := h4 20 (fun i _ => by omega)
        have z21 : v21 = u21 := h4 21 (fun i _ => by omega)
        have z22 : v22 = u22 := h4 22 (fun i _ => by omega)
        have z23 : v23 = u23 := h4 23 (fun i _ => by omega)
        have z24 : v24 = .pointer (some ⟨ib, 0, none⟩) := h4 24 (fun i _ => by omega)
        have z37 : v37 = u37 := h4 37 (fun i _ => by omega)
        have z38 : v38 = u38 := h4 38 (fun i _ => by omega)
        have z39 : v39 = u39 := h4 39 (fun i _ => by omega)
        have z40 : v40 = u40 := h4 40 (fun i _ => by omega)
        subst z0 z1 z2 z3 z6 z7 z8 z9 z10 z11 z12 z13 z14 z15 z16 z17 z18 z19 z20 z21 z22 z23 z24 z37 z38 z39 z40
        clear h1 h2 h3 h4
        refine ⟨⟨v4, v5, v25, v26, v27, v28, v29, v30, v31, v32, v33, v34, v35, v36, ?rel, rfl⟩, ?measure⟩
        case rel =>
          have hnl4 : w4.heap[nl]? = some (.cells (flushed lc (vis ++ [e])).toArray le lfz) := by
            rw [hw4.here]
            unfold flushed
            rw [List.foldl_append, List.foldl_cons, List.foldl_nil, hk, hval]
            rfl
          refine ⟨vis ++ [e], clock, Nat.le_refl _, (hw4.there ib (Ne.symm hn1)).trans hi3, hnl4, fun x hx => ?_, hnd2, ?_, fun m g1 g2 g3 => (hw4.there m g3).trans (hsame3 m g1 g2 g3), hw4.os.trans hos3, hw4.tape.trans htp3, hw4.output.trans hou3⟩
          · rcases List.mem_append.1 hx with h | h
            · exact hsub x h
            · simp at h; subst h; exact he
          · rw [hw4.size]; show _ ≤ w3.heap.size; omega
        case measure =>
          have hi4 : w4.heap[ib]? = some (.mapIter (some bm) clock ((vis ++ [e]).map (·.born)).toArray clock) := (hw4.there ib (Ne.symm hn1)).trans hi3
          have : seenOf w4 ib = vis.length + 1 := by simp [seenOf, hi4]
          rw [this, hseen]; omega
end Go.AE

namespace Go.AE
open Go Go.RowKit
set_option maxRecDepth 100000

/-! the order does not matter -/
def putAt (cs : List Value) (o : Nat) (vs : List Value) : List Value := cs.mapIdx fun j c => if o ≤ j ∧ j < o + vs.length then vs.getD (j - o) c else c
theorem putAt_length (cs : List Value) (o : Nat) (vs : List Value) : (putAt cs o vs).length = cs.length := by simp [putAt]
theorem splice_put {cs vs : List Value} {o : Nat} (h : o + vs.length ≤ cs.length) : splice cs o vs = putAt cs o vs := by
  apply List.ext_getElem?
  intro j
  unfold splice putAt
  rw [List.getElem?_mapIdx]
  by_cases h1 : j < o
  · rw [List.append_assoc, List.getElem?_append_left (by simp; omega), List.getElem?_take_of_lt h1]
    cases hj : cs[j]? with
    | none => rfl
    | some c => simp [show ¬ (o ≤ j ∧ j < o + vs.length) by omega]
  · by_cases h2 : j < o + vs.length
    · rw [List.getElem?_append_left (by simp; omega), List.getElem?_append_right (by simp; omega)]
      have hj : j < cs.length := by omega
      have hjo : j - o < vs.length := by omega
      simp [show o ≤ j ∧ j < o + vs.length by omega, hj, show min o cs.length = o by omega, hjo]
    · rw [List.getElem?_append_right (by simp; omega), List.getElem?_drop]
      have e : o + vs.length + (j - (cs.take o ++ vs).length) = j := by simp; omega
      rw [e]
      cases hj : cs[j]? with
      | none => rfl
      | some c => simp [show ¬ (o ≤ j ∧ j < o + vs.length) by omega]
theorem putAt_comm (cs vs us : List Value) {o p : Nat} (h : o + vs.length ≤ p ∨ p + us.length ≤ o) : putAt (putAt cs o vs) p us = putAt (putAt cs p us) o vs := by
  apply List.ext_getElem?
  intro j
  unfold putAt
  simp only [List.getElem?_mapIdx, Option.map_map]
  congr 1
  funext c
  simp only [Function.comp]
  by_cases h1 : o ≤ j ∧ j < o + vs.length
  · have h2 : ¬ (p ≤ j ∧ j < p + us.length) := by omega
    rw [if_neg h2, if_neg h2, if_pos h1]
  · rw [if_neg h1, if_neg h1]

def flushed' (cs : List Value) (vis : List MapEntry) : List Value := vis.foldl (fun cs e => putAt cs (keyNat e.key * 512) (cellsOfV e.val)) cs
theorem flushed_eq : ∀ {vis : List MapEntry} {cs : List Value}, (∀ e ∈ vis, keyNat e.key * 512 + (cellsOfV e.val).length ≤ cs.length) → flushed cs vis = flushed' cs vis
  | [], _, _ => rfl
  | e :: vis, cs, h => by
    have h1 := h e (List.mem_cons_self ..)
    show flushed (splice cs _ _) vis = flushed' (putAt cs _ _) vis
    rw [splice_put h1]
    exact flushed_eq fun e' he' => by rw [putAt_length]; exact h e' (List.mem_cons_of_mem _ he')
/-- what is known of what waits -/
def Waits (n len : Nat) (l : List MapEntry) : Prop := ∀ e ∈ l, ∃ (i : Nat) (vs : List Value), i < n ∧ i * 512 + 512 ≤ len ∧ e.key = .int .i64 (i : Nat) ∧ e.val = .agg vs.toArray ∧ vs.length = 512 ∧ ∀ v ∈ vs, v.oneCell' = true
theorem Waits.bound {n len : Nat} {l : List MapEntry} (h : Waits n len l) : ∀ e ∈ l, keyNat e.key * 512 + (cellsOfV e.val).length ≤ len := fun e he => by
  obtain ⟨i, vs, _, h2, h3, h4, h5, _⟩ := h e he
  rw [h3, h4]; simp [keyNat, cellsOfV, h5]; omega
theorem flushed_perm {n : Nat} {l vis : List MapEntry} {cs : List Value} (hp : vis.Perm l) (hw : Waits n cs.length l) (hk : l.Pairwise fun a b => a.key ≠ b.key) : flushed cs vis = flushed cs l := by
  rw [flushed_eq hw.bound, flushed_eq fun e he => hw.bound e (hp.mem_iff.1 he)]
  refine hp.foldl_eq' (fun x hx y hy z => ?_) cs
  have hx' := hp.mem_iff.1 hx
  have hy' := hp.mem_iff.1 hy
  obtain ⟨i, vs, _, _, h1, h2, h3, _⟩ := hw x hx'
  obtain ⟨j, us, _, _, h4, h5, h6, _⟩ := hw y hy'
  by_cases hij : i = j
  · have hxy : x = y := by
      obtain ⟨a, ha, rfl⟩ := List.getElem_of_mem hx'
      obtain ⟨b, hb, rfl⟩ := List.getElem_of_mem hy'
      by_cases hab : a = b
      · subst hab; rfl
      · exfalso
        rcases Nat.lt_or_gt_of_ne hab with h | h
        · exact List.pairwise_iff_getElem.1 hk a b ha hb h (by rw [h1, h4, hij])
        · exact List.pairwise_iff_getElem.1 hk b a hb ha h (by rw [h1, h4, hij])
    subst hxy; rfl
  · rw [h1, h2, h4, h5]
    exact (putAt_comm z _ _ (by simp [keyNat, cellsOfV, h3, h6]; omega)).symm
theorem flushed_append {n : Nat} : ∀ {l : List MapEntry} {cs rest : List Value}, Waits n cs.length l → flushed (cs ++ rest) l = flushed cs l ++ rest
  | [], _, _, _ => rfl
  | e :: l, cs, rest, h => by
    have h1 := h.bound e (List.mem_cons_self ..)
    have e1 : splice (cs ++ rest) (keyNat e.key * 512) (cellsOfV e.val) = splice cs (keyNat e.key * 512) (cellsOfV e.val) ++ rest := by
      unfold splice
      rw [List.take_append_of_le_length (by omega), List.drop_append_of_le_length (by omega), List.append_assoc, List.append_assoc, List.append_assoc]
    show flushed (splice (cs ++ rest) _ _) l = flushed (splice cs _ _) l ++ rest
    rw [e1]
    exact flushed_append fun e' he' => by rw [splice_length h1]; exact h e' (List.mem_cons_of_mem _ he')

theorem flushE_ok {σ : Val} {n : Nat} : ∀ {es : Es} {l : List MapEntry} {r r' : V} {cs : List Value}, EsR σ es l → SR σ r cs → flushE n es r = some r' → SR σ r' (flushed cs l) ∧ Waits n cs.length l
  | .nil, l, r, r', cs, hes, hr, h => by
    have hes : l = [] := hes
    subst hes
    cases h
    exact ⟨hr, fun e he => by cases he⟩
  | .cons k v s tl, l, r, r', cs, hes, hr, h => by
    obtain ⟨e, l', rfl, hk, hv, _, ht⟩ := hes
    replace h : onNat k (fun kk i => bi (kEq kk .i64) (onAgg v fun s => bi (Nat.ble (Nat.succ i) n) (bi (Nat.beq s.size 512) (ob (r.upd (Nat.mul i 512) s 512) (flushE n tl)) none) none) none) = some r' := h
    simp only [onNat_eq, onAgg_eq, bi_eq, beq_iff, ble_iff, ob_eq] at h
    obtain ⟨kk, i, rfl, ⟨hkk, s, rfl, ⟨hi, ⟨hs, r1, hr1, h⟩ | ⟨_, h⟩⟩ | ⟨_, h⟩⟩ | ⟨_, h⟩⟩ := h
    · have hkk := kEq_eq hkk
      subst hkk
      obtain ⟨vs, hsr, h1, ev⟩ := VR_agg hv
      have ek := VR_nat hk
      have hvl : vs.length = 512 := hsr.len.trans hs
      obtain ⟨hb, hr2⟩ := SR.upd hr hsr hvl hr1
      have hb : i * 512 + 512 ≤ cs.length := by
        rcases hb with hb | hb
        · omega
        · exact hb
      have e1 : cs.take (i * 512) ++ vs ++ cs.drop (i * 512 + 512) = splice cs (keyNat e.key * 512) (cellsOfV e.val) := by
        unfold splice
        rw [ek, ev]
        simp [keyNat, cellsOfV, hvl]
      have hr2 : SR σ r1 (splice cs (keyNat e.key * 512) (cellsOfV e.val)) := by rw [← e1]; exact hr2
      obtain ⟨h2, h3⟩ := flushE_ok ht hr2 h
      have hsl : (splice cs (keyNat e.key * 512) (cellsOfV e.val)).length = cs.length := splice_length (by rw [ek, ev]; simp [keyNat, cellsOfV, hvl]; omega)
      rw [hsl] at h3
      refine ⟨h2, fun e' he' => ?_⟩
      rcases List.mem_cons.1 he' with rfl | he'
      · exact ⟨i, vs, hi, hb, ek, ev, hvl, h1⟩
      · exact h3 e' he'
    all_goals cases h

section
variable {P : Program} {B : Nat} {w0 : World} {σ : Val} {h : HS} {w w' : World} {it ib lid nl : Nat}

/-- a block is left alone, another is written -/
theorem St.dropWrite {b b' : Blk} (hr : HRel P B w0 σ h.fn w) (hit : h.fn it ≠ none) (hib : σ.blk it = some ib) (hlid : h.fn lid = some b) (hnl : σ.blk lid = some nl) (hne : lid ≠ it)
    (hsize : w.heap.size ≤ w'.heap.size) (hsame : ∀ m, m < w.heap.size → m ≠ ib → m ≠ nl → w'.heap[m]? = w.heap[m]?) (hos : w'.os = w.os) (htp : w'.tape = w.tape) (hou : w'.output = w.output)
    (hb : BR P σ b' w'.heap[nl]?) : St P B w0 σ h.fn h.c w σ ((h.set lid (some b')).set it none).fn h.c w' := by
  have hid := hr.dom it ib hib
  have hid2 := hr.dom lid nl hnl
  have hf : ∀ j, ((h.set lid (some b')).set it none).fn j = if j = it then none else if j = lid then some b' else h.fn j := fun j => by
    rw [HS.set_fn _ hid none j, HS.set_fn h hid2 (some b') j]
  have live : ∀ j n, ((h.set lid (some b')).set it none).fn j ≠ none → σ.blk j = some n → h.fn j ≠ none ∧ n ≠ ib ∧ n < w.heap.size ∧ (j ≠ lid → n ≠ nl) := by
    intro j n hj hn
    rw [hf j] at hj
    by_cases e : j = it
    · rw [if_pos e] at hj; exact absurd rfl hj
    · rw [if_neg e] at hj
      have hj' : h.fn j ≠ none := by
        by_cases e2 : j = lid
        · subst e2; rw [hlid]; simp
        · rw [if_neg e2] at hj; exact hj
      refine ⟨hj', fun e' => e (hr.inj j it n hj' hit hn (by rw [e']; exact hib)), ?_, fun e2 e' => e2 (hr.inj j lid n hj' (by rw [hlid]; simp) hn (by rw [e']; exact hnl))⟩
      cases hb : h.fn j with
      | none => exact absurd hb hj'
      | some b => exact hr.lt hb hn
  have hlt : ∀ {j n : Nat} {k : Blk}, h.fn j = some k → σ.blk j = some n → B ≤ n := fun h1 h2 => hr.own _ _ (by rw [h1]; simp) h2
  refine ⟨Ext.refl _ _ _, ⟨fun j k n h1 h2 => ?_, fun j j' n h1 h1' h2 h2' => hr.inj j j' n (live j n h1 h2).1 (live j' n h1' h2').1 h2 h2', hr.dom, fun j n h1 h2 => hr.own j n (live j n h1 h2).1 h2,
    ⟨hos.trans hr.keep.os, htp.trans hr.keep.tape, hou.trans hr.keep.output, Nat.le_trans hr.keep.size hsize, fun k hk => ?_⟩, Nat.le_trans hr.base hsize⟩,
    Nat.le_refl _, hsize, fun m hm hfo => hsame m hm (fun e => hfo it hit (by rw [e]; exact hib)) (fun e => hfo lid (by rw [hlid]; simp) (by rw [e]; exact hnl)), fun j n h1 h2 _ => ⟨j, (live j n h1 h2).1, h2⟩, fun j h1 _ => ?_⟩
  · obtain ⟨a, b1, c, d⟩ := live j n (by rw [h1]; simp) h2
    rw [hf j] at h1
    by_cases e : j = it
    · rw [if_pos e] at h1; cases h1
    · rw [if_neg e] at h1
      by_cases e2 : j = lid
      · rw [if_pos e2] at h1
        cases h1
        subst e2
        rw [hnl] at h2; cases h2
        exact hb
      · rw [if_neg e2] at h1
        rw [hsame n c b1 (d e2)]
        exact hr.blk j k n h1 h2
  · have h1 := hr.own it ib hit hib
    have h2 := hlt hlid hnl
    rw [hsame k (Nat.lt_of_lt_of_le hk hr.base) (by omega) (by omega)]
    exact hr.keep.block k hk
  · rw [hf j, if_neg (fun e => by rw [e, hib] at h1; cases h1), if_neg (fun e => by rw [e, hnl] at h1; cases h1)]
end

theorem lovFlush_ok {B : Nat} {w0 : World} {b : Code} (hb : (Go.Proofs.Tryz.f47.body.bind (loopAt 8)) = some b) : CodeOK Go.Proofs.Tryz.prog B w0 41 lovFlush (.loop b) := by
  have inv : ∀ {t t' : T} {h h' : HS} {x : Nat}, lovFlush t h = .ok x t' h' → ∃ d e0 dr x0 lid n cap cx e r x1 it m since stepped es r', tg 0 t = some (.ptr d 0) ∧ h.get d = some (.cells e0 dr x0) ∧ dr.get 0 = some (.sl lid 0 n cap cx) ∧
      h.get lid = some (.cells e r x1) ∧ tg 24 t = some (.ptr it 0) ∧ h.get it = some (.iter m since .nil stepped) ∧ h.get m = some (.map es since) ∧ flushE n es r = some r' ∧ x = 2 ∧ h' = (h.set lid (some (.cells e r' x1))).set it none ∧ lid ≠ d ∧
      t' = (clrC [25, 26, 27, 28, 29, 4, 5, 30, 31, 32, 33, 34, 35, 36]).out t := by
    intro t t' h h' x hr
    unfold lovFlush at hr
    rw [KF.app_eq] at hr
    obtain ⟨v, hy, rfl, rfl⟩ := rsOf_eq hr
    simp only [ob_eq, onPtr_eq, bi_eq, beq_iff, onCells_eq, onSl_eq] at hy
    obtain ⟨p, hp, d, doff, rfl, ⟨rfl, e0, dr, x0, hd, s, hs, ⟨_, hy⟩ | ⟨_, hy⟩ | ⟨lid, off, n, cap, cx, rfl, ⟨rfl, ⟨_, hy⟩ | ⟨hld, e, r, x1, hl, hy⟩⟩ | ⟨_, hy⟩⟩⟩ | ⟨_, hy⟩⟩ := hy
    · cases hy
    · cases hy
    · cases hy
    · obtain ⟨it, m, since, stepped, es, h1, h2, h3, h4⟩ := freshIter_eq hy
      rw [ob_eq] at h4
      obtain ⟨r', h5, h6⟩ := h4
      cases h6
      exact ⟨d, e0, dr, x0, lid, n, cap, cx, e, r, x1, it, m, since, stepped, es, r', hp, hd, hs, hl, h1, h2, h3, h5, rfl, rfl, beq_false.1 hld, rfl⟩
    · cases hy
    · cases hy
  refine ⟨fun {D σ t t' a h h' w x} ht hd hr hu hrun => ?_, fun {t t' h h' x} hrun => ?_⟩
  · obtain ⟨d, e0, dr, x0, lid, n, cap, cx, e, r, x1, it, m, since, stepped, es, r', h0, hgd, hdr, hgl, h24, hgi, hgm, hfl, rfl, rfl, hlid, rfl⟩ := inv hrun
    obtain ⟨⟨l⟩, ds⟩ := a
    have hd : ds = D := hd
    subst hd
    have hl : l.length = 41 := by have := ht.size; simpa using this
    have get : ∀ {m : Nat} {v : Value}, m < 41 → l[m]?.getD undef = v → l[m]? = some v := by
      intro m v hm e
      rw [List.getElem?_eq_getElem (by omega)] at e ⊢
      exact congrArg some e
    obtain ⟨dn, hdn, e1⟩ := VR_ptr (TR.at ht (by decide) h0)
    obtain ⟨ib, hib, e2⟩ := VR_ptr (TR.at ht (by decide) h24)
    have u0 := get (by decide) e1
    have u24 := get (by decide) e2
    obtain ⟨hfd, dcs, drest, dfz, hwd, hdsr, _, _, _⟩ := hr.get hdn hgd
    obtain ⟨y, hy, hyv⟩ := SR.get hdsr hdr
    obtain ⟨nl, ce, hnl, hce, ey⟩ := VR_sl hyv
    subst ey
    obtain ⟨hfl2, lcs, lrest, lfz, hwl, hlsr, hl1, hlfz, hlx⟩ := hr.get hnl hgl
    obtain ⟨hfi, bm, s, sn, st, hwi, hbm, hsi, hsn, hst, hle⟩ := hr.get hib hgi
    have hsn : sn = [] := hsn
    subst hsn
    obtain ⟨hfm, ents, clock, lm, hwm, hck, hpm, hes, hsort⟩ := hr.get hbm hgm
    have hcs : clock = s := by
      rw [hck] at hsi
      simp only [Option.some.injEq, Value.int.injEq, true_and] at hsi
      exact Int.ofNat_inj.1 hsi
    subst hcs
    obtain ⟨hr', hw⟩ := flushE_ok hes hlsr hfl
    have hborn : ∀ x ∈ ents.toList, x.born < clock := fun x hx => hsort.born x (hpm.mem_iff.1 hx)
    have hnd : (ents.toList.map (·.born)).Nodup := ((hpm.map (·.born)).nodup_iff).2 (List.pairwise_map.2 hsort.once)
    have hne1 : lid ≠ it := fun e => by rw [e, hgi] at hgl; cases hgl
    have nib : ib ≠ bm := fun e => by rw [e, hwm] at hwi; cases hwi
    have nli : nl ≠ ib := fun e => by rw [e, hwi] at hwl; cases hwl
    have nlb : nl ≠ bm := fun e => by rw [e, hwm] at hwl; cases hwl
    have nid : ib ≠ dn := fun e => by rw [e, hwd] at hwi; cases hwi
    have hld : nl ≠ dn := fun e => hlid (hr.inj lid d nl (by rw [hfl2]; simp) (by rw [hfd]; simp) hnl (by rw [e]; exact hdn))
    · refine flush b hb l hl ds w u0 u24 hwi hwm hwd (by simpa using (by rw [List.getElem?_append_left (List.getElem?_eq_some_iff.1 hy).1]; exact hy : (dcs ++ drest)[0]? = _)) hwl (by rw [List.length_append]; exact hlfz) hborn hnd hle nib nli nlb hld nid
        (fun e he => by
          obtain ⟨i, vs, a1, a2, a3⟩ := hw e (hpm.mem_iff.1 he)
          exact ⟨i, vs, a1, by rw [List.length_append]; omega, a3⟩) _ fun l' w' vis hbut hperm hnl' hsz hsame hos htp hou => ?_
      have hpl := hperm.trans hpm
      have hfin : flushed (lcs ++ lrest) vis = flushed lcs lm ++ lrest := by
        rw [flushed_perm (n := n) hpl (fun e he => by
          obtain ⟨i, vs, a1, a2, a3⟩ := hw e he
          exact ⟨i, vs, a1, by rw [List.length_append]; omega, a3⟩) hsort.keys]
        exact flushed_append hw
      rw [hfin] at hnl'
      have hflen : (flushed lcs lm).length = lcs.length := flushed_length hw.bound
      refine ⟨σ, rfl, TR.clr ht (by decide) (hbut.perm (by decide)) hbut.length, rfl, ?_⟩
      refine St.dropWrite hr (by rw [hfi]; simp) hib hfl2 hnl hne1 hsz hsame hos htp hou ?_
      rw [hnl']
      refine ⟨flushed lcs lm, lrest, lfz, rfl, hr', fun c hc => ?_, by rw [hflen]; exact hlfz, hlx⟩
      have one : ∀ {l : List MapEntry} {cs : List Value}, Waits n cs.length l → (∀ c ∈ cs, c.oneCell' = true) → ∀ c ∈ flushed cs l, c.oneCell' = true := by
        intro l
        induction l with
        | nil => exact fun _ h => h
        | cons e l ih =>
          intro cs hw h
          have h1 := hw.bound e (List.mem_cons_self ..)
          refine ih (cs := splice cs (keyNat e.key * 512) (cellsOfV e.val)) (fun e' he' => by rw [splice_length h1]; exact hw e' (List.mem_cons_of_mem _ he')) fun c hc => ?_
          unfold splice at hc
          rcases List.mem_append.1 hc with hc | hc
          · rcases List.mem_append.1 hc with hc | hc
            · exact h c (List.mem_of_mem_take hc)
            · obtain ⟨i, vs, _, _, _, ev, _, h2⟩ := hw e (List.mem_cons_self ..)
              rw [ev] at hc
              exact h2 c (by simpa [cellsOfV] using hc)
          · exact h c (List.mem_of_mem_drop hc)
      exact one hw hl1 c hc
  · obtain ⟨_, _, _, _, _, _, _, _, _, _, _, _, _, _, _, _, _, _, _, _, _, _, _, _, _, _, rfl, _⟩ := inv hrun
    exact Nat.le_refl _
end Go.AE

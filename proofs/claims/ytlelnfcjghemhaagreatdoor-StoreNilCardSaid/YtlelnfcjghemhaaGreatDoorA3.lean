/- The operations on cells, slices and maps: each is sound. -/
import Derived.Test.YtlelnfcjghemhaaGreatDoorA2
import Derived.Maps.RangeRun
import Derived.Laws.BytesString
namespace Go.AE
open Go Go.RowKit

variable {P : Program} {E : Env} {B : Nat} {w0 : World}

theorem fresh_row {σ : Val} {e : Nat} {r : V} {cs : List Value} (hr : SR σ r cs) (h1 : ∀ c ∈ cs, c.oneCell' = true) {w : World} {c : Nat} (hu : Und σ c (c + 1)) :
    BR P (σ.put c w.heap.size none none) (.cells e r none) (some (.cells cs.toArray e)) :=
  ⟨cs, [], (0, 0), by simp, hr.mono (Val.put_ext hu _ _ _).le, h1, .inl rfl, rfl⟩

theorem cAlloc_ok (hE : EnvOK P E B w0) {o : Oper} {e : Nat} (ho : o.op = .alloc e) : CKOK P B w0 o (cAlloc E e) := by
  unfold cAlloc
  split
  · rename_i z hz
    rw [KF.app_eq]
    intro σ nt t a bf ht h
    cases h
    obtain ⟨zv, hzr, hzv, hnt⟩ := hE.run_zero hz
    intro w c hu
    refine ⟨.pointer (some ⟨w.heap.size, 0, none⟩), w.alloc (.cells zv.cells e), σ.put c w.heap.size none none, _, ?_, Grew.alloc _ _, Val.put_ext hu _ _ _, Val.put_blk _ _ _ _ _, ?_, VR.ptr (Val.put_blk _ _ _ _ _)⟩
    · simp [execOp, ho, Instr.alloc, hzr, newVar, newRow]
    · have := fresh_row (P := P) (e := e) (VR.cells (hzv σ)) (VR.cells_one (hzv σ) hnt) (w := w) hu
      simpa [KF.out_mk] using this
  · trivial

theorem notTup_ne {v : V} (h : notTup v = true) : ∀ r, v ≠ .tup r := by
  intro r e; subst e; cases h

theorem cBox_ok {o : Oper} {e : Nat} {x : Operand} (ho : o.op = .box e x) : CKOK P B w0 o (cBox e x) := by
  unfold cBox
  rw [KF.app_eq]
  intro σ nt t a bf ht h
  simp only [ob_eq, bi_eq] at h
  obtain ⟨v, hv, ⟨hn, h⟩ | ⟨_, h⟩⟩ := h <;> cases h
  have hx := opdC_ok ht hv
  intro w c hu
  refine ⟨.pointer (some ⟨w.heap.size, 0, none⟩), w.alloc (.cells (a.eval x).cells e), σ.put c w.heap.size none none, _, ?_, Grew.alloc _ _, Val.put_ext hu _ _ _, Val.put_blk _ _ _ _ _, ?_, VR.ptr (Val.put_blk _ _ _ _ _)⟩
  · simp [execOp, ho, Instr.box, newVar, newRow]
  · have := fresh_row (P := P) (e := e) (VR.cells hx) (VR.cells_one hx (notTup_ne hn)) (w := w) hu
    simpa using this

theorem cMakeMap_ok {o : Oper} {ty : Nat} {r : Option Operand} (ho : o.op = .makeMap ty r) : CKOK P B w0 o (cMakeMap r) := by
  unfold cMakeMap
  split
  · intro σ nt t a bf ht h
    cases h
    intro w c hu
    refine ⟨.map (some w.heap.size), w.alloc (.map #[] 0), σ.put c w.heap.size none (some (.int .i64 0)), _, ?_, Grew.alloc _ _, Val.put_ext hu _ _ _, Val.put_blk _ _ _ _ _, ?_, ?_⟩
    · simp [execOp, ho, Instr.makeMap]
    · exact ⟨#[], 0, [], rfl, Val.put_opq _ _ _ _ _, List.Perm.nil, rfl, ⟨fun e he => (by cases he), List.Pairwise.nil, List.Pairwise.nil, .bool, fun e he => (by cases he)⟩⟩
    · exact ⟨rfl, w.heap.size, Val.put_blk _ _ _ _ _, rfl⟩
  · trivial

theorem run_loadVar_of (hE : EnvOK P E B w0) {ty : Nat} {σ : Val} {r : V} {cs rest : List Value} {w : World} {n e : Nat} {fz : Nat × Nat} (hw : w.heap[n]? = some (.cells (cs ++ rest).toArray e fz))
    (hr : SR σ r cs) (h1 : ∀ c ∈ cs, c.oneCell' = true) {off : Nat} {v : V} (h : (partC E ty).out r off = some v) : ∃ x, (loadVar ty ⟨n, off, none⟩).run P w = .ok x w ∧ VR σ v x := by
  unfold partC at h
  split at h
  · rename_i k ha hn
    have h : ob (r.ext off k) (fun x => some (V.agg x)) = some v := h
    simp only [ob_eq] at h
    obtain ⟨u, hu, e⟩ := h
    cases e
    obtain ⟨j1, j2⟩ := SR.ext hr hu
    refine ⟨.agg ((cs.drop off).take k).toArray, ?_, rfl, _, j2, fun c hc => h1 c (List.mem_of_mem_drop (List.mem_of_mem_take hc)), rfl⟩
    have hl := run_loadCells_of (P := P) hw (o := off) (k := k) (by rcases j1 with j1 | j1; exact .inl j1; right; simp; omega)
    have e : ((cs ++ rest).drop off).take k = (cs.drop off).take k := by
      rcases j1 with j1 | j1
      · simp [j1]
      · rw [List.drop_append_of_le_length (by omega), List.take_append_of_le_length (by simp; omega)]
    rw [e] at hl
    simp [loadVar, hE.run_agg ha, hE.run_size hn, hl]
  · rename_i k ha hn
    have h : r.get off = some v := h
    obtain ⟨x, hx, hv⟩ := SR.get hr h
    refine ⟨x, ?_, hv⟩
    have hlt : off < cs.length := (List.getElem?_eq_some_iff.1 hx).1
    have hc := cell_of hw off
    rw [List.getElem?_append_left hlt, hx] at hc
    simp [loadVar, hE.run_agg ha, load, Sem.run, hc]
  · cases h

theorem loadC_out (ty : Nat) (p : V) (h : HS) : (loadC E ty).out p h = onPtrs p (fun id off => onCells (h.get id) fun _ r _ => (partC E ty).out r off) (fun g off => ob (E.glob g) fun r => (partC E ty).out r off) := by
  unfold loadC; rw [KF.app_eq]; rfl

theorem storeC_out {ty n : Nat} (hn : E.size ty = some n) (a v : V) (h : HS) : (storeC E ty).out a v h = onPtr a fun id off => onCells (h.get id) fun e r x =>
      bi (notTup v) (bi (Nat.beq v.cells.size n) (ob (r.upd off v.cells n) fun r' => some (VH.mk undefV (h.set id (some (.cells e r' x))))) none) none := by
  unfold storeC; rw [hn]; rfl
theorem storeC_none {ty : Nat} (hn : E.size ty = none) (a v : V) (h : HS) : (storeC E ty).out a v h = none := by
  unfold storeC; rw [hn]; rfl

theorem cLoad_ok (hE : EnvOK P E B w0) {o : Oper} {ty : Nat} {x : Operand} (ho : o.op = .load ty x) : CKOK P B w0 o (cLoad E ty x) := by
  unfold cLoad
  rw [KF.app_eq, KF.app_eq]
  intro σ nt t a h w v ht hr hv
  simp only [ob_eq, loadC_out, onPtrs_eq, onCells_eq] at hv
  obtain ⟨p, hp, ⟨i, off, rfl, e, r, bx, hg, hv⟩ | ⟨g, off, rfl, r, hg, hv⟩⟩ := hv
  · obtain ⟨b, hb, ep⟩ := VR_ptr (opdC_ok ht hp)
    obtain ⟨_, cs, rest, fz, hw, hsr, h1, _, _⟩ := hr.get hb hg
    obtain ⟨y, hy, hyv⟩ := run_loadVar_of hE hw hsr h1 hv
    exact ⟨y, by simp [execOp, ho, ep, Instr.loadAt, Instr.sureAddr, hy], hyv⟩
  · have ep := VR_gptr (opdC_ok ht hp)
    obtain ⟨hlt, cs, rest, e, fz, hw0, hsr, h1⟩ := hE.glob g r hg
    have hw : w.heap[g]? = some (.cells (cs ++ rest).toArray e fz) := by
      rw [← hw0]; exact hr.keep.block g hlt
    obtain ⟨y, hy, hyv⟩ := run_loadVar_of hE hw (hsr σ) h1 hv
    exact ⟨y, by simp [execOp, ho, ep, Instr.loadAt, Instr.sureAddr, hy], hyv⟩

theorem upd_split {α : Type} (l rest vs : List α) (o : Nat) (h : o + vs.length ≤ l.length) :
    (l ++ rest).take o ++ vs ++ (l ++ rest).drop (o + vs.length) = (l.take o ++ vs ++ l.drop (o + vs.length)) ++ rest := by
  rw [List.take_append_of_le_length (by omega), List.drop_append_of_le_length (by omega)]
  simp

theorem cStore_ok (hE : EnvOK P E B w0) {o : Oper} {ty : Nat} {x y : Operand} (ho : o.op = .store ty x y) : CKOK P B w0 o (cStore E ty x y) := by
  unfold cStore
  rw [KF.app_eq, KF.app_eq, KF.app_eq]
  intro σ nt t a h w vh ht hr hu hv
  simp only [ob_eq] at hv
  obtain ⟨p, hp, v, hv, hs⟩ := hv
  cases hn : E.size ty with
  | none => rw [storeC_none hn] at hs; cases hs
  | some n =>
    simp only [storeC_out hn, ob_eq, onPtr_eq, onCells_eq, bi_eq, beq_iff] at hs
    obtain ⟨i, off, rfl, e, r, bx, hg, ⟨hnt, ⟨hsz, r', hr', e'⟩ | ⟨_, e'⟩⟩ | ⟨_, e'⟩⟩ := hs <;> cases e'
    obtain ⟨b, hb, ep⟩ := VR_ptr (opdC_ok ht hp)
    have hx := opdC_ok ht hv
    obtain ⟨hf, cs, rest, fz, hw, hsr, h1, hfz, hbx⟩ := hr.get hb hg
    have c1 := VR.cells hx
    have c2 := VR.cells_one hx (notTup_ne hnt)
    have hlen : (a.eval y).cells.toList.length = n := (SR.len c1).trans hsz
    obtain ⟨u1, u2⟩ := SR.upd hsr c1 hlen hr'
    obtain ⟨w', hrun, hwr⟩ := run_storeCells_of (P := P) (a.eval y).cells.toList (cs ++ rest) fz off 0 w hw (by simpa using hfz) (by rw [hlen, List.length_append]; omega) c2
    refine ⟨undef, w', σ, .inr ⟨?_, rfl⟩, St.write hr hf hb hwr ⟨cs.take off ++ (a.eval y).cells.toList ++ cs.drop (off + n), rest, fz, ?_, u2, ?_, ?_, hbx⟩, undef_VR σ⟩
    · have hlen2 : (a.eval y).cells.size = n := by simpa using hlen
      simp [execOp, ho, ep, Instr.storeAt, Instr.sureAddr, storeVar, hE.run_size hn, hlen2, hrun]
    · rw [hlen, Nat.add_zero]
      rcases u1 with u1 | u1
      · have : (a.eval y).cells.toList = [] := List.length_eq_zero_iff.1 (hlen.trans u1)
        simp [this, u1]
      · have := upd_split cs rest (a.eval y).cells.toList off (by omega)
        rw [hlen] at this
        rw [this]
    · intro c hc
      simp only [List.mem_append] at hc
      rcases hc with (hc | hc) | hc
      · exact h1 c (List.mem_of_mem_take hc)
      · exact c2 c hc
      · exact h1 c (List.mem_of_mem_drop hc)
    · have hl := SR.len hsr
      have : (cs.take off ++ (a.eval y).cells.toList ++ cs.drop (off + n)).length = cs.length := by
        simp only [List.length_append, List.length_take, List.length_drop, hlen]
        rcases u1 with u1 | u1 <;> omega
      rw [this]; exact hfz
end Go.AE

namespace Go.AE
open Go Go.RowKit

variable {P : Program} {E : Env} {B : Nat} {w0 : World}

theorem cycle_rep (zs : List Value) : ∀ n, (List.range (n * zs.length)).map (fun i => zs.toArray[i % zs.length]!) = (List.replicate n zs).flatten
  | 0 => by simp
  | n + 1 => by
    rw [List.replicate_succ', List.flatten_append, ← cycle_rep zs n, Nat.succ_mul, List.range_add, List.map_append]
    congr 1
    simp only [List.flatten_cons, List.flatten_nil, List.append_nil, List.map_map]
    apply List.ext_getElem
    · simp
    · intro i h1 h2
      simp at h1
      have : (n * zs.length + i) % zs.length = i := by rw [Nat.mul_comm, Nat.mul_add_mod, Nat.mod_eq_of_lt h1]
      simp [this, h1]

theorem SR.rep_flat {σ : Val} {v : V} {xs : List Value} (h : SR σ v xs) : ∀ n, SR σ (Nat.rec (motive := fun _ => V) .nil (fun _ ih => V.mk v ih) n) (List.replicate n xs).flatten
  | 0 => rfl
  | n + 1 => by
    rw [List.replicate_succ, List.flatten_cons]
    exact SR.mk h (SR.rep_flat h n)

theorem repeatR_ok {σ : Val} {z : V} {zs : List Value} (h : SR σ z zs) (n : Nat) : SR σ (repeatR z n) (List.replicate n zs).flatten := by
  unfold repeatR
  split
  · rename_i k v
    obtain ⟨x, hl, hv, rfl⟩ := h
    have e : (List.replicate n (List.replicate k x)).flatten = List.replicate (k * n) x := by
      rw [List.flatten_replicate_replicate, Nat.mul_comm]
    rw [e]
    exact SR.mkRep _ hl hv
  · exact SR.rep_flat h n
  · have h : zs = [] := h
    subst h
    have : (List.replicate n ([] : List Value)).flatten = [] := by induction n <;> simp_all
    rw [this]; exact rfl
  · rename_i h1 h2 h3
    have hl : z.leaf = true := by cases z <;> first | rfl | exact absurd rfl (h1 _ _) | exact absurd rfl (h2 _ _ _ _) | exact absurd rfl h3
    obtain ⟨x, rfl⟩ := SR.one hl h
    have e : (List.replicate n [x]).flatten = List.replicate n x := by induction n <;> simp_all [List.replicate_succ]
    rw [e]
    exact SR.mkRep _ hl h

theorem mem_rep {α : Type} {n : Nat} {l : List α} {x : α} (h : x ∈ (List.replicate n l).flatten) : x ∈ l := by
  simp only [List.mem_flatten, List.mem_replicate] at h
  obtain ⟨l', ⟨_, rfl⟩, h⟩ := h
  exact h

theorem rep_cells {len : Nat} (c : Array Value) : (Array.range (len * c.size)).map (fun i => c[i % c.size]!) = (List.replicate len c.toList).flatten.toArray := by
  have := cycle_rep c.toList len
  rw [← this]
  apply Array.ext'
  simp [Array.toList_range]

theorem rep_none {len : Nat} {c : Array Value} (h : len * c.size = 0) : (List.replicate len c.toList).flatten = [] := by
  apply List.eq_nil_of_length_eq_zero
  simpa using h

theorem cBuildSlice_ok (hE : EnvOK P E B w0) {o : Oper} {ty len : Nat} {ps : Array (Nat × Operand)} (ho : o.op = .buildSlice ty len ps) : CKOK P B w0 o (cBuildSlice E ty len ps) := by
  unfold cBuildSlice
  split
  · rename_i e hu
    split
    · rename_i n z hn hz
      rw [bi_if]
      split
      · rename_i hb
        rw [Bool.and_eq_true] at hb
        obtain ⟨hb1, hb2⟩ := hb
        have hb1 : len * n ≤ 16777216 := ble_iff.1 hb1
        have hb2 : z.cells.size = n := beq_iff.1 hb2
        rw [KF.app_eq, KF.app_eq]
        intro σ nt t a bf ht h
        simp only [ob_eq, KF.out_mk] at h
        obtain ⟨r, hr, h⟩ := h
        cases h
        obtain ⟨zv, hzr, hzv, hnt⟩ := hE.run_zero hz
        have hc := VR.cells (hzv σ)
        have hlen : zv.cells.toList.length = n := (SR.len hc).trans hb2
        obtain ⟨ys, h2, h3, h4, h5⟩ := putC_ok ht (repeatR_ok hc len) (fun c hc' => VR.cells_one (hzv σ) hnt c (mem_rep hc')) hr
        intro w c hu'
        refine ⟨.slice (some ⟨w.heap.size, 0, none⟩) len len, w.alloc (.cells ys.toArray e), σ.put c w.heap.size none none, _, ?_, Grew.alloc _ _, Val.put_ext hu' _ _ _, Val.put_blk _ _ _ _ _, fresh_row h3 h4 hu', VR.sl0 (Val.put_blk _ _ _ _ _)⟩
        have h2 : Instr.fill (fun i => some (i * n, n)) ((List.replicate len zv.cells.toList).flatten.toArray) (ps.toList.map fun p => (p.1, a.eval p.2)) = some ys.toArray := by simpa using h2
        have hsz : zv.cells.size = n := by simpa using hlen
        subst hsz
        by_cases h0 : len * zv.cells.size = 0
        · rw [rep_none h0] at h2
          have h00 : Array.range 0 = #[] := rfl
          simp [h00, execOp, ho, Instr.buildSlice, hE.run_und hu, hE.run_size hn, h0, h2, newRow]
        · rw [← rep_cells] at h2
          simp [execOp, ho, Instr.buildSlice, hE.run_und hu, hE.run_size hn, h0, hb1, hzr, h2, newRow]
      · trivial
    · trivial
  · trivial

theorem cMakeSlice_ok (hE : EnvOK P E B w0) {o : Oper} {ty : Nat} {l c : Operand} (ho : o.op = .makeSlice ty l c) : CKOK P B w0 o (cMakeSlice E ty l c) := by
  unfold cMakeSlice
  split
  · rename_i e hu
    split
    · rename_i n by_ z hn hb hz
      rw [bi_if]
      split
      · rename_i hsz
        have hsz : z.cells.size = n := beq_iff.1 hsz
        rw [KF.app_eq, KF.app_eq, KF.app_eq, KF.out_mk]
        intro σ nt t a bf ht h
        simp only [ob_eq, onNat_eq, bi_eq, ble_iff, Nat.mul_eq] at h
        obtain ⟨vl, hl, vc, hc, kl, l, rfl, kc, c, rfl, ⟨k1, ⟨k2, ⟨h1, ⟨h2, ⟨h3, h⟩ | ⟨_, h⟩⟩ | ⟨_, h⟩⟩ | ⟨_, h⟩⟩ | ⟨_, h⟩⟩ | ⟨_, h⟩⟩ := h <;> cases h
        have k1 := kEq_eq k1
        have k2 := kEq_eq k2
        subst k1 k2
        have el := VR_nat (opdC_ok ht hl)
        have ec := VR_nat (opdC_ok ht hc)
        obtain ⟨zv, hzr, hzv, hnt⟩ := hE.run_zero hz
        obtain ⟨ib, hib, rfl⟩ := hE.infoB hb
        have hcl := VR.cells (hzv σ)
        have hlen : zv.cells.size = n := by simpa using (SR.len hcl).trans hsz
        subst hlen
        intro w c' hu'
        have hwl : IntKind.i64.wrap (l : Int) = l := wrap_half (by show l < 9223372036854775808; omega)
        have hwc : IntKind.i64.wrap (c : Int) = c := wrap_half (by show c < 9223372036854775808; omega)
        refine ⟨.slice (some ⟨w.heap.size, 0, none⟩) l c, w.alloc (.cells (List.replicate c zv.cells.toList).flatten.toArray e), σ.put c' w.heap.size none none, _, ?_, Grew.alloc _ _, Val.put_ext hu' _ _ _, Val.put_blk _ _ _ _ _,
          fresh_row (repeatR_ok hcl c) (fun x hx => VR.cells_one (hzv σ) hnt x (mem_rep hx)) hu', VR.sl0 (Val.put_blk _ _ _ _ _)⟩
        have hn' : P.cellsOf e = zv.cells.size := hE.cellsOf hn
        have hbig : ¬ ((c : Int) < 0) := by omega
        have hbig2 : ¬ ((281474976710656 : Int) < ib.bytes * (c : Int)) := by
          have : ((ib.bytes * c : Nat) : Int) ≤ ((70368744177664 : Nat) : Int) := Int.ofNat_le.2 h1
          rw [Int.natCast_mul] at this
          omega
        have hl0 : ¬ ((l : Int) < 0) := by omega
        have hlc : ¬ ((c : Int) < l) := by omega
        rw [← rep_cells]
        by_cases h0 : c * zv.cells.size = 0
        · have h00 : Array.range 0 = #[] := rfl
          simp [execOp, ho, Instr.makeSlice, hE.run_und hu, el, ec, asInt, asIntOf, typeInfo, hib, hwl, hwc, hbig, hbig2, hl0, hlc, hE.run_size hn, h0, h00, newRow]
        · simp [execOp, ho, Instr.makeSlice, hE.run_und hu, el, ec, asInt, asIntOf, typeInfo, hib, hwl, hwc, hbig, hbig2, hl0, hlc, hE.run_size hn, h0, hzr, newRow]
      · trivial
    · trivial
  · trivial
end Go.AE

namespace Go.AE
open Go Go.RowKit

variable {P : Program} {E : Env} {B : Nat} {w0 : World}

/-! keys -/
theorem keyC_eq {kt : Nat} {eq : V → V → Option Bool} (h : keyC E kt = some eq) : (∃ k, E.und kt = some (.int k) ∧ eq = keyEq) ∨ (E.und kt = some .string ∧ eq = keyEqS) := by
  unfold keyC at h
  split at h <;> cases h
  · rename_i k hk; exact .inl ⟨k, hk, rfl⟩
  · rename_i hk; exact .inr ⟨hk, rfl⟩

/-- the kind of key that a value is -/
def KeyAs (kt : Nat) (E : Env) (d : TypeDesc) (k : V) : Prop :=
  (∃ a j n, E.und kt = some (.int a) ∧ k = .nat j n ∧ d = .int j) ∨ (∃ s, E.und kt = some .string ∧ k = .str s ∧ d = .string)

theorem keyOkC_eq {kt : Nat} {k : V} {r : Option V} {y : V} (h : keyOkC E kt k r = some y) : r = some y ∧ ∃ d, KeyAs kt E d k := by
  unfold keyOkC at h
  cases hu : E.und kt with
  | none => simp only [hu] at h; cases h
  | some d =>
    simp only [hu] at h
    cases d with
    | int a =>
      simp only [onNat_eq] at h
      obtain ⟨j, n, rfl, h⟩ := h
      exact ⟨h, _, .inl ⟨a, j, n, hu, rfl, rfl⟩⟩
    | string =>
      simp only [onStr_eq] at h
      obtain ⟨s, rfl, h⟩ := h
      exact ⟨h, _, .inr ⟨s, hu, rfl, rfl⟩⟩
    | _ => cases h

theorem KeyAs.is {kt : Nat} {d : TypeDesc} {k : V} {σ : Val} {x : Value} (h : KeyAs kt E d k) (hx : VR σ k x) : MapKept.IsKey d x := by
  rcases h with ⟨a, j, n, _, rfl, rfl⟩ | ⟨s, _, rfl, rfl⟩
  · have e := VR_nat hx; subst e; rfl
  · have e := VR_str hx; subst e; trivial

theorem toBA_inj {a b : List Nat} (h : toBA a = toBA b) (ha : eqB a b = false) : False := by
  have := eqB_ok a b
  rw [ha] at this
  have h2 : (a.map UInt8.ofNat) = b.map UInt8.ofNat := by
    have := congrArg (fun b => b.data.toList) h
    simpa [toBA] using this
  rw [h2] at this
  simp at this

theorem findNow_any (a b : IntKind) (k : Value) : ∀ (l : List MapEntry) (i : Nat), Instr.findNow (.int a) k l i = Instr.findNow (.int b) k l i
  | [], _ => rfl
  | e :: l, i => by
    have : Instr.sameNow (.int a) k e.key = Instr.sameNow (.int b) k e.key := by cases k <;> cases e.key <;> rfl
    unfold Instr.findNow
    rw [this, findNow_any a b k l (i + 1)]

/-! where an entry stands -/
def AtE (k v : V) (s : Nat) (e : MapEntry) : Es → List MapEntry → Prop
  | .cons k' v' s' tl, e' :: l' => (k' = k ∧ v' = v ∧ s' = s ∧ e' = e) ∨ AtE k v s e tl l'
  | _, _ => False

theorem AtE.mem {k v : V} {s : Nat} {e : MapEntry} : ∀ {es : Es} {l : List MapEntry}, AtE k v s e es l → e ∈ l
  | .cons _ _ _ _, _ :: _, .inl ⟨_, _, _, rfl⟩ => .head _
  | .cons _ _ _ _, _ :: _, .inr h => .tail _ (AtE.mem h)

theorem AtE.is {σ : Val} {k v : V} {s : Nat} {e : MapEntry} : ∀ {es : Es} {l : List MapEntry}, EsR σ es l → AtE k v s e es l → VR σ k e.key ∧ VR σ v e.val ∧ σ.opq s = some (.int .i64 e.born)
  | .cons k' v' s' tl, e' :: l', ⟨e1, l1, he, hk, hv, hs, ht⟩, h => by
    cases he
    rcases h with ⟨rfl, rfl, rfl, rfl⟩ | h
    · exact ⟨hk, hv, hs⟩
    · exact AtE.is ht h

/-- an entry is sought -/
theorem findE_ok {β : Type} {σ : Val} {kt : Nat} {eq : V → V → Option Bool} (hk : keyC E kt = some eq) {d : TypeDesc} {k : V} {x : Value} (hd : KeyAs kt E d k) (hx : VR σ k x) {no : Option β} {yes : V → Nat → Option β} {r : β} :
    ∀ {es : Es} {l : List MapEntry}, EsR σ es l → findE eq k es no yes = some r →
    (no = some r ∧ (∀ e ∈ l, e.key ≠ x) ∧ ∀ e ∈ l, MapKept.IsKey d e.key) ∨ ∃ k' v s e, AtE k' v s e es l ∧ e.key = x ∧ yes v s = some r
  | .nil, l, hl, h => by
    have hl : l = [] := hl
    subst hl
    exact .inl ⟨h, (fun e he => by cases he), fun e he => by cases he⟩
  | .cons k' v s tl, l, ⟨e, l', hl, hk', hv, hs, ht⟩, h => by
    subst hl
    have h : ob (eq k k') (fun b => bi b (yes v s) (findE eq k tl no yes)) = some r := h
    simp only [ob_eq, bi_eq] at h
    obtain ⟨b, hb, h⟩ := h
    have key : (b = true → e.key = x) ∧ (b = false → e.key ≠ x) ∧ MapKept.IsKey d e.key := by
      rcases hd with ⟨a, j, n, hu, rfl, rfl⟩ | ⟨t, hu, rfl, rfl⟩
      · have he : eq = keyEq := by rcases keyC_eq hk with ⟨_, _, h⟩ | ⟨h, _⟩; exact h; rw [hu] at h; cases h
        subst he
        unfold keyEq at hb
        simp only [onNat_eq, bi_eq] at hb
        obtain ⟨j1, n1, e1, j2, n2, rfl, ⟨hj, hb⟩ | ⟨_, hb⟩⟩ := hb <;> cases hb
        cases e1
        have hj := kEq_eq hj
        subst hj
        have e1 := VR_nat hx
        have e2 := VR_nat hk'
        rw [e1, e2]
        refine ⟨fun hb => by rw [beq_iff.1 hb], fun hb h => ?_, rfl⟩
        simp only [Value.int.injEq, true_and] at h
        have h : n2 = n := Int.ofNat_inj.1 h
        subst h
        simp at hb
      · have he : eq = keyEqS := by rcases keyC_eq hk with ⟨_, h, _⟩ | ⟨_, h⟩; rw [hu] at h; cases h; exact h
        subst he
        unfold keyEqS at hb
        simp only [onStr_eq] at hb
        obtain ⟨s1, e1, s2, rfl, hb⟩ := hb
        cases e1
        cases hb
        have e1 := VR_str hx
        have e2 := VR_str hk'
        rw [e1, e2]
        have := eqB_ok t s2
        refine ⟨fun hb => ?_, fun hb h => ?_, trivial⟩
        · rw [hb] at this; simp at this; unfold toBA; rw [this]
        · simp only [Value.string.injEq] at h; exact toBA_inj h.symm hb
    rcases h with ⟨hb, h⟩ | ⟨hb, h⟩
    · exact .inr ⟨k', v, s, e, .inl ⟨rfl, rfl, rfl, rfl⟩, key.1 hb, h⟩
    · rcases findE_ok hk hd hx ht h with ⟨h1, h2, h3⟩ | ⟨k2, v2, s2, e2, h1, h2, h3⟩
      · refine .inl ⟨h1, ?_, ?_⟩
        · intro e' he'
          rcases List.mem_cons.1 he' with rfl | he'
          · exact key.2.1 hb
          · exact h2 e' he'
        · intro e' he'
          rcases List.mem_cons.1 he' with rfl | he'
          · exact key.2.2
          · exact h3 e' he'
      · exact .inr ⟨k2, v2, s2, e2, .inr h1, h2, h3⟩

/-- what the search of the model finds -/
theorem findKey_no (hE : EnvOK P E B w0) {kt : Nat} {d : TypeDesc} {k : V} {x : Value} {σ : Val} (hd : KeyAs kt E d k) (hx : VR σ k x) {l : List MapEntry} (h2 : ∀ e ∈ l, e.key ≠ x) (h3 : ∀ e ∈ l, MapKept.IsKey d e.key) (w : World) :
    (Instr.findKey kt x l).run P w = .ok none w := by
  have hs := MapKept.findNow_spec (hd.is hx) l 0 h3
  rcases hs with ⟨h, _⟩ | ⟨j, e, _, h, he⟩
  · rcases hd with ⟨a, j, n, hu, rfl, rfl⟩ | ⟨t, hu, rfl, rfl⟩
    · exact MapKept.run_findKey (hE.und _ _ hu) ((findNow_any _ _ _ _ _).trans h)
    · exact MapKept.run_findKey (hE.und _ _ hu) h
  · exact absurd he (h2 e (List.mem_of_getElem? h))

theorem findKey_yes (hE : EnvOK P E B w0) {kt : Nat} {d : TypeDesc} {k : V} {x : Value} {σ : Val} (hd : KeyAs kt E d k) (hx : VR σ k x) {l : List MapEntry} (h3 : ∀ e ∈ l, MapKept.IsKey d e.key) {e : MapEntry} (he : e ∈ l) (hex : e.key = x)
    (hkeys : l.Pairwise fun a b => a.key ≠ b.key) (w : World) : ∃ i, (Instr.findKey kt x l).run P w = .ok (some (i, e.val)) w ∧ l[i]? = some e := by
  have hs := MapKept.findNow_spec (hd.is hx) l 0 h3
  rcases hs with ⟨_, h⟩ | ⟨j, e', h, hj, he'⟩
  · exact absurd hex (h e he)
  · have : e' = e := by
      obtain ⟨i, hi, rfl⟩ := List.getElem_of_mem he
      obtain ⟨hj', rfl⟩ := List.getElem?_eq_some_iff.1 hj
      by_cases hij : i = j
      · subst hij; rfl
      · exfalso
        rcases Nat.lt_or_gt_of_ne hij with hlt | hlt
        · exact List.pairwise_iff_getElem.1 hkeys i j hi hj' hlt (hex.trans he'.symm)
        · exact List.pairwise_iff_getElem.1 hkeys j i hj' hi hlt (he'.trans hex.symm)
    subst this
    refine ⟨j, ?_, hj⟩
    rw [Nat.zero_add] at h
    rcases hd with ⟨a, j, n, hu, rfl, rfl⟩ | ⟨t, hu, rfl, rfl⟩
    · exact MapKept.run_findKey (hE.und _ _ hu) ((findNow_any _ _ _ _ _).trans h)
    · exact MapKept.run_findKey (hE.und _ _ hu) h

theorem checkKey_ok (hE : EnvOK P E B w0) {kt : Nat} {d : TypeDesc} {k : V} {x : Value} {σ : Val} (hd : KeyAs kt E d k) (hx : VR σ k x) (b : Bool) (w : World) : (Instr.checkKey b 10000 kt x).run P w = .ok () w := by
  rcases hd with ⟨a, j, n, hu, rfl, rfl⟩ | ⟨t, hu, rfl, rfl⟩
  · have e := VR_nat hx
    subst e
    unfold Instr.checkKey
    simp [underlying, hE.und _ _ hu]
  · have e := VR_str hx
    subst e
    unfold Instr.checkKey
    simp [underlying, hE.und _ _ hu]

theorem Sorted.isKey {l : List MapEntry} {ck : Nat} (hs : Sorted l ck) {d : TypeDesc} {e : MapEntry} (he : e ∈ l) (hd : d = .string ∨ ∃ j, d = .int j) (hk : MapKept.IsKey d e.key) : ∀ e ∈ l, MapKept.IsKey d e.key := by
  obtain ⟨d', h⟩ := hs.same
  have h1 := h e he
  intro e' he'
  have h2 := h e' he'
  have : d' = d := by
    cases hv : e.key <;> rw [hv] at h1 hk <;> rcases hd with rfl | ⟨j, rfl⟩ <;> cases d' <;> simp_all [MapKept.IsKey]
  rw [← this]; exact h2

theorem KeyAs.d {kt : Nat} {d : TypeDesc} {k : V} (h : KeyAs kt E d k) : d = .string ∨ ∃ j, d = .int j := by
  rcases h with ⟨a, j, n, _, _, rfl⟩ | ⟨s, _, _, rfl⟩
  · exact .inr ⟨j, rfl⟩
  · exact .inl rfl
end Go.AE

namespace Go.AE
open Go Go.RowKit

variable {P : Program} {E : Env} {B : Nat} {w0 : World}

theorem VR.two {σ : Val} {a b : V} {x y : Value} (ha : VR σ a x) (hb : VR σ b y) : VR σ (two a b) (.tuple #[x, y]) :=
  ⟨rfl, [x, y], ⟨[x], [y], ha.2, hb.2, rfl, rfl, rfl⟩, rfl⟩
theorem VR.three {σ : Val} {a b c : V} {x y z : Value} (ha : VR σ a x) (hb : VR σ b y) (hc : VR σ c z) : VR σ (three a b c) (.tuple #[x, y, z]) :=
  ⟨rfl, [x, y, z], ⟨[x], [y, z], ha.2, ⟨[y], [z], hb.2, hc.2, rfl, rfl, rfl⟩, rfl, rfl, rfl⟩, rfl⟩
theorem VR.single {σ : Val} {a : V} {x : Value} (ha : VR σ a x) : VR σ (single a) (.tuple #[x]) := ⟨rfl, [x], ha.2, rfl⟩

theorem cLookup_ok (hE : EnvOK P E B w0) {o : Oper} {ty : Nat} {x i : Operand} {commaOk : Bool} (ho : o.op = .lookup ty x i commaOk) : CKOK P B w0 o (cLookup E ty x i commaOk) := by
  unfold cLookup
  rw [KF.app_eq, KF.app_eq]
  split
  · rename_i kt e hu
    split
    · rename_i eq z hk hz
      rw [KF.app_eq, KF.out_mk]
      obtain ⟨zv, hzr, hzv, hnt⟩ := hE.run_zero hz
      -- the two shapes alike
      have key : ∀ (f : V → Bool → V) (g : Value → Bool → Value), (∀ σ v x b, VR σ v x → VR σ (f v b) (g x b)) → (∀ (v : Value) (b : Bool), (if commaOk = true then Value.tuple #[v, .bool b] else v) = g v b) →
          ∀ (σ : Val) (nt : Nat) (t : T) (a : Act) (h : HS) (w : World) (v : V), TR σ nt t a → HRel P B w0 σ h.fn w →
          (ob ((opdC x).out t) fun m => ob ((opdC i).out t) fun k => keyOkC E kt k (onMap m (some (f z false)) fun id => onMapB (h.get id) fun es _ => findE eq k es (some (f z false)) fun v _ => some (f v true))) = some v →
          ∃ x, (execOp a.eval o).run P w = .ok (.value x) w ∧ VR σ v x := by
        intro f g hfg hg σ nt t a h w v ht hr hv
        simp only [ob_eq] at hv
        obtain ⟨m, hm, k, hkk, hv⟩ := hv
        obtain ⟨hv', d, hd⟩ := keyOkC_eq hv
        clear hv
        have hxm := opdC_ok ht hm
        have hxk := opdC_ok ht hkk
        simp only [onMap_eq, onMapB_eq] at hv'
        rcases hv' with ⟨rfl, hv⟩ | ⟨id, rfl, es, ck, hes, hv⟩
        · cases hv
          have e := VR_nilv hxm
          refine ⟨g zv false, ?_, hfg _ _ _ _ (hzv σ)⟩
          have hf := findKey_no hE hd hxk (l := []) (fun e he => by cases he) (fun e he => by cases he) w
          simp [execOp, ho, e, nilValue, Instr.lookup, hE.run_und hu, checkKey_ok hE hd hxk, hf, hzr, hg]
        · obtain ⟨b, hb, e⟩ := VR_map hxm
          obtain ⟨hf, ents, clock, l, hw, hck, hp, hes', hs⟩ := hr.get hb hes
          rcases findE_ok hk hd hxk hes' hv with ⟨hv, h2, h3⟩ | ⟨k', v', s, en, hat, hkey, hv⟩
          · cases hv
            refine ⟨g zv false, ?_, hfg _ _ _ _ (hzv σ)⟩
            have hf := findKey_no hE hd hxk (l := ents.toList) (fun e he => h2 e (hp.mem_iff.1 he)) (fun e he => h3 e (hp.mem_iff.1 he)) w
            simp [execOp, ho, e, Instr.lookup, hE.run_und hu, MapKept.run_getObj_map hw, checkKey_ok hE hd hxk, hf, hzr, hg]
          · cases hv
            have hm := hat.mem
            have h3 := hs.isKey hm hd.d (by rw [hkey]; exact hd.is hxk)
            obtain ⟨j, hf, _⟩ := findKey_yes hE hd hxk (l := ents.toList) (fun e he => h3 e (hp.mem_iff.1 he)) (hp.mem_iff.2 hm) hkey (hp.symm.pairwise hs.keys (fun h e => h e.symm)) w
            refine ⟨g en.val true, ?_, hfg _ _ _ _ (hat.is hes').2.1⟩
            simp [execOp, ho, e, Instr.lookup, hE.run_und hu, MapKept.run_getObj_map hw, checkKey_ok hE hd hxk, hf, hg]
      split
      · exact fun σ nt t a h w v ht hr hv => key (fun v b => two v (.bool b)) (fun v b => .tuple #[v, .bool b]) (fun σ v x b h => h.two VR.bool) (fun _ _ => rfl) σ nt t a h w v ht hr hv
      · exact fun σ nt t a h w v ht hr hv => key (fun v _ => v) (fun v _ => v) (fun σ v x b h => h) (fun _ _ => rfl) σ nt t a h w v ht hr hv
    · trivial
  · trivial
end Go.AE

namespace Go.AE
open Go Go.RowKit

variable {P : Program} {E : Env} {B : Nat} {w0 : World}

def Val.putq (σ : Val) (c : Nat) (q : Value) : Val := { σ with opq := fun i => if i = c then some q else σ.opq i }
theorem Val.putq_ext {σ : Val} {c : Nat} (hu : Und σ c (c + 1)) (q : Value) : Ext σ (σ.putq c q) c (c + 1) := by
  have h3 := hu.opq c (Nat.le_refl _) (Nat.lt_succ_self _)
  refine ⟨⟨fun i b h => h, fun i b h => h, fun i b h => ?_⟩, fun i h _ => h, fun i h _ => h, fun i h hc => ?_⟩
  · show (if i = c then some q else σ.opq i) = some b
    rw [if_neg (fun e => by subst e; rw [h3] at h; cases h)]; exact h
  · show (if i = c then some q else σ.opq i) = none
    rw [if_neg (by omega)]; exact h
theorem Val.putq_opq (σ : Val) (c : Nat) (q : Value) : (σ.putq c q).opq c = some q := by simp [Val.putq]

theorem HRel.ext {σ σ' : Val} {h : Nat → Option Blk} {w : World} (hr : HRel P B w0 σ h w) (hle : σ.le σ') (hb : ∀ i, σ'.blk i = σ.blk i) : HRel P B w0 σ' h w :=
  ⟨fun id b n h1 h2 => (hr.blk id b n h1 (by rw [← hb]; exact h2)).mono P hle, fun id id' n h1 h1' h2 h2' => hr.inj id id' n h1 h1' (by rw [← hb]; exact h2) (by rw [← hb]; exact h2'),
   fun id n h1 => hr.dom id n (by rw [← hb]; exact h1), fun id n h1 h2 => hr.own id n h1 (by rw [← hb]; exact h2), hr.keep, hr.base⟩

theorem St.write2 {σ σ' : Val} {h h' : HS} {w w' : World} {obj : Obj} {b b' : Blk} {id n : Nat} (hr : HRel P B w0 σ h.fn w) (h1 : h.fn id = some b) (h2 : σ.blk id = some n) (g : Wrote w w' n obj)
    (he : Ext σ σ' h.c h'.c) (hle : h.c ≤ h'.c) (hblk : ∀ i, σ'.blk i = σ.blk i) (hf : h'.fn = (h.set id (some b')).fn) (hb : BR P σ' b' (some obj)) : St P B w0 σ h.fn h.c w σ' h'.fn h'.c w' := by
  have s := St.write (hr.ext he.le hblk) h1 (by rw [hblk]; exact h2) g hb
  rw [hf]
  exact ⟨he, s.rel, hle, s.size, fun m hm hn => s.frame m hm (fun i hi => by rw [hblk]; exact hn i hi), fun i m k1 k2 k3 => (by
    obtain ⟨i0, a, c⟩ := s.foot i m k1 k2 k3
    exact ⟨i0, a, by rw [← hblk]; exact c⟩), fun i k1 _ => s.virt i (by rw [hblk]; exact k1) (by omega)⟩

theorem wrote_set {w : World} {r : Nat} {o o' : Obj} (hb : w.heap[r]? = some o) : Wrote w { w with heap := w.heap.setIfInBounds r o' } r o' :=
  ⟨by simp, (MapKept.heap_set hb).1, (MapKept.heap_set hb).2, rfl, rfl, rfl⟩

/-! the entries changed -/
theorem addE_ok {σ : Val} {k v : V} {s : Nat} {e : MapEntry} (hk : VR σ k e.key) (hv : VR σ v e.val) (hs : σ.opq s = some (.int .i64 e.born)) :
    ∀ {es : Es} {l : List MapEntry}, EsR σ es l → EsR σ (addE k v s es) (l ++ [e])
  | .nil, l, h => by
    have h : l = [] := h
    subst h
    exact ⟨e, [], rfl, hk, hv, hs, rfl⟩
  | .cons _ _ _ _, l, ⟨e', l', hl, hk', hv', hs', ht⟩ => by
    subst hl
    exact ⟨e', l' ++ [e], rfl, hk', hv', hs', addE_ok hk hv hs ht⟩

theorem setE_ok {σ : Val} {k v u : V} {s : Nat} {e : MapEntry} {y : Value} (hu : VR σ u y) : ∀ {es : Es} {l : List MapEntry}, EsR σ es l → (l.Pairwise fun a b => a.born ≠ b.born) → AtE k v s e es l →
    EsR σ (setE s u es) (l.map fun e' => if e'.born = e.born then { e' with val := y } else e')
  | .nil, l, h, _, ha => by cases l <;> exact ha.elim
  | .cons k' v' s' tl, l, ⟨e', l', hl, hk', hv', hs', ht⟩, hp, ha => by
    subst hl
    obtain ⟨hp1, hp2⟩ := List.pairwise_cons.1 hp
    show EsR σ (bi (Nat.beq s s') (.cons k' u s' tl) (.cons k' v' s' (setE s u tl))) _
    rw [bi_if, List.map_cons]
    by_cases hss : s = s'
    · subst hss
      rw [if_pos (beq_iff.2 rfl)]
      have hee : e'.born = e.born := by
        have := (AtE.is (e := e) (es := .cons k' v' s tl) (l := e' :: l') ⟨e', l', rfl, hk', hv', hs', ht⟩ ha).2.2
        rw [hs'] at this
        simp only [Option.some.injEq, Value.int.injEq, true_and] at this
        exact Int.ofNat_inj.1 this
      rw [if_pos hee]
      have htl : (l'.map fun e'' => if e''.born = e.born then { e'' with val := y } else e'') = l' := by
        rw [List.map_congr_left (g := id) (fun e'' he => by rw [if_neg (fun h => hp1 e'' he (hee.trans h.symm))]; rfl)]
        simp
      rw [htl]
      exact ⟨_, _, rfl, hk', hu, hs', ht⟩
    · rw [if_neg (fun h => hss (beq_iff.1 h))]
      rcases ha with ⟨_, _, h, _⟩ | ha
      · exact absurd h.symm hss
      · have : e'.born ≠ e.born := hp1 e ha.mem
        rw [if_neg this]
        exact ⟨e', _, rfl, hk', hv', hs', setE_ok hu ht hp2 ha⟩

theorem delE_ok {σ : Val} {k v : V} {s : Nat} {e : MapEntry} : ∀ {es : Es} {l : List MapEntry}, EsR σ es l → (l.Pairwise fun a b => a.born ≠ b.born) → AtE k v s e es l →
    EsR σ (delE s es) (l.filter fun e' => e'.born != e.born)
  | .nil, l, h, _, ha => by cases l <;> exact ha.elim
  | .cons k' v' s' tl, l, ⟨e', l', hl, hk', hv', hs', ht⟩, hp, ha => by
    subst hl
    obtain ⟨hp1, hp2⟩ := List.pairwise_cons.1 hp
    show EsR σ (bi (Nat.beq s s') tl (.cons k' v' s' (delE s tl))) _
    rw [bi_if, List.filter_cons]
    by_cases hss : s = s'
    · subst hss
      rw [if_pos (beq_iff.2 rfl)]
      have hee : e'.born = e.born := by
        have := (AtE.is (e := e) (es := .cons k' v' s tl) (l := e' :: l') ⟨e', l', rfl, hk', hv', hs', ht⟩ ha).2.2
        rw [hs'] at this
        simp only [Option.some.injEq, Value.int.injEq, true_and] at this
        exact Int.ofNat_inj.1 this
      rw [if_neg (by simp [hee])]
      have htl : (l'.filter fun e'' => e''.born != e.born) = l' := by
        rw [List.filter_eq_self]
        intro e'' he
        simpa using fun h => hp1 e'' he (hee.trans h.symm)
      rw [htl]
      exact ht
    · rw [if_neg (fun h => hss (beq_iff.1 h))]
      rcases ha with ⟨_, _, h, _⟩ | ha
      · exact absurd h.symm hss
      · have : e'.born ≠ e.born := hp1 e ha.mem
        rw [if_pos (by simpa using this)]
        exact ⟨e', _, rfl, hk', hv', hs', delE_ok ht hp2 ha⟩

theorem hasS_ok {s : Nat} : ∀ {es : Es} {σ : Val} {l : List MapEntry}, EsR σ es l → hasS s es = true → ∃ k v e, AtE k v s e es l
  | .nil, _, _, _, h => by cases h
  | .cons k' v' s' tl, σ, l, ⟨e', l', hl, hk', hv', hs', ht⟩, h => by
    subst hl
    have h : bi (Nat.beq s s') true (hasS s tl) = true := h
    rw [bi_if] at h
    split at h
    · rename_i hs
      have := beq_iff.1 hs
      subst this
      exact ⟨k', v', e', .inl ⟨rfl, rfl, rfl, rfl⟩⟩
    · obtain ⟨k, v, e, ha⟩ := hasS_ok ht h
      exact ⟨k, v, e, .inr ha⟩

theorem getS_ok {β : Type} {s : Nat} {f : V → V → Option β} {r : β} : ∀ {es : Es} {σ : Val} {l : List MapEntry}, EsR σ es l → getS s es f = some r → ∃ k v e, AtE k v s e es l ∧ f k v = some r
  | .nil, _, _, _, h => by cases h
  | .cons k' v' s' tl, σ, l, ⟨e', l', hl, hk', hv', hs', ht⟩, h => by
    subst hl
    have h2 : bi (Nat.beq s s') (f k' v') (getS s tl f) = some r := h
    clear h
    rw [bi_if] at h2
    split at h2
    · rename_i hs
      have := beq_iff.1 hs
      subst this
      exact ⟨k', v', e', .inl ⟨rfl, rfl, rfl, rfl⟩, h2⟩
    · obtain ⟨k, v, e, ha, hf⟩ := getS_ok ht h2
      exact ⟨k, v, e, .inr ha, hf⟩

theorem Sorted.map {l : List MapEntry} {ck : Nat} (hs : Sorted l ck) {g : MapEntry → MapEntry} (hb : ∀ e, (g e).born = e.born) (hk : ∀ e, (g e).key = e.key) : Sorted (l.map g) ck := by
  refine ⟨fun e he => ?_, ?_, ?_, ?_⟩
  · obtain ⟨e', he', rfl⟩ := List.mem_map.1 he
    rw [hb]; exact hs.born e' he'
  · rw [List.pairwise_map]; simpa [hb] using hs.once
  · rw [List.pairwise_map]; simpa [hk] using hs.keys
  · obtain ⟨d, h⟩ := hs.same
    refine ⟨d, fun e he => ?_⟩
    obtain ⟨e', he', rfl⟩ := List.mem_map.1 he
    rw [hk]; exact h e' he'

theorem Sorted.sub {l l' : List MapEntry} {ck : Nat} (hs : Sorted l ck) (h : l'.Sublist l) : Sorted l' ck :=
  ⟨fun e he => hs.born e (h.subset he), hs.once.sublist h, hs.keys.sublist h, hs.same.imp fun _ h' e he => h' e (h.subset he)⟩

theorem Sorted.add {l : List MapEntry} {ck : Nat} (hs : Sorted l ck) {d : TypeDesc} {e : MapEntry} (hb : e.born = ck) (h2 : ∀ e' ∈ l, e'.key ≠ e.key) (h3 : ∀ e' ∈ l, MapKept.IsKey d e'.key) (h4 : MapKept.IsKey d e.key) : Sorted (l ++ [e]) (ck + 1) := by
  refine ⟨fun e' he => ?_, ?_, ?_, d, fun e' he => ?_⟩
  · rcases List.mem_append.1 he with he | he
    · have := hs.born e' he; omega
    · simp at he; subst he; omega
  · rw [List.pairwise_append]
    refine ⟨hs.once, List.pairwise_singleton _ _, fun a ha b hb' => ?_⟩
    simp at hb'
    subst hb'
    have := hs.born a ha
    omega
  · rw [List.pairwise_append]
    refine ⟨hs.keys, List.pairwise_singleton _ _, fun a ha b hb' => ?_⟩
    simp at hb'
    subst hb'
    exact h2 a ha
  · rcases List.mem_append.1 he with he | he
    · exact h3 e' he
    · simp at he; subst he; exact h4

/-- one entry of the model's row changed -/
theorem modify_map {l : List MapEntry} {i : Nat} {e : MapEntry} (hi : l[i]? = some e) (hp : l.Pairwise fun a b => a.born ≠ b.born) (g : MapEntry → MapEntry) :
    l.modify i g = l.map fun e' => if e'.born = e.born then g e' else e' := by
  apply List.ext_getElem?
  intro j
  rw [List.getElem?_modify, List.getElem?_map]
  cases hj : l[j]? with
  | none => rfl
  | some e' =>
    simp only [Option.map_some]
    obtain ⟨hi', ei⟩ := List.getElem?_eq_some_iff.1 hi
    obtain ⟨hj', ej⟩ := List.getElem?_eq_some_iff.1 hj
    by_cases hij : i = j
    · subst hij
      rw [hi] at hj
      cases hj
      simp
    · have : e'.born ≠ e.born := by
        rw [← ei, ← ej]
        rcases Nat.lt_or_gt_of_ne hij with hlt | hlt
        · exact fun h => List.pairwise_iff_getElem.1 hp i j hi' hj' hlt h.symm
        · exact fun h => List.pairwise_iff_getElem.1 hp j i hj' hi' hlt h
      simp [hij, this]

theorem erase_filter {l : List MapEntry} {i : Nat} {e : MapEntry} (hi : l[i]? = some e) (hp : l.Pairwise fun a b => a.born ≠ b.born) : l.eraseIdx i = l.filter fun e' => e'.born != e.born := by
  induction l generalizing i with
  | nil => simp at hi
  | cons a l ih =>
    obtain ⟨hp1, hp2⟩ := List.pairwise_cons.1 hp
    cases i with
    | zero =>
      simp at hi
      subst hi
      rw [List.eraseIdx_cons_zero, List.filter_cons, if_neg (by simp)]
      symm
      rw [List.filter_eq_self]
      intro e'' he
      simpa using fun h => hp1 e'' he h.symm
    | succ i =>
      simp at hi
      have hne : a.born ≠ e.born := hp1 e (List.mem_of_getElem? hi)
      rw [List.eraseIdx_cons_succ, List.filter_cons, if_pos (by simpa using hne), ih hi hp2]
end Go.AE

namespace Go.AE
open Go Go.RowKit

variable {P : Program} {E : Env} {B : Nat} {w0 : World}

theorem Sorted.perm_keys {l l' : List MapEntry} {ck : Nat} (hs : Sorted l ck) (hp : l'.Perm l) : l'.Pairwise fun a b => a.key ≠ b.key := hp.symm.pairwise hs.keys (fun h e => h e.symm)
theorem Sorted.perm_once {l l' : List MapEntry} {ck : Nat} (hs : Sorted l ck) (hp : l'.Perm l) : l'.Pairwise fun a b => a.born ≠ b.born := hp.symm.pairwise hs.once (fun h e => h e.symm)

/-- what an entry becomes -/
def setVal (e : MapEntry) (y : Value) (e' : MapEntry) : MapEntry := if e'.born = e.born then { e' with val := y } else e'
theorem setVal_born (e : MapEntry) (y : Value) (e' : MapEntry) : (setVal e y e').born = e'.born := by unfold setVal; split <;> rfl
theorem setVal_key (e : MapEntry) (y : Value) (e' : MapEntry) : (setVal e y e').key = e'.key := by unfold setVal; split <;> rfl

/-- the map's block once an entry is changed -/
theorem set_BR {σ : Val} {es : Es} {ck : Nat} {ents : Array MapEntry} {clock : Nat} {l : List MapEntry} (hck : σ.opq ck = some (.int .i64 (clock : Nat))) (hp : ents.toList.Perm l) (hes : EsR σ es l) (hs : Sorted l clock)
    {k v u : V} {s : Nat} {e : MapEntry} {y : Value} (ha : AtE k v s e es l) (hu : VR σ u y) {i : Nat} (hi : ents.toList[i]? = some e) (g : MapEntry → MapEntry) (hg : g e = { e with val := y }) :
    BR P σ (.map (setE s u es) ck) (some (.map (ents.modify i g) clock)) := by
  refine ⟨_, clock, l.map (setVal e y), rfl, hck, ?_, setE_ok hu hes hs.once ha, hs.map (setVal_born e y) (setVal_key e y)⟩
  have e1 : (ents.modify i g).toList = ents.toList.map (setVal e y) := by
    rw [Array.toList_modify, modify_map hi (hs.perm_once hp)]
    apply List.map_congr_left
    intro e' he'
    unfold setVal
    split
    · rename_i hb
      have : e' = e := by
        obtain ⟨j, hj, rfl⟩ := List.getElem_of_mem he'
        obtain ⟨hi', ei⟩ := List.getElem?_eq_some_iff.1 hi
        have hpw := hs.perm_once hp
        by_cases hij : i = j
        · subst hij; exact ei
        · exfalso
          rcases Nat.lt_or_gt_of_ne hij with hlt | hlt
          · exact List.pairwise_iff_getElem.1 hpw i j hi' hj hlt (by rw [ei]; exact hb.symm)
          · exact List.pairwise_iff_getElem.1 hpw j i hj hi' hlt (by rw [ei]; exact hb)
      rw [this, hg]
    · rfl
  rw [e1]
  exact hp.map _

theorem cMapUpdate_ok (hE : EnvOK P E B w0) {o : Oper} {ty : Nat} {m k x : Operand} (ho : o.op = .mapUpdate ty m k x) : CKOK P B w0 o (cMapUpdate E ty m k x) := by
  unfold cMapUpdate
  rw [KF.app_eq, KF.app_eq, KF.app_eq]
  split
  · rename_i kt e hu
    split
    · rename_i eq hk
      intro σ nt t a h w vh ht hr hun hv
      simp only [ob_eq, onMap_eq, onMapB_eq] at hv
      obtain ⟨vm, hm, vk, hkk, vx, hx, ⟨_, hv⟩ | ⟨id, rfl, es, ck, hes, hok, hok', hv⟩⟩ := hv
      · cases hv
      obtain ⟨_, d, hd⟩ := keyOkC_eq hok'
      have hxk := opdC_ok ht hkk
      have hxx := opdC_ok ht hx
      obtain ⟨b, hb, em⟩ := VR_map (opdC_ok ht hm)
      obtain ⟨hf, ents, clock, l, hw, hck, hp, hes', hs⟩ := hr.get hb hes
      rcases findE_ok hk hd hxk hes' hv with ⟨hv, h2, h3⟩ | ⟨k', v', s, en, hat, hkey, hv⟩
      · simp only [fN_eq, bi_eq, ble_iff] at hv
        rcases hv with ⟨hc, hv⟩ | ⟨_, hv⟩ <;> cases hv
        have hc : h.c + 2 ≤ 16384 := hc
        have u1 : Und σ h.c (h.c + 1) := hun.sub (Nat.le_refl _) (Nat.le_succ _)
        have x1 := Val.putq_ext u1 (.int .i64 (clock : Nat))
        have u2 : Und (σ.putq h.c (.int .i64 (clock : Nat))) (h.c + 1) (h.c + 1 + 1) := hun.after x1 (Nat.le_succ _)
        have x2 := Val.putq_ext u2 (.int .i64 ((clock + 1 : Nat)))
        have xx := x1.trans x2 (Nat.le_succ _) (Nat.le_succ _)
        have hfind := findKey_no hE hd hxk (l := ents.toList) (fun e he => h2 e (hp.mem_iff.1 he)) (fun e he => h3 e (hp.mem_iff.1 he)) w
        refine ⟨undef, _, _, .inr ⟨?_, rfl⟩, St.write2 (h' := HS.mk (h.set id (some (.map (addE vk vx h.c es) (Nat.succ h.c)))).m (h.c + 2)) hr hf hb
          (wrote_set (o' := .map (ents.push { key := a.eval k, val := a.eval x, born := clock }) (clock + 1)) hw) xx (by show h.c ≤ h.c + 2; omega) (fun _ => rfl) rfl ?_, undef_VR _⟩
        · simp [execOp, ho, em, Instr.mapUpdate, hE.run_und hu, MapKept.run_getObj_map hw, checkKey_ok hE hd hxk, hfind, MapKept.run_setObj_map _ hw]
        · refine ⟨_, clock + 1, l ++ [{ key := a.eval k, val := a.eval x, born := clock }], rfl, Val.putq_opq _ _ _, ?_, addE_ok (hxk.mono xx.le) (hxx.mono xx.le) (x2.le.opq _ _ (Val.putq_opq _ _ _)) (hes'.mono xx.le), hs.add rfl h2 h3 (hd.is hxk)⟩
          simpa using hp.append_right _
      · cases hv
        have hmem := hat.mem
        have h3 := hs.isKey hmem hd.d (by rw [hkey]; exact hd.is hxk)
        obtain ⟨j, hfind, hj⟩ := findKey_yes hE hd hxk (l := ents.toList) (fun e he => h3 e (hp.mem_iff.1 he)) (hp.mem_iff.2 hmem) hkey (hs.perm_keys hp) w
        have hj' : ents[j]? = some en := by simpa using hj
        refine ⟨undef, _, σ, .inr ⟨?_, rfl⟩, St.write hr hf hb
          (wrote_set (o' := .map (ents.modify j fun e => { e with key := a.eval k, val := a.eval x }) clock) hw) (set_BR hck hp hes' hs hat hxx hj _ (by simp [← hkey])), undef_VR _⟩
        simp [execOp, ho, em, Instr.mapUpdate, hE.run_und hu, MapKept.run_getObj_map hw, checkKey_ok hE hd hxk, hfind, hj', hkey, MapKept.run_keyThatStays (hd.is hxk), MapKept.run_setObj_map _ hw]
    · trivial
  · trivial
end Go.AE

namespace Go.AE
open Go Go.RowKit

variable {P : Program} {E : Env} {B : Nat} {w0 : World}

theorem HS.set_same {h : HS} {id : Nat} {b : Blk} (hid : id < 16384) (h1 : h.fn id = some b) : h.fn = (h.set id (some b)).fn := by
  funext j
  rw [HS.set_fn h hid]
  split
  · rename_i e; subst e; exact h1
  · rfl

theorem VR.opq {σ : Val} {s : Nat} {n : Nat} (hs : s < 100000) (h : σ.opq s = some (.int .i64 (n : Nat))) : VR σ (.opq s) (.int .i64 (n : Nat)) := ⟨rfl, _, .inl ⟨hs, h⟩, rfl, rfl⟩

theorem cMapEntry_ok (hE : EnvOK P E B w0) {o : Oper} {ty : Nat} {m k : Operand} (ho : o.op = .mapEntry ty m k) : CKOK P B w0 o (cMapEntry E ty m k) := by
  unfold cMapEntry
  rw [KF.app_eq, KF.app_eq]
  split
  · rename_i kt e hu
    split
    · rename_i eq z hk hz
      obtain ⟨zv, hzr, hzv, hnt⟩ := hE.run_zero hz
      intro σ nt t a h w vh ht hr hun hv
      simp only [ob_eq, onMap_eq, onMapB_eq] at hv
      obtain ⟨vm, hm, vk, hkk, ⟨_, hv⟩ | ⟨id, rfl, es, ck, hes, hok, hok', hv⟩⟩ := hv
      · cases hv
      obtain ⟨_, d, hd⟩ := keyOkC_eq hok'
      have hxk := opdC_ok ht hkk
      obtain ⟨b, hb, em⟩ := VR_map (opdC_ok ht hm)
      obtain ⟨hf, ents, clock, l, hw, hck, hp, hes', hs⟩ := hr.get hb hes
      rcases findE_ok hk hd hxk hes' hv with ⟨hv, h2, h3⟩ | ⟨k', v', s, en, hat, hkey, hv⟩
      · simp only [fN_eq, bi_eq, ble_iff] at hv
        rcases hv with ⟨hc, hv⟩ | ⟨_, hv⟩ <;> cases hv
        have hc : h.c + 2 ≤ 16384 := hc
        have u1 : Und σ h.c (h.c + 1) := hun.sub (Nat.le_refl _) (Nat.le_succ _)
        have x1 := Val.putq_ext u1 (.int .i64 (clock : Nat))
        have u2 : Und (σ.putq h.c (.int .i64 (clock : Nat))) (h.c + 1) (h.c + 1 + 1) := hun.after x1 (Nat.le_succ _)
        have x2 := Val.putq_ext u2 (.int .i64 ((clock + 1 : Nat)))
        have xx := x1.trans x2 (Nat.le_succ _) (Nat.le_succ _)
        have hfind := findKey_no hE hd hxk (l := ents.toList) (fun e he => h2 e (hp.mem_iff.1 he)) (fun e he => h3 e (hp.mem_iff.1 he)) w
        refine ⟨.tuple #[zv, goInt clock], _, _, .inl ?_, St.write2 (h' := HS.mk (h.set id (some (.map (addE vk z h.c es) (Nat.succ h.c)))).m (h.c + 2)) hr hf hb
          (wrote_set (o' := .map (ents.push { key := a.eval k, val := zv, born := clock }) (clock + 1)) hw) xx (by show h.c ≤ h.c + 2; omega) (fun _ => rfl) rfl ?_, VR.two (hzv _) (VR.opq (by omega) (x2.le.opq _ _ (Val.putq_opq _ _ _)))⟩
        · simp [execOp, ho, em, Instr.mapEntry, hE.run_und hu, MapKept.run_getObj_map hw, checkKey_ok hE hd hxk, hfind, MapKept.run_setObj_map _ hw, hzr]
        · refine ⟨_, clock + 1, l ++ [{ key := a.eval k, val := zv, born := clock }], rfl, Val.putq_opq _ _ _, ?_, addE_ok (hxk.mono xx.le) (hzv _) (x2.le.opq _ _ (Val.putq_opq _ _ _)) (hes'.mono xx.le), hs.add rfl h2 h3 (hd.is hxk)⟩
          simpa using hp.append_right _
      · simp only [bi_eq] at hv
        rcases hv with ⟨_, hv⟩ | ⟨hsl, hv⟩ <;> cases hv
        have hsl := ble_false.1 hsl
        have hmem := hat.mem
        have h3 := hs.isKey hmem hd.d (by rw [hkey]; exact hd.is hxk)
        obtain ⟨j, hfind, hj⟩ := findKey_yes hE hd hxk (l := ents.toList) (fun e he => h3 e (hp.mem_iff.1 he)) (hp.mem_iff.2 hmem) hkey (hs.perm_keys hp) w
        have hj' : ents[j]? = some en := by simpa using hj
        have hat' := hat.is hes'
        have hBR : BR P σ (.map (setE s v' es) ck) (some (.map (ents.modify j fun e => { e with key := a.eval k }) clock)) := set_BR hck hp hes' hs hat hat'.2.1 hj _ (by simp [← hkey])
        have hself : ents.modify j (fun e => { e with key := a.eval k }) = ents := by
          apply Array.ext'
          rw [Array.toList_modify]
          apply List.ext_getElem?
          intro i
          rw [List.getElem?_modify]
          by_cases hij : j = i
          · subst hij; rw [hj]; simp [← hkey]
          · simp [hij]
        refine ⟨.tuple #[en.val, goInt en.born], _, σ, .inl ?_, St.write2 hr hf hb
          (wrote_set (o' := .map ents clock) hw) (Ext.refl _ _ _) (Nat.le_refl _) (fun _ => rfl) (HS.set_same (hr.dom id b hb) hf) ⟨ents, clock, l, rfl, hck, hp, hes', hs⟩, VR.two hat'.2.1 (VR.opq hsl hat'.2.2)⟩
        simp [execOp, ho, em, Instr.mapEntry, hE.run_und hu, MapKept.run_getObj_map hw, checkKey_ok hE hd hxk, hfind, hj', hkey, MapKept.run_keyThatStays (hd.is hxk), MapKept.run_setObj_map _ hw, hself]
    · trivial
  · trivial

theorem findIdx_born {l : List MapEntry} {e : MapEntry} (he : e ∈ l) (hp : l.Pairwise fun a b => a.born ≠ b.born) : ∃ i, l.findIdx? (fun e' => (e'.born : Int) == (e.born : Int)) = some i ∧ l[i]? = some e := by
  cases h : l.findIdx? (fun e' => (e'.born : Int) == (e.born : Int)) with
  | none =>
    rw [List.findIdx?_eq_none_iff] at h
    have := h e he
    simp at this
  | some i =>
    rw [List.findIdx?_eq_some_iff_getElem] at h
    obtain ⟨hi, hb, _⟩ := h
    refine ⟨i, rfl, ?_⟩
    obtain ⟨j, hj, rfl⟩ := List.getElem_of_mem he
    have hb : l[i].born = l[j].born := by
      have := eq_of_beq hb
      exact Int.ofNat_inj.1 this
    by_cases hij : i = j
    · subst hij; exact List.getElem?_eq_getElem hi
    · exfalso
      rcases Nat.lt_or_gt_of_ne hij with hlt | hlt
      · exact List.pairwise_iff_getElem.1 hp i j hi hj hlt hb
      · exact List.pairwise_iff_getElem.1 hp j i hj hi hlt hb.symm

theorem cEntryStore_ok {o : Oper} {ty : Nat} {m s x : Operand} (ho : o.op = .entryStore ty m s x) : CKOK P B w0 o (cEntryStore m s x) := by
  unfold cEntryStore
  rw [KF.app_eq, KF.app_eq, KF.app_eq]
  intro σ nt t a h w vh ht hr hun hv
  simp only [ob_eq, onMap_eq, onOpq_eq, onMapB_eq, bi_eq] at hv
  obtain ⟨vm, hm, vs, hs', vx, hx, ⟨_, hv⟩ | ⟨id, rfl, s, rfl, ⟨_, hv⟩ | ⟨hsl, es, ck, hes, ⟨hhas, hv⟩ | ⟨_, hv⟩⟩⟩⟩ := hv <;> cases hv
  have hxx := opdC_ok ht hx
  obtain ⟨hso, _⟩ := VR_opq (ble_false.1 hsl) (opdC_ok ht hs')
  obtain ⟨b, hb, em⟩ := VR_map (opdC_ok ht hm)
  obtain ⟨hf, ents, clock, l, hw, hck, hp, hes', hs⟩ := hr.get hb hes
  obtain ⟨k', v', e, hat⟩ := hasS_ok hes' hhas
  have hat' := hat.is hes'
  have es' : a.eval _ = _ := Option.some.inj (hso.symm.trans hat'.2.2)
  obtain ⟨i, hi, hi'⟩ := findIdx_born (hp.mem_iff.2 hat.mem) (hs.perm_once hp)
  have hi2 : ents.findIdx? (fun e' => (e'.born : Int) == (e.born : Int)) = some i := by
    have := List.findIdx?_toArray (p := fun e' : MapEntry => (e'.born : Int) == (e.born : Int)) (l := ents.toList)
    rw [Array.toArray_toList] at this
    exact this.trans hi
  refine ⟨undef, _, σ, .inr ⟨?_, rfl⟩, St.write hr hf hb (wrote_set (o' := .map (ents.modify i fun e => { e with val := a.eval x }) clock) hw) (set_BR hck hp hes' hs hat hxx hi' _ rfl), undef_VR _⟩
  simp [execOp, ho, em, Instr.entryStore, MapKept.run_getObj_map hw, es', asInt, asIntOf, hi2, MapKept.run_setObj_map _ hw]

theorem cRange_ok (hE : EnvOK P E B w0) {o : Oper} {ty : Nat} {x : Operand} (ho : o.op = .range ty x) : CKOK P B w0 o (cRange E ty x) := by
  unfold cRange
  rw [KF.app_eq]
  split
  · rename_i kt e hu
    intro σ nt t a h w vh ht hr hun hv
    simp only [ob_eq, onMap_eq, onMapB_eq] at hv
    obtain ⟨vm, hm, ⟨rfl, hv⟩ | ⟨id, rfl, es, ck, hes, hv⟩⟩ := hv
    · have e := VR_nilv (opdC_ok ht hm)
      obtain ⟨_, ev, ec, _⟩ := HS.new_eq hv
      have u1 : Und σ h.c (h.c + 1) := by rw [← ec]; exact hun
      refine ⟨.pointer (some ⟨w.heap.size, 0, none⟩), w.alloc (.mapIter none 0 #[] 0), σ.put h.c w.heap.size none none, .inl ?_, St.alloc hr hv (Grew.alloc _ _) (Val.put_ext u1 _ _ _) (Val.put_blk _ _ _ _ _) rfl, ?_⟩
      · simp [execOp, ho, e, nilValue, Instr.range, hE.run_und hu]
      · rw [ev]; exact VR.ptr (Val.put_blk _ _ _ _ _)
    · obtain ⟨b, hb, e⟩ := VR_map (opdC_ok ht hm)
      obtain ⟨hf, ents, clock, l, hw, hck, hp, hes', hs⟩ := hr.get hb hes
      obtain ⟨_, ev, ec, _⟩ := HS.new_eq hv
      have u1 : Und σ h.c (h.c + 1) := by rw [← ec]; exact hun
      have hle := (Val.put_ext u1 w.heap.size none none).le
      refine ⟨.pointer (some ⟨w.heap.size, 0, none⟩), w.alloc (.mapIter (some b) clock #[] clock), σ.put h.c w.heap.size none none, .inl ?_, St.alloc hr hv (Grew.alloc _ _) (Val.put_ext u1 _ _ _) (Val.put_blk _ _ _ _ _)
        ⟨b, clock, [], clock, rfl, hle.blk _ _ hb, hle.opq _ _ hck, rfl, hle.opq _ _ hck, Nat.le_refl _⟩, ?_⟩
      · simp [execOp, ho, e, Instr.range, hE.run_und hu, MapKept.run_getObj_map hw]
      · rw [ev]; exact VR.ptr (Val.put_blk _ _ _ _ _)
  · trivial

theorem cClear_ok (hE : EnvOK P E B w0) {o : Oper} {c : Go.Call} {t0 : Nat} {x : Operand} (ho : o.op = .call c) (hc : c.callee = .builtin .clear) (ha : c.args.toList = [x]) (ht0 : c.argTypes[0]? = some t0) :
    CKOK P B w0 o (cClear E t0 x) := by
  have hargs : c.args = #[x] := by
    have : c.args = c.args.toList.toArray := by simp
    rw [this, ha]
  unfold cClear
  rw [KF.app_eq]
  split
  · rename_i k e hu
    intro σ nt t a h w vh ht hr hun hv
    simp only [ob_eq, onMap_eq, onMapB_eq] at hv
    obtain ⟨vm, hm, ⟨rfl, hv⟩ | ⟨id, rfl, es, ck, hes, hv⟩⟩ := hv <;> cases hv
    · have e := VR_nilv (opdC_ok ht hm)
      refine ⟨undef, w, σ, .inl ?_, St.refl hr, undef_VR _⟩
      simp [execOp, ho, resolve, hc, hargs, invoke, builtin, Builtin.clear_, ht0, hE.run_und hu, e, nilValue, undef]
    · obtain ⟨b, hb, e⟩ := VR_map (opdC_ok ht hm)
      obtain ⟨hf, ents, clock, l, hw, hck, hp, hes', hs⟩ := hr.get hb hes
      refine ⟨undef, _, σ, .inl ?_, St.write hr hf hb (wrote_set (o' := .map #[] clock) hw) ⟨#[], clock, [], rfl, hck, List.Perm.nil, rfl, ⟨fun e he => (by cases he), List.Pairwise.nil, List.Pairwise.nil, .bool, fun e he => (by cases he)⟩⟩, undef_VR _⟩
      simp [execOp, ho, resolve, hc, hargs, invoke, builtin, Builtin.clear_, ht0, hE.run_und hu, e, MapKept.run_getObj_map hw, MapKept.run_setObj_map _ hw, undef]
  · trivial

theorem cDelete_ok (hE : EnvOK P E B w0) {o : Oper} {c : Go.Call} {t0 : Nat} {m k : Operand} (ho : o.op = .call c) (hc : c.callee = .builtin .delete) (ha : c.args.toList = [m, k]) (ht0 : c.argTypes[0]? = some t0) :
    CKOK P B w0 o (cDelete E t0 m k) := by
  have hargs : c.args = #[m, k] := by
    have : c.args = c.args.toList.toArray := by simp
    rw [this, ha]
  unfold cDelete
  rw [KF.app_eq, KF.app_eq]
  split
  · rename_i kt e hu
    split
    · rename_i eq hk
      intro σ nt t a h w vh ht hr hun hv
      simp only [ob_eq, onMap_eq, onMapB_eq] at hv
      obtain ⟨vm, hm, vk, hkk, hok, hok', hv⟩ := hv
      obtain ⟨_, d, hd⟩ := keyOkC_eq hok'
      have hxk := opdC_ok ht hkk
      rcases hv with ⟨rfl, hv⟩ | ⟨id, rfl, es, ck, hes, hv⟩
      · cases hv
        have e := VR_nilv (opdC_ok ht hm)
        refine ⟨undef, w, σ, .inl ?_, St.refl hr, undef_VR _⟩
        simp [execOp, ho, resolve, hc, hargs, invoke, builtin, Builtin.delete_, ht0, hE.run_und hu, e, nilValue, undef, checkKey_ok hE hd hxk]
      · obtain ⟨b, hb, e⟩ := VR_map (opdC_ok ht hm)
        obtain ⟨hf, ents, clock, l, hw, hck, hp, hes', hs⟩ := hr.get hb hes
        rcases findE_ok hk hd hxk hes' hv with ⟨hv, h2, h3⟩ | ⟨k', v', s, en, hat, hkey, hv⟩ <;> cases hv
        · have hfind := findKey_no hE hd hxk (l := ents.toList) (fun e he => h2 e (hp.mem_iff.1 he)) (fun e he => h3 e (hp.mem_iff.1 he)) w
          refine ⟨undef, _, σ, .inl ?_, St.write2 hr hf hb
            (wrote_set (o' := .map ents clock) hw) (Ext.refl _ _ _) (Nat.le_refl _) (fun _ => rfl) (HS.set_same (hr.dom id b hb) hf) ⟨ents, clock, l, rfl, hck, hp, hes', hs⟩, undef_VR _⟩
          simp [execOp, ho, resolve, hc, hargs, invoke, builtin, Builtin.delete_, ht0, hE.run_und hu, e, MapKept.run_getObj_map hw, checkKey_ok hE hd hxk, hfind, MapKept.run_setObj_map _ hw, undef]
        · have hmem := hat.mem
          have h3 := hs.isKey hmem hd.d (by rw [hkey]; exact hd.is hxk)
          obtain ⟨j, hfind, hj⟩ := findKey_yes hE hd hxk (l := ents.toList) (fun e he => h3 e (hp.mem_iff.1 he)) (hp.mem_iff.2 hmem) hkey (hs.perm_keys hp) w
          refine ⟨undef, _, σ, .inl ?_, St.write hr hf hb (wrote_set (o' := .map (ents.eraseIdxIfInBounds j) clock) hw)
            ⟨_, clock, l.filter fun e' => e'.born != en.born, rfl, hck, ?_, delE_ok hes' hs.once hat, hs.sub List.filter_sublist⟩, undef_VR _⟩
          · simp [execOp, ho, resolve, hc, hargs, invoke, builtin, Builtin.delete_, ht0, hE.run_und hu, e, MapKept.run_getObj_map hw, checkKey_ok hE hd hxk, hfind, MapKept.run_setObj_map _ hw, undef]
          · have e1 : (ents.eraseIdxIfInBounds j).toList = ents.toList.eraseIdx j := by simp
            rw [e1, erase_filter hj (hs.perm_once hp)]
            exact hp.filter _
    · trivial
  · trivial
end Go.AE

namespace Go.AE
open Go Go.RowKit

variable {P : Program} {E : Env} {B : Nat} {w0 : World}

theorem AtE.uniq {k v k' v' : V} {s s' : Nat} {e e' : MapEntry} : ∀ {es : Es} {l : List MapEntry}, (l.Pairwise fun a b => a.born ≠ b.born) → AtE k v s e es l → AtE k' v' s' e' es l → e.born = e'.born → s = s'
  | .cons k1 v1 s1 tl, e1 :: l, hp, h, h', hb => by
    obtain ⟨hp1, hp2⟩ := List.pairwise_cons.1 hp
    rcases h with ⟨_, _, rfl, rfl⟩ | h <;> rcases h' with ⟨_, _, rfl, rfl⟩ | h'
    · rfl
    · exact absurd hb (hp1 e' h'.mem)
    · exact absurd hb.symm (hp1 e h.mem)
    · exact AtE.uniq hp2 h h' hb

theorem memN_to {σ : Val} {s : Nat} : ∀ {seen : NL} {sn : List Nat}, NLR σ seen sn → memN s seen = true → ∃ m ∈ sn, σ.opq s = some (.int .i64 (m : Nat))
  | .nil, _, _, h => by cases h
  | .cons n tl, sn, ⟨m, l', hl, hn, ht⟩, h => by
    subst hl
    have h2 : bi (Nat.beq s n) true (memN s tl) = true := h
    rw [bi_if] at h2
    split at h2
    · rename_i hs
      have := beq_iff.1 hs
      subst this
      exact ⟨m, .head _, hn⟩
    · obtain ⟨m', h1, h3⟩ := memN_to ht h2
      exact ⟨m', .tail _ h1, h3⟩
theorem memN_of {σ : Val} {m : Nat} : ∀ {seen : NL} {sn : List Nat}, NLR σ seen sn → m ∈ sn → ∃ n, memN n seen = true ∧ σ.opq n = some (.int .i64 (m : Nat))
  | .nil, _, h, hm => by
    have h : _ = [] := h
    subst h; cases hm
  | .cons n tl, sn, ⟨m', l', hl, hn, ht⟩, hm => by
    subst hl
    have e : ∀ s, memN s (.cons n tl) = bi (Nat.beq s n) true (memN s tl) := fun _ => rfl
    rcases List.mem_cons.1 hm with rfl | hm
    · exact ⟨n, by rw [e, bi_if, if_pos (beq_iff.2 rfl)], hn⟩
    · obtain ⟨n', h1, h2⟩ := memN_of ht hm
      refine ⟨n', ?_, h2⟩
      rw [e, bi_if]
      split
      · rfl
      · exact h1
theorem allS_has {es : Es} {n : Nat} : ∀ {seen : NL}, allS seen es = true → memN n seen = true → hasS n es = true
  | .nil, _, h => by cases h
  | .cons m tl, ha, h => by
    have ha2 : bi (hasS m es) (allS tl es) false = true := ha
    have h2 : bi (Nat.beq n m) true (memN n tl) = true := h
    rw [bi_if] at ha2 h2
    split at ha2
    · rename_i hm
      split at h2
      · rename_i hs
        have := beq_iff.1 hs
        subst this
        exact hm
      · exact allS_has ha2 h2
    · cases ha2

theorem leftE_gen {σ : Val} {seen : NL} {sn : List Nat} : ∀ {es : Es} {l : List MapEntry}, EsR σ es l → (∀ k v s e, AtE k v s e es l → (memN s seen = true ↔ e.born ∈ sn)) →
    EsR σ (leftE seen es) (l.filter fun e => !sn.contains e.born)
  | .nil, l, h, _ => by
    have h : l = [] := h
    subst h; exact rfl
  | .cons k v s tl, l, ⟨e, l', hl, hk, hv, hs, ht⟩, hh => by
    subst hl
    have ih := leftE_gen ht (fun k' v' s' e' ha => hh k' v' s' e' (.inr ha))
    have h1 := hh k v s e (.inl ⟨rfl, rfl, rfl, rfl⟩)
    show EsR σ (bi (memN s seen) (leftE seen tl) (.cons k v s (leftE seen tl))) _
    rw [bi_if, List.filter_cons]
    by_cases hm : memN s seen = true
    · have := h1.1 hm
      rw [if_pos hm, if_neg (by simpa using this)]
      exact ih
    · have : e.born ∉ sn := fun h => hm (h1.2 h)
      rw [if_neg hm, if_pos (by simpa using this)]
      exact ⟨e, _, rfl, hk, hv, hs, ih⟩

theorem leftE_ok {σ : Val} {seen : NL} {sn : List Nat} {es : Es} {l : List MapEntry} (hes : EsR σ es l) (hn : NLR σ seen sn) (ha : allS seen es = true) (hp : l.Pairwise fun a b => a.born ≠ b.born) :
    EsR σ (leftE seen es) (l.filter fun e => !sn.contains e.born) := by
  refine leftE_gen hes fun k v s e hat => ⟨fun h => ?_, fun h => ?_⟩
  · obtain ⟨m, h1, h2⟩ := memN_to hn h
    have := (hat.is hes).2.2
    rw [h2] at this
    simp only [Option.some.injEq, Value.int.injEq, true_and] at this
    rw [← Int.ofNat_inj.1 this]; exact h1
  · obtain ⟨n, h1, h2⟩ := memN_of hn h
    obtain ⟨k', v', e', hat'⟩ := hasS_ok hes (allS_has ha h1)
    have := (hat'.is hes).2.2
    rw [h2] at this
    simp only [Option.some.injEq, Value.int.injEq, true_and] at this
    have hb := Int.ofNat_inj.1 this
    rw [hat.uniq hp hat' hb]; exact h1

theorem cNext_ok {o : Oper} {it : Operand} (ho : o.op = .next it false) : CKOK P B w0 o (cNext it) := by
  unfold cNext
  rw [KF.app_eq]
  intro σ nt t a h w vh ht hr hun hv
  simp only [ob_eq, onPtr_eq, bi_eq, beq_iff, onIter_eq, onMapB_eq] at hv
  obtain ⟨p, hp, i, off, rfl, ⟨rfl, hv⟩ | ⟨_, hv⟩⟩ := hv
  · obtain ⟨ib, hib, e⟩ := VR_ptr (opdC_ok ht hp)
    rcases hv with ⟨hg, hv⟩ | ⟨m, since, seen, stepped, hg, es, ck, hes, ⟨hck, ⟨hall, hv⟩ | ⟨_, hv⟩⟩ | ⟨_, hv⟩⟩
    · cases hv
      obtain ⟨hf, ho'⟩ := hr.get hib hg
      have hw : w.heap[ib]? = some (.mapIter none 0 #[] 0) := ho'
      refine ⟨.tuple #[.bool false], w, σ, .inl ?_, St.refl hr, VR.single VR.bool⟩
      simp [execOp, ho, e, Instr.next, getObj, Sem.run, hw]
    · obtain ⟨hf, b, s, sn, st, hw, hb, hsi, hsn, hst, hle⟩ := hr.get hib hg
      obtain ⟨hf2, ents, clock, l, hw2, hck', hpm, hes', hs⟩ := hr.get hb hes
      subst hck
      have hcs : clock = s := by
        rw [hck'] at hsi
        simp only [Option.some.injEq, Value.int.injEq, true_and] at hsi
        exact Int.ofNat_inj.1 hsi
      subst hcs
      have hleft := leftE_ok hes' hsn hall hs.once
      have hbf : ∀ x ∈ ents.toList, x.born < clock := fun x hx => hs.born x (hpm.mem_iff.1 hx)
      have hfil : (ents.toList.filter fun e => !sn.contains e.born).Perm (l.filter fun e => !sn.contains e.born) := hpm.filter _
      have hlo : (leftOf ents sn.reverse.toArray).toList = ents.toList.filter fun e => !sn.contains e.born := by
        simp [leftOf]
      generalize leftE seen es = L at hv hleft
      cases L with
      | nil =>
        have hv : some (VH.mk (single (.bool false)) h) = some vh := hv
        cases hv
        have hl : (l.filter fun e => !sn.contains e.born) = [] := hleft
        rw [hl] at hfil
        rw [hfil.eq_nil] at hlo
        rcases run_next_at (P := P) w o.type ib b clock st sn.reverse.toArray ents clock hw hw2 hbf hle with ⟨_, hrun⟩ | ⟨e', he', _⟩
        · refine ⟨.tuple #[.bool false], w, σ, .inl ?_, St.refl hr, VR.single VR.bool⟩
          simp [execOp, ho, e, hrun]
        · rw [hlo] at he'; cases he'
      | cons k v s' tl =>
        have hv : Es.rec (motive := fun _ => Option VH) (some (VH.mk (three (.bool true) k v) (h.set i (some (.iter m ck (.cons s' seen) ck))))) (fun _ _ _ _ _ => none) tl = some vh := hv
        cases tl with
        | cons => cases hv
        | nil =>
          cases hv
          obtain ⟨e1, l', hl, hk1, hv1, hs1, htl⟩ := hleft
          have htl : l' = [] := htl
          subst htl
          rw [hl] at hfil
          rw [List.perm_singleton.1 hfil] at hlo
          rcases run_next_at (P := P) w o.type ib b clock st sn.reverse.toArray ents clock hw hw2 hbf hle with ⟨hsz, _⟩ | ⟨e', he', w1, hw1, hrun⟩
          · have : (leftOf ents sn.reverse.toArray).toList.length = 0 := by simpa using hsz
            rw [hlo] at this; cases this
          · rw [hlo] at he'
            have he' : e' = e1 := by simpa using he'
            subst he'
            have hsame : Same w w1 := by
              rcases hw1 with rfl | rfl
              · exact Same.refl _
              · exact Same.drew _
            refine ⟨.tuple #[.bool true, e'.key, e'.val], ChangeMaps.setBlock w1 ib (.mapIter (some b) clock (sn.reverse.toArray.push e'.born) clock), σ, .inl (by simp [execOp, ho, e, hrun]), ?_, VR.three VR.bool hk1 hv1⟩
            have hw' : w1.heap[ib]? = some (.mapIter (some b) clock sn.reverse.toArray st) := by rw [hsame.heap]; exact hw
            have := St.write (hr.same hsame) hf hib (wrote_set (o' := .mapIter (some b) clock (sn.reverse.toArray.push e'.born) clock) hw')
              (b' := .iter m ck (.cons s' seen) ck) ⟨b, clock, e'.born :: sn, clock, by simp, hb, hck', ⟨_, _, rfl, hs1, hsn⟩, hck', Nat.le_refl _⟩
            exact (St.same hr hsame).trans this
    · cases hv
    · cases hv
  · cases hv

theorem cEntry_ok {o : Oper} {it : Operand} (ho : o.op = .entry it) : CKOK P B w0 o (cEntry it) := by
  unfold cEntry
  rw [KF.app_eq]
  intro σ nt t a h w v ht hr hv
  simp only [ob_eq, onPtr_eq, bi_eq, beq_iff, onIter_eq, onMapB_eq] at hv
  obtain ⟨p, hp, i, off, rfl, ⟨rfl, hv⟩ | ⟨_, hv⟩⟩ := hv
  · obtain ⟨ib, hib, e⟩ := VR_ptr (opdC_ok ht hp)
    rcases hv with ⟨hg, hv⟩ | ⟨m, since, seen, stepped, hg, es, ck, hes, ⟨hck, hv⟩ | ⟨_, hv⟩⟩
    · cases hv
    · obtain ⟨hf, b, s, sn, st, hw, hb, hsi, hsn, hst, hle⟩ := hr.get hib hg
      obtain ⟨hf2, ents, clock, l, hw2, hck', hpm, hes', hs⟩ := hr.get hb hes
      subst hck
      have hcs : clock = st := by
        rw [hck'] at hst
        simp only [Option.some.injEq, Value.int.injEq, true_and] at hst
        exact Int.ofNat_inj.1 hst
      subst hcs
      cases seen with
      | nil => cases hv
      | cons s' tl =>
        have hv : (getS s' es fun k v => some (two k v)) = some v := hv
        obtain ⟨k, u, en, hat, e2⟩ := getS_ok hes' hv
        cases e2
        obtain ⟨b1, l', hl, hs', _⟩ := hsn
        obtain ⟨hk1, hv1, hb1⟩ := hat.is hes'
        subst hl
        have hbb : b1 = en.born := by
          rw [hs'] at hb1
          simp only [Option.some.injEq, Value.int.injEq, true_and] at hb1
          exact Int.ofNat_inj.1 hb1
        subst hbb
        refine ⟨.tuple #[en.key, en.val], ?_, VR.two hk1 hv1⟩
        have hw' : w.heap[ib]? = some (.mapIter (some b) s (l'.reverse.toArray.push en.born) clock) := by simpa using hw
        have hn : (ents.toList.map (·.born)).Nodup := by
          unfold List.Nodup
          rw [List.pairwise_map]
          exact hs.perm_once hpm
        have := run_entry_at (P := P) w ib b s l'.reverse.toArray ents clock en hw' hw2 (hpm.mem_iff.2 hat.mem) hn
        simp [execOp, ho, e, this]
    · cases hv
  · cases hv
end Go.AE

namespace Go.AE
open Go Go.RowKit

variable {P : Program} {E : Env} {B : Nat} {w0 : World}

def VRo (σ : Val) (r : Option V) (x : Option Value) : Prop :=
  match r, x with
  | none, none => True
  | some v, some x => VR σ v x
  | _, _ => False

theorem optC_ok' {σ : Val} {nt : Nat} {t : T} {a : Act} (ht : TR σ nt t a) {o : Option Operand} {r : Option V} (h : (optC o).out t = some r) : VRo σ r (o.map a.eval) := by
  have := optC_ok ht h
  revert this
  generalize o.map a.eval = u
  intro this
  cases r <;> cases u <;> exact this

theorem boundN_ok {x : V} {y : Nat} {f : Nat → Option V} {v : V} (h : boundN x y f = some v) : ∃ k n, x = .nat k n ∧ n ≤ y ∧ f n = some v := by
  unfold boundN at h
  simp only [onNat_eq, bi_eq, ble_iff] at h
  obtain ⟨k, n, rfl, ⟨h1, h2⟩ | ⟨_, h2⟩⟩ := h
  · exact ⟨k, n, rfl, h1, h2⟩
  · cases h2

/-- a bound, there or not -/
inductive Bd (σ : Val) (d y : Nat) : Option Value → Nat → Prop where
  | none : Bd σ d y none d
  | some (k : IntKind) (n : Nat) (h : n ≤ y) : Bd σ d y (some (.int k (n : Nat))) n

theorem bnd_ok {σ : Val} {d y : Nat} {x : Option V} {xv : Option Value} (hx : VRo σ x xv) {f : Nat → Option V} {v : V} (h : bnd d y x f = some v) : ∃ n, f n = some v ∧ Bd σ d y xv n := by
  cases x with
  | none =>
    cases xv with
    | none => exact ⟨d, h, .none⟩
    | some => exact hx.elim
  | some x =>
    cases xv with
    | none => exact hx.elim
    | some u =>
      have h : boundN x y f = Option.some v := h
      obtain ⟨k, n, rfl, h1, h2⟩ := boundN_ok h
      have e := VR_nat (x := u) hx
      subst e
      exact ⟨n, h2, .some k n h1⟩

theorem run_sliceBound {k : IntKind} {n y : Nat} (h : n ≤ y) (code : BoundsCode) (w : World) : (Instr.sliceBound (.int k (n : Nat)) y code).run P w = .ok n w := by
  have : (n : Int) ≤ y := Int.ofNat_le.2 h
  simp [Instr.sliceBound, asIntOf, this]

theorem run_sliceBounds {σ : Val} {b : Bool} {len cap y : Nat} {lov hiv : Option Value} {h l : Nat} (hy : y ≤ cap) (hh : Bd σ len y hiv h) (hl : Bd σ 0 h lov l) (w : World) :
    (Instr.sliceBounds b len cap lov hiv none).run P w = .ok (l, h, cap) w := by
  unfold Instr.sliceBounds
  cases hh with
  | none => cases hl with
    | none => simp
    | some k n hn => simp [run_sliceBound hn]
  | some k n hn => cases hl with
    | none => simp [run_sliceBound (Nat.le_trans hn hy)]
    | some k' n' hn' => simp [run_sliceBound (Nat.le_trans hn hy), run_sliceBound hn']

theorem run_sliceBounds3 {σ : Val} {b : Bool} {len cap : Nat} {lov : Option Value} {km kh : IntKind} {m h l : Nat} (hm : m ≤ cap) (hh : h ≤ m) (hl : Bd σ 0 h lov l) (w : World) :
    (Instr.sliceBounds b len cap lov (some (.int kh (h : Nat))) (some (.int km (m : Nat)))).run P w = .ok (l, h, m) w := by
  unfold Instr.sliceBounds
  cases hl with
  | none => simp [run_sliceBound hm, run_sliceBound hh]
  | some k' n' hn' => simp [run_sliceBound hm, run_sliceBound hh, run_sliceBound hn']

theorem Bd.le0 {σ : Val} {y : Nat} {x : Option Value} {n : Nat} (h : Bd σ 0 y x n) : n ≤ y := by
  cases h with
  | none => exact Nat.zero_le _
  | some k n h => exact h
theorem Bd.le {σ : Val} {d y : Nat} {x : Option Value} {n : Nat} (h : Bd σ d y x n) : n = d ∨ n ≤ y := by
  cases h with
  | none => exact .inl rfl
  | some k n h => exact .inr h

theorem toBA_extract (s : List Nat) (l h : Nat) : (toBA s).extract l h = toBA ((s.drop l).take (h - l)) := by
  apply ByteArray.ext
  rw [ByteArray.data_extract]
  apply Array.ext'
  simp [toBA, List.extract_eq_take_drop]

theorem sliceC_ok (hE : EnvOK P E B w0) {tt : Nat} {σ : Val} {x : V} {lo hi mx : Option V} {xv : Value} {lov hiv mxv : Option Value} {v : V} (hx : VR σ x xv) (hlo : VRo σ lo lov) (hhi : VRo σ hi hiv) (hmx : VRo σ mx mxv)
    (h : (sliceC E tt).out x lo hi mx = some v) : ∃ y, (∀ w, (Instr.sliceAt tt xv lov hiv mxv).run P w = .ok y w) ∧ VR σ v y := by
  unfold sliceC at h
  split at h
  · -- a string
    rename_i hu
    rw [KF.out_mk] at h
    simp only [onStr_eq] at h
    obtain ⟨s, rfl, h⟩ := h
    have e := VR_str hx
    subst e
    cases mx with
    | some => cases h
    | none =>
      cases mxv with
      | some => exact hmx.elim
      | none =>
        have h : fN s.length (fun n => bnd n n hi fun h => bnd 0 h lo fun l => some (V.str ((s.drop l).take (Nat.sub h l)))) = some v := h
        rw [fN_eq] at h
        obtain ⟨hn, h, h1⟩ := bnd_ok hhi h
        obtain ⟨ln, h, h2⟩ := bnd_ok hlo h
        cases h
        have hsz : (toBA s).size = s.length := by simp [toBA, ByteArray.size]
        have hb := run_sliceBounds (P := P) (b := false) (Nat.le_refl _) h1 h2
        refine ⟨.string ((toBA s).extract ln hn), fun w => ?_, ?_⟩
        · simp [Instr.sliceAt, Instr.slice, hE.run_und hu, hsz, hb]
        · rw [toBA_extract]; exact VR.str
  · -- a slice
    rename_i e hu
    split at h
    · rename_i size hs
      rw [KF.out_mk] at h
      simp only [onSl_eq] at h
      rcases h with ⟨rfl, h⟩ | ⟨rfl, h⟩ | ⟨id, off, len, cap, cx, rfl, h⟩
      · cases mx with
        | some => cases h
        | none =>
          cases mxv with
          | some => exact hmx.elim
          | none =>
            have e := VR_nilv hx
            subst e
            have h : bnd 0 0 hi (fun _ => bnd 0 0 lo fun _ => some (V.nilv 1)) = some v := h
            obtain ⟨hn, h, h1⟩ := bnd_ok hhi h
            obtain ⟨ln, h, h2⟩ := bnd_ok hlo h
            cases h
            have e1 : hn = 0 := by have := h1.le0; omega
            subst e1
            have e2 : ln = 0 := by have := h2.le0; omega
            subst e2
            have hb := run_sliceBounds (P := P) (b := true) (Nat.le_refl 0) h1 h2
            exact ⟨.slice none 0 0, fun w => by simp [nilValue, Instr.sliceAt, Instr.slice, hE.run_und hu, hE.run_size hs, hb], rfl, rfl⟩
      · cases mx with
        | some => cases h
        | none =>
          cases mxv with
          | some => exact hmx.elim
          | none =>
            obtain ⟨a, c, e⟩ := VR_sle hx
            subst e
            have h : bnd 0 0 hi (fun _ => bnd 0 0 lo fun _ => some V.sle) = some v := h
            obtain ⟨hn, h, h1⟩ := bnd_ok hhi h
            obtain ⟨ln, h, h2⟩ := bnd_ok hlo h
            cases h
            have e1 : hn = 0 := by have := h1.le0; omega
            subst e1
            have e2 : ln = 0 := by have := h2.le0; omega
            subst e2
            have hb := run_sliceBounds (P := P) (b := true) (len := 0) (Nat.zero_le c) h1 h2
            exact ⟨.slice (if c = 0 then a else a.map (·.add (0 * size))) 0 c, fun w => by simp [Instr.sliceAt, Instr.slice, hE.run_und hu, hE.run_size hs, hb], rfl, _, _, rfl⟩
      · obtain ⟨b, ex, hbk, hcap, e⟩ := VR_sl hx
        subst e
        cases mx with
        | none =>
          cases mxv with
          | some => exact hmx.elim
          | none =>
            obtain ⟨hn, h, h1⟩ := bnd_ok hhi h
            obtain ⟨ln, h, h2⟩ := bnd_ok hlo h
            have hb := run_sliceBounds (P := P) (b := true) (Nat.le_add_right cap ex) h1 h2
            have hrun : ∀ w, (Instr.sliceAt tt (.slice (some ⟨b, off, none⟩) len (cap + ex)) lov hiv none).run P w = .ok (.slice (some (if cap + ex = ln then ⟨b, off, none⟩ else ⟨b, off + ln * size, none⟩)) (hn - ln) (cap + ex - ln)) w := by
              intro w
              simp only [Instr.sliceAt, Instr.slice, hE.run_und hu, hE.run_size hs, hb, Sem.run_bind, Result.andThen_ok, Sem.run_pure]
              split <;> simp [add_eq]
            refine ⟨_, hrun, ?_⟩
            cases cx with
            | none =>
              have hcap : ex = 0 := hcap
              subst hcap
              simp only [fN_eq] at h
              have h : some (V.sl id (bi (Nat.beq cap ln) off (Nat.add off (Nat.mul ln size))) (Nat.sub hn ln) (Nat.sub cap ln) none) = some v := h
              cases h
              rw [bi_if, Nat.add_zero]
              by_cases hcl : cap = ln
              · rw [if_pos (beq_iff.2 hcl), if_pos hcl]
                exact VR.sl0 hbk
              · rw [if_neg (fun e => hcl (beq_iff.1 e)), if_neg hcl]
                exact VR.sl0 hbk
            | some i =>
              have h : bi (Nat.beq ln 0) (some (V.sl id off hn cap (some i))) (bi (Nat.ble cap ln) (bi (Nat.ble hn ln) (some .sle) none) (fN (Nat.add off (Nat.mul ln size)) fun o => fN (Nat.sub hn ln) fun n => fN (Nat.sub cap ln) fun c => some (.sl id o n c (some i)))) = some v := h
              simp only [bi_eq, beq_iff, ble_iff, fN_eq, beq_false, ble_false] at h
              rcases h with ⟨rfl, h⟩ | ⟨hl0, ⟨h3, ⟨h4, h⟩ | ⟨_, h⟩⟩ | ⟨h3, h⟩⟩ <;> cases h
              · have : (if cap + ex = 0 then (⟨b, off, none⟩ : Addr) else ⟨b, off + 0 * size, none⟩) = ⟨b, off, none⟩ := by simp
                rw [this]
                exact VR.sl hbk hcap
              · have hlen : hn - ln = 0 := by omega
                rw [hlen]
                exact ⟨rfl, _, _, rfl⟩
              · rw [if_neg (by omega)]
                have : cap + ex - ln = (cap - ln) + ex := by omega
                rw [this]
                exact VR.sl hbk hcap
        | some mv =>
          cases mxv with
          | none => exact hmx.elim
          | some mu =>
            have h : boundN mv cap (fun m => Option.rec (motive := fun _ => Option V) none (fun hi => boundN hi m fun h => bnd 0 h lo fun l =>
              fN (bi (Nat.beq m l) off (Nat.add off (Nat.mul l size))) fun o => fN (Nat.sub h l) fun n => fN (Nat.sub m l) fun c => some (.sl id o n c none)) hi) = some v := h
            obtain ⟨km, m, rfl, hm, h⟩ := boundN_ok h
            have em := VR_nat (x := mu) hmx
            subst em
            cases hi with
            | none => cases h
            | some hv =>
              cases hiv with
              | none => exact hhi.elim
              | some hu' =>
                have h : boundN hv m (fun h => bnd 0 h lo fun l =>
                  fN (bi (Nat.beq m l) off (Nat.add off (Nat.mul l size))) fun o => fN (Nat.sub h l) fun n => fN (Nat.sub m l) fun c => some (.sl id o n c none)) = some v := h
                obtain ⟨kh, hn, rfl, hhm, h⟩ := boundN_ok h
                have eh := VR_nat (x := hu') hhi
                subst eh
                obtain ⟨ln, h, h2⟩ := bnd_ok hlo h
                have hb := run_sliceBounds3 (P := P) (b := true) (len := len) (km := km) (kh := kh) (Nat.le_trans hm (Nat.le_add_right cap ex)) hhm h2
                simp only [fN_eq] at h
                have h : some (V.sl id (bi (Nat.beq m ln) off (Nat.add off (Nat.mul ln size))) (Nat.sub hn ln) (Nat.sub m ln) none) = some v := h
                cases h
                refine ⟨.slice (some (if m = ln then ⟨b, off, none⟩ else ⟨b, off + ln * size, none⟩)) (hn - ln) (m - ln), fun w => ?_, ?_⟩
                · simp only [Instr.sliceAt, Instr.slice, hE.run_und hu, hE.run_size hs, hb, Sem.run_bind, Result.andThen_ok, Sem.run_pure]
                  split <;> simp [add_eq]
                · rw [bi_if]
                  by_cases hcl : m = ln
                  · rw [if_pos (beq_iff.2 hcl), if_pos hcl]
                    exact VR.sl0 hbk
                  · rw [if_neg (fun e => hcl (beq_iff.1 e)), if_neg hcl]
                    exact VR.sl0 hbk
    · cases h
  · rename_i n e hu
    split at h
    · rename_i size hs
      rw [KF.out_mk] at h
      simp only [onPtr_eq] at h
      obtain ⟨id, off, rfl, h⟩ := h
      obtain ⟨b, hbk, e⟩ := VR_ptr hx
      subst e
      cases mx with
      | some => cases h
      | none =>
        cases mxv with
        | some => exact hmx.elim
        | none =>
          have h : bnd n n hi (fun h => bnd 0 h lo fun l =>
            fN (bi (Nat.beq n l) off (Nat.add off (Nat.mul l size))) fun o => fN (Nat.sub h l) fun k => fN (Nat.sub n l) fun c => some (.sl id o k c none)) = some v := h
          obtain ⟨hn, h, h1⟩ := bnd_ok hhi h
          obtain ⟨ln, h, h2⟩ := bnd_ok hlo h
          have hb := run_sliceBounds (P := P) (b := false) (Nat.le_refl n) h1 h2
          simp only [fN_eq] at h
          have h : some (V.sl id (bi (Nat.beq n ln) off (Nat.add off (Nat.mul ln size))) (Nat.sub hn ln) (Nat.sub n ln) none) = some v := h
          cases h
          refine ⟨.slice (some (if n = ln then ⟨b, off, none⟩ else ⟨b, off + ln * size, none⟩)) (hn - ln) (n - ln), fun w => ?_, ?_⟩
          · simp only [Instr.sliceAt, Instr.sureAddr, hE.run_und hu, hE.run_size hs, hb, Sem.run_bind, Result.andThen_ok, Sem.run_pure]
            split <;> simp [add_eq]
          · rw [bi_if]
            by_cases hcl : n = ln
            · rw [if_pos (beq_iff.2 hcl), if_pos hcl]
              exact VR.sl0 hbk
            · rw [if_neg (fun e => hcl (beq_iff.1 e)), if_neg hcl]
              exact VR.sl0 hbk
    · cases h
  · cases h

theorem cSlice_ok (hE : EnvOK P E B w0) {o : Oper} {ty : Nat} {x : Operand} {lo hi mx : Option Operand} (ho : o.op = .slice ty x lo hi mx) : CKOK P B w0 o (cSlice E ty x lo hi mx) := by
  unfold cSlice
  rw [KF.app_eq, KF.app_eq, KF.app_eq, KF.app_eq, KF.app_eq]
  intro σ nt t a v ht h
  simp only [ob_eq] at h
  obtain ⟨vx, hx, vlo, hlo, vhi, hhi, vmx, hmx, h⟩ := h
  obtain ⟨y, hy, hv⟩ := sliceC_ok hE (opdC_ok ht hx) (optC_ok' ht hlo) (optC_ok' ht hhi) (optC_ok' ht hmx) h
  exact ⟨y, fun w => by simp [execOp, ho, hy], hv⟩
end Go.AE

namespace Go.AE
open Go Go.RowKit

variable {P : Program} {E : Env} {B : Nat} {w0 : World}

theorem isU8_eq {e : Nat} (h : isU8 E e = true) : E.und e = some (.int .u8) ∧ E.size e = some 1 := by
  unfold isU8 at h
  split at h
  · rename_i h1 h2; exact ⟨h1, h2⟩
  · cases h

theorem bytesRow_ok {σ : Val} (s : List Nat) : SR σ (bytesRow s) ((s.map UInt8.ofNat).map fun b => Value.int .u8 b.toNat) := by
    unfold bytesRow
    apply SR.ofList
    induction s with
    | nil => trivial
    | cons b s ih =>
      refine ⟨?_, ih⟩
      have : (UInt8.ofNat b).toNat = b % 256 := by simp
      show VR σ (.nat .u8 (b % 256)) (.int .u8 ((UInt8.ofNat b).toNat : Nat))
      rw [this]
      exact VR.nat

theorem runsBytes_ok {σ : Val} : ∀ {r : Runs} {xs : List Value} {l : List Nat}, RR σ r xs → runsBytes r = some l → xs = (l.map fun n : Nat => (n : Int)).map (Value.int .u8)
  | .nil, xs, l, h, hl => by
    have h : xs = [] := h
    cases hl
    subst h; rfl
  | .cons n v tl, xs, l, ⟨x, ys, hv, ht, e⟩, hl => by
    subst e
    have hl : onNat v (fun k b => bi (kEq k .u8) (ob (runsBytes tl) fun l => some (Nat.rec (motive := fun _ => List Nat) l (fun _ l => b :: l) n)) none) = some l := hl
    simp only [onNat_eq, bi_eq, ob_eq] at hl
    obtain ⟨k, b, rfl, ⟨hk, l', hl', e⟩ | ⟨_, e⟩⟩ := hl <;> cases e
    have hk := kEq_eq hk
    subst hk
    have e := VR_nat hv
    subst e
    have ih := runsBytes_ok ht hl'
    subst ih
    clear hl' ht hv hl
    induction n with
    | zero => rfl
    | succ n ih => rw [List.replicate_succ, List.cons_append, ih]; rfl

theorem fz_freeze {fz : Nat × Nat} {n : Nat} (h : fzOk fz n) : fzOk (if fz.1 == fz.2 then (n, n + 1) else (min fz.1 n, max fz.2 (n + 1))) n := by
  unfold fzOk at *
  split
  · right; exact Nat.le_refl _
  · rename_i hne
    simp at hne
    rcases h with h | h
    · exact absurd h hne
    · right; simp only; omega

theorem run_markStringish {w : World} {b off e : Nat} {l : List Value} {fz : Nat × Nat} (h : w.heap[b]? = some (.cells l.toArray e fz)) :
    (markStringish ⟨b, off, none⟩).run P w = .ok () (w.freeze ⟨b, l.length, none⟩ 1) ∧ Wrote w (w.freeze ⟨b, l.length, none⟩ 1) b (.cells l.toArray e (if fz.1 == fz.2 then (l.length, l.length + 1) else (min fz.1 l.length, max fz.2 (l.length + 1)))) := by
  refine ⟨by simp [markStringish, shape, Sem.run, World.shape?, h], ⟨by simp [World.freeze], ?_, ?_, rfl, rfl, rfl⟩⟩
  · simp [World.freeze, Array.getElem?_modify, h]
  · intro m hm
    simp [World.freeze, Array.getElem?_modify, Ne.symm hm]

theorem cConv_ok (hE : EnvOK P E B w0) {o : Oper} {src dst : Nat} {x : Operand} (ho : o.op = .convert src dst x) : CKOK P B w0 o (cConv E src dst x) := by
  unfold cConv
  rw [KF.app_eq]
  split
  · rename_i k1 k hu hv'
    intro σ nt t a v ht h
    simp only [ob_eq, onNum_eq] at h
    obtain ⟨u, hx, ⟨k', n, rfl, h⟩ | ⟨k', n, rfl, h⟩⟩ := h
    · have e := VR_nat (opdC_ok ht hx)
      refine ⟨.int k (k.wrap (n : Int)), fun w => ?_, natR_ok h⟩
      simp [execOp, ho, convert, hE.run_und hu, hE.run_und hv', e, Conv.intToInt]
    · have e := VR_neg (opdC_ok ht hx)
      refine ⟨.int k (k.wrap (.negSucc n)), fun w => ?_, wrapI_ok h⟩
      simp [execOp, ho, convert, hE.run_und hu, hE.run_und hv', e, Conv.intToInt]
  · rename_i hu hv'
    intro σ nt t a v ht h
    simp only [ob_eq, onStr_eq] at h
    obtain ⟨u, hx, s, rfl, h⟩ := h
    cases h
    have hs := opdC_ok ht hx
    have e := VR_str hs
    refine ⟨.string (toBA s), fun w => ?_, VR.str⟩
    simp [execOp, ho, convert, hE.run_und hu, hE.run_und hv', e]
  · rename_i e1 e hu hv'
    rw [bi_if]
    split
    · rename_i hc
      rw [Bool.and_eq_true] at hc
      obtain ⟨hc1, hc2⟩ := hc
      have hc2 : src = dst := beq_iff.1 hc2
      subst hc2
      obtain ⟨hu8, hs1⟩ := isU8_eq hc1
      rw [hu] at hv'
      cases hv'
      intro σ nt t a h w vh ht hr hun hv
      simp only [ob_eq, onSl_eq, onCells_eq] at hv
      obtain ⟨u, hx, ⟨_, hv⟩ | ⟨_, hv⟩ | ⟨i, off, n, c, cx, rfl, e', r, bx, hg, hv⟩⟩ := hv <;> cases hv
      have hxv := opdC_ok ht hx
      obtain ⟨b, ex, hb, hcap, eq⟩ := VR_sl hxv
      obtain ⟨hf, cs, rest, fz, hw, hsr, h1, hfz, hbx⟩ := hr.get hb hg
      obtain ⟨hrun, hwr⟩ := run_markStringish (P := P) (off := off) hw
      refine ⟨.slice (some ⟨b, off, none⟩) n (c + ex), _, σ, .inl ?_, St.write2 hr hf hb hwr (Ext.refl _ _ _) (Nat.le_refl _) (fun _ => rfl) (HS.set_same (hr.dom i b hb) hf) ⟨cs, rest, _, rfl, hsr, h1, ?_, hbx⟩, ?_⟩
      · simp [execOp, ho, convert, hE.run_und hu, hE.run_und hu8, eq, hrun]
      · rw [← List.length_append]
        exact fz_freeze (by rw [List.length_append]; exact hfz)
      · rw [← eq]; exact hxv
    · trivial
  · rename_i e hu hv'
    rw [bi_if]
    split
    · rename_i hc
      obtain ⟨hu8, hs1⟩ := isU8_eq hc
      intro σ nt t a bf ht h
      simp only [ob_eq, onStr_eq, fN_eq] at h
      obtain ⟨u, hx, s, rfl, h⟩ := h
      cases h
      have eq := VR_str (opdC_ok ht hx)
      intro w c hun
      have hdraw : ∃ d, (choose (.appendCap s.length 0 e)).run P w = .ok (s.length + d) w.drew := by
        refine ⟨w.tape w.drawn (.appendCap s.length 0 e) % (2 ^ 63 - s.length), ?_⟩
        simp [Question.forced, Question.cut]
      obtain ⟨d, hd⟩ := hdraw
      have he1 : P.cellsOf e = 1 := hE.cellsOf hs1
      let cs := (s.map UInt8.ofNat).map fun b => Value.int .u8 b.toNat
      let rest := List.replicate d (Value.int .u8 0)
      let w1 := w.drew.alloc (.cells (cs ++ rest).toArray e)
      have hw1 : w1.heap[w.heap.size]? = some (.cells (cs ++ rest).toArray e (0, 0)) := (MapKept.heap_alloc w.drew _).1
      obtain ⟨hrun, hwr⟩ := run_markStringish (P := P) (off := 0) hw1
      have hsz : (toBA s).size = s.length := toBA_size s
      have hcl : cs.length = s.length := by simp [cs]
      have hrow : (toBA s).data.map (fun b => Value.int .u8 b.toNat) ++ Array.replicate d (Value.int .u8 0) = (cs ++ rest).toArray := by
        apply Array.ext'
        simp [cs, rest, toBA]
      refine ⟨.slice (some ⟨w.heap.size, 0, none⟩) s.length (s.length + d), _, σ.put c w.heap.size (some d) none, _, ?_, ⟨?_, hwr.os, hwr.tape, hwr.output⟩, Val.put_ext hun _ _ _, Val.put_blk _ _ _ _ _,
        ⟨cs, rest, (if ((0, 0) : Nat × Nat).1 == ((0, 0) : Nat × Nat).2 then ((cs ++ rest).length, (cs ++ rest).length + 1) else (min ((0, 0) : Nat × Nat).1 (cs ++ rest).length, max ((0, 0) : Nat × Nat).2 ((cs ++ rest).length + 1))), rfl, bytesRow_ok s, ?_, ?_, d, Val.put_cap _ _ _ _ _, ?_⟩,
        VR.sl (Val.put_blk _ _ _ _ _) (Val.put_cap _ _ _ _ _)⟩
      · have hnr : (newRow e (cs ++ rest).toArray).run P w.drew = .ok ⟨w.heap.size, 0, none⟩ w1 := by simp [newRow, w1]
        simp only [execOp, ho, convert, hE.run_und hu, hE.run_und hv', hE.run_und hu8, eq, Conv.stringToBytes, hsz, Sem.run_bind, hd, Result.andThen_ok, Nat.add_sub_cancel_left, hrow, hnr, hrun, Sem.run_pure]
      · apply Array.ext_getElem?
        intro i
        rw [Array.getElem?_push]
        by_cases hi : i = w.heap.size
        · subst hi; rw [if_pos rfl]; exact hwr.here
        · rw [if_neg hi, hwr.there i hi]
          show (w.heap.push _)[i]? = _
          rw [Array.getElem?_push, if_neg hi]
      · intro x hx'
        simp only [cs, List.map_map, List.mem_map] at hx'
        obtain ⟨_, _, rfl⟩ := hx'
        rfl
      · rw [← List.length_append]
        exact fz_freeze (.inl rfl)
      · simp [rest, he1]
    · trivial
  · rename_i e hu hv'
    rw [bi_if]
    split
    · rename_i hc
      obtain ⟨hu8, hs1⟩ := isU8_eq hc
      intro σ nt t a h w v ht hr hv
      simp only [ob_eq, onSl_eq, onCells_eq] at hv
      obtain ⟨u, hx, ⟨rfl, hv⟩ | ⟨rfl, hv⟩ | ⟨i, off, n, c, cx, rfl, e', r, bx, hg, r', hr', l, hl, hv⟩⟩ := hv <;> cases hv
      · have eq := VR_nilv (opdC_ok ht hx)
        refine ⟨.string (toBA []), ?_, VR.str⟩
        simp [execOp, ho, convert, hE.run_und hu, hE.run_und hv', hE.run_und hu8, eq, nilValue, Conv.bytesToString]
        rfl
      · obtain ⟨a', c', eq⟩ := VR_sle (opdC_ok ht hx)
        refine ⟨.string (toBA []), ?_, VR.str⟩
        cases a' with
        | none =>
          simp [execOp, ho, convert, hE.run_und hu, hE.run_und hv', hE.run_und hu8, eq, Conv.bytesToString]
          rfl
        | some a' =>
          have := run_bytesToString (P := P) w a' 0 c' [] rfl
          simp [execOp, ho, convert, hE.run_und hu, hE.run_und hv', hE.run_und hu8, eq, this]
          rfl
      · obtain ⟨b, ex, hb, hcap, eq⟩ := VR_sl (opdC_ok ht hx)
        obtain ⟨hf, cs, rest, fz, hw, hsr, h1, hfz, hbx⟩ := hr.get hb hg
        obtain ⟨j1, j2⟩ := SR.ext hsr hr'
        have hrr := SR.runs (l := .nil) (ys := []) j2 rfl
        rw [List.append_nil] at hrr
        have hbs := runsBytes_ok hrr hl
        have hld := run_loadCells_of (P := P) hw (o := off) (k := n) (by rcases j1 with j1 | j1; exact .inl j1; right; simp; omega)
        have e2 : ((cs ++ rest).drop off).take n = (cs.drop off).take n := by
          rcases j1 with j1 | j1
          · simp [j1]
          · rw [List.drop_append_of_le_length (by omega), List.take_append_of_le_length (by simp; omega)]
        rw [e2, hbs] at hld
        have := run_bytesToString (P := P) w _ n (c + ex) _ hld
        refine ⟨.string (toBA l), ?_, VR.str⟩
        have hfold : ∀ (l : List Nat) (acc : ByteArray), (l.map fun n : Nat => (n : Int)).foldl (fun r n => r.push (UInt8.ofNat n.toNat)) acc = ⟨acc.data ++ (l.map UInt8.ofNat).toArray⟩ := by
          intro l
          induction l with
          | nil => intro acc; simp
          | cons x l ih => intro acc; simp only [List.map_cons, List.foldl_cons, ih]; simp [ByteArray.push]
        rw [hfold] at this
        simp [execOp, ho, convert, hE.run_und hu, hE.run_und hv', hE.run_und hu8, eq, this]
        rfl
    · trivial
  · trivial
end Go.AE

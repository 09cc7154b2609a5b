/- Appending, copying, and every operation together: sound. -/
import Derived.Test.YtlelnfcjghemhaaGreatDoorA3
import Derived.Laws.Append
namespace Go.AE
open Go Go.RowKit

variable {P : Program} {E : Env} {B : Nat} {w0 : World}

/-- what a slice or a string yields -/
structure Yld (P : Program) (size : Nat) (x : Value) (n : Nat) (news : List Value) (w : World) : Prop where
  here : (Builtin.firstCells size n x).run P w = .ok news.toArray w
  drew : (Builtin.firstCells size n x).run P w.drew = .ok news.toArray w.drew
  len : news.length = n * size
  one : ∀ u ∈ news, u.oneCell' = true

theorem lenV_ok {σ : Val} {x : V} {xv : Value} {n : Nat} (hx : VR σ x xv) (h : lenV x = some n) (w : World) : (Builtin.lenOf xv).run P w = .ok n w := by
  unfold lenV at h
  simp only [onSeq_eq, fN_eq] at h
  rcases h with ⟨s, rfl, h⟩ | ⟨rfl, h⟩ | ⟨rfl, h⟩ | ⟨i, o, n', c, y, rfl, h⟩ <;> cases h
  · have e := VR_str hx; subst e
    simp [Builtin.lenOf, toBA_size]
  · have e := VR_nilv hx; subst e; rfl
  · obtain ⟨a, c, e⟩ := VR_sle hx; subst e; rfl
  · obtain ⟨b, ex, _, _, e⟩ := VR_sl hx; subst e; rfl

theorem firstC_ok {σ : Val} {size : Nat} {x : V} {xv : Value} {n0 n : Nat} {h : HS} {w : World} {r : V} (hr : HRel P B w0 σ h.fn w) (hx : VR σ x xv) (hl : lenV x = some n0) (hn : n ≤ n0) (hf : (firstC size).out x n h = some r) :
    ∃ news, Yld P size xv n news w ∧ SR σ r news := by
  unfold firstC at hf
  rw [KF.out_mk] at hf
  simp only [onSeq_eq, bi_eq, beq_iff, onCells_eq] at hf
  rcases hf with ⟨s, rfl, ⟨hs, hf⟩ | ⟨_, hf⟩⟩ | ⟨rfl, hf⟩ | ⟨rfl, hf⟩ | ⟨i, off, n', c, y, rfl, e, r', bx, hg, hf⟩
  · cases hf
    subst hs
    have e := VR_str hx; subst e
    have hl : some s.length = some n0 := by
      have := hl; unfold lenV at this; simpa [onSeq_eq, fN_eq] using this
    cases hl
    have hdata : ((toBA s).extract 0 n).data.map (fun b => Value.int .u8 b.toNat) = (((s.take n).map UInt8.ofNat).map fun b => Value.int .u8 b.toNat).toArray := by
      apply Array.ext'
      simp [toBA, ByteArray.data_extract, List.extract_eq_take_drop, List.map_take]
    refine ⟨((s.take n).map UInt8.ofNat).map fun b => Value.int .u8 b.toNat, ⟨?_, ?_, ?_, ?_⟩, bytesRow_ok (s.take n)⟩
    · simp only [Builtin.firstCells, hdata, Sem.run_pure]
    · simp only [Builtin.firstCells, hdata, Sem.run_pure]
    · simp; omega
    · intro u hu
      simp only [List.map_map, List.mem_map] at hu
      obtain ⟨_, _, rfl⟩ := hu
      rfl
  · cases hf
  · cases hf
    have e := VR_nilv hx; subst e
    have hl : some 0 = some n0 := hl
    cases hl
    have : n = 0 := by omega
    subst this
    exact ⟨[], ⟨rfl, rfl, by simp, fun u hu => by cases hu⟩, rfl⟩
  · cases hf
    obtain ⟨a, c, e⟩ := VR_sle hx; subst e
    have hl : some 0 = some n0 := hl
    cases hl
    have : n = 0 := by omega
    subst this
    cases a with
    | none => exact ⟨[], ⟨rfl, rfl, by simp, fun u hu => by cases hu⟩, rfl⟩
    | some a =>
      have h0 : 0 * size = 0 := Nat.zero_mul _
      exact ⟨[], ⟨by simp only [Builtin.firstCells, h0]; rfl, by simp only [Builtin.firstCells, h0]; rfl, by simp, fun u hu => by cases hu⟩, rfl⟩
  · obtain ⟨b, ex, hb, hcap, e⟩ := VR_sl hx; subst e
    obtain ⟨hf', cs, rest, fz, hw, hsr, h1, hfz, hbx⟩ := hr.get hb hg
    obtain ⟨j1, j2⟩ := SR.ext hsr hf
    have j1 : n * size = 0 ∨ off + n * size ≤ cs.length := j1
    have j2 : SR σ r ((cs.drop off).take (n * size)) := j2
    have e2 : ((cs ++ rest).drop off).take (n * size) = (cs.drop off).take (n * size) := by
      rcases j1 with j1 | j1
      · simp [j1]
      · rw [List.drop_append_of_le_length (by omega), List.take_append_of_le_length (by simp; omega)]
    have hle : n * size = 0 ∨ off + n * size ≤ (cs ++ rest).length := by
      rcases j1 with j1 | j1
      · exact .inl j1
      · right; simp; omega
    have l1 := run_loadCells_of (P := P) hw hle
    have l2 := run_loadCells_of (P := P) (w := w.drew) hw hle
    rw [e2] at l1 l2
    refine ⟨_, ⟨l1, l2, ?_, fun u hu => h1 u (List.mem_of_mem_drop (List.mem_of_mem_take hu))⟩, j2⟩
    rw [List.length_take, List.length_drop]
    rcases j1 with j1 | j1 <;> omega

/-- what is appended -/
structure Wht (P : Program) (E : Env) (σ : Val) (h : HS) (w : World) (t1 : Option Nat) (size bytes : Nat) (z : V) (zs : List Value) (xv : Value) (n : Nat) (new : V) (news : List Value) : Prop where
  row : SR σ new news
  len : news.length = n * size
  one : ∀ u ∈ news, u.oneCell' = true
  kind : (∃ ty k j, t1 = some ty ∧ E.und ty = some (.int k) ∧ xv = .int j (n : Nat) ∧ n * (bytes + 1) ≤ 70368744177664 ∧ news = (List.replicate n zs).flatten) ∨
    ((t1 = none ∨ ∃ ty d, t1 = some ty ∧ E.und ty = some d ∧ ∀ k, d ≠ .int k) ∧ (∀ w', (Builtin.lenOf xv).run P w' = .ok n w') ∧ Yld P size xv n news w)

theorem whatC_ok {σ : Val} {t1 : Option Nat} {size bytes : Nat} {z x : V} {zs : List Value} {xv : Value} {h : HS} {w : World} {k : Nat → V → Option VH} {vh : VH} (hr : HRel P B w0 σ h.fn w) (hx : VR σ x xv) (hz : SR σ z zs) (hzl : zs.length = size)
    (hz1 : ∀ u ∈ zs, u.oneCell' = true) (hv : whatC E t1 bytes z (firstC size).out x h k = some vh) : ∃ n new news, k n new = some vh ∧ Wht P E σ h w t1 size bytes z zs xv n new news := by
  have seq : ∀ (hk : t1 = none ∨ ∃ ty d, t1 = some ty ∧ E.und ty = some d ∧ ∀ k, d ≠ .int k), (ob (lenV x) fun n => ob ((firstC size).out x n h) fun r => k n r) = some vh →
      ∃ n new news, k n new = some vh ∧ Wht P E σ h w t1 size bytes z zs xv n new news := by
    intro hk hv
    simp only [ob_eq] at hv
    obtain ⟨n, hn, r, hr', hv⟩ := hv
    obtain ⟨news, hy, hs⟩ := firstC_ok hr hx hn (Nat.le_refl n) hr'
    exact ⟨n, r, news, hv, hs, hy.len, hy.one, .inr ⟨hk, lenV_ok hx hn, hy⟩⟩
  unfold whatC at hv
  cases t1 with
  | none => exact seq (.inl rfl) hv
  | some ty =>
    cases hu : E.und ty with
    | none => simp only [hu] at hv; cases hv
    | some d =>
      simp only [hu] at hv
      cases d with
      | int kd =>
        simp only [onNat_eq, bi_eq, ble_iff] at hv
        obtain ⟨j, n, rfl, ⟨hb, hv⟩ | ⟨_, hv⟩⟩ := hv
        · have e := VR_nat hx
          subst e
          refine ⟨n, _, _, hv, repeatR_ok hz n, ?_, fun u hu => hz1 u (mem_rep hu), .inl ⟨ty, kd, j, rfl, hu, rfl, hb, rfl⟩⟩
          simp [hzl]
        · cases hv
      | _ => exact seq (.inr ⟨ty, _, rfl, hu, fun _ e => by cases e⟩) hv
end Go.AE

namespace Go.AE
open Go Go.RowKit

variable {P : Program} {E : Env} {B : Nat} {w0 : World}

theorem zeroCells_rep (c : Array Value) (n : Nat) : Builtin.zeroCells c n = (List.replicate n c.toList).flatten.toArray := by
  unfold Builtin.zeroCells
  exact rep_cells c

section
variable (hE : EnvOK P E B w0) {t0 e size bytes : Nat} {z : V} {zv : Value} {tys : Array TypeId} {ty : TypeId} (hu : E.und t0 = some (.slice e)) (hs : E.size e = some size) (hb : E.bytes e = some bytes)
  (hzr : ∀ (w : World), (zeroValue e).run P w = .ok zv w) (h0 : tys[0]? = some t0)
include hE hu hs hb hzr h0

theorem run_app_room {σ : Val} {h : HS} {w w' : World} {xv : Value} {n : Nat} {new : V} {news : List Value} (W : Wht P E σ h w tys[1]? size bytes z zv.cells.toList xv n new news) {base : Option Addr} {sLen sCap : Nat} (hroom : sLen + n ≤ sCap)
    (hst : match base with
      | some a => (storeCells (a.add (sLen * size)) news).run P w = .ok () w'
      | none => w' = w) :
    (Builtin.append_ tys ty #[.slice base sLen sCap, xv]).run P w = .ok (.slice base (sLen + n) sCap) w' := by
  obtain ⟨ib, hib, rfl⟩ := hE.infoB hb
  rcases W.kind with ⟨ty1, k, j, h1, hk, rfl, hn, hnews⟩ | ⟨hk, hlen, hy⟩
  · have hlt : n < 9223372036854775808 := by
      have : n * 1 ≤ n * (ib.bytes + 1) := Nat.mul_le_mul_left n (by omega)
      omega
    have hwr : IntKind.i64.wrap (n : Int) = n := wrap_half hlt
    have hbig2 : ¬ ((281474976710656 : Int) < (n : Int) * ib.bytes) := by
      have h2 : n * ib.bytes ≤ n * (ib.bytes + 1) := Nat.mul_le_mul_left n (by omega)
      have : ((n * ib.bytes : Nat) : Int) ≤ ((70368744177664 : Nat) : Int) := Int.ofNat_le.2 (Nat.le_trans h2 hn)
      rw [Int.natCast_mul] at this
      omega
    have hn0 : ¬ ((n : Int) < 0) := by omega
    by_cases hz0 : n * size = 0
    · have hnil : news = [] := List.length_eq_zero_iff.1 (W.len.trans hz0)
      subst hnil
      cases base with
      | none => subst hst; simp [Builtin.append_, h0, h1, hE.run_und hu, hE.run_und hk, hE.run_size hs, asInt, asIntOf, typeInfo, hib, hwr, hbig2, hn0, hroom, hz0]
      | some a => simp at hst; simp [Builtin.append_, h0, h1, hE.run_und hu, hE.run_und hk, hE.run_size hs, asInt, asIntOf, typeInfo, hib, hwr, hbig2, hn0, hroom, hz0, hst]
    · have hzc := zeroCells_rep zv.cells n
      rw [← hnews] at hzc
      cases base with
      | none => subst hst; simp [Builtin.append_, h0, h1, hE.run_und hu, hE.run_und hk, hE.run_size hs, asInt, asIntOf, typeInfo, hib, hwr, hbig2, hn0, hroom, hzr]
      | some a => simp at hst; simp [Builtin.append_, h0, h1, hE.run_und hu, hE.run_und hk, hE.run_size hs, asInt, asIntOf, typeInfo, hib, hwr, hbig2, hn0, hroom, hz0, hzr, hzc, hst]
  · rcases hk with h1 | ⟨ty1, d, h1, hk, hni⟩
    · cases base with
      | none => subst hst; simp [Builtin.append_, h0, h1, hE.run_und hu, hE.run_size hs, hlen, hroom, hy.here]
      | some a => simp at hst; simp [Builtin.append_, h0, h1, hE.run_und hu, hE.run_size hs, hlen, hroom, hy.here, hst]
    · cases base with
      | none => subst hst; simp [Builtin.append_, h0, h1, hE.run_und hu, hE.run_und hk, hE.run_size hs, hlen, hroom, hy.here]
      | some a => simp at hst; simp [Builtin.append_, h0, h1, hE.run_und hu, hE.run_und hk, hE.run_size hs, hlen, hroom, hy.here, hst]
theorem run_app_grow {σ : Val} {h : HS} {w : World} {xv : Value} {n : Nat} {new : V} {news olds : List Value} (W : Wht P E σ h w tys[1]? size bytes z zv.cells.toList xv n new news) {base : Option Addr} {sLen sCap : Nat} (hg : sCap < sLen + n)
    (hfit : (2 * (sLen + n) + 1000) * (bytes + 1) ≤ 281474976710656) (hold : (Builtin.firstCells size sLen (.slice base sLen sCap)).run P w.drew = .ok olds.toArray w.drew) :
    ∃ d, (Builtin.append_ tys ty #[.slice base sLen sCap, xv]).run P w = .ok (.slice (some ⟨w.heap.size, 0, none⟩) (sLen + n) (sLen + n + d)) (w.drew.alloc (.cells (olds ++ news ++ (List.replicate d zv.cells.toList).flatten).toArray e)) := by
  obtain ⟨ib, hib, rfl⟩ := hE.infoB hb
  have hn : ¬ (sLen + n ≤ sCap) := by omega
  have hmul : ∀ a, a ≤ 2 * (sLen + n) + 1000 → a * (ib.bytes + 1) ≤ 281474976710656 := fun a ha => Nat.le_trans (Nat.mul_le_mul_right _ ha) hfit
  have h63 : sLen + n ≤ 281474976710656 := by
    have := hmul (sLen + n) (by omega)
    rw [Nat.mul_succ] at this
    omega
  have h63' : ¬ (9223372036854775807 < ((sLen : Int) + (n : Int))) := by omega
  have h48' : ¬ (281474976710656 < Builtin.nextslicecap (sLen + n) sCap * ib.bytes) := by
    have h1 := nextslicecap_le hg
    have := hmul (Builtin.nextslicecap (sLen + n) sCap) (by omega)
    rw [Nat.mul_succ] at this
    omega
  refine ⟨w.tape w.drawn (.appendCap (sLen + n) sCap e) % (2 ^ 63 - (sLen + n)), ?_⟩
  have hcut : Question.cut (.appendCap (sLen + n) sCap e) (w.tape w.drawn (.appendCap (sLen + n) sCap e)) = sLen + n + w.tape w.drawn (.appendCap (sLen + n) sCap e) % (2 ^ 63 - (sLen + n)) := rfl
  generalize w.tape w.drawn (.appendCap (sLen + n) sCap e) % (2 ^ 63 - (sLen + n)) = d at hcut ⊢
  have hzd := zeroCells_rep zv.cells d
  rcases W.kind with ⟨ty1, k, j, h1, hk, rfl, hnb, hnews⟩ | ⟨hk, hlen, hy⟩
  · have hlt : n < 9223372036854775808 := by
      have : n * 1 ≤ n * (ib.bytes + 1) := Nat.mul_le_mul_left n (by omega)
      omega
    have hwr : IntKind.i64.wrap (n : Int) = n := wrap_half hlt
    have hbig2 : ¬ ((281474976710656 : Int) < (n : Int) * ib.bytes) := by
      have h2 : n * ib.bytes ≤ n * (ib.bytes + 1) := Nat.mul_le_mul_left n (by omega)
      have : ((n * ib.bytes : Nat) : Int) ≤ ((70368744177664 : Nat) : Int) := Int.ofNat_le.2 (Nat.le_trans h2 hnb)
      rw [Int.natCast_mul] at this
      omega
    have hn0 : ¬ ((n : Int) < 0) := by omega
    by_cases hz0 : n * size = 0
    · have hnil : news = [] := List.length_eq_zero_iff.1 (W.len.trans hz0)
      subst hnil
      simp [Builtin.append_, h0, h1, hE.run_und hu, hE.run_und hk, hE.run_size hs, asInt, asIntOf, typeInfo, hib, hwr, hbig2, hn0, hn, h63', h48', hz0, hzr, Question.forced, hcut, hold, newRow, hzd]
    · have hzc := zeroCells_rep zv.cells n
      rw [← hnews] at hzc
      simp [Builtin.append_, h0, h1, hE.run_und hu, hE.run_und hk, hE.run_size hs, asInt, asIntOf, typeInfo, hib, hwr, hbig2, hn0, hn, h63', h48', hz0, hzr, Question.forced, hcut, hold, newRow, hzd, hzc]
  · rcases hk with h1 | ⟨ty1, d', h1, hk, hni⟩
    · simp [Builtin.append_, h0, h1, hE.run_und hu, hE.run_size hs, typeInfo, hib, hlen, hn, h63', h48', hzr, Question.forced, hcut, hold, hy.drew, newRow, hzd]
    · simp [Builtin.append_, h0, h1, hE.run_und hu, hE.run_und hk, hE.run_size hs, typeInfo, hib, hlen, hn, h63', h48', hzr, Question.forced, hcut, hold, hy.drew, newRow, hzd]

end
end Go.AE

namespace Go.AE
open Go Go.RowKit

variable {P : Program} {E : Env} {B : Nat} {w0 : World}

/-- a block is forgotten -/
theorem St.kill {σ : Val} {h : HS} {w : World} {id n : Nat} (hr : HRel P B w0 σ h.fn w) (h2 : σ.blk id = some n) : St P B w0 σ h.fn h.c w σ (h.set id none).fn (h.set id none).c w := by
  have hid := hr.dom id n h2
  have hf := HS.set_fn h hid none
  have live : ∀ j, (h.set id none).fn j ≠ none → h.fn j ≠ none ∧ (h.set id none).fn j = h.fn j := by
    intro j hj
    rw [hf j] at hj ⊢
    by_cases e : j = id
    · rw [if_pos e] at hj; exact absurd rfl hj
    · rw [if_neg e] at hj ⊢; exact ⟨hj, rfl⟩
  refine ⟨Ext.refl _ _ _, ⟨fun j b m k1 k2 => ?_, fun j j' m k1 k1' k2 k2' => hr.inj j j' m (live j k1).1 (live j' k1').1 k2 k2', hr.dom, fun j m k1 k2 => hr.own j m (live j k1).1 k2, hr.keep, hr.base⟩,
    Nat.le_refl _, Nat.le_refl _, fun _ _ _ => rfl, fun j m k1 k2 _ => ⟨j, (live j k1).1, k2⟩, fun j k1 _ => ?_⟩
  · have := (live j (by rw [k1]; simp)).2
    rw [k1] at this
    exact hr.blk j b m this.symm k2
  · rw [hf j, if_neg (fun e => by subst e; rw [h2] at k1; cases k1)]

/-- a block changes its number, and what lies in it -/
theorem St.move {σ : Val} {h : HS} {w w' : World} {obj : Obj} {b b0 : Blk} {f : Nat → V} {vh : VH} {id n : Nat} {k : Option Nat} {q : Option Value} (hr : HRel P B w0 σ h.fn w) (h1 : h.fn id = some b0) (h2 : σ.blk id = some n)
    (hn : (h.set id none).new b f = some vh) (hun : Und σ h.c (h.c + 1)) (g : Wrote w w' n obj) (hb : BR P (σ.put h.c n k q) b (some obj)) : St P B w0 σ h.fn h.c w (σ.put h.c n k q) vh.h.fn vh.h.c w' := by
  obtain ⟨hlt, _, hc', hf⟩ := HS.new_eq hn
  have hcc : (h.set id none).c = h.c := rfl
  rw [hcc] at hlt hc' hf
  rw [hc']
  have hid := hr.dom id n h2
  have hf2 := HS.set_fn h hid none
  have he := Val.put_ext hun n k q
  have hne : h.fn id ≠ none := by rw [h1]; simp
  have hidc : id ≠ h.c := fun e => by
    have := hun.blk h.c (Nat.le_refl _) (Nat.lt_succ_self _)
    rw [← e, h2] at this; cases this
  have old : ∀ j m, j ≠ h.c → (σ.put h.c n k q).blk j = some m → σ.blk j = some m := by
    intro j m hj hm
    have hm : (if j = h.c then some n else σ.blk j) = some m := hm
    rw [if_neg hj] at hm; exact hm
  have live : ∀ j m, vh.h.fn j ≠ none → (σ.put h.c n k q).blk j = some m → (j = h.c ∧ m = n) ∨ (j ≠ h.c ∧ j ≠ id ∧ h.fn j ≠ none ∧ vh.h.fn j = h.fn j ∧ σ.blk j = some m ∧ m ≠ n) := by
    intro j m k1 k2
    by_cases e : j = h.c
    · subst e; rw [Val.put_blk] at k2; cases k2; exact .inl ⟨rfl, rfl⟩
    · have h3 := old j m e k2
      have hfj := hf j
      rw [if_neg e, hf2 j] at hfj
      by_cases e2 : j = id
      · rw [if_pos e2] at hfj; exact absurd hfj k1
      · rw [if_neg e2] at hfj
        rw [hfj] at k1
        exact .inr ⟨e, e2, k1, hfj, h3, fun e3 => e2 (hr.inj j id m k1 hne h3 (by rw [e3]; exact h2))⟩
  refine ⟨he, ⟨fun j b' m k1 k2 => ?_, fun j j' m k1 k1' k2 k2' => ?_, fun j m k1 => ?_, fun j m k1 k2 => ?_, g.below hr.keep (hr.own id n hne h2), by rw [g.size]; exact hr.base⟩, Nat.le_succ _, by rw [g.size]; exact Nat.le_refl _, fun m hm hnot => g.there m (fun e => hnot id hne (by rw [e]; exact h2)),
    fun j m k1 k2 hm => ?_, fun j k1 k2 => ?_⟩
  · rcases live j m (by rw [k1]; simp) k2 with ⟨rfl, rfl⟩ | ⟨a1, a2, a3, a4, a5, a6⟩
    · rw [hf, if_pos rfl] at k1
      cases k1
      rw [g.here]; exact hb
    · rw [g.there m a6]
      exact (hr.blk j b' m (by rw [← a4]; exact k1) a5).mono P he.le
  · rcases live j m k1 k2 with ⟨a, b⟩ | ⟨a1, a2, a3, a4, a5, a6⟩ <;> rcases live j' m k1' k2' with ⟨a', b'⟩ | ⟨a1', a2', a3', a4', a5', a6'⟩
    · omega
    · exact absurd b a6'
    · exact absurd b' a6
    · exact hr.inj j j' m a3 a3' a5 a5'
  · by_cases e : j = h.c
    · omega
    · exact hr.dom j m (old j m e k1)
  · rcases live j m k1 k2 with ⟨a, b⟩ | ⟨a1, a2, a3, a4, a5, a6⟩
    · rw [b]; exact hr.own id n hne h2
    · exact hr.own j m a3 a5
  · rcases live j m k1 k2 with ⟨a, b⟩ | ⟨a1, a2, a3, a4, a5, a6⟩
    · rw [b]; exact ⟨id, hne, h2⟩
    · exact ⟨j, a3, a5⟩
  · rw [hf, if_neg (by omega), hf2, if_neg (fun e => by subst e; rw [h2] at k1; cases k1)]

theorem Grew.drew (w : World) (o : Obj) : Grew w (w.drew.alloc o) o := ⟨rfl, rfl, rfl, rfl⟩

theorem appendC_eq {t0 e size bytes : Nat} {t1 : Option Nat} {z : V} (hu : E.und t0 = some (.slice e)) (hs : E.size e = some size) (hb : E.bytes e = some bytes) (hz : E.zero e = some z) (s x : V) (h : HS) :
    (appendC E t0 t1).out s x h = bi (Nat.beq z.cells.size size) (whatC E t1 bytes z.cells (firstC size).out x h fun n new =>
        onSl s
          (bi (Nat.beq n 0) (some (VH.mk (.nilv 1) h))
            (bi (Nat.ble (Nat.mul (Nat.add (Nat.mul 2 n) 1000) (Nat.succ bytes)) 281474976710656) (h.new (.cells e new (some h.c)) fun c => .sl c 0 n n (some c)) none))
          (bi (Nat.beq n 0) (some (VH.mk .sle h)) none)
          (fun id off len cap cx => fN (Nat.add len n) fun need =>
            bi (Nat.ble need cap)
              (onCells (h.get id) fun e r bx => ob (r.upd (Nat.add off (Nat.mul len size)) new (Nat.mul n size)) fun r' => some (VH.mk (.sl id off need cap cx) (h.set id (some (.cells e r' bx)))))
              (growC e size bytes h new need id off len cap cx))) none := by
  unfold appendC
  simp only [hu, hs, hb, hz]
  rw [bi_if, bi_if]
  split
  · rw [KF.app_eq, KF.app_eq]; rfl
  · rfl

theorem appendC_some {t0 : Nat} {t1 : Option Nat} {s x : V} {h : HS} {vh : VH} (hv : (appendC E t0 t1).out s x h = some vh) : ∃ e size bytes z, E.und t0 = some (.slice e) ∧ E.size e = some size ∧ E.bytes e = some bytes ∧ E.zero e = some z := by
  unfold appendC at hv
  split at hv
  · rename_i e hu
    split at hv
    · rename_i size bytes z hs hb hz
      exact ⟨e, size, bytes, z, hu, hs, hb, hz⟩
    · cases hv
  · cases hv
end Go.AE

namespace Go.AE
open Go Go.RowKit

variable {P : Program} {E : Env} {B : Nat} {w0 : World}

theorem argsTwo {c : Go.Call} {x y : Operand} (ha : c.args.toList = [x, y]) : c.args = #[x, y] := by
  have : c.args = c.args.toList.toArray := by simp
  rw [this, ha]

/-- the new row of an append -/
theorem grown_BR {σ : Val} {c b d e size : Nat} {row : V} {cells zs : List Value} (hE : EnvOK P E B w0) (hs : E.size e = some size) (hzl : zs.length = size) (hun : Und σ c (c + 1)) (hr : SR σ row cells) (h1 : ∀ u ∈ cells, u.oneCell' = true) :
    BR P (σ.put c b (some d) none) (.cells e row (some c)) (some (.cells (cells ++ (List.replicate d zs).flatten).toArray e)) :=
  ⟨cells, (List.replicate d zs).flatten, (0, 0), rfl, hr.mono (Val.put_ext hun _ _ _).le, h1, .inl rfl, d, Val.put_cap _ _ _ _ _, by simp [hE.cellsOf hs, hzl]⟩

theorem cAppend_ok (hE : EnvOK P E B w0) {o : Oper} {c : Go.Call} {t0 : Nat} {s x : Operand} (ho : o.op = .call c) (hc : c.callee = .builtin .append) (ha : c.args.toList = [s, x]) (ht0 : c.argTypes[0]? = some t0) :
    CKOK P B w0 o (cAppend E t0 c.argTypes[1]? s x) := by
  have hargs := argsTwo ha
  unfold cAppend
  rw [KF.app_eq, KF.app_eq, KF.app_eq]
  intro σ nt t a h w vh ht hr hun hv
  simp only [ob_eq] at hv
  obtain ⟨vs, hvs, vx, hvx, hv⟩ := hv
  obtain ⟨e, size, bytes, z, hu, hs, hb, hz⟩ := appendC_some hv
  rw [appendC_eq hu hs hb hz, bi_if] at hv
  split at hv
  rotate_left
  · cases hv
  rename_i hzsz
  have hzsz : z.cells.size = size := beq_iff.1 hzsz
  obtain ⟨zv, hzr, hzv, hnt⟩ := hE.run_zero hz
  have hzc := VR.cells (hzv σ)
  have hzl : zv.cells.toList.length = size := (SR.len hzc).trans hzsz
  have hz1 := VR.cells_one (hzv σ) hnt
  have hxs := opdC_ok ht hvs
  have hxx := opdC_ok ht hvx
  obtain ⟨n, new, news, hv, W⟩ := whatC_ok hr hxx hzc hzl hz1 hv
  have exec : ∀ y w', (Builtin.append_ c.argTypes o.type #[a.eval s, a.eval x]).run P w = .ok y w' → (execOp a.eval o).run P w = .ok (.value y) w' := by
    intro y w' hy
    simp [execOp, ho, resolve, hc, hargs, invoke, builtin, hy]
  have hcell : P.cellsOf e = size := hE.cellsOf hs
  simp only [onSl_eq, bi_eq, beq_iff, ble_iff, fN_eq] at hv
  rcases hv with ⟨rfl, ⟨rfl, hv⟩ | ⟨hn0, ⟨hfit, hv⟩ | ⟨_, hv⟩⟩⟩ | ⟨rfl, ⟨rfl, hv⟩ | ⟨_, hv⟩⟩ | ⟨id, off, len, cap, cx, rfl, ⟨hroom, hv⟩ | ⟨hroom, hv⟩⟩
  · -- nil, nothing appended
    cases hv
    have es := VR_nilv hxs
    have hnil : news = [] := List.length_eq_zero_iff.1 (by rw [W.len, Nat.zero_mul])
    have hrun := run_app_room hE hu hs hb hzr ht0 (ty := o.type) W (base := none) (sLen := 0) (sCap := 0) (Nat.le_refl _) (w' := w) rfl
    refine ⟨_, w, σ, .inl (exec _ _ (by rw [es]; exact hrun)), St.refl hr, ⟨rfl, rfl⟩⟩
  · -- nil, a new row
    have es := VR_nilv hxs
    have hpos : 0 < 0 + n := by
      have : n ≠ 0 := fun h => by rw [h] at hn0; simp at hn0
      omega
    have hfit : (2 * (0 + n) + 1000) * (bytes + 1) ≤ 281474976710656 := by rw [Nat.zero_add]; exact hfit
    obtain ⟨d, hrun⟩ := run_app_grow hE hu hs hb hzr ht0 (ty := o.type) W (base := none) (sLen := 0) (sCap := 0) hpos hfit (olds := []) rfl
    obtain ⟨_, ev, ec, _⟩ := HS.new_eq hv
    have u1 : Und σ h.c (h.c + 1) := by rw [← ec]; exact hun
    refine ⟨_, _, σ.put h.c w.heap.size (some d) none, .inl (exec _ _ (by rw [es]; exact hrun)), St.alloc hr hv (Grew.drew _ _) (Val.put_ext u1 _ _ _) (Val.put_blk _ _ _ _ _) (grown_BR hE hs hzl u1 W.row W.one), ?_⟩
    rw [ev, Nat.zero_add]
    exact VR.sl (Val.put_blk _ _ _ _ _) (Val.put_cap _ _ _ _ _)
  · cases hv
  · cases hv
    obtain ⟨ba, cc, es⟩ := VR_sle hxs
    have hnil : news = [] := List.length_eq_zero_iff.1 (by rw [W.len, Nat.zero_mul])
    subst hnil
    have hrun := run_app_room hE hu hs hb hzr ht0 (ty := o.type) W (base := ba) (sLen := 0) (sCap := cc) (Nat.zero_le _) (w' := w) (by cases ba <;> rfl)
    exact ⟨_, w, σ, .inl (exec _ _ (by rw [es]; exact hrun)), St.refl hr, rfl, _, _, rfl⟩
  · cases hv
  · -- room that is known of
    obtain ⟨b, ex, hbk, hcap, es⟩ := VR_sl hxs
    simp only [onCells_eq, ob_eq] at hv
    obtain ⟨e', r, bx, hg, r', hr', hv⟩ := hv
    cases hv
    obtain ⟨hf, cs, rest, fz, hw, hsr, h1, hfz, hbx⟩ := hr.get hbk hg
    obtain ⟨u1, u2⟩ := SR.upd hsr W.row W.len hr'
    have u1 : n * size = 0 ∨ off + len * size + n * size ≤ cs.length := u1
    obtain ⟨w', hst, hwr⟩ := run_storeCells_of (P := P) news (cs ++ rest) fz (off + len * size) 0 w hw (by simpa using hfz) (by rw [W.len, List.length_append]; omega) W.one
    have hroom' : len + n ≤ cap + ex := Nat.le_trans hroom (Nat.le_add_right _ _)
    have hrun := run_app_room hE hu hs hb hzr ht0 (ty := o.type) W (base := some ⟨b, off, none⟩) (sLen := len) (sCap := cap + ex) hroom' (w' := w') (by show (storeCells (Addr.add _ (len * size)) news).run P w = _; rw [add_eq]; exact hst)
    refine ⟨_, w', σ, .inl (exec _ _ (by rw [es]; exact hrun)), St.write hr hf hbk hwr ⟨cs.take (off + len * size) ++ news ++ cs.drop (off + len * size + n * size), rest, fz, ?_, u2, ?_, ?_, hbx⟩, VR.sl hbk hcap⟩
    · rw [W.len, Nat.add_zero]
      rcases u1 with u1 | u1
      · have : news = [] := List.length_eq_zero_iff.1 (W.len.trans u1)
        simp [this, u1]
      · have := upd_split cs rest news (off + len * size) (by rw [W.len]; exact u1)
        rw [W.len] at this
        rw [this]
    · intro c hc
      simp only [List.mem_append] at hc
      rcases hc with (hc | hc) | hc
      · exact h1 c (List.mem_of_mem_take hc)
      · exact W.one c hc
      · exact h1 c (List.mem_of_mem_drop hc)
    · have : (cs.take (off + len * size) ++ news ++ cs.drop (off + len * size + n * size)).length = cs.length := by
        simp only [List.length_append, List.length_take, List.length_drop, W.len]
        rcases u1 with u1 | u1 <;> omega
      rw [this]; exact hfz
  · -- none that is known of
    have hroom : cap < len + n := by have := ble_false.1 hroom; omega
    obtain ⟨b, ex, hbk, hcap, es⟩ := VR_sl hxs
    unfold growC at hv
    simp only [bi_eq, ble_iff, onCells_eq, ob_eq] at hv
    rcases hv with ⟨hfit, e', r, bx, hg, old, hold, hv⟩ | ⟨_, hv⟩
    rotate_left
    · cases hv
    have hfit : (2 * (len + n) + 1000) * (bytes + 1) ≤ 281474976710656 := hfit
    obtain ⟨hf, cs, rest, fz, hw, hsr, h1, hfz, hbx⟩ := hr.get hbk hg
    obtain ⟨j1, j2⟩ := SR.ext hsr hold
    have j1 : len * size = 0 ∨ off + len * size ≤ cs.length := j1
    have j2 : SR σ old ((cs.drop off).take (len * size)) := j2
    have hcells : (Builtin.firstCells size len (.slice (some ⟨b, off, none⟩) len (cap + ex))).run P w.drew = .ok ((cs.drop off).take (len * size)).toArray w.drew := by
      have e2 : ((cs ++ rest).drop off).take (len * size) = (cs.drop off).take (len * size) := by
        rcases j1 with j1 | j1
        · simp [j1]
        · rw [List.drop_append_of_le_length (by omega), List.take_append_of_le_length (by simp; omega)]
      rw [← e2]
      exact run_loadCells_of (P := P) (w := w.drew) hw (by rcases j1 with j1 | j1; exact .inl j1; right; simp; omega)
    have hone : ∀ u ∈ (cs.drop off).take (len * size) ++ news, u.oneCell' = true := by
      intro u hu
      rcases List.mem_append.1 hu with hu | hu
      · exact h1 u (List.mem_of_mem_drop (List.mem_of_mem_take hu))
      · exact W.one u hu
    cases cx with
    | none =>
      have hcap : ex = 0 := hcap
      subst hcap
      have hv : h.new (.cells e (V.mk old new) (some h.c)) (fun c => .sl c 0 (len + n) (len + n) (some c)) = some vh := hv
      obtain ⟨d, hrun⟩ := run_app_grow hE hu hs hb hzr ht0 (ty := o.type) W (base := some ⟨b, off, none⟩) (sLen := len) (sCap := cap + 0) hroom hfit hcells
      obtain ⟨_, ev, ec, _⟩ := HS.new_eq hv
      have u1 : Und σ h.c (h.c + 1) := by rw [← ec]; exact hun
      refine ⟨_, _, σ.put h.c w.heap.size (some d) none, .inl (exec _ _ (by rw [es]; exact hrun)), St.alloc hr hv (Grew.drew _ _) (Val.put_ext u1 _ _ _) (Val.put_blk _ _ _ _ _) (grown_BR hE hs hzl u1 (SR.mk j2 W.row) hone), ?_⟩
      rw [ev]
      exact VR.sl (Val.put_blk _ _ _ _ _) (Val.put_cap _ _ _ _ _)
    | some i =>
      replace hv : bi (Nat.beq off 0) (bi (Nat.beq r.size (Nat.mul cap size)) (bi (Nat.beq e' e)
          (Option.rec (motive := fun _ => Option VH) none (fun j => bi (Nat.beq i j) ((h.set id none).new (.cells e (V.mk old new) (some h.c)) fun c => .sl c 0 (len + n) (len + n) (some c)) none) bx) none) none) none = some vh := hv
      simp only [bi_eq, beq_iff] at hv
      rcases hv with ⟨rfl, ⟨hrs, ⟨rfl, hv⟩ | ⟨_, hv⟩⟩ | ⟨_, hv⟩⟩ | ⟨_, hv⟩
      rotate_left
      · cases hv
      · cases hv
      · cases hv
      cases bx with
      | none => cases hv
      | some j =>
        replace hv : bi (Nat.beq i j) ((h.set id none).new (.cells e' (V.mk old new) (some h.c)) fun c => .sl c 0 (len + n) (len + n) (some c)) none = some vh := hv
        simp only [bi_eq, beq_iff] at hv
        rcases hv with ⟨hij, hv⟩ | ⟨_, hv⟩
        rotate_left
        · cases hv
        subst hij
        obtain ⟨k, hk, hrl⟩ := hbx
        have hcap : σ.cap i = some ex := hcap
        have hkx : k = ex := by rw [hk] at hcap; exact Option.some.inj hcap
        subst hkx
        have hcl : cs.length = cap * size := (SR.len hsr).trans hrs
        obtain ⟨_, ev, ec, _⟩ := HS.new_eq hv
        have ec : vh.h.c = h.c + 1 := ec
        have ev : vh.v = V.sl h.c 0 (len + n) (len + n) (some h.c) := ev
        have u1 : Und σ h.c (h.c + 1) := by rw [← ec]; exact hun
        by_cases hin : len + n ≤ cap + k
        · -- in place, and none saw it
          have hlen : len * size ≤ cs.length := by
            rcases j1 with j1 | j1
            · omega
            · omega
          have hmul : (len + n) * size ≤ (cap + k) * size := Nat.mul_le_mul_right _ hin
          have htot : (cs ++ rest).length = (cap + k) * size := by rw [List.length_append, hcl, hrl, hcell, Nat.add_mul]
          have hsum : len * size + n * size = (len + n) * size := (Nat.add_mul _ _ _).symm
          obtain ⟨w', hst, hwr⟩ := run_storeCells_of (P := P) news (cs ++ rest) fz (0 + len * size) 0 w hw (by simpa using hfz) (by rw [W.len]; omega) W.one
          have hrun := run_app_room hE hu hs hb hzr ht0 (ty := o.type) W (base := some ⟨b, 0, none⟩) (sLen := len) (sCap := cap + k) hin (w' := w') (by show (storeCells (Addr.add _ (len * size)) news).run P w = _; rw [add_eq]; exact hst)
          have hcapsum : len + n + (cap + k - (len + n)) = cap + k := by omega
          refine ⟨_, w', σ.put h.c b (some (cap + k - (len + n))) none, .inl (exec _ _ (by rw [es]; exact hrun)), St.move hr hf hbk hv u1 hwr ⟨(cs.drop 0).take (len * size) ++ news, (cs ++ rest).drop (len * size + n * size), fz, ?_, (SR.mk j2 W.row).mono (Val.put_ext u1 _ _ _).le, hone, ?_, _, Val.put_cap _ _ _ _ _, ?_⟩, ?_⟩
          · rw [W.len, Nat.zero_add, Nat.add_zero, List.drop_zero, List.take_append_of_le_length hlen]
          · have hl2 : ((cs.drop 0).take (len * size) ++ news).length + ((cs ++ rest).drop (len * size + n * size)).length = cs.length + rest.length := by
              rw [List.length_append, List.length_take, List.length_drop, List.length_drop, W.len, htot]
              rw [List.length_append] at htot
              omega
            rw [hl2]; exact hfz
          · rw [List.length_drop, htot, hcell, Nat.sub_mul]
            omega
          · rw [ev]
            have := VR.sl (σ := σ.put h.c b (some (cap + k - (len + n))) none) (o := 0) (n := len + n) (c := len + n) (Val.put_blk σ h.c b (some (cap + k - (len + n))) none) (y := some h.c) (e := cap + k - (len + n)) (Val.put_cap _ _ _ _ _)
            rw [hcapsum] at this
            exact this
        · -- a new row; the old block is forgotten
          obtain ⟨d, hrun⟩ := run_app_grow hE hu hs hb hzr ht0 (ty := o.type) W (base := some ⟨b, 0, none⟩) (sLen := len) (sCap := cap + k) (by omega) hfit hcells
          have hkill := St.kill hr hbk
          refine ⟨_, _, σ.put h.c w.heap.size (some d) none, .inl (exec _ _ (by rw [es]; exact hrun)), hkill.trans (St.alloc hkill.rel hv (Grew.drew _ _) (Val.put_ext u1 _ _ _) (Val.put_blk _ _ _ _ _) (grown_BR hE hs hzl u1 (SR.mk j2 W.row) hone)), ?_⟩
          rw [ev]
          exact VR.sl (Val.put_blk _ _ _ _ _) (Val.put_cap _ _ _ _ _)
end Go.AE

namespace Go.AE
open Go Go.RowKit

variable {P : Program} {E : Env} {B : Nat} {w0 : World}

/-- one half of a copy -/
noncomputable def copyN (size : Nat) (dst src : V) (n : Nat) (h : HS) : Option VH :=
  ob ((firstC size).out src n h) fun cells => onSl dst (some (VH.mk (.nat .i64 n) h)) (some (VH.mk (.nat .i64 n) h)) fun id off _ _ _ => onCells (h.get id) fun e r x => ob (r.upd off cells (Nat.mul n size)) fun r' => some (VH.mk (.nat .i64 n) (h.set id (some (.cells e r' x))))

theorem copyC_eq {t0 : Nat} {dst src : V} {h : HS} {vh : VH} (hv : (copyC E t0).out dst src h = some vh) : ∃ e size, E.und t0 = some (.slice e) ∧ E.size e = some size ∧
    ∃ sn dn n, lenV src = some sn ∧ lenV dst = some dn ∧ n = min sn dn ∧ copyN size dst src n h = some vh := by
  unfold copyC at hv
  split at hv
  · rename_i e hu
    split at hv
    · rename_i size hs
      rw [KF.app_eq] at hv
      have hv : (ob (lenV src) fun sn => ob (lenV dst) fun dn => bi (Nat.ble sn dn) (copyN size dst src sn h) (copyN size dst src dn h)) = some vh := hv
      simp only [ob_eq, bi_eq, ble_iff, ble_false] at hv
      obtain ⟨sn, h1, dn, h2, ⟨h3, hv⟩ | ⟨h3, hv⟩⟩ := hv
      · exact ⟨e, size, hu, hs, sn, dn, sn, h1, h2, by omega, hv⟩
      · exact ⟨e, size, hu, hs, sn, dn, dn, h1, h2, by omega, hv⟩
    · cases hv
  · cases hv

theorem cCopy_ok (hE : EnvOK P E B w0) {o : Oper} {c : Go.Call} {t0 : Nat} {s x : Operand} (ho : o.op = .call c) (hc : c.callee = .builtin .copy) (ha : c.args.toList = [s, x]) (ht0 : c.argTypes[0]? = some t0) :
    CKOK P B w0 o (cCopy E t0 s x) := by
  have hargs := argsTwo ha
  unfold cCopy
  rw [KF.app_eq, KF.app_eq, KF.app_eq]
  intro σ nt t a h w vh ht hr hun hv
  simp only [ob_eq] at hv
  obtain ⟨vs, hvs, vx, hvx, hv⟩ := hv
  replace hv := copyC_eq hv
  obtain ⟨e, size, hu, hs, sn, dn, n, hsn, hdn, hmin, hv⟩ := hv
  have hxs := opdC_ok ht hvs
  have hxx := opdC_ok ht hvx
  unfold copyN at hv
  simp only [ob_eq, onSl_eq, onCells_eq] at hv
  obtain ⟨cells, hcl, hv⟩ := hv
  obtain ⟨news, hy, hrow⟩ := firstC_ok hr hxx hsn (by omega) hcl
  have hlenx := lenV_ok (P := P) hxx hsn
  have hmin' : Nat.min sn dn = n := hmin.symm
  rcases hv with ⟨rfl, hv⟩ | ⟨rfl, hv⟩ | ⟨id, off, len, cap, cx, rfl, e', r, bx, hg, r', hr', hv⟩ <;> cases hv
  · have es := VR_nilv hxs
    have hdn : some 0 = some dn := hdn
    cases hdn
    have hn0 : n = 0 := by omega
    subst hn0
    have hrd := hy.here
    refine ⟨.int .i64 ((0 : Nat) : Int), w, σ, .inl ?_, St.refl hr, VR.nat⟩
    simp [execOp, ho, resolve, hc, hargs, invoke, builtin, Builtin.copy_, ht0, hE.run_und hu, hE.run_size hs, es, nilValue, hlenx, hrd, goInt]
  · obtain ⟨ba, cc, es⟩ := VR_sle hxs
    have hdn : some 0 = some dn := hdn
    cases hdn
    have hn0 : n = 0 := by omega
    have hnil : news = [] := List.length_eq_zero_iff.1 (by rw [hy.len, hn0, Nat.zero_mul])
    subst hnil
    subst hn0
    have hrd := hy.here
    refine ⟨.int .i64 ((0 : Nat) : Int), w, σ, .inl ?_, St.refl hr, VR.nat⟩
    cases ba <;> simp [execOp, ho, resolve, hc, hargs, invoke, builtin, Builtin.copy_, ht0, hE.run_und hu, hE.run_size hs, es, hlenx, hrd, goInt, storeCells]
  · obtain ⟨b, ex, hbk, hcap, es⟩ := VR_sl hxs
    have hdn : some len = some dn := hdn
    cases hdn
    obtain ⟨hf, cs, rest, fz, hw, hsr, h1, hfz, hbx⟩ := hr.get hbk hg
    obtain ⟨u1, u2⟩ := SR.upd hsr hrow hy.len hr'
    have u1 : n * size = 0 ∨ off + n * size ≤ cs.length := u1
    obtain ⟨w', hst, hwr⟩ := run_storeCells_of (P := P) news (cs ++ rest) fz off 0 w hw (by simpa using hfz) (by rw [hy.len, List.length_append]; omega) hy.one
    refine ⟨.int .i64 (n : Nat), w', σ, .inl ?_, St.write hr hf hbk hwr ⟨cs.take off ++ news ++ cs.drop (off + n * size), rest, fz, ?_, u2, ?_, ?_, hbx⟩, VR.nat⟩
    · simp [execOp, ho, resolve, hc, hargs, invoke, builtin, Builtin.copy_, ht0, hE.run_und hu, hE.run_size hs, es, hlenx, hmin', hy.here, goInt, hst]
    · rw [hy.len, Nat.add_zero]
      rcases u1 with u1 | u1
      · have : news = [] := List.length_eq_zero_iff.1 (hy.len.trans u1)
        simp [this, u1]
      · have := upd_split cs rest news off (by rw [hy.len]; exact u1)
        rw [hy.len] at this
        rw [this]
    · intro c hc
      simp only [List.mem_append] at hc
      rcases hc with (hc | hc) | hc
      · exact h1 c (List.mem_of_mem_take hc)
      · exact hy.one c hc
      · exact h1 c (List.mem_of_mem_drop hc)
    · have : (cs.take off ++ news ++ cs.drop (off + n * size)).length = cs.length := by
        simp only [List.length_append, List.length_take, List.length_drop, hy.len]
        rcases u1 with u1 | u1 <;> omega
      rw [this]; exact hfz
end Go.AE

namespace Go.AE
open Go Go.RowKit

variable {P : Program} {E : Env} {B : Nat} {w0 : World}

theorem compB_ok (hE : EnvOK P E B w0) {o : Oper} {c : Go.Call} {b : Builtin} (ho : o.op = .call c) (hc : c.callee = .builtin b) (ty : Nat) : CKOK P B w0 o (compB E b ty c.args.toList c.argTypes) := by
  unfold compB
  split
  · rename_i ha ht0; exact cAppend_ok hE ho hc ha ht0
  · rename_i ha ht0; exact cCopy_ok hE ho hc ha ht0
  · rename_i ha ht0; exact cLen_ok hE ho hc ha ht0
  · rename_i ha ht0; exact cCap_ok hE ho hc ha ht0
  · rename_i ha; exact cMinmax_ok (m := false) ho hc ha
  · rename_i ha; exact cMinmax_ok (m := true) ho hc ha
  · rename_i ha ht0; exact cClear_ok hE ho hc ha ht0
  · rename_i ha ht0; exact cDelete_ok hE ho hc ha ht0
  · trivial

theorem compCall_ok (hE : EnvOK P E B w0) {o : Oper} {c : Go.Call} (ho : o.op = .call c) (ty : Nat) : CKOK P B w0 o (compCall E c ty) := by
  unfold compCall
  split
  · rename_i f hc; exact cCallF_ok ho hc
  · rename_i f _ hc; exact cCallV_ok ho hc
  · rename_i b hc; exact compB_ok hE ho hc ty
  · trivial

theorem comp_ok (hE : EnvOK P E B w0) (o : Oper) : CKOK P B w0 o (comp E o) := by
  unfold comp
  split <;> rename_i ho
  · exact cMove_ok (.inl ho)
  · exact cMove_ok (.inr ho)
  · exact cPick_ok ho
  · exact cAlloc_ok hE ho
  · exact cBox_ok ho
  · exact cBuild_ok hE ho
  · exact cBuildSlice_ok hE ho
  · exact cLoad_ok hE ho
  · exact cStore_ok hE ho
  · exact cNilCheck_ok ho
  · exact cBin_ok hE ho
  · exact cUn_ok ho
  · exact cConv_ok hE ho
  · exact cMakeFunc_ok ho
  · exact cMakeMap_ok ho
  · exact cMakeSlice_ok hE ho
  · exact cSlice_ok hE ho
  · exact cFieldAddr_ok hE ho
  · exact cField_ok hE ho
  · exact cIndexAddr_ok hE ho
  · exact cIndex_ok hE ho
  · exact cLookup_ok hE ho
  · exact cMapUpdate_ok hE ho
  · exact cMapEntry_ok hE ho
  · exact cEntryStore_ok ho
  · exact cRange_ok hE ho
  · exact cNext_ok ho
  · exact cEntry_ok ho
  · exact cExtract_ok ho
  · exact compCall_ok hE ho _
  · trivial
end Go.AE

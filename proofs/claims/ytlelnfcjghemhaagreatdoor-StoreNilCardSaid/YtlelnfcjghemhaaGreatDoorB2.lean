/- The loop of the check sum, walked. -/
import Derived.Test.YtlelnfcjghemhaaGreatDoorB1
namespace Go.AE
open Go Go.RowKit
set_option maxRecDepth 100000

/-! the loop of the check sum -/
def loopOf : Code → Option Code
  | .loop c => some c
  | .seq a b => (match loopOf a with
    | some c => some c
    | none => loopOf b)
  | .block _ c => loopOf c
  | .scope c => loopOf c
  | _ => none

/-- the first k bytes -/
noncomputable def crcUp (cs : List Nat) (c0 : Nat) : Nat → Nat
  | 0 => c0
  | k + 1 => crcAt (cs.getD k 0) k (crcUp cs c0 k)
/-- so many bits -/
noncomputable def bitsN (c : Nat) : Nat → Nat
  | 0 => c
  | k + 1 => crcBit (bitsN c k)
theorem crcByte_eq (c : Nat) : crcByte c = bitsN c 8 := rfl
theorem crcBit_if (c : Nat) : crcBit c = if c % 2 = 1 then (c / 2) ^^^ 2197175160 else c / 2 := by
  unfold crcBit
  rw [bi_if]
  by_cases h : c % 2 = 1
  · have : Nat.beq (Nat.mod c 2) 1 = true := beq_iff.2 h
    rw [if_pos this, if_pos h]; rfl
  · have : ¬ Nat.beq (Nat.mod c 2) 1 = true := fun h' => h (beq_iff.1 h')
    rw [if_neg this, if_neg h]; rfl
theorem crcBit_lt {c : Nat} (h : c < 4294967296) : crcBit c < 4294967296 := by
  rw [crcBit_if]
  split
  · exact Nat.xor_lt_two_pow (n := 32) (by omega) (by omega)
  · omega
theorem bitsN_lt {c : Nat} (h : c < 4294967296) : ∀ k, bitsN c k < 4294967296
  | 0 => h
  | k + 1 => crcBit_lt (bitsN_lt h k)
theorem crcAt_eq (b i c : Nat) : crcAt b i c = bitsN (if i < 28 ∨ 32 ≤ i then c ^^^ b else c) 8 := by
  unfold crcAt
  rw [crcByte_eq, bi_if, bi_if]
  congr 1
  by_cases h : 28 ≤ i
  · rw [if_pos (ble_iff.2 h)]
    by_cases h2 : 32 ≤ i
    · rw [if_pos (ble_iff.2 h2), if_pos (.inr h2)]; rfl
    · rw [if_neg (fun h' => h2 (ble_iff.1 h')), if_neg (by omega)]
  · rw [if_neg (fun h' => h (ble_iff.1 h')), if_pos (.inl (by omega))]; rfl
theorem crcAt_lt {b i c : Nat} (hb : b < 256) (h : c < 4294967296) : crcAt b i c < 4294967296 := by
  rw [crcAt_eq]
  refine bitsN_lt ?_ 8
  split
  · exact Nat.xor_lt_two_pow (n := 32) (by omega) (by omega)
  · exact h
theorem crcUp_lt {cs : List Nat} (hcs : ∀ b ∈ cs, b < 256) {c0 : Nat} (h : c0 < 4294967296) : ∀ k, crcUp cs c0 k < 4294967296
  | 0 => h
  | k + 1 => crcAt_lt (by
      rw [List.getD_eq_getElem?_getD]
      cases hk : cs[k]? with
      | none => simp
      | some b => exact hcs b (List.mem_of_getElem? hk)) (crcUp_lt hcs h k)

theorem wrap_u32 (n : Int) (h0 : 0 ≤ n) (h : n < 2 ^ 32) : IntKind.u32.wrap n = n := by
  simp [IntKind.wrap, IntKind.signed, IntKind.bits]; omega
theorem xor_u32 {a b : Nat} (ha : a < 4294967296) (hb : b < 4294967296) : bits .xor .u32 (a : Nat) (b : Nat) = ((a ^^^ b : Nat) : Int) := by
  have ha' : a % 2 ^ 32 = a := Nat.mod_eq_of_lt ha
  have hb' : b % 2 ^ 32 = b := Nat.mod_eq_of_lt hb
  have hx : a ^^^ b < 2 ^ 32 := Nat.xor_lt_two_pow ha hb
  have e : bits .xor .u32 (a : Nat) (b : Nat) = IntKind.u32.wrap (((a % 2 ^ 32) ^^^ (b % 2 ^ 32) : Nat) : Int) := by
    simp only [bits, BitVec.ofInt_natCast, BitVec.toNat_xor, BitVec.toNat_ofNat]
    rfl
  rw [e, ha', hb']
  exact wrap_u32 _ (Int.natCast_nonneg _) (by exact_mod_cast hx)
theorem and_u32 {a : Nat} (ha : a < 4294967296) : bits .and .u32 (a : Nat) 1 = ((a % 2 : Nat) : Int) := by
  have := (bits_nat .u32 32 (by decide) wrap_u32 a 1 ha (by decide)).1
  rw [Nat.and_one_is_mod] at this
  exact this

theorem run_index71 {cs : List Nat} (hcs : cs.length = 512) {k : Nat} (hk : (k : Int) < 512) (w : World) :
    (Instr.index 71 (.agg (cs.map fun n => Value.int .u8 (n : Nat)).toArray) (.int .i64 k)).run Go.Proofs.Tryz.prog w = .ok (.int .u8 (cs.getD k 0 : Nat)) w := by
  have h : k < cs.length := by omega
  have h' : ¬ 512 ≤ k := by omega
  simp [Instr.index, asIntOf, part, h, h']

/-- the loop within -/
def innerOf : Code → Option Code
  | .seq _ (.seq _ (.seq b _)) => loopOf b
  | _ => none

theorem bitsN_odd {C j : Nat} (hC : bitsN C j < 4294967296) (h : (((bitsN C j : Nat) : Int) % 2 == 1) = true) : bits .xor .u32 ((bitsN C j : Nat) / 2) 2197175160 = ((bitsN C (j + 1) : Nat) : Int) := by
  have h2 : bitsN C j % 2 = 1 := by have := beq_iff_eq.1 h; omega
  have e : bitsN C (j + 1) = (bitsN C j / 2) ^^^ 2197175160 := by
    show crcBit (bitsN C j) = _
    rw [crcBit_if, if_pos h2]
  rw [e]
  exact xor_u32 (a := bitsN C j / 2) (b := 2197175160) (by omega) (by decide)
theorem bitsN_even {C j : Nat} (h : (((bitsN C j : Nat) : Int) % 2 == 1) = false) : (((bitsN C j : Nat) : Int) / 2) = ((bitsN C (j + 1) : Nat) : Int) := by
  have h2 : ¬ bitsN C j % 2 = 1 := by have := beq_eq_false_iff_ne.1 h; omega
  have e : bitsN C (j + 1) = bitsN C j / 2 := by
    show crcBit (bitsN C j) = _
    rw [crcBit_if, if_neg h2]
  rw [e]
  exact (Int.natCast_ediv _ _).symm
theorem crcUp_in {cs : List Nat} {c0 k : Nat} (h : k < 28 ∨ 32 ≤ k) : bitsN (crcUp cs c0 k ^^^ cs.getD k 0) 8 = crcUp cs c0 (k + 1) := by
  show _ = crcAt _ _ _
  rw [crcAt_eq, if_pos h]
theorem crcUp_out {cs : List Nat} {c0 k : Nat} (h : ¬ (k < 28 ∨ 32 ≤ k)) : bitsN (crcUp cs c0 k) 8 = crcUp cs c0 (k + 1) := by
  show _ = crcAt _ _ _
  rw [crcAt_eq, if_neg h]

theorem sum_bits (C : Nat) (hC : C < 4294967296) (b0 b : Code) (hb0 : (Go.Proofs.Tryz.f121.body.bind loopOf) = some b0) (hb : innerOf b0 = some b) (l : List Value) (hl : l.length = 36) (D : List Deferred) (w : World)
    (h22 : l[22]? = some (.int .i64 0)) (h3 : l[3]? = some (.int .u32 (C : Nat))) (Q : Exit → Act → World → Prop)
    (hQ : ∀ l' : List Value, But [3, 6, 22, 23, 24, 25, 26, 27, 28, 29, 30, 31, 32] 0 l l' → l'[3]? = some (.int .u32 (bitsN C 8 : Nat)) → Q (.exit 2) { tmps := l'.toArray, defers := D } w) :
    (Code.loop b).wp Go.Proofs.Tryz.prog Q { tmps := l.toArray, defers := D } w := by
  obtain ⟨u0, l0, rfl, k0⟩ := uncons hl
  obtain ⟨u1, l1, rfl, k1⟩ := uncons k0
  obtain ⟨u2, l2, rfl, k2⟩ := uncons k1
  obtain ⟨u3, l3, rfl, k3⟩ := uncons k2
  obtain ⟨u4, l4, rfl, k4⟩ := uncons k3
  obtain ⟨u5, l5, rfl, k5⟩ := uncons k4
  obtain ⟨u6, l6, rfl, k6⟩ := uncons k5
  obtain ⟨u7, l7, rfl, k7⟩ := uncons k6
  obtain ⟨u8, l8, rfl, k8⟩ := uncons k7
  obtain ⟨u9, l9, rfl, k9⟩ := uncons k8
  obtain ⟨u10, l10, rfl, k10⟩ := uncons k9
  obtain ⟨u11, l11, rfl, k11⟩ := uncons k10
  obtain ⟨u12, l12, rfl, k12⟩ := uncons k11
  obtain ⟨u13, l13, rfl, k13⟩ := uncons k12
  obtain ⟨u14, l14, rfl, k14⟩ := uncons k13
  obtain ⟨u15, l15, rfl, k15⟩ := uncons k14
  obtain ⟨u16, l16, rfl, k16⟩ := uncons k15
  obtain ⟨u17, l17, rfl, k17⟩ := uncons k16
  obtain ⟨u18, l18, rfl, k18⟩ := uncons k17
  obtain ⟨u19, l19, rfl, k19⟩ := uncons k18
  obtain ⟨u20, l20, rfl, k20⟩ := uncons k19
  obtain ⟨u21, l21, rfl, k21⟩ := uncons k20
  obtain ⟨u22, l22, rfl, k22⟩ := uncons k21
  obtain ⟨u23, l23, rfl, k23⟩ := uncons k22
  obtain ⟨u24, l24, rfl, k24⟩ := uncons k23
  obtain ⟨u25, l25, rfl, k25⟩ := uncons k24
  obtain ⟨u26, l26, rfl, k26⟩ := uncons k25
  obtain ⟨u27, l27, rfl, k27⟩ := uncons k26
  obtain ⟨u28, l28, rfl, k28⟩ := uncons k27
  obtain ⟨u29, l29, rfl, k29⟩ := uncons k28
  obtain ⟨u30, l30, rfl, k30⟩ := uncons k29
  obtain ⟨u31, l31, rfl, k31⟩ := uncons k30
  obtain ⟨u32, l32, rfl, k32⟩ := uncons k31
  obtain ⟨u33, l33, rfl, k33⟩ := uncons k32
  obtain ⟨u34, l34, rfl, k34⟩ := uncons k33
  obtain ⟨u35, l35, rfl, k35⟩ := uncons k34
  have hnil := List.length_eq_zero_iff.1 k35
  subst hnil
  clear hl k0 k1 k2 k3 k4 k5 k6 k7 k8 k9 k10 k11 k12 k13 k14 k15 k16 k17 k18 k19 k20 k21 k22 k23 k24 k25 k26 k27 k28 k29 k30 k31 k32 k33 k34 k35
  replace h22 := Option.some.inj (show some u22 = some _ from h22)
  replace h3 := Option.some.inj (show some u3 = some _ from h3)
  subst h22 h3
  simp only [Go.Proofs.Tryz.f121, Option.bind_some, loopOf, Option.some.injEq] at hb0
  subst hb0
  simp only [innerOf, loopOf, Option.some.injEq] at hb
  subst hb
  go_loop [3, 22] (fun c i => ∃ j : Nat, j ≤ 8 ∧ i = .int .i64 j ∧ c = .int .u32 (bitsN C j : Nat)) (fun _ i => 8 - (match i with | .int _ q => q | _ => 0).toNat)
  case atStart => exact ⟨0, by omega, rfl, rfl⟩
  case round =>
    obtain ⟨j, hj, rfl, rfl⟩ := hrel
    have hlt := bitsN_lt hC j
    have hand := and_u32 hlt
    go_wp2
    · rename_i h1 h2
      exact ⟨⟨j + 1, by omega, rfl, by rw [bitsN_odd hlt h2]⟩, by simp only; omega⟩
    · rename_i h1 h2
      exact ⟨⟨j + 1, by omega, rfl, by rw [bitsN_even h2]⟩, by simp only; omega⟩
    · rename_i h1 _
      have e : j = 8 := by omega
      subst e
      refine hQ _ ?_ rfl
      repeat first | exact But.nil | refine But.keep ?_ | refine But.new (by decide) ?_

theorem sum_body (cs : List Nat) (hcs : cs.length = 512) (hbs : ∀ b ∈ cs, b < 256) (c0 : Nat) (hc0 : c0 < 4294967296) (b : Code) (hb : (Go.Proofs.Tryz.f121.body.bind loopOf) = some b) (l : List Value) (hl : l.length = 36) (D : List Deferred) (w : World)
    (h7 : l[7]? = some (.agg (cs.map fun n => Value.int .u8 (n : Nat)).toArray)) (h8 : l[8]? = some (.int .i64 0)) (h3 : l[3]? = some (.int .u32 (c0 : Nat))) (Q : Exit → Act → World → Prop)
    (hQ : ∀ l' : List Value, But [3, 4, 5, 6, 8, 9, 10, 11, 12, 13, 14, 15, 16, 17, 18, 19, 20, 21, 22, 23, 24, 25, 26, 27, 28, 29, 30, 31, 32, 33] 0 l l' → l'[3]? = some (.int .u32 (crcUp cs c0 512 : Nat)) → Q (.exit 0) { tmps := l'.toArray, defers := D } w) :
    (Code.loop b).wp Go.Proofs.Tryz.prog Q { tmps := l.toArray, defers := D } w := by
  obtain ⟨u0, l0, rfl, k0⟩ := uncons hl
  obtain ⟨u1, l1, rfl, k1⟩ := uncons k0
  obtain ⟨u2, l2, rfl, k2⟩ := uncons k1
  obtain ⟨u3, l3, rfl, k3⟩ := uncons k2
  obtain ⟨u4, l4, rfl, k4⟩ := uncons k3
  obtain ⟨u5, l5, rfl, k5⟩ := uncons k4
  obtain ⟨u6, l6, rfl, k6⟩ := uncons k5
  obtain ⟨u7, l7, rfl, k7⟩ := uncons k6
  obtain ⟨u8, l8, rfl, k8⟩ := uncons k7
  obtain ⟨u9, l9, rfl, k9⟩ := uncons k8
  obtain ⟨u10, l10, rfl, k10⟩ := uncons k9
  obtain ⟨u11, l11, rfl, k11⟩ := uncons k10
  obtain ⟨u12, l12, rfl, k12⟩ := uncons k11
  obtain ⟨u13, l13, rfl, k13⟩ := uncons k12
  obtain ⟨u14, l14, rfl, k14⟩ := uncons k13
  obtain ⟨u15, l15, rfl, k15⟩ := uncons k14
  obtain ⟨u16, l16, rfl, k16⟩ := uncons k15
  obtain ⟨u17, l17, rfl, k17⟩ := uncons k16
  obtain ⟨u18, l18, rfl, k18⟩ := uncons k17
  obtain ⟨u19, l19, rfl, k19⟩ := uncons k18
  obtain ⟨u20, l20, rfl, k20⟩ := uncons k19
  obtain ⟨u21, l21, rfl, k21⟩ := uncons k20
  obtain ⟨u22, l22, rfl, k22⟩ := uncons k21
  obtain ⟨u23, l23, rfl, k23⟩ := uncons k22
  obtain ⟨u24, l24, rfl, k24⟩ := uncons k23
  obtain ⟨u25, l25, rfl, k25⟩ := uncons k24
  obtain ⟨u26, l26, rfl, k26⟩ := uncons k25
  obtain ⟨u27, l27, rfl, k27⟩ := uncons k26
  obtain ⟨u28, l28, rfl, k28⟩ := uncons k27
  obtain ⟨u29, l29, rfl, k29⟩ := uncons k28
  obtain ⟨u30, l30, rfl, k30⟩ := uncons k29
  obtain ⟨u31, l31, rfl, k31⟩ := uncons k30
  obtain ⟨u32, l32, rfl, k32⟩ := uncons k31
  obtain ⟨u33, l33, rfl, k33⟩ := uncons k32
  obtain ⟨u34, l34, rfl, k34⟩ := uncons k33
  obtain ⟨u35, l35, rfl, k35⟩ := uncons k34
  have hnil := List.length_eq_zero_iff.1 k35
  subst hnil
  clear hl k0 k1 k2 k3 k4 k5 k6 k7 k8 k9 k10 k11 k12 k13 k14 k15 k16 k17 k18 k19 k20 k21 k22 k23 k24 k25 k26 k27 k28 k29 k30 k31 k32 k33 k34 k35
  replace h7 := Option.some.inj (show some u7 = some _ from h7)
  replace h8 := Option.some.inj (show some u8 = some _ from h8)
  replace h3 := Option.some.inj (show some u3 = some _ from h3)
  subst h7 h8 h3
  simp only [Go.Proofs.Tryz.f121, Option.bind_some, loopOf, Option.some.injEq] at hb
  subst hb
  go_loop [3, 8] (fun c i => ∃ k : Nat, k ≤ 512 ∧ i = .int .i64 k ∧ c = .int .u32 (crcUp cs c0 k : Nat)) (fun _ i => 512 - (match i with | .int _ q => q | _ => 0).toNat)
  case atStart => exact ⟨0, by omega, rfl, rfl⟩
  case round =>
    obtain ⟨k, hk, rfl, rfl⟩ := hrel
    have hix := fun (h : (k : Int) < 512) => run_index71 hcs h
    have hck := crcUp_lt hbs hc0 k
    have hbk : cs.getD k 0 < 256 := by
      rw [List.getD_eq_getElem?_getD]
      cases hk : cs[k]? with
      | none => simp
      | some b => exact hbs b (List.mem_of_getElem? hk)
    have hmod : ((cs.getD k 0 : Nat) : Int) % 4294967296 = (cs.getD k 0 : Nat) := by omega
    have hxor := xor_u32 hck (Nat.lt_trans hbk (by decide : 256 < 4294967296))
    generalize hbg : cs.getD k 0 = bk at *
    generalize hcg : crcUp cs c0 k = ck at *
    go_wp2
    · rename_i hways
      refine sum_bits (ck ^^^ bk) (Nat.xor_lt_two_pow (n := 32) hck (Nat.lt_trans hbk (by decide))) _ _ rfl rfl _ rfl D w rfl rfl _ fun l' hb0 h3' => ?_
      obtain ⟨r0, rfl, hb1⟩ := hb0.same (by decide)
      obtain ⟨r1, rfl, hb2⟩ := hb1.same (by decide)
      obtain ⟨r2, rfl, hb3⟩ := hb2.same (by decide)
      obtain ⟨v3, r3, rfl, hb4⟩ := hb3.next
      obtain ⟨r4, rfl, hb5⟩ := hb4.same (by decide)
      obtain ⟨r5, rfl, hb6⟩ := hb5.same (by decide)
      obtain ⟨v6, r6, rfl, hb7⟩ := hb6.next
      obtain ⟨r7, rfl, hb8⟩ := hb7.same (by decide)
      obtain ⟨r8, rfl, hb9⟩ := hb8.same (by decide)
      obtain ⟨r9, rfl, hb10⟩ := hb9.same (by decide)
      obtain ⟨r10, rfl, hb11⟩ := hb10.same (by decide)
      obtain ⟨r11, rfl, hb12⟩ := hb11.same (by decide)
      obtain ⟨r12, rfl, hb13⟩ := hb12.same (by decide)
      obtain ⟨r13, rfl, hb14⟩ := hb13.same (by decide)
      obtain ⟨r14, rfl, hb15⟩ := hb14.same (by decide)
      obtain ⟨r15, rfl, hb16⟩ := hb15.same (by decide)
      obtain ⟨r16, rfl, hb17⟩ := hb16.same (by decide)
      obtain ⟨r17, rfl, hb18⟩ := hb17.same (by decide)
      obtain ⟨r18, rfl, hb19⟩ := hb18.same (by decide)
      obtain ⟨r19, rfl, hb20⟩ := hb19.same (by decide)
      obtain ⟨r20, rfl, hb21⟩ := hb20.same (by decide)
      obtain ⟨r21, rfl, hb22⟩ := hb21.same (by decide)
      obtain ⟨v22, r22, rfl, hb23⟩ := hb22.next
      obtain ⟨v23, r23, rfl, hb24⟩ := hb23.next
      obtain ⟨v24, r24, rfl, hb25⟩ := hb24.next
      obtain ⟨v25, r25, rfl, hb26⟩ := hb25.next
      obtain ⟨v26, r26, rfl, hb27⟩ := hb26.next
      obtain ⟨v27, r27, rfl, hb28⟩ := hb27.next
      obtain ⟨v28, r28, rfl, hb29⟩ := hb28.next
      obtain ⟨v29, r29, rfl, hb30⟩ := hb29.next
      obtain ⟨v30, r30, rfl, hb31⟩ := hb30.next
      obtain ⟨v31, r31, rfl, hb32⟩ := hb31.next
      obtain ⟨v32, r32, rfl, hb33⟩ := hb32.next
      obtain ⟨r33, rfl, hb34⟩ := hb33.same (by decide)
      obtain ⟨r34, rfl, hb35⟩ := hb34.same (by decide)
      obtain ⟨r35, rfl, hb36⟩ := hb35.same (by decide)
      have hnil : r35 = [] := hb36
      subst hnil
      clear hb0 hb1 hb2 hb3 hb4 hb5 hb6 hb7 hb8 hb9 hb10 hb11 hb12 hb13 hb14 hb15 hb16 hb17 hb18 hb19 hb20 hb21 hb22 hb23 hb24 hb25 hb26 hb27 hb28 hb29 hb30 hb31 hb32 hb33 hb34 hb35 hb36
      replace h3' := Option.some.inj (show some v3 = some _ from h3')
      subst h3'
      go_wp2
      exact ⟨⟨k + 1, by omega, rfl, by rw [← crcUp_in (cs := cs) (c0 := c0) (k := k) (by omega), hcg, hbg]⟩, by simp only; omega⟩
    · rename_i hways
      refine sum_bits (ck) hck _ _ rfl rfl _ rfl D w rfl rfl _ fun l' hb0 h3' => ?_
      obtain ⟨r0, rfl, hb1⟩ := hb0.same (by decide)
      obtain ⟨r1, rfl, hb2⟩ := hb1.same (by decide)
      obtain ⟨r2, rfl, hb3⟩ := hb2.same (by decide)
      obtain ⟨v3, r3, rfl, hb4⟩ := hb3.next
      obtain ⟨r4, rfl, hb5⟩ := hb4.same (by decide)
      obtain ⟨r5, rfl, hb6⟩ := hb5.same (by decide)
      obtain ⟨v6, r6, rfl, hb7⟩ := hb6.next
      obtain ⟨r7, rfl, hb8⟩ := hb7.same (by decide)
      obtain ⟨r8, rfl, hb9⟩ := hb8.same (by decide)
      obtain ⟨r9, rfl, hb10⟩ := hb9.same (by decide)
      obtain ⟨r10, rfl, hb11⟩ := hb10.same (by decide)
      obtain ⟨r11, rfl, hb12⟩ := hb11.same (by decide)
      obtain ⟨r12, rfl, hb13⟩ := hb12.same (by decide)
      obtain ⟨r13, rfl, hb14⟩ := hb13.same (by decide)
      obtain ⟨r14, rfl, hb15⟩ := hb14.same (by decide)
      obtain ⟨r15, rfl, hb16⟩ := hb15.same (by decide)
      obtain ⟨r16, rfl, hb17⟩ := hb16.same (by decide)
      obtain ⟨r17, rfl, hb18⟩ := hb17.same (by decide)
      obtain ⟨r18, rfl, hb19⟩ := hb18.same (by decide)
      obtain ⟨r19, rfl, hb20⟩ := hb19.same (by decide)
      obtain ⟨r20, rfl, hb21⟩ := hb20.same (by decide)
      obtain ⟨r21, rfl, hb22⟩ := hb21.same (by decide)
      obtain ⟨v22, r22, rfl, hb23⟩ := hb22.next
      obtain ⟨v23, r23, rfl, hb24⟩ := hb23.next
      obtain ⟨v24, r24, rfl, hb25⟩ := hb24.next
      obtain ⟨v25, r25, rfl, hb26⟩ := hb25.next
      obtain ⟨v26, r26, rfl, hb27⟩ := hb26.next
      obtain ⟨v27, r27, rfl, hb28⟩ := hb27.next
      obtain ⟨v28, r28, rfl, hb29⟩ := hb28.next
      obtain ⟨v29, r29, rfl, hb30⟩ := hb29.next
      obtain ⟨v30, r30, rfl, hb31⟩ := hb30.next
      obtain ⟨v31, r31, rfl, hb32⟩ := hb31.next
      obtain ⟨v32, r32, rfl, hb33⟩ := hb32.next
      obtain ⟨r33, rfl, hb34⟩ := hb33.same (by decide)
      obtain ⟨r34, rfl, hb35⟩ := hb34.same (by decide)
      obtain ⟨r35, rfl, hb36⟩ := hb35.same (by decide)
      have hnil : r35 = [] := hb36
      subst hnil
      clear hb0 hb1 hb2 hb3 hb4 hb5 hb6 hb7 hb8 hb9 hb10 hb11 hb12 hb13 hb14 hb15 hb16 hb17 hb18 hb19 hb20 hb21 hb22 hb23 hb24 hb25 hb26 hb27 hb28 hb29 hb30 hb31 hb32 hb33 hb34 hb35 hb36
      replace h3' := Option.some.inj (show some v3 = some _ from h3')
      subst h3'
      go_wp2
      exact ⟨⟨k + 1, by omega, rfl, by rw [← crcUp_out (cs := cs) (c0 := c0) (k := k) (by omega), hcg]⟩, by simp only; omega⟩
    · rename_i hways
      refine sum_bits (ck ^^^ bk) (Nat.xor_lt_two_pow (n := 32) hck (Nat.lt_trans hbk (by decide))) _ _ rfl rfl _ rfl D w rfl rfl _ fun l' hb0 h3' => ?_
      obtain ⟨r0, rfl, hb1⟩ := hb0.same (by decide)
      obtain ⟨r1, rfl, hb2⟩ := hb1.same (by decide)
      obtain ⟨r2, rfl, hb3⟩ := hb2.same (by decide)
      obtain ⟨v3, r3, rfl, hb4⟩ := hb3.next
      obtain ⟨r4, rfl, hb5⟩ := hb4.same (by decide)
      obtain ⟨r5, rfl, hb6⟩ := hb5.same (by decide)
      obtain ⟨v6, r6, rfl, hb7⟩ := hb6.next
      obtain ⟨r7, rfl, hb8⟩ := hb7.same (by decide)
      obtain ⟨r8, rfl, hb9⟩ := hb8.same (by decide)
      obtain ⟨r9, rfl, hb10⟩ := hb9.same (by decide)
      obtain ⟨r10, rfl, hb11⟩ := hb10.same (by decide)
      obtain ⟨r11, rfl, hb12⟩ := hb11.same (by decide)
      obtain ⟨r12, rfl, hb13⟩ := hb12.same (by decide)
      obtain ⟨r13, rfl, hb14⟩ := hb13.same (by decide)
      obtain ⟨r14, rfl, hb15⟩ := hb14.same (by decide)
      obtain ⟨r15, rfl, hb16⟩ := hb15.same (by decide)
      obtain ⟨r16, rfl, hb17⟩ := hb16.same (by decide)
      obtain ⟨r17, rfl, hb18⟩ := hb17.same (by decide)
      obtain ⟨r18, rfl, hb19⟩ := hb18.same (by decide)
      obtain ⟨r19, rfl, hb20⟩ := hb19.same (by decide)
      obtain ⟨r20, rfl, hb21⟩ := hb20.same (by decide)
      obtain ⟨r21, rfl, hb22⟩ := hb21.same (by decide)
      obtain ⟨v22, r22, rfl, hb23⟩ := hb22.next
      obtain ⟨v23, r23, rfl, hb24⟩ := hb23.next
      obtain ⟨v24, r24, rfl, hb25⟩ := hb24.next
      obtain ⟨v25, r25, rfl, hb26⟩ := hb25.next
      obtain ⟨v26, r26, rfl, hb27⟩ := hb26.next
      obtain ⟨v27, r27, rfl, hb28⟩ := hb27.next
      obtain ⟨v28, r28, rfl, hb29⟩ := hb28.next
      obtain ⟨v29, r29, rfl, hb30⟩ := hb29.next
      obtain ⟨v30, r30, rfl, hb31⟩ := hb30.next
      obtain ⟨v31, r31, rfl, hb32⟩ := hb31.next
      obtain ⟨v32, r32, rfl, hb33⟩ := hb32.next
      obtain ⟨r33, rfl, hb34⟩ := hb33.same (by decide)
      obtain ⟨r34, rfl, hb35⟩ := hb34.same (by decide)
      obtain ⟨r35, rfl, hb36⟩ := hb35.same (by decide)
      have hnil : r35 = [] := hb36
      subst hnil
      clear hb0 hb1 hb2 hb3 hb4 hb5 hb6 hb7 hb8 hb9 hb10 hb11 hb12 hb13 hb14 hb15 hb16 hb17 hb18 hb19 hb20 hb21 hb22 hb23 hb24 hb25 hb26 hb27 hb28 hb29 hb30 hb31 hb32 hb33 hb34 hb35 hb36
      replace h3' := Option.some.inj (show some v3 = some _ from h3')
      subst h3'
      go_wp2
      exact ⟨⟨k + 1, by omega, rfl, by rw [← crcUp_in (cs := cs) (c0 := c0) (k := k) (by omega), hcg, hbg]⟩, by simp only; omega⟩
    · rename_i h1 _
      have e : k = 512 := by omega
      subst e
      rw [← hcg] at *
      refine hQ _ ?_ rfl
      repeat first | exact But.nil | refine But.keep ?_ | refine But.new (by decide) ?_
end Go.AE

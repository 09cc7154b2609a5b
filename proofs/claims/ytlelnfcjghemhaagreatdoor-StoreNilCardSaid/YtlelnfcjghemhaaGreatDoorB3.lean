/- The loop of the check sum is what its stand-in says. -/
import Derived.Test.YtlelnfcjghemhaaGreatDoorB2
namespace Go.AE
open Go Go.RowKit
set_option maxRecDepth 100000

noncomputable def crcFold : List Nat → Nat → Nat → Nat
  | [], _, c => c
  | b :: l, i, c => crcFold l (i + 1) (crcAt b i c)
theorem crcFold_append : ∀ (l : List Nat) (l' : List Nat) (i c : Nat), crcFold (l ++ l') i c = crcFold l' (i + l.length) (crcFold l i c)
  | [], l', i, c => by simp [crcFold]
  | b :: l, l', i, c => by
    show crcFold (l ++ l') (i + 1) _ = _
    rw [crcFold_append l l', List.length_cons, show i + 1 + l.length = i + (l.length + 1) by omega]
    rfl
theorem crcFold_up {cs : List Nat} {c0 : Nat} : ∀ {k : Nat}, k ≤ cs.length → crcFold (cs.take k) 0 c0 = crcUp cs c0 k
  | 0, _ => by rw [List.take_zero]; rfl
  | k + 1, h => by
    have ih := crcFold_up (cs := cs) (c0 := c0) (k := k) (by omega)
    have hk : k < cs.length := by omega
    rw [List.take_succ_eq_append_getElem hk, crcFold_append, ih, List.length_take, Nat.min_eq_left (by omega), Nat.zero_add]
    show crcAt _ k _ = crcAt _ k _
    rw [List.getD_eq_getElem?_getD, List.getElem?_eq_getElem hk]
    rfl

theorem crcRep_eq (b : Nat) (k : Nat → Nat → Option Nat) : ∀ (n i c : Nat), crcRep b n i c k = k (i + n) (crcFold (List.replicate n b) i c)
  | 0, i, c => rfl
  | n + 1, i, c => by
    show fN (crcAt b i c) (fun c => fN (Nat.succ i) fun i => crcRep b n i c k) = _
    rw [fN_eq, fN_eq, crcRep_eq b k n, show Nat.succ i + n = i + (n + 1) by omega, List.replicate_succ]
    rfl

theorem crcRuns_cons {n : Nat} {v : V} {tl : Runs} {i c x : Nat} (h : crcRuns (.cons n v tl) i c = some x) : ∃ b, v = .nat .u8 b ∧ b < 256 ∧ crcRuns tl (i + n) (crcFold (List.replicate n b) i c) = some x := by
  replace h : onNat v (fun k b => bi (kEq k .u8) (bi (Nat.ble (Nat.succ b) 256) (crcRep b n i c (crcRuns tl)) none) none) = some x := h
  simp only [onNat_eq, bi_eq, ble_iff] at h
  obtain ⟨k, b, rfl, ⟨hk, ⟨hb, h1⟩ | ⟨_, h1⟩⟩ | ⟨_, h1⟩⟩ := h
  · have hk := kEq_eq hk
    subst hk
    rw [crcRep_eq] at h1
    exact ⟨b, rfl, hb, h1⟩
  · cases h1
  · cases h1

theorem crcRuns_ok {σ : Val} {x : Nat} : ∀ {r : V} {xs : List Value} {tl : Runs} {i c : Nat}, SR σ r xs → crcRuns (r.runs tl) i c = some x →
    ∃ ns : List Nat, xs = ns.map (fun n => Value.int .u8 (n : Nat)) ∧ (∀ b ∈ ns, b < 256) ∧ crcRuns tl (i + ns.length) (crcFold ns i c) = some x := by
  intro r
  have one : ∀ {v : V} {xs : List Value} {tl : Runs} {i c : Nat}, SR σ v xs → crcRuns (.cons 1 v tl) i c = some x →
      ∃ ns : List Nat, xs = ns.map (fun n => Value.int .u8 (n : Nat)) ∧ (∀ b ∈ ns, b < 256) ∧ crcRuns tl (i + ns.length) (crcFold ns i c) = some x := by
    intro v xs tl i c hv h
    obtain ⟨b, rfl, hb, h⟩ := crcRuns_cons h
    have hv : xs = [.int .u8 (b : Nat)] := hv
    exact ⟨[b], hv, by simpa using hb, h⟩
  induction r with
  | nil =>
    intro xs tl i c hr h
    have hr : xs = [] := hr
    exact ⟨[], hr, by simp, h⟩
  | rep n v ih =>
    intro xs tl i c hr h
    obtain ⟨y, _, hv, rfl⟩ := hr
    obtain ⟨b, rfl, hb, h⟩ := crcRuns_cons h
    have hv : [y] = [.int .u8 (b : Nat)] := hv
    cases hv
    refine ⟨List.replicate n b, by simp, fun b' hb' => ?_, by simpa using h⟩
    rw [List.eq_of_mem_replicate hb']; exact hb
  | cat nl n l r ihl ihr =>
    intro xs tl i c hr h
    obtain ⟨a, b, ha, hb, _, _, rfl⟩ := hr
    obtain ⟨ns, rfl, h1, h2⟩ := ihl ha h
    obtain ⟨ms, rfl, h3, h4⟩ := ihr hb h2
    refine ⟨ns ++ ms, by simp, fun b hb => (List.mem_append.1 hb).elim (h1 b) (h3 b), ?_⟩
    rw [crcFold_append, List.length_append, ← Nat.add_assoc]; exact h4
  | _ => intro xs tl i c hr h; exact one hr h

theorem rsOf_eq {fn rid x x' : Nat} {g : T → V → T} {t t' : T} {y : Option VH} {h' : HS} (h : rsOf fn rid x g t y = .ok x' t' h') : ∃ v, y = some ⟨v, h'⟩ ∧ x' = x ∧ t' = g t v := by
  cases y with
  | none => cases h
  | some vh => obtain ⟨v, h1⟩ := vh; cases h; exact ⟨v, rfl, rfl, rfl⟩

theorem lovSum_ok {B : Nat} {w0 : World} {b : Code} (hb : (Go.Proofs.Tryz.f121.body.bind loopOf) = some b) : CodeOK Go.Proofs.Tryz.prog B w0 36 lovSum (.loop b) := by
  have inv : ∀ {t t' : T} {h h' : HS} {x : Nat}, lovSum t h = .ok x t' h' → ∃ c r n, tg 8 t = some (.nat .i64 0) ∧ tg 3 t = some (.nat .u32 c) ∧ c < 4294967296 ∧ tg 7 t = some (.agg r) ∧ crcRuns (r.runs .nil) 0 c = some n ∧
      x = 2 ∧ h' = h ∧ t' = (setC (some 3)).out ((clrC [4, 5, 6, 8, 9, 10, 11, 12, 13, 14, 15, 16, 17, 18, 19, 20, 21, 22, 23, 24, 25, 26, 27, 28, 29, 30, 31, 32, 33]).out t) (.nat .u32 n) := by
    intro t t' h h' x hr
    unfold lovSum at hr
    rw [KF.app_eq, KF.app_eq] at hr
    obtain ⟨v, hy, rfl, rfl⟩ := rsOf_eq hr
    simp only [ob_eq, onNat_eq, bi_eq, onAgg_eq, beq_iff, ble_iff] at hy
    obtain ⟨v8, h8, k, i, rfl, ⟨hk, ⟨rfl, v3, h3, k3, c, rfl, ⟨hk3, ⟨hc, v7, h7, r, rfl, n, hn, e⟩ | ⟨_, e⟩⟩ | ⟨_, e⟩⟩ | ⟨_, e⟩⟩ | ⟨_, e⟩⟩ := hy <;> cases e
    have hk := kEq_eq hk
    have hk3 := kEq_eq hk3
    subst hk hk3
    exact ⟨c, r, n, h8, h3, hc, h7, hn, rfl, rfl, rfl⟩
  refine ⟨fun {D σ t t' a h h' w x} ht hd hr hu hrun => ?_, fun {t t' h h' x} hrun => ?_⟩
  · obtain ⟨c, r, n, h8, h3, hc, h7, hn, rfl, rfl, rfl⟩ := inv hrun
    obtain ⟨⟨l⟩, ds⟩ := a
    have hd : ds = D := hd
    subst hd
    have hl : l.length = 36 := by have := ht.size; simpa using this
    have get : ∀ {m : Nat} {v : Value}, m < 36 → l[m]?.getD undef = v → l[m]? = some v := by
      intro m v hm e
      rw [List.getElem?_eq_getElem (by omega)] at e ⊢
      exact congrArg some e
    have u8 := get (by decide) (VR_nat (TR.at ht (by decide) h8))
    have u3 := get (by decide) (VR_nat (TR.at ht (by decide) h3))
    obtain ⟨cs, hsr, _, e7⟩ := VR_agg (TR.at ht (by decide) h7)
    have u7 := get (by decide) e7
    obtain ⟨ns, rfl, hb2, h4⟩ := crcRuns_ok hsr hn
    have h4 : bi (Nat.beq (0 + ns.length) 512) (some (crcFold ns 0 c)) none = some n := h4
    simp only [bi_eq, beq_iff, Nat.zero_add] at h4
    obtain ⟨h512, e⟩ | ⟨_, e⟩ := h4 <;> cases e
    have hup := crcFold_up (cs := ns) (c0 := c) (k := 512) (by omega)
    rw [List.take_of_length_le (by omega)] at hup
    refine sum_body ns h512 hb2 c hc b hb l hl ds w u7 u8 u3 _ fun l' hbut hl3 => ?_
    have hbl := hbut
    have hlen : l'.length = l.length := But.length hbut
    refine ⟨σ, rfl, ?_, rfl, St.refl hr⟩
    rw [hup]
    have hclr : TR σ 36 ((clrC [3, 4, 5, 6, 8, 9, 10, 11, 12, 13, 14, 15, 16, 17, 18, 19, 20, 21, 22, 23, 24, 25, 26, 27, 28, 29, 30, 31, 32, 33]).out t) { tmps := l'.toArray, defers := ds } := TR.clr ht (by decide) hbut hlen
    refine ⟨hclr.size, fun m v hm hv => ?_⟩
    rw [setC_at (nt := 36) (by decide) (by decide) hm] at hv
    split at hv
    · rename_i e3
      cases e3
      cases hv
      refine ⟨by decide, ?_⟩
      have : ({ tmps := l'.toArray, defers := ds } : Act).tmps.getD 3 undef = .int .u32 (crcUp ns c 512 : Nat) := by simp [hl3]
      rw [this]; exact VR.nat
    · rename_i hne
      refine hclr.tmp m v hm ?_
      rw [clrC_at hm (by decide)] at hv ⊢
      by_cases hm3 : m = 3
      · subst hm3; exact absurd rfl hne
      · rw [← hv]
        congr 1
        simp [hm3]
  · obtain ⟨_, _, _, _, _, _, _, _, _, rfl, _⟩ := inv hrun
    exact Nat.le_refl _
end Go.AE

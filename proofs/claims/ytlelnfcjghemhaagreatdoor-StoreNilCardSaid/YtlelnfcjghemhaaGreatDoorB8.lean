/- A range over a function that never calls back. -/
import Derived.Test.YtlelnfcjghemhaaGreatDoorB1
import Derived.RangeFuncLeaves
import Derived.RangeFuncOwn
namespace Go.AE
open Go Go.RowKit

variable {P : Program} {E : Env} {B : Nat} {w0 : World}

/-- a block that is none of ours is changed -/
theorem St.other {σ σ' : Val} {h h' : Nat → Option Blk} {c c' : Nat} {w w' w2 : World} {l : Nat} (s : St P B w0 σ h c w σ' h' c' w') (hl : w.heap.size ≤ l) (hB : B ≤ l) (hnf : ∀ id, h' id ≠ none → σ'.blk id ≠ some l)
    (hsz : w2.heap.size = w'.heap.size) (hsame : ∀ m, m ≠ l → w2.heap[m]? = w'.heap[m]?) (hos : w2.os = w'.os) (htp : w2.tape = w'.tape) (hou : w2.output = w'.output) : St P B w0 σ h c w σ' h' c' w2 := by
  refine ⟨s.ext, ⟨fun id b n h1 h2 => ?_, s.rel.inj, s.rel.dom, s.rel.own, ⟨hos.trans s.rel.keep.os, htp.trans s.rel.keep.tape, hou.trans s.rel.keep.output, by rw [hsz]; exact s.rel.keep.size, fun k hk => ?_⟩, by rw [hsz]; exact s.rel.base⟩, s.le, by rw [hsz]; exact s.size,
    fun b hb hf => ?_, s.foot, s.virt⟩
  · have hne : n ≠ l := fun e => hnf id (by rw [h1]; simp) (by rw [← e]; exact h2)
    rw [hsame n hne]
    exact s.rel.blk id b n h1 h2
  · rw [hsame k (by omega)]
    exact s.rel.keep.block k hk
  · rw [hsame b (by omega)]
    exact s.frame b hb hf

def markOf (r : Nat) : Deferred := { target := .collected r, args := #[] }
/-- the deferred calls are marks of ranges over functions, and nothing is behind them -/
structure Marks (N : Nat) (ds : List Deferred) (σ : Val) (h : Nat → Option Blk) (w : World) (rs : List Nat) : Prop where
  eq : ds = rs.map markOf
  nodup : rs.Nodup
  low : ∀ r ∈ rs, N ≤ r
  here : ∀ r ∈ rs, w.heap[r]? = some (.deferred (some []))
  apart : ∀ r ∈ rs, ∀ id, h id ≠ none → σ.blk id ≠ some r

theorem Marks.after {N : Nat} {ds : List Deferred} {σ σ' : Val} {h h' : Nat → Option Blk} {c c' : Nat} {w w' : World} {rs : List Nat} (m : Marks N ds σ h w rs) (s : St P B w0 σ h c w σ' h' c' w') : Marks N ds σ' h' w' rs := by
  have hlt : ∀ r ∈ rs, r < w.heap.size := fun r hr => (Array.getElem?_eq_some_iff.1 (m.here r hr)).1
  refine ⟨m.eq, m.nodup, m.low, fun r hr => ?_, fun r hr id h1 h2 => ?_⟩
  · rw [s.frame r (hlt r hr) (fun id h1 => m.apart r hr id h1)]
    exact m.here r hr
  · obtain ⟨id0, h3, h4⟩ := s.foot id r h1 h2 (hlt r hr)
    exact m.apart r hr id0 h3 h4

def PostR (P : Program) (B : Nat) (w0 : World) (nt N : Nat) (σ : Val) (h : HS) (w : World) (x : Nat) (t' : T) (h' : HS) (e : Exit) (a' : Act) (w' : World) : Prop :=
  ∃ σ' rs, exitN e x ∧ TR σ' nt t' a' ∧ Marks N a'.defers σ' h'.fn w' rs ∧ St P B w0 σ h.fn h.c w σ' h'.fn h'.c w'

structure CodeR (P : Program) (B : Nat) (w0 : World) (nt N : Nat) (g : T → HS → Rs) (c : Code) : Prop where
  sound : ∀ {σ : Val} {t t' : T} {a : Act} {h h' : HS} {w : World} {x : Nat} {rs : List Nat}, N ≤ w.heap.size → TR σ nt t a → Marks N a.defers σ h.fn w rs → HRel P B w0 σ h.fn w → Und σ h.c h'.c → g t h = .ok x t' h' → c.wp P (PostR P B w0 nt N σ h w x t' h') a w
  mono : ∀ {t t' : T} {h h' : HS} {x : Nat}, g t h = .ok x t' h' → h.c ≤ h'.c

theorem CodeOK.toR {nt N : Nat} {g : T → HS → Rs} {c : Code} (hg : CodeOK P B w0 nt g c) : CodeR P B w0 nt N g c :=
  ⟨fun {σ t t' a h h' w x rs} _ ht hm hr hu hrun => Code.wp_mono (fun e a' w' ⟨σ', h1, h2, h3, h4⟩ => ⟨σ', rs, h1, h2, by rw [h3]; exact hm.after h4, h4⟩) (hg.sound ht rfl hr hu hrun), hg.mono⟩

theorem PostR.trans {nt N : Nat} {σ σ1 : Val} {h h1 h' : HS} {w w1 : World} {x : Nat} {t' : T} {e : Exit} {a' : Act} {w' : World} (hs : St P B w0 σ h.fn h.c w σ1 h1.fn h1.c w1) (hp : PostR P B w0 nt N σ1 h1 w1 x t' h' e a' w') :
    PostR P B w0 nt N σ h w x t' h' e a' w' := by
  obtain ⟨σ', rs, h1, h2, h3, h4⟩ := hp
  exact ⟨σ', rs, h1, h2, h3, hs.trans h4⟩

theorem CodeR.seq {nt N : Nat} {g k : T → HS → Rs} {c d : Code} (hg : CodeR P B w0 nt N g c) (hk : CodeR P B w0 nt N k d) :
    CodeR P B w0 nt N (fun t h => Rs.rec (motive := fun _ => Rs) (fun x t h => bi (Nat.beq x 0) (k t h) (.ok x t h)) (fun a b c => .bad a b c) (g t h)) (.seq c d) := by
  have inv : ∀ {t t' : T} {h h' : HS} {x : Nat}, Rs.rec (motive := fun _ => Rs) (fun x t h => bi (Nat.beq x 0) (k t h) (.ok x t h)) (fun a b c => .bad a b c) (g t h) = .ok x t' h' →
      ∃ x1 t1 h1, g t h = .ok x1 t1 h1 ∧ ((x1 = 0 ∧ k t1 h1 = .ok x t' h') ∨ (x1 ≠ 0 ∧ x1 = x ∧ t1 = t' ∧ h1 = h')) := by
    intro t t' h h' x hr
    cases hgt : g t h with
    | bad a b c => rw [hgt] at hr; cases hr
    | ok x1 t1 h1 =>
      rw [hgt] at hr
      have hr : bi (Nat.beq x1 0) (k t1 h1) (.ok x1 t1 h1) = .ok x t' h' := hr
      rw [bi_if] at hr
      split at hr
      · rename_i h0; exact ⟨x1, t1, h1, rfl, .inl ⟨beq_iff.1 h0, hr⟩⟩
      · rename_i h0; cases hr; exact ⟨_, _, _, rfl, .inr ⟨fun e => h0 (beq_iff.2 e), rfl, rfl, rfl⟩⟩
  refine ⟨fun {σ t t' a h h' w x rs} hN ht hm hr hu hrun => ?_, fun {t t' h h' x} hrun => ?_⟩
  · obtain ⟨x1, t1, h1, hgt, ⟨rfl, hkt⟩ | ⟨hne, rfl, rfl, rfl⟩⟩ := inv hrun
    · have m2 := hk.mono hkt
      refine wp_seq (Code.wp_mono ?_ (hg.sound hN ht hm hr (hu.sub (Nat.le_refl _) m2) hgt))
      rintro e a1 w1 ⟨σ1, rs1, he, ht1, hm1, hs1⟩
      cases e <;> simp only [exitN] at he
      case normal =>
        exact Code.wp_mono (fun e a' w' hp => PostR.trans hs1 hp) (hk.sound (Nat.le_trans hN hs1.size) ht1 hm1 hs1.rel (hu.after hs1.ext hs1.le) hkt)
      all_goals first | exact he.elim | omega
    · refine wp_seq (Code.wp_mono ?_ (hg.sound hN ht hm hr hu hgt))
      rintro e a1 w1 hp
      have he := hp
      obtain ⟨σ1, rs1, he, _⟩ := he
      cases e with
      | normal => exact absurd he hne
      | _ => exact hp
  · obtain ⟨x1, t1, h1, hgt, ⟨rfl, hkt⟩ | ⟨hne, rfl, rfl, rfl⟩⟩ := inv hrun
    · exact Nat.le_trans (hg.mono hgt) (hk.mono hkt)
    · exact hg.mono hgt
end Go.AE

namespace Go.AE
open Go Go.RowKit

variable {P : Program} {E : Env} {B : Nat} {w0 : World}

theorem CodeR.block {nt N id : Nat} {g : T → HS → Rs} {c : Code} (hg : CodeR P B w0 nt N g c) :
    CodeR P B w0 nt N (fun t h => Rs.rec (motive := fun _ => Rs) (fun x t h => bi (Nat.beq x (id + 2)) (.ok 0 t h) (.ok x t h)) (fun a b c => .bad a b c) (g t h)) (.block id c) := by
  have inv : ∀ {t t' : T} {h h' : HS} {x : Nat}, Rs.rec (motive := fun _ => Rs) (fun x t h => bi (Nat.beq x (id + 2)) (.ok 0 t h) (.ok x t h)) (fun a b c => .bad a b c) (g t h) = .ok x t' h' →
      ∃ x1, g t h = .ok x1 t' h' ∧ ((x1 = id + 2 ∧ x = 0) ∨ (x1 ≠ id + 2 ∧ x1 = x)) := by
    intro t t' h h' x hr
    cases hgt : g t h with
    | bad a b c => rw [hgt] at hr; cases hr
    | ok x1 t1 h1 =>
      rw [hgt] at hr
      have hr : bi (Nat.beq x1 (id + 2)) (Rs.ok 0 t1 h1) (.ok x1 t1 h1) = .ok x t' h' := hr
      rw [bi_if] at hr
      split at hr <;> rename_i h0 <;> cases hr
      · exact ⟨x1, rfl, .inl ⟨beq_iff.1 h0, rfl⟩⟩
      · exact ⟨_, rfl, .inr ⟨fun e => h0 (beq_iff.2 e), rfl⟩⟩
  refine ⟨fun {σ t t' a h h' w x rs} hN ht hd hr hu hrun => ?_, fun {t t' h h' x} hrun => ?_⟩
  · obtain ⟨x1, hgt, hx⟩ := inv hrun
    refine wp_block (Code.wp_mono ?_ (hg.sound hN ht hd hr hu hgt))
    rintro e a1 w1 ⟨σ1, rs1, he, hrest⟩
    rcases hx with ⟨rfl, rfl⟩ | ⟨hne, rfl⟩
    · cases e <;> simp only [exitN] at he
      case exit id' =>
        have : id' = id := by omega
        subst this
        simp only [Exit.inBlock, if_true]
        exact ⟨σ1, rs1, rfl, hrest⟩
      all_goals first | exact he.elim | omega
    · cases e <;> simp only [exitN] at he
      case exit id' =>
        have : id' ≠ id := by omega
        simp only [Exit.inBlock, if_neg this]
        exact ⟨σ1, rs1, he, hrest⟩
      case normal => exact ⟨σ1, rs1, he, hrest⟩
      case ret => exact ⟨σ1, rs1, he, hrest⟩
  · obtain ⟨x1, hgt, _⟩ := inv hrun
    exact hg.mono hgt

/-- the stand-in of a range over a function -/
noncomputable def rfRun (call : Call) (fn : Nat) (gg : T → Option V) (t : T) (h : HS) : Rs :=
  Option.rec (motive := fun _ => Rs) (.bad fn 0 44441)
      (fun fa => Cs.rec (motive := fun _ => Rs) (fun _ h' => bi (Nat.ble h.c h'.c) (.ok 0 t h') (.bad fn 0 44442)) (fun a b c => .bad a b c) ((call fa.f).out fa.a h))
      (ob (gg t) fun v => onFunc v fun f x y => some (FA.mk f (V.mk x (V.mk (.opq 100002) y))))

theorem rangeFunc_ok {call : Call} (hc : CallOK P B w0 call) (hen : Enters P call) {nt N fn : Nat} {g : Operand} {ps : Array Tmp} {asg body : Code} : CodeR P B w0 nt N (rfRun call fn (opdC g).out) (.rangeFunc g ps asg body) := by
  have inv : ∀ {t t' : T} {h h' : HS} {x : Nat}, rfRun call fn (opdC g).out t h = .ok x t' h' → ∃ f xa ya v, (opdC g).out t = some (.func f xa ya) ∧ (call f).out (V.mk xa (V.mk (.opq 100002) ya)) h = .ok v h' ∧ h.c ≤ h'.c ∧ x = 0 ∧ t' = t := by
    intro t t' h h' x hr
    unfold rfRun at hr
    cases hy : ob ((opdC g).out t) fun v => onFunc v fun f x y => some (FA.mk f (V.mk x (V.mk (.opq 100002) y))) with
    | none => rw [hy] at hr; cases hr
    | some fa =>
      rw [hy] at hr
      simp only [ob_eq, onFunc_eq] at hy
      obtain ⟨v, hv, f, xa, ya, rfl, e⟩ := hy
      cases e
      cases hcl : (call f).out (V.mk xa (V.mk (.opq 100002) ya)) h with
      | bad a b c =>
        replace hr : Cs.rec (motive := fun _ => Rs) (fun _ h' => bi (Nat.ble h.c h'.c) (.ok 0 t h') (.bad fn 0 44442)) (fun a b c => .bad a b c) ((call f).out (V.mk xa (V.mk (.opq 100002) ya)) h) = .ok x t' h' := hr
        rw [hcl] at hr; cases hr
      | ok u h1 =>
        replace hr : Cs.rec (motive := fun _ => Rs) (fun _ h' => bi (Nat.ble h.c h'.c) (.ok 0 t h') (.bad fn 0 44442)) (fun a b c => .bad a b c) ((call f).out (V.mk xa (V.mk (.opq 100002) ya)) h) = .ok x t' h' := hr
        rw [hcl] at hr
        replace hr : bi (Nat.ble h.c h1.c) (.ok 0 t h1) (.bad fn 0 44442) = Rs.ok x t' h' := hr
        rw [bi_if] at hr
        split at hr
        · rename_i hb
          cases hr
          exact ⟨f, xa, ya, u, hv, hcl, ble_iff.1 hb, rfl, rfl⟩
        · cases hr
  refine ⟨fun {σ t t' a h h' w x rs} hN ht hm hr hu hrun => ?_, fun {t t' h h' x} hrun => ?_⟩
  · obtain ⟨f, xa, ya, v, hg, hcl, hle, rfl, rfl⟩ := inv hrun
    obtain ⟨xs, ys, hxs, hys, eg⟩ := VR_func (opdC_ok ht hg)
    rw [← wpIn_wide (n := 0)]
    refine wpIn_rangeFunc fun fnb _ => ?_
    let L : Loop := { state := .ready, pending := none, fn := fnb, tmps := a.tmps, params := ps, assign := asg, body := body, defers := w.heap.size }
    let W1 : World := (w.alloc (.deferred (some []))).alloc (.loop L)
    have hW1 : W1 = { w with heap := w.heap ++ #[.deferred (some []), .loop L] } := by
      show { w with heap := (w.heap.push _).push _ } = _
      congr 1
    let args : List Value := xs ++ (.func (.yield (w.heap.size + 1)) #[] #[] :: ys)
    have hargs : SR σ (V.mk xa (V.mk (.opq 100002) ya)) args := SR.mk hxs (SR.mk (VR.any (σ := σ) (x := .func (.yield (w.heap.size + 1)) #[] #[]) rfl).2 hys)
    have hs1 : St P B w0 σ h.fn h.c w σ h.fn h.c W1 := by rw [hW1]; exact St.more hr _
    have hd1 : W1.heap[w.heap.size]? = some (.deferred (some [])) := by rw [hW1]; simp
    have hl1 : W1.heap[w.heap.size + 1]? = some (.loop L) := by rw [hW1]; simp
    have hout : ∀ id, h.fn id ≠ none → ∀ n, σ.blk id = some n → n < w.heap.size := fun id h1 n h2 => by
      cases hb : h.fn id with
      | none => exact absurd hb h1
      | some b => exact hr.lt hb h2
    have hent := hen f args.toArray W1 v h _ h' hcl
    refine ⟨w.heap.size + 1, [markOf w.heap.size], W1, { target := .fn (.func f) ys.toArray, args := xs.toArray ++ #[.func (.yield (w.heap.size + 1)) #[] #[]] }, W1, f, args.toArray, W1, run_enterLoop_outer _ _ _ _ _, ?_, fun _ _ => trivial, ?_, (fun h => by cases h), ?_⟩
    · have ec : a.eval (.const (.func (.yield (w.heap.size + 1)) #[] #[])) = .func (.yield (w.heap.size + 1)) #[] #[] := rfl
      simp [resolve, eg, ec, Deferred.ofValue]
    · have : (invoke (.fn (.func f) ys.toArray) (xs.toArray ++ #[.func (.yield (w.heap.size + 1)) #[] #[]])).run P W1 = (callFunc f args.toArray).run P W1 := by
        simp [invoke, args]
      rw [this]; exact hent
    · rw [callsIn_wide]
      refine Calls.mono (hc f σ _ args h W1 v h' hargs hs1.rel hu hcl) ?_
      intro e w3 he
      cases e with
      | panicked c => exact he.elim
      | outgrown => exact he.elim
      | returned y =>
        obtain ⟨σ', hs2, _⟩ := he
        have hno : ∀ n, w.heap.size ≤ n → n < W1.heap.size → ∀ id, h'.fn id ≠ none → σ'.blk id ≠ some n := fun n hn hn2 id h1 h2 => by
          obtain ⟨id0, h3, h4⟩ := hs2.foot id n h1 h2 hn2
          have := hout id0 h3 n h4
          omega
        have hsz : W1.heap.size = w.heap.size + 2 := by rw [hW1]; simp
        have hd3 : w3.heap[w.heap.size]? = some (.deferred (some [])) := by
          rw [hs2.frame _ (by omega) fun id h1 h2 => by have := hout id h1 _ h2; omega]; exact hd1
        have hl3 : w3.heap[w.heap.size + 1]? = some (.loop L) := by
          rw [hs2.frame _ (by omega) fun id h1 h2 => by have := hout id h1 _ h2; omega]; exact hl1
        have hl3lt : w.heap.size + 1 < w3.heap.size := (Array.getElem?_eq_some_iff.1 hl3).1
        refine ⟨none, w3.putObj (w.heap.size + 1) (.loop { L with state := .exhausted }), run_endLoop hl3 (by simp [L]), ?_⟩
        have hoth : ∀ m, m ≠ w.heap.size + 1 → (w3.putObj (w.heap.size + 1) (.loop { L with state := .exhausted })).heap[m]? = w3.heap[m]? := fun m hm => World.putObj_heap_other hm
        have hfin := St.other (w2 := w3.putObj (w.heap.size + 1) (.loop { L with state := .exhausted })) (l := w.heap.size + 1) (hs1.trans hs2) (by omega) (by have := hr.base; omega) (hno _ (by omega) (by omega)) World.putObj_size hoth rfl rfl rfl
        have hm2 := hm.after (hs1.trans hs2)
        refine ⟨σ', w.heap.size :: rs, rfl, ⟨ht.size, fun n u h1 h2 => ⟨(ht.tmp n u h1 h2).1, ((ht.tmp n u h1 h2).2).mono hfin.ext.le⟩⟩, ⟨?_, ?_, ?_, ?_, ?_⟩, hfin⟩
        · show [markOf w.heap.size] ++ a.defers = _
          rw [hm.eq]; rfl
        · refine List.nodup_cons.2 ⟨fun hmem => ?_, hm.nodup⟩
          have := (Array.getElem?_eq_some_iff.1 (hm.here _ hmem)).1
          omega
        · intro r hr'
          rcases List.mem_cons.1 hr' with rfl | hr'
          · exact hN
          · exact hm.low r hr'
        · intro r hr'
          rcases List.mem_cons.1 hr' with rfl | hr'
          · rw [hoth _ (by omega)]; exact hd3
          · have := (Array.getElem?_eq_some_iff.1 (hm.here r hr')).1
            rw [hoth r (by omega)]
            exact hm2.here r hr'
        · intro r hr'
          rcases List.mem_cons.1 hr' with rfl | hr'
          · exact hno _ (Nat.le_refl _) (by omega)
          · exact hm2.apart r hr'
  · obtain ⟨_, _, _, _, _, _, hle, _⟩ := inv hrun
    exact hle

theorem compRF_ok (hE : EnvOK P E B w0) {call : Call} (hc : CallOK P B w0 call) (hen : Enters P call) {lov : LOv} {nt N fn : Nat} (hnt : nt ≤ 256) : ∀ (c : Code), LovOK P B w0 lov nt fn c → CodeR P B w0 nt N (compRF E call lov nt fn c).out c := by
  have other : ∀ c, LovOK P B w0 lov nt fn c → CodeR P B w0 nt N (compCode E call lov nt fn c).out c := fun c hl => (compCode_ok hE hc hen hnt (hdr_ok hE call hc hen nt hnt fn) c hl).toR
  intro c
  induction c with
  | seq a b iha ihb =>
    intro hl
    have := (iha hl.1).seq (ihb hl.2)
    unfold compRF
    simp only [KF.app_eq, KF.out_mk]
    exact this
  | block id b ih =>
    intro hl
    have := CodeR.block (id := id) (ih hl)
    unfold compRF
    simp only [KF.app_eq, KF.out_mk]
    exact this
  | rangeFunc g ps asg body =>
    intro _
    unfold compRF
    have := rangeFunc_ok hc hen (nt := nt) (N := N) (fn := fn) (g := g) (ps := ps) (asg := asg) (body := body)
    rw [KF.app_eq]
    have e : (KF.mk fun (t : T) (h : HS) => Option.rec (motive := fun _ => Rs) (.bad fn 0 44441)
      (fun fa => Cs.rec (motive := fun _ => Rs) (fun _ h' => bi (Nat.ble h.c h'.c) (.ok 0 t h') (.bad fn 0 44442)) (fun a b c => .bad a b c) ((call fa.f).app fun k => k fa.a h))
      (ob ((opdC g).out t) fun v => onFunc v fun f x y => some (FA.mk f (V.mk x (V.mk (.opq 100002) y))))).out = rfRun call fn (opdC g).out := by
      funext t h
      unfold rfRun
      simp only [KF.app_eq]
      rfl
    rw [e]
    exact this
  | _ => exact other _
end Go.AE

namespace Go.AE
open Go Go.RowKit

variable {P : Program} {E : Env} {B : Nat} {w0 : World}

/-- blocks that are none of ours are changed -/
theorem St.others {σ σ' : Val} {h h' : Nat → Option Blk} {c c' : Nat} {w w' w2 : World} (s : St P B w0 σ h c w σ' h' c' w')
    (hdiff : ∀ m, w2.heap[m]? = w'.heap[m]? ∨ (w.heap.size ≤ m ∧ ∀ id, h' id ≠ none → σ'.blk id ≠ some m)) (hB : B ≤ w.heap.size)
    (hsz : w2.heap.size = w'.heap.size) (hos : w2.os = w'.os) (htp : w2.tape = w'.tape) (hou : w2.output = w'.output) : St P B w0 σ h c w σ' h' c' w2 := by
  refine ⟨s.ext, ⟨fun id b n h1 h2 => ?_, s.rel.inj, s.rel.dom, s.rel.own, ⟨hos.trans s.rel.keep.os, htp.trans s.rel.keep.tape, hou.trans s.rel.keep.output, by rw [hsz]; exact s.rel.keep.size, fun k hk => ?_⟩, by rw [hsz]; exact s.rel.base⟩, s.le, by rw [hsz]; exact s.size,
    fun b hb hf => ?_, s.foot, s.virt⟩
  · rcases hdiff n with e | ⟨_, e⟩
    · rw [e]; exact s.rel.blk id b n h1 h2
    · exact absurd h2 (e id (by rw [h1]; simp))
  · rcases hdiff k with e | ⟨e, _⟩
    · rw [e]; exact s.rel.keep.block k hk
    · omega
  · rcases hdiff b with e | ⟨e, _⟩
    · rw [e]; exact s.frame b hb hf
    · omega

theorem leaves_marks {fn : Func} {tmps : Array Value} {R : Ending → World → Prop} : ∀ {rs : List Nat} {w : World}, (∀ r ∈ rs, w.heap[r]? = some (.deferred (some []))) → rs.Nodup →
    (∀ w2 : World, (∀ m, m ∉ rs → w2.heap[m]? = w.heap[m]?) → w2.heap.size = w.heap.size → w2.os = w.os → w2.tape = w.tape → w2.output = w.output → ∃ v, (results fn tmps).run P w2 = .ok v w2 ∧ R (.returned v) w2) →
    LeavesInM Fence.wide 0 P fn tmps R (rs.map markOf) .returning w
  | [], w, _, _, h => h w (fun _ _ => rfl) rfl rfl rfl rfl
  | r :: rs, w, hh, hn, h => by
    obtain ⟨h1, h2⟩ := List.nodup_cons.1 hn
    have hr := hh r (List.mem_cons_self ..)
    have hoth : ∀ m, m ≠ r → (w.putObj r (.deferred none)).heap[m]? = w.heap[m]? := fun m hm => World.putObj_heap_other hm
    refine ⟨by simp, .inl ⟨r, _, rfl, run_takeDeferred hr, leaves_marks (fun r' hr' => ?_) h2 fun w2 g1 g2 g3 g4 g5 => ?_⟩⟩
    · rw [hoth r' (fun e => h1 (e ▸ hr'))]
      exact hh r' (List.mem_cons_of_mem _ hr')
    · refine h w2 (fun m hm => ?_) (g2.trans World.putObj_size) g3 g4 g5
      rw [g1 m (fun h => hm (List.mem_cons_of_mem _ h)), hoth m (fun e => hm (by rw [e]; exact List.mem_cons_self ..))]

theorem evalRF_body {call : Call} {lov : LOv} {f : Nat} {a : V} {h h' : HS} {v : V} (hr : (evalRF E call lov f).out a h = .ok v h') :
    ∃ fn body, E.fn f = some fn ∧ fn.body = some body ∧ fn.ntmps ≤ 256 ∧ fn.params.size + fn.nfree ≤ fn.ntmps ∧ a.size = fn.params.size + fn.nfree ∧
      ∃ t, (bindC 0 (fn.params.size + fn.nfree)).out a (NT.fill none 8) = some t ∧ ∃ x t', (compRF E call lov fn.ntmps f body).out t h = .ok x t' h' ∧ x ≤ 1 ∧
        ∃ r, (resC E fn.results.toList).out t' h' = some r ∧ v = (match fn.results.size with
            | 1 => fun v => v
            | _ => V.tup) r := by
  unfold evalRF at hr
  cases hfn : E.fn f with
  | none => simp only [hfn] at hr; cases hr
  | some fn =>
    simp only [hfn] at hr
    cases hb : fn.body with
    | none => simp only [hb] at hr; cases hr
    | some body =>
      simp only [hb] at hr
      rw [KF.out_bi, bi_if] at hr
      split at hr
      · rename_i hc
        rw [Bool.and_eq_true] at hc
        have h1 : fn.ntmps ≤ 256 := ble_iff.1 hc.1
        have h2 : fn.params.size + fn.nfree ≤ fn.ntmps := ble_iff.1 hc.2
        simp only [KF.app_eq, KF.out_mk] at hr
        have hr : bi (Nat.beq a.size (fn.params.size + fn.nfree)) (Option.rec (motive := fun _ => Cs) (.bad f 0 55555)
            (fun t => Rs.rec (motive := fun _ => Cs) (fun x t h => bi (Nat.ble x 1) (Option.rec (motive := fun _ => Cs) (.bad f 0 44444) (fun v => .ok ((match fn.results.size with
            | 1 => fun v => v
            | _ => V.tup) v) h) ((resC E fn.results.toList).out t h)) (.bad f 0 33333)) (fun a b c => .bad a b c)
              ((compRF E call lov fn.ntmps f body).out t h)) ((bindC 0 (fn.params.size + fn.nfree)).out a (NT.fill none 8))) (.bad f 0 22223) = .ok v h' := hr
        rw [bi_if] at hr
        split at hr
        · rename_i hsz
          cases hbd : (bindC 0 (fn.params.size + fn.nfree)).out a (NT.fill none 8) with
          | none => rw [hbd] at hr; cases hr
          | some t =>
            rw [hbd] at hr
            have hr : Rs.rec (motive := fun _ => Cs) (fun x t h => bi (Nat.ble x 1) (Option.rec (motive := fun _ => Cs) (.bad f 0 44444) (fun v => .ok ((match fn.results.size with
              | 1 => fun v => v
              | _ => V.tup) v) h) ((resC E fn.results.toList).out t h)) (.bad f 0 33333)) (fun a b c => .bad a b c)
                ((compRF E call lov fn.ntmps f body).out t h) = .ok v h' := hr
            cases hcode : (compRF E call lov fn.ntmps f body).out t h with
            | bad a b c => rw [hcode] at hr; cases hr
            | ok x t' h1' =>
              rw [hcode] at hr
              have hr : bi (Nat.ble x 1) (Option.rec (motive := fun _ => Cs) (.bad f 0 44444) (fun v => .ok ((match fn.results.size with
                | 1 => fun v => v
                | _ => V.tup) v) h1') ((resC E fn.results.toList).out t' h1')) (.bad f 0 33333) = .ok v h' := hr
              rw [bi_if] at hr
              split at hr
              · rename_i hx
                cases hres : (resC E fn.results.toList).out t' h1' with
                | none => rw [hres] at hr; cases hr
                | some r =>
                  rw [hres] at hr
                  cases hr
                  exact ⟨fn, body, rfl, hb, h1, h2, beq_iff.1 hsz, t, hbd, x, t', hcode, ble_iff.1 hx, r, hres, rfl⟩
              · cases hr
        · cases hr
      · cases hr

/-- what a function hands back -/
theorem results_ok (hE : EnvOK P E B w0) {σ : Val} {fn : Func} {t' : T} {a1 : Act} {h' : HS} {w1 : World} (ht' : TR σ fn.ntmps t' a1) (hs' : HRel P B w0 σ h'.fn w1) {r : V} (hres : (resC E fn.results.toList).out t' h' = some r) :
    ∃ y, (results fn a1.tmps).run P w1 = .ok y w1 ∧ VR σ ((match fn.results.size with
            | 1 => fun v => v
            | _ => V.tup) r) y := by
  obtain ⟨vs, hvs, hsr, hvl, hv1⟩ := resC_ok hE ht' hs' hres
  have hm : (fn.results.mapM fun r => (match r with
      | .tmp t => pure (a1.tmps.getD t undef)
      | .cell b ty => do loadVar ty (← asAddr (a1.tmps.getD b undef)) : Sem Value)).run P w1 = .ok vs.toArray w1 := by
    rw [Array.mapM_eq_mapM_toList]
    rw [map_eq_pure_bind, Sem.run_bind]
    exact congrArg (fun r => Result.andThen r fun a w' => Sem.run P (pure (List.toArray a)) w') hvs
  have hsize : vs.length = fn.results.size := by simpa using hvl
  by_cases h1 : fn.results.size = 1
  · rw [h1] at hsize ⊢
    obtain ⟨y, rfl⟩ := List.length_eq_one_iff.1 hsize
    refine ⟨y, ?_, hv1 y rfl⟩
    unfold results
    rw [Sem.run_bind]
    exact congrArg (fun r => Result.andThen r fun (vs : Array Value) w' => Sem.run P (pure (if h : vs.size = 1 then vs[0] else .tuple vs)) w') hm
  · refine ⟨.tuple vs.toArray, ?_, ?_⟩
    · unfold results
      rw [Sem.run_bind]
      have : vs.toArray.size ≠ 1 := by simpa using fun h => h1 (hsize ▸ h)
      refine (congrArg (fun r => Result.andThen r fun (vs : Array Value) w' => Sem.run P (pure (if h : vs.size = 1 then vs[0] else .tuple vs)) w') hm).trans ?_
      rw [Result.andThen_ok, dif_neg this]
      rfl
    · have : (match fn.results.size with
        | 1 => fun v => v
        | _ => V.tup) = V.tup := by
        split
        · rename_i h; exact absurd h h1
        · rfl
      rw [this]
      exact ⟨rfl, vs, hsr, rfl⟩

theorem evalRF_ok (hE : EnvOK P E B w0) {call : Call} (hc : CallOK P B w0 call) (hen : Enters P call) {lov : LOv} {f : Nat} (hlov : ∀ fn body, E.fn f = some fn → fn.body = some body → LovOK P B w0 lov fn.ntmps f body) :
    FnOK P B w0 f (evalRF E call lov f).out ∧ ∀ args w v h a0 h', (evalRF E call lov f).out a0 h = .ok v h' → (callFunc f args).run P w = .ok (.enter f args) w := by
  refine ⟨fun σ a args h w v h' ha hr hu hrun => ?_, fun args w v h a0 h' hrun => ?_⟩
  · obtain ⟨fn, body, hfn, hb, h256, hle, hsz, t, hbd, x, t', hcode, hx, r, hres, rfl⟩ := evalRF_body hrun
    have hPf := hE.fn f fn hfn
    have hlen : args.length = fn.params.size + fn.nfree := (SR.len ha).trans hsz
    have hcok := compRF_ok hE hc hen (lov := lov) (nt := fn.ntmps) (N := w.heap.size) (fn := f) h256 body (hlov fn body hfn hb)
    rw [← callsIn_wide (n := 0)]
    refine callsIn_of_wp_marks hPf hb trivial ?_
    rw [wpIn_wide]
    let act : Act := { tmps := args.toArray ++ Array.replicate (fn.ntmps - args.toArray.size) undef, defers := [] }
    have hasz : act.tmps.size = fn.ntmps := by simp [act]; omega
    have hget : ∀ j y, args[j]? = some y → act.tmps.getD j undef = y := by
      intro j y hj
      have hlt : j < args.length := (List.getElem?_eq_some_iff.1 hj).1
      simp only [act, Array.getD_eq_getD_getElem?]
      rw [Array.getElem?_append_left (by simpa using hlt)]
      simp [hj]
    have ht0 : TR σ fn.ntmps (NT.fill none 8) act := ⟨hasz, fun n v _ hv => by rw [NT.fill_at] at hv; cases hv⟩
    have ht := bindC_ok ha h256 hasz hget (by omega) ht0 hbd
    refine Code.wp_mono ?_ (hcok.sound (Nat.le_refl _) ht (rs := []) ⟨rfl, List.nodup_nil, fun r h => (by cases h), fun r h => (by cases h), fun r h => (by cases h)⟩ hr hu hcode)
    rintro e a1 w1 ⟨σ', rs, he, ht', hm, hs'⟩
    have hleave : LeavesInM Fence.wide 0 P fn a1.tmps (fun e w' => match e with
      | .returned x => ∃ σ', St P B w0 σ h.fn h.c w σ' h'.fn h'.c w' ∧ VR σ' ((match fn.results.size with
            | 1 => fun v => v
            | _ => V.tup) r) x
      | _ => False) a1.defers .returning w1 := by
      rw [hm.eq]
      refine leaves_marks hm.here hm.nodup fun w2 g1 g2 g3 g4 g5 => ?_
      have hst2 := St.others (w2 := w2) hs' (fun m => by
        by_cases hmr : m ∈ rs
        · exact .inr ⟨hm.low m hmr, hm.apart m hmr⟩
        · exact .inl (g1 m hmr)) hr.base g2 g3 g4 g5
      obtain ⟨y, hy, hvy⟩ := results_ok hE ht' hst2.rel hres
      exact ⟨y, hy, σ', hst2, hvy⟩
    cases e <;> simp only [exitN] at he
    case normal => exact hleave
    case ret => exact hleave
    case exit id => omega
  · obtain ⟨fn, body, hfn, hb, _⟩ := evalRF_body hrun
    exact hE.enter f fn hfn (by rw [hb]; rfl) args w
end Go.AE

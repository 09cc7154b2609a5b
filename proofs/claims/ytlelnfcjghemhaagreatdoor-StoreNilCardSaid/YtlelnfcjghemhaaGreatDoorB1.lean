/- The program's own tables, and the parts of this program that are taken as a whole. -/
import Derived.Test.YtlelnfcjghemhaaGreatDoorA1
import Derived.Test.YtlelnfcjghemhaaGreatDoorA6
import Derived.KernelRfl
import Derived.Test.YtlelnfcjghemhaaGreatDoorProg
import Derived.WalkKit
import Derived.LoopTactic
/-! what is answered as a whole: functions and loops of this program that are proved by hand -/
namespace Go.AE
open Go
noncomputable section

/-- temporaries of which nothing is known any more -/
def clrC : List Nat → KF (T → T)
  | [] => .mk fun t => t
  | n :: l => (tsetC (α := Option V) 8 n).app fun g => (clrC l).app fun k => .mk fun t => k (g t none)
def tg (n : Nat) (t : T) : Option V := KF.rec (motive := fun _ => Option V) (fun g => g t) (tgetC (α := Option V) 8 n)
def csOf (f : Nat) (x : Option VH) : Cs := Option.rec (motive := fun _ => Cs) (.bad f 0 54321) (fun vh => VH.rec (motive := fun _ => Cs) (fun v h => .ok v h) vh) x

def rsOf (fn rid x : Nat) (g : T → V → T) (t : T) (y : Option VH) : Rs := Option.rec (motive := fun _ => Rs) (.bad fn rid 54321) (fun vh => VH.rec (motive := fun _ => Rs) (fun v h => .ok x (g t v) h) vh) y

/-! a check sum -/
def crcBit (c : Nat) : Nat := bi (Nat.beq (Nat.mod c 2) 1) (Nat.xor (Nat.div c 2) 2197175160) (Nat.div c 2)
def crcByte (c : Nat) : Nat := crcBit (crcBit (crcBit (crcBit (crcBit (crcBit (crcBit (crcBit c)))))))
/-- one byte, at i -/
def crcAt (b i c : Nat) : Nat := crcByte (bi (Nat.ble 28 i) (bi (Nat.ble 32 i) (Nat.xor c b) c) (Nat.xor c b))
def crcRep (b n : Nat) : Nat → Nat → (Nat → Nat → Option Nat) → Option Nat :=
  Nat.rec (motive := fun _ => Nat → Nat → (Nat → Nat → Option Nat) → Option Nat) (fun i c k => k i c) (fun _ ih i c k => fN (crcAt b i c) fun c => fN (Nat.succ i) fun i => ih i c k) n
def crcRuns (r : Runs) : Nat → Nat → Option Nat :=
  Runs.rec (motive := fun _ => Nat → Nat → Option Nat) (fun i c => bi (Nat.beq i 512) (some c) none)
    (fun n v _ ih i c => onNat v fun k b => bi (kEq k .u8) (bi (Nat.ble (Nat.succ b) 256) (crcRep b n i c ih) none) none) r
/-- the loop over the bytes -/
def lovSum : T → HS → Rs := (setC (some 3)).app fun set => (clrC [4, 5, 6, 8, 9, 10, 11, 12, 13, 14, 15, 16, 17, 18, 19, 20, 21, 22, 23, 24, 25, 26, 27, 28, 29, 30, 31, 32, 33]).app fun clr t h => rsOf 121 3 2 (fun t v => set (clr t) v) t
  (ob (tg 8 t) fun i => onNat i fun k i => bi (kEq k .i64) (bi (Nat.beq i 0) (ob (tg 3 t) fun c => onNat c fun k c => bi (kEq k .u32) (bi (Nat.ble (Nat.succ c) 4294967296) (ob (tg 7 t) fun a => onAgg a fun r => ob (crcRuns (r.runs .nil) 0 c) fun n => some (VH.mk (.nat .u32 n) h)) none) none) none) none)

/-! numbers in some order, put in order -/
def insN (n : Nat) (l : List Nat) : List Nat := List.rec (motive := fun _ => List Nat) [n] (fun m l ih => bi (Nat.ble n m) (n :: m :: l) (m :: ih)) l
def sortRuns (r : Runs) : Option (List Nat) :=
  Runs.rec (motive := fun _ => Option (List Nat)) (some []) (fun n v _ ih => bi (Nat.beq n 1) (onNat v fun k b => bi (kEq k .i64) (ob ih fun l => some (insN b l)) none) none) r
def ovSort (a : V) (h : HS) : Cs := csOf 76 (onSl a none none fun id off n _ _ => bi (Nat.beq off 0) (bi (Nat.ble n 1000000) (onBag (h.get id) fun e r x =>
  bi (Nat.beq r.size n) (ob (sortRuns (r.runs .nil)) fun l => some (VH.mk undefV (h.set id (some (.cells e (V.ofList (l.map fun n => .nat .i64 n)) x))))) none) none) none)

/-! a text, no matter which -/
def isOpq (i : Nat) (v : Option V) : Option Unit := ob v fun v => onOpq v fun j => bi (Nat.beq i j) (some ()) none
def ovValue (a : V) (h : HS) : Cs := csOf 23 (onAgg a fun r => bi (Nat.beq r.size 6) (ob (isOpq 100000 (r.get 3)) fun _ => ob (isOpq 100001 (r.get 4)) fun _ => some (VH.mk (.opq 100000) h)) none)

/-! loops over maps -/
/-- an iterator that has not begun: its map's entries -/
def freshIter (tit : Nat) (t : T) (h : HS) (f : Nat → Es → Option VH) : Option VH :=
  ob (tg tit t) fun p => onPtr p fun it off => bi (Nat.beq off 0) (onIter (h.get it) none fun m since seen _ => onMapB (h.get m) fun es ck =>
    bi (Nat.beq ck since) (NL.rec (motive := fun _ => Option VH) (f it es) (fun _ _ _ => none) seen) none) none

def flushE (n : Nat) (es : Es) : V → Option V := Es.rec (motive := fun _ => V → Option V) some (fun k v _ _ ih r => onNat k fun kk i => bi (kEq kk .i64) (onAgg v fun s => bi (Nat.ble (Nat.succ i) n) (bi (Nat.beq s.size 512) (ob (r.upd (Nat.mul i 512) s 512) ih) none) none) none) es
def lovFlush : T → HS → Rs := (clrC [25, 26, 27, 28, 29, 4, 5, 30, 31, 32, 33, 34, 35, 36]).app fun cl t h => rsOf 47 8 2 (fun t _ => cl t) t
  (ob (tg 0 t) fun p => onPtr p fun d doff => bi (Nat.beq doff 0) (onCells (h.get d) fun _ dr _ => ob (dr.get 0) fun l => onSl l none none fun lid off n _ _ => bi (Nat.beq off 0) (bi (Nat.beq lid d) none
    (onCells (h.get lid) fun e r x => freshIter 24 t h fun it es => ob (flushE n es r) fun r' => some (VH.mk undefV ((h.set lid (some (.cells e r' x))).set it none)))) none) none)

def keysE (es : Es) : V := Es.rec (motive := fun _ => V) .nil (fun k _ _ _ ih => V.mk k ih) es
/-- every key is a number -/
def numsE {β : Type} (es : Es) (f : Option β) : Option β := Es.rec (motive := fun _ => Option β) f (fun k _ _ _ ih => onNat k fun j _ => bi (kEq j .i64) ih none) es
def bagL (fn rid ts tit x : Nat) (cl : List Nat) : T → HS → Rs := (setC (some ts)).app fun set => (clrC cl).app fun clr t h => rsOf fn rid x (fun t v => set (clr t) v) t
  (ob (tg ts t) fun s => onSl s (freshIter tit t h fun it es => numsE es (Es.rec (motive := fun _ => Option VH) (some (VH.mk (.nilv 1) (h.set it none)))
    (fun _ _ _ _ _ => fN (lenE es) fun n => bi (Nat.ble n 1000000) ((h.set it none).new (.bag 3 (keysE es) (some h.c)) fun c => .sl c 0 n n (some c)) none) es)) none (fun _ _ _ _ _ => none))

def lov0 (f r : Nat) : Option (T → HS → Rs) := bi (Nat.beq f 121) (bi (Nat.beq r 3) (some lovSum) none) (
  bi (Nat.beq f 47) (bi (Nat.beq r 8) (some lovFlush) none)
  (bi (Nat.beq f 34) (bi (Nat.beq r 9) (some (bagL 34 9 3 27 3 [28, 29, 30, 31, 4, 32, 33, 34, 35])) none)
  (bi (Nat.beq f 68) (bi (Nat.beq r 11) (some (bagL 68 11 7 51 4 [52, 53, 54, 55, 8, 56, 57, 58, 59])) none) none)))
def fov0 (f : Nat) : Option (V → HS → Cs) := bi (Nat.beq f 76) (some ovSort) (bi (Nat.beq f 23) (some ovValue) none)

/-! a function that ranges over a function that never calls back -/
variable (E : Env)
def compRF (call : Call) (lov : LOv) (nt fn : Nat) : Code → Run
  | .rangeFunc g _ _ _ => (opdC g).app fun gg => .mk fun t h => Option.rec (motive := fun _ => Rs) (.bad fn 0 44441)
      (fun fa => Cs.rec (motive := fun _ => Rs) (fun _ h' => bi (Nat.ble h.c h'.c) (.ok 0 t h') (.bad fn 0 44442)) (fun a b c => .bad a b c) ((call fa.f).app fun k => k fa.a h))
      (ob (gg t) fun v => onFunc v fun f x y => some (FA.mk f (V.mk x (V.mk (.opq 100002) y))))
  | .seq a b => .mk fun t h => Rs.rec (motive := fun _ => Rs) (fun x t h => bi (Nat.beq x 0) ((compRF call lov nt fn b).app fun g => g t h) (.ok x t h)) (fun a b c => .bad a b c) ((compRF call lov nt fn a).app fun g => g t h)
  | .block id b => .mk fun t h => Rs.rec (motive := fun _ => Rs) (fun x t h => bi (Nat.beq x (id + 2)) (.ok 0 t h) (.ok x t h)) (fun a b c => .bad a b c) ((compRF call lov nt fn b).app fun g => g t h)
  | c => compCode E call lov nt fn c

def evalRF (call : Call) (lov : LOv) (f : Nat) : KF (V → HS → Cs) := match E.fn f with
  | some fn => (match fn.body with
    | some body =>
      bi (Nat.ble fn.ntmps 256 && Nat.ble (fn.params.size + fn.nfree) fn.ntmps)
      ((bindC 0 (fn.params.size + fn.nfree)).app fun bind => (resC E fn.results.toList).app fun res =>
      (KF.mk (match fn.results.size with
        | 1 => fun v => v
        | _ => V.tup)).app fun fin =>
      (KF.mk (fn.params.size + fn.nfree)).app fun na => .mk fun a h => bi (Nat.beq a.size na) (Option.rec (motive := fun _ => Cs) (.bad f 0 55555)
        (fun t => Rs.rec (motive := fun _ => Cs) (fun x t h => bi (Nat.ble x 1) (Option.rec (motive := fun _ => Cs) (.bad f 0 44444) (fun v => .ok (fin v) h) (res t h)) (.bad f 0 33333)) (fun a b c => .bad a b c)
          ((compRF E call lov fn.ntmps f body).app fun g => g t h)) (bind a (NT.fill none 8))) (.bad f 0 22223)) (.mk fun _ _ => .bad f 0 22222)
    | none => .mk fun _ _ => .bad f 0 11111)
  | none => .mk fun _ _ => .bad f 0 11112

/-- with the function that ranges over a function -/
def fov1 (f : Nat) : Option (V → HS → Cs) := bi (Nat.beq f 6) (some (KF.out (evalRF E (evalFn E fov0 lov0 40) lov0 6))) (fov0 f)
end
end Go.AE

namespace Go.AE
open Go Go.RowKit

/-! the program's tables -/
noncomputable def envP (P : Program) (glob : Nat → Option V) : Env where
  und := P.underlying
  size t := (P.info? t).map (·.size)
  bytes t := (P.info? t).map (·.bytes)
  zero t := (P.info? t).bind fun i => i.zero.bind cv
  fn f := P.funcs[f]?
  glob := glob

noncomputable def bruijn : List Nat := [0, 1, 56, 2, 57, 49, 28, 3, 61, 58, 42, 50, 38, 29, 17, 4, 62, 47, 59, 36, 45, 43, 51, 22, 53, 39, 33, 30, 24, 18, 12, 5, 63, 55, 48, 27, 60, 41, 37, 16, 46, 35, 44, 21, 52, 32, 23, 11, 54, 26, 40, 15, 34, 20, 31, 10, 25, 14, 19, 9, 13, 8, 7, 6]
noncomputable def globT (g : Nat) : Option V := if g = 0 then some (V.ofList (bruijn.map fun n => .nat .u8 n)) else none
noncomputable def EE : Env := envP Go.Proofs.Tryz.prog globT

theorem names_ok : (Go.Proofs.Tryz.prog.funcs.all fun fn => fn.name != "runtime.NumGoroutine") = true := by kernel_rfl
theorem mixed_ok : Go.Proofs.Tryz.prog.follows .mixedOrders = true := by kernel_rfl

theorem enter_ok {P : Program} (hn : (P.funcs.all fun fn => fn.name != "runtime.NumGoroutine") = true) {f : Nat} {fn : Func} (hf : P.funcs[f]? = some fn) (hb : fn.body.isSome = true) (args : Array Value) (w : World) :
    (callFunc f args).run P w = .ok (.enter f args) w := by
  have hne : (fn.name == "runtime.NumGoroutine") = false := by
    rw [Array.all_eq_true_iff_forall_mem] at hn
    have := hn fn (Array.mem_of_getElem? hf)
    simpa [bne] using this
  have hne' : fn.name ≠ "runtime.NumGoroutine" := by simpa using hne
  have hb' : fn.body ≠ none := by intro h; rw [h] at hb; cases hb
  unfold callFunc
  simp [Sem.run_bind, hf, hne', hb']

theorem ofList_SR {σ : Val} : ∀ {l : List (V × Value)}, (∀ p ∈ l, VR σ p.1 p.2) → SR σ (V.ofList (l.map (·.1))) (l.map (·.2))
  | [], _ => rfl
  | (v, x) :: l, h => by
    have h1 := h (v, x) (List.mem_cons_self ..)
    have h2 := ofList_SR (l := l) fun p hp => h p (List.mem_cons_of_mem _ hp)
    exact SR.mk h1.2 h2

theorem envP_ok {P : Program} (hn : (P.funcs.all fun fn => fn.name != "runtime.NumGoroutine") = true) (hm : P.follows .mixedOrders = true) {B : Nat} {w0 : World} (hB : 0 < B)
    (hg : ∃ e fz, w0.heap[0]? = some (.cells (bruijn.map fun n => Value.int .u8 (n : Nat)).toArray e fz)) : EnvOK P (envP P globT) B w0 where
  und := fun t d h => h
  size := fun t n h => h
  bytes := fun t n h => h
  zero := fun t v h => by
    have h : (P.info? t).bind (fun i => i.zero.bind cv) = some v := h
    rw [Option.bind_eq_some_iff] at h
    obtain ⟨i, hi, h⟩ := h
    rw [Option.bind_eq_some_iff] at h
    obtain ⟨z, hz, h⟩ := h
    exact ⟨z, by rw [hi]; exact hz, h⟩
  fn := fun f fn h => h
  enter := fun f fn h hb args w => enter_ok hn h hb args w
  glob := fun g r h => by
    have h : (if g = 0 then some (V.ofList (bruijn.map fun n => .nat .u8 n)) else none) = some r := h
    split at h
    · rename_i h0
      subst h0
      cases h
      obtain ⟨e, fz, he⟩ := hg
      refine ⟨hB, bruijn.map fun n => Value.int .u8 (n : Nat), [], e, fz, by rw [List.append_nil]; exact he, fun σ => ?_, fun c hc => ?_⟩
      · have := ofList_SR (σ := σ) (l := bruijn.map fun n => (V.nat .u8 n, Value.int .u8 (n : Nat))) fun p hp => by
          obtain ⟨n, _, rfl⟩ := List.mem_map.1 hp
          exact VR.nat
        rw [List.map_map, List.map_map] at this
        exact this
      · obtain ⟨n, _, rfl⟩ := List.mem_map.1 hc
        rfl
    · cases h
  mixed := hm

theorem env_ok {B : Nat} {w0 : World} (hB : 0 < B) (hg : ∃ e fz, w0.heap[0]? = some (.cells (bruijn.map fun n => Value.int .u8 (n : Nat)).toArray e fz)) : EnvOK Go.Proofs.Tryz.prog EE B w0 :=
  envP_ok names_ok mixed_ok hB hg
end Go.AE

namespace Go.AE
open Go Go.RowKit

/-- more objects -/
theorem St.more {P : Program} {B : Nat} {w0 : World} {σ : Val} {h : Nat → Option Blk} {c : Nat} {w : World} (hr : HRel P B w0 σ h w) (os : Array Obj) : St P B w0 σ h c w σ h c { w with heap := w.heap ++ os } := by
  have get : ∀ n, n < w.heap.size → (w.heap ++ os)[n]? = w.heap[n]? := fun n hn => Array.getElem?_append_left hn
  refine ⟨Ext.refl _ _ _, ⟨fun id b n h1 h2 => ?_, hr.inj, hr.dom, hr.own, ⟨hr.keep.os, hr.keep.tape, hr.keep.output, Nat.le_trans hr.keep.size (by simp), fun k hk => ?_⟩, Nat.le_trans hr.base (by simp)⟩, Nat.le_refl _, by simp, fun b hb _ => get b hb, fun id n h1 h2 _ => ⟨id, h1, h2⟩, fun _ _ _ => rfl⟩
  · show BR P σ b (w.heap ++ os)[n]?
    rw [get n (hr.lt h1 h2)]
    exact hr.blk id b n h1 h2
  · show (w.heap ++ os)[k]? = _
    rw [get k (Nat.lt_of_lt_of_le hk hr.base)]
    exact hr.keep.block k hk


/-! frames written out -/
theorem uncons {α : Type} {l : List α} {n : Nat} (h : l.length = n + 1) : ∃ u r, l = u :: r ∧ r.length = n := by
  cases l with
  | nil => cases h
  | cons u r => exact ⟨u, r, rfl, by simpa using h⟩
/-- two rows of temporaries are alike but for some -/
def But (ds : List Nat) : Nat → List Value → List Value → Prop
  | _, [], l' => l' = []
  | k, u :: l, l' => ∃ v r, l' = v :: r ∧ (k ∈ ds ∨ v = u) ∧ But ds (k + 1) l r
theorem But.get {ds : List Nat} : ∀ {l l' : List Value} {k n : Nat}, But ds k l l' → k + n ∉ ds → l'[n]? = l[n]?
  | [], l', k, n, h, _ => by have h : l' = [] := h; subst h; rfl
  | u :: l, l', k, n, h, hn => by
    obtain ⟨v, r, rfl, h1, h2⟩ := h
    cases n with
    | zero =>
      rcases h1 with h1 | h1
      · exact absurd h1 hn
      · simp [h1]
    | succ n => simpa using h2.get (n := n) (by rw [show k + 1 + n = k + (n + 1) by omega]; exact hn)

theorem But.nil {ds : List Nat} {k : Nat} : But ds k [] [] := rfl
theorem But.keep {ds : List Nat} {k : Nat} {u : Value} {l r : List Value} (h : But ds (k + 1) l r) : But ds k (u :: l) (u :: r) := ⟨u, r, rfl, .inr rfl, h⟩
theorem But.new {ds : List Nat} {k : Nat} {u v : Value} {l r : List Value} (hk : k ∈ ds) (h : But ds (k + 1) l r) : But ds k (u :: l) (v :: r) := ⟨v, r, rfl, .inl hk, h⟩
theorem But.same {ds : List Nat} {k : Nat} {u : Value} {l l' : List Value} (hk : k ∉ ds) (h : But ds k (u :: l) l') : ∃ r, l' = u :: r ∧ But ds (k + 1) l r := by
  obtain ⟨v, r, e, h1 | h1, h2⟩ := h
  · exact absurd h1 hk
  · exact ⟨r, by rw [e, h1], h2⟩
theorem But.next {ds : List Nat} {k : Nat} {u : Value} {l l' : List Value} (h : But ds k (u :: l) l') : ∃ v r, l' = v :: r ∧ But ds (k + 1) l r := by
  obtain ⟨v, r, e, _, h2⟩ := h
  exact ⟨v, r, e, h2⟩

theorem But.length {ds : List Nat} : ∀ {l l' : List Value} {k : Nat}, But ds k l l' → l'.length = l.length
  | [], l', k, h => by have h : l' = [] := h; subst h; rfl
  | u :: l, l', k, h => by
    obtain ⟨v, r, rfl, _, h2⟩ := h
    simp [h2.length]

theorem clrC_at {n : Nat} (hn : n < 2 ^ 8) : ∀ {l : List Nat} {t : NT (Option V) 8}, (∀ m ∈ l, m < 2 ^ 8) → NT.at 8 ((clrC l).out t) n = if n ∈ l then none else NT.at 8 t n
  | [], t, _ => by rw [if_neg (by simp)]; rfl
  | m :: l, t, h => by
    have hm := h m (List.mem_cons_self ..)
    have e : (clrC (m :: l)).out t = (clrC l).out ((tsetC (α := Option V) 8 m).out t none) := by
      show KF.out (KF.app (tsetC (α := Option V) 8 m) fun g => KF.app (clrC l) fun k => KF.mk fun t => k (g t none)) t = _
      rw [KF.app_eq, KF.app_eq]
      rfl
    rw [e, clrC_at hn fun k hk => h k (List.mem_cons_of_mem _ hk), tsetC_at 8 m t none n hm hn]
    by_cases h1 : n ∈ l
    · rw [if_pos h1, if_pos (List.mem_cons_of_mem _ h1)]
    · rw [if_neg h1]
      by_cases h2 : n = m
      · subst h2; rw [if_pos rfl, if_pos (List.mem_cons_self ..)]
      · rw [if_neg h2, if_neg (by simp [h1, h2])]

theorem tg_eq {n : Nat} (_ : n < 2 ^ 8) (t : T) : tg n t = NT.at 8 t n := by
  unfold tg
  rw [KF.rec_eq]
  exact tgetC_out 8 n t

theorem TR.at {σ : Val} {nt : Nat} {t : T} {l : List Value} {D : List Deferred} (ht : TR σ nt t { tmps := l.toArray, defers := D }) {n : Nat} (hn : n < 2 ^ 8) {v : V} (h : tg n t = some v) : VR σ v (l[n]?.getD undef) := by
  have := (ht.tmp n v hn (by rw [← tg_eq hn]; exact h)).2
  simpa using this

/-- what is left of the temporaries after a loop -/
theorem TR.clr {σ : Val} {nt : Nat} {t : T} {l l' : List Value} {D D' : List Deferred} {ds : List Nat} (ht : TR σ nt t { tmps := l.toArray, defers := D }) (hd : ∀ m ∈ ds, m < 2 ^ 8) (hb : But ds 0 l l') (hl : l'.length = l.length) :
    TR σ nt ((clrC ds).out t) { tmps := l'.toArray, defers := D' } := by
  refine ⟨by have := ht.size; simpa [hl] using this, fun n v hn hv => ?_⟩
  rw [clrC_at hn hd] at hv
  split at hv
  · cases hv
  · rename_i h
    obtain ⟨h1, h2⟩ := ht.tmp n v hn hv
    refine ⟨h1, ?_⟩
    have := hb.get (n := n) (by rw [Nat.zero_add]; exact h)
    simpa [this] using h2
end Go.AE

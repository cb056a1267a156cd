/-
  The iterator of modular.primes, and first.
-/
import Derived.RangeFuncNested
import Derived.RangeFuncBound
import Derived.RangeFuncCalls
import Derived.RangeFuncLeaves
import Derived.Shelf.Abstract
import Derived.Shelf.RegionOpen
import Derived.Test.YtlipdmbdohpblaaDoorPrime
import Derived.OwnWalkIn
import Derived.TacticsInMore
import Derived.LoopNIn
import Derived.LoopIn
import Derived.BigGuardIn
namespace Go.Proofs.YtlipdmbdohpblaaDoor
open Go.RowKit Go.Shelf
attribute [local go_sem] Oper.semAt_some

/-- The first prime that a step function comes to. -/
def srch (nx : Nat → Nat) (more : Nat → Bool) : Nat → Nat → Option Nat
  | 0, _ => none
  | f + 1, x => if more x then (if primeB (nx x) then some (nx x) else srch nx more f (nx x)) else none

theorem only_refl (w : World) (r : Option Nat) : w.grownBy w r := ⟨rfl, rfl, rfl, Nat.le_refl _, fun _ _ _ => rfl⟩
theorem only_drewN {a w : World} {row : Option Nat} (h : a.grownBy w row) (n : Nat) : a.grownBy (w.drewN n) row := ⟨h.os, h.tape, h.output, h.size, h.block⟩
theorem only_cell {a w : World} {g : Nat} (h : a.grownBy w (some g)) {p : Addr} {v : Value} (hc : a.cell? p = some v) (hp : p.block ≠ g) : w.cell? p = some v :=
  h.cell hc (fun e => hp (by injection e))
theorem only_set {a w : World} {g : Nat} (h : a.grownBy w (some g)) (i : Nat) (u : Value) : a.grownBy (w.setCell ⟨g, i, none⟩ u) (some g) :=
  ⟨h.os, h.tape, h.output, by simpa [World.setCell] using h.size, fun k hk hne => (Below.heap_setCell w ⟨g, i, none⟩ u k (fun e => hne (by rw [e]))).trans (h.block k hk hne)⟩

theorem Tab.only {a w : World} {g : Nat} (h : Tab a) (ho : a.grownBy w (some g)) (hg : 0 ≠ g) : Tab w := fun j hj => only_cell ho (h j hj) hg
def IterP (r : Option Nat) (Bn : Nat) (W : World) (Jx : Nat → World → Prop) (e : Ending) (W' : World) : Prop :=
  (∃ v, e = .returned v) ∧ ((∃ m, r = some m ∧ Jx m W') ∨ (r = none ∧ W.grownBy W' (some Bn)))
def cellNat (w : World) (a : Addr) : Nat := match w.cell? a with
  | some (.int _ x) => x.toNat
  | _ => 0

/-- What the iterator asks of the function that it steps through. -/
structure Stepper (nx : Nat → Nat) (more : Nat → Bool) (μ : Nat → Nat) (fs : FuncId) : Prop where
  step : ∀ x W, x ≤ 4294967296 → Calls Tryd.prog fs #[.int .u64 (x : Nat)] W fun e w' => ∃ V : Int, e = .returned (.tuple #[.int .u64 V, .bool (more x)]) ∧ w' = W ∧ (more x = true → V = (nx x : Nat))
  ent : ∀ args w, (callFunc fs args).run Tryd.prog w = .ok (.enter fs args) w
  next : ∀ x, x ≤ 4294967296 → more x = true → nx x ≤ 4294967296
  down : ∀ x, x ≤ 4294967296 → more x = true → μ x = μ (nx x) + 1

set_option maxHeartbeats 1000000 in
theorem primes1_in (nx : Nat → Nat) (more : Nat → Bool) (μ : Nat → Nat) (fs : FuncId) (S : Stepper nx more μ fs) (n l Bs Bn x0 : Nat) (W : World) (Jx : Nat → World → Prop)
    (hx0 : x0 ≤ 4294967296) (hs : W.cell? ⟨Bs, 0, none⟩ = some (.func (.func fs) #[] #[])) (hn : Blk W Bn 22 #[.int .u64 (x0 : Nat)]) (hne : Bs ≠ Bn) (hT : Tab W) (hBn : 0 ≠ Bn)
    (hY : ∀ m W1, W.grownBy W1 (some Bn) → YieldAt Fence.wide (n - 1) Tryd.prog l #[.int .u64 (m : Nat)] W1 fun e W' => e = .returned (.bool false) ∧ Jx m W') :
    CallsIn Fence.wide n Tryd.prog 52 #[.func (.yield l) #[] #[], .pointer (some ⟨Bs, 0, none⟩), .pointer (some ⟨Bn, 0, none⟩)] W (IterP (srch nx more (μ x0) x0) Bn W Jx) := by
  refine callsIn_of_wp Tryd.func52 rfl trivial ?_ rfl
  simp only [Tryd.ntmps52, List.size_toArray, List.length_cons, List.length_nil, Nat.reduceAdd, Nat.reduceSub, Array.replicate_succ, Array.replicate_zero, List.push_toArray, List.append_toArray, List.nil_append, List.cons_append]
  obtain ⟨r, hr⟩ : ∃ r, srch nx more (μ x0) x0 = r := ⟨_, rfl⟩
  rw [hr]
  have HR := Lib.hid hr
  clear hr
  have HY := @Lib.hid _ hY
  have HS := Lib.hid S
  clear hY S
  gi_wp2_with fail
  gi_loopw [] (fun wr => ∃ x, x ≤ 4294967296 ∧ Blk wr Bn 22 #[.int .u64 (x : Nat)] ∧ srch nx more (μ x) x = r ∧ W.grownBy wr (some Bn)) (fun wr => μ (cellNat wr ⟨Bn, 0, none⟩))
  case atStart => exact ⟨x0, hx0, hn, HR.out, only_refl _ _⟩
  case round =>
    obtain ⟨x, hx, hB, hsr, hg⟩ := hrel
    have k0 := only_cell hg hs hne
    have k1 := hB.cell 0
    have f1 := hB.frozen 0
    have hc := HS.out.step x wr hx
    have HSr := Lib.hid hsr
    have HC := Lib.hid hc
    clear hsr hc
    have ent := HS.out.ent
    gi_wp2_with fail
    refine ⟨trivial, ?_⟩
    gi_wp2_with fail
    refine ⟨fun h => absurd h (by decide), (callsIn_wide.2 HC.out).mono ?_⟩
    rintro e w' ⟨V, rfl, rfl, hV⟩
    have hTr := hT.only hg hBn
    have HV := Lib.hid hV
    clear hV
    rcases hm : more x with _ | _
    · have hrn : r = none := by
        rw [← HSr.out]
        cases μ x with
        | zero => rfl
        | succ f => simp [srch, hm]
      have HRN := Lib.hid hrn
      clear hm hrn
      gi_wp2_with fail
      refine ⟨trivial, ?_⟩
      gi_wp2_with (refine wpListIn_skip rfl rfl ?_)
      refine bodyPost_ret (results_none rfl _ _ _) rfl ?_
      exact ⟨⟨_, rfl⟩, .inr ⟨HRN.out, hg⟩⟩
    · have hnx := HS.out.next x hx hm
      have hrn : r = if primeB (nx x) then some (nx x) else srch nx more (μ (nx x)) (nx x) := by
        rw [← HSr.out, HS.out.down x hx hm]
        simp [srch, hm]
      have hmu := HS.out.down x hx hm
      obtain rfl := HV.out hm
      clear HV
      have HRN := Lib.hid hrn
      have HMU := Lib.hid hmu
      clear hm hrn hmu
      gi_wp2_with fail
      refine ⟨trivial, fun h => absurd h (by decide), (callsIn_wide.2 (prime_any (nx x) _ (by omega) hTr)).mono ?_⟩
      rintro e w2 ⟨he, m, rfl⟩
      have hg2 := only_drewN hg m
      rcases hpb : primeB (nx x) with _ | _
      · rw [hpb] at he
        subst he
        have hrn2 : srch nx more (μ (nx x)) (nx x) = r := by rw [HRN.out, hpb]; rfl
        have HR2 := Lib.hid hrn2
        clear hpb hrn2
        gi_wp2_with fail
        refine ⟨fun _ h => (by cases h), ?_⟩
        gi_wp2_with fail
        refine ⟨⟨nx x, hnx, (hB.drewN m).set 0 _, HR2.out, only_set hg2 0 _⟩, ?_⟩
        have e1 : cellNat ((w'.drewN m).setCell ⟨Bn, 0, none⟩ (.int .u64 (nx x : Nat))) ⟨Bn, 0, none⟩ = nx x := by
          unfold cellNat
          rw [((hB.drewN m).set 0 (.int .u64 (nx x : Nat))).cell]
          rfl
        have e2 : cellNat w' ⟨Bn, 0, none⟩ = x := by
          unfold cellNat
          rw [hB.cell]
          rfl
        rw [e1, e2, HMU.out]
        omega
      · rw [hpb] at he
        subst he
        have hrn2 : r = some (nx x) := by rw [HRN.out, hpb]; rfl
        have HR2 := Lib.hid hrn2
        obtain ⟨fn, tmps, assign, body, hy, hR⟩ := HY.out (nx x) _ hg2
        clear hpb hrn2
        gi_wp2_with fail
        refine ⟨fun h => absurd h (by decide), hR.mono ?_⟩
        rintro e W3 ⟨rfl, hJ⟩
        gi_wp2_with fail
        refine bodyPost_ret (results_none rfl _ _ _) rfl ?_
        exact ⟨⟨_, rfl⟩, .inl ⟨_, HR2.out, hJ⟩⟩

/-- A range over an iterator that keeps its state in block Bn, where the body leaves by a return at the first round. -/
theorem wpIn_rangeFunc_once {n : Nat} {P : Program} {g : Operand} {ps : Array Tmp} {assign body : Code} {R : Exit → Act → World → Prop} {a : Act} {w : World} (h1 : 1 ≤ n) {gf : Nat} {lb : Array Value} (hg : a.eval g = .func (.func gf) #[] lb)
    (eg : ∀ args w, (callFunc gf args).run P w = .ok (.enter gf args) w) {enc : Nat → Value} {r : Option Nat} {Bn : Nat} (hBn : Bn < w.heap.size) (hps : ps.size = 1)
    (I : World → Prop) (Ix : Nat → World → Prop)
    (hI : ∀ A B row, I A → A.grownBy B row → (∀ k, row = some k → k = Bn ∨ (w.heap.size ≤ k ∧ ∃ o : Obj, A.heap[k]? = some o ∧ o.isCells = false)) → I B)
    (hIx : ∀ m A B row, Ix m A → A.grownBy B row → (∀ k, row = some k → w.heap.size ≤ k ∧ ∃ o : Obj, A.heap[k]? = some o ∧ o.isCells = false) → Ix m B)
    (h0 : I w)
    (hiter : ∀ l W Jx, Below w.heap.size w W → (∀ m W1, W.grownBy W1 (some Bn) → YieldAt Fence.wide (n - 1 - 1) P l #[enc m] W1 fun e W' => e = .returned (.bool false) ∧ Jx m W') →
      CallsIn Fence.wide (n - 1) P gf (#[.func (.yield l) #[] #[]] ++ lb) W (IterP r Bn W Jx))
    (a₁ : Nat → Act)
    (hassign : ∀ (l x : Nat) (W : World) (K : Act → World → Prop), K (a₁ x) W →
      assign.wpIn (Fence.wide.inRound l) (n - 1 - 1) P (Exit.then K (fun _ _ _ => False)) { tmps := (ps.zip #[enc x]).foldl (fun t (p, v) => t.setIfInBounds p v) a.tmps, defers := [] } W)
    (hbody : ∀ (l x : Nat) (W : World), I W → body.wpIn (Fence.wide.inRound l) (n - 1 - 1) P (fun e _ W' => e = .ret ∧ KeepsOthers W W' ∧ Ix x W') (a₁ x) W)
    (hdone : ∀ (D : Nat) (W : World), r = none → I W → W.heap[D]? = some (.deferred (some [])) → w.heap.size ≤ D → R .normal { a with defers := { target := .collected D, args := #[] } :: a.defers } W)
    (hstop : ∀ (D m : Nat) (W : World), r = some m → Ix m W → W.heap[D]? = some (.deferred (some [])) → w.heap.size ≤ D → Code.ret.wpIn Fence.wide n P R { a with defers := { target := .collected D, args := #[] } :: a.defers } W) :
    (Code.rangeFunc g ps assign body).wpIn Fence.wide n P R a w := by
  refine wpIn_rangeFunc ?_
  intro fn hfn
  obtain ⟨rec, hrec⟩ : ∃ rec : LoopState → Option Code → Loop, rec = fun st pe => { state := st, pending := pe, fn, tmps := a.tmps, params := ps, assign, body, defers := w.heap.size } := ⟨_, rfl⟩
  obtain ⟨W1, hW1⟩ : ∃ W1, (w.alloc (.deferred (some []))).alloc (.loop (rec .ready none)) = W1 := ⟨_, rfl⟩
  have hL1 : W1.heap[w.heap.size + 1]? = some (.loop (rec .ready none)) := by
    rw [← hW1]; have := World.alloc_heap_new (w.alloc (.deferred (some []))) (.loop (rec .ready none)); rwa [World.size_alloc] at this
  have hK1 : W1.heap[w.heap.size]? = some (.deferred (some [])) := by
    rw [← hW1]; exact (Below.heap_alloc _ _ _ (by simp)).trans (World.alloc_heap_new w _)
  have hI1 : I W1 := by
    rw [← hW1]
    refine hI _ _ none (hI _ _ none h0 (World.grownBy_alloc _ _ _) (fun _ e => by cases e)) (World.grownBy_alloc _ _ _) (fun _ e => by cases e)
  have hb1 : Below w.heap.size w W1 := by
    rw [← hW1]; exact ((Below.refl _ w).alloc (Nat.le_refl _) _).alloc (by simp) _
  refine ⟨w.heap.size + 1, [{ target := .collected w.heap.size, args := #[] }], W1, { target := .fn (.func gf) lb, args := #[.func (.yield (w.heap.size + 1)) #[] #[]] }, W1, gf,
    #[.func (.yield (w.heap.size + 1)) #[] #[]] ++ lb, W1, ?_, ?_, ?_, ?_, fun _ => h1, ?_⟩
  · rw [← hW1, hrec]; exact run_enterLoop_outer _ _ _ _ _
  · simp only [resolve, hg]
    simp [go_sem]
  · intro f' hf'; trivial
  · simp [invoke, go_sem, eg]
  · refine (hiter (w.heap.size + 1) W1
      (fun m W => Ix m W ∧ W.heap[w.heap.size + 1]? = some (.loop (rec .done (some .ret))) ∧ W.heap[w.heap.size]? = some (.deferred (some []))) hb1 ?_).mono ?_
    · intro m W hg1
      have hlt1 : w.heap.size + 1 < W1.heap.size := (Array.getElem?_eq_some_iff.1 hL1).1
      have hl : W.heap[w.heap.size + 1]? = some (.loop (rec .ready none)) := (hg1.block _ hlt1 (fun e => by injection e; omega)).trans hL1
      have hk : W.heap[w.heap.size]? = some (.deferred (some [])) := (hg1.block _ (by omega) (fun e => by injection e; omega)).trans hK1
      have hi : I W := hI _ _ _ hI1 hg1 (fun k e => .inl (by injection e with e; exact e.symm))
      have hlt : w.heap.size + 1 < W.heap.size := (Array.getElem?_eq_some_iff.1 hl).1
      have hy := run_yield (P := P) (args := #[enc m]) hl (by rw [hrec]; exact hps.symm)
      rw [hrec] at hy
      refine ⟨fn, _, assign, body, hy, roundIn_of_wpIn hfn (hassign _ m W _ ⟨_, run_beginRound hl (by rw [hrec]), ?_⟩)⟩
      have hl2 : (W.putObj (w.heap.size + 1) (.loop { rec .ready none with state := .busy })).heap[w.heap.size + 1]? = some (.loop { rec .ready none with state := .busy }) := World.putObj_heap_same hlt
      have hk2 : (W.putObj (w.heap.size + 1) (.loop { rec .ready none with state := .busy })).heap[w.heap.size]? = some (.deferred (some [])) := (World.putObj_heap_other (by omega)).trans hk
      have hi2 : I (W.putObj (w.heap.size + 1) (.loop { rec .ready none with state := .busy })) := hI _ _ _ hi (grownBy_putObj' _ _ _) (fun k e => .inr (by injection e with e; subst e; exact ⟨by omega, _, hl, rfl⟩))
      refine wpIn_mono (hbody _ m _ hi2) ?_
      rintro e a3 W3 ⟨rfl, hk3, hix⟩
      have hl3 := hk3.same _ _ hl2 rfl
      have hend := run_endRound (P := P) (some .ret) hl3
      refine ⟨_, _, hend, rfl, hIx _ _ _ _ hix (grownBy_putObj' _ _ _) (fun k e => by injection e with e; subst e; exact ⟨by omega, _, hl3, rfl⟩), ?_, (World.putObj_heap_other (by omega)).trans (hk3.same _ _ hk2 rfl)⟩
      rw [World.putObj_heap_same (Array.getElem?_eq_some_iff.1 hl3).1, hrec]
      rfl
    · rintro e W2 ⟨⟨v, rfl⟩, ⟨m, hr, hix, hl, hk⟩ | ⟨hr, hg1⟩⟩
      · refine ⟨some .ret, _, by have := run_endLoop (P := P) hl (by rw [hrec]; simp); rw [hrec] at this; exact this, ?_⟩
        exact hstop _ m _ hr (hIx _ _ _ _ hix (grownBy_putObj' _ _ _) (fun k e => by injection e with e; subst e; exact ⟨by omega, _, hl, rfl⟩)) ((World.putObj_heap_other (by omega)).trans hk) (Nat.le_refl _)
      · have hlt1 : w.heap.size + 1 < W1.heap.size := (Array.getElem?_eq_some_iff.1 hL1).1
        have hl : W2.heap[w.heap.size + 1]? = some (.loop (rec .ready none)) := (hg1.block _ hlt1 (fun e => by injection e; omega)).trans hL1
        have hk : W2.heap[w.heap.size]? = some (.deferred (some [])) := (hg1.block _ (by omega) (fun e => by injection e; omega)).trans hK1
        have hi : I W2 := hI _ _ _ hI1 hg1 (fun k e => .inl (by injection e with e; exact e.symm))
        refine ⟨none, _, by have := run_endLoop (P := P) hl (by rw [hrec]; simp); rw [hrec] at this; exact this, ?_⟩
        exact hdone _ _ hr (hI _ _ _ hi (grownBy_putObj' _ _ _) (fun k e => .inr (by injection e with e; subst e; exact ⟨by omega, _, hl, rfl⟩))) ((World.putObj_heap_other (by omega)).trans hk) (Nat.le_refl _)

def optN : Option Nat → Nat
  | some m => m
  | none => 0
def FirstP (r : Option Nat) (Bn : Nat) (w : World) (e : Ending) (w' : World) : Prop := e = .returned (.int .u64 (optN r : Nat)) ∧ Below Bn w w'

set_option maxHeartbeats 1000000 in
theorem first_in (nx : Nat → Nat) (more : Nat → Bool) (μ : Nat → Nat) (fs : FuncId) (S : Stepper nx more μ fs) (Bs Bn x0 : Nat) (w : World)
    (hx0 : x0 ≤ 4294967296) (hs : w.cell? ⟨Bs, 0, none⟩ = some (.func (.func fs) #[] #[])) (hn : Blk w Bn 22 #[.int .u64 (x0 : Nat)]) (hne : Bs ≠ Bn) (hT : Tab w) (hBn : 0 ≠ Bn) :
    CallsIn Fence.wide 9 Tryd.prog 37 #[.func (.func 52) #[] #[.pointer (some ⟨Bs, 0, none⟩), .pointer (some ⟨Bn, 0, none⟩)]] w (FirstP (srch nx more (μ x0) x0) Bn w) := by
  refine callsIn_of_wp_marks Tryd.func37 rfl trivial ?_ rfl
  simp only [Tryd.ntmps37, List.size_toArray, List.length_cons, List.length_nil, Nat.reduceAdd, Nat.reduceSub, Array.replicate_succ, Array.replicate_zero, List.push_toArray, List.append_toArray, List.nil_append, List.cons_append]
  gi_wp2_with fail
  obtain ⟨r, hr⟩ : ∃ r, srch nx more (μ x0) x0 = r := ⟨_, rfl⟩
  have HS := Lib.hid S
  have hbn := hn.lt
  have hbs := lt_of_cell hs
  clear S
  have hR := Blk.new w 22 #[.int .u64 0]
  have hcell : ∀ {A B : World} {row : Option Nat} {v : Value}, A.cell? ⟨w.heap.size, 0, none⟩ = some v → A.grownBy B row → (∀ k, row = some k → k ≠ w.heap.size) → B.cell? ⟨w.heap.size, 0, none⟩ = some v ∧ B.frozen? ⟨w.heap.size, 0, none⟩ = A.frozen? ⟨w.heap.size, 0, none⟩ := by
    intro A B row v h1 h2 h3
    have hb : B.heap[w.heap.size]? = A.heap[w.heap.size]? := h2.block _ (lt_of_cell h1) (fun e => h3 _ e.symm rfl)
    exact ⟨(World.cell?_of_block (w := A) (a := ⟨w.heap.size, 0, none⟩) hb).trans h1, World.frozen?_of_block (w := A) (a := ⟨w.heap.size, 0, none⟩) hb⟩
  have HC := @Lib.hid _ @hcell
  clear hcell
  refine wpIn_rangeFunc_once (by decide) (gf := 52) (lb := #[.pointer (some ⟨Bs, 0, none⟩), .pointer (some ⟨Bn, 0, none⟩)]) rfl (enters_of Tryd.func52 (by kernel_rfl) rfl) (enc := fun m => .int .u64 (m : Nat)) (r := r) (Bn := Bn) (by simp; omega) rfl
    (fun W => W.cell? ⟨w.heap.size, 0, none⟩ = some (.int .u64 0) ∧ W.frozen? ⟨w.heap.size, 0, none⟩ = false ∧ Below Bn w W)
    (fun m W => W.cell? ⟨w.heap.size, 0, none⟩ = some (.int .u64 (m : Nat)) ∧ Below Bn w W)
    ?hI ?hIx ?h0 ?hiter
    (fun m => { tmps := #[Value.func (Fn.func 52) #[] #[Value.pointer (some ⟨Bs, 0, none⟩), Value.pointer (some ⟨Bn, 0, none⟩)], undef, Value.pointer (some ⟨w.heap.size, 0, none⟩), .int .u64 (m : Nat), Value.func (Fn.func 52) #[] #[Value.pointer (some ⟨Bs, 0, none⟩), Value.pointer (some ⟨Bn, 0, none⟩)], .int .u64 (m : Nat), undef], defers := [] })
    ?hassign ?hbody ?hdone ?hstop
  case hI =>
    rintro A B row ⟨i1, i2, i3⟩ hg hk
    have hne2 : ∀ k, row = some k → k ≠ w.heap.size := fun k e => by
      rcases hk k e with h | h
      · omega
      · have := h.1; simp at this; omega
    obtain ⟨c1, c2⟩ := HC.out i1 hg hne2
    refine ⟨c1, c2.trans i2, i3.grown hg (Nat.le_trans (Nat.le_of_lt hbn) i3.size) (fun k e => ?_)⟩
    rcases hk k e with h | h
    · omega
    · have := h.1; simp at this; omega
  case hIx =>
    rintro m A B row ⟨i1, i3⟩ hg hk
    have hne2 : ∀ k, row = some k → k ≠ w.heap.size := fun k e => by have := (hk k e).1; simp at this; omega
    exact ⟨(HC.out i1 hg hne2).1, i3.grown hg (Nat.le_trans (Nat.le_of_lt hbn) i3.size) (fun k e => by have := (hk k e).1; simp at this; omega)⟩
  case h0 => exact ⟨by rw [hR.cell]; rfl, hR.frozen 0, (Below.refl _ _).alloc (by omega) _⟩
  case hiter =>
    intro l W Jx hW hY
    have hq : Q w W := ((Q.refl w).alloc _).trans hW
    have := primes1_in nx more μ fs HS.out 8 l Bs Bn x0 W Jx hx0 (hq.cell hs) (hn.q hq) hne (hT.q hq) hBn hY
    rw [hr] at this
    exact this
  case hassign =>
    intro l x W K hK
    gi_wp2_with fail
    exact hK
  case hbody =>
    rintro l x W ⟨i1, i2, i3⟩
    gi_wp2_with fail
    exact ⟨KeepsOthers.setCell _ _ _, i3.setCell (p := ⟨w.heap.size, 0, none⟩) (by dsimp only; omega) _⟩
  case hdone =>
    rintro D W rfl ⟨i1, i2, i3⟩ hK hD
    gi_wp2_with fail
    have hK' := (KeepsOthers.setCell W ⟨w.heap.size, 0, none⟩ (.int .u64 0)).same D _ hK rfl
    refine ⟨by simp, .inl ⟨_, _, rfl, run_takeDeferred hK', ?_⟩⟩
    have hc5 := cell_kept (World.cell?_setCell_same' W ⟨w.heap.size, 0, none⟩ (.int .u64 0) (by rw [i1]; rfl)) (grownBy_putObj' _ D (.deferred none)) (fun r e => by cases e; exact ⟨_, hK', rfl⟩)
    refine ⟨.int .u64 0, ?_, rfl, ?_⟩
    · simp [results, Tryd.f37, go_sem, hc5]
    · exact (i3.setCell (p := ⟨w.heap.size, 0, none⟩) (by dsimp only; omega) _).grown (grownBy_putObj' _ D _) (by have := i3.size; simp [World.setCell]; omega) (fun k e => by injection e with e; simp at hD; omega)
  case hstop =>
    rintro D m W rfl ⟨i1, i3⟩ hK hD
    gi_wp2_with fail
    refine ⟨by simp, .inl ⟨_, _, rfl, run_takeDeferred hK, ?_⟩⟩
    have hc5 := cell_kept i1 (grownBy_putObj' _ D (.deferred none)) (fun r e => by cases e; exact ⟨_, hK, rfl⟩)
    refine ⟨.int .u64 (m : Nat), ?_, rfl, ?_⟩
    · simp [results, Tryd.f37, go_sem, hc5]
    · exact i3.grown (grownBy_putObj' _ D _) (by have := i3.size; omega) (fun k e => by injection e with e; simp at hD; omega)

def nextN (n : Nat) : Nat := optN (srch (· + 1) (fun x => decide (x < 2147483648)) (2147483648 - n) n)
def beforeN (n : Nat) : Nat := optN (srch (· - 1) (fun x => decide (2 < x)) (min n 2147483648) (min n 2147483648))
def NumQ (w : World) (n : Nat) (e : Ending) (w' : World) : Prop := e = .returned (.int .u64 (n : Nat)) ∧ Q w w'

theorem next_step (x : Nat) (w : World) (hx : x ≤ 4294967296) :
    Calls Tryd.prog 39 #[.int .u64 x] w fun e w' => ∃ V : Int, e = .returned (.tuple #[.int .u64 V, .bool (decide (x < 2147483648))]) ∧ w' = w ∧ (decide (x < 2147483648) = true → V = (x + 1 : Nat)) := by
  go_enter Tryd.func39, Tryd.ntmps39
  go_wp2_with fail
  go_ret2
  exact ⟨_, by rw [show decide (x < 2147483648) = decide ((x : Int) < 2147483648) from decide_eq_decide.2 (by omega)]; rfl, rfl, fun _ => rfl⟩
theorem before_step (x : Nat) (w : World) (hx : x ≤ 4294967296) :
    Calls Tryd.prog 40 #[.int .u64 x] w fun e w' => ∃ V : Int, e = .returned (.tuple #[.int .u64 V, .bool (decide (2 < x))]) ∧ w' = w ∧ (decide (2 < x) = true → V = (x - 1 : Nat)) := by
  by_cases h : 2 < x
  · go_enter Tryd.func40, Tryd.ntmps40
    go_wp2_with fail
    go_ret2
    exact ⟨_, by rw [show decide (2 < x) = decide ((2 : Int) < (x : Int)) from decide_eq_decide.2 (by omega)]; rfl, rfl, fun _ => by omega⟩
  · go_enter Tryd.func40, Tryd.ntmps40
    go_wp2_with fail
    go_ret2
    exact ⟨_, by rw [show decide (2 < x) = decide ((2 : Int) < (x : Int)) from decide_eq_decide.2 (by omega)]; rfl, rfl, fun h2 => absurd (of_decide_eq_true h2) h⟩

theorem next_stepper : Stepper (· + 1) (fun x => decide (x < 2147483648)) (2147483648 - ·) 39 where
  step x W hx := next_step x W hx
  ent := enters_of Tryd.func39 (by kernel_rfl) rfl
  next x _ h := by simp at h; omega
  down x _ h := by simp at h; omega
theorem before_stepper : Stepper (· - 1) (fun x => decide (2 < x)) (·) 40 where
  step x W hx := before_step x W hx
  ent := enters_of Tryd.func40 (by kernel_rfl) rfl
  next x _ h := by simp at h; omega
  down x _ h := by simp at h; omega

theorem primes_any (n : Int) (fs : FuncId) (w : World) :
    Calls Tryd.prog 38 #[.int .u64 n, .func (.func fs) #[] #[]] w fun e w' => e = .returned (.func (.func 52) #[] #[.pointer (some ⟨w.heap.size + 1, 0, none⟩), .pointer (some ⟨w.heap.size, 0, none⟩)]) ∧
      w' = (w.alloc (.cells #[.int .u64 n] 22)).alloc (.cells #[.func (.func fs) #[] #[]] 58) := by
  go_enter Tryd.func38, Tryd.ntmps38
  go_wp2_with fail
  go_ret
  exact ⟨rfl, rfl⟩
theorem first_at (nx : Nat → Nat) (more : Nat → Bool) (μ : Nat → Nat) (fs : FuncId) (S : Stepper nx more μ fs) (x0 : Nat) (N : Int) (hN : N = (x0 : Int)) (w : World) (hx0 : x0 ≤ 4294967296) (hT : Tab w) (r : Nat) (hr : optN (srch nx more (μ x0) x0) = r) :
    Calls Tryd.prog 37 #[.func (.func 52) #[] #[.pointer (some ⟨w.heap.size + 1, 0, none⟩), .pointer (some ⟨w.heap.size, 0, none⟩)]]
      ((w.alloc (.cells #[.int .u64 N] 22)).alloc (.cells #[.func (.func fs) #[] #[]] 58)) (NumQ w r) := by
  subst hN
  have hq : Q w ((w.alloc (.cells #[.int .u64 x0] 22)).alloc (.cells #[.func (.func fs) #[] #[]] 58)) := ((Q.refl w).alloc _).alloc _
  have hB : Blk ((w.alloc (.cells #[.int .u64 x0] 22)).alloc (.cells #[.func (.func fs) #[] #[]] 58)) (w.heap.size + 1) 58 #[.func (.func fs) #[] #[]] := Blk.new' _ _ _ (by simp)
  have h0 := lt_of_cell (hT 0 (by decide))
  refine (callsIn_wide.1 (first_in nx more μ fs S (w.heap.size + 1) w.heap.size x0 _ hx0 (by rw [hB.cell]; rfl) ((Blk.new w _ _).alloc _) (by omega) (hT.q hq) (by dsimp only at h0; omega))).mono ?_
  rintro e w' ⟨rfl, hb⟩
  exact ⟨by rw [hr], Below.trans (Q.below hq) hb⟩

set_option maxHeartbeats 400000 in
theorem next_any (n : Nat) (w : World) (hn : n ≤ 4294967296) (hT : Tab w) :
    Calls Tryd.prog 11 #[.int .u64 n] w (NumQ w (nextN n)) := by
  obtain ⟨r, hr⟩ : ∃ r, optN (srch (· + 1) (fun x => decide (x < 2147483648)) (2147483648 - n) n) = r := ⟨_, rfl⟩
  rw [show nextN n = r from hr]
  have HR := Lib.hid hr
  clear hr
  go_enter Tryd.func11, Tryd.ntmps11
  go_wp2_with fail
  refine (primes_any n _ w).mono ?_
  rintro e w' ⟨rfl, rfl⟩
  go_wp2_with fail
  refine (first_at _ _ _ _ next_stepper n _ rfl w hn hT r HR.out).mono ?_
  rintro e w' ⟨rfl, hq⟩
  go_wp2_with fail
  go_ret
  exact ⟨rfl, hq⟩
set_option maxHeartbeats 400000 in
theorem before_any (n : Nat) (w : World) (hn : n < 2 ^ 64) (hT : Tab w) :
    Calls Tryd.prog 13 #[.int .u64 n] w (NumQ w (beforeN n)) := by
  obtain ⟨r, hr⟩ : ∃ r, optN (srch (· - 1) (fun x => decide (2 < x)) (min n 2147483648) (min n 2147483648)) = r := ⟨_, rfl⟩
  rw [show beforeN n = r from hr]
  obtain ⟨m, hm⟩ : ∃ m, min n 2147483648 = m := ⟨_, rfl⟩
  rw [hm] at hr
  have HR := Lib.hid hr
  clear hr
  by_cases h : n ≤ 2147483648
  · obtain rfl : m = n := by omega
    clear hm
    go_enter Tryd.func13, Tryd.ntmps13
    go_wp2_with fail
    refine (primes_any m _ w).mono ?_
    rintro e w' ⟨rfl, rfl⟩
    go_wp2_with fail
    refine (first_at _ _ _ _ before_stepper m _ rfl w (by omega) hT r HR.out).mono ?_
    rintro e w' ⟨rfl, hq⟩
    go_wp2_with fail
    go_ret
    exact ⟨rfl, hq⟩
  · have hm2 : m = 2147483648 := by omega
    have HM := Lib.hid hm2
    clear hm hm2
    go_enter Tryd.func13, Tryd.ntmps13
    go_wp2_with fail
    refine (primes_any 2147483648 _ w).mono ?_
    rintro e w' ⟨rfl, rfl⟩
    go_wp2_with fail
    refine (first_at _ _ _ _ before_stepper m _ (by have := HM.out; omega) w (by have := HM.out; omega) hT r HR.out).mono ?_
    rintro e w' ⟨rfl, hq⟩
    go_wp2_with fail
    go_ret
    exact ⟨rfl, hq⟩
end Go.Proofs.YtlipdmbdohpblaaDoor

/-
  Regions that draw their order: operations that read or call with a fixed result, a chain of operations that make memory, and a forced tail. One order stands for all of them.
-/
import Derived.Test.YtcjpjnneimjfiaaBase
import Derived.StillTailTactics
namespace Go.Proofs.Ytcjpjnneimjfiaa
open Go.RowKit
section
variable {P : Program} {ops : Array Oper} {md : Region.Mode} {w0 : World} {n : Nat}

/-- What an operation yields, and that all that lay in memory lies there still. -/
def growUpon (P : Program) (w : World) (V : Value → World → Prop) : Result Next → Prop
  | .ok (.value v) w' => Q w w' ∧ V v w'
  | .ok .skip w' => Q w w' ∧ V undef w'
  | .ok (.enter f args) w' => w' = w ∧ Calls P f args w (fun e w'' => ∃ v, e = .returned v ∧ Q w w'' ∧ V v w'')
  | _ => False
def opGrow (P : Program) (ops : Array Oper) (o : Oper) (a : Act) (w : World) (V : Value → World → Prop) : Prop :=
  if Region.wanted o (yielded ops a.tmps) then growUpon P w V ((execOp a.eval o).run P w) else V undef w
set_option maxRecDepth 100000 in
theorem opGrow_mono {o : Oper} {a : Act} {w : World} {V V' : Value → World → Prop} (h : ∀ v w', Q w w' → V v w' → V' v w') (hh : opGrow P ops o a w V) : opGrow P ops o a w V' := by
  unfold opGrow at *
  split
  · rename_i hw
    rw [if_pos hw] at hh
    generalize (execOp a.eval o).run P w = r at *
    cases r with
    | ok x w' =>
      cases x <;> simp only [growUpon] at hh ⊢
      case enter f args => exact ⟨hh.1, hh.2.mono fun e w'' ⟨v, he, hq, hv⟩ => ⟨v, he, hq, h _ _ hq hv⟩⟩
      all_goals exact ⟨hh.1, h _ _ hh.1 hh.2⟩
    | halt x w' => simp only [growUpon] at hh
  · rename_i hw
    rw [if_neg hw] at hh
    exact h _ _ (Q.refl w) hh
set_option maxRecDepth 100000 in
theorem opGrow_put {o : Oper} (hs : ∀ cs b, o.op ≠ .select cs b) (a : Act) (w : World) (V : Value → World → Prop) (dst : Option Tmp) (v : Value) (h : ∀ d, dst = some d → d ∉ o.looksAt ops) :
    opGrow P ops o (a.put dst v) w V ↔ opGrow P ops o a w V := by
  unfold opGrow
  rw [wanted_put o a dst v h, execOp_put o hs a dst v h]
/-- An operation with a fixed result. -/
def FixAt (P : Program) (ops : Array Oper) (w0 : World) (o : Oper) (v : Value) (a : Act) : Prop := ∀ w, Q w0 w → opGrow P ops o a w (fun u _ => a.put o.dst u = a.put o.dst v)
set_option maxRecDepth 100000 in
theorem FixAt.put {o : Oper} (hs : ∀ cs b, o.op ≠ .select cs b) {v : Value} {a : Act} {dst : Option Tmp} {u : Value} (h : ∀ d, dst = some d → d ∉ o.looksAt ops) (h2 : ∀ d, o.dst = some d → dst ≠ some d) (hf : FixAt P ops w0 o v a) : FixAt P ops w0 o v (a.put dst u) := by
  intro w hq
  rw [opGrow_put hs a w _ dst u h]
  refine opGrow_mono (fun x w' _ e => ?_) (hf w hq)
  rw [← Act.put_comm a x u h2, ← Act.put_comm a v u h2, e]
def gOp (P : Program) (ops : Array Oper) (w0 : World) (i : Nat) (L : Act → (World → Prop) → Prop) (a : Act) (S : World → Prop) : Prop :=
  match ops[i]? with
  | none => L a S
  | some o => ∃ V : Value → World → Prop, (∀ v w w', V v w → Q w w' → V v w') ∧ (∀ w, Q w0 w → S w → opGrow P ops o a w V) ∧ ∀ v, (∃ w, Q w0 w ∧ V v w) → L (a.put o.dst v) (fun w => S w ∧ V v w)
def wpAnyG (P : Program) (md : Region.Mode) (ops : Array Oper) (w0 : World) (n : Nat) (L : Array Bool → Act → (World → Prop) → Prop) : Nat → Array Bool → Act → (World → Prop) → Prop
  | 0, listed, a, S => L listed a S
  | f + 1, listed, a, S => Region.ready md ops listed ≠ [] ∧ ∀ i ∈ Region.ready md ops listed, i < n ∧ gOp P ops w0 i (wpAnyG P md ops w0 n L f (listed.setIfInBounds i true)) a S

set_option maxRecDepth 100000 in
theorem wpAnyG_anti {L : Array Bool → Act → (World → Prop) → Prop} (hL : ∀ listed a S S', (∀ w, S' w → S w) → L listed a S → L listed a S') :
    ∀ (f : Nat) (listed : Array Bool) (a : Act) (S S' : World → Prop), (∀ w, S' w → S w) → wpAnyG P md ops w0 n L f listed a S → wpAnyG P md ops w0 n L f listed a S'
  | 0, listed, a, S, S', h, H => hL listed a S S' h H
  | f + 1, listed, a, S, S', h, H => ⟨H.1, fun i hi => ⟨(H.2 i hi).1, by
      have h1 := (H.2 i hi).2
      unfold gOp at *
      split
      · rename_i ho; simp only [ho] at h1; exact wpAnyG_anti hL f _ _ _ _ h h1
      · rename_i o ho
        simp only [ho] at h1
        obtain ⟨V, hs, hg, hn⟩ := h1
        exact ⟨V, hs, fun w hq hw => hg w hq (h w hw), fun v hv => wpAnyG_anti hL f _ _ _ _ (fun w hw => And.intro (h w hw.1) hw.2) (hn v hv)⟩⟩⟩
set_option maxRecDepth 100000 in
theorem wpOp_of_gOp {i : Nat} {L : Act → (World → Prop) → Prop} {a : Act} {S : World → Prop} {w : World} {K : Act → World → Prop} {Q' : Exit → Act → World → Prop} (hS : ∀ w w', S w → Q w w' → S w') (hq : Q w0 w) (hw : S w)
    (hK : ∀ x S' w', (∀ w w', S' w → Q w w' → S' w') → L x S' → Q w0 w' → S' w' → K x w') (h : gOp P ops w0 i L a S) : wpOp P ops Q' i K a w := by
  unfold gOp at h
  unfold wpOp
  split
  · rename_i ho; simp only [ho] at h; exact hK _ _ _ hS h hq hw
  · rename_i o ho
    simp only [ho] at h
    obtain ⟨V, hs, hg, hn⟩ := h
    have hS2 : ∀ v, ∀ w w', (S w ∧ V v w) → Q w w' → (S w' ∧ V v w') := fun v w w' h q => ⟨hS w w' h.1 q, hs v w w' h.2 q⟩
    have h1 := hg w hq hw
    unfold opGrow at h1
    split
    · rename_i hwt
      rw [if_pos hwt] at h1
      refine .inl ?_
      unfold Oper.wp
      generalize (execOp a.eval o).run P w = r at *
      cases r with
      | ok x w' =>
        cases x <;> simp only [growUpon] at h1 <;> simp only [Oper.upon]
        case value v => exact hK _ _ _ (hS2 v) (hn v ⟨w', hq.trans h1.1, h1.2⟩) (hq.trans h1.1) ⟨hS w w' hw h1.1, h1.2⟩
        case skip => exact hK _ _ _ (hS2 _) (hn _ ⟨w', hq.trans h1.1, h1.2⟩) (hq.trans h1.1) ⟨hS w w' hw h1.1, h1.2⟩
        case enter f args =>
          obtain ⟨rfl, h2⟩ := h1
          refine h2.mono fun e w'' ⟨v, he, hq2, hv⟩ => ?_
          subst he
          exact hK _ _ _ (hS2 v) (hn v ⟨w'', hq.trans hq2, hv⟩) (hq.trans hq2) ⟨hS _ _ hw hq2, hv⟩
      | halt x w' => simp only [growUpon] at h1
    · rename_i hwt
      rw [if_neg hwt] at h1
      exact hK _ _ _ (hS2 _) (hn _ ⟨w, hq, h1⟩) hq ⟨hw, h1⟩
set_option maxRecDepth 100000 in
theorem wpAny_of_grow {g : Nat} {Q' : Exit → Act → World → Prop} {L : Array Bool → Act → (World → Prop) → Prop} (hL : ∀ listed a S w, L listed a S → Q w0 w → S w → wpAny P md ops Q' g listed a w) :
    ∀ (f : Nat) (listed : Array Bool) (a : Act) (S : World → Prop) (w : World), (∀ w w', S w → Q w w' → S w') → wpAnyG P md ops w0 n L f listed a S → Q w0 w → S w → wpAny P md ops Q' (f + g) listed a w
  | 0, listed, a, S, w, _, h, hq, hw => by rw [Nat.zero_add]; exact hL _ _ _ _ h hq hw
  | f + 1, listed, a, S, w, hS, h, hq, hw => by
    rw [show f + 1 + g = (f + g) + 1 by omega]
    exact ⟨fun h0 => absurd h0 h.1, fun i hi => wpOp_of_gOp hS hq hw (fun x S' w' hS' hx hq' hw' => wpAny_of_grow hL f _ x S' w' hS' hx hq' hw') (h.2 i hi).2⟩
set_option maxRecDepth 100000 in
theorem grow_first {i : Nat} {oi : Oper} {v : Value} {L : Array Bool → Act → (World → Prop) → Prop} (hi : ops[i]? = some oi) (hsel : ∀ (j : Nat) (o : Oper) cs b, ops[j]? = some o → o.op ≠ .select cs b)
    (hs : Region.sinkB md ops n = true) (hc : Region.chainB md ops n = true) (hn : n < ops.size) (hin : i < n)
    (hL : ∀ listed a S S', (∀ w, S' w → S w) → L listed a S → L listed a S') (hdone : ∀ listed a S, L listed a S → ∀ j ∈ Region.ready md ops listed, n ≤ j) :
    ∀ (f : Nat) (listed : Array Bool) (a : Act) (S : World → Prop), HeadInv md ops n listed →
      (∀ j oj, ops[j]? = some oj → j ≠ i → listed.getD j true = false → (∀ e ∈ oj.after, Region.binds md e = true → e.on ≠ i) → oi.apart ops oj = true) →
      i ∈ Region.ready md ops listed → FixAt P ops w0 oi v a →
      wpAnyG P md ops w0 n L f (listed.setIfInBounds i true) (a.put oi.dst v) S → wpAnyG P md ops w0 n L (f + 1) listed a S := by
  intro f
  induction f with
  | zero =>
    intro listed a S inv _ hr hy H
    have hun := (mem_ready.1 hr).1
    refine ⟨fun h => (by rw [h] at hr; cases hr), fun j hj => ?_⟩
    have hjn : j < n := by
      rcases Nat.lt_or_ge j n with h | h
      · exact h
      · exact absurd hj (tail_waits hs hc hn inv _ i rfl hin hun j h)
    refine ⟨hjn, ?_⟩
    by_cases hji : j = i
    · subst hji
      unfold gOp
      simp only [hi]
      exact ⟨_, fun _ _ _ h _ => h, fun w hq _ => hy w hq, fun u ⟨_, _, e⟩ => by rw [e]; exact wpAnyG_anti hL 0 _ _ _ _ (fun w hw => hw.1) H⟩
    · have := hdone _ _ _ H j (ready_mono hj hji)
      omega
  | succ f ih =>
    intro listed a S inv hfree hr hy H
    have hun := (mem_ready.1 hr).1
    refine ⟨fun h => (by rw [h] at hr; cases hr), fun j hj => ?_⟩
    have hjn : j < n := by
      rcases Nat.lt_or_ge j n with h | h
      · exact h
      · exact absurd hj (tail_waits hs hc hn inv _ i rfl hin hun j h)
    refine ⟨hjn, ?_⟩
    by_cases hji : j = i
    · subst hji
      unfold gOp
      simp only [hi]
      exact ⟨_, fun _ _ _ h _ => h, fun w hq _ => hy w hq, fun u ⟨_, _, e⟩ => by rw [e]; exact wpAnyG_anti hL (f + 1) _ _ _ _ (fun w hw => hw.1) H⟩
    · have h1 := (H.2 j (ready_mono hj hji)).2
      obtain ⟨hjun, oj, hoj, hall⟩ := mem_ready.1 hj
      have hnot : ∀ e ∈ oj.after, Region.binds md e = true → e.on ≠ i := fun e he hb heq => by
        have h1 := hall e he hb
        rw [heq, getD_both hun] at h1
        cases h1
      have hap := hfree j oj hoj hji hjun hnot
      obtain ⟨p1, p2, p3⟩ := Oper.apart_spec hap
      have hfree' : ∀ k ok, ops[k]? = some ok → k ≠ i → (listed.setIfInBounds j true).getD k true = false →
          (∀ e ∈ ok.after, Region.binds md e = true → e.on ≠ i) → oi.apart ops ok = true := fun k ok hk hki hun hno => by
        refine hfree k ok hk hki ?_ hno
        by_cases hjk : j = k
        · subst hjk; exact hjun
        · rw [getD_set_ne true hjk] at hun; exact hun
      unfold gOp at h1 ⊢
      simp only [hoj] at h1 ⊢
      obtain ⟨V, hst, hg, hnx⟩ := h1
      refine ⟨V, hst, fun w hq hw => (opGrow_put (fun cs b => hsel j oj cs b hoj) a w V oi.dst v p1).1 (hg w hq hw), fun u hu => ?_⟩
      refine ih (listed.setIfInBounds j true) (a.put oj.dst u) _ (inv.set hj hjn) hfree' (ready_mono hr (Ne.symm hji)) (hy.put (fun cs b => hsel i oi cs b hi) p3 p2) ?_
      rw [Array.setIfInBounds_comm _ _ hji, ← Act.put_comm a v u p2]
      exact hnx u hu
/-- The operations with fixed results (true in the mask), and the others. -/
def sel (b : Bool) : List Bool → List Oper → List Oper
  | m :: ms, o :: l => if m = b then o :: sel b ms l else sel b ms l
  | _, _ => []
def cnt (b : Bool) : List Bool → Nat
  | m :: ms => (if m = b then 1 else 0) + cnt b ms
  | [] => 0
set_option maxRecDepth 100000 in
theorem sel_nil (b : Bool) (l : List Oper) : sel b [] l = [] := rfl
set_option maxRecDepth 100000 in
theorem sel_tt (ms : List Bool) (o : Oper) (l : List Oper) : sel true (true :: ms) (o :: l) = o :: sel true ms l := rfl
set_option maxRecDepth 100000 in
theorem sel_tf (ms : List Bool) (o : Oper) (l : List Oper) : sel true (false :: ms) (o :: l) = sel true ms l := rfl
set_option maxRecDepth 100000 in
theorem sel_ft (ms : List Bool) (o : Oper) (l : List Oper) : sel false (true :: ms) (o :: l) = sel false ms l := rfl
set_option maxRecDepth 100000 in
theorem sel_ff (ms : List Bool) (o : Oper) (l : List Oper) : sel false (false :: ms) (o :: l) = o :: sel false ms l := rfl
def detB (md : Region.Mode) (ops : Array Oper) : List Bool → Nat → Array Bool → (Array Bool → Bool) → Bool
  | [], _, listed, c => c listed
  | true :: ms, k, listed, c => (Region.ready md ops listed).contains k && Region.free md ops listed k && detB md ops ms (k + 1) (listed.setIfInBounds k true) c
  | false :: ms, k, listed, c => detB md ops ms (k + 1) listed c
def mkB (md : Region.Mode) (ops : Array Oper) : List Bool → Nat → Array Bool → (Array Bool → Bool) → Bool
  | [], _, listed, c => c listed
  | false :: ms, k, listed, c => decide (Region.ready md ops listed = [k]) && mkB md ops ms (k + 1) (listed.setIfInBounds k true) c
  | true :: ms, k, listed, c => mkB md ops ms (k + 1) listed c
def growB (md : Region.Mode) (ops : Array Oper) (ms : List Bool) : Bool :=
  Region.noSelect ops && decide (ms.length < ops.size) && Region.sinkB md ops ms.length && Region.chainB md ops ms.length &&
    detB md ops ms 0 (Array.replicate ops.size false) fun listed => mkB md ops ms 0 listed fun listed => Region.seqB md ops (ops.size - ms.length) ms.length listed
def wpDets (P : Program) (ops : Array Oper) (w0 : World) (K : Act → Prop) : List Oper → Act → Prop
  | [], a => K a
  | o :: rest, a => ∃ v, FixAt P ops w0 o v a ∧ wpDets P ops w0 K rest (a.put o.dst v)
def wpMks (P : Program) (ops : Array Oper) (w0 : World) (K : Act → (World → Prop) → Prop) : List Oper → Act → (World → Prop) → Prop
  | [], a, S => K a S
  | o :: rest, a, S => ∃ V : Value → World → Prop, (∀ v w w', V v w → Q w w' → V v w') ∧ (∀ w, Q w0 w → S w → opGrow P ops o a w V) ∧
      ∀ v, (∃ w, Q w0 w ∧ V v w) → wpMks P ops w0 K rest (a.put o.dst v) (fun w => S w ∧ V v w)
set_option maxRecDepth 100000 in
theorem grow_dets {L : Array Bool → Act → (World → Prop) → Prop} {K : Act → Prop} {S : World → Prop} {f0 : Nat} {c : Array Bool → Bool} (hsel : Region.noSelect ops = true) (hs : Region.sinkB md ops n = true) (hc : Region.chainB md ops n = true) (hn : n < ops.size)
    (hL : ∀ listed a S S', (∀ w, S' w → S w) → L listed a S → L listed a S') (hdone : ∀ listed a S, L listed a S → ∀ j ∈ Region.ready md ops listed, n ≤ j)
    (hK : ∀ listed a, c listed = true → HeadInv md ops n listed → K a → wpAnyG P md ops w0 n L f0 listed a S) :
    ∀ (ms : List Bool) (l : List Oper) (k : Nat) (listed : Array Bool) (a : Act), (∀ j, j < ms.length → l[j]? = ops[k + j]?) → k + ms.length = n → HeadInv md ops n listed →
      detB md ops ms k listed c = true → wpDets P ops w0 K (sel true ms l) a → wpAnyG P md ops w0 n L (cnt true ms + f0) listed a S
  | [], l, k, listed, a, _, _, inv, hB, h => by rw [show cnt true [] = 0 from rfl, Nat.zero_add]; exact hK _ _ hB inv h
  | false :: ms, [], k, listed, a, hl, hk, _, _, _ => by
    have := hl 0 (by simp)
    simp at this
    simp only [List.length_cons] at hk
    omega
  | true :: ms, [], k, listed, a, hl, hk, _, _, _ => by
    have := hl 0 (by simp)
    simp at this
    simp only [List.length_cons] at hk
    omega
  | false :: ms, o :: l, k, listed, a, hl, hk, inv, hB, h => by
    have e : cnt true (false :: ms) = cnt true ms := by simp [cnt]
    rw [e]
    exact grow_dets hsel hs hc hn hL hdone hK ms l (k + 1) listed a (fun j hj => by have := hl (j + 1) (by simp only [List.length_cons]; omega); simpa [Nat.add_assoc, Nat.add_comm 1 j] using this) (by simp only [List.length_cons] at hk; omega) inv hB h
  | true :: ms, o :: l, k, listed, a, hl, hk, inv, hB, h => by
    have h0 : ops[k]? = some o := by simpa using (hl 0 (by simp)).symm
    simp only [detB, Bool.and_eq_true] at hB
    obtain ⟨⟨hr, hf⟩, hB'⟩ := hB
    have hkn : k < n := by simp only [List.length_cons] at hk; omega
    have hr' : k ∈ Region.ready md ops listed := by simpa using hr
    rw [sel_tt] at h
    obtain ⟨v, hy, hK2⟩ := h
    have e : cnt true (true :: ms) + f0 = (cnt true ms + f0) + 1 := by simp [cnt]; omega
    rw [e]
    exact grow_first h0 (Region.noSelect_spec hsel) hs hc hn hkn hL hdone _ listed a S inv (Region.free_spec h0 hf) hr' hy
      (grow_dets hsel hs hc hn hL hdone hK ms l (k + 1) _ _ (fun j hj => by have := hl (j + 1) (by simp only [List.length_cons]; omega); simpa [Nat.add_assoc, Nat.add_comm 1 j] using this) (by simp only [List.length_cons] at hk; omega) (inv.set hr' hkn) hB' hK2)
set_option maxRecDepth 100000 in
theorem grow_mks {L : Array Bool → Act → (World → Prop) → Prop} {K : Act → (World → Prop) → Prop} {c : Array Bool → Bool} (hK : ∀ listed a S, c listed = true → K a S → L listed a S) :
    ∀ (ms : List Bool) (l : List Oper) (k : Nat) (listed : Array Bool) (a : Act) (S : World → Prop), (∀ j, j < ms.length → l[j]? = ops[k + j]?) → k + ms.length = n → n ≤ ops.size →
      mkB md ops ms k listed c = true → wpMks P ops w0 K (sel false ms l) a S → wpAnyG P md ops w0 n L (cnt false ms) listed a S
  | [], l, k, listed, a, S, _, _, _, hB, h => hK _ _ _ hB h
  | b :: ms, [], k, listed, a, S, hl, hk, hn, _, _ => by
    have := hl 0 (by simp)
    simp at this
    simp only [List.length_cons] at hk
    omega
  | true :: ms, o :: l, k, listed, a, S, hl, hk, hn, hB, h => by
    have e : cnt false (true :: ms) = cnt false ms := by simp [cnt]
    rw [e]
    exact grow_mks hK ms l (k + 1) listed a S (fun j hj => by have := hl (j + 1) (by simp only [List.length_cons]; omega); simpa [Nat.add_assoc, Nat.add_comm 1 j] using this) (by simp only [List.length_cons] at hk; omega) hn hB h
  | false :: ms, o :: l, k, listed, a, S, hl, hk, hn, hB, h => by
    have h0 : ops[k]? = some o := by simpa using (hl 0 (by simp)).symm
    simp only [mkB, Bool.and_eq_true, decide_eq_true_eq] at hB
    rw [sel_ff] at h
    obtain ⟨V, hst, hg, hnx⟩ := h
    have e : cnt false (false :: ms) = cnt false ms + 1 := by simp [cnt]; omega
    rw [e]
    refine ⟨fun h => (by rw [hB.1] at h; cases h), fun i hi => ?_⟩
    rw [hB.1] at hi
    obtain rfl : i = k := by simpa using hi
    refine ⟨by simp only [List.length_cons] at hk; omega, ?_⟩
    unfold gOp
    simp only [h0]
    exact ⟨V, hst, hg, fun v hv => grow_mks hK ms l (i + 1) _ _ _ (fun j hj => by have := hl (j + 1) (by simp only [List.length_cons]; omega); simpa [Nat.add_assoc, Nat.add_comm 1 j] using this) (by simp only [List.length_cons] at hk; omega) hn hB.2 (hnx v hv)⟩
set_option maxRecDepth 100000 in
/-- One order stands for all. -/
theorem wp_region_grow {id : Nat} {Q' : Exit → Act → World → Prop} {a : Act} {w : World} {l : List Oper} (ms : List Bool) (hm : P.follows .mixedOrders = true) (hB : growB .any l.toArray ms = true)
    (h : wpDets P l.toArray w.drew (fun a' => wpMks P l.toArray w.drew (fun x S => ∀ w', Q w.drew w' → S w' → wpList P l.toArray Q' (l.drop ms.length) x w') (sel false ms l) a' (fun _ => True)) (sel true ms l) a) : (Code.region id l.toArray true).wp P Q' a w := by
  simp only [growB, Bool.and_eq_true, decide_eq_true_eq] at hB
  obtain ⟨⟨⟨⟨hsel, hn⟩, hs⟩, hc⟩, hlex⟩ := hB
  have hn' : ms.length < l.length := by simpa using hn
  have hdl : (l.drop ms.length).length = l.toArray.size - ms.length := by simp
  have inv0 : HeadInv .any l.toArray ms.length (Array.replicate l.toArray.size false) :=
    ⟨by simp, fun j oj _ hl => (by rw [getD_replicate_false] at hl; cases hl), fun t _ ht => getD_in (by simpa using ht) (getD_replicate_false _ _)⟩
  let L : Array Bool → Act → (World → Prop) → Prop := fun listed x S => Region.seqB .any l.toArray (l.toArray.size - ms.length) ms.length listed = true ∧ ∀ w', Q w.drew w' → S w' → wpList P l.toArray Q' (l.drop ms.length) x w'
  have hL : ∀ listed a S S', (∀ w, S' w → S w) → L listed a S → L listed a S' := fun listed a S S' h1 h2 => ⟨h2.1, fun w' hq hw => h2.2 w' hq (h1 w' hw)⟩
  have hdone : ∀ listed a S, L listed a S → ∀ j ∈ Region.ready .any l.toArray listed, ms.length ≤ j := fun listed a S h => seqB_ready h.1
  have hlj : ∀ j, j < ms.length → l[j]? = l.toArray[0 + j]? := fun j hj => by simp
  have H := grow_dets (md := .any) (f0 := cnt false ms) (S := fun _ => True) hsel hs hc hn hL hdone
    (fun listed a hB inv hK => grow_mks (md := .any) (n := ms.length) (fun listed a S hc hK => ⟨hc, hK⟩) ms l 0 listed a _ hlj (by omega) (by omega) hB hK) ms l 0 _ a hlj (by omega) inv0 hlex h
  refine wp_region_any hm ?_
  have hcnt : ∀ ms : List Bool, cnt true ms + cnt false ms = ms.length := by
    intro ms
    induction ms with
    | nil => rfl
    | cons m ms ih => cases m <;> simp [cnt] <;> omega
  have := wpAny_of_grow (Q' := Q') (g := l.toArray.size - ms.length) (fun listed a' S w' hL hq hw => by
    have := wpAny_of_seq (md := .any) (Q' := Q') (l.drop ms.length) ms.length listed a' w' (fun j => by simp [List.getElem?_drop]) (by rw [hdl]; exact hL.1) (hL.2 w' hq hw)
    rwa [hdl] at this) _ _ _ _ w.drew (fun _ _ h _ => h) H (Q.refl _) trivial
  rw [hcnt, show ms.length + (l.toArray.size - ms.length) = l.toArray.size by omega] at this
  exact this
set_option maxRecDepth 100000 in
/-- A reading operation. -/
theorem wpDets_read {K : Act → Prop} {o : Oper} {rest : List Oper} {a a' : Act} (h : ∀ w, Q w0 w → ∀ K' : Act → Prop, K' a' → if Region.wanted o (yielded ops a.tmps) then o.still P a w K' else K' (a.put o.dst undef)) (h2 : wpDets P ops w0 K rest a') : wpDets P ops w0 K (o :: rest) a := by
  have key : ∀ w, Q w0 w → ∃ v, YieldsAt P ops w o v a ∧ a.put o.dst v = a' := fun w hq => by
    have h1 := h w hq (fun x => x = a') rfl
    have h3 : stOp P #[o] w 0 (fun x => x = a') a ∨ True := .inr trivial
    by_cases hw : Region.wanted o (yielded ops a.tmps) = true
    · rw [if_pos hw] at h1
      simp only [Oper.still] at h1
      generalize hr : (execOp a.eval o).run P w = r at h1
      cases r with
      | ok x w' =>
        cases x <;> simp only [Oper.stillUpon] at h1
        case value u => obtain ⟨rfl, h2⟩ := h1; exact ⟨u, .inl ⟨hw, .inl hr⟩, h2⟩
        case skip => obtain ⟨rfl, h2⟩ := h1; exact ⟨undef, .inl ⟨hw, .inr (.inl ⟨hr, rfl⟩)⟩, h2⟩
        case enter f args => obtain ⟨rfl, v, hc, h2⟩ := h1; exact ⟨v, .inl ⟨hw, .inr (.inr ⟨f, args, hr, hc⟩)⟩, h2⟩
      | halt x w' => simp only [Oper.stillUpon] at h1
    · rw [if_neg hw] at h1
      exact ⟨undef, .inr ⟨by simpa using hw, rfl⟩, h1⟩
  obtain ⟨v, _, hv⟩ := key w0 (Q.refl w0)
  refine ⟨v, fun w hq => ?_, by rw [hv]; exact h2⟩
  obtain ⟨u, hy, hu⟩ := key w hq
  unfold opGrow
  rcases hy with ⟨hw, hr | ⟨hr, rfl⟩ | ⟨f, args, hr, hc⟩⟩ | ⟨hw, rfl⟩
  · rw [if_pos hw, hr]; exact ⟨Q.refl w, hu.trans hv.symm⟩
  · rw [if_pos hw, hr]; exact ⟨Q.refl w, hu.trans hv.symm⟩
  · rw [if_pos hw, hr]; exact ⟨rfl, hc.mono fun e w'' ⟨he, hw2⟩ => ⟨u, he, by rw [hw2]; exact Q.refl w, hu.trans hv.symm⟩⟩
  · rw [hw]; exact hu.trans hv.symm
set_option maxRecDepth 100000 in
/-- A call with a fixed result. -/
theorem wpDets_call {K : Act → Prop} {o : Oper} {rest : List Oper} {a : Act} (v : Value) (h : ∀ w, Q w0 w → ∀ V : Value → World → Prop, (∀ w', Q w w' → V v w') → opGrow P ops o a w V) (h2 : wpDets P ops w0 K rest (a.put o.dst v)) : wpDets P ops w0 K (o :: rest) a :=
  ⟨v, fun w hq => h w hq _ (fun _ _ => rfl), h2⟩
set_option maxRecDepth 100000 in
theorem wpDets_nil {K : Act → Prop} {a : Act} (h : K a) : wpDets P ops w0 K [] a := h
set_option maxRecDepth 100000 in
theorem wpMks_nil {K : Act → (World → Prop) → Prop} {a : Act} {S : World → Prop} (h : K a S) : wpMks P ops w0 K [] a S := h
set_option maxRecDepth 100000 in
/-- An operation that makes memory. -/
theorem wpMks_make {K : Act → (World → Prop) → Prop} {o : Oper} {rest : List Oper} {a : Act} {S : World → Prop} (V : Value → World → Prop) (hV : ∀ v w w', V v w → Q w w' → V v w')
    (h : ∀ w, Q w0 w → S w → ∀ V' : Value → World → Prop, (∀ v w', Q w w' → V v w' → V' v w') → opGrow P ops o a w V')
    (h2 : ∀ v, (∃ w, Q w0 w ∧ V v w) → wpMks P ops w0 K rest (a.put o.dst v) (fun w => S w ∧ V v w)) : wpMks P ops w0 K (o :: rest) a S :=
  ⟨V, hV, fun w hq hw => h w hq hw V (fun _ _ _ h => h), h2⟩
set_option maxRecDepth 100000 in
theorem wpDets_readU {K : Act → Prop} {o : Oper} {rest : List Oper} {a a' : Act} (hgd : o.guard = none) (h : ∀ w, Q w0 w → ∀ K' : Act → Prop, K' a' → o.still P a w K') (h2 : wpDets P ops w0 K rest a') : wpDets P ops w0 K (o :: rest) a :=
  wpDets_read (fun w hq K' hK => by rw [if_pos (by simp [Region.wanted, hgd])]; exact h w hq K' hK) h2
set_option maxRecDepth 100000 in
theorem wpDets_callU {K : Act → Prop} {o : Oper} {rest : List Oper} {a : Act} (v : Value) (hgd : o.guard = none) (h : ∀ w, Q w0 w → ∀ V : Value → World → Prop, (∀ w', Q w w' → V v w') → growUpon P w V ((execOp a.eval o).run P w)) (h2 : wpDets P ops w0 K rest (a.put o.dst v)) : wpDets P ops w0 K (o :: rest) a :=
  wpDets_call v (fun w hq V hV => by unfold opGrow; rw [if_pos (by simp [Region.wanted, hgd])]; exact h w hq V hV) h2
set_option maxRecDepth 100000 in
theorem wpMks_makeU {K : Act → (World → Prop) → Prop} {o : Oper} {rest : List Oper} {a : Act} {S : World → Prop} (V : Value → World → Prop) (hV : ∀ v w w', V v w → Q w w' → V v w') (hgd : o.guard = none)
    (h : ∀ w, Q w0 w → S w → ∀ V' : Value → World → Prop, (∀ v w', Q w w' → V v w' → V' v w') → growUpon P w V' ((execOp a.eval o).run P w))
    (h2 : ∀ v, (∃ w, Q w0 w ∧ V v w) → wpMks P ops w0 K rest (a.put o.dst v) (fun w => S w ∧ V v w)) : wpMks P ops w0 K (o :: rest) a S :=
  wpMks_make V hV (fun w hq hs V' hV' => by unfold opGrow; rw [if_pos (by simp [Region.wanted, hgd])]; exact h w hq hs V' hV') h2
/-- The same for unguarded operations, the rest of the walk under a name of its own. -/
def wpFix (P : Program) (w0 : World) (K : Act → Prop) : List Oper → Act → Prop
  | [], a => K a
  | o :: rest, a => o.guard = none ∧ ∃ v, (∀ w, Q w0 w → growUpon P w (fun u _ => a.put o.dst u = a.put o.dst v) ((execOp a.eval o).run P w)) ∧ wpFix P w0 K rest (a.put o.dst v)
set_option maxRecDepth 100000 in
theorem wpFix_dets {K K2 : Act → Prop} (hK : ∀ x, K x → K2 x) : ∀ (l : List Oper) (a : Act), wpFix P w0 K l a → wpDets P ops w0 K2 l a
  | [], _, h => hK _ h
  | o :: l, a, ⟨hgd, v, h1, h2⟩ => ⟨v, fun w hq => by unfold opGrow; rw [if_pos (by simp [Region.wanted, hgd])]; exact h1 w hq, wpFix_dets hK l _ h2⟩
set_option maxRecDepth 100000 in
theorem wpFix_read {K : Act → Prop} {o : Oper} {rest : List Oper} {a a' : Act} (hgd : o.guard = none) (h : ∀ w, Q w0 w → ∀ K' : Act → Prop, K' a' → o.still P a w K') (h2 : wpFix P w0 K rest a') : wpFix P w0 K (o :: rest) a := by
  have key : ∀ w, Q w0 w → ∃ v, ((execOp a.eval o).run P w = .ok (.value v) w ∨ ((execOp a.eval o).run P w = .ok .skip w ∧ v = undef) ∨
      ∃ f args, (execOp a.eval o).run P w = .ok (.enter f args) w ∧ Calls P f args w (fun e w'' => e = .returned v ∧ w'' = w)) ∧ a.put o.dst v = a' := fun w hq => by
    have h1 := h w hq (fun x => x = a') rfl
    simp only [Oper.still] at h1
    generalize hr : (execOp a.eval o).run P w = r at h1
    cases r with
    | ok x w' =>
      cases x <;> simp only [Oper.stillUpon] at h1
      case value u => obtain ⟨rfl, h2⟩ := h1; exact ⟨u, .inl rfl, h2⟩
      case skip => obtain ⟨rfl, h2⟩ := h1; exact ⟨undef, .inr (.inl ⟨rfl, rfl⟩), h2⟩
      case enter f args => obtain ⟨rfl, v, hc, h2⟩ := h1; exact ⟨v, .inr (.inr ⟨f, args, rfl, hc⟩), h2⟩
    | halt x w' => simp only [Oper.stillUpon] at h1
  obtain ⟨v, _, hv⟩ := key w0 (Q.refl w0)
  refine ⟨hgd, v, fun w hq => ?_, by rw [hv]; exact h2⟩
  obtain ⟨u, hr | ⟨hr, rfl⟩ | ⟨f, args, hr, hc⟩, hu⟩ := key w hq
  · rw [hr]; exact ⟨Q.refl w, hu.trans hv.symm⟩
  · rw [hr]; exact ⟨Q.refl w, hu.trans hv.symm⟩
  · rw [hr]; exact ⟨rfl, hc.mono fun e w'' ⟨he, hw2⟩ => ⟨u, he, by rw [hw2]; exact Q.refl w, hu.trans hv.symm⟩⟩
set_option maxRecDepth 100000 in
theorem wpFix_call {K : Act → Prop} {o : Oper} {rest : List Oper} {a : Act} (v : Value) (hgd : o.guard = none) (h : ∀ w, Q w0 w → ∀ V : Value → World → Prop, (∀ w', Q w w' → V v w') → growUpon P w V ((execOp a.eval o).run P w)) (h2 : wpFix P w0 K rest (a.put o.dst v)) : wpFix P w0 K (o :: rest) a :=
  ⟨hgd, v, fun w hq => h w hq _ (fun _ _ => rfl), h2⟩
set_option maxRecDepth 100000 in
theorem wp_region_fix {id : Nat} {Q' : Exit → Act → World → Prop} {a : Act} {w : World} {l : List Oper} (ms : List Bool) (hm : P.follows .mixedOrders = true) (hB : growB .any l.toArray ms = true)
    (h : ∀ (K : Act → Prop), (∀ a', wpMks P l.toArray w.drew (fun x S => ∀ w', Q w.drew w' → S w' → wpList P l.toArray Q' (l.drop ms.length) x w') (sel false ms l) a' (fun _ => True) → K a') → wpFix P w.drew K (sel true ms l) a) : (Code.region id l.toArray true).wp P Q' a w :=
  wp_region_grow ms hm hB (wpFix_dets (fun _ h => h) _ _ (h _ (fun _ h => h)))
/-- Three phases: operations with fixed results (0), a chain that makes memory (1), operations with fixed results once those values are known (2). -/
def selN (c : Nat) : List Nat → List Oper → List Oper
  | m :: ms, o :: l => if m = c then o :: selN c ms l else selN c ms l
  | _, _ => []
def cntN (c : Nat) : List Nat → Nat
  | m :: ms => (if m = c then 1 else 0) + cntN c ms
  | [] => 0
set_option maxRecDepth 100000 in
theorem selN_nil (c : Nat) (l : List Oper) : selN c [] l = [] := rfl
set_option maxRecDepth 100000 in
theorem selN_00 (ms : List Nat) (o : Oper) (l : List Oper) : selN 0 (0 :: ms) (o :: l) = o :: selN 0 ms l := rfl
set_option maxRecDepth 100000 in
theorem selN_01 (ms : List Nat) (o : Oper) (l : List Oper) : selN 0 (1 :: ms) (o :: l) = selN 0 ms l := rfl
set_option maxRecDepth 100000 in
theorem selN_02 (ms : List Nat) (o : Oper) (l : List Oper) : selN 0 (2 :: ms) (o :: l) = selN 0 ms l := rfl
set_option maxRecDepth 100000 in
theorem selN_10 (ms : List Nat) (o : Oper) (l : List Oper) : selN 1 (0 :: ms) (o :: l) = selN 1 ms l := rfl
set_option maxRecDepth 100000 in
theorem selN_11 (ms : List Nat) (o : Oper) (l : List Oper) : selN 1 (1 :: ms) (o :: l) = o :: selN 1 ms l := rfl
set_option maxRecDepth 100000 in
theorem selN_12 (ms : List Nat) (o : Oper) (l : List Oper) : selN 1 (2 :: ms) (o :: l) = selN 1 ms l := rfl
set_option maxRecDepth 100000 in
theorem selN_20 (ms : List Nat) (o : Oper) (l : List Oper) : selN 2 (0 :: ms) (o :: l) = selN 2 ms l := rfl
set_option maxRecDepth 100000 in
theorem selN_21 (ms : List Nat) (o : Oper) (l : List Oper) : selN 2 (1 :: ms) (o :: l) = selN 2 ms l := rfl
set_option maxRecDepth 100000 in
theorem selN_22 (ms : List Nat) (o : Oper) (l : List Oper) : selN 2 (2 :: ms) (o :: l) = o :: selN 2 ms l := rfl
def detBN (md : Region.Mode) (ops : Array Oper) (c : Nat) : List Nat → Nat → Array Bool → (Array Bool → Bool) → Bool
  | [], _, listed, f => f listed
  | m :: ms, k, listed, f => if m = c then (Region.ready md ops listed).contains k && Region.free md ops listed k && detBN md ops c ms (k + 1) (listed.setIfInBounds k true) f else detBN md ops c ms (k + 1) listed f
def mkBN (md : Region.Mode) (ops : Array Oper) (c : Nat) : List Nat → Nat → Array Bool → (Array Bool → Bool) → Bool
  | [], _, listed, f => f listed
  | m :: ms, k, listed, f => if m = c then decide (Region.ready md ops listed = [k]) && mkBN md ops c ms (k + 1) (listed.setIfInBounds k true) f else mkBN md ops c ms (k + 1) listed f
def phasesB (md : Region.Mode) (ops : Array Oper) (ms : List Nat) : Bool :=
  Region.noSelect ops && decide (ms.length < ops.size) && Region.sinkB md ops ms.length && Region.chainB md ops ms.length && decide (cntN 0 ms + (cntN 1 ms + cntN 2 ms) = ms.length) &&
    detBN md ops 0 ms 0 (Array.replicate ops.size false) fun listed => mkBN md ops 1 ms 0 listed fun listed => detBN md ops 2 ms 0 listed fun listed => Region.seqB md ops (ops.size - ms.length) ms.length listed
set_option maxRecDepth 100000 in
theorem grow_detsN {L : Array Bool → Act → (World → Prop) → Prop} {K : Act → Prop} {S : World → Prop} {f0 c : Nat} {f : Array Bool → Bool} (hsel : Region.noSelect ops = true) (hs : Region.sinkB md ops n = true) (hc : Region.chainB md ops n = true) (hn : n < ops.size)
    (hL : ∀ listed a S S', (∀ w, S' w → S w) → L listed a S → L listed a S') (hdone : ∀ listed a S, L listed a S → ∀ j ∈ Region.ready md ops listed, n ≤ j)
    (hK : ∀ listed a, f listed = true → HeadInv md ops n listed → K a → wpAnyG P md ops w0 n L f0 listed a S) :
    ∀ (ms : List Nat) (l : List Oper) (k : Nat) (listed : Array Bool) (a : Act), (∀ j, j < ms.length → l[j]? = ops[k + j]?) → k + ms.length = n → HeadInv md ops n listed →
      detBN md ops c ms k listed f = true → wpDets P ops w0 K (selN c ms l) a → wpAnyG P md ops w0 n L (cntN c ms + f0) listed a S
  | [], l, k, listed, a, _, _, inv, hB, h => by rw [show cntN c [] = 0 from rfl, Nat.zero_add]; exact hK _ _ hB inv h
  | m :: ms, [], k, listed, a, hl, hk, _, _, _ => by
    have := hl 0 (by simp)
    simp at this
    simp only [List.length_cons] at hk
    omega
  | m :: ms, o :: l, k, listed, a, hl, hk, inv, hB, h => by
    have hl' : ∀ j, j < ms.length → l[j]? = ops[k + 1 + j]? := fun j hj => by have := hl (j + 1) (by simp only [List.length_cons]; omega); simpa [Nat.add_assoc, Nat.add_comm 1 j] using this
    have hk' : k + 1 + ms.length = n := by simp only [List.length_cons] at hk; omega
    by_cases e : m = c
    · have h0 : ops[k]? = some o := by simpa using (hl 0 (by simp)).symm
      simp only [detBN, if_pos e, Bool.and_eq_true] at hB
      obtain ⟨⟨hr, hf⟩, hB'⟩ := hB
      have hkn : k < n := by omega
      have hr' : k ∈ Region.ready md ops listed := by simpa using hr
      simp only [selN, if_pos e] at h
      obtain ⟨v, hy, hK2⟩ := h
      rw [show cntN c (m :: ms) + f0 = (cntN c ms + f0) + 1 by simp only [cntN, if_pos e]; omega]
      exact grow_first h0 (Region.noSelect_spec hsel) hs hc hn hkn hL hdone _ listed a S inv (Region.free_spec h0 hf) hr' hy
        (grow_detsN hsel hs hc hn hL hdone hK ms l (k + 1) _ _ hl' hk' (inv.set hr' hkn) hB' hK2)
    · simp only [detBN, if_neg e] at hB
      simp only [selN, if_neg e] at h
      rw [show cntN c (m :: ms) = cntN c ms by simp only [cntN, if_neg e]; omega]
      exact grow_detsN hsel hs hc hn hL hdone hK ms l (k + 1) listed a hl' hk' inv hB h
set_option maxRecDepth 100000 in
theorem grow_mksN {L : Array Bool → Act → (World → Prop) → Prop} {K : Act → (World → Prop) → Prop} {f0 c : Nat} {f : Array Bool → Bool}
    (hK : ∀ listed a S, f listed = true → HeadInv md ops n listed → K a S → wpAnyG P md ops w0 n L f0 listed a S) :
    ∀ (ms : List Nat) (l : List Oper) (k : Nat) (listed : Array Bool) (a : Act) (S : World → Prop), (∀ j, j < ms.length → l[j]? = ops[k + j]?) → k + ms.length = n → n ≤ ops.size → HeadInv md ops n listed →
      mkBN md ops c ms k listed f = true → wpMks P ops w0 K (selN c ms l) a S → wpAnyG P md ops w0 n L (cntN c ms + f0) listed a S
  | [], l, k, listed, a, S, _, _, _, inv, hB, h => by rw [show cntN c [] = 0 from rfl, Nat.zero_add]; exact hK _ _ _ hB inv h
  | m :: ms, [], k, listed, a, S, hl, hk, hn, _, _, _ => by
    have := hl 0 (by simp)
    simp at this
    simp only [List.length_cons] at hk
    omega
  | m :: ms, o :: l, k, listed, a, S, hl, hk, hn, inv, hB, h => by
    have hl' : ∀ j, j < ms.length → l[j]? = ops[k + 1 + j]? := fun j hj => by have := hl (j + 1) (by simp only [List.length_cons]; omega); simpa [Nat.add_assoc, Nat.add_comm 1 j] using this
    have hk' : k + 1 + ms.length = n := by simp only [List.length_cons] at hk; omega
    by_cases e : m = c
    · have h0 : ops[k]? = some o := by simpa using (hl 0 (by simp)).symm
      simp only [mkBN, if_pos e, Bool.and_eq_true, decide_eq_true_eq] at hB
      simp only [selN, if_pos e] at h
      obtain ⟨V, hst, hg, hnx⟩ := h
      rw [show cntN c (m :: ms) + f0 = (cntN c ms + f0) + 1 by simp only [cntN, if_pos e]; omega]
      refine ⟨fun h => (by rw [hB.1] at h; cases h), fun i hi => ?_⟩
      have hr' : k ∈ Region.ready md ops listed := by rw [hB.1]; simp
      rw [hB.1] at hi
      obtain rfl : i = k := by simpa using hi
      refine ⟨by omega, ?_⟩
      unfold gOp
      simp only [h0]
      exact ⟨V, hst, hg, fun v hv => grow_mksN hK ms l (i + 1) _ _ _ hl' hk' hn (inv.set hr' (by omega)) hB.2 (hnx v hv)⟩
    · simp only [mkBN, if_neg e] at hB
      simp only [selN, if_neg e] at h
      rw [show cntN c (m :: ms) = cntN c ms by simp only [cntN, if_neg e]; omega]
      exact grow_mksN hK ms l (k + 1) listed a S hl' hk' hn inv hB h
set_option maxRecDepth 100000 in
theorem wp_region_phases {id : Nat} {Q' : Exit → Act → World → Prop} {a : Act} {w : World} {l : List Oper} (ms : List Nat) (hm : P.follows .mixedOrders = true) (hB : phasesB .any l.toArray ms = true)
    (h : ∀ (K : Act → Prop), (∀ a', wpMks P l.toArray w.drew (fun x S => wpDets P l.toArray w.drew (fun x => ∀ w', Q w.drew w' → S w' → wpList P l.toArray Q' (l.drop ms.length) x w') (selN 2 ms l) x) (selN 1 ms l) a' (fun _ => True) → K a') → wpFix P w.drew K (selN 0 ms l) a) : (Code.region id l.toArray true).wp P Q' a w := by
  have h0 := wpFix_dets (ops := l.toArray) (fun _ h => h) _ _ (h _ (fun _ h => h))
  simp only [phasesB, Bool.and_eq_true, decide_eq_true_eq] at hB
  obtain ⟨⟨⟨⟨⟨hsel, hn⟩, hs⟩, hc⟩, hcnt⟩, hlex⟩ := hB
  have hn' : ms.length < l.length := by simpa using hn
  have hdl : (l.drop ms.length).length = l.toArray.size - ms.length := by simp
  have inv0 : HeadInv .any l.toArray ms.length (Array.replicate l.toArray.size false) :=
    ⟨by simp, fun j oj _ hl => (by rw [getD_replicate_false] at hl; cases hl), fun t _ ht => getD_in (by simpa using ht) (getD_replicate_false _ _)⟩
  let L : Array Bool → Act → (World → Prop) → Prop := fun listed x S => Region.seqB .any l.toArray (l.toArray.size - ms.length) ms.length listed = true ∧ ∀ w', Q w.drew w' → S w' → wpList P l.toArray Q' (l.drop ms.length) x w'
  have hL : ∀ listed a S S', (∀ w, S' w → S w) → L listed a S → L listed a S' := fun listed a S S' h1 h2 => ⟨h2.1, fun w' hq hw => h2.2 w' hq (h1 w' hw)⟩
  have hdone : ∀ listed a S, L listed a S → ∀ j ∈ Region.ready .any l.toArray listed, ms.length ≤ j := fun listed a S h => seqB_ready h.1
  have hlj : ∀ j, j < ms.length → l[j]? = l.toArray[0 + j]? := fun j hj => by simp
  have H := grow_detsN (md := .any) (c := 0) (f0 := cntN 1 ms + cntN 2 ms) (S := fun _ => True) hsel hs hc hn hL hdone
    (fun listed a hB inv hK => grow_mksN (md := .any) (n := ms.length) (c := 1) (f0 := cntN 2 ms)
      (fun listed a S hB inv hK => by
        have := grow_detsN (md := .any) (c := 2) (f0 := 0) (S := S) hsel hs hc hn hL hdone (fun listed a hB inv hK => (⟨hB, hK⟩ : L listed a S)) ms l 0 listed a hlj (by omega) inv hB hK
        rwa [Nat.add_zero] at this)
      ms l 0 listed a _ hlj (by omega) (by omega) inv hB hK) ms l 0 _ a hlj (by omega) inv0 hlex h0
  refine wp_region_any hm ?_
  have := wpAny_of_grow (Q' := Q') (g := l.toArray.size - ms.length) (fun listed a' S w' hL hq hw => by
    have := wpAny_of_seq (md := .any) (Q' := Q') (l.drop ms.length) ms.length listed a' w' (fun j => by simp [List.getElem?_drop]) (by rw [hdl]; exact hL.1) (hL.2 w' hq hw)
    rwa [hdl] at this) _ _ _ _ w.drew (fun _ _ h _ => h) H (Q.refl _) trivial
  rw [hcnt, show ms.length + (l.toArray.size - ms.length) = l.toArray.size by omega] at this
  exact this
end
end Go.Proofs.Ytcjpjnneimjfiaa

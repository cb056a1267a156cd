/-
  Regions that draw their order and make memory or store in any order: reads first, then an invariant over which operations are done.
-/
import Derived.Test.YtcjpjnneimjfiaaGrow
namespace Go.Proofs.Ytcjpjnneimjfiaa
open Go.RowKit
section
variable {P : Program} {ops : Array Oper} {w0 : World}
/-- What an operation yields, whatever it does to memory. -/
def stepUpon (P : Program) (w : World) (V : Value → World → Prop) : Result Next → Prop
  | .ok (.value v) w' => V v w'
  | .ok .skip w' => V undef w'
  | .ok (.enter f args) w' => w' = w ∧ Calls P f args w (fun e w'' => ∃ v, e = .returned v ∧ V v w'')
  | _ => False
def opStep (P : Program) (ops : Array Oper) (o : Oper) (a : Act) (w : World) (V : Value → World → Prop) : Prop :=
  if Region.wanted o (yielded ops a.tmps) then stepUpon P w V ((execOp a.eval o).run P w) else V undef w
set_option maxRecDepth 100000 in
theorem stepUpon_mono {w : World} {V V' : Value → World → Prop} (h : ∀ v w', V v w' → V' v w') {r : Result Next} (hh : stepUpon P w V r) : stepUpon P w V' r := by
  cases r with
  | ok x w' =>
    cases x <;> simp only [stepUpon] at hh ⊢
    case enter f args => exact ⟨hh.1, hh.2.mono fun e w'' ⟨v, he, hv⟩ => ⟨v, he, h _ _ hv⟩⟩
    all_goals exact h _ _ hh
  | halt x w' => simp only [stepUpon] at hh
set_option maxRecDepth 100000 in
theorem opStep_mono {o : Oper} {a : Act} {w : World} {V V' : Value → World → Prop} (h : ∀ v w', V v w' → V' v w') (hh : opStep P ops o a w V) : opStep P ops o a w V' := by
  unfold opStep at *
  split
  · rename_i hw
    rw [if_pos hw] at hh
    exact stepUpon_mono h hh
  · rename_i hw
    rw [if_neg hw] at hh
    exact h _ _ hh
set_option maxRecDepth 100000 in
theorem opStep_put {o : Oper} (hs : ∀ cs b, o.op ≠ .select cs b) (a : Act) (w : World) (V : Value → World → Prop) (dst : Option Tmp) (v : Value) (h : ∀ d, dst = some d → d ∉ o.looksAt ops) :
    opStep P ops o (a.put dst v) w V ↔ opStep P ops o a w V := by
  unfold opStep
  rw [wanted_put o a dst v h, execOp_put o hs a dst v h]
/-- All orders, over worlds in which what lay below lies still. -/
def wpAnyQ (P : Program) (ops : Array Oper) (w0 : World) (Qe : Exit → Act → World → Prop) : Nat → Array Bool → Act → World → Prop
  | 0, listed, a, w => Region.ready .any ops listed = [] ∧ Qe .normal a w
  | f + 1, listed, a, w => (Region.ready .any ops listed = [] → Qe .normal a w) ∧
      ∀ i ∈ Region.ready .any ops listed, ∃ o, ops[i]? = some o ∧ opStep P ops o a w (fun v w' => Q w0 w' ∧ wpAnyQ P ops w0 Qe f (listed.setIfInBounds i true) (a.put o.dst v) w')
set_option maxRecDepth 100000 in
theorem wpAny_of_Q {Qe : Exit → Act → World → Prop} : ∀ (f : Nat) (listed : Array Bool) (a : Act) (w : World), wpAnyQ P ops w0 Qe f listed a w → wpAny P .any ops Qe f listed a w
  | 0, _, _, _, h => h
  | f + 1, listed, a, w, h => ⟨h.1, fun i hi => by
      obtain ⟨o, ho, h1⟩ := h.2 i hi
      unfold opStep at h1
      unfold wpOp
      simp only [ho]
      split
      · rename_i hwt
        rw [if_pos hwt] at h1
        refine .inl ?_
        unfold Oper.wp
        generalize (execOp a.eval o).run P w = r at *
        cases r with
        | ok x w' =>
          cases x <;> simp only [stepUpon] at h1 <;> simp only [Oper.upon]
          case value v => exact wpAny_of_Q f _ _ _ h1.2
          case skip => exact wpAny_of_Q f _ _ _ h1.2
          case enter g args =>
            obtain ⟨rfl, h2⟩ := h1
            refine h2.mono fun e w'' ⟨v, he, hv⟩ => ?_
            subst he
            exact wpAny_of_Q f _ _ _ hv.2
        | halt x w' => simp only [stepUpon] at h1
      · rename_i hwt
        rw [if_neg hwt] at h1
        exact wpAny_of_Q f _ _ _ h1.2⟩
/-- A reading operation with a fixed result. -/
def ReadAt (P : Program) (ops : Array Oper) (w0 : World) (o : Oper) (v : Value) (a : Act) : Prop := ∀ w, Q w0 w → opStep P ops o a w (fun u w' => w' = w ∧ a.put o.dst u = a.put o.dst v)
set_option maxRecDepth 100000 in
theorem ReadAt.put {o : Oper} (hs : ∀ cs b, o.op ≠ .select cs b) {v : Value} {a : Act} {dst : Option Tmp} {u : Value} (h : ∀ d, dst = some d → d ∉ o.looksAt ops) (h2 : ∀ d, o.dst = some d → dst ≠ some d) (hf : ReadAt P ops w0 o v a) : ReadAt P ops w0 o v (a.put dst u) := by
  intro w hq
  rw [opStep_put hs a w _ dst u h]
  refine opStep_mono (fun x w' e => ⟨e.1, ?_⟩) (hf w hq)
  rw [← Act.put_comm a x u h2, ← Act.put_comm a v u h2, e.2]
set_option maxRecDepth 100000 in
theorem anyQ_first {i : Nat} {oi : Oper} {v : Value} {Qe : Exit → Act → World → Prop} (hi : ops[i]? = some oi) (hsel : ∀ (j : Nat) (o : Oper) cs b, ops[j]? = some o → o.op ≠ .select cs b) :
    ∀ (f : Nat) (listed : Array Bool) (a : Act) (w : World),
      (∀ j oj, ops[j]? = some oj → j ≠ i → listed.getD j true = false → (∀ e ∈ oj.after, Region.binds .any e = true → e.on ≠ i) → oi.apart ops oj = true) →
      i ∈ Region.ready .any ops listed → ReadAt P ops w0 oi v a → Q w0 w →
      wpAnyQ P ops w0 Qe f (listed.setIfInBounds i true) (a.put oi.dst v) w → wpAnyQ P ops w0 Qe (f + 1) listed a w := by
  intro f
  induction f with
  | zero =>
    intro listed a w _ hr hy hq H
    refine ⟨fun h => (by rw [h] at hr; cases hr), fun j hj => ?_⟩
    by_cases hji : j = i
    · subst hji
      exact ⟨oi, hi, opStep_mono (fun u w' ⟨e1, e2⟩ => by rw [e1, e2]; exact ⟨hq, H⟩) (hy w hq)⟩
    · have := ready_mono hj hji
      rw [H.1] at this
      cases this
  | succ f ih =>
    intro listed a w hfree hr hy hq H
    have hun := (mem_ready.1 hr).1
    refine ⟨fun h => (by rw [h] at hr; cases hr), fun j hj => ?_⟩
    by_cases hji : j = i
    · subst hji
      exact ⟨oi, hi, opStep_mono (fun u w' ⟨e1, e2⟩ => by rw [e1, e2]; exact ⟨hq, H⟩) (hy w hq)⟩
    · obtain ⟨oj, hoj, h1⟩ := H.2 j (ready_mono hj hji)
      obtain ⟨hjun, oj', hoj', hall⟩ := mem_ready.1 hj
      rw [hoj] at hoj'
      cases hoj'
      have hnot : ∀ e ∈ oj.after, Region.binds .any e = true → e.on ≠ i := fun e he hb heq => by
        have h1 := hall e he hb
        rw [heq, getD_both hun] at h1
        cases h1
      have hap := hfree j oj hoj hji hjun hnot
      obtain ⟨p1, p2, p3⟩ := Oper.apart_spec hap
      have hfree' : ∀ k ok, ops[k]? = some ok → k ≠ i → (listed.setIfInBounds j true).getD k true = false →
          (∀ e ∈ ok.after, Region.binds .any e = true → e.on ≠ i) → oi.apart ops ok = true := fun k ok hk hki hun hno => by
        refine hfree k ok hk hki ?_ hno
        by_cases hjk : j = k
        · subst hjk; exact hjun
        · rw [getD_set_ne true hjk] at hun; exact hun
      refine ⟨oj, hoj, opStep_mono (fun u w' ⟨hq', hu⟩ => ⟨hq', ?_⟩) ((opStep_put (fun cs b => hsel j oj cs b hoj) a w _ oi.dst v p1).1 h1)⟩
      refine ih (listed.setIfInBounds j true) (a.put oj.dst u) w' hfree' (ready_mono hr (Ne.symm hji)) (hy.put (fun cs b => hsel i oi cs b hi) p3 p2) hq' ?_
      rw [Array.setIfInBounds_comm _ _ hji, ← Act.put_comm a v u p2]
      exact hu
/-- Reads, one after the other. -/
def wpRd (P : Program) (w0 : World) (K : Act → Prop) : List Oper → Act → Prop
  | [], a => K a
  | o :: rest, a => o.guard = none ∧ ∃ v, (∀ w, Q w0 w → stepUpon P w (fun u w' => w' = w ∧ a.put o.dst u = a.put o.dst v) ((execOp a.eval o).run P w)) ∧ wpRd P w0 K rest (a.put o.dst v)
set_option maxRecDepth 100000 in
theorem wpRd_read {K : Act → Prop} {o : Oper} {rest : List Oper} {a a' : Act} (hgd : o.guard = none) (h : ∀ w, Q w0 w → ∀ K' : Act → Prop, K' a' → o.still P a w K') (h2 : wpRd P w0 K rest a') : wpRd P w0 K (o :: rest) a := by
  have key : ∀ w, Q w0 w → ∃ v, ((execOp a.eval o).run P w = .ok (.value v) w ∨ ((execOp a.eval o).run P w = .ok .skip w ∧ v = undef) ∨
      ∃ f args, (execOp a.eval o).run P w = .ok (.enter f args) w ∧ Calls P f args w (fun e w'' => e = .returned v ∧ w'' = w)) ∧ a.put o.dst v = a' := fun w hq => by
    have h1 := h w hq (fun x => x = a') rfl
    simp only [Oper.still] at h1
    generalize hr : (execOp a.eval o).run P w = r at h1
    cases r with
    | ok x w' =>
      cases x <;> simp only [Oper.stillUpon] at h1
      case value u => obtain ⟨rfl, h2⟩ := h1; exact ⟨u, .inl rfl, h2⟩
      case skip => obtain ⟨rfl, h2⟩ := h1; exact ⟨undef, .inr (.inl ⟨rfl, rfl⟩), h2⟩
      case enter f args => obtain ⟨rfl, v, hc, h2⟩ := h1; exact ⟨v, .inr (.inr ⟨f, args, rfl, hc⟩), h2⟩
    | halt x w' => simp only [Oper.stillUpon] at h1
  obtain ⟨v, _, hv⟩ := key w0 (Q.refl w0)
  refine ⟨hgd, v, fun w hq => ?_, by rw [hv]; exact h2⟩
  obtain ⟨u, hr | ⟨hr, rfl⟩ | ⟨f, args, hr, hc⟩, hu⟩ := key w hq
  · rw [hr]; exact ⟨rfl, hu.trans hv.symm⟩
  · rw [hr]; exact ⟨rfl, hu.trans hv.symm⟩
  · rw [hr]; exact ⟨rfl, hc.mono fun e w'' ⟨he, hw2⟩ => ⟨u, he, hw2, hu.trans hv.symm⟩⟩
set_option maxRecDepth 100000 in
theorem anyQ_reads {Qe : Exit → Act → World → Prop} {K : Act → Prop} {f0 : Nat} {c : Array Bool → Bool} (hsel : Region.noSelect ops = true) {w : World} (hq : Q w0 w)
    (hK : ∀ listed a, c listed = true → listed.size = ops.size → K a → wpAnyQ P ops w0 Qe f0 listed a w) :
    ∀ (ms : List Bool) (l : List Oper) (k : Nat) (listed : Array Bool) (a : Act), (∀ j, j < ms.length → l[j]? = ops[k + j]?) → k + ms.length = ops.size → listed.size = ops.size →
      detB .any ops ms k listed c = true → wpRd P w0 K (sel true ms l) a → wpAnyQ P ops w0 Qe (cnt true ms + f0) listed a w
  | [], l, k, listed, a, _, _, hsz, hB, h => by rw [show cnt true [] = 0 from rfl, Nat.zero_add]; exact hK _ _ hB hsz h
  | m :: ms, [], k, listed, a, hl, hk, _, _, _ => by
    have := hl 0 (by simp)
    simp at this
    simp only [List.length_cons] at hk
    omega
  | false :: ms, o :: l, k, listed, a, hl, hk, hsz, hB, h => by
    have e : cnt true (false :: ms) = cnt true ms := by simp [cnt]
    rw [e]
    exact anyQ_reads hsel hq hK ms l (k + 1) listed a (fun j hj => by have := hl (j + 1) (by simp only [List.length_cons]; omega); simpa [Nat.add_assoc, Nat.add_comm 1 j] using this) (by simp only [List.length_cons] at hk; omega) hsz hB h
  | true :: ms, o :: l, k, listed, a, hl, hk, hsz, hB, h => by
    have h0 : ops[k]? = some o := by simpa using (hl 0 (by simp)).symm
    simp only [detB, Bool.and_eq_true] at hB
    obtain ⟨⟨hr, hf⟩, hB'⟩ := hB
    have hr' : k ∈ Region.ready .any ops listed := by simpa using hr
    rw [sel_tt] at h
    obtain ⟨hgd, v, hy, hK2⟩ := h
    have e : cnt true (true :: ms) + f0 = (cnt true ms + f0) + 1 := by simp [cnt]; omega
    rw [e]
    exact anyQ_first h0 (Region.noSelect_spec hsel) _ listed a w (Region.free_spec h0 hf) hr' (fun w hq => by unfold opStep; rw [if_pos (by simp [Region.wanted, hgd])]; exact hy w hq) hq
      (anyQ_reads hsel hq hK ms l (k + 1) _ _ (fun j hj => by have := hl (j + 1) (by simp only [List.length_cons]; omega); simpa [Nat.add_assoc, Nat.add_comm 1 j] using this) (by simp only [List.length_cons] at hk; omega) (by simpa using hsz) hB' hK2)

/-- What the walk is told of an operation that is no read: its index, its slot, the operations of this kind whose slots it looks at, and those that come before it. -/
structure Rw where
  i : Nat
  dst : Option Tmp
  seen : List (Nat × Tmp)
  pre : List Nat
def putsOf (a : Act) (l : List (Option Tmp × Value)) : Act := l.foldl (fun a p => a.put p.1 p.2) a
set_option maxRecDepth 100000 in
theorem put_size (a : Act) (d : Option Tmp) (v : Value) : (a.put d v).tmps.size = a.tmps.size := by cases d <;> simp [Act.put]
set_option maxRecDepth 100000 in
theorem eval_put (a : Act) (d : Option Tmp) (v : Value) (t : Tmp) : (a.put d v).eval (.tmp t) = if d = some t ∧ t < a.tmps.size then v else a.eval (.tmp t) := by
  cases d with
  | none => simp [Act.put]
  | some d =>
    by_cases e : d = t
    · subst e
      by_cases hs : d < a.tmps.size
      · rw [if_pos ⟨rfl, hs⟩]; simp [Act.put, Act.eval, hs]
      · rw [if_neg (fun h => hs h.2)]; simp [Act.put, Act.eval, hs]
    · rw [if_neg (fun h => e (by injection h.1))]
      exact Act.eval_put fun x hx hxd => e (by injection hx with hx; injection hxd with hxd; exact hx.trans hxd.symm)
set_option maxRecDepth 100000 in
theorem eval_puts (t : Tmp) (v0 : Value) : ∀ (l : List (Option Tmp × Value)) (a : Act), (∀ p ∈ l, p.1 = some t → p.2 = v0) →
    (putsOf a l).eval (.tmp t) = if (∃ p ∈ l, p.1 = some t) ∧ t < a.tmps.size then v0 else a.eval (.tmp t)
  | [], a, _ => by simp [putsOf]
  | p :: l, a, h => by
    have h1 := eval_puts t v0 l (a.put p.1 p.2) (fun q hq => h q (List.mem_cons_of_mem _ hq))
    have h2 : putsOf a (p :: l) = putsOf (a.put p.1 p.2) l := rfl
    rw [h2, h1, put_size, eval_put]
    by_cases hs : t < a.tmps.size
    · by_cases hl : ∃ q ∈ l, q.1 = some t
      · rw [if_pos ⟨hl, hs⟩, if_pos ⟨by obtain ⟨q, hq, e⟩ := hl; exact ⟨q, List.mem_cons_of_mem _ hq, e⟩, hs⟩]
      · rw [if_neg (fun h => hl h.1)]
        by_cases e : p.1 = some t
        · rw [if_pos ⟨e, hs⟩, if_pos ⟨⟨p, List.mem_cons_self .., e⟩, hs⟩]
          exact h p (List.mem_cons_self ..) e
        · rw [if_neg (fun h => e h.1), if_neg (fun ⟨⟨q, hq, e2⟩, _⟩ => by
            rcases List.mem_cons.1 hq with rfl | hq
            · exact e e2
            · exact hl ⟨q, hq, e2⟩)]
    · simp [hs]
def actD (T : List Rw) (D : Nat → Bool) (vs : Nat → Value) (a : Act) : Act := T.foldl (fun a r => if D r.i then a.put r.dst (vs r.i) else a) a
set_option maxRecDepth 100000 in
theorem actD_puts (T : List Rw) (D : Nat → Bool) (vs : Nat → Value) : ∀ a, actD T D vs a = putsOf a ((T.filter fun r => D r.i).map fun r => (r.dst, vs r.i)) := by
  induction T with
  | nil => intro a; rfl
  | cons r T ih =>
    intro a
    have h2 : actD (r :: T) D vs a = actD T D vs (if D r.i then a.put r.dst (vs r.i) else a) := rfl
    rw [h2, ih]
    by_cases e : D r.i = true
    · rw [if_pos e, List.filter_cons, if_pos e]; rfl
    · rw [if_neg e, List.filter_cons, if_neg e]
set_option maxRecDepth 100000 in
theorem actD_put (T : List Rw) (D : Nat → Bool) (vs : Nat → Value) (d : Option Tmp) (v : Value) (h : ∀ r ∈ T, ∀ x, r.dst = some x → d ≠ some x) : ∀ a, actD T D vs (a.put d v) = (actD T D vs a).put d v := by
  induction T with
  | nil => intro a; rfl
  | cons r T ih =>
    intro a
    have h2 : ∀ a, actD (r :: T) D vs a = actD T D vs (if D r.i then a.put r.dst (vs r.i) else a) := fun _ => rfl
    rw [h2, h2, ← ih (fun r hr => h r (List.mem_cons_of_mem _ hr))]
    by_cases e : D r.i = true
    · rw [if_pos e, if_pos e, Act.put_comm a (vs r.i) v (h r (List.mem_cons_self ..))]
    · rw [if_neg e, if_neg e]
set_option maxRecDepth 100000 in
theorem actD_congr (T : List Rw) {D D' : Nat → Bool} {vs vs' : Nat → Value} (h : ∀ r ∈ T, D r.i = D' r.i ∧ vs r.i = vs' r.i) : ∀ a, actD T D vs a = actD T D' vs' a := by
  induction T with
  | nil => intro a; rfl
  | cons r T ih =>
    intro a
    have h2 : ∀ D vs a, actD (r :: T) D vs a = actD T D vs (if D r.i then a.put r.dst (vs r.i) else a) := fun _ _ _ => rfl
    obtain ⟨e1, e2⟩ := h r (List.mem_cons_self ..)
    rw [h2, h2, e1, e2]
    exact ih (fun r hr => h r (List.mem_cons_of_mem _ hr)) _
set_option maxRecDepth 100000 in
theorem actD_none (T : List Rw) (vs : Nat → Value) (a : Act) : actD T (fun _ => false) vs a = a := by
  induction T generalizing a with
  | nil => rfl
  | cons r T ih => exact ih a
/-- Slots and indices differ. -/
def distB : List Rw → Bool
  | [] => true
  | r :: T => (T.all fun s => s.i != r.i && (r.dst.isNone || s.dst != r.dst)) && distB T
set_option maxRecDepth 100000 in
theorem actD_step {T : List Rw} (hd : distB T = true) {D : Nat → Bool} {vs : Nat → Value} {r : Rw} (hr : r ∈ T) (hD : D r.i = false) (v : Value) : ∀ a,
    (actD T D vs a).put r.dst v = actD T (fun j => j == r.i || D j) (fun j => if j = r.i then v else vs j) a := by
  induction T with
  | nil => cases hr
  | cons s T ih =>
    intro a
    have h2 : ∀ D vs a, actD (s :: T) D vs a = actD T D vs (if D s.i then a.put s.dst (vs s.i) else a) := fun _ _ _ => rfl
    simp only [distB, Bool.and_eq_true, List.all_eq_true] at hd
    obtain ⟨hd1, hd2⟩ := hd
    rw [h2, h2]
    rcases List.mem_cons.1 hr with rfl | hr'
    · have e1 : actD T (fun j => j == r.i || D j) (fun j => if j = r.i then v else vs j) (a.put r.dst v) = actD T D vs (a.put r.dst v) := actD_congr T (fun s hs => by
        have := (hd1 s hs).1
        have hne : s.i ≠ r.i := by simpa using this
        exact ⟨by simp [hne], if_neg hne⟩) _
      rw [if_neg (by rw [hD]; simp), if_pos (by simp), if_pos rfl, e1, actD_put T D vs r.dst v (fun s hs x hx e => by
        have := (hd1 s hs).2
        simp [e, hx] at this)]
    · have hne : s.i ≠ r.i := by have := (hd1 r hr').1; simp at this; exact fun h => this h.symm
      rw [ih hd2 hr']
      congr 1
      simp [hne]
/-- The check of the table. -/
def rowB (ops : Array Oper) (T : List Rw) (r : Rw) : Bool :=
  match ops[r.i]? with
  | none => false
  | some o => o.dst == r.dst && o.guard.isNone && (r.seen.all fun jd => (T.any fun s => s.i == jd.1 && s.dst == some jd.2) && r.pre.contains jd.1) &&
      (T.all fun s => match s.dst with | none => true | some d => !(o.looksAt ops).contains d || r.seen.contains (s.i, d)) &&
      (r.pre.all fun j => (T.any fun s => s.i == j) && o.after.any fun e => Region.binds .any e && e.on == j)
/-- The indices that the mask calls false. -/
def idxs : Nat → List Bool → List Nat
  | _, [] => []
  | k, true :: ms => idxs (k + 1) ms
  | k, false :: ms => k :: idxs (k + 1) ms
set_option maxRecDepth 100000 in
theorem idxs_len (k : Nat) (ms : List Bool) : (idxs k ms).length = cnt false ms := by
  induction ms generalizing k with
  | nil => rfl
  | cons b ms ih => cases b <;> simp [idxs, cnt, ih] ; omega
set_option maxRecDepth 100000 in
theorem cnt_sum (ms : List Bool) : cnt true ms + cnt false ms = ms.length := by
  induction ms with
  | nil => rfl
  | cons m ms ih => cases m <;> simp [cnt] <;> omega
set_option maxRecDepth 100000 in
theorem idxs_mem (k : Nat) (ms : List Bool) : ∀ i, i ∈ idxs k ms → k ≤ i ∧ ms.getD (i - k) false = false := by
  induction ms generalizing k with
  | nil => intro i h; cases h
  | cons b ms ih =>
    intro i h
    have key : i ∈ idxs (k + 1) ms → k ≤ i ∧ (b :: ms).getD (i - k) false = false := fun h => by
      obtain ⟨h1, h2⟩ := ih (k + 1) i h
      refine ⟨by omega, ?_⟩
      rw [show i - k = (i - (k + 1)) + 1 by omega]
      simpa using h2
    cases b with
    | true => exact key h
    | false =>
      rcases List.mem_cons.1 h with rfl | h
      · exact ⟨Nat.le_refl _, by simp⟩
      · exact key h
def freeB (ops : Array Oper) (ms : List Bool) (T : List Rw) : Bool :=
  Region.noSelect ops && decide (ms.length = ops.size) && distB T && (T.all fun r => rowB ops T r) && decide (T.map (·.i) = idxs 0 ms) &&
    ((List.range ops.size).all fun i => ms.getD i false || T.any fun r => r.i == i) &&
    ((List.range ops.size).all fun i => match ops[i]? with | none => true | some o => o.after.all fun e => decide (e.on < i)) &&
    detB .any ops ms 0 (Array.replicate ops.size false) fun listed => (List.range ops.size).all fun j => listed.getD j false == ms.getD j false
def wpRows (P : Program) (w0 : World) (a0 : Act) (J : (Nat → Bool) → (Nat → Value) → World → Prop) : List Rw → List Oper → Prop
  | r :: T, o :: l => (∀ (D : Nat → Bool) (vs : Nat → Value) (w : World), Q w0 w → J D vs w → D r.i = false → (∀ j ∈ r.pre, D j = true) →
      stepUpon P w (fun v w' => Q w0 w' ∧ J (fun j => j == r.i || D j) (fun j => if j = r.i then v else vs j) w') ((execOp ((r.seen.foldl (fun a jd => a.put (some jd.2) (vs jd.1)) a0)).eval o).run P w)) ∧ wpRows P w0 a0 J T l
  | _, _ => True
set_option maxRecDepth 100000 in
theorem cnt_un (T : List Rw) {D : Nat → Bool} {r : Rw} (hr : r ∈ T) (hD : D r.i = false) : T.countP (fun s => !(s.i == r.i || D s.i)) < T.countP (fun s => !D s.i) := by
  induction T with
  | nil => cases hr
  | cons s T ih =>
    have hle : T.countP (fun s => !(s.i == r.i || D s.i)) ≤ T.countP (fun s => !D s.i) := List.countP_mono_left (fun x _ h => by
      cases hx : D x.i
      · rfl
      · simp [hx] at h)
    have ih' : r ∈ T → T.countP (fun s => !(s.i == r.i || D s.i)) < T.countP (fun s => !D s.i) := ih
    clear ih
    rw [List.countP_cons, List.countP_cons]
    generalize T.countP (fun s => !(s.i == r.i || D s.i)) = x at hle ih' ⊢
    generalize T.countP (fun s => !D s.i) = y at hle ih' ⊢
    rcases List.mem_cons.1 hr with rfl | hr'
    · simp [hD]; omega
    · have := ih' hr'
      cases hx : D s.i
      · cases hy : (s.i == r.i) <;> simp <;> omega
      · simp; omega
set_option maxRecDepth 100000 in
theorem dist_uniq {T : List Rw} (hd : distB T = true) {s s' : Rw} {t : Tmp} (hs : s ∈ T) (ht : s.dst = some t) (hs' : s' ∈ T) (ht' : s'.dst = some t) : s'.i = s.i := by
  induction T with
  | nil => cases hs
  | cons r T ih =>
    simp only [distB, Bool.and_eq_true, List.all_eq_true] at hd
    obtain ⟨hd1, hd2⟩ := hd
    rcases List.mem_cons.1 hs with rfl | h1 <;> rcases List.mem_cons.1 hs' with rfl | h2
    · rfl
    · have := (hd1 s' h2).2
      simp [ht, ht'] at this
    · have := (hd1 s h1).2
      simp [ht, ht'] at this
    · exact ih hd2 h1 h2
set_option maxRecDepth 100000 in
theorem anyQ_inv {Qe : Exit → Act → World → Prop} {ms : List Bool} {T : List Rw} {a0 : Act} {J : (Nat → Bool) → (Nat → Value) → World → Prop}
    (hsel : Region.noSelect ops = true) (hdist : distB T = true) (hrow : ∀ r ∈ T, rowB ops T r = true) (hcov : ∀ i, i < ops.size → ms.getD i false = true ∨ ∃ r ∈ T, r.i = i)
    (hback : ∀ (i : Nat) (o : Oper), ops[i]? = some o → ∀ e ∈ o.after, e.on < i)
    (hstep : ∀ r ∈ T, ∀ o, ops[r.i]? = some o → ∀ (D : Nat → Bool) (vs : Nat → Value) (w : World), Q w0 w → J D vs w → D r.i = false → (∀ j ∈ r.pre, D j = true) →
      stepUpon P w (fun v w' => Q w0 w' ∧ J (fun j => j == r.i || D j) (fun j => if j = r.i then v else vs j) w') ((execOp ((r.seen.foldl (fun a jd => a.put (some jd.2) (vs jd.1)) a0)).eval o).run P w))
    (hend : ∀ (D : Nat → Bool) (vs : Nat → Value) (w : World), (∀ r ∈ T, D r.i = true) → Q w0 w → J D vs w → Qe .normal (T.foldl (fun a r => a.put r.dst (vs r.i)) a0) w) :
    ∀ (f : Nat) (listed : Array Bool) (D : Nat → Bool) (vs : Nat → Value) (w : World), listed.size = ops.size → (∀ j, j < ops.size → listed.getD j false = (ms.getD j false || D j)) → T.countP (fun r => !D r.i) ≤ f → (∀ r ∈ T, ms.getD r.i false = false) → Q w0 w → J D vs w → wpAnyQ P ops w0 Qe f listed (actD T D vs a0) w := by
  have allend : ∀ (listed : Array Bool) (D : Nat → Bool) (vs : Nat → Value) (w : World), listed.size = ops.size → (∀ j, j < ops.size → listed.getD j false = (ms.getD j false || D j)) → (∀ r ∈ T, ms.getD r.i false = false) → Q w0 w → J D vs w → Region.ready .any ops listed = [] → Qe .normal (actD T D vs a0) w := by
    intro listed D vs w hsz hl hms hq hJ hr
    have hall : ∀ i, i < ops.size → listed.getD i false = true := by
      intro i
      induction i using Nat.strongRecOn with
      | ind i ih =>
        intro hi
        cases hx : listed.getD i false with
        | true => rfl
        | false =>
          have ho : ops[i]? = some ops[i] := by simp [hi]
          have hm : i ∈ Region.ready .any ops listed := mem_ready.2 ⟨by
            have hh : i < listed.size := by omega
            simpa [hh] using hx, ops[i], ho, fun e he _ => ih e.on (hback i _ ho e he) (by have := hback i _ ho e he; omega)⟩
          rw [hr] at hm
          cases hm
    have hD : ∀ r ∈ T, D r.i = true := fun r hr => by
      have h1 := hrow r hr
      unfold rowB at h1
      split at h1
      · cases h1
      · rename_i o ho
        have hi := (Array.getElem?_eq_some_iff.1 ho).1
        have := hl r.i hi
        rw [hall r.i hi, hms r hr] at this
        simpa using this.symm
    have e : actD T D vs a0 = T.foldl (fun a r => a.put r.dst (vs r.i)) a0 := by
      rw [actD_congr T (D' := fun _ => true) (vs' := vs) (fun r hr => ⟨hD r hr, rfl⟩)]
      simp [actD]
    rw [e]
    exact hend D vs w hD hq hJ
  intro f
  induction f with
  | zero =>
    intro listed D vs w hsz hl hc hms hq hJ
    have hnil : Region.ready .any ops listed = [] := by
      cases hx : Region.ready .any ops listed with
      | nil => rfl
      | cons i rest =>
        exfalso
        have hi : i ∈ Region.ready .any ops listed := by rw [hx]; exact List.mem_cons_self ..
        obtain ⟨h1, o, ho, _⟩ := mem_ready.1 hi
        have his := (Array.getElem?_eq_some_iff.1 ho).1
        have h2 : listed.getD i false = false := getD_both h1
        rw [hl i his] at h2
        rcases hcov i his with h | ⟨r, hr, rfl⟩
        · rw [h] at h2; simp at h2
        · have hz := List.countP_eq_zero.1 (Nat.le_zero.1 hc) r hr
          simp at hz h2
          rw [h2.2] at hz
          cases hz
    exact ⟨hnil, allend listed D vs w hsz hl hms hq hJ hnil⟩
  | succ f ih =>
    intro listed D vs w hsz hl hc hms hq hJ
    refine ⟨allend listed D vs w hsz hl hms hq hJ, fun i hi => ?_⟩
    obtain ⟨h1, o, ho, hpre⟩ := mem_ready.1 hi
    have his := (Array.getElem?_eq_some_iff.1 ho).1
    have h2 : listed.getD i false = false := getD_both h1
    rw [hl i his] at h2
    rcases hcov i his with h | ⟨r, hr, rfl⟩
    · rw [h] at h2; simp at h2
    have hDr : D r.i = false := by simp at h2; exact h2.2
    refine ⟨o, ho, ?_⟩
    have hrb := hrow r hr
    unfold rowB at hrb
    simp only [ho, Bool.and_eq_true, beq_iff_eq, List.all_eq_true] at hrb
    obtain ⟨⟨⟨⟨hdst, hgd⟩, hseen⟩, hlook⟩, hpr⟩ := hrb
    have hgd' : o.guard = none := by simpa using hgd
    have hpreD : ∀ j ∈ r.pre, listed.getD j false = true := fun j hj => by
      obtain ⟨e, he, hb⟩ := Array.any_eq_true'.1 (hpr j hj).2
      simp only [Bool.and_eq_true, beq_iff_eq] at hb
      rw [← hb.2]
      exact hpre e he hb.1
    have hseenD : ∀ jd ∈ r.seen, D jd.1 = true ∧ ∃ s ∈ T, s.i = jd.1 ∧ s.dst = some jd.2 := fun jd hjd => by
      have h3 := hseen jd hjd
      simp only [List.any_eq_true, Bool.and_eq_true, beq_iff_eq, List.contains_iff_mem] at h3
      obtain ⟨⟨s, hs, e1, e2⟩, hp⟩ := h3
      refine ⟨?_, s, hs, e1, e2⟩
      have h4 := hpreD _ hp
      have hsr := hrow s hs
      unfold rowB at hsr
      split at hsr
      · cases hsr
      · rename_i o2 ho2
        have hi2 := (Array.getElem?_eq_some_iff.1 ho2).1
        rw [← e1, hl _ hi2, hms s hs] at h4
        rw [← e1]
        simpa using h4
    have hex : execOp (actD T D vs a0).eval o = execOp ((r.seen.foldl (fun a jd => a.put (some jd.2) (vs jd.1)) a0)).eval o := by
      have e2 : (r.seen.foldl (fun a jd => a.put (some jd.2) (vs jd.1)) a0) = putsOf a0 (r.seen.map fun jd => (some jd.2, vs jd.1)) := by
        unfold putsOf; rw [List.foldl_map]
      rw [e2, actD_puts]
      refine execOp_congr o (fun cs b => Region.noSelect_spec hsel r.i o cs b ho) fun x hx => ?_
      have hput : ∀ (l : List (Option Tmp × Value)) (a : Act) (y : Operand), (∀ t, y ≠ .tmp t) → (putsOf a l).eval y = a.eval y := by
        intro l
        induction l with
        | nil => intro a y _; rfl
        | cons p l ih => intro a y hy; exact (ih (a.put p.1 p.2) y hy).trans (Act.eval_put fun d _ => hy d)
      cases x with
      | tmp t =>
        have hmem : t ∈ o.looksAt ops := List.mem_append_left _ (List.mem_filterMap.2 ⟨.tmp t, by simpa using hx, rfl⟩)
        by_cases hT : ∃ s ∈ T, s.dst = some t
        · obtain ⟨s, hs, hst⟩ := hT
          have huniq : ∀ s' ∈ T, s'.dst = some t → s'.i = s.i := fun s' h1 h2 => dist_uniq hdist hs hst h1 h2
          have hsee : (s.i, t) ∈ r.seen := by
            have := hlook s hs
            simp only [hst, Bool.or_eq_true, Bool.not_eq_true', List.contains_iff_mem] at this
            rcases this with h | h
            · exfalso
              have h' : (o.looksAt ops).contains t = true := by simpa using hmem
              rw [h] at h'; cases h'
            · exact h
          rw [eval_puts t (vs s.i) _ a0 (fun p hp hpt => by
            obtain ⟨q, hq, rfl⟩ := List.mem_map.1 hp
            have hq' := (List.mem_filter.1 hq).1
            rw [huniq q hq' hpt]), eval_puts t (vs s.i) _ a0 (fun p hp hpt => by
            obtain ⟨q, hq, rfl⟩ := List.mem_map.1 hp
            obtain ⟨_, s', hs', e1, e2⟩ := hseenD q hq
            have : s'.i = s.i := huniq s' hs' (e2.trans hpt)
            show vs q.1 = vs s.i
            rw [← e1, this])]
          have p1 : ∃ p ∈ (T.filter fun r => D r.i).map fun r => (r.dst, vs r.i), p.1 = some t := ⟨_, List.mem_map.2 ⟨s, List.mem_filter.2 ⟨hs, (hseenD _ hsee).1⟩, rfl⟩, hst⟩
          have p2 : ∃ p ∈ r.seen.map fun jd => (some jd.2, vs jd.1), p.1 = some t := ⟨_, List.mem_map.2 ⟨(s.i, t), hsee, rfl⟩, rfl⟩
          simp only [p1, p2]
        · rw [eval_puts t undef _ a0 (fun p hp hpt => by
            obtain ⟨q, hq, rfl⟩ := List.mem_map.1 hp
            exact absurd ⟨q, (List.mem_filter.1 hq).1, hpt⟩ hT), eval_puts t undef _ a0 (fun p hp hpt => by
            obtain ⟨q, hq, rfl⟩ := List.mem_map.1 hp
            obtain ⟨_, s', hs', e1, e2⟩ := hseenD q hq
            exact absurd ⟨s', hs', e2.trans hpt⟩ hT)]
          rw [if_neg (fun ⟨⟨p, hp, hpt⟩, _⟩ => by
            obtain ⟨q, hq, rfl⟩ := List.mem_map.1 hp
            exact hT ⟨q, (List.mem_filter.1 hq).1, hpt⟩), if_neg (fun ⟨⟨p, hp, hpt⟩, _⟩ => by
            obtain ⟨q, hq, rfl⟩ := List.mem_map.1 hp
            obtain ⟨_, s', hs', e1, e2⟩ := hseenD q hq
            exact hT ⟨s', hs', e2.trans hpt⟩)]
      | _ => rw [hput _ _ _ (fun t h => by cases h), hput _ _ _ (fun t h => by cases h)]
    have h5 := hstep r hr o ho D vs w hq hJ hDr (fun j hj => by
      have h4 := hpreD j hj
      have hjs : j < ops.size := by
        obtain ⟨e, he, hb⟩ := Array.any_eq_true'.1 (hpr j hj).2
        simp only [Bool.and_eq_true, beq_iff_eq] at hb
        have := hback r.i o ho e he
        omega
      obtain ⟨s, hs, hsj⟩ := List.any_eq_true.1 (hpr j hj).1
      have hsj' : s.i = j := by simpa using hsj
      rw [hl j hjs, ← hsj', hms s hs, hsj'] at h4
      simpa using h4)
    unfold opStep
    rw [if_pos (by simp [Region.wanted, hgd']), hex]
    refine stepUpon_mono (fun v w' ⟨hq', hJ'⟩ => ⟨hq', ?_⟩) h5
    rw [hdst, actD_step hdist hr hDr v a0]
    refine ih _ _ _ w' (by simpa using hsz) (fun j hj => ?_) ?_ hms hq' hJ'
    · by_cases e : j = r.i
      · subst e
        have hh : r.i < listed.size := by omega
        simp [hh]
      · rw [getD_set_ne false (Ne.symm e), hl j hj]
        have e' : (j == r.i) = false := by simpa using e
        rw [e', Bool.false_or]
    · have := cnt_un T hr hDr
      omega
set_option maxRecDepth 100000 in
theorem rows_at {w0 : World} {a0 : Act} {J : (Nat → Bool) → (Nat → Value) → World → Prop} {l : List Oper} : ∀ (ms : List Bool) (T : List Rw) (m : List Oper) (k : Nat), (∀ j, j < ms.length → m[j]? = l[k + j]?) → ms.length ≤ m.length →
    T.map (·.i) = idxs k ms → wpRows P w0 a0 J T (sel false ms m) → ∀ r ∈ T, ∀ o, l[r.i]? = some o → ∀ (D : Nat → Bool) (vs : Nat → Value) (w : World), Q w0 w → J D vs w → D r.i = false → (∀ j ∈ r.pre, D j = true) →
      stepUpon P w (fun v w' => Q w0 w' ∧ J (fun j => j == r.i || D j) (fun j => if j = r.i then v else vs j) w') ((execOp ((r.seen.foldl (fun a jd => a.put (some jd.2) (vs jd.1)) a0)).eval o).run P w)
  | [], T, m, k, _, _, hT, _ => by
    cases T with
    | nil => intro r hr; cases hr
    | cons r T => simp [idxs] at hT
  | b :: ms, T, [], k, _, hl, _, _ => by simp at hl
  | true :: ms, T, o :: m, k, hm, hl, hT, h => rows_at ms T m (k + 1) (fun j hj => by have := hm (j + 1) (by simp only [List.length_cons]; omega); simpa [Nat.add_assoc, Nat.add_comm 1 j] using this) (by simpa using hl) hT h
  | false :: ms, [], o :: m, k, _, _, hT, _ => by simp [idxs] at hT
  | false :: ms, r :: T, o :: m, k, hm, hl, hT, h => by
    have h0 : l[k]? = some o := by simpa using (hm 0 (by simp)).symm
    simp only [List.map_cons, idxs, List.cons.injEq] at hT
    rw [sel_ff] at h
    intro s hs o' ho'
    rcases List.mem_cons.1 hs with rfl | hs
    · rw [hT.1, h0] at ho'
      cases ho'
      exact h.1
    · exact rows_at ms T m (k + 1) (fun j hj => by have := hm (j + 1) (by simp only [List.length_cons]; omega); simpa [Nat.add_assoc, Nat.add_comm 1 j] using this) (by simpa using hl) hT.2 h.2 s hs o' ho'
set_option maxRecDepth 100000 in
theorem wpRows_cons {w0 : World} {a0 : Act} {J : (Nat → Bool) → (Nat → Value) → World → Prop} {r : Rw} {T : List Rw} {o : Oper} {l : List Oper}
    (h : ∀ (D : Nat → Bool) (vs : Nat → Value) (w : World), Q w0 w → J D vs w → D r.i = false → (∀ j ∈ r.pre, D j = true) →
      stepUpon P w (fun v w' => Q w0 w' ∧ J (fun j => j == r.i || D j) (fun j => if j = r.i then v else vs j) w') ((execOp ((r.seen.foldl (fun a jd => a.put (some jd.2) (vs jd.1)) a0)).eval o).run P w))
    (h2 : wpRows P w0 a0 J T l) : wpRows P w0 a0 J (r :: T) (o :: l) := ⟨h, h2⟩
set_option maxRecDepth 100000 in
theorem wpRows_nil {w0 : World} {a0 : Act} {J : (Nat → Bool) → (Nat → Value) → World → Prop} {l : List Oper} : wpRows P w0 a0 J [] l := trivial
set_option maxRecDepth 100000 in
/-- A region that draws its order: its reads (true in the mask) first, then an invariant over what is done. -/
theorem wp_region_free {id : Nat} {Q' : Exit → Act → World → Prop} {a : Act} {w : World} {l : List Oper} (ms : List Bool) (T : List Rw) (hm : P.follows .mixedOrders = true) (hB : freeB l.toArray ms T = true)
    (h : ∀ (K : Act → Prop), (∀ a0, (∃ J : (Nat → Bool) → (Nat → Value) → World → Prop, J (fun _ => false) (fun _ => undef) w.drew ∧ wpRows P w.drew a0 J T (sel false ms l) ∧
        ∀ (D : Nat → Bool) (vs : Nat → Value) (w' : World), (∀ r ∈ T, D r.i = true) → Q w.drew w' → J D vs w' → wpList P l.toArray Q' [] (T.foldl (fun a r => a.put r.dst (vs r.i)) a0) w') → K a0) → wpRd P w.drew K (sel true ms l) a) : (Code.region id l.toArray true).wp P Q' a w := by
  simp only [freeB, Bool.and_eq_true, decide_eq_true_eq] at hB
  obtain ⟨⟨⟨⟨⟨⟨⟨hsel, hn⟩, hdist⟩, hrow⟩, hidx⟩, hcov⟩, hback⟩, hdet⟩ := hB
  have hn' : ms.length = l.length := by simpa using hn
  refine wp_region_any hm ?_
  refine wpAny_of_Q (w0 := w.drew) _ _ _ _ ?_
  have hcnt : cnt true ms + cnt false ms = l.toArray.size := by rw [cnt_sum, hn]
  have hlenT : T.length = cnt false ms := by rw [← idxs_len 0 ms, ← hidx, List.length_map]
  suffices hs : wpAnyQ P l.toArray w.drew Q' (cnt true ms + cnt false ms) (Array.replicate l.toArray.size false) a w.drew by rwa [hcnt] at hs
  have hback' : ∀ (i : Nat) (o : Oper), l.toArray[i]? = some o → ∀ e ∈ o.after, e.on < i := fun i o ho e he => by
    have hi := (Array.getElem?_eq_some_iff.1 ho).1
    have := List.all_eq_true.1 hback i (List.mem_range.2 hi)
    simp only [ho] at this
    have := Array.all_eq_true_iff_forall_mem.1 this e he
    simpa using this
  refine anyQ_reads (w0 := w.drew) (w := w.drew) (K := fun a0 => ∃ J : (Nat → Bool) → (Nat → Value) → World → Prop, J (fun _ => false) (fun _ => undef) w.drew ∧ wpRows P w.drew a0 J T (sel false ms l) ∧
        ∀ (D : Nat → Bool) (vs : Nat → Value) (w' : World), (∀ r ∈ T, D r.i = true) → Q w.drew w' → J D vs w' → wpList P l.toArray Q' [] (T.foldl (fun a r => a.put r.dst (vs r.i)) a0) w') hsel (Q.refl _) ?_ ms l 0 _ a (fun j _ => by rw [Nat.zero_add]; simp) (by omega) (by simp) hdet (h _ (fun _ h => h))
  intro listed a0 hc hsz ⟨J, hJ0, hrows, hend⟩
  have hls : ∀ j, j < l.toArray.size → listed.getD j false = (ms.getD j false || false) := fun j hj => by
    have := List.all_eq_true.1 hc j (List.mem_range.2 hj)
    rw [Bool.or_false]
    simpa using this
  rw [← actD_none T (fun _ => undef) a0]
  refine anyQ_inv (ms := ms) (J := J) hsel hdist (fun r hr => List.all_eq_true.1 hrow r hr) (fun i hi => ?_) hback' ?_ hend _ listed (fun _ => false) (fun _ => undef) w.drew hsz hls (by rw [← hlenT]; exact List.countP_le_length) (fun r hr => ?_) (Q.refl _) hJ0
  · have := List.all_eq_true.1 hcov i (List.mem_range.2 hi)
    rcases Bool.or_eq_true _ _ ▸ this with h | h
    · exact .inl h
    · obtain ⟨r, hr, e⟩ := List.any_eq_true.1 h
      exact .inr ⟨r, hr, by simpa using e⟩
  · intro r hr o ho
    exact rows_at ms T l 0 (fun j _ => by rw [Nat.zero_add]) (by omega) hidx hrows r hr o (by simpa using ho)
  · have := idxs_mem 0 ms r.i (by rw [← hidx]; exact List.mem_map.2 ⟨r, hr, rfl⟩)
    rw [Nat.sub_zero] at this
    exact this.2
set_option maxRecDepth 100000 in
theorem selN_03 (ms : List Nat) (o : Oper) (l : List Oper) : selN 0 (3 :: ms) (o :: l) = selN 0 ms l := rfl
set_option maxRecDepth 100000 in
theorem selN_04 (ms : List Nat) (o : Oper) (l : List Oper) : selN 0 (4 :: ms) (o :: l) = selN 0 ms l := rfl
set_option maxRecDepth 100000 in
theorem selN_13 (ms : List Nat) (o : Oper) (l : List Oper) : selN 1 (3 :: ms) (o :: l) = selN 1 ms l := rfl
set_option maxRecDepth 100000 in
theorem selN_14 (ms : List Nat) (o : Oper) (l : List Oper) : selN 1 (4 :: ms) (o :: l) = selN 1 ms l := rfl
set_option maxRecDepth 100000 in
theorem selN_23 (ms : List Nat) (o : Oper) (l : List Oper) : selN 2 (3 :: ms) (o :: l) = selN 2 ms l := rfl
set_option maxRecDepth 100000 in
theorem selN_24 (ms : List Nat) (o : Oper) (l : List Oper) : selN 2 (4 :: ms) (o :: l) = selN 2 ms l := rfl
set_option maxRecDepth 100000 in
theorem selN_30 (ms : List Nat) (o : Oper) (l : List Oper) : selN 3 (0 :: ms) (o :: l) = selN 3 ms l := rfl
set_option maxRecDepth 100000 in
theorem selN_31 (ms : List Nat) (o : Oper) (l : List Oper) : selN 3 (1 :: ms) (o :: l) = selN 3 ms l := rfl
set_option maxRecDepth 100000 in
theorem selN_32 (ms : List Nat) (o : Oper) (l : List Oper) : selN 3 (2 :: ms) (o :: l) = selN 3 ms l := rfl
set_option maxRecDepth 100000 in
theorem selN_33 (ms : List Nat) (o : Oper) (l : List Oper) : selN 3 (3 :: ms) (o :: l) = o :: selN 3 ms l := rfl
set_option maxRecDepth 100000 in
theorem selN_34 (ms : List Nat) (o : Oper) (l : List Oper) : selN 3 (4 :: ms) (o :: l) = selN 3 ms l := rfl
set_option maxRecDepth 100000 in
theorem selN_40 (ms : List Nat) (o : Oper) (l : List Oper) : selN 4 (0 :: ms) (o :: l) = selN 4 ms l := rfl
set_option maxRecDepth 100000 in
theorem selN_41 (ms : List Nat) (o : Oper) (l : List Oper) : selN 4 (1 :: ms) (o :: l) = selN 4 ms l := rfl
set_option maxRecDepth 100000 in
theorem selN_42 (ms : List Nat) (o : Oper) (l : List Oper) : selN 4 (2 :: ms) (o :: l) = selN 4 ms l := rfl
set_option maxRecDepth 100000 in
theorem selN_43 (ms : List Nat) (o : Oper) (l : List Oper) : selN 4 (3 :: ms) (o :: l) = selN 4 ms l := rfl
set_option maxRecDepth 100000 in
theorem selN_44 (ms : List Nat) (o : Oper) (l : List Oper) : selN 4 (4 :: ms) (o :: l) = o :: selN 4 ms l := rfl
/-- Five phases: fixed (0), a chain that makes memory (1), fixed once those values are known (2), a second chain (3), and what is fixed once that is known (4). -/
def phases5B (md : Region.Mode) (ops : Array Oper) (ms : List Nat) : Bool :=
  Region.noSelect ops && decide (ms.length < ops.size) && Region.sinkB md ops ms.length && Region.chainB md ops ms.length && decide (cntN 0 ms + (cntN 1 ms + (cntN 2 ms + (cntN 3 ms + cntN 4 ms))) = ms.length) &&
    detBN md ops 0 ms 0 (Array.replicate ops.size false) fun listed => mkBN md ops 1 ms 0 listed fun listed => detBN md ops 2 ms 0 listed fun listed => mkBN md ops 3 ms 0 listed fun listed => detBN md ops 4 ms 0 listed fun listed => Region.seqB md ops (ops.size - ms.length) ms.length listed
set_option maxRecDepth 100000 in
theorem wp_region_phases5 {id : Nat} {Q' : Exit → Act → World → Prop} {a : Act} {w : World} {l : List Oper} (ms : List Nat) (hm : P.follows .mixedOrders = true) (hB : phases5B .any l.toArray ms = true)
    (h : ∀ (K : Act → Prop), (∀ a', wpMks P l.toArray w.drew (fun x S => wpDets P l.toArray w.drew (fun x => wpMks P l.toArray w.drew (fun x S => wpDets P l.toArray w.drew (fun x => ∀ w', Q w.drew w' → S w' → wpList P l.toArray Q' (l.drop ms.length) x w') (selN 4 ms l) x) (selN 3 ms l) x S) (selN 2 ms l) x) (selN 1 ms l) a' (fun _ => True) → K a') → wpFix P w.drew K (selN 0 ms l) a) : (Code.region id l.toArray true).wp P Q' a w := by
  have h0 := wpFix_dets (ops := l.toArray) (fun _ h => h) _ _ (h _ (fun _ h => h))
  simp only [phases5B, Bool.and_eq_true, decide_eq_true_eq] at hB
  obtain ⟨⟨⟨⟨⟨hsel, hn⟩, hs⟩, hc⟩, hcnt⟩, hlex⟩ := hB
  have hn' : ms.length < l.length := by simpa using hn
  have hdl : (l.drop ms.length).length = l.toArray.size - ms.length := by simp
  have inv0 : HeadInv .any l.toArray ms.length (Array.replicate l.toArray.size false) :=
    ⟨by simp, fun j oj _ hl => (by rw [getD_replicate_false] at hl; cases hl), fun t _ ht => getD_in (by simpa using ht) (getD_replicate_false _ _)⟩
  let L : Array Bool → Act → (World → Prop) → Prop := fun listed x S => Region.seqB .any l.toArray (l.toArray.size - ms.length) ms.length listed = true ∧ ∀ w', Q w.drew w' → S w' → wpList P l.toArray Q' (l.drop ms.length) x w'
  have hL : ∀ listed a S S', (∀ w, S' w → S w) → L listed a S → L listed a S' := fun listed a S S' h1 h2 => ⟨h2.1, fun w' hq hw => h2.2 w' hq (h1 w' hw)⟩
  have hdone : ∀ listed a S, L listed a S → ∀ j ∈ Region.ready .any l.toArray listed, ms.length ≤ j := fun listed a S h => seqB_ready h.1
  have hlj : ∀ j, j < ms.length → l[j]? = l.toArray[0 + j]? := fun j hj => by simp
  have H := grow_detsN (md := .any) (c := 0) (f0 := cntN 1 ms + (cntN 2 ms + (cntN 3 ms + cntN 4 ms))) (S := fun _ => True) hsel hs hc hn hL hdone
    (fun listed a hB inv hK => grow_mksN (md := .any) (n := ms.length) (c := 1) (f0 := cntN 2 ms + (cntN 3 ms + cntN 4 ms))
      (fun listed a S hB inv hK => grow_detsN (md := .any) (c := 2) (f0 := cntN 3 ms + cntN 4 ms) (S := S) hsel hs hc hn hL hdone
        (fun listed a hB inv hK => grow_mksN (md := .any) (n := ms.length) (c := 3) (f0 := cntN 4 ms)
          (fun listed a S hB inv hK => by
            have := grow_detsN (md := .any) (c := 4) (f0 := 0) (S := S) hsel hs hc hn hL hdone (fun listed a hB inv hK => (⟨hB, hK⟩ : L listed a S)) ms l 0 listed a hlj (by omega) inv hB hK
            rwa [Nat.add_zero] at this)
          ms l 0 listed a _ hlj (by omega) (by omega) inv hB hK) ms l 0 listed a hlj (by omega) inv hB hK)
      ms l 0 listed a _ hlj (by omega) (by omega) inv hB hK) ms l 0 _ a hlj (by omega) inv0 hlex h0
  refine wp_region_any hm ?_
  have := wpAny_of_grow (Q' := Q') (g := l.toArray.size - ms.length) (fun listed a' S w' hL hq hw => by
    have := wpAny_of_seq (md := .any) (Q' := Q') (l.drop ms.length) ms.length listed a' w' (fun j => by simp [List.getElem?_drop]) (by rw [hdl]; exact hL.1) (hL.2 w' hq hw)
    rwa [hdl] at this) _ _ _ _ w.drew (fun _ _ h _ => h) H (Q.refl _) trivial
  rw [hcnt, show ms.length + (l.toArray.size - ms.length) = l.toArray.size by omega] at this
  exact this
end
end Go.Proofs.Ytcjpjnneimjfiaa

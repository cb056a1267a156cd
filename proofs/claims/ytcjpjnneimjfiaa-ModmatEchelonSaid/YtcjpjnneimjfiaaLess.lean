/-
  torsionref01.less and Same.
-/
import Derived.Test.YtcjpjnneimjfiaaBase
import Derived.Test.YtcjpjnneimjfiaaNum
namespace Go.Proofs.Ytcjpjnneimjfiaa
open Go.RowKit

def LessP (w : World) (la lb : List Nat) (e : Ending) (w' : World) : Prop := e = .returned (.bool (lessB la lb)) ∧ ∃ n, w' = w.drewN n

set_option maxHeartbeats 400000 in
set_option maxRecDepth 100000 in
theorem less_any (A B : Option Addr) (c d : Nat) (la lb : List Nat) (w : World) (ha : Lm w A c la) (hb : Lm w B d lb) :
    Calls Try.prog 64 #[.slice A la.length c, .slice B lb.length d] w (LessP w la lb) := by
  have la1 := ha.len
  have lb1 := hb.len
  by_cases hne : la.length = lb.length
  · have Hne := Lib.hid hne
    have hn1 : ((la.length : Int) != (lb.length : Int)) = false := by simp [hne]
    clear hne
    go_enter Try.func64, Try.ntmps64
    go_wp2
    go_loopw [5] (fun iv wr => (∃ n, wr = w.drewN n) ∧ ∃ k : Nat, k ≤ la.length ∧ iv = .int .i64 ((k : Int) - 1) ∧ la.drop k = lb.drop k) (fun iv wr => (intOf iv + 1).toNat)
    case atStart => exact ⟨⟨0, rfl⟩, la.length, Nat.le_refl _, rfl, by rw [List.drop_length, Hne.out, List.drop_length]⟩
    case round =>
      obtain ⟨⟨n, rfl⟩, k, hk, rfl, hd⟩ := hrel
      have Hd := Lib.hid hd
      clear hd
      cases k with
      | zero =>
        go_wp2
        go_ret
        exact ⟨ret_bool (by rw [show la = lb from Hd.out, lessB_refl]), n, rfl⟩
      | succ k =>
        have hkb : k < lb.length := by have := Hne.out; omega
        obtain ⟨b, o, x, rfl, hb1, hx, hx2, hc⟩ := ha.at (k := k) (by omega)
        obtain ⟨b', o', y, rfl, hb1', hy, hy2, hc'⟩ := hb.at (k := k) hkb
        have Hx := Lib.hid hx
        have Hy := Lib.hid hy
        clear hx hy
        rw [show ((k + 1 : Nat) : Int) - 1 = (k : Int) from by omega]
        by_cases hxy : x = y
        · subst hxy
          go_wp2
          go_quiet (fail)
          go_wp2
          exact ⟨⟨⟨_, rfl⟩, k, by omega, rfl, drop_step Hx.out Hy.out Hd.out⟩, by simp [intOf]⟩
        · have hn2 : ((x : Int) != (y : Int)) = true := by rw [bne_iff_ne]; omega
          go_wp2
          go_quiet (fail)
          go_wp2
          go_quiet (fail)
          go_wp2
          go_ret
          exact ⟨ret_bool (lessB_at ha.lt hb.lt Hne.out Hx.out Hy.out Hd.out hxy).symm, drews_three _ _ _ _⟩
  · have hn1 : ((la.length : Int) != (lb.length : Int)) = true := by rw [bne_iff_ne]; omega
    go_enter Try.func64, Try.ntmps64
    go_wp2
    go_ret
    exact ⟨ret_bool (lessB_len hne).symm, 0, rfl⟩
/-- What `Same` answers. -/
def sameB (na nb : Bool) (la lb : List Nat) : Bool := (na == nb) && (!lessB la lb && !lessB lb la)
def SameP (w : World) (na nb : Bool) (la lb : List Nat) (e : Ending) (w' : World) : Prop := e = .returned (.bool (sameB na nb la lb)) ∧ Q w w'

set_option maxRecDepth 100000 in
theorem less_true (A B : Option Addr) (c d : Nat) (la lb : List Nat) (w : World) (ha : Lm w A c la) (hb : Lm w B d lb) {b : Bool} (h : lessB la lb = b) :
    Calls Try.prog 64 #[.slice A la.length c, .slice B lb.length d] w fun e w' => e = .returned (.bool b) ∧ ∃ n, w' = w.drewN n :=
  (less_any A B c d la lb w ha hb).mono fun _ _ hp => by unfold LessP at hp; rwa [h] at hp

end Go.Proofs.Ytcjpjnneimjfiaa

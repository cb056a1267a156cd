/-
  torsionref01.short.
-/
import Derived.Test.YtcjpjnneimjfiaaRow
import Derived.Test.YtcjpjnneimjfiaaNum3
namespace Go.Proofs.Ytcjpjnneimjfiaa
open Go.RowKit

set_option maxRecDepth 100000 in
theorem cdiv (s d : Nat) (S : Int) (hS : S = (s : Int)) : S / (d : Int) = ((s / d : Nat) : Int) := by subst hS; rfl
set_option maxRecDepth 100000 in
theorem cmod (s d : Nat) (S : Int) (hS : S = (s : Int)) : S % (d : Int) = ((s % d : Nat) : Int) := by subst hS; rfl

def ShortP (w : World) (la : List Nat) (d : Nat) (e : Ending) (w' : World) : Prop :=
  ∃ A c l, e = .returned (.tuple #[.slice A l.length c, .int .u32 (val la % d : Nat)]) ∧ Lm w' A c l ∧ l.length = la.length ∧ val l = val la / d ∧ Q w w'

set_option maxHeartbeats 1000000 in
set_option maxRecDepth 100000 in
theorem short_any (A : Option Addr) (c : Nat) (la : List Nat) (d : Nat) (w : World) (hA : Lm w A c la) (hn : la.length ≤ 4294967296) (hd : 0 < d) (hd2 : d < 4294967296) :
    Calls Try.prog 77 #[.slice A la.length c, .int .u32 d] w (ShortP w la d) := by
  obtain ⟨N, hN⟩ : ∃ N, N = la.length := ⟨_, rfl⟩
  have hmk : ∀ w, (Instr.makeSlice 54 (.int .i64 (la.length : Int)) (.int .i64 (la.length : Int))).run Try.prog w = .ok (.slice (some ⟨w.heap.size, 0, none⟩) N N) (w.alloc (.cells (row32 (List.replicate N 0)) 49)) :=
    fun w => mk32 _ N (by omega) (by omega) w
  have hNa : la.length ≤ N := by omega
  have hNb : N ≤ la.length := by omega
  have HN := Lib.hid hN
  clear hN
  go_enter Try.func77, Try.ntmps77
  go_wp2_with fail
  clear hmk
  go_loopw [7, 8] (fun rv iv wr => ∃ (k rest : Nat) (lo : List Nat), iv = .int .i64 ((k : Int) - 1) ∧ rv = .int .u64 rest ∧ k ≤ N ∧ rest < d ∧ ShortR la d N k rest lo ∧ Row32 wr w.heap.size lo ∧ Q w wr) (fun _ iv _ => (intOf iv + 1).toNat)
  case atStart => exact ⟨N, 0, _, by rw [HN.out], rfl, Nat.le_refl _, hd, short_start la hd HN.out.symm, Row32.make _ _ rfl, (Q.refl w).alloc _⟩
  case round =>
    obtain ⟨k, rest, lo, rfl, rfl, hk, hr, hR, hrow, hq⟩ := hrel
    have hll := hR.1
    have HR := Lib.hid hR
    have HL := Lib.hid hll
    clear hR hll
    cases k with
    | zero =>
      go_wp2_with fail
      go_ret2
      have e := short_end HR.out
      refine ⟨_, _, lo, ?_, hrow.lm HR.out.2.1 (by have := HL.out; omega) (by have := HL.out; omega : lo.length ≤ N), by have := HL.out; have := HN.out; omega, e.1, hq⟩
      show Ending.returned (.tuple #[.slice (some ⟨w.heap.size, 0, none⟩) N N, .int .u32 (rest : Int)]) = _
      rw [HL.out, e.2]
    | succ k =>
      obtain ⟨b1, o1, x, rfl, hb1, hx, hx2, hcw⟩ := hA.at (k := k) (by omega)
      have hc := hq.cell hcw
      have hst := short_step HR.out hx (by omega) hx2 hd2 rfl
      have hs1 : rest * 4294967296 + x < 2 ^ 64 := hst.2.1
      have hs2 : (rest * 4294967296 + x) / d < 4294967296 := hst.2.2
      obtain ⟨o, ho⟩ : ∃ o, lo[k]? = some o := ⟨_, List.getElem?_eq_getElem (by rw [HL.out]; omega)⟩
      have kr := hrow.cell ho
      have fr := hrow.frozen k
      have HST := Lib.hid hst
      have Hx := Lib.hid hx
      clear hst hx ho
      rw [show ((k + 1 : Nat) : Int) - 1 = (k : Int) from by omega]
      go_wp2_with fail
      have e1 : ((rest : Int) * 4294967296 + (x : Int)) % (d : Int) = (((rest * 4294967296 + x) % d : Nat) : Int) := cmod _ _ _ (by omega)
      have e2 : ((rest : Int) * 4294967296 + (x : Int)) / (d : Int) % 4294967296 = (((rest * 4294967296 + x) / d : Nat) : Int) := by
        rw [cdiv (rest * 4294967296 + x) d _ (by omega)]
        clear e1
        generalize (rest * 4294967296 + x) / d = qq at hs2 ⊢
        omega
      refine ⟨⟨k, (rest * 4294967296 + x) % d, _, rfl, by rw [e1], by omega, Nat.mod_lt _ hd, HST.out.1, hrow.set k _ e2, hq.setCell (Nat.le_refl _) _⟩, ?_⟩
      simp only [intOf]
      omega
end Go.Proofs.Ytcjpjnneimjfiaa

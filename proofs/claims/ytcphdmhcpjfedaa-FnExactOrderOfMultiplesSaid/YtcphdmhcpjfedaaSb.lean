/- Blocks exchanged and turned in place. -/
import Derived.Test.YtcphdmhcpjfedaaSa
namespace Go.Proofs.Ytcphdmhcpjfedaa
open Go.RowKit

/-- the call has turned the array to f, and no other old block -/
def ArrTo (w : World) (g n cap : Nat) (f : Nat → Int) (e : Ending) (w' : World) : Prop := e = .returned (.tuple #[]) ∧ Arr w' g n cap f ∧ w.grownBy w' (some g)

theorem grown_refl (w : World) (g : Nat) : w.grownBy w (some g) := World.grownBy.refl w _
theorem grown_trans {a b c : World} {g : Nat} (h : a.grownBy b (some g)) (k : b.grownBy c (some g)) : a.grownBy c (some g) :=
  ⟨k.os.trans h.os, k.tape.trans h.tape, k.output.trans h.output, Nat.le_trans h.size k.size, fun i hi hne => (k.block i (Nat.lt_of_lt_of_le hi h.size) hne).trans (h.block i hi hne)⟩
theorem grown_set {a b : World} {g : Nat} (h : a.grownBy b (some g)) (i : Nat) (u : Value) : a.grownBy (b.setCell ⟨g, i, none⟩ u) (some g) :=
  ⟨h.os, h.tape, h.output, by simpa [World.setCell] using h.size, fun k hk hne => (Below.heap_setCell b ⟨g, i, none⟩ u k (fun e => hne (by rw [e]))).trans (h.block k hk hne)⟩
theorem grown_drew {a b : World} {g : Nat} (h : a.grownBy b (some g)) : a.grownBy b.drew (some g) := ⟨h.os, h.tape, h.output, h.size, h.block⟩
theorem grown_drewN {a b : World} {g : Nat} (h : a.grownBy b (some g)) (n : Nat) : a.grownBy (b.drewN n) (some g) := ⟨h.os, h.tape, h.output, h.size, h.block⟩
theorem Arr.drew {w : World} {g n cap : Nat} {f : Nat → Int} (h : Arr w g n cap f) : Arr w.drew g n cap f := h
theorem Arr.drewN {w : World} {g n cap : Nat} {f : Nat → Int} (h : Arr w g n cap f) (k : Nat) : Arr (w.drewN k) g n cap f := h

set_option maxHeartbeats 400000 in
set_option maxRecDepth 100000 in
theorem swapRange_any {A B C : Int} (a b c : Nat) (hA : A = a) (hB : B = b) (hC : C = c) (g n cap : Nat) (f : Nat → Int) (cmp : Value) (w : World) (harr : Arr w g n cap f) (h1 : a + c ≤ b) (h2 : b + c ≤ n) (h3 : n ≤ 1000000) :
    Calls Try.prog 252 #[.slice (some ⟨g, 0, none⟩) n cap, .int .i64 A, .int .i64 B, .int .i64 C, cmp] w (ArrTo w g n cap (swp f a b c)) := by
  subst hA
  subst hB
  subst hC
  go_enter Try.func252, Try.ntmps252
  go_wp2
  go_loopg [10] c (fun k iv wr => ∃ i : Nat, i + k = c ∧ iv = .int .i64 i ∧ Arr wr g n cap (swp f a b i) ∧ w.grownBy wr (some g))
  case atStart => exact ⟨0, by omega, rfl, by rw [swp_zero]; exact harr, grown_refl w g⟩
  case round =>
    obtain ⟨i, hik, rfl, ha2, hg2⟩ := hrel
    have Hik := Lib.hid hik
    have hic : i ≤ c := by omega
    clear hik
    by_cases hlt : i < c
    · have e1 := ha2.cell (i := a + i) (by omega)
      have e2 := ha2.cell (i := b + i) (by omega)
      have ef := ha2.frozen
      go_wp2_with fail
      go_region
      go_wp2
      go_roundg (gk - 1)
      case measure => have := Hik.out; omega
      case rel =>
        refine ⟨i + 1, by have := Hik.out; omega, by go_num, ?_, grown_drew (grown_set (grown_set hg2 _ _) _ _)⟩
        rw [← swp_succ (by omega)]
        exact ((ha2.set _).set _).drew
    · have hi : i = c := by omega
      subst hi
      go_wp2
      go_end0
      exact ⟨rfl, ha2, hg2⟩

set_option maxHeartbeats 400000 in
set_option maxRecDepth 100000 in
theorem rotate_any {A M B : Int} (a m b : Nat) (hA : A = a) (hM : M = m) (hB : B = b) (g n cap : Nat) (f : Nat → Int) (cmp : Value) (w : World) (harr : Arr w g n cap f) (h1 : a < m) (h2 : m < b) (h3 : b ≤ n) (h4 : n ≤ 1000000) :
    Calls Try.prog 249 #[.slice (some ⟨g, 0, none⟩) n cap, .int .i64 A, .int .i64 M, .int .i64 B, cmp] w (ArrTo w g n cap (rot f a m b)) := by
  subst hA
  subst hM
  subst hB
  have ea := Lib.hid (rfl : rot f a m b = rot f a m b)
  go_enter Try.func249, Try.ntmps249
  go_wp2
  go_loopg [10, 11] (b - a) (fun k iv jv wr => ∃ (i j : Nat) (f2 : Nat → Int), i + j ≤ k ∧ 1 ≤ i ∧ 1 ≤ j ∧ i ≤ m ∧ m + j ≤ n ∧ iv = .int .i64 i ∧ jv = .int .i64 j ∧ rot f2 (m - i) m (m + j) = rot f a m b ∧ Arr wr g n cap f2 ∧ w.grownBy wr (some g))
  case atStart =>
    refine ⟨m - a, b - m, f, by omega, by omega, by omega, by omega, by omega, ?_, ?_, ?_, harr, grown_refl w g⟩
    · congr 1; omega
    · congr 1; omega
    · rw [show m - (m - a) = a by omega, show m + (b - m) = b by omega]
  case round =>
    obtain ⟨i, j, f2, hk, hi1, hj1, him, hjn, rfl, rfl, hr, ha2, hg2⟩ := hrel
    have Hr := Lib.hid hr
    clear hr
    rcases Nat.lt_trichotomy i j with hlt | heq | hgt
    · have n1 : ((i : Int) != j) = true := by simp; omega
      have n2 : decide ((j : Int) < i) = false := by simp; omega
      go_wp2_with (first | (go_at_call 252; refine (swapRange_any (m - i) (m + j - i) i (by omega) (by omega) (by omega) g n cap f2 cmp _ ha2 (by omega) (by omega) h4).mono ?_; rintro e w2 ⟨rfl, ha3, hg3⟩))
      go_roundg (j)
      case measure => omega
      case rel =>
        refine ⟨i, j - i, _, by omega, by omega, by omega, by omega, by omega, rfl, ?_, ?_, ha3, grown_trans hg2 hg3⟩
        · congr 1; omega
        · rw [rot_less him hlt]; exact Hr.out
    · subst heq
      have n1 : ((i : Int) != i) = false := by simp
      go_wp2_with (first | (go_at_call 252; refine (swapRange_any (m - i) m i (by omega) (by omega) (by omega) g n cap f2 cmp _ ha2 (by omega) (by omega) h4).mono ?_; rintro e w2 ⟨rfl, ha3, hg3⟩))
      go_end0
      refine ⟨rfl, ?_, grown_trans hg2 hg3⟩
      rw [← Hr.out, ← rot_same him]; exact ha3
    · have n1 : ((i : Int) != j) = true := by simp; omega
      have n2 : decide ((j : Int) < i) = true := by simp; omega
      go_wp2_with (first | (go_at_call 252; refine (swapRange_any (m - i) m j (by omega) (by omega) (by omega) g n cap f2 cmp _ ha2 (by omega) (by omega) h4).mono ?_; rintro e w2 ⟨rfl, ha3, hg3⟩))
      go_roundg (i)
      case measure => omega
      case rel =>
        refine ⟨i - j, j, _, by omega, by omega, by omega, by omega, by omega, ?_, rfl, ?_, ha3, grown_trans hg2 hg3⟩
        · congr 1; omega
        · rw [show m - (i - j) = m - i + j by omega, rot_more him hgt]; exact Hr.out

end Go.Proofs.Ytcphdmhcpjfedaa

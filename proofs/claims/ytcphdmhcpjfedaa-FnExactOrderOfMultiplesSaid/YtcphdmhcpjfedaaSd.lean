/- Merging in place: one element on one of the sides. -/
import Derived.Test.YtcphdmhcpjfedaaSc
namespace Go.Proofs.Ytcphdmhcpjfedaa
open Go.RowKit

set_option maxHeartbeats 800000 in
set_option maxRecDepth 100000 in
theorem sym_first {A M B : Int} (a b : Nat) (hA : A = a) (hM : M = a + 1) (hB : B = b) (g n cap : Nat) (f : Nat → Int) (p q : Int) (bp bq : Nat) (w : World) (harr : Arr w g n cap f) (hpq : PQ w bp bq p q) (n1 : bp ≠ g) (n2 : bq ≠ g) (hok : Hid (Ok p q))
    (hrng : Hid (Rng n f)) (h1 : a + 1 < b) (h2 : b ≤ n) (h3 : n ≤ 1000000) (hs : Hid (Srt (key p q) f (a + 1) b)) (hc : Hid (Crs f a (a + 1) b)) :
    Calls Try.prog 239 #[.slice (some ⟨g, 0, none⟩) n cap, .int .i64 A, .int .i64 M, .int .i64 B, cmpV bp bq] w (SortsTo w g n cap (key p q) f a b) := by
  subst hA
  subst hM
  subst hB
  unfold cmpV
  have t1 : ((a : Int) + 1 - a == 1) = true := by simp; omega
  go_enter Try.func239, Try.ntmps239
  go_wp2_with fail
  go_loopg [10, 11] (b - a) (fun k iv jv wr => ∃ (i j : Nat), j - i ≤ k ∧ i ≤ j ∧ a + 1 ≤ i ∧ j ≤ b ∧ iv = .int .i64 i ∧ jv = .int .i64 j ∧ Arr wr g n cap f ∧ w.grownBy wr (some g) ∧ (∀ t, a + 1 ≤ t → t < i → Rk (key p q) (f t) (f a)) ∧ (∀ t, j ≤ t → t < b → Rk (key p q) (f a) (f t)))
  case atStart =>
    exact ⟨a + 1, b, by omega, by omega, by omega, by omega, by go_num, rfl, harr, grown_refl w g, fun t h1 h2 => by omega, fun t h1 h2 => by omega⟩
  case round =>
    obtain ⟨i, j, hk, hij, hai, hjb, rfl, rfl, ha2, hg2, hlo, hhi⟩ := hrel
    have Hlo := Lib.hid hlo
    have Hhi := Lib.hid hhi
    clear hlo hhi
    by_cases hlt : i < j
    · obtain ⟨h, hih, hhj, hh⟩ : ∃ h : Nat, i ≤ h ∧ h < j ∧ ((i : Int) + j) / 2 = h := ⟨(i + j) / 2, by omega, by omega, by omega⟩
      have c1 := ha2.cell (i := h) (by omega)
      have c2 := ha2.cell (i := a) (by omega)
      have hpq2 := hpq.keep hg2 n1 n2
      have y1 := hrng.out h (by omega)
      have y2 := hrng.out a (by omega)
      by_cases hk2 : key p q (f h) < key p q (f a)
      · have Hk := Lib.hid hk2
        clear hk2
        go_wp2_with fail
        go_big_quiet ((go_at_call 178; exact Calls.quiet_of (cmp_lt (hpq2) hok.out y1 y2 Hk.out)))
        go_wp2_with fail
        go_roundg (j - (h + 1))
        case measure => omega
        case rel =>
          refine ⟨h + 1, j, by omega, by omega, by omega, by omega, by go_num, rfl, ha2.drewN _, grown_drewN hg2 _, ?_, Hhi.out⟩
          intro t ht1 ht2
          exact le_of_srt hs.out ht1 (show t ≤ h by omega) (by omega) (.inl Hk.out)
      · obtain ⟨c, hcc⟩ : ∃ c, Hid (cmpI (key p q (f h)) (key p q (f a)) = c) := ⟨_, rfl⟩
        have hc0 : 0 ≤ c := by rw [← hcc.out]; exact cmpI_ge hk2
        have hc1 : decide (c < 0) = false := by simpa using hc0
        have Hk := Lib.hid hk2
        clear hk2
        go_wp2_with fail
        go_big_quiet ((go_at_call 178; exact Calls.quiet_of (cmp_ge (hpq2) hok.out y1 y2 hcc)))
        go_wp2_with fail
        go_roundg (h - i)
        case measure => omega
        case rel =>
          refine ⟨i, h, by omega, by omega, by omega, by omega, rfl, rfl, ha2.drewN _, grown_drewN hg2 _, Hlo.out, ?_⟩
          intro t ht1 ht2
          have hrk : Rk (key p q) (f a) (f h) := Rk.of_not (hc.out a h (Nat.le_refl _) (by omega) (by omega) (by omega)) (Int.not_lt.2 Hk.out)
          exact ge_of_srt hs.out (by omega) ht1 ht2 hrk
    · have hje : j = i := by omega
      subst hje
      go_wp2_with fail
      go_loopg [13] (j - 1 - a) (fun k kv wr2 => ∃ k2 : Nat, k2 + k = j - 1 ∧ a ≤ k2 ∧ k2 + 1 ≤ j ∧ kv = .int .i64 k2 ∧ Arr wr2 g n cap (rot f a (a + 1) (k2 + 1)) ∧ w.grownBy wr2 (some g))
      case atStart => exact ⟨a, by omega, by omega, by omega, rfl, by rw [rot_right]; exact ha2, hg2⟩
      case round =>
        obtain ⟨k2, hkk, hak, hkj, rfl, ha3, hg3⟩ := hrel
        have Hkk := Lib.hid hkk
        clear hkk
        by_cases hl2 : k2 < j - 1
        · have e1 := ha3.cell (i := k2) (by omega)
          have e2 := ha3.cell (i := k2 + 1) (by omega)
          have ef := ha3.frozen
          go_wp2_with fail
          go_region
          go_wp2_with fail
          go_roundg (gk - 1)
          case measure => have := Hkk.out; omega
          case rel =>
            refine ⟨k2 + 1, by have := Hkk.out; omega, by omega, by omega, by go_num, ?_, grown_drew (grown_set (grown_set hg3 _ _) _ _)⟩
            rw [← rot_step hak]
            exact ((ha3.set _).set _).drew
        · have hk1 : k2 + 1 = j := by omega
          subst hk1
          go_wp2_with fail
          go_end0
          refine ⟨_, rfl, ha3, hg3, place_first (by omega) hjb hs.out Hlo.out Hhi.out, ?_⟩
          exact (rot_frm (f := f) (a := a) (m := a + 1) (b := k2 + 1) (by omega) (by omega)).widen (Nat.le_refl _) hjb

set_option maxHeartbeats 800000 in
set_option maxRecDepth 100000 in
theorem sym_last {A M B : Int} (a m : Nat) (hA : A = a) (hM : M = m) (hB : B = m + 1) (g n cap : Nat) (f : Nat → Int) (p q : Int) (bp bq : Nat) (w : World) (harr : Arr w g n cap f) (hpq : PQ w bp bq p q) (n1 : bp ≠ g) (n2 : bq ≠ g) (hok : Hid (Ok p q))
    (hrng : Hid (Rng n f)) (h1 : a + 1 < m) (h2 : m + 1 ≤ n) (h3 : n ≤ 1000000) (hs : Hid (Srt (key p q) f a m)) (hc : Hid (Crs f a m (m + 1))) :
    Calls Try.prog 239 #[.slice (some ⟨g, 0, none⟩) n cap, .int .i64 A, .int .i64 M, .int .i64 B, cmpV bp bq] w (SortsTo w g n cap (key p q) f a (m + 1)) := by
  subst hA
  subst hM
  subst hB
  unfold cmpV
  have t0 : ((m : Int) - a == 1) = false := by simp; omega
  have t1 : ((m : Int) + 1 - m == 1) = true := by simp; omega
  go_enter Try.func239, Try.ntmps239
  go_wp2_with fail
  go_loopg [14, 15] (m - a) (fun k iv jv wr => ∃ (i j : Nat), j - i ≤ k ∧ i ≤ j ∧ a ≤ i ∧ j ≤ m ∧ iv = .int .i64 i ∧ jv = .int .i64 j ∧ Arr wr g n cap f ∧ w.grownBy wr (some g) ∧ (∀ t, a ≤ t → t < i → Rk (key p q) (f t) (f m)) ∧ (∀ t, j ≤ t → t < m → Rk (key p q) (f m) (f t)))
  case atStart =>
    exact ⟨a, m, by omega, by omega, by omega, by omega, rfl, rfl, harr, grown_refl w g, fun t h1 h2 => by omega, fun t h1 h2 => by omega⟩
  case round =>
    obtain ⟨i, j, hk, hij, hai, hjb, rfl, rfl, ha2, hg2, hlo, hhi⟩ := hrel
    have Hlo := Lib.hid hlo
    have Hhi := Lib.hid hhi
    clear hlo hhi
    by_cases hlt : i < j
    · obtain ⟨h, hih, hhj, hh⟩ : ∃ h : Nat, i ≤ h ∧ h < j ∧ ((i : Int) + j) / 2 = h := ⟨(i + j) / 2, by omega, by omega, by omega⟩
      have c1 := ha2.cell (i := h) (by omega)
      have c2 := ha2.cell (i := m) (by omega)
      have hpq2 := hpq.keep hg2 n1 n2
      have y1 := hrng.out h (by omega)
      have y2 := hrng.out m (by omega)
      by_cases hk2 : key p q (f m) < key p q (f h)
      · have Hk := Lib.hid hk2
        clear hk2
        go_wp2_with fail
        go_big_quiet ((go_at_call 178; exact Calls.quiet_of (cmp_lt (hpq2) hok.out y2 y1 Hk.out)))
        go_wp2_with fail
        go_roundg (h - i)
        case measure => omega
        case rel =>
          refine ⟨i, h, by omega, by omega, by omega, by omega, rfl, rfl, ha2.drewN _, grown_drewN hg2 _, Hlo.out, ?_⟩
          intro t ht1 ht2
          exact ge_of_srt hs.out (by omega) ht1 ht2 (.inl Hk.out)
      · obtain ⟨c, hcc⟩ : ∃ c, Hid (cmpI (key p q (f m)) (key p q (f h)) = c) := ⟨_, rfl⟩
        have hc0 : 0 ≤ c := by rw [← hcc.out]; exact cmpI_ge hk2
        have hc1 : decide (c < 0) = false := by simpa using hc0
        have Hk := Lib.hid hk2
        clear hk2
        go_wp2_with fail
        go_big_quiet ((go_at_call 178; exact Calls.quiet_of (cmp_ge (hpq2) hok.out y2 y1 hcc)))
        go_wp2_with fail
        go_roundg (j - (h + 1))
        case measure => omega
        case rel =>
          refine ⟨h + 1, j, by omega, by omega, by omega, by omega, by go_num, rfl, ha2.drewN _, grown_drewN hg2 _, ?_, Hhi.out⟩
          intro t ht1 ht2
          have hrk : Rk (key p q) (f h) (f m) := Rk.of_not (hc.out h m (by omega) (by omega) (Nat.le_refl _) (by omega)) (Int.not_lt.2 Hk.out)
          exact le_of_srt hs.out ht1 (show t ≤ h by omega) (by omega) hrk
    · have hje : j = i := by omega
      subst hje
      go_wp2_with fail
      go_loopg [17] (m - j) (fun k kv wr2 => ∃ k2 : Nat, k2 = j + k ∧ k2 ≤ m ∧ kv = .int .i64 k2 ∧ Arr wr2 g n cap (rot f k2 m (m + 1)) ∧ w.grownBy wr2 (some g))
      case atStart => exact ⟨m, by omega, by omega, rfl, by rw [rot_left]; exact ha2, hg2⟩
      case round =>
        obtain ⟨k2, hkk, hkm, rfl, ha3, hg3⟩ := hrel
        have hjk : j ≤ k2 := by omega
        have Hkk := Lib.hid hkk
        clear hkk
        by_cases hl2 : j < k2
        · obtain ⟨k3, rfl⟩ : ∃ k3, k2 = k3 + 1 := ⟨k2 - 1, by omega⟩
          have e1 := ha3.cell (i := k3) (by omega)
          have e2 := ha3.cell (i := k3 + 1) (by omega)
          have ef := ha3.frozen
          have s2 : IntKind.i64.wrap ((k3 : Int) + 1 - 1) = (k3 : Int) := by rw [show (k3 : Int) + 1 - 1 = k3 by omega]; exact IntWalk.i64_in _ (by omega)
          go_wp2_with fail
          go_region
          go_wp2_with fail
          go_roundg (gk - 1)
          case measure => have := Hkk.out; omega
          case rel =>
            refine ⟨k3, by have := Hkk.out; omega, by omega, by go_num, ?_, grown_drew (grown_set (grown_set hg3 _ _) _ _)⟩
            have hb := rot_back (f := f) (m := m) (k := k3 + 1) hkm (by omega)
            rw [show k3 + 1 - 1 = k3 by omega] at hb
            rw [← hb]
            exact ((ha3.set _).set _).drew
        · have hk1 : k2 = j := by omega
          subst hk1
          go_wp2_with fail
          go_end0
          refine ⟨_, rfl, ha3, hg3, place_last hai hjb hs.out Hlo.out Hhi.out, ?_⟩
          exact (rot_frm (f := f) (a := k2) (m := m) (b := m + 1) (by omega) (by omega)).widen hai (Nat.le_refl _)

end Go.Proofs.Ytcphdmhcpjfedaa

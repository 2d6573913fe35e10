/- The functions on forms: reduced, next. -/
import Derived.Test.YtcphdmhcpjfedaaCna
namespace Go.Proofs.Ytcphdmhcpjfedaa
open Go.RowKit

set_option maxHeartbeats 1600000 in
theorem reduced_abc (a b c D W : Int) (hs : Hid (small ⟨a, b, c⟩)) (hdd : dsc ⟨a, b, c⟩ = D) (hd : D ≤ 4000) (hW : root D = W) (w : World) :
    Calls Try.prog 125 #[.agg #[.int .i64 a, .int .i64 b, .int .i64 c]] w fun e w' => e = .returned (.bool (redB ⟨a, b, c⟩ W)) ∧ Below w.heap.size w w' := by
  obtain ⟨r0, r1⟩ := root_bd _ hd
  rw [hW] at r0 r1
  obtain ⟨⟨h1, h2⟩, ⟨h3, h4⟩, ⟨h5, h6⟩⟩ := hs.out
  simp only at h1 h2 h3 h4 h5 h6
  have ha0 := absv_nonneg a
  have ha1 : absv a ≤ 1000000 := by unfold absv; omega
  have hw1 : IntKind.i64.wrap (W - b) = W - b := IntWalk.i64_in _ (by omega)
  have hw2 : IntKind.i64.wrap (2 * absv a) = 2 * absv a := IntWalk.i64_in _ (by omega)
  have hw3 : IntKind.i64.wrap (W + b) = W + b := IntWalk.i64_in _ (by omega)
  have T3 : decide (W - b < 2 * absv a) = true ∨ decide (W - b < 2 * absv a) = false := by cases decide (W - b < 2 * absv a) <;> simp
  by_cases t1 : 1 ≤ b <;> by_cases t2 : b ≤ W <;> rcases T3 with t3 | t3
  all_goals try (exfalso; omega)
  all_goals
    go_enter Try.func125, Try.ntmps125
    go_wp2_with (first | (go_at_call 124; refine (disc_any ⟨a, b, c⟩ hs.out _).mono ?_; rintro e w1 ⟨rfl, hb1⟩))
    have c0 : w1.cell? ⟨w.heap.size, 0, none⟩ = some (.int .i64 a) := box_cells hb1 (by simp) 0
    have c1 : w1.cell? ⟨w.heap.size, 1, none⟩ = some (.int .i64 b) := box_cells hb1 (by simp) 1
    go_wp2_with (first | (go_at_call 175; refine (root_any _ hd _).mono ?_; rintro e w' ⟨rfl, rfl⟩))
    go_big_quiet ((first | (go_at_call 108; first | exact quiet_same (in_true _ _ _ _ (by omega)) | exact quiet_same (in_false _ _ _ _ (by omega))) | (go_at_call 183; exact quiet_same (size_any _ (by omega) (by omega) _))))
    go_wp2
    go_ret
    simp only [decide_eq_true_eq, decide_eq_false_iff_not] at t3
    refine ⟨ret_bool (by rw [Bool.eq_iff_iff, redB_iff]; simp; omega), ?_⟩
    exact below_drewN (below_box hb1 (by simp)) _

theorem l06Reduced_abc (a b c W : Int) (hs : Hid (small ⟨a, b, c⟩)) (r0 : 0 ≤ W) (r1 : W ≤ 63) (w : World) :
    Calls Try.prog 126 #[.agg #[.int .i64 a, .int .i64 b, .int .i64 c], .int .i64 W] w fun e w' => e = .returned (.bool (redB ⟨a, b, c⟩ W)) ∧ Below w.heap.size w w' := by
  obtain ⟨⟨h1, h2⟩, ⟨h3, h4⟩, ⟨h5, h6⟩⟩ := hs.out
  simp only at h1 h2 h3 h4 h5 h6
  by_cases ha : a < 0
  · have hab := Lib.hid (show absv a = -a by unfold absv; omega)
    go_enter Try.func126, Try.ntmps126
    go_wp2
    all_goals go_ret
    all_goals refine ⟨ret_bool ?_, (Below.refl _ _).alloc (Nat.le_refl _) _⟩
    all_goals (rw [Bool.eq_iff_iff, redB_iff, hab.out]; simp; omega)
  · have hab := Lib.hid (show absv a = a by unfold absv; omega)
    go_enter Try.func126, Try.ntmps126
    go_wp2
    all_goals go_ret
    all_goals refine ⟨ret_bool ?_, (Below.refl _ _).alloc (Nat.le_refl _) _⟩
    all_goals (rw [Bool.eq_iff_iff, redB_iff, hab.out]; simp; omega)

theorem next_abc (a b c D W : Int) (hs : Hid (small ⟨a, b, c⟩)) (hdd : dsc ⟨a, b, c⟩ = D) (hd : Hid (okD D)) (hW : root D = W) (w : World) :
    Calls Try.prog 117 #[.agg #[.int .i64 a, .int .i64 b, .int .i64 c]] w fun e w' => e = .returned (nextD ⟨a, b, c⟩ D W).val ∧ Below w.heap.size w w' := by
  have hc0 := c_ne (x := ⟨a, b, c⟩) (by rw [hdd]; exact hd.out)
  obtain ⟨q1, q2, q3, q4⟩ := hd.out.sq
  have d1 : 1 ≤ D := hd.out.1
  have d2 : D ≤ 4000 := hd.out.2.1
  rw [hW] at q1 q2 q3 q4
  have q1 := Lib.hid q1
  have q2 := Lib.hid q2
  obtain ⟨⟨h1, h2⟩, ⟨h3, h4⟩, ⟨h5, h6⟩⟩ := hs.out
  simp only at h1 h2 h3 h4 h5 h6 hc0
  have ha0 := absv_pos hc0
  have ha1 : absv c ≤ 1000000 := by unfold absv; omega
  by_cases hwc : W < absv c
  · have m0 := Int.emod_nonneg (-b - (1 - absv c)) (show 2 * absv c ≠ 0 by omega)
    have m1 := Int.emod_lt_of_pos (-b - (1 - absv c)) (show 0 < 2 * absv c by omega)
    obtain ⟨B, hB⟩ : ∃ B, 1 - absv c + (-b - (1 - absv c)) % (2 * absv c) = B := ⟨_, rfl⟩
    have hfin : nextD ⟨a, b, c⟩ D W = ⟨c, B, (B * B - D).tdiv (4 * c)⟩ := by
      have e := low_high (absv c) (absv c) b ha0
      have e2 : absv c - 2 * absv c + 1 = 1 - absv c := by omega
      rw [e2, hB] at e
      unfold nextD
      simp only [if_pos hwc, ← e]
    have b0 : -1000000 ≤ B := by omega
    have b1 : B ≤ 1000000 := by omega
    obtain ⟨p0, p1⟩ := mul_bd b0 b1 b0 b1
    obtain ⟨t0, t1⟩ := tdiv_bounds (B * B - D) (4 * c) (m := 1000000004000) (by omega) (by omega)
    have hfin := Lib.hid hfin
    go_enter Try.func117, Try.ntmps117
    go_wp2_with (first | (go_at_call 124; refine (disc_any ⟨a, b, c⟩ hs.out _).mono ?_; rintro e w1 ⟨rfl, hb1⟩; obtain ⟨hc, hf⟩ := bcell hb1) | (go_at_call 175; refine (root_any _ d2 _).mono ?_; rintro e w' ⟨rfl, rfl⟩) | (go_at_call 183; refine (size_any _ (by omega) (by omega) _).mono ?_; rintro e w' ⟨rfl, rfl⟩) | (go_at_call 111; refine (mod_any _ _ (by omega) (by omega) (by omega) (by omega) _).mono ?_; rintro e w' ⟨rfl, rfl⟩))
    go_region
    go_wp2
    refine bodyPost_ret (v := .agg #[.int .i64 c, .int .i64 B, .int .i64 ((B * B - D).tdiv (4 * c))]) ?_ rfl ⟨by rw [hfin.out]; rfl, ?_⟩
    · simp [results, Try.results117, go_sem, hc]
    · have hb := below_box2 hb1 (by simp; omega)
      exact ((((hb.setCell (by simp) _).setCell (by simp) _).setCell (by simp) _)).drew
  · have m0 := Int.emod_nonneg (-b - (W - 2 * absv c + 1)) (show 2 * absv c ≠ 0 by omega)
    have m1 := Int.emod_lt_of_pos (-b - (W - 2 * absv c + 1)) (show 0 < 2 * absv c by omega)
    obtain ⟨B, hB⟩ : ∃ B, W - 2 * absv c + 1 + (-b - (W - 2 * absv c + 1)) % (2 * absv c) = B := ⟨_, rfl⟩
    have hfin : nextD ⟨a, b, c⟩ D W = ⟨c, B, (B * B - D).tdiv (4 * c)⟩ := by
      have e := low_high W (absv c) b ha0
      rw [hB] at e
      unfold nextD
      simp only [if_neg hwc, ← e]
    have b0 : -2000000 ≤ B := by omega
    have b1 : B ≤ 2000000 := by omega
    obtain ⟨p0, p1⟩ := mul_bd b0 b1 b0 b1
    obtain ⟨t0, t1⟩ := tdiv_bounds (B * B - D) (4 * c) (m := 4000000004000) (by omega) (by omega)
    have hfin := Lib.hid hfin
    go_enter Try.func117, Try.ntmps117
    go_wp2_with (first | (go_at_call 124; refine (disc_any ⟨a, b, c⟩ hs.out _).mono ?_; rintro e w1 ⟨rfl, hb1⟩; obtain ⟨hc, hf⟩ := bcell hb1) | (go_at_call 175; refine (root_any _ d2 _).mono ?_; rintro e w' ⟨rfl, rfl⟩) | (go_at_call 183; refine (size_any _ (by omega) (by omega) _).mono ?_; rintro e w' ⟨rfl, rfl⟩) | (go_at_call 111; refine (mod_any _ _ (by omega) (by omega) (by omega) (by omega) _).mono ?_; rintro e w' ⟨rfl, rfl⟩))
    go_region
    go_wp2
    refine bodyPost_ret (v := .agg #[.int .i64 c, .int .i64 B, .int .i64 ((B * B - D).tdiv (4 * c))]) ?_ rfl ⟨by rw [hfin.out]; rfl, ?_⟩
    · simp [results, Try.results117, go_sem, hc]
    · have hb := below_box2 hb1 (by simp; omega)
      exact ((((hb.setCell (by simp) _).setCell (by simp) _).setCell (by simp) _)).drew

theorem l06Next_abc (a b c D W : Int) (hs : Hid (small ⟨a, b, c⟩)) (hd : Hid (okD D)) (hW : root D = W) (hc0 : c ≠ 0) (w : World) :
    Calls Try.prog 120 #[.agg #[.int .i64 a, .int .i64 b, .int .i64 c], .int .i64 D, .int .i64 W] w fun e w' => e = .returned (nextD ⟨a, b, c⟩ D W).val ∧ Below w.heap.size w w' := by
  obtain ⟨q1, q2, q3, q4⟩ := hd.out.sq
  have d1 : 1 ≤ D := hd.out.1
  have d2 : D ≤ 4000 := hd.out.2.1
  rw [hW] at q3 q4
  clear q1 q2
  obtain ⟨⟨h1, h2⟩, ⟨h3, h4⟩, ⟨h5, h6⟩⟩ := hs.out
  simp only at h1 h2 h3 h4 h5 h6
  have ha0 := absv_pos hc0
  have ha1 : absv c ≤ 1000000 := by unfold absv; omega
  by_cases hneg : c < 0
  · have hab : absv c = -c := by unfold absv; omega
    rw [hab] at ha0 ha1
    have hab := Lib.hid hab
    obtain ⟨H, hH⟩ : ∃ H, (if W < -c then -c else W) = H := ⟨_, rfl⟩
    have hH0 : 0 < H ∧ H ≤ 1000063 := by rw [← hH]; split <;> omega
    obtain ⟨H0, H1⟩ := hH0
    have m0 := Int.emod_nonneg (H + b) (show 2 * -c ≠ 0 by omega)
    have m1 := Int.emod_lt_of_pos (H + b) (show 0 < 2 * -c by omega)
    obtain ⟨B, hB⟩ : ∃ B, H - (H + b) % (2 * -c) = B := ⟨_, rfl⟩
    have hfin : nextD ⟨a, b, c⟩ D W = ⟨c, B, (B * B - D).tdiv (4 * c)⟩ := by
      unfold nextD
      simp only [hab.out, hH, hB]
    have b0 : -3000000 ≤ B := by omega
    have b1 : B ≤ 3000000 := by omega
    obtain ⟨p0, p1⟩ := mul_bd b0 b1 b0 b1
    obtain ⟨t0, t1⟩ := tdiv_bounds (B * B - D) (4 * c) (m := 9000000004000) (by omega) (by omega)
    have hfin := Lib.hid hfin
    by_cases hwc : W < -c
    all_goals
      (first | rw [if_pos hwc] at hH | rw [if_neg hwc] at hH)
      subst hH
      go_enter Try.func120, Try.ntmps120
      go_wp2_with (first | (go_at_call 110; refine (l01Rest_any _ _ (by omega) (by omega) _).mono ?_; rintro e w' ⟨rfl, rfl⟩))
      go_region
      go_wp2
      refine bodyPost_ret (v := .agg #[.int .i64 c, .int .i64 B, .int .i64 ((B * B - D).tdiv (4 * c))]) ?_ rfl ⟨by rw [hfin.out]; rfl, ?_⟩
      · simp [results, Try.results120, go_sem]
      · (repeat (first | exact Below.refl _ _ | assumption | refine Below.drew ?_ | refine below_drewN ?_ _ | refine Below.alloc ?_ (by first | omega | (simp; done) | (simp; omega)) _ | refine Below.setCell ?_ (by first | omega | (simp; done) | (simp; omega)) _))
  · have hab : absv c = c := by unfold absv; omega
    rw [hab] at ha0 ha1
    have hab := Lib.hid hab
    obtain ⟨H, hH⟩ : ∃ H, (if W < c then c else W) = H := ⟨_, rfl⟩
    have hH0 : 0 < H ∧ H ≤ 1000063 := by rw [← hH]; split <;> omega
    obtain ⟨H0, H1⟩ := hH0
    have m0 := Int.emod_nonneg (H + b) (show 2 * c ≠ 0 by omega)
    have m1 := Int.emod_lt_of_pos (H + b) (show 0 < 2 * c by omega)
    obtain ⟨B, hB⟩ : ∃ B, H - (H + b) % (2 * c) = B := ⟨_, rfl⟩
    have hfin : nextD ⟨a, b, c⟩ D W = ⟨c, B, (B * B - D).tdiv (4 * c)⟩ := by
      unfold nextD
      simp only [hab.out, hH, hB]
    have b0 : -3000000 ≤ B := by omega
    have b1 : B ≤ 3000000 := by omega
    obtain ⟨p0, p1⟩ := mul_bd b0 b1 b0 b1
    obtain ⟨t0, t1⟩ := tdiv_bounds (B * B - D) (4 * c) (m := 9000000004000) (by omega) (by omega)
    have hfin := Lib.hid hfin
    by_cases hwc : W < c
    all_goals
      (first | rw [if_pos hwc] at hH | rw [if_neg hwc] at hH)
      subst hH
      go_enter Try.func120, Try.ntmps120
      go_wp2_with (first | (go_at_call 110; refine (l01Rest_any _ _ (by omega) (by omega) _).mono ?_; rintro e w' ⟨rfl, rfl⟩))
      go_region
      go_wp2
      refine bodyPost_ret (v := .agg #[.int .i64 c, .int .i64 B, .int .i64 ((B * B - D).tdiv (4 * c))]) ?_ rfl ⟨by rw [hfin.out]; rfl, ?_⟩
      · simp [results, Try.results120, go_sem]
      · (repeat (first | exact Below.refl _ _ | assumption | refine Below.drew ?_ | refine below_drewN ?_ _ | refine Below.alloc ?_ (by first | omega | (simp; done) | (simp; omega)) _ | refine Below.setCell ?_ (by first | omega | (simp; done) | (simp; omega)) _))
end Go.Proofs.Ytcphdmhcpjfedaa

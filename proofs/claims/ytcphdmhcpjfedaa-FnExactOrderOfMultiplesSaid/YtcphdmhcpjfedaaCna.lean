/- The small functions on numbers and forms: what each call returns. -/
import Derived.Test.YtcphdmhcpjfedaaProg
import Derived.Test.YtcphdmhcpjfedaaPure
namespace Go.Proofs.Ytcphdmhcpjfedaa
open Go.RowKit

theorem in_any (n lo hi : Int) (w : World) :
    Calls Try.prog 108 #[.int .i64 n, .int .i64 lo, .int .i64 hi] w fun e w' => e = .returned (.bool (decide (lo ≤ n) && decide (n ≤ hi))) ∧ w = w' := by
  by_cases h1 : lo ≤ n <;> by_cases h2 : n ≤ hi <;> (go_enter Try.func108, Try.ntmps108; go_wp2; go_ret; exact ⟨ret_bool (by simp [h1, h2]), rfl⟩)

theorem in_true (n lo hi : Int) (w : World) (h : lo ≤ n ∧ n ≤ hi) :
    Calls Try.prog 108 #[.int .i64 n, .int .i64 lo, .int .i64 hi] w fun e w' => e = .returned (.bool true) ∧ w = w' :=
  (in_any n lo hi w).mono fun _ _ g => ⟨g.1.trans (ret_bool (by simp [h])), g.2⟩
theorem in_false (n lo hi : Int) (w : World) (h : ¬ (lo ≤ n ∧ n ≤ hi)) :
    Calls Try.prog 108 #[.int .i64 n, .int .i64 lo, .int .i64 hi] w fun e w' => e = .returned (.bool false) ∧ w = w' :=
  (in_any n lo hi w).mono fun _ _ g => ⟨g.1.trans (ret_bool (by rw [Bool.and_eq_false_iff]; simp only [decide_eq_false_iff_not]; omega)), g.2⟩

theorem l01In_any (n lo hi : Int) (w : World) :
    Calls Try.prog 105 #[.int .i64 n, .int .i64 lo, .int .i64 hi] w fun e w' => e = .returned (.bool (decide (lo ≤ n) && decide (n ≤ hi))) ∧ w = w' := by
  by_cases h1 : lo ≤ n <;> by_cases h2 : n ≤ hi <;> (go_enter Try.func105, Try.ntmps105; go_wp2; go_ret; exact ⟨ret_bool (by simp [h1, h2]), rfl⟩)

theorem size_any (a : Int) (h0 : -9223372036854775807 ≤ a) (h1 : a ≤ 9223372036854775807) (w : World) :
    Calls Try.prog 183 #[.int .i64 a] w fun e w' => e = .returned (.int .i64 (absv a)) ∧ w = w' := by
  go_enter Try.func183, Try.ntmps183
  go_wp2
  all_goals (go_ret; refine ⟨ret_int ?_, rfl⟩; unfold absv; omega)

theorem floor_any (a b : Int) (h0 : -4611686018427387904 ≤ a) (h1 : a ≤ 4611686018427387904) (hb : 0 < b) (w : World) :
    Calls Try.prog 180 #[.int .i64 a, .int .i64 b] w fun e w' => e = .returned (.int .i64 (a / b)) ∧ w = w' := by
  have hq := Lib.hid (tdiv_eq a b hb)
  obtain ⟨t0, t1⟩ := tdiv_bounds a b (m := 4611686018427387904) h0 h1
  have hb0 : ¬ b = 0 := by omega
  by_cases hm : a.tmod b = 0
  · have hm1 : (a.tmod b != 0) = false := by simp [hm]
    have hm := Lib.hid hm
    go_enter Try.func180, Try.ntmps180
    go_wp2
    go_ret
    refine ⟨ret_int ?_, rfl⟩
    rw [hq.out, if_pos hm.out]
  · have hm1 : (a.tmod b != 0) = true := by simp [hm]
    have hm := Lib.hid hm
    by_cases ha : a < 0
    · have ha1 : decide (a < 0) = true := by simp [ha]
      have hb1 : decide (b < 0) = false := by simp; omega
      go_enter Try.func180, Try.ntmps180
      go_wp2
      go_ret
      refine ⟨ret_int ?_, rfl⟩
      rw [hq.out, if_neg hm.out, if_pos ha]
    · have ha1 : decide (a < 0) = false := by simp; omega
      have hb1 : decide (b < 0) = false := by simp; omega
      go_enter Try.func180, Try.ntmps180
      go_wp2
      all_goals go_ret
      all_goals refine ⟨ret_int ?_, rfl⟩
      all_goals rw [hq.out, if_neg hm.out, if_neg (by omega)]

theorem mod_any (a b : Int) (h0 : -4611686018427387904 ≤ a) (h1 : a ≤ 4611686018427387904) (hb : 0 < b) (hb2 : b ≤ 4611686018427387904) (w : World) :
    Calls Try.prog 111 #[.int .i64 a, .int .i64 b] w fun e w' => e = .returned (.int .i64 (a % b)) ∧ w = w' := by
  go_enter Try.func111, Try.ntmps111
  go_wp2_with (go_at_call 180; refine (floor_any _ _ (by omega) (by omega) (by omega) _).mono ?_; rintro e w' ⟨rfl, rfl⟩)
  go_ret
  refine ⟨ret_int ?_, rfl⟩
  have h2 := Int.emod_add_mul_ediv a b
  have h3 := Int.emod_nonneg a (show b ≠ 0 by omega)
  have h4 := Int.emod_lt_of_pos a hb
  generalize b * (a / b) = M at *
  unfold wrap64
  omega

theorem l01Rest_any (n x : Int) (h0 : 0 < n) (h1 : n ≤ 4611686018427387904) (w : World) :
    Calls Try.prog 110 #[.int .i64 n, .int .i64 x] w fun e w' => e = .returned (.int .i64 (x % n)) ∧ w = w' := by
  have hn0 : ¬ n = 0 := by omega
  have hr := Lib.hid (rest_eq n x h0)
  have t1 := Int.lt_tmod_of_pos x h0
  have t2 := Int.tmod_lt_of_pos x h0
  go_enter Try.func110, Try.ntmps110
  go_wp2
  go_ret
  refine ⟨ret_int ?_, rfl⟩
  exact (Int.tmod_eq_emod_of_nonneg (by omega)).symm.trans hr.out

theorem root_any (d : Int) (h : d ≤ 4000) (w : World) :
    Calls Try.prog 175 #[.int .i64 d] w fun e w' => e = .returned (.int .i64 (root d)) ∧ w = w' := by
  go_enter Try.func175, Try.ntmps175
  go_wp2
  go_loop [3] (fun v => ∃ k : Int, 0 ≤ k ∧ k ≤ 64 ∧ (k * k ≤ d ∨ k = 0) ∧ v = .int .i64 k) (fun v => (70 - intOf v).toNat)
  case atStart => exact ⟨0, by omega, by omega, .inr rfl, rfl⟩
  case round =>
    obtain ⟨k, hk0, hk1, hk2, rfl⟩ := hrel
    have hk2 := Lib.hid hk2
    have hp : (k + 1) * (k + 1) ≤ 65 * 65 := mul_self_mono (by omega) (by omega)
    have hp0 : 0 ≤ (k + 1) * (k + 1) := Int.mul_nonneg (by omega) (by omega)
    by_cases hlt : (k + 1) * (k + 1) ≤ d
    · go_wp2
      go_round
      case rel =>
        refine ⟨k + 1, by omega, ?_, .inl hlt, rfl⟩
        have : ¬ 64 ≤ k := fun hh => by
          have := mul_self_mono (a := 64) (b := k + 1) (by omega) (by omega)
          omega
        omega
      case measure => simp [intOf]; omega
    · go_wp2
      go_ret
      exact ⟨ret_int (root_unique h hk0 hk2.out (by omega)), rfl⟩

theorem l06Root_any (d : Int) (h : d ≤ 4000) (w : World) :
    Calls Try.prog 121 #[.int .i64 d] w fun e w' => e = .returned (.int .i64 (root d)) ∧ w = w' := by
  go_enter Try.func121, Try.ntmps121
  go_wp2
  go_loop [3] (fun v => ∃ k : Int, 0 ≤ k ∧ k ≤ 64 ∧ (k * k ≤ d ∨ k = 0) ∧ v = .int .i64 k) (fun v => (70 - intOf v).toNat)
  case atStart => exact ⟨0, by omega, by omega, .inr rfl, rfl⟩
  case round =>
    obtain ⟨k, hk0, hk1, hk2, rfl⟩ := hrel
    have hk2 := Lib.hid hk2
    have hp : (k + 1) * (k + 1) ≤ 65 * 65 := mul_self_mono (by omega) (by omega)
    have hp0 : 0 ≤ (k + 1) * (k + 1) := Int.mul_nonneg (by omega) (by omega)
    by_cases hlt : (k + 1) * (k + 1) ≤ d
    · go_wp2
      go_round
      case rel =>
        refine ⟨k + 1, by omega, ?_, .inl hlt, rfl⟩
        have : ¬ 64 ≤ k := fun hh => by
          have := mul_self_mono (a := 64) (b := k + 1) (by omega) (by omega)
          omega
        omega
      case measure => simp [intOf]; omega
    · go_wp2
      go_ret
      exact ⟨ret_int (root_unique h hk0 hk2.out (by omega)), rfl⟩


/-- the numbers of a form are of points -/
def small (x : Fm) : Prop := (-1000000 ≤ x.a ∧ x.a ≤ 1000000) ∧ (-1000000 ≤ x.b ∧ x.b ≤ 1000000) ∧ (-1000000 ≤ x.c ∧ x.c ≤ 1000000)

theorem mul_bd {a b A B : Int} (ha : -A ≤ a) (ha' : a ≤ A) (hb : -B ≤ b) (hb' : b ≤ B) : -(A * B) ≤ a * b ∧ a * b ≤ A * B := by
  have h1 : (a * b).natAbs ≤ (A * B).natAbs := by
    rw [Int.natAbs_mul, Int.natAbs_mul]
    exact Nat.mul_le_mul (by omega) (by omega)
  have h2 : 0 ≤ A * B := Int.mul_nonneg (by omega) (by omega)
  omega

theorem disc_any (x : Fm) (h : small x) (w : World) :
    Calls Try.prog 124 #[x.val] w fun e w' => e = .returned (.int .i64 (dsc x)) ∧ Below w.heap.size w w' := by
  obtain ⟨a, b, c⟩ := x
  obtain ⟨⟨h1, h2⟩, ⟨h3, h4⟩, ⟨h5, h6⟩⟩ := h
  simp only at *
  have m1 := mul_bd h3 h4 h3 h4
  have m2 := mul_bd (a := 4 * a) (A := 4000000) (by omega) (by omega) h5 h6
  obtain ⟨m1, m1'⟩ := m1
  obtain ⟨m2, m2'⟩ := m2
  unfold Fm.val
  go_enter Try.func124, Try.ntmps124
  go_wp2
  go_ret
  refine ⟨ret_int ?_, ?_⟩
  · unfold dsc
    rfl
  · exact (Below.refl _ _).alloc (Nat.le_refl _) _

theorem l06Disc_any (x : Fm) (h : small x) (w : World) :
    Calls Try.prog 119 #[x.val] w fun e w' => e = .returned (.int .i64 (dsc x)) ∧ Below w.heap.size w w' := by
  obtain ⟨a, b, c⟩ := x
  obtain ⟨⟨h1, h2⟩, ⟨h3, h4⟩, ⟨h5, h6⟩⟩ := h
  simp only at *
  have m1 := mul_bd h3 h4 h3 h4
  have m2 := mul_bd (a := 4 * a) (A := 4000000) (by omega) (by omega) h5 h6
  obtain ⟨m1, m1'⟩ := m1
  obtain ⟨m2, m2'⟩ := m2
  unfold Fm.val
  go_enter Try.func119, Try.ntmps119
  go_wp2
  go_ret
  refine ⟨ret_int ?_, ?_⟩
  · unfold dsc
    rfl
  · exact (Below.refl _ _).alloc (Nat.le_refl _) _

theorem root_bd (d : Int) (h : d ≤ 4000) : 0 ≤ root d ∧ root d ≤ 63 := ⟨(root_spec d h).1, (root_spec d h).2.1⟩

def okB (d : Int) : Bool := decide (1 ≤ d) && decide (d ≤ 4000) && (root d * root d != d)
theorem okB_iff {d : Int} : okB d = true ↔ okD d := by unfold okB okD; simp [and_assoc]

theorem discOk_any (d : Int) (w : World) :
    Calls Try.prog 123 #[.int .i64 d] w fun e w' => e = .returned (.bool (okB d)) ∧ w = w' := by
  by_cases h1 : 1 ≤ d
  · by_cases h2 : d ≤ 4000
    · obtain ⟨r0, r1⟩ := root_bd d h2
      have m := mul_bd (a := root d) (b := root d) (A := 63) (B := 63) (by omega) (by omega) (by omega) (by omega)
      obtain ⟨m, m'⟩ := m
      go_enter Try.func123, Try.ntmps123
      go_wp2_with (first | (go_at_call 108; refine (in_any _ _ _ _).mono ?_; rintro e w' ⟨rfl, rfl⟩) | (go_at_call 175; refine (root_any _ (by omega) _).mono ?_; rintro e w' ⟨rfl, rfl⟩))
      all_goals go_ret
      all_goals refine ⟨ret_bool ?_, rfl⟩
      all_goals simp [okB, *]
    · go_enter Try.func123, Try.ntmps123
      go_wp2_with (first | (go_at_call 108; refine (in_any _ _ _ _).mono ?_; rintro e w' ⟨rfl, rfl⟩))
      all_goals go_ret
      all_goals refine ⟨ret_bool ?_, rfl⟩
      all_goals simp [okB, *]
      all_goals (intro _; omega)
  · go_enter Try.func123, Try.ntmps123
    go_wp2_with (first | (go_at_call 108; refine (in_any _ _ _ _).mono ?_; rintro e w' ⟨rfl, rfl⟩))
    all_goals go_ret
    all_goals refine ⟨ret_bool ?_, rfl⟩
    all_goals simp [okB, *]

end Go.Proofs.Ytcphdmhcpjfedaa

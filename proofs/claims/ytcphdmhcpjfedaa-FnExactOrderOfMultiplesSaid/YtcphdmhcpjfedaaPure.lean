/- Plain mathematics of whole numbers and forms; no program in sight. -/
import Derived.Test.YtcphdmhcpjfedaaKit
namespace Go.Proofs.Ytcphdmhcpjfedaa

theorem rest_eq (n x : Int) (hn : 0 < n) : ((x.tmod n) + n).tmod n = x % n := by
  have h1 : 0 ≤ x.tmod n + n := by
    have := Int.lt_tmod_of_pos x hn
    omega
  rw [Int.tmod_eq_emod_of_nonneg h1]
  rw [Int.tmod_eq_emod]
  split <;> simp
  have : ((n.natAbs : Int)) = n := by omega
  simp [this]
theorem mod_eq (a b : Int) (hb : 0 < b) : a - b * a.fdiv b = a % b := by
  rw [Int.fdiv_eq_ediv_of_nonneg _ (by omega)]
  have := Int.emod_add_mul_ediv a b
  omega
theorem fdiv_of_tdiv (a b : Int) (hb : b ≠ 0) : a.fdiv b = if a.tmod b ≠ 0 ∧ (decide (a < 0) ≠ decide (b < 0)) then a.tdiv b - 1 else a.tdiv b := by
  rw [Int.fdiv_eq_tdiv]
  have hd : b ∣ a ↔ a.tmod b = 0 := Int.dvd_iff_tmod_eq_zero
  by_cases h : a.tmod b = 0
  · simp [hd.2 h, h]
  · have : ¬ b ∣ a := fun x => h (hd.1 x)
    simp only [this, h, ne_eq, not_false_eq_true, true_and]
    by_cases h1 : a < 0 <;> by_cases h2 : b < 0
    · have := Int.sign_eq_neg_one_of_neg h2; simp [h1, h2, this]; omega
    · have := Int.sign_eq_one_of_pos (show 0 < b by omega); simp [h1, h2, this]; omega
    · simp [h1, h2]; omega
    · simp [h1, h2]; omega

theorem tdiv_bounds (a b : Int) {m : Int} (h0 : -m ≤ a) (h1 : a ≤ m) : -m ≤ a.tdiv b ∧ a.tdiv b ≤ m := by
  have := Int.mul_tdiv_add_tmod a b
  have h2 := Int.natAbs_tdiv_le_natAbs a b
  omega
theorem tdiv_eq (a b : Int) (hb : 0 < b) : a / b = if a.tmod b = 0 then a.tdiv b else if a < 0 then a.tdiv b - 1 else a.tdiv b := by
  have := Int.mul_tdiv_add_tmod a b
  have h3 := Int.emod_add_mul_ediv a b
  rw [Int.tdiv_eq_ediv, Int.tmod_eq_emod]
  have hd : b ∣ a ↔ a % b = 0 := Int.dvd_iff_emod_eq_zero
  have hs := Int.sign_eq_one_of_pos hb
  by_cases h0 : 0 ≤ a
  · simp [h0]; omega
  · by_cases h1 : a % b = 0
    · simp [h0, hd, h1]
    · have : ¬ (a % b - ↑b.natAbs = 0) := by have := Int.emod_lt_of_pos a hb; omega
      simp [h0, hd, h1, hs, this, show a < 0 by omega]

/-- the greatest k of at most m with k k of at most d -/
def rt (d : Int) : Nat → Int
  | 0 => 0
  | k + 1 => if ((k : Int) + 1) * (k + 1) ≤ d then k + 1 else rt d k

/-- the root of numbers of at most 4095 -/
def root (d : Int) : Int := rt d 64

theorem mul_self_mono {a b : Int} (ha : 0 ≤ a) (h : a ≤ b) : a * a ≤ b * b := Int.mul_le_mul h h ha (by omega)

theorem rt_spec (d : Int) : ∀ m : Nat, 0 ≤ rt d m ∧ rt d m ≤ m ∧ (0 ≤ d → rt d m * rt d m ≤ d) ∧ (rt d m < m → d < (rt d m + 1) * (rt d m + 1))
  | 0 => by simp [rt]
  | k + 1 => by
    have ih := rt_spec d k
    unfold rt
    split
    · rename_i h
      refine ⟨by omega, by omega, fun _ => h, fun hl => by omega⟩
    · rename_i h
      refine ⟨ih.1, by omega, ih.2.2.1, fun _ => ?_⟩
      by_cases e : rt d k < k
      · exact ih.2.2.2 e
      · have e2 : rt d k = k := by omega
        rw [e2]; omega

theorem root_spec (d : Int) (h : d ≤ 4000) : 0 ≤ root d ∧ root d ≤ 63 ∧ (0 ≤ d → root d * root d ≤ d) ∧ d < (root d + 1) * (root d + 1) := by
  have s := rt_spec d 64
  have h64 : root d < 64 := by
    by_cases h0 : 0 ≤ d
    · have := s.2.2.1 h0
      have h2 : root d ≤ 64 := s.2.1
      by_cases e : root d = 64
      · have e' : rt d 64 = 64 := e
        rw [e'] at this; omega
      · omega
    · have : rt d 64 ≤ 0 := by
        have : ∀ m, rt d m = 0 := by
          intro m
          induction m with
          | zero => rfl
          | succ k ih =>
            unfold rt
            have : 0 ≤ ((k : Int) + 1) * (k + 1) := Int.mul_nonneg (by omega) (by omega)
            rw [if_neg (by omega)]; exact ih
        rw [this]; omega
      show rt d 64 < 64
      omega
  exact ⟨s.1, by omega, s.2.2.1, s.2.2.2 h64⟩

/-- a whole number with that square between is the root -/
theorem root_unique {d w : Int} (h : d ≤ 4000) (h0 : 0 ≤ w) (h1 : w * w ≤ d ∨ w = 0) (h2 : d < (w + 1) * (w + 1)) : w = root d := by
  obtain ⟨r0, r1, r2, r3⟩ := root_spec d h
  by_cases hd : 0 ≤ d
  · have h1' : w * w ≤ d := by rcases h1 with h1 | rfl; exact h1; simpa using hd
    have r2' := r2 hd
    rcases Int.lt_trichotomy w (root d) with hl | he | hg
    · have := mul_self_mono (a := w + 1) (b := root d) (by omega) (by omega); omega
    · exact he
    · have := mul_self_mono (a := root d + 1) (b := w) (by omega) (by omega); omega
  · have : w = 0 := by
      rcases h1 with h1 | h1
      · have := Int.mul_nonneg h0 h0; omega
      · exact h1
    rcases Int.lt_trichotomy w (root d) with hl | he | hg
    · have : ∀ m, rt d m = 0 := by
        intro m
        induction m with
        | zero => rfl
        | succ k ih =>
          unfold rt
          have : 0 ≤ ((k : Int) + 1) * (k + 1) := Int.mul_nonneg (by omega) (by omega)
          rw [if_neg (by omega)]; exact ih
      have := this 64
      unfold root at hl
      omega
    · exact he
    · omega

/-- two forms compared number by number -/
def eqF (a b c a' b' c' : Int) : Bool := decide ((⟨a, b, c⟩ : Fm) = ⟨a', b', c'⟩)
theorem eqF_true {a b c a' b' c' : Int} : eqF a b c a' b' c' = true ↔ (⟨a, b, c⟩ : Fm) = ⟨a', b', c'⟩ := by unfold eqF; exact decide_eq_true_iff
theorem eqF_false {a b c a' b' c' : Int} : eqF a b c a' b' c' = false ↔ (⟨a, b, c⟩ : Fm) ≠ ⟨a', b', c'⟩ := by unfold eqF; exact decide_eq_false_iff_not

/-- the absolute value, as Go's max has it -/
def absv (n : Int) : Int := max n (-n)
theorem absv_eq (n : Int) : absv n = n ∨ absv n = -n := by unfold absv; omega
theorem absv_nonneg (n : Int) : 0 ≤ absv n := by unfold absv; omega
theorem absv_pos {n : Int} (h : n ≠ 0) : 0 < absv n := by unfold absv; omega

def dsc (x : Fm) : Int := x.b * x.b - 4 * x.a * x.c

/-- a form is reduced, w being the root of its discriminant -/
def redB (x : Fm) (w : Int) : Bool := decide (1 ≤ x.b) && decide (x.b ≤ w) && decide (w - x.b < 2 * absv x.a) && decide (2 * absv x.a ≤ w + x.b)

theorem redB_iff {x : Fm} {w : Int} : redB x w = true ↔ 1 ≤ x.b ∧ x.b ≤ w ∧ w - x.b < 2 * absv x.a ∧ 2 * absv x.a ≤ w + x.b := by
  unfold redB; simp [and_assoc]

/-- the next form, for a discriminant and its root -/
def nextD (x : Fm) (d w : Int) : Fm :=
  let c := absv x.c
  let h := if w < c then c else w
  let b := h - (h + x.b) % (2 * c)
  ⟨x.c, b, (b * b - d).tdiv (4 * x.c)⟩
def nextF (x : Fm) : Fm := nextD x (dsc x) (root (dsc x))

theorem low_high (h c B : Int) (hc : 0 < c) : (h - 2 * c + 1) + (-B - (h - 2 * c + 1)) % (2 * c) = h - (h + B) % (2 * c) := by
  have h0 := Int.emod_nonneg (h + B) (show 2 * c ≠ 0 by omega)
  have h1 := Int.emod_lt_of_pos (h + B) (show 0 < 2 * c by omega)
  have h2 := Int.emod_add_mul_ediv (h + B) (2 * c)
  have e : (-B - (h - 2 * c + 1)) = (2 * c - 1 - (h + B) % (2 * c)) + (2 * c) * (-((h + B) / (2 * c))) := by
    rw [Int.mul_neg]; omega
  rw [e, Int.add_mul_emod_self_left, Int.emod_eq_of_lt (by omega) (by omega)]
  omega

/-- what the next form's middle number is: minus the old one and a multiple of 2 C -/
theorem next_mid (x : Fm) (d w : Int) (hc : x.c ≠ 0) : ∃ k, (nextD x d w).b = -x.b + 2 * x.c * k := by
  have hp := absv_pos hc
  let h := if w < absv x.c then absv x.c else w
  have h2 := Int.emod_add_mul_ediv (h + x.b) (2 * absv x.c)
  have e : (nextD x d w).b = h - (h + x.b) % (2 * absv x.c) := rfl
  rcases absv_eq x.c with ha | ha
  · refine ⟨(h + x.b) / (2 * absv x.c), ?_⟩
    rw [e]
    generalize (h + x.b) / (2 * absv x.c) = q at *
    rw [ha] at h2 ⊢
    omega
  · refine ⟨-((h + x.b) / (2 * absv x.c)), ?_⟩
    rw [e]
    generalize (h + x.b) / (2 * absv x.c) = q at *
    rw [ha] at h2 ⊢
    simp only [Int.mul_neg, Int.neg_mul] at h2 ⊢
    omega

theorem next_last (x : Fm) (hc : x.c ≠ 0) (w : Int) {k : Int} (hk : (nextD x (dsc x) w).b = -x.b + 2 * x.c * k) : (nextD x (dsc x) w).c = x.a - x.b * k + x.c * k * k := by
  have e : (nextD x (dsc x) w).c = ((nextD x (dsc x) w).b * (nextD x (dsc x) w).b - dsc x).tdiv (4 * x.c) := rfl
  rw [e, hk]
  have : (-x.b + 2 * x.c * k) * (-x.b + 2 * x.c * k) - dsc x = (4 * x.c) * (x.a - x.b * k + x.c * k * k) := by
    unfold dsc; grind
  rw [this, Int.mul_tdiv_cancel_left _ (by omega)]

theorem next_disc (x : Fm) (hc : x.c ≠ 0) (w : Int) : dsc (nextD x (dsc x) w) = dsc x := by
  obtain ⟨k, hk⟩ := next_mid x (dsc x) w hc
  have hl := next_last x hc w hk
  have ha : (nextD x (dsc x) w).a = x.c := rfl
  show (nextD x (dsc x) w).b * (nextD x (dsc x) w).b - 4 * (nextD x (dsc x) w).a * (nextD x (dsc x) w).c = dsc x
  rw [ha, hl, hk]
  unfold dsc; grind

/-- a discriminant in range that is no square -/
def okD (d : Int) : Prop := 1 ≤ d ∧ d ≤ 4000 ∧ root d * root d ≠ d

theorem okD.sq {d : Int} (h : okD d) : root d * root d < d ∧ d < (root d + 1) * (root d + 1) ∧ 1 ≤ root d ∧ root d ≤ 63 := by
  obtain ⟨h1, h2, h3⟩ := h
  obtain ⟨r0, r1, r2, r3⟩ := root_spec d h2
  have := r2 (by omega)
  refine ⟨by omega, r3, ?_, r1⟩
  by_cases e : root d = 0
  · rw [e] at r3; have : root 1 = 1 := by decide
    have : d = 0 ∨ d = 1 := by omega
    rcases this with rfl | rfl <;> simp_all
  · omega

theorem okD.nosq {d : Int} (h : okD d) (b : Int) : b * b ≠ d := by
  intro hb
  have := root_unique (d := d) (w := absv b) h.2.1 (absv_nonneg b) (.inl (by rcases absv_eq b with e | e <;> rw [e] <;> first | omega | (rw [Int.neg_mul_neg]; omega)))
    (by rcases absv_eq b with e | e <;> have := absv_nonneg b <;> rw [e] at * <;> grind)
  apply h.2.2
  rw [← this]
  rcases absv_eq b with e | e <;> rw [e] <;> first | omega | (rw [Int.neg_mul_neg]; omega)

theorem c_ne {x : Fm} (h : okD (dsc x)) : x.c ≠ 0 := by
  intro hc
  apply h.nosq x.b
  unfold dsc; rw [hc]; simp
theorem a_ne {x : Fm} (h : okD (dsc x)) : x.a ≠ 0 := by
  intro hc
  apply h.nosq x.b
  unfold dsc; rw [hc]; simp

/-- of a reduced form the last number is bound as the first one -/
theorem red_last {x : Fm} (h : okD (dsc x)) (hr : redB x (root (dsc x)) = true) : root (dsc x) - x.b < 2 * absv x.c ∧ 2 * absv x.c ≤ root (dsc x) + x.b := by
  obtain ⟨s1, s2, s3, s4⟩ := h.sq
  obtain ⟨r1, r2, r3, r4⟩ := redB_iff.1 hr
  have hA := absv_nonneg x.a
  have hC := absv_nonneg x.c
  generalize hw : root (dsc x) = w at *
  -- 4 |a| |c| = d - b b
  have hb : x.b * x.b ≤ w * w := mul_self_mono (by omega) r2
  have hac : 2 * absv x.a * (2 * absv x.c) = dsc x - x.b * x.b := by
    have e : dsc x - x.b * x.b = -(4 * x.a * x.c) := by unfold dsc; omega
    have hpos : 0 < -(4 * x.a * x.c) := by omega
    rcases absv_eq x.a with ea | ea <;> rcases absv_eq x.c with ec | ec
    · exfalso
      rw [ea] at hA; rw [ec] at hC
      have := Int.mul_nonneg hA hC; grind
    · rw [ea, ec, e]; grind
    · rw [ea, ec, e]; grind
    · exfalso
      rw [ea] at hA; rw [ec] at hC
      have := Int.mul_nonneg hA hC; grind
  have hA2 : 0 ≤ 2 * absv x.a := by omega
  have hC2 : 0 ≤ 2 * absv x.c := by omega
  generalize 2 * absv x.a = A at *
  generalize 2 * absv x.c = C at *
  constructor
  · apply Classical.byContradiction
    intro hn
    have h1 : A * C ≤ (w + x.b) * (w - x.b) := Int.mul_le_mul r4 (by omega) (by omega) (by omega)
    grind
  · apply Classical.byContradiction
    intro hn
    have h1 : (w - x.b + 1) * (w + x.b + 1) ≤ A * C := Int.mul_le_mul (by omega) (by omega) (by omega) (by omega)
    grind

theorem next_mid_red {x : Fm} (h : okD (dsc x)) (hr : redB x (root (dsc x)) = true) :
    (nextF x).b = root (dsc x) - (root (dsc x) + x.b) % (2 * absv x.c) := by
  obtain ⟨c1, c2⟩ := red_last h hr
  obtain ⟨r1, r2, r3, r4⟩ := redB_iff.1 hr
  show (if root (dsc x) < absv x.c then absv x.c else root (dsc x)) - ((if root (dsc x) < absv x.c then absv x.c else root (dsc x)) + x.b) % (2 * absv x.c) = _
  rw [if_neg (by omega)]

theorem next_red {x : Fm} (h : okD (dsc x)) (hr : redB x (root (dsc x)) = true) : dsc (nextF x) = dsc x ∧ redB (nextF x) (root (dsc x)) = true := by
  have hc := c_ne h
  refine ⟨next_disc x hc _, ?_⟩
  obtain ⟨c1, c2⟩ := red_last h hr
  obtain ⟨r1, r2, r3, r4⟩ := redB_iff.1 hr
  have hm := next_mid_red h hr
  have ha : (nextF x).a = x.c := rfl
  have hp := absv_pos hc
  rw [redB_iff, ha, hm]
  generalize root (dsc x) = w at *
  generalize absv x.c = C at *
  have h0 := Int.emod_nonneg (w + x.b) (show 2 * C ≠ 0 by omega)
  have h1 := Int.emod_lt_of_pos (w + x.b) (show 0 < 2 * C by omega)
  have h2 := Int.emod_add_mul_ediv (w + x.b) (2 * C)
  have hq : 1 ≤ (w + x.b) / (2 * C) := by
    rw [Int.le_ediv_iff_mul_le (by omega)]; omega
  have h3 : 2 * C * 1 ≤ 2 * C * ((w + x.b) / (2 * C)) := Int.mul_le_mul_of_nonneg_left hq (by omega)
  generalize 2 * C * ((w + x.b) / (2 * C)) = M at *
  generalize (w + x.b) % (2 * C) = R at *
  refine ⟨?_, ?_, ?_, ?_⟩ <;> omega

theorem next_inj {x y : Fm} (h : okD (dsc x)) (hd : dsc x = dsc y) (hx : redB x (root (dsc x)) = true) (hy : redB y (root (dsc x)) = true) (he : nextF x = nextF y) : x = y := by
  have hc : x.c = y.c := congrArg Fm.a he
  have hm := next_mid_red h hx
  have hm2 := next_mid_red (x := y) (by rw [← hd]; exact h) (by rw [← hd]; exact hy)
  rw [← hd, ← hc] at hm2
  have hb : (root (dsc x) + x.b) % (2 * absv x.c) = (root (dsc x) + y.b) % (2 * absv x.c) := by
    have := congrArg Fm.b he; omega
  obtain ⟨c1, c2⟩ := red_last h hx
  obtain ⟨d1, d2⟩ := red_last (x := y) (by rw [← hd]; exact h) (by rw [← hd]; exact hy)
  obtain ⟨r1, r2, r3, r4⟩ := redB_iff.1 hx
  obtain ⟨q1, q2, q3, q4⟩ := redB_iff.1 hy
  rw [← hd, ← hc] at d1 d2
  have hp := absv_pos (c_ne h)
  have hbb : x.b = y.b := by
    generalize root (dsc x) = w at *
    have e1 := Int.emod_add_mul_ediv (w + x.b) (2 * absv x.c)
    have e2 := Int.emod_add_mul_ediv (w + y.b) (2 * absv x.c)
    rw [hb] at e1
    generalize hQ : (w + x.b) / (2 * absv x.c) = Q at *
    generalize hR : (w + y.b) / (2 * absv x.c) = R at *
    generalize absv x.c = C at *
    have hdiff : x.b - y.b = 2 * C * (Q - R) := by rw [Int.mul_sub]; omega
    have : Q - R = 0 := by
      rcases Int.lt_trichotomy (Q - R) 0 with hl | he | hg
      · have : 2 * C * (Q - R) ≤ 2 * C * (-1) := Int.mul_le_mul_of_nonneg_left (by omega) (by omega)
        omega
      · exact he
      · have : 2 * C * 1 ≤ 2 * C * (Q - R) := Int.mul_le_mul_of_nonneg_left (by omega) (by omega)
        omega
    rw [this] at hdiff
    omega
  have haa : x.a = y.a := by
    unfold dsc at hd
    rw [hbb, hc] at hd
    have : y.c * (x.a - y.a) = 0 := by grind
    rcases Int.mul_eq_zero.1 this with h0 | h0
    · exact absurd (hc.trans h0) (c_ne h)
    · omega
  cases x; cases y; simp_all

/-- n steps -/
def it (x : Fm) : Nat → Fm
  | 0 => x
  | n + 1 => nextF (it x n)

theorem it_red {x : Fm} (h : okD (dsc x)) (hr : redB x (root (dsc x)) = true) : ∀ n, dsc (it x n) = dsc x ∧ redB (it x n) (root (dsc x)) = true
  | 0 => ⟨rfl, hr⟩
  | n + 1 => by
    obtain ⟨h1, h2⟩ := it_red h hr n
    have := next_red (x := it x n) (by rw [h1]; exact h) (by rw [h1]; exact h2)
    rw [h1] at this
    exact this

/-- the first n from 1 on with which the steps are back -/
def Per (x : Fm) (n : Nat) : Prop := 1 ≤ n ∧ n ≤ 10000 ∧ it x n = x ∧ ∀ i, 1 ≤ i → i < n → it x i ≠ x

theorem nodup_length_le : ∀ (M : Nat) (l : List Nat), l.Nodup → (∀ x ∈ l, x < M) → l.length ≤ M
  | 0, l, _, h => by
    cases l with
    | nil => simp
    | cons x l => have := h x (by simp); omega
  | M + 1, l, hn, h => by
    by_cases hm : M ∈ l
    · have h1 := nodup_length_le M (l.erase M) (hn.erase M) (fun x hx => by
        have h2 := (hn.mem_erase_iff).1 hx
        have := h x h2.2
        have := h2.1
        omega)
      rw [List.length_erase_of_mem hm] at h1
      omega
    · have := nodup_length_le M l hn (fun x hx => by
        have := h x hx
        have : x ≠ M := fun e => hm (e ▸ hx)
        omega)
      omega

/-- of n + 1 numbers less than n two are equal -/
theorem pigeon (f : Nat → Nat) (M : Nat) (h : ∀ i, i ≤ M → f i < M) : ∃ i j, i < j ∧ j ≤ M ∧ f i = f j := by
  apply Classical.byContradiction
  intro hn
  have : ((List.range (M + 1)).map f).length ≤ M := by
    apply nodup_length_le
    · rw [List.nodup_iff_pairwise_ne, List.pairwise_map]
      refine (List.pairwise_lt_range).imp_of_mem ?_
      intro a b ha hb hab e
      exact hn ⟨a, b, hab, by have := List.mem_range.1 hb; omega, e⟩
    · intro x hx
      obtain ⟨i, hi, rfl⟩ := List.mem_map.1 hx
      exact h i (by have := List.mem_range.1 hi; omega)
  simp at this
  omega

def code (x : Fm) : Nat := ((x.a + 64) * 64 + x.b).toNat

theorem it_back {x : Fm} (h : okD (dsc x)) (hr : redB x (root (dsc x)) = true) : ∀ i j, it x (i + j) = it x i → it x j = x
  | 0, j, e => by simpa [it] using e
  | i + 1, j, e => by
    apply it_back h hr i j
    rw [show i + 1 + j = (i + j) + 1 by omega] at e
    obtain ⟨a1, a2⟩ := it_red h hr (i + j)
    obtain ⟨b1, b2⟩ := it_red h hr i
    exact next_inj (by rw [a1]; exact h) (by rw [a1, b1]) (by rw [a1]; exact a2) (by rw [a1]; exact b2) e

theorem exists_per {x : Fm} (h : okD (dsc x)) (hr : redB x (root (dsc x)) = true) : ∃ n, Per x n := by
  obtain ⟨s1, s2, s3, s4⟩ := h.sq
  have hb : ∀ i, -64 < (it x i).a ∧ (it x i).a < 64 ∧ 1 ≤ (it x i).b ∧ (it x i).b ≤ 63 := by
    intro i
    obtain ⟨r1, r2, r3, r4⟩ := redB_iff.1 (it_red h hr i).2
    have := absv_eq (it x i).a
    have := absv_nonneg (it x i).a
    omega
  obtain ⟨i, j, hij, hj, e⟩ := pigeon (fun i => code (it x i)) 9000 (fun i _ => by
    have := hb i
    show code (it x i) < 9000
    unfold code; omega)
  have hbi := hb i
  have hbj := hb j
  have e' : code (it x i) = code (it x j) := e
  unfold code at e'
  have ea : (it x i).a = (it x j).a := by omega
  have eb : (it x i).b = (it x j).b := by omega
  obtain ⟨a1, a2⟩ := it_red h hr i
  obtain ⟨b1, b2⟩ := it_red h hr j
  have hne := a_ne (x := it x i) (by rw [a1]; exact h)
  have ec : (it x i).c = (it x j).c := by
    have hdd := a1.trans b1.symm
    unfold dsc at hdd
    rw [← ea, ← eb] at hdd
    have : (it x i).a * ((it x i).c - (it x j).c) = 0 := by grind
    rcases Int.mul_eq_zero.1 this with h0 | h0
    · exact absurd h0 hne
    · omega
  have eq : it x i = it x j := by
    cases hx : it x i; cases hy : it x j; simp_all
  have hback := it_back h hr i (j - i) (by rw [show i + (j - i) = j by omega]; exact eq.symm)
  -- the least one
  have : ∀ m, m ≤ 10000 → (∃ n, 1 ≤ n ∧ n ≤ m ∧ it x n = x) → ∃ n, Per x n := by
    intro m
    induction m with
    | zero => rintro _ ⟨n, _, _, _⟩; omega
    | succ m ih =>
      rintro hm ⟨n, h1, h2, h3⟩
      by_cases hex : ∃ n, 1 ≤ n ∧ n ≤ m ∧ it x n = x
      · exact ih (by omega) hex
      · exact ⟨n, h1, by omega, h3, fun i hi1 hi2 he => hex ⟨i, hi1, by omega, he⟩⟩
  exact this 9000 (by omega) ⟨j - i, by omega, by omega, hback⟩

open Classical in
/-- the cycle of a reduced form -/
noncomputable def cyc (x : Fm) : List Fm := if h : ∃ n, Per x n then (List.range (Classical.choose h)).map (it x) else []

theorem per_unique {x : Fm} {n m : Nat} (h : Per x n) (k : Per x m) : n = m := by
  obtain ⟨h1, h2, h3, h4⟩ := h
  obtain ⟨k1, k2, k3, k4⟩ := k
  rcases Nat.lt_trichotomy n m with hl | he | hg
  · exact absurd h3 (k4 n h1 hl)
  · exact he
  · exact absurd k3 (h4 m k1 hg)

theorem cyc_of_per {x : Fm} {n : Nat} (h : Per x n) : cyc x = (List.range n).map (it x) := by
  have hex : ∃ n, Per x n := ⟨n, h⟩
  unfold cyc
  rw [dif_pos hex, per_unique (Classical.choose_spec hex) h]

/-! the reduced forms of a discriminant -/

def tryF (d w a b : Int) : Option Fm :=
  if (b * b - d).tmod (4 * a) = 0 ∧ redB ⟨a, b, (b * b - d).tdiv (4 * a)⟩ w = true then some ⟨a, b, (b * b - d).tdiv (4 * a)⟩ else none
/-- the forms of one first number, with middle numbers of at most n -/
def rowTo (d w a : Int) (n : Nat) : List Fm := if a = 0 then [] else (List.range n).filterMap fun (i : Nat) => tryF d w a (i + 1)
/-- the forms of the first n first numbers -/
def rowsTo (d w : Int) (n : Nat) : List Fm := (List.range n).flatMap fun (i : Nat) => rowTo d w (i - w) w.toNat
def reds (d : Int) : List Fm := rowsTo d (root d) (2 * root d + 1).toNat

theorem rowTo_succ (d w a : Int) (ha : a ≠ 0) (n : Nat) : rowTo d w a (n + 1) = rowTo d w a n ++ (tryF d w a (n + 1)).toList := by
  unfold rowTo
  rw [if_neg ha, if_neg ha, List.range_succ, List.filterMap_append]
  congr 1

theorem rowsTo_succ (d w : Int) (n : Nat) : rowsTo d w (n + 1) = rowsTo d w n ++ rowTo d w (n - w) w.toNat := by
  unfold rowsTo
  rw [List.range_succ, List.flatMap_append]
  simp

theorem rowTo_length (d w a : Int) (n : Nat) : (rowTo d w a n).length ≤ n := by
  unfold rowTo
  split
  · simp
  · have := List.length_filterMap_le (fun (i : Nat) => tryF d w a (i + 1)) (List.range n)
    simpa using this

theorem rowsTo_length (d w : Int) : ∀ n, (rowsTo d w n).length ≤ n * w.toNat
  | 0 => by simp [rowsTo]
  | n + 1 => by
    rw [rowsTo_succ, List.length_append, Nat.add_mul]
    have := rowsTo_length d w n
    have := rowTo_length d w (n - w) w.toNat
    omega

theorem mem_reds {d : Int} {x : Fm} (h : x ∈ reds d) : dsc x = d ∧ redB x (root d) = true := by
  unfold reds rowsTo at h
  simp only [List.mem_flatMap] at h
  obtain ⟨i, _, h⟩ := h
  unfold rowTo at h
  split at h
  · simp at h
  · rename_i ha
    simp only [List.mem_filterMap] at h
    obtain ⟨k, _, h⟩ := h
    unfold tryF at h
    split at h
    · rename_i hh
      simp only [Option.some.injEq] at h
      subst h
      refine ⟨?_, hh.2⟩
      unfold dsc
      simp only
      have := Int.mul_tdiv_add_tmod (((k : Int) + 1) * ((k : Int) + 1) - d) (4 * ((i : Int) - root d))
      rw [hh.1] at this
      generalize ((((k : Int) + 1) * ((k : Int) + 1) - d).tdiv (4 * ((i : Int) - root d))) = q at *
      grind
    · simp at h

/-! the number of classes, by both ways of counting -/

def ins (S : List Fm) (x : Fm) : List Fm := if x ∈ S then S else S ++ [x]
theorem mem_ins {S : List Fm} {x y : Fm} : y ∈ ins S x ↔ y ∈ S ∨ y = x := by
  unfold ins
  split
  · constructor
    · exact .inl
    · rintro (h | rfl) <;> assumption
  · simp
theorem mem_insAll {y : Fm} : ∀ (L S : List Fm), y ∈ L.foldl ins S ↔ y ∈ S ∨ y ∈ L
  | [], S => by simp
  | x :: L, S => by rw [List.foldl_cons, mem_insAll L, mem_ins]; simp [or_assoc]

noncomputable def stepI (s : Nat × List Fm) (x : Fm) : Nat × List Fm := if x ∈ s.2 then s else (s.1 + 1, (cyc x).foldl ins s.2)
noncomputable def stepS (s : Nat × List Fm) (x : Fm) : Nat × List Fm := if x ∈ s.2 then s else (s.1 + 1, s.2 ++ cyc x)

theorem steps_agree : ∀ (L : List Fm) (s t : Nat × List Fm), s.1 = t.1 → (∀ y, y ∈ s.2 ↔ y ∈ t.2) → (L.foldl stepI s).1 = (L.foldl stepS t).1
  | [], s, t, h, _ => h
  | x :: L, s, t, h, hm => by
    rw [List.foldl_cons, List.foldl_cons]
    apply steps_agree L
    · unfold stepI stepS
      by_cases hx : x ∈ s.2
      · rw [if_pos hx, if_pos ((hm x).1 hx)]; exact h
      · rw [if_neg hx, if_neg (fun e => hx ((hm x).2 e))]; simp [h]
    · intro y
      unfold stepI stepS
      by_cases hx : x ∈ s.2
      · rw [if_pos hx, if_pos ((hm x).1 hx)]; exact hm y
      · rw [if_neg hx, if_neg (fun e => hx ((hm x).2 e))]
        simp only [mem_insAll, List.mem_append, hm y]

noncomputable def classes (d : Int) : Nat := ((reds d).foldl stepI (0, [])).1

end Go.Proofs.Ytcphdmhcpjfedaa

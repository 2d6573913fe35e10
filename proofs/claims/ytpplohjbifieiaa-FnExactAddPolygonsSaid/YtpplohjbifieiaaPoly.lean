/- Polygons, plain mathematics: all corners lie to the left of each side if and only if the way turns to the left at each corner and passes just once from the lower half to the upper one. -/
namespace Go.Proofs.Ytpplohjbifieiaa.Poly

structure Pt where
  x : Int
  y : Int
deriving DecidableEq

def det (p q : Pt) : Int := p.x * q.y - p.y * q.x
def sub (p q : Pt) : Pt := ⟨p.x - q.x, p.y - q.y⟩
def neg (p : Pt) : Pt := ⟨-p.x, -p.y⟩
/-- the upper half, its right border with it -/
def up (v : Pt) : Prop := 0 < v.y ∨ (v.y = 0 ∧ 0 < v.x)
instance (v : Pt) : Decidable (up v) := by unfold up; infer_instance

theorem pos_of_mul {a b : Int} (ha : 0 < a) (h : 0 < a * b) : 0 < b := by
  rcases Int.lt_or_le 0 b with hb | hb
  · exact hb
  · have := Int.mul_nonneg (Int.le_of_lt ha) (show 0 ≤ -b by omega)
    rw [Int.mul_neg] at this; omega

theorem tr {u v w : Pt} (hu : up u) (hv : up v) (hw : up w) (h1 : 0 ≤ det u v) (h2 : 0 < det v w) : 0 < det u w := by
  have id1 : v.y * det u w = u.y * det v w + w.y * det u v := by unfold det; grind
  have wy : 0 ≤ w.y := by rcases hw with h | h <;> omega
  have uy : 0 ≤ u.y := by rcases hu with h | h <;> omega
  rcases hv with hv | ⟨hv0, hvx⟩
  · refine pos_of_mul hv ?_
    rw [id1]
    rcases hu with hu | ⟨hu0, hux⟩
    · have a := Int.mul_pos hu h2
      have b := Int.mul_nonneg wy h1
      omega
    · have e : det u v = u.x * v.y := by unfold det; rw [hu0]; grind
      have e2 : 0 < det u v := by rw [e]; exact Int.mul_pos hux hv
      rcases hw with hw | ⟨hw0, hwx⟩
      · have a := Int.mul_pos hw e2
        have b := Int.mul_nonneg uy (Int.le_of_lt h2)
        omega
      · exfalso
        have e3 : det v w = -(v.y * w.x) := by unfold det; rw [hw0]; grind
        have := Int.mul_pos hv hwx
        omega
  · have e1 : det u v = -(u.y * v.x) := by unfold det; rw [hv0]; grind
    have hu0 : u.y = 0 := by
      rcases Int.lt_or_le 0 u.y with h | h
      · have := Int.mul_pos h hvx; omega
      · omega
    have hux : 0 < u.x := by rcases hu with h | h <;> omega
    have e2 : det v w = v.x * w.y := by unfold det; rw [hv0]; grind
    have hwy : 0 < w.y := by rw [e2] at h2; exact pos_of_mul hvx h2
    have e3 : det u w = u.x * w.y := by unfold det; rw [hu0]; grind
    rw [e3]; exact Int.mul_pos hux hwy

theorem det_neg (u v : Pt) : det u (neg v) = -det u v := by unfold det neg; grind
theorem det_neg' (u v : Pt) : det (neg u) v = -det u v := by unfold det neg; grind
theorem det_self (u : Pt) : det u u = 0 := by unfold det; grind
theorem det_swap (u v : Pt) : det u v = -det v u := by unfold det; grind
theorem det_sub (u v w : Pt) : det u (sub v w) = det u v - det u w := by unfold det sub; grind
theorem up_neg {v : Pt} (h : ¬ up v) (h0 : v ≠ ⟨0, 0⟩) : up (neg v) := by
  obtain ⟨x, y⟩ := v
  simp only [up, neg, ne_eq, Pt.mk.injEq] at *
  omega

/-- directions that turn to the left, the first m of them up, the others down -/
structure Turns (E : Nat → Pt) (n m : Nat) : Prop where
  per : ∀ j, E (j + n) = E j
  m0 : 0 < m
  mn : m < n
  left : ∀ j, 0 < det (E j) (E (j + 1))
  hi : ∀ j, j < m → up (E j)
  lo : ∀ j, m ≤ j → j < n → up (neg (E j))

section
variable {E : Nat → Pt} {n m : Nat}

/-- directions in one half that turn left one by one turn left all together -/
theorem chain (up_ : Nat → Pt) (a b : Nat) (hu : ∀ j, a ≤ j → j < b → up (up_ j)) (hl : ∀ j, a ≤ j → j + 1 < b → 0 < det (up_ j) (up_ (j + 1))) : ∀ d i, a ≤ i → i + d + 1 < b → 0 < det (up_ i) (up_ (i + d + 1)) := by
  intro d
  induction d with
  | zero => intro i h1 h2; exact hl i h1 h2
  | succ d ih =>
    intro i h1 h2
    exact tr (hu i h1 (by omega)) (hu (i + d + 1) (by omega) (by omega)) (hu (i + (d + 1) + 1) (by omega) h2) (Int.le_of_lt (ih i h1 (by omega))) (hl (i + d + 1) (by omega) (by omega))

theorem Turns.up_lt (T : Turns E n m) {i j : Nat} (h : i < j) (hj : j < m) : 0 < det (E i) (E j) := by
  have := chain E 0 m (fun j _ h => T.hi j h) (fun j _ _ => T.left j) (j - i - 1) i (Nat.zero_le _) (by omega)
  rwa [show i + (j - i - 1) + 1 = j by omega] at this

theorem Turns.lo_lt (T : Turns E n m) {i j : Nat} (hi : m ≤ i) (h : i < j) (hj : j < n) : 0 < det (neg (E i)) (neg (E j)) := by
  have := chain (fun k => neg (E k)) m n (fun j h1 h2 => T.lo j h1 h2) (fun j _ _ => by simp only [det_neg, det_neg']; have := T.left j; omega) (j - i - 1) i hi (by omega)
  rwa [show i + (j - i - 1) + 1 = j by omega] at this

/-- once not to the left, to the right from there on -/
theorem Turns.fall (T : Turns E n m) {i j k : Nat} (hi : i < m) (h1 : i < j) (h2 : j < k) (h3 : k < i + n) (hd : det (E i) (E j) ≤ 0) : det (E i) (E k) < 0 := by
  rcases Nat.lt_or_ge j m with hj | hj
  · have := T.up_lt h1 hj; omega
  · rcases Nat.lt_or_ge k n with hk | hk
    · have a := T.lo_lt hj h2 hk
      have := tr (T.hi i hi) (T.lo j hj (by omega)) (T.lo k (by omega) hk) (by rw [det_neg]; omega) a
      rw [det_neg] at this; omega
    · obtain ⟨k', rfl⟩ : ∃ k', k = k' + n := ⟨k - n, by omega⟩
      rw [T.per k', det_swap]
      have := T.up_lt (show k' < i by omega) hi
      omega

end

/-- corners and their sides -/
theorem left_all (P : Nat → Pt) (n m : Nat) (hP : ∀ k, P (k + n) = P k) (T : Turns (fun j => sub (P (j + 1)) (P j)) n m) (i k : Nat) (hi : i < m) (h1 : i + 1 < k) (h2 : k < i + n) :
    0 < det (sub (P (i + 1)) (P i)) (sub (P k) (P (i + 1))) := by
  -- the sum of the turns up to k
  have step : ∀ k, det (sub (P (i + 1)) (P i)) (sub (P (k + 1)) (P (i + 1))) = det (sub (P (i + 1)) (P i)) (sub (P k) (P (i + 1))) + det (sub (P (i + 1)) (P i)) (sub (P (k + 1)) (P k)) := by
    intro k; simp only [det_sub]; omega
  have hend : det (sub (P (i + 1)) (P i)) (sub (P (i + n)) (P (i + 1))) = 0 := by
    rw [hP i]; unfold det sub; grind
  have hstart : det (sub (P (i + 1)) (P i)) (sub (P (i + 1)) (P (i + 1))) = 0 := by unfold det sub; grind
  by_cases hall : ∀ j, i < j → j < k → 0 < det (sub (P (i + 1)) (P i)) (sub (P (j + 1)) (P j))
  · -- grows up to k
    have : ∀ d, i + 1 + d + 1 ≤ k → 0 < det (sub (P (i + 1)) (P i)) (sub (P (i + 1 + d + 1)) (P (i + 1))) := by
      intro d
      induction d with
      | zero => intro hd; have := step (i + 1); have := hall (i + 1) (by omega) (by omega); simp only [Nat.add_zero]; omega
      | succ d ih => intro hd; have := step (i + 1 + d + 1); have := hall (i + 1 + d + 1) (by omega) (by omega); have := ih (by omega); rw [show i + 1 + (d + 1) + 1 = i + 1 + d + 1 + 1 by omega]; omega
    have := this (k - i - 2) (by omega)
    rwa [show i + 1 + (k - i - 2) + 1 = k by omega] at this
  · obtain ⟨j, hj⟩ := Classical.not_forall.1 hall
    have hj1 : i < j := Classical.byContradiction fun h => hj (fun h1 => absurd h1 h)
    have hj2 : j < k := Classical.byContradiction fun h => hj (fun _ h1 => absurd h1 h)
    have hj3 : det (sub (P (i + 1)) (P i)) (sub (P (j + 1)) (P j)) ≤ 0 := by
      rcases Int.lt_or_le 0 (det (sub (P (i + 1)) (P i)) (sub (P (j + 1)) (P j))) with h | h
      · exact absurd (fun _ _ => h) hj
      · exact h
    have hneg : ∀ t, k ≤ t → t < i + n → det (sub (P (i + 1)) (P i)) (sub (P (t + 1)) (P t)) < 0 := fun t h3 h4 => T.fall hi hj1 (by omega) h4 hj3
    have : ∀ d, k + d + 1 ≤ i + n → det (sub (P (i + 1)) (P i)) (sub (P (k + d + 1)) (P (i + 1))) < det (sub (P (i + 1)) (P i)) (sub (P k) (P (i + 1))) := by
      intro d
      induction d with
      | zero => intro hd; have := step k; have := hneg k (Nat.le_refl _) (by omega); simp only [Nat.add_zero]; omega
      | succ d ih => intro hd; have := step (k + d + 1); have := hneg (k + d + 1) (by omega) (by omega); have := ih (by omega); rw [show k + (d + 1) + 1 = k + d + 1 + 1 by omega]; omega
    have := this (i + n - k - 1) (by omega)
    rw [show k + (i + n - k - 1) + 1 = i + n by omega, hend] at this
    exact this


/-! ### convex, and turning around just once -/
def Convex (P : Nat → Pt) (n : Nat) : Prop := ∀ i k, i + 1 < k → k < i + n → 0 < det (sub (P (i + 1)) (P i)) (sub (P k) (P (i + 1)))
def side (P : Nat → Pt) (j : Nat) : Pt := sub (P (j + 1)) (P j)
def Local (P : Nat → Pt) : Prop := ∀ i, 0 < det (side P i) (side P (i + 1))
def crs (P : Nat → Pt) (i : Nat) : Prop := ¬ up (side P i) ∧ up (side P (i + 1))
instance (P : Nat → Pt) (i : Nat) : Decidable (crs P i) := by unfold crs; infer_instance
def Once (P : Nat → Pt) (n : Nat) : Prop := ∃ i, i < n ∧ crs P i ∧ ∀ j, j < n → crs P j → j = i

section
variable {P : Nat → Pt} {n : Nat}

theorem per_mul (hP : ∀ k, P (k + n) = P k) : ∀ t k, P (k + t * n) = P k
  | 0, k => by simp
  | t + 1, k => by rw [Nat.succ_mul, ← Nat.add_assoc, hP, per_mul hP t k]
theorem per_mod (hP : ∀ k, P (k + n) = P k) (k : Nat) : P k = P (k % n) := by
  have h := per_mul hP (k / n) (k % n)
  rw [Nat.mul_comm, Nat.mod_add_div] at h
  exact h
theorem per_eq (hP : ∀ k, P (k + n) = P k) {a b : Nat} (h : a % n = b % n) : P a = P b := by
  rw [per_mod hP a, per_mod hP b, h]
theorem side_per (hP : ∀ k, P (k + n) = P k) (j : Nat) : side P (j + n) = side P j := by
  unfold side; rw [show j + n + 1 = j + 1 + n by omega, hP, hP]

theorem least (p : Nat → Prop) (k : Nat) (h : p k) : ∃ m, m ≤ k ∧ p m ∧ ∀ j, j < m → ¬ p j := by
  induction k using Nat.strongRecOn with
  | ind k ih =>
    by_cases h2 : ∃ j, j < k ∧ p j
    · obtain ⟨j, hj, hp⟩ := h2
      obtain ⟨m, h3, h4, h5⟩ := ih j hj hp
      exact ⟨m, by omega, h4, h5⟩
    · exact ⟨k, Nat.le_refl _, h, fun j hj hp => h2 ⟨j, hj, hp⟩⟩

theorem ne_zero_left {u v : Pt} (h : 0 < det u v) : u ≠ ⟨0, 0⟩ := by
  rintro rfl; unfold det at h; simp at h

theorem neg_neg' (v : Pt) : neg (neg v) = v := by unfold neg; simp
theorem neg_sub (a b : Pt) : neg (sub a b) = sub b a := by unfold neg sub; simp; omega
theorem sub_neg (a b : Pt) : sub (neg a) (neg b) = neg (sub a b) := by unfold neg sub; simp; omega

theorem turns_neg {E : Nat → Pt} {m : Nat} (T : Turns E n m) : Turns (fun j => neg (E (j + m))) n (n - m) where
  per j := by rw [show j + n + m = j + m + n by omega, T.per]
  m0 := by have := T.mn; omega
  mn := by have := T.m0; have := T.mn; omega
  left j := by simp only [det_neg, det_neg']; have := T.left (j + m); rw [show j + m + 1 = j + 1 + m by omega] at this; omega
  hi j hj := T.lo (j + m) (by omega) (by omega)
  lo j h1 h2 := by
    rw [neg_neg']
    have := T.hi (j + m - n) (by have := T.mn; omega)
    rw [← T.per, show j + m - n + n = j + m by omega] at this
    exact this

theorem convex_of_once (hn : 3 ≤ n) (hP : ∀ k, P (k + n) = P k) (hl : Local P) (ho : Once P n) : Convex P n := by
  obtain ⟨i0, hi0, ⟨hc1, hc2⟩, huniq⟩ := ho
  have hnz : ∀ j, side P j ≠ ⟨0, 0⟩ := fun j => ne_zero_left (hl j)
  -- the corners from the least one on
  obtain ⟨m, hmn, hm, hmin⟩ := least (fun j => ¬ up (side P (j + (i0 + 1)))) (n - 1) (by
    show ¬ up (side P (n - 1 + (i0 + 1)))
    rw [show n - 1 + (i0 + 1) = i0 + n by omega, side_per hP]; exact hc1)
  have hm0 : 0 < m := by
    rcases Nat.eq_zero_or_pos m with h | h
    · subst h; simp only [Nat.zero_add] at hm; exact absurd hc2 hm
    · exact h
  have hlo : ∀ d, m + d < n → ¬ up (side P (m + d + (i0 + 1))) := by
    intro d
    induction d with
    | zero => intro _; exact hm
    | succ d ih =>
      intro hd hu
      have h1 := ih (by omega)
      have hcr : crs P (m + d + (i0 + 1)) := ⟨h1, by rw [show m + d + (i0 + 1) + 1 = m + (d + 1) + (i0 + 1) by omega]; exact hu⟩
      have hcr2 : crs P ((m + d + (i0 + 1)) % n) := by
        unfold crs at hcr ⊢
        have e1 : side P ((m + d + (i0 + 1)) % n) = side P (m + d + (i0 + 1)) := (per_mod (P := side P) (side_per hP) _).symm
        have e2 : side P ((m + d + (i0 + 1)) % n + 1) = side P (m + d + (i0 + 1) + 1) := per_eq (P := side P) (side_per hP) (by rw [Nat.add_mod, Nat.mod_mod, ← Nat.add_mod])
        rw [e1, e2]; exact hcr
      have := huniq _ (Nat.mod_lt _ (by omega)) hcr2
      rcases Nat.lt_or_ge (m + d + (i0 + 1)) n with h | h
      · rw [Nat.mod_eq_of_lt h] at this; omega
      · rw [Nat.mod_eq_sub_mod h, Nat.mod_eq_of_lt (by omega)] at this; omega
  have T : Turns (fun j => sub (P (j + (i0 + 1) + 1)) (P (j + (i0 + 1)))) n m := {
    per := fun j => by
      have := side_per hP (j + (i0 + 1))
      unfold side at this
      rw [show j + n + (i0 + 1) + 1 = j + (i0 + 1) + n + 1 by omega, show j + n + (i0 + 1) = j + (i0 + 1) + n by omega]; exact this
    m0 := hm0
    mn := by omega
    left := fun j => by
      show 0 < det (side P (j + (i0 + 1))) (side P (j + 1 + (i0 + 1)))
      have h := hl (j + (i0 + 1))
      rwa [show j + (i0 + 1) + 1 = j + 1 + (i0 + 1) by omega] at h
    hi := fun j hj => Classical.byContradiction fun h => hmin j hj h
    lo := fun j h1 h2 => by
      have := hlo (j - m) (by omega)
      rw [show m + (j - m) = j by omega] at this
      exact up_neg this (hnz _) }
  have main : ∀ i k, i < n → i + 1 < k → k < i + n → 0 < det (sub (P (i + 1 + (i0 + 1))) (P (i + (i0 + 1)))) (sub (P (k + (i0 + 1))) (P (i + 1 + (i0 + 1)))) := by
    intro i k hi h1 h2
    rcases Nat.lt_or_ge i m with hlt | hge
    · exact left_all (fun j => P (j + (i0 + 1))) n m (fun k => by show P (k + n + (i0 + 1)) = P (k + (i0 + 1)); rw [show k + n + (i0 + 1) = k + (i0 + 1) + n by omega, hP]) (by
        have := T
        simp only [show ∀ j, j + (i0 + 1) + 1 = j + 1 + (i0 + 1) from fun j => by omega] at this
        exact this) i k hlt h1 h2
    · have T2 := turns_neg T
      have := left_all (fun j => neg (P (j + m + (i0 + 1)))) n (n - m) (fun k => by show neg (P (k + n + m + (i0 + 1))) = neg (P (k + m + (i0 + 1))); rw [show k + n + m + (i0 + 1) = k + m + (i0 + 1) + n by omega, hP]) (by
        simp only [sub_neg]
        have := T2
        simp only [show ∀ j, j + m + (i0 + 1) + 1 = j + 1 + m + (i0 + 1) from fun j => by omega] at this
        exact this) (i - m) (k - m) (by omega) (by omega) (by omega)
      simp only [sub_neg, det_neg, det_neg'] at this
      rw [show i - m + 1 + m + (i0 + 1) = i + 1 + (i0 + 1) by omega, show i - m + m + (i0 + 1) = i + (i0 + 1) by omega, show k - m + m + (i0 + 1) = k + (i0 + 1) by omega] at this
      omega
  intro i k h1 h2
  -- i in the new count
  have hpos : 0 < n := by omega
  have key : ∀ t, P (i + t) = P ((i + n * (i0 + 1) - (i0 + 1)) % n + t + (i0 + 1)) := by
    intro t
    refine per_eq hP ?_
    have hge : i0 + 1 ≤ n * (i0 + 1) := Nat.le_mul_of_pos_left _ hpos
    have e : (i + n * (i0 + 1) - (i0 + 1)) % n + t + (i0 + 1) = (i + n * (i0 + 1) - (i0 + 1)) % n + (t + (i0 + 1)) := by omega
    rw [e, Nat.add_mod ((i + n * (i0 + 1) - (i0 + 1)) % n), Nat.mod_mod, ← Nat.add_mod, show i + n * (i0 + 1) - (i0 + 1) + (t + (i0 + 1)) = i + t + n * (i0 + 1) by omega, Nat.add_mul_mod_self_left]
  have hm := main ((i + n * (i0 + 1) - (i0 + 1)) % n) ((i + n * (i0 + 1) - (i0 + 1)) % n + (k - i)) (Nat.mod_lt _ hpos) (by omega) (by omega)
  have k0 := key 0
  have k1 := key 1
  have k2 := key (k - i)
  rw [show i + (k - i) = k by omega] at k2
  simp only [Nat.add_zero] at k0
  rw [k0, k1, k2]
  exact hm

/-! ### the other way -/
theorem up_add {u v : Pt} (hu : up u) (hv : up v) : up ⟨u.x + v.x, u.y + v.y⟩ := by unfold up at *; simp only; omega
theorem up_scale {a : Int} {u : Pt} (ha : 0 < a) (hu : up u) : up ⟨a * u.x, a * u.y⟩ := by
  unfold up at *; simp only
  rcases hu with h | ⟨h1, h2⟩
  · exact .inl (Int.mul_pos ha h)
  · exact .inr ⟨by rw [h1, Int.mul_zero], Int.mul_pos ha h2⟩
theorem up_unscale {a : Int} {u : Pt} (ha : 0 < a) (hu : up ⟨a * u.x, a * u.y⟩) : up u := by
  unfold up at *; simp only at hu
  rcases hu with h | ⟨h1, h2⟩
  · exact .inl (pos_of_mul ha h)
  · have h3 := pos_of_mul ha h2
    rcases Int.mul_eq_zero.1 h1 with h | h
    · omega
    · exact .inr ⟨h, h3⟩
theorem up_asym {u : Pt} (h : up u) (k : up (neg u)) : False := by unfold up neg at *; simp only at k; omega

/-- where the way turns up, all other corners are above -/
theorem above (hn : 3 ≤ n) (hP : ∀ k, P (k + n) = P k) (hc : Convex P n) {i : Nat} (hi : crs P i) (k : Nat) (h1 : i + 1 < k) (h2 : k < i + 1 + n) : up (sub (P k) (P (i + 1))) := by
  have hnz : side P i ≠ ⟨0, 0⟩ := ne_zero_left (show 0 < det (side P i) (sub (P (i + 2)) (P (i + 1))) from hc i (i + 2) (by omega) (by omega))
  have hdown : up (neg (side P i)) := up_neg hi.1 hnz
  rcases Nat.lt_or_ge k (i + n) with hk | hk
  · rcases Nat.lt_or_ge (i + 2) k with hk2 | hk2
    · have a := hc i k (by omega) hk
      have b := hc (i + 1) k (by omega) (by omega)
      have D := hc i (i + 2) (by omega) (by omega)
      have e1 : det (sub (P (i + 1 + 1)) (P (i + 1))) (sub (P k) (P (i + 1 + 1))) = det (sub (P (i + 1 + 1)) (P (i + 1))) (sub (P k) (P (i + 1))) := by unfold det sub; grind
      rw [e1] at b
      refine up_unscale D ?_
      have hu := up_add (up_scale a hi.2) (up_scale b hdown)
      have e : (⟨(det (sub (P (i + 1)) (P i)) (sub (P k) (P (i + 1)))) * (side P (i + 1)).x + (det (sub (P (i + 1 + 1)) (P (i + 1))) (sub (P k) (P (i + 1)))) * (neg (side P i)).x,
          (det (sub (P (i + 1)) (P i)) (sub (P k) (P (i + 1)))) * (side P (i + 1)).y + (det (sub (P (i + 1 + 1)) (P (i + 1))) (sub (P k) (P (i + 1)))) * (neg (side P i)).y⟩ : Pt) =
          ⟨det (sub (P (i + 1)) (P i)) (sub (P (i + 2)) (P (i + 1))) * (sub (P k) (P (i + 1))).x, det (sub (P (i + 1)) (P i)) (sub (P (i + 2)) (P (i + 1))) * (sub (P k) (P (i + 1))).y⟩ := by
        unfold det sub side neg sub
        simp only [Pt.mk.injEq]
        constructor <;> grind
      rw [← e]; exact hu
    · have : k = i + 2 := by omega
      subst this; exact hi.2
  · have : k = i + n := by omega
    subst this
    rw [hP]
    have := hdown
    unfold side at this
    rw [neg_sub] at this
    exact this

theorem lowest (P : Nat → Pt) : ∀ n, 0 < n → ∃ j, j < n ∧ ∀ k, k < n → ¬ up (sub (P j) (P k))
  | 0, h => by omega
  | 1, _ => ⟨0, by omega, fun k hk h => by
      have : k = 0 := by omega
      subst this; unfold up sub at h; simp at h⟩
  | n + 2, _ => by
    obtain ⟨j, hj, h⟩ := lowest P (n + 1) (by omega)
    by_cases hu : up (sub (P j) (P (n + 1)))
    · refine ⟨n + 1, by omega, fun k hk hk2 => ?_⟩
      by_cases e : k = n + 1
      · subst e; unfold up sub at hk2; simp at hk2
      · have := up_add hu hk2
        refine h k (by omega) ?_
        unfold sub at this ⊢
        simp only at this
        rw [show (P j).x - (P (n + 1)).x + ((P (n + 1)).x - (P k).x) = (P j).x - (P k).x by omega, show (P j).y - (P (n + 1)).y + ((P (n + 1)).y - (P k).y) = (P j).y - (P k).y by omega] at this
        exact this
    · refine ⟨j, by omega, fun k hk => ?_⟩
      by_cases e : k = n + 1
      · subst e; exact hu
      · exact h k (by omega)

theorem once_of_convex (hn : 3 ≤ n) (hP : ∀ k, P (k + n) = P k) (hc : Convex P n) : Local P ∧ Once P n := by
  have hl : Local P := fun i => hc i (i + 2) (by omega) (by omega)
  refine ⟨hl, ?_⟩
  have hnz : ∀ j, side P j ≠ ⟨0, 0⟩ := fun j => ne_zero_left (hl j)
  obtain ⟨j, hj, hmin⟩ := lowest P n (by omega)
  have hmin' : ∀ k, ¬ up (sub (P j) (P k)) := fun k => by rw [per_mod hP k]; exact hmin _ (Nat.mod_lt _ (by omega))
  have hex : ∃ i, i < n ∧ crs P i := by
    refine ⟨(j + n - 1) % n, Nat.mod_lt _ (by omega), ?_⟩
    have e1 : side P ((j + n - 1) % n) = side P (j + n - 1) := (per_mod (P := side P) (side_per hP) _).symm
    have e2 : side P ((j + n - 1) % n + 1) = side P j := per_eq (P := side P) (side_per hP) (by rw [Nat.add_mod, Nat.mod_mod, ← Nat.add_mod, show j + n - 1 + 1 = j + n by omega, Nat.add_mod_right])
    unfold crs
    rw [e1, e2]
    constructor
    · unfold side
      rw [show j + n - 1 + 1 = j + n by omega, hP]
      exact hmin' _
    · apply Decidable.byContradiction
      intro h
      have := up_neg h (hnz j)
      unfold side at this
      rw [neg_sub] at this
      exact hmin' _ this
  obtain ⟨i, hi, hci⟩ := hex
  refine ⟨i, hi, hci, fun i' hi' hci' => ?_⟩
  have no : ∀ a b, a < b → b < n → crs P a → crs P b → False := by
    intro a b hab hb ha hb2
    have h1 := above hn hP hc ha (b + 1) (by omega) (by omega)
    have h2 := above hn hP hc hb2 (a + 1 + n) (by omega) (by omega)
    rw [hP] at h2
    rw [← neg_sub] at h2
    exact up_asym h1 h2
  rcases Nat.lt_trichotomy i i' with h | h | h
  · exact (no i i' h hi' hci hci').elim
  · exact h.symm
  · exact (no i' i h hi hci' hci).elim

theorem convex_iff (hn : 3 ≤ n) (hP : ∀ k, P (k + n) = P k) : Convex P n ↔ Local P ∧ Once P n :=
  ⟨once_of_convex hn hP, fun h => convex_of_once hn hP h.1 h.2⟩

/-- how often the way turns up -/
def ups (P : Nat → Pt) : Nat → Nat
  | 0 => 0
  | i + 1 => ups P i + if crs P i then 1 else 0
theorem ups_zero : ∀ n, (∀ j, j < n → ¬ crs P j) → ups P n = 0
  | 0, _ => rfl
  | n + 1, h => by simp only [ups]; rw [ups_zero n (fun j hj => h j (by omega)), if_neg (h n (by omega))]
theorem ups_pos : ∀ n, 0 < ups P n → ∃ j, j < n ∧ crs P j
  | 0, h => by simp [ups] at h
  | n + 1, h => by
    by_cases hc : crs P n
    · exact ⟨n, by omega, hc⟩
    · simp only [ups, if_neg hc] at h
      obtain ⟨j, hj, h2⟩ := ups_pos n h
      exact ⟨j, by omega, h2⟩
theorem ups_le : ∀ n, ups P n ≤ n
  | 0 => Nat.le_refl _
  | n + 1 => by have := ups_le n; simp only [ups]; split <;> omega
theorem ups_once : ∀ n, ups P n = 1 ↔ Once P n
  | 0 => by simp [ups, Once]
  | n + 1 => by
    simp only [ups]
    by_cases hc : crs P n
    · rw [if_pos hc]
      constructor
      · intro h
        have h0 : ups P n = 0 := by omega
        refine ⟨n, by omega, hc, fun j hj hcj => ?_⟩
        apply Decidable.byContradiction
        intro hne
        have hcon : ∀ n j, j < n → crs P j → 0 < ups P n := by
          intro n
          induction n with
          | zero => intro j hj; omega
          | succ n ih =>
            intro j hj hcj
            simp only [ups]
            by_cases e : j = n
            · subst e; rw [if_pos hcj]; omega
            · have := ih j (by omega) hcj; omega
        have := hcon n j (by omega) hcj
        omega
      · rintro ⟨i, hi, hci, hu⟩
        have hin := hu n (by omega) hc
        subst hin
        have : ups P n = 0 := ups_zero n (fun j hj hcj => by have := hu j (by omega) hcj; omega)
        omega
    · rw [if_neg hc, Nat.add_zero, ups_once n]
      constructor
      · rintro ⟨i, hi, hci, hu⟩
        refine ⟨i, by omega, hci, fun j hj hcj => ?_⟩
        by_cases e : j = n
        · subst e; exact absurd hcj hc
        · exact hu j (by omega) hcj
      · rintro ⟨i, hi, hci, hu⟩
        have : i ≠ n := by rintro rfl; exact hc hci
        exact ⟨i, by omega, hci, fun j hj hcj => hu j (by omega) hcj⟩

end
end Go.Proofs.Ytpplohjbifieiaa.Poly

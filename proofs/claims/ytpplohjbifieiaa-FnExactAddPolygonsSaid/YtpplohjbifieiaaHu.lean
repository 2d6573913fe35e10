/- Hulls: the chain of one side, and the way around, without any program. -/
import Derived.Test.YtpplohjbifieiaaPq
namespace Go.Proofs.Ytpplohjbifieiaa.Hull
open Poly (Pt det sub)

/-- which of two points comes first -/
def lt (p q : Pt) : Prop := p.x < q.x ∨ p.x = q.x ∧ p.y < q.y
theorem lt_irr (p : Pt) : ¬ lt p p := by unfold lt; omega
theorem lt_trans {p q r : Pt} (h : lt p q) (k : lt q r) : lt p r := by unfold lt at *; omega
theorem lt_asym {p q : Pt} (h : lt p q) (k : lt q p) : False := by unfold lt at *; omega
theorem lt_tri (p q : Pt) : lt p q ∨ p = q ∨ lt q p := by
  obtain ⟨a, b⟩ := p
  obtain ⟨c, d⟩ := q
  unfold lt
  simp only [Pt.mk.injEq]
  omega
/-- a direction to what comes later -/
def lp (d : Pt) : Prop := 0 < d.x ∨ d.x = 0 ∧ 0 < d.y
theorem lp_sub {p q : Pt} (h : lt p q) : lp (sub q p) := by unfold lp sub lt at *; simp only; omega
theorem lp_x {d : Pt} (h : lp d) : 0 ≤ d.x := by unfold lp at h; omega
theorem pl (u v w : Pt) : v.x * det u w = u.x * det v w + w.x * det u v := by unfold det; grind
theorem pos_of {a b : Int} (ha : 0 < a) (h : 0 < a * b) : 0 < b := Poly.pos_of_mul ha h
theorem nn_of {a b : Int} (ha : 0 < a) (h : 0 ≤ a * b) : 0 ≤ b := by
  rcases Int.lt_or_le b 0 with hb | hb
  · have := Int.mul_neg_of_pos_of_neg ha hb
    omega
  · exact hb
theorem tr1 {u v w : Pt} (hu : lp u) (hv : lp v) (hw : lp w) (h1 : 0 ≤ det u v) (h2 : 0 < det v w) : 0 < det u w := by
  have e := pl u v w
  rcases hv with hv | ⟨hv, hv'⟩
  · rcases hu with hu | ⟨hu, hu'⟩
    · refine pos_of hv ?_
      have := Int.mul_pos hu h2
      have := Int.mul_nonneg (lp_x hw) h1
      omega
    · exfalso
      have h3 : det u v = -(u.y * v.x) := by unfold det; rw [hu]; grind
      have := Int.mul_pos hu' hv
      omega
  · exfalso
    have h3 : det v w = -(v.y * w.x) := by unfold det; rw [hv]; grind
    have := Int.mul_nonneg (Int.le_of_lt hv') (lp_x hw)
    omega
theorem tr2 {u v w : Pt} (hu : lp u) (hv : lp v) (hw : lp w) (h1 : 0 < det u v) (h2 : 0 ≤ det v w) : 0 < det u w := by
  have e := pl u v w
  rcases hv with hv | ⟨hv, hv'⟩
  · have hux : 0 < u.x := by
      rcases hu with hu | ⟨hu, hu'⟩
      · exact hu
      · exfalso
        have h3 : det u v = -(u.y * v.x) := by unfold det; rw [hu]; grind
        have := Int.mul_pos hu' hv
        omega
    refine pos_of hv ?_
    rcases hw with hw | ⟨hw, hw'⟩
    · have := Int.mul_pos hw h1
      have := Int.mul_nonneg (Int.le_of_lt hux) h2
      omega
    · have h3 : det v w = v.x * w.y := by unfold det; rw [hw]; grind
      have h4 := Int.mul_pos hux (show 0 < det v w by rw [h3]; exact Int.mul_pos hv hw')
      have := Int.mul_nonneg (show 0 ≤ w.x by omega) (Int.le_of_lt h1)
      omega
  · have h3 : det u v = u.x * v.y := by unfold det; rw [hv]; grind
    have h4 : det v w = -(v.y * w.x) := by unfold det; rw [hv]; grind
    have hux : 0 < u.x := by
      rw [h3, Int.mul_comm] at h1
      exact pos_of hv' h1
    rcases hw with hw | ⟨hw, hw'⟩
    · have := Int.mul_pos hv' hw
      omega
    · have h5 : det u w = u.x * w.y := by unfold det; rw [hw]; grind
      rw [h5]
      exact Int.mul_pos hux hw'
theorem tr3 {u v w : Pt} (hu : lp u) (hv : lp v) (hw : lp w) (h1 : 0 ≤ det u v) (h2 : 0 ≤ det v w) : 0 ≤ det u w := by
  rcases Int.lt_or_eq_of_le h1 with h | h
  · exact Int.le_of_lt (tr2 hu hv hw h h2)
  · rcases Int.lt_or_eq_of_le h2 with k | k
    · exact Int.le_of_lt (tr1 hu hv hw h1 k)
    · have e := pl u v w
      rcases hv with hv | ⟨hv, hv'⟩
      · refine nn_of hv ?_
        rw [e, ← h, ← k]; simp
      · have h4 : det v w = -(v.y * w.x) := by unfold det; rw [hv]; grind
        have hw0 : w.x = 0 := by
          rcases hw with hw | hw
          · have := Int.mul_pos hv' hw; omega
          · exact hw.1
        have h5 : det u w = u.x * w.y := by unfold det; rw [hw0]; grind
        rw [h5]
        refine Int.mul_nonneg (lp_x hu) ?_
        rcases hw with hw | hw <;> omega

/-- all points lie to the left of the way from a to b, or between them -/
def Edge (Q : Pt → Prop) (a b : Pt) : Prop := ∀ q, Q q → q ≠ a → q ≠ b → 0 < det (sub b a) (sub q a) ∨ det (sub b a) (sub q a) = 0 ∧ lt a q ∧ lt q b
theorem edge_nn {Q : Pt → Prop} {a b q : Pt} (h : Edge Q a b) (hq : Q q) : 0 ≤ det (sub b a) (sub q a) := by
  by_cases h1 : q = a
  · subst h1; unfold det sub; simp
  · by_cases h2 : q = b
    · subst h2; rw [Poly.det_self]; exact Int.le_refl _
    · rcases h q hq h1 h2 with k | k <;> omega

/-- a stack, the last one first -/
def Ok (Q : Pt → Prop) : List Pt → Prop
  | [] => True
  | [a] => ∀ q, Q q → ¬ lt q a
  | b :: a :: r => lt a b ∧ Edge Q a b ∧ (∀ z, r.head? = some z → 0 < turnD z a b) ∧ Ok Q (a :: r)
theorem Ok.pop {Q : Pt → Prop} {b : Pt} {r : List Pt} (h : Ok Q (b :: r)) : Ok Q r := by
  cases r with
  | nil => trivial
  | cons a r => exact h.2.2.2
theorem turn_eq (a b c : Pt) : turnD a b c = det (sub b a) (sub c a) := by unfold turnD det sub; grind
theorem det_back (a b c : Pt) : det (sub c b) (sub a b) = turnD a b c := by unfold turnD det sub; grind

/-- what lies to the left of the last side lies to the left of all -/
theorem left_down {Q : Pt → Prop} (c : Pt) : ∀ (r : List Pt) (a b : Pt), Ok Q (b :: a :: r) → lt b c → 0 < det (sub b a) (sub c a) → ∀ y, r.head? = some y → 0 < det (sub a y) (sub c y) ∧ lt a c := by
  intro r a b h hc h1 y hy
  obtain ⟨hab, _, ht, hr⟩ := h
  cases r with
  | nil => simp at hy
  | cons y' r =>
    simp at hy
    subst hy
    have hya := hr.1
    have t1 := ht y' rfl
    have hac := lt_trans hab hc
    refine ⟨?_, hac⟩
    rw [turn_eq] at t1
    have e1 : det (sub a y') (sub b y') = det (sub a y') (sub b a) := by unfold det sub; grind
    have e2 : det (sub a y') (sub c y') = det (sub a y') (sub c a) := by unfold det sub; grind
    rw [e1] at t1
    rw [e2]
    exact tr1 (lp_sub hya) (lp_sub hab) (lp_sub hac) (Int.le_of_lt t1) h1
theorem Ok.more {Q Q' : Pt → Prop} {c : Pt} (hQ : ∀ q, Q' q → Q q ∨ q = c) : ∀ (r : List Pt), Ok Q r → (∀ s, r.head? = some s → lt s c) → (∀ s z t, r = s :: z :: t → 0 < det (sub s z) (sub c z)) → Ok Q' r
  | [], _, _, _ => trivial
  | [a], h, hc, _ => fun q hq => by
    rcases hQ q hq with k | k
    · exact h q k
    · subst k
      exact fun hh => lt_asym hh (hc a rfl)
  | b :: a :: r, h, hc, ht => by
    have hbc := hc b rfl
    have h1 := ht b a r rfl
    refine ⟨h.1, fun q hq n1 n2 => ?_, h.2.2.1, Ok.more hQ (a :: r) h.2.2.2 (fun s hs => ?_) (fun s z t e => ?_)⟩
    · rcases hQ q hq with k | k
      · exact h.2.1 q k n1 n2
      · subst k; exact .inl h1
    · simp at hs; subst hs; exact lt_trans h.1 hbc
    · injection e with e1 e2
      subst e1 e2
      exact (left_down c _ _ _ h hbc h1 z rfl).1
/-- a point behind all others is put on the stack -/
theorem Ok.push {Q Q' : Pt → Prop} {c s : Pt} {r : List Pt} (hQ : ∀ q, Q' q → Q q ∨ q = c) (h : Ok Q (s :: r)) (hc : ∀ q, Q q → lt q c) (hs : Q s) (ht : ∀ z, r.head? = some z → 0 < turnD z s c)
    (hl : ∀ q, Q q → lt s q → 0 ≤ det (sub c s) (sub q s)) : Ok Q' (c :: s :: r) := by
  have hsc := hc s hs
  refine ⟨hsc, fun q hq n1 n2 => ?_, ht, Ok.more hQ _ h (fun t e => by simp at e; subst e; exact hsc) (fun s' z t e => ?_)⟩
  · rcases hQ q hq with k | k
    · rcases lt_tri q s with h1 | h1 | h1
      · left
        cases r with
        | nil => exact absurd h1 (h q k)
        | cons z r =>
          have t1 := ht z rfl
          by_cases e : q = z
          · subst e; rw [det_back]; exact t1
          · have h2 := edge_nn h.2.1 k
            have e1 : det (sub c s) (sub q s) = det (sub s q) (sub c s) := by unfold det sub; grind
            have e2 : det (sub s z) (sub q z) = det (sub s q) (sub s z) := by unfold det sub; grind
            rw [e1]
            rw [e2] at h2
            exact tr1 (lp_sub h1) (lp_sub h.1) (lp_sub hsc) h2 t1
      · exact absurd h1 n1
      · have h2 := hl q k h1
        rcases Int.lt_or_eq_of_le h2 with h3 | h3
        · exact .inl h3
        · exact .inr ⟨h3.symm, h1, hc q k⟩
    · exact absurd k n2
  · injection e with e1 e2
    subst e1
    rw [← turn_eq]
    exact ht z (by rw [e2]; rfl)
/-- behind a pop: what is asked of the points behind the new last one -/
theorem popped {Q : Pt → Prop} {c s s' : Pt} {r : List Pt} (h : Ok Q (s' :: s :: r)) (hs : lt s c) (hp : turnD s s' c ≤ 0) : ∀ q, Q q → lt s q → 0 ≤ det (sub c s) (sub q s) := by
  intro q hq hlt
  have h1 := edge_nn h.2.1 hq
  rw [turn_eq] at hp
  have e : det (sub c s) (sub s' s) = -det (sub s' s) (sub c s) := Poly.det_swap _ _
  exact tr3 (lp_sub hs) (lp_sub h.1) (lp_sub hlt) (by rw [e]; omega) h1
theorem Ok.edges {Q : Pt → Prop} : ∀ (r : List Pt), Ok Q r → ∀ i a b, r[i]? = some b → r[i + 1]? = some a → Edge Q a b ∧ lt a b
  | [], _, i, a, b, h, _ => by simp at h
  | [c], _, i, a, b, _, h => by simp at h
  | b' :: a' :: r, h, 0, a, b, h1, h2 => by
    simp at h1 h2
    subst h1 h2
    exact ⟨h.2.1, h.1⟩
  | b' :: a' :: r, h, i + 1, a, b, h1, h2 => Ok.edges (a' :: r) h.2.2.2 i a b (by simpa using h1) (by simpa using h2)

/-- the sum of the absolute differences -/
def far (a b : Pt) : Int := max (b.x - a.x) (-(b.x - a.x)) + max (b.y - a.y) (-(b.y - a.y))
/-- b is the next corner behind a -/
structure Succ (Q : Pt → Prop) (a b : Pt) : Prop where
  mem : Q b
  ne : b ≠ a
  best : ∀ q, Q q → q ≠ a → q ≠ b → 0 < det (sub b a) (sub q a) ∨ det (sub b a) (sub q a) = 0 ∧ far a q < far a b
theorem Succ.uniq {Q : Pt → Prop} {a b c : Pt} (h : Succ Q a b) (k : Succ Q a c) : b = c := by
  by_cases e : c = b
  · exact e.symm
  · have h1 := h.best c k.mem k.ne e
    have h2 := k.best b h.mem h.ne (fun x => e x.symm)
    have h3 := Poly.det_swap (sub b a) (sub c a)
    omega
theorem pos_of' {a b : Int} (hb : 0 < b) (h : 0 < a * b) : 0 < a := pos_of hb (by rw [Int.mul_comm]; exact h)
/-- on one line, and between -/
theorem far_lt {a q b : Pt} (h0 : det (sub b a) (sub q a) = 0) (h1 : lt a q) (h2 : lt q b) : far a q < far a b := by
  obtain ⟨ax, ay⟩ := a
  obtain ⟨qx, qy⟩ := q
  obtain ⟨bx, by_⟩ := b
  unfold det sub at h0
  unfold lt at h1 h2
  simp only at h0 h1 h2
  unfold far
  simp only
  obtain ⟨u, hu⟩ : ∃ u, u = bx - ax := ⟨_, rfl⟩
  obtain ⟨v, hv⟩ : ∃ v, v = by_ - ay := ⟨_, rfl⟩
  obtain ⟨s, hs⟩ : ∃ s, s = qx - ax := ⟨_, rfl⟩
  obtain ⟨t, ht⟩ : ∃ t, t = qy - ay := ⟨_, rfl⟩
  rw [← hu, ← hv, ← hs, ← ht] at h0 ⊢
  have k1 : 0 < s ∨ s = 0 ∧ 0 < t := by omega
  have k2 : s < u ∨ s = u ∧ t < v := by omega
  clear h1 h2 hu hv hs ht
  have h0' : u * t = v * s := by omega
  rcases k1 with k1 | ⟨k1, k1'⟩
  · rcases k2 with k2 | ⟨k2, k2'⟩
    · -- 0 < s < u
      have up : 0 < u := by omega
      -- |t| ≤ |v|
      have ht : max t (-t) ≤ max v (-v) := by
        rcases Int.lt_or_le v 0 with hv | hv
        · have : t ≤ 0 := by
            rcases Int.lt_or_le 0 t with h | h
            · have a1 := Int.mul_pos up h
              have a2 := Int.mul_neg_of_neg_of_pos hv k1
              omega
            · exact h
          have : v ≤ t := by
            rcases Int.lt_or_le t v with h | h
            · exfalso
              have a1 : u * t < u * v := Int.mul_lt_mul_of_pos_left h up
              have a2 : u * v ≤ s * v := Int.mul_le_mul_of_nonpos_right (by omega) (by omega)
              rw [Int.mul_comm s v] at a2
              omega
            · exact h
          omega
        · have : 0 ≤ t := by
            rcases Int.lt_or_le t 0 with h | h
            · exfalso
              have a1 := Int.mul_neg_of_pos_of_neg up h
              have a2 := Int.mul_nonneg hv (Int.le_of_lt k1)
              omega
            · exact h
          have : t ≤ v := by
            rcases Int.lt_or_le v t with h | h
            · exfalso
              have a1 : u * v < u * t := Int.mul_lt_mul_of_pos_left h up
              have a2 : s * v ≤ u * v := Int.mul_le_mul_of_nonneg_right (by omega) hv
              rw [Int.mul_comm s v] at a2
              omega
            · exact h
          omega
      omega
    · exfalso
      subst k2
      have a1 : s * t < s * v := Int.mul_lt_mul_of_pos_left k2' k1
      rw [Int.mul_comm v s] at h0'
      omega
  · subst k1
    have hu : u = 0 := by
      rw [Int.mul_zero] at h0'
      rcases Int.mul_eq_zero.1 h0' with h | h
      · exact h
      · omega
    subst hu
    omega
theorem Edge.succ {Q : Pt → Prop} {a b : Pt} (h : Edge Q a b) (hb : Q b) (hl : lt a b) : Succ Q a b :=
  ⟨hb, fun e => by subst e; exact lt_irr _ hl, fun q hq n1 n2 => by
    rcases h q hq n1 n2 with k | ⟨k0, k1, k2⟩
    · exact .inl k
    · exact .inr ⟨k0, far_lt k0 k1 k2⟩⟩

/-- the same, seen from the other side -/
def ng (p : Pt) : Pt := ⟨-p.x, -p.y⟩
theorem ng_ng (p : Pt) : ng (ng p) = p := by unfold ng; simp
theorem lt_ng {p q : Pt} : lt (ng p) (ng q) ↔ lt q p := by unfold lt ng; simp only; omega
theorem sub_ng (p q : Pt) : sub (ng p) (ng q) = sub q p := by unfold sub ng; simp only [Pt.mk.injEq]; omega
theorem det_ng2 (a b c : Pt) : det (sub (ng b) (ng a)) (sub (ng c) (ng a)) = det (sub b a) (sub c a) := by unfold det sub ng; grind
theorem far_ng (a b : Pt) : far (ng a) (ng b) = far a b := by unfold far ng; simp only; omega
theorem turn_ng (a b c : Pt) : turnD (ng a) (ng b) (ng c) = turnD a b c := by unfold turnD det sub ng; grind
theorem Succ.ng {Q : Pt → Prop} {a b : Pt} (h : Succ (fun p => Q (ng p)) (ng a) (ng b)) : Succ Q a b :=
  ⟨by have := h.mem; rwa [ng_ng] at this, fun e => h.ne (by rw [e]), fun q hq n1 n2 => by
    have := h.best (Hull.ng q) (by rw [ng_ng]; exact hq) (fun e => n1 (by rw [← ng_ng q, e, ng_ng])) (fun e => n2 (by rw [← ng_ng q, e, ng_ng]))
    rwa [det_ng2, far_ng, far_ng] at this⟩
end Go.Proofs.Ytpplohjbifieiaa.Hull

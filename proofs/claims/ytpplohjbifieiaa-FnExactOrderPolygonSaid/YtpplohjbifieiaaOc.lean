/- Polygons in order. -/
import Derived.Test.YtpplohjbifieiaaOb
namespace Go.Proofs.Ytpplohjbifieiaa.PC
open Go.RowKit Go.Proofs.YtpplohjbifieiaaW.PrintWords Go.Proofs.YtpplohjbifieiaaW.PrintLast Go.Proofs.YtpplohjbifieiaaW.PrintMore
open Poly (Pt)

theorem cmp_eq (a b : Int) : cmp_Compare_int64.f a b = some (if a < b then -1 else if b < a then 1 else 0) := by
  have h : ∀ x : Int, cmp_isNaN_int64.f x = some false := fun x => by unfold cmp_isNaN_int64.f; simp
  unfold cmp_Compare_int64.f
  rw [h, h]
  simp only [Option.bind_some]
  by_cases h1 : a < b
  · simp [h1]
  · by_cases h2 : b < a
    · simp [h1, h2]
    · simp [h1, h2]
theorem or2_ev (x y : Int) : Ev (fun k => cmp_Or_int.f k [x, y]) (if x = 0 then y else x) := by
  unfold cmp_Or_int.f
  refine Ev.step (fun k => by rw [cmp_Or_int.l0]) (Ev.pos (by simp) (Ev.pos (by omega) (Ev.pos (by simp) ?_)))
  rw [show rd [x, y] 0 = x from rfl]
  by_cases hx : x = 0
  · refine Ev.pos hx ?_
    rw [w01]
    refine Ev.step (fun k => by rw [cmp_Or_int.l0]) (Ev.pos (by simp) (Ev.pos (by omega) (Ev.pos (by simp) ?_)))
    rw [show rd [x, y] 1 = y from rfl, if_pos hx]
    by_cases hy : y = 0
    · refine Ev.pos hy ?_
      rw [w11]
      exact Ev.step (fun k => by rw [cmp_Or_int.l0]) (Ev.neg (by simp) ((Ev.pure _).eq hy.symm))
    · exact Ev.neg hy (Ev.pure _)
  · rw [if_neg hx]
    exact Ev.neg hx (Ev.pure _)
/-- which of two points comes first -/
def bef (x y x' y' : Int) : Prop := x < x' ∨ x = x' ∧ y < y'
theorem order_ev (x y x' y' : Int) : ∃ c, Ev (fun k => impl_pointOrder.f k x y x' y') c ∧ (c < 0 ↔ bef x y x' y') ∧ (c = 0 ↔ x = x' ∧ y = y') := by
  unfold impl_pointOrder.f
  rw [cmp_eq, cmp_eq]
  simp only [Option.bind_some]
  refine ⟨_, Ev.bind (or2_ev _ _) (Ev.pure _), ?_, ?_⟩
  · unfold bef
    by_cases h1 : x < x'
    · simp [h1]
    · by_cases h2 : x' < x
      · simp [h1, h2]; omega
      · have : x = x' := by omega
        subst this
        by_cases h3 : y < y'
        · simp [h3]
        · by_cases h4 : y' < y
          · simp [h3, h4]
          · simp [h3, h4]
  · by_cases h1 : x < x'
    · simp [h1]; omega
    · by_cases h2 : x' < x
      · simp [h1, h2]; omega
      · have : x = x' := by omega
        subst this
        by_cases h3 : y < y'
        · simp [h3]; omega
        · by_cases h4 : y' < y
          · simp [h3, h4]; omega
          · simp [h3, h4]; omega
def lt2 (p q : S40) : Prop := bef p.f0 p.f1 q.f0 q.f1
theorem lt2_trans {p q r : S40} (h : lt2 p q) (k : lt2 q r) : lt2 p r := by unfold lt2 bef at *; omega
theorem lt2_irr (p : S40) : ¬ lt2 p p := by unfold lt2 bef; omega
theorem lt2_le {p q r : S40} (h : lt2 p q) (k : ¬ lt2 r q) : lt2 p r := by unfold lt2 bef at *; omega
theorem lt2_ext {p q : S40} (h : ¬ lt2 p q) (k : ¬ lt2 q p) : p = q := by
  obtain ⟨a, b⟩ := p
  obtain ⟨c, d⟩ := q
  unfold lt2 bef at *
  simp only at h k
  have e1 : a = c := by omega
  have e2 : b = d := by omega
  subst e1 e2; rfl

abbrev at_ (L : List S40) (i : Nat) : S40 := rd_T40 L (i : Int)
theorem at_get {L : List S40} {i : Nat} (h : i < L.length) : at_ L i = L[i] := by simp [at_, rd_T40, h]
/-- m is the first place of the least point -/
structure First (L : List S40) (n m : Nat) : Prop where
  lt : m < n
  le : ∀ j, j < n → ¬ lt2 (at_ L j) (at_ L m)
  fst : ∀ j, j < m → lt2 (at_ L m) (at_ L j)
theorem First.uniq {L : List S40} {n a b : Nat} (h : First L n a) (k : First L n b) : a = b := by
  rcases Nat.lt_trichotomy a b with h1 | h1 | h1
  · exact absurd (k.fst a h1) (h.le b k.lt)
  · exact h1
  · exact absurd (h.fst b h1) (k.le a h.lt)
theorem First.snoc {L : List S40} {n a : Nat} (h : First L n a) (k : ¬ lt2 (at_ L n) (at_ L a)) : First L (n + 1) a :=
  ⟨by have := h.lt; omega, fun j hj => by
    rcases Nat.lt_or_ge j n with h1 | h1
    · exact h.le j h1
    · obtain rfl : j = n := by omega
      exact k, h.fst⟩
theorem First.next {L : List S40} {n a : Nat} (h : First L n a) (k : lt2 (at_ L n) (at_ L a)) : First L (n + 1) n :=
  ⟨by omega, fun j hj => by
    rcases Nat.lt_or_ge j n with h1 | h1
    · exact fun hh => h.le j h1 (lt2_trans hh k)
    · obtain rfl : j = n := by omega
      exact lt2_irr _, fun j hj => lt2_le k (h.le j hj)⟩
theorem First.one {L : List S40} : First L 1 0 := by
  refine ⟨by omega, fun j hj => ?_, fun j hj => by omega⟩
  obtain rfl : j = 0 := by omega
  exact lt2_irr _

theorem before_eq (p q : S40) : ∃ b, spec_l09Before.f p.f0 p.f1 q.f0 q.f1 = some b ∧ (b = true ↔ lt2 p q) := by
  unfold spec_l09Before.f lt2 bef
  by_cases h1 : p.f0 < q.f0
  · exact ⟨true, by rw [if_pos h1], by simp [h1]⟩
  · by_cases h2 : p.f0 = q.f0
    · exact ⟨decide (p.f1 < q.f1), by rw [if_neg h1, if_pos h2], by simp [h2]⟩
    · exact ⟨false, by rw [if_neg h1, if_neg h2], by simp; omega⟩

theorem order_loop (L : List S40) (hmax : L.length < 1000000000000) (m : Nat) (hm : First L L.length m) : ∀ d i f, i + d = L.length → 0 < i → First L i f →
    Ev (fun k => spec_l09Order.l0 k L (f : Int) (i : Int)) (L.drop m ++ L.take m) := by
  intro d
  induction d with
  | zero =>
    intro i f hi h0 hf
    obtain rfl : i = L.length := by omega
    obtain rfl := hf.uniq hm
    refine Ev.step (fun k => by rw [spec_l09Order.l0]) (Ev.neg (by omega) ?_)
    have := hf.lt
    simp only [Option.bind_some, Int.toNat_natCast, List.nil_append]
    refine Ev.pos (by omega) (Ev.pos (by omega) (Ev.pos (by simp; omega) (Ev.pos (by simp; omega) (Ev.pure _))))
  | succ d ih =>
    intro i f hi h0 hf
    have := hf.lt
    refine Ev.step (fun k => by rw [spec_l09Order.l0]) (Ev.pos (by omega) (Ev.pos (by omega) (Ev.pos (by omega) (Ev.pos (by omega) ?_))))
    obtain ⟨b, hb, hq⟩ := before_eq (at_ L i) (at_ L f)
    refine Ev.bind0 hb ?_
    rw [wnext i (by omega)]
    cases b
    · exact Ev.neg (by simp) (ih (i + 1) f (by omega) (by omega) (hf.snoc (by rw [← hq]; simp)))
    · exact Ev.pos rfl (ih (i + 1) i (by omega) (by omega) (hf.next (hq.1 rfl)))
theorem sorder_ev (L : List S40) (h0 : 0 < L.length) (hmax : L.length < 1000000000000) (m : Nat) (hm : First L L.length m) : Ev (fun k => spec_l09Order.f k L) (L.drop m ++ L.take m) := by
  unfold spec_l09Order.f
  refine Ev.step (fun k => by rw [spec_l09Order.l0]) (Ev.pos (by omega) (Ev.pos (by omega) (Ev.pos (by omega) (Ev.pos (by omega) ?_))))
  obtain ⟨b, hb, hq⟩ := before_eq (at_ L 0) (at_ L 0)
  have hbf : b = false := by
    cases b with
    | false => rfl
    | true => exact absurd (hq.1 rfl) (lt2_irr _)
  subst hbf
  refine Ev.bind0 hb (Ev.neg (by simp) ?_)
  rw [w01]
  exact order_loop L hmax m hm (L.length - 1) 1 0 (by omega) (by omega) First.one

theorem min_loop (L : List S40) (hmax : L.length < 1000000000000) (m : Nat) (hm : First L L.length m) : ∀ d i f, i + d = L.length → First L i f →
    Ev (fun k => slices_MinFunc_impl_polygon_impl_Point_at_impl_pointOrder.l0 k L (i : Int) (at_ L f).f0 (at_ L f).f1) ((at_ L m).f0, (at_ L m).f1) := by
  intro d
  induction d with
  | zero =>
    intro i f hi hf
    obtain rfl : i = L.length := by omega
    obtain rfl := hf.uniq hm
    exact Ev.step (fun k => by rw [slices_MinFunc_impl_polygon_impl_Point_at_impl_pointOrder.l0]) (Ev.neg (by omega) (Ev.pure _))
  | succ d ih =>
    intro i f hi hf
    refine Ev.step (fun k => by rw [slices_MinFunc_impl_polygon_impl_Point_at_impl_pointOrder.l0]) (Ev.pos (by omega) (Ev.pos (by omega) ?_))
    obtain ⟨c, hc, hq, _⟩ := order_ev (at_ L i).f0 (at_ L i).f1 (at_ L f).f0 (at_ L f).f1
    refine Ev.bind hc ?_
    rw [wnext i (by omega)]
    by_cases h : c < 0
    · exact Ev.pos h (ih (i + 1) i (by omega) (hf.next (hq.1 h)))
    · exact Ev.neg h (ih (i + 1) f (by omega) (hf.snoc (fun hh => h (hq.2 hh))))
theorem min_ev (L : List S40) (h0 : 0 < L.length) (hmax : L.length < 1000000000000) (m : Nat) (hm : First L L.length m) : Ev (fun k => slices_MinFunc_impl_polygon_impl_Point_at_impl_pointOrder.f k L) ((at_ L m).f0, (at_ L m).f1) := by
  unfold slices_MinFunc_impl_polygon_impl_Point_at_impl_pointOrder.f
  exact Ev.neg (by omega) (Ev.pos (by omega) (min_loop L hmax m hm (L.length - 1) 1 0 (by omega) First.one))
theorem index_loop (L : List S40) (hmax : L.length < 1000000000000) (m : Nat) (hm : First L L.length m) : ∀ d i, i + d = m →
    Ev (fun k => slices_Index_impl_polygon_impl_Point.l0 k L (L.length : Int) (i : Int) (at_ L m).f0 (at_ L m).f1) (m : Int) := by
  intro d
  have hml := hm.lt
  induction d with
  | zero =>
    intro i hi
    obtain rfl : i = m := by omega
    exact Ev.step (fun k => by rw [slices_Index_impl_polygon_impl_Point.l0]) (Ev.pos (by omega) (Ev.pos (by omega) (Ev.pos (by omega) (Ev.pos (by simp) (Ev.pure _)))))
  | succ d ih =>
    intro i hi
    refine Ev.step (fun k => by rw [slices_Index_impl_polygon_impl_Point.l0]) (Ev.pos (by omega) (Ev.pos (by omega) (Ev.pos (by omega) (Ev.neg ?_ ?_))))
    · have := hm.fst i (by omega)
      unfold lt2 bef at this
      simp only [Bool.and_eq_true, beq_iff_eq]
      show ¬ ((at_ L m).f0 = (at_ L i).f0 ∧ (at_ L m).f1 = (at_ L i).f1)
      omega
    · rw [wnext i (by omega)]
      exact ih (i + 1) (by omega)
theorem grow_eq (n : Nat) (h : n ≤ 1000000) : slices_Grow_impl_polygon_impl_Point_at_nil.f (n : Int) = some [] := by
  unfold slices_Grow_impl_polygon_impl_Point_at_nil.f
  rw [if_pos (by omega)]
theorem concat_ev (A B : List S40) (h : A.length + B.length ≤ 1000000) : Ev (fun k => slices_Concat_impl_polygon_impl_Point.f k [A, B]) (A ++ B) := by
  unfold slices_Concat_impl_polygon_impl_Point.f
  have r0 : rd_L3 [A, B] 0 = A := rfl
  have r1 : rd_L3 [A, B] 1 = B := rfl
  refine Ev.step (fun k => by rw [slices_Concat_impl_polygon_impl_Point.l0]) (Ev.pos (by simp) (Ev.pos (by omega) (Ev.pos (by simp) ?_)))
  rw [r0, w64 (x := 0 + (A.length : Int)) (by omega) (by omega), w01]
  refine Ev.neg (by omega) ?_
  refine Ev.step (fun k => by rw [slices_Concat_impl_polygon_impl_Point.l0]) (Ev.pos (by simp) (Ev.pos (by omega) (Ev.pos (by simp) ?_)))
  rw [r1, w64 (x := 0 + (A.length : Int) + (B.length : Int)) (by omega) (by omega), w11]
  refine Ev.neg (by omega) ?_
  refine Ev.step (fun k => by rw [slices_Concat_impl_polygon_impl_Point.l0]) (Ev.neg (by simp) ?_)
  rw [show (0 : Int) + (A.length : Int) + (B.length : Int) = ((A.length + B.length : Nat) : Int) by omega, grow_eq _ h]
  refine Ev.bind0 rfl ?_
  refine Ev.step (fun k => by rw [slices_Concat_impl_polygon_impl_Point.l1]) (Ev.pos (by simp) (Ev.pos (by omega) (Ev.pos (by simp) ?_)))
  rw [r0, w01, List.nil_append]
  refine Ev.pos (by simp; omega) ?_
  refine Ev.step (fun k => by rw [slices_Concat_impl_polygon_impl_Point.l1]) (Ev.pos (by simp) (Ev.pos (by omega) (Ev.pos (by simp) ?_)))
  rw [r1, w11]
  refine Ev.pos (by omega) ?_
  exact Ev.step (fun k => by rw [slices_Concat_impl_polygon_impl_Point.l1]) (Ev.neg (by simp) (Ev.pure _))
theorem ordered_ev (L : List S40) (h0 : 0 < L.length) (hmax : L.length ≤ 1000000) (m : Nat) (hm : First L L.length m) : Ev (fun k => impl_polygon_ordered.f k L) (L.drop m ++ L.take m) := by
  unfold impl_polygon_ordered.f
  have := hm.lt
  refine Ev.bind (min_ev L h0 (by omega) m hm) (Ev.bind (r := (m : Int)) ?_ (Ev.pos (by omega) (Ev.pos (by omega) ?_)))
  · unfold slices_Index_impl_polygon_impl_Point.f
    exact index_loop L (by omega) m hm m 0 (by omega)
  · rw [Int.toNat_natCast]
    exact Ev.bind (concat_ev _ _ (by simp; omega)) (Ev.pure _)
theorem first_ex (L : List S40) : ∀ n, 0 < n → ∃ m, First L n m := by
  intro n hn
  induction n with
  | zero => omega
  | succ n ih =>
    rcases Nat.eq_zero_or_pos n with h | h
    · subst h; exact ⟨0, First.one⟩
    · obtain ⟨m, hm⟩ := ih h
      by_cases hl : lt2 (at_ L n) (at_ L m)
      · exact ⟨n, hm.next hl⟩
      · exact ⟨m, hm.snoc hl⟩

/-- program and reference give the same -/
theorem both (L : List S40) (hmax : L.length ≤ 1000000000) : ∃ R : List S40 × Int, R.1.length ≤ 12 ∧ Ev (fun k => spec_OrderPolygon.f k L) R ∧ Ev (fun k => impl_OrderPolygon.f k L) R := by
  unfold spec_OrderPolygon.f impl_OrderPolygon.f
  have hl := pts_len L
  have hc : Ev (fun k => spec_l09Code.f k [L]) (if polyB (pts L) = true then 0 else 1) := by
    unfold spec_l09Code.f
    refine Ev.step (fun k => by rw [spec_l09Code.l0]) (Ev.pos (by simp) (Ev.pos (by omega) ?_))
    rw [show rd_L3 [L] 0 = L from rfl]
    refine Ev.bind (is_ev L) ?_
    cases polyB (pts L)
    · exact Ev.neg (by simp) ((Ev.pure _).eq (by simp))
    · refine Ev.pos rfl ?_
      rw [w01]
      exact Ev.step (fun k => by rw [spec_l09Code.l0]) (Ev.neg (by simp) ((Ev.pure _).eq (by simp)))
  by_cases hp : PolyOk (pts L)
  · have h3 := hp.n3
    have h12 := hp.n12
    rw [hl] at h3 h12
    obtain ⟨m, hm⟩ := first_ex L L.length (by omega)
    refine ⟨(L.drop m ++ L.take m, 0), by simp; omega, Ev.bind hc ?_, Ev.bind (isP_ev L (by omega)) ?_⟩
    · rw [polyB_true hp]
      exact Ev.pos (by simp) (Ev.bind (sorder_ev L (by omega) (by omega) m hm) (Ev.pure _))
    · rw [polyB_true hp]
      exact Ev.pos rfl (Ev.bind (ordered_ev L (by omega) (by omega) m hm) (Ev.pure _))
  · refine ⟨([], 1), by simp, Ev.bind hc ?_, Ev.bind (isP_ev L (by omega)) ?_⟩
    · rw [polyB_false hp]
      exact Ev.neg (by simp) ((Ev.pure _).eq (by simp))
    · rw [polyB_false hp]
      exact Ev.neg (by simp) (Ev.pure _)
end Go.Proofs.Ytpplohjbifieiaa.PC

/- AddPolygons: program and reference give the same; the statement over lists alone. -/
import Derived.Test.YtpplohjbifieiaaHz
import Derived.Test.YtpplohjbifieiaaLp
namespace Go.Proofs.Ytpplohjbifieiaa.PE
open Go.RowKit Go.Proofs.YtpplohjbifieiaaW.PrintWords Go.Proofs.YtpplohjbifieiaaW.PrintLast Go.Proofs.YtpplohjbifieiaaW.PrintMore
open Poly (Pt det sub)
open Hull Go.Sort Go.Lib

/-- the sum of two points -/
def addP (p q : S40) : S40 := ⟨p.f0 + q.f0, p.f1 + q.f1⟩
theorem plus_pt {p q : S40} (hp : Bd 1000000 (pt p)) (hq : Bd 1000000 (pt q)) : spec_l01Plus.f p.f0 p.f1 q.f0 q.f1 1 = some ((addP p q).f0, (addP p q).f1) := by
  obtain ⟨a0, a1, a2, a3⟩ := hp
  obtain ⟨b0, b1, b2, b3⟩ := hq
  unfold pt at *
  simp only at a0 a1 a2 a3 b0 b1 b2 b3
  unfold spec_l01Plus.f addP
  rw [w64 (x := 1 * q.f0) (by omega) (by omega), w64 (x := 1 * q.f1) (by omega) (by omega), w64 (by omega) (by omega), w64 (by omega) (by omega)]
  simp
theorem iplus_pt {p q : S40} (hp : Bd 1000000 (pt p)) (hq : Bd 1000000 (pt q)) : impl_Point_plus.f p.f0 p.f1 q.f0 q.f1 1 = some ((addP p q).f0, (addP p q).f1) := plus_pt hp hq
/-- all sums -/
def sums (A B : List S40) : List S40 := A.flatMap fun a => B.map fun b => addP a b
theorem sums_len (A B : List S40) : (sums A B).length = A.length * B.length := by
  unfold sums
  induction A with
  | nil => simp
  | cons a A ih => rw [List.flatMap_cons, List.length_append, ih, List.length_map, List.length_cons, Nat.add_mul, Nat.one_mul, Nat.add_comm]

/-- corners of a polygon are small -/
def Small (A : List S40) : Prop := A.length ≤ 12 ∧ ∀ e ∈ A, Bd 1000 (pt e)
theorem small_of {A : List S40} (h : PolyOk (pts A)) : Small A := by
  have h12 := h.n12
  have hl := pts_len A
  refine ⟨by rwa [hl] at h12, fun e he => ?_⟩
  obtain ⟨i, hi, rfl⟩ := List.getElem_of_mem he
  have := h.fits i (by rw [hl]; exact hi)
  rw [← rd_cyc A i hi] at this
  rwa [show rd_T40 A (i : Int) = A[i] from rdAt (List.getElem?_eq_getElem hi)] at this
theorem Small.bd {A : List S40} (h : Small A) : ∀ e ∈ A, Bd 1000000 (pt e) := fun e he => (h.2 e he).mono (by omega)

theorem spec_add1 {A B : List S40} (hA : Small A) (hB : Small B) (i : Nat) (hi : i < A.length) (R : List S40 × Int) (X : List S40) (hX : X.length ≤ 10000)
    (h : Ev (fun k => spec_AddPolygons.l0 k A B (X ++ B.map fun b => addP A[i] b) ((i + 1 : Nat) : Int)) R) :
    ∀ d j, j + d = B.length → Ev (fun k => spec_AddPolygons.l1 k A B (X ++ (B.take j).map fun b => addP A[i] b) (i : Int) (j : Int)) R := by
  have h12 := hA.1
  have h12' := hB.1
  intro d
  induction d with
  | zero =>
    intro j hj
    rw [List.take_of_length_le (by omega)]
    refine Ev.step (fun k => by rw [spec_AddPolygons.l1]) (Ev.neg (by omega) ?_)
    rw [wnext i (by omega)]
    exact h
  | succ d ih =>
    intro j hj
    have hlt : j < B.length := by omega
    have r1 : rd_T40 A (i : Int) = A[i] := rdAt (List.getElem?_eq_getElem hi)
    have r2 : rd_T40 B (j : Int) = B[j] := rdAt (List.getElem?_eq_getElem hlt)
    refine Ev.step (fun k => by rw [spec_AddPolygons.l1]) (Ev.pos (by omega) (Ev.pos (by omega) (Ev.pos (by omega) (Ev.pos (by omega) ?_))))
    rw [r1, r2]
    refine Ev.bind0 (plus_pt (hA.bd _ (List.getElem_mem _)) (hB.bd _ (List.getElem_mem _))) (Ev.pos (by simp; omega) ?_)
    rw [wnext j (by omega)]
    have e : X ++ (B.take j).map (fun b => addP A[i] b) ++ [(⟨(addP A[i] B[j]).f0, (addP A[i] B[j]).f1⟩ : S40)] = X ++ (B.take (j + 1)).map fun b => addP A[i] b := by
      rw [List.take_add_one, List.getElem?_eq_getElem hlt, List.map_append, List.append_assoc]
      rfl
    rw [e]
    exact ih (j + 1) (by omega)
theorem impl_add1 {A B : List S40} (hA : Small A) (hB : Small B) (i : Nat) (hi : i < A.length) (R : List S40 × Int) (X : List S40) (hX : X.length ≤ 10000)
    (h : Ev (fun k => impl_AddPolygons.l0 k B (X ++ B.map fun b => addP A[i] b) A (A.length : Int) ((i + 1 : Nat) : Int)) R) :
    ∀ d j, j + d = B.length → Ev (fun k => impl_AddPolygons.l1 k B (X ++ (B.take j).map fun b => addP A[i] b) A (A.length : Int) (i : Int) B (B.length : Int) (j : Int) A[i].f0 A[i].f1) R := by
  have h12 := hA.1
  have h12' := hB.1
  intro d
  induction d with
  | zero =>
    intro j hj
    rw [List.take_of_length_le (by omega)]
    refine Ev.step (fun k => by rw [impl_AddPolygons.l1]) (Ev.neg (by omega) ?_)
    rw [wnext i (by omega)]
    exact h
  | succ d ih =>
    intro j hj
    have hlt : j < B.length := by omega
    have r2 : rd_T40 B (j : Int) = B[j] := rdAt (List.getElem?_eq_getElem hlt)
    refine Ev.step (fun k => by rw [impl_AddPolygons.l1]) (Ev.pos (by omega) (Ev.pos (by omega) (Ev.pos (by omega) ?_)))
    rw [r2]
    refine Ev.bind0 (iplus_pt (hA.bd _ (List.getElem_mem _)) (hB.bd _ (List.getElem_mem _))) (Ev.pos (by simp; omega) ?_)
    rw [wnext j (by omega)]
    have e : X ++ (B.take j).map (fun b => addP A[i] b) ++ [(⟨(addP A[i] B[j]).f0, (addP A[i] B[j]).f1⟩ : S40)] = X ++ (B.take (j + 1)).map fun b => addP A[i] b := by
      rw [List.take_add_one, List.getElem?_eq_getElem hlt, List.map_append, List.append_assoc]
      rfl
    rw [e]
    exact ih (j + 1) (by omega)
theorem sums_take (A B : List S40) (i : Nat) (hi : i < A.length) : sums (A.take (i + 1)) B = sums (A.take i) B ++ B.map fun b => addP A[i] b := by
  unfold sums
  rw [List.take_add_one, List.getElem?_eq_getElem hi, List.flatMap_append]
  simp
theorem sums_le {A B : List S40} (hA : Small A) (hB : Small B) (i : Nat) : (sums (A.take i) B).length ≤ 144 := by
  rw [sums_len]
  exact Nat.mul_le_mul (show (A.take i).length ≤ 12 by rw [List.length_take]; have := hA.1; omega) hB.1
theorem spec_add0 {A B : List S40} (hA : Small A) (hB : Small B) (R : List S40 × Int) (h : Ev (fun k => spec_l09Told.f k (sums A B)) R) : ∀ d i, i + d = A.length → Ev (fun k => spec_AddPolygons.l0 k A B (sums (A.take i) B) (i : Int)) R := by
  intro d
  induction d with
  | zero =>
    intro i hi
    rw [List.take_of_length_le (by omega)]
    exact Ev.step (fun k => by rw [spec_AddPolygons.l0]) (Ev.neg (by omega) (Ev.bind h (Ev.pure _)))
  | succ d ih =>
    intro i hi
    have hlt : i < A.length := by omega
    have hle := sums_le hA hB i
    refine Ev.step (fun k => by rw [spec_AddPolygons.l0]) (Ev.pos (by omega) ?_)
    have := spec_add1 hA hB i hlt R (sums (A.take i) B) (by omega) (by rw [← sums_take A B i hlt]; exact ih (i + 1) (by omega)) B.length 0 (by omega)
    simpa using this
theorem impl_add0 {A B : List S40} (hA : Small A) (hB : Small B) (R : List S40 × Int) (h : Ev (fun k => impl_hull.f k (sums A B)) R) : ∀ d i, i + d = A.length → Ev (fun k => impl_AddPolygons.l0 k B (sums (A.take i) B) A (A.length : Int) (i : Int)) R := by
  intro d
  induction d with
  | zero =>
    intro i hi
    rw [List.take_of_length_le (by omega)]
    exact Ev.step (fun k => by rw [impl_AddPolygons.l0]) (Ev.neg (by omega) (Ev.bind h (Ev.pure _)))
  | succ d ih =>
    intro i hi
    have hlt : i < A.length := by omega
    have hle := sums_le hA hB i
    have r1 : rd_T40 A (i : Int) = A[i] := rdAt (List.getElem?_eq_getElem hlt)
    refine Ev.step (fun k => by rw [impl_AddPolygons.l0]) (Ev.pos (by omega) (Ev.pos (by omega) (Ev.pos (by omega) ?_)))
    rw [r1]
    have := impl_add1 hA hB i hlt R (sums (A.take i) B) (by omega) (by rw [← sums_take A B i hlt]; exact ih (i + 1) (by omega)) B.length 0 (by omega)
    simpa using this

/-- program and reference give the same -/
theorem both_add (A B : List S40) (hA : A.length ≤ 1000000000) (hB : B.length ≤ 1000000000) : ∃ R : List S40 × Int, R.1.length ≤ 12 ∧ Ev (fun k => spec_AddPolygons.f k A B) R ∧ Ev (fun k => impl_AddPolygons.f k A B) R := by
  classical
  have hc : Ev (fun k => spec_l09Code.f k [A, B]) (if polyB (pts A) = true ∧ polyB (pts B) = true then 0 else 1) := by
    unfold spec_l09Code.f
    refine Ev.step (fun k => by rw [spec_l09Code.l0]) (Ev.pos (by simp) (Ev.pos (by omega) ?_))
    rw [show rd_L3 [A, B] 0 = A from rfl]
    refine Ev.bind (is_ev A) ?_
    cases polyB (pts A)
    · exact Ev.neg (by simp) ((Ev.pure _).eq (by simp))
    · refine Ev.pos rfl ?_
      rw [w01]
      refine Ev.step (fun k => by rw [spec_l09Code.l0]) (Ev.pos (by simp) (Ev.pos (by omega) ?_))
      rw [show rd_L3 [A, B] 1 = B from rfl]
      refine Ev.bind (is_ev B) ?_
      cases polyB (pts B)
      · exact Ev.neg (by simp) ((Ev.pure _).eq (by simp))
      · refine Ev.pos rfl ?_
        rw [w11]
        exact Ev.step (fun k => by rw [spec_l09Code.l0]) (Ev.neg (by simp) ((Ev.pure _).eq (by simp)))
  have js : ∀ b : Bool, b = true → Ev (fun k => impl_AddPolygons.j0 k A B b) ([], 1) := fun b hb => by
    subst hb
    exact Ev.step (fun k => by rw [impl_AddPolygons.j0]) (Ev.pos rfl (Ev.pure _))
  unfold spec_AddPolygons.f impl_AddPolygons.f
  by_cases hp : PolyOk (pts A) ∧ PolyOk (pts B)
  · obtain ⟨h1, h2⟩ := hp
    have s1 := small_of h1
    have s2 := small_of h2
    have hs : ∀ e ∈ sums A B, Bd 1000000 (pt e) := fun e he => by
      obtain ⟨a, ha, he⟩ := List.mem_flatMap.mp he
      obtain ⟨b, hb, rfl⟩ := List.mem_map.mp he
      obtain ⟨a0, a1, a2, a3⟩ := s1.2 a ha
      obtain ⟨b0, b1, b2, b3⟩ := s2.2 b hb
      unfold pt at *
      unfold addP
      simp only at *
      exact ⟨by simp only; omega, by simp only; omega, by simp only; omega, by simp only; omega⟩
    have hl : (sums A B).length ≤ 100000 := by
      have := sums_le s1 s2 A.length
      rw [List.take_of_length_le (Nat.le_refl _)] at this
      omega
    rw [polyB_true h1, polyB_true h2] at hc
    refine ⟨told (corners (sorted (sums A B))), told_len _, Ev.bind hc (Ev.pos (by simp) ?_), Ev.bind (isP_ev A (by omega)) ?_⟩
    · exact spec_add0 s1 s2 _ (spec_hull_ev _ hl hs) A.length 0 (by omega)
    · rw [polyB_true h1]
      refine Ev.pos rfl (Ev.bind (isP_ev B (by omega)) ?_)
      rw [polyB_true h2]
      refine Ev.step (fun k => by rw [impl_AddPolygons.j0]) (Ev.neg (by simp) ?_)
      exact impl_add0 s1 s2 _ (impl_hull_ev _ hl hs) A.length 0 (by omega)
  · have hno : ¬ (polyB (pts A) = true ∧ polyB (pts B) = true) := by
      intro ⟨h1, h2⟩
      refine hp ⟨?_, ?_⟩
      · rcases Classical.em (PolyOk (pts A)) with k | k
        · exact k
        · rw [polyB_false k] at h1; cases h1
      · rcases Classical.em (PolyOk (pts B)) with k | k
        · exact k
        · rw [polyB_false k] at h2; cases h2
    rw [if_neg hno] at hc
    refine ⟨([], 1), by simp, Ev.bind hc (Ev.neg (by simp) (Ev.pure _)), Ev.bind (isP_ev A (by omega)) ?_⟩
    cases h1 : polyB (pts A) with
    | false => exact Ev.neg (by simp) (js true rfl)
    | true =>
      refine Ev.pos rfl (Ev.bind (isP_ev B (by omega)) (js _ ?_))
      cases h2 : polyB (pts B) with
      | false => rfl
      | true => exact absurd ⟨h1, h2⟩ hno

/-- marking, from any number on -/
theorem mark2_ev (s : Int) (hs0 : 0 ≤ s) : ∀ d i (y : List S40), i + d = y.length → s + 2 * (d : Int) ≤ 1000000000000 → y.length ≤ 1000000000 →
    ∃ z : List S40, Ev (fun k => laws_markPointS.l0 k y s (i : Int)) (s + 2 * (d : Int), z) := by
  intro d
  induction d generalizing s with
  | zero =>
    intro i y hi _ _
    exact ⟨y, Ev.step (fun k => by rw [laws_markPointS.l0]) (Ev.neg (by omega) ((Ev.pure _).eq (by simp)))⟩
  | succ d ih =>
    intro i y hi hb hy
    have hlt : i < y.length := by omega
    obtain ⟨z, hz⟩ := ih (s + 1 + 1) (by omega) (i + 1) ((y.set i (⟨s, (rd_T40 y (i : Int)).f1⟩ : S40)).set i (⟨(rd_T40 (y.set i (⟨s, (rd_T40 y (i : Int)).f1⟩ : S40)) (i : Int)).f0, s + 1⟩ : S40)) (by simp; omega) (by omega) (by simp; omega)
    refine ⟨z, ?_⟩
    refine Ev.step (fun k => by rw [laws_markPointS.l0]) (Ev.pos (by omega) ?_)
    refine Ev.step (fun k => by rw [laws_markPointS.l1]) (Ev.pos (by omega) (Ev.pos (by omega) (Ev.pos (by omega) (Ev.pos rfl ?_))))
    rw [Int.toNat_natCast, w64 (x := s + 1) (by omega) (by omega)]
    refine Ev.step (fun k => by rw [laws_markPointS.l1]) (Ev.pos (by omega) (Ev.pos (by omega) (Ev.pos (by simp; omega) (Ev.neg (by omega) (Ev.pos rfl ?_)))))
    rw [Int.toNat_natCast, w64 (x := s + 1 + 1) (by omega) (by omega)]
    refine Ev.step (fun k => by rw [laws_markPointS.l1]) (Ev.neg (by omega) ?_)
    rw [wn1 i (by omega)]
    refine hz.eq ?_
    rw [Prod.mk.injEq]
    exact ⟨by omega, rfl⟩

theorem pure_add (l : List S35) (hl : l.length ≤ 17592186044416) (m : List S35) (hm : m.length ≤ 17592186044416) : Ev (fun k => laws_FnExactAddPolygons.f k l m) true := by
  unfold laws_FnExactAddPolygons.f
  rw [size_eq l 1048576 (by omega) (by omega) hl]
  refine Ev.bind0 rfl ?_
  by_cases hs : (1048576 : Int) < l.length
  · rw [if_pos hs]
    exact Ev.pos (by omega) (Ev.pure _)
  · rw [if_neg hs]
    refine Ev.neg (by omega) ?_
    rw [size_eq m _ (by omega) (by omega) hm]
    refine Ev.bind0 rfl ?_
    by_cases hs2 : (1048576 : Int) - l.length < m.length
    · rw [if_pos hs2]
      exact Ev.pos (by omega) (Ev.pure _)
    · rw [if_neg hs2]
      have h1 : l.length < 1000000000 := by omega
      have h2 : m.length < 1000000000 := by omega
      obtain ⟨⟨R, c⟩, hR, hsp, him⟩ := both_add (cvL l) (cvL m) (by rw [cvL_len]; omega) (by rw [cvL_len]; omega)
      simp only at hR
      have hc1 := cvL_len l
      have hc2 := cvL_len m
      have q : ∀ x : List S40, x.length < 1000000000 → Ev (fun k => laws_eqPointS.f k x x) true := fun x h => eqPointS_ev x h
      refine Ev.neg (by omega) (Ev.bind (toPointS_ev l h1) (Ev.bind (toPointS_ev m h2) (Ev.bind hsp (Ev.bind (toPointS_ev l h1) (Ev.bind (toPointS_ev m h2) (Ev.bind him (Ev.bind (q _ (by simp only; omega)) (Ev.pos rfl ?_))))))))
      refine Ev.step (fun k => by rw [laws_FnExactAddPolygons.j0]) (Ev.neg (by simp) ?_)
      obtain ⟨z, hz⟩ := mark2_ev (1 + 2 * ((cvL l).length : Int)) (by omega) (cvL m).length 0 (cvL m) (by omega) (by omega) (by omega)
      refine Ev.bind (toPointS_ev l h1) (Ev.bind (q _ (by omega)) (Ev.pos rfl (Ev.bind (toPointS_ev m h2) (Ev.bind (q _ (by omega)) (Ev.pos rfl (Ev.bind (mark_ev _ (by omega)) (Ev.bind (r := (1 + 2 * ((cvL l).length : Int) + 2 * ((cvL m).length : Int), z)) hz (Ev.neg (by simp only; omega) (Ev.bind (q _ (by simp only; omega)) (Ev.pos rfl ?_))))))))))
      refine Ev.step (fun k => by rw [laws_FnExactAddPolygons.j1]) (Ev.neg (by simp) ?_)
      refine Ev.bind (mark_ev _ (by first | omega | (simp only; omega))) (Ev.bind (held_ev _ (by first | omega | (simp only; omega))) (Ev.neg (by omega) (Ev.pos rfl ?_)))
      refine Ev.bind (toPointS_ev l h1) (Ev.bind (toPointS_ev m h2) (Ev.bind him (Ev.bind (q _ (by simp only; omega)) (Ev.pos rfl ?_))))
      refine Ev.step (fun k => by rw [laws_FnExactAddPolygons.j2]) (Ev.neg (by simp) ?_)
      exact Ev.bind (held_ev _ (by first | omega | (simp only; omega))) (Ev.neg (by omega) (Ev.pos rfl (Ev.pure _)))
end Go.Proofs.Ytpplohjbifieiaa.PE

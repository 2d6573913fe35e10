/- The program's test of a polygon. -/
import Derived.Test.YtpplohjbifieiaaOa
namespace Go.Proofs.Ytpplohjbifieiaa.PE
open Go.RowKit Go.Proofs.YtpplohjbifieiaaW.PrintWords Go.Proofs.YtpplohjbifieiaaW.PrintLast Go.Proofs.YtpplohjbifieiaaW.PrintMore
open Poly (Pt)

theorem iin_eq (x lo hi : Int) : impl_in.f x lo hi = some (inB x lo hi) := in_eq x lo hi
theorem bad_eq (x y : Int) : impl_IsPolygon_1.f x y = some (!fitB x y 1000) := by
  unfold impl_IsPolygon_1.f impl_small.f fitB
  rw [iin_eq, iin_eq]
  simp only [Option.bind_some]
  cases inB x (-1000) 1000 <;> simp
theorem wnext (i : Nat) (h : i < 1000000000000) : wrap64 ((i : Int) + 1) = ((i + 1 : Nat) : Int) := by rw [w64 (by omega) (by omega)]; simp

/-- the first that is not small, or -1 -/
theorem index_bad (L : List S40) (hmax : L.length < 1000000000000) : ∀ d i, i + d = L.length → (∀ j, j < i → Bd 1000 (cyc (pts L) j)) →
    ∃ r : Int, Ev (fun k => slices_IndexFunc_impl_Point_impl_Point_at_impl_IsPolygon_1.l0 k L (L.length : Int) (i : Int)) r ∧ (0 ≤ r ↔ ¬ ∀ j, j < L.length → Bd 1000 (cyc (pts L) j)) := by
  intro d
  induction d with
  | zero =>
    intro i hi hf
    refine ⟨-1, Ev.step (fun k => by rw [slices_IndexFunc_impl_Point_impl_Point_at_impl_IsPolygon_1.l0]) (Ev.neg (by omega) (Ev.pure _)), by omega, fun h => (h fun j hj => hf j (by omega)).elim⟩
  | succ d ih =>
    intro i hi hf
    have hlt : i < L.length := by omega
    by_cases hb : Bd 1000 (cyc (pts L) i)
    · obtain ⟨r, hr, hq⟩ := ih (i + 1) (by omega) (fun j hj => by
        rcases Nat.lt_or_ge j i with h | h
        · exact hf j h
        · obtain rfl : j = i := by omega
          exact hb)
      refine ⟨r, Ev.step (fun k => by rw [slices_IndexFunc_impl_Point_impl_Point_at_impl_IsPolygon_1.l0]) ?_, hq⟩
      refine Ev.pos (by omega) (Ev.pos (by omega) (Ev.pos (by omega) ?_))
      rw [rd_x hlt, rd_y hlt, bad_eq, fitB_iff.2 hb]
      refine Ev.bind0 rfl (Ev.neg (by simp) ?_)
      rw [wnext i (by omega)]; exact hr
    · refine ⟨i, Ev.step (fun k => by rw [slices_IndexFunc_impl_Point_impl_Point_at_impl_IsPolygon_1.l0]) ?_, fun _ h => hb (h i hlt), fun _ => by omega⟩
      refine Ev.pos (by omega) (Ev.pos (by omega) (Ev.pos (by omega) ?_))
      rw [rd_x hlt, rd_y hlt, bad_eq]
      have hf' : fitB (cyc (pts L) i).x (cyc (pts L) i).y 1000 = false := by
        cases hq : fitB (cyc (pts L) i).x (cyc (pts L) i).y 1000 with
        | false => rfl
        | true => exact absurd (fitB_iff.1 hq) hb
      rw [hf']
      exact Ev.bind0 rfl (Ev.pos (by simp) (Ev.pure _))
open Classical in
theorem contains_bad (L : List S40) (hmax : L.length < 1000000000000) : Ev (fun k => slices_ContainsFunc_impl_Point_impl_Point_at_impl_IsPolygon_1.f k L) (decide (¬ ∀ j, j < L.length → Bd 1000 (cyc (pts L) j))) := by
  obtain ⟨r, hr, hq⟩ := index_bad L hmax L.length 0 (by omega) (fun j hj => by omega)
  unfold slices_ContainsFunc_impl_Point_impl_Point_at_impl_IsPolygon_1.f slices_IndexFunc_impl_Point_impl_Point_at_impl_IsPolygon_1.f
  refine Ev.bind hr ((Ev.pure _).eq ?_)
  rw [decide_eq_decide]; exact hq

theorem next_eq (L : List S40) (i : Nat) (hi : i < L.length) (hmax : L.length < 1000000000000) : impl_polygon_next.f L i = some ((cyc (pts L) (i + 1)).x, (cyc (pts L) (i + 1)).y) := by
  have hl := pts_len L
  have m1 : (i + 1) % L.length < L.length := Nat.mod_lt _ (by omega)
  have c1 : cyc (pts L) ((i + 1) % L.length) = cyc (pts L) (i + 1) := cyc_of_mod hl.symm rfl
  unfold impl_polygon_next.f
  rw [tmod_nat i L.length (by omega), if_neg (by omega), if_pos (by omega), if_pos (by omega), rd_x m1, rd_y m1, c1]

/-- what stands till corner k of side i -/
def Till (L : List S40) (i k : Nat) : Prop := ∀ k', k' < k → k' ≠ i → k' ≠ (i + 1) % L.length → 0 < turnD (cyc (pts L) i) (cyc (pts L) (i + 1)) (cyc (pts L) k')
open Classical in
theorem convex_in (L : List S40) (hmax : L.length ≤ 12) (hfit : ∀ j, j < L.length → Bd 1000 (cyc (pts L) j)) (i : Nat) (hi : i < L.length)
    (hgo : Till L i L.length → Ev (fun k => impl_polygon_convex.l0 k L L (L.length : Int) ((i + 1 : Nat) : Int)) (decide (Conv (pts L)))) :
    ∀ d q, q + d = L.length → Till L i q → Ev (fun k => impl_polygon_convex.l1 k L (i : Int) L (L.length : Int) (i : Int) L (L.length : Int) (q : Int) (cyc (pts L) i).x (cyc (pts L) i).y (cyc (pts L) (i + 1)).x (cyc (pts L) (i + 1)).y) (decide (Conv (pts L))) := by
  have hl := pts_len L
  intro d
  induction d with
  | zero =>
    intro q hq ht
    refine Ev.step (fun k => by rw [impl_polygon_convex.l1]) (Ev.neg (by omega) ?_)
    rw [wnext i (by omega)]
    exact hgo (by rw [show L.length = q by omega]; exact ht)
  | succ d ih =>
    intro q hq ht
    have hlt : q < L.length := by omega
    have m1 : (i + 1) % L.length < L.length := Nat.mod_lt _ (by omega)
    have c1 : cyc (pts L) ((i + 1) % L.length) = cyc (pts L) (i + 1) := cyc_of_mod hl.symm rfl
    have on : ∀ z : Bool, z = false → Till L i (q + 1) → Ev (fun k => impl_polygon_convex.j2 k L (i : Int) L (L.length : Int) (i : Int) L (L.length : Int) (q : Int) z (cyc (pts L) i).x (cyc (pts L) i).y (cyc (pts L) (i + 1)).x (cyc (pts L) (i + 1)).y) (decide (Conv (pts L))) := fun z hz h => by
      refine Ev.step (fun k => by rw [impl_polygon_convex.j2]) (Ev.neg (by rw [hz]; simp) ?_)
      rw [wnext q (by omega)]; exact ih (q + 1) (by omega) h
    refine Ev.step (fun k => by rw [impl_polygon_convex.l1]) ?_
    rw [tmod_nat i L.length (by omega)]
    refine Ev.pos (by omega) (Ev.pos (by omega) (Ev.pos (by omega) ?_))
    by_cases e1 : q = i
    · exact Ev.pos (by omega) (on _ rfl (fun k' hk h1 h2 => by
        rcases Nat.lt_or_ge k' q with h | h
        · exact ht k' h h1 h2
        · omega))
    · refine Ev.neg (by omega) (Ev.neg (by omega) ?_)
      by_cases e2 : q = (i + 1) % L.length
      · exact Ev.pos (by omega) (on _ rfl (fun k' hk h1 h2 => by
          rcases Nat.lt_or_ge k' q with h | h
          · exact ht k' h h1 h2
          · omega))
      · refine Ev.neg (by omega) ?_
        rw [rd_x hlt, rd_y hlt, turn_pt ((hfit i hi).mono (by omega)) (by rw [← c1]; exact (hfit _ m1).mono (by omega)) ((hfit q hlt).mono (by omega))]
        simp only [Option.bind_some]
        by_cases hT : 0 < turnD (cyc (pts L) i) (cyc (pts L) (i + 1)) (cyc (pts L) q)
        · exact on _ (by simp; omega) (fun k' hk h1 h2 => by
            rcases Nat.lt_or_ge k' q with h | h
            · exact ht k' h h1 h2
            · obtain rfl : k' = q := by omega
              exact hT)
        · refine Ev.step (fun k => by rw [impl_polygon_convex.j2]) (Ev.pos (by simp; omega) ((Ev.pure _).eq ?_))
          symm; rw [decide_eq_false_iff_not]
          exact fun h => hT (h i q (by rw [hl]; exact hi) (by rw [hl]; exact hlt) e1 (by rw [hl]; exact e2))
open Classical in
theorem convex_loop (L : List S40) (hmax : L.length ≤ 12) (hfit : ∀ j, j < L.length → Bd 1000 (cyc (pts L) j)) :
    ∀ d i, i + d = L.length → (∀ i', i' < i → Till L i' L.length) → Ev (fun k => impl_polygon_convex.l0 k L L (L.length : Int) (i : Int)) (decide (Conv (pts L))) := by
  have hl := pts_len L
  intro d
  induction d with
  | zero =>
    intro i hi ht
    refine Ev.step (fun k => by rw [impl_polygon_convex.l0]) (Ev.neg (by omega) ((Ev.pure _).eq ?_))
    symm; rw [decide_eq_true_eq]
    intro i' k' h1 h2 h3 h4
    rw [hl] at h1 h2 h4
    exact ht i' (by omega) k' h2 h3 h4
  | succ d ih =>
    intro i hi ht
    have hlt : i < L.length := by omega
    refine Ev.step (fun k => by rw [impl_polygon_convex.l0]) (Ev.pos (by omega) (Ev.pos (by omega) (Ev.pos (by omega) ?_)))
    rw [next_eq L i hlt (by omega), rd_x hlt, rd_y hlt]
    refine convex_in L hmax hfit i hlt (fun h => ih (i + 1) (by omega) (fun i' hi' => ?_)) L.length 0 (by omega) (fun k' hk => by omega)
    rcases Nat.lt_or_ge i' i with h' | h'
    · exact ht i' h'
    · obtain rfl : i' = i := by omega
      exact h

theorem isP_ev (L : List S40) (hmax : L.length < 1000000000000) : Ev (fun k => impl_IsPolygon.f k L) (polyB (pts L)) := by
  classical
  have hl := pts_len L
  unfold impl_IsPolygon.f
  rw [iin_eq]
  simp only [Option.bind_some]
  by_cases hn : inB (L.length : Int) 3 12 = true
  · rw [hn]
    obtain ⟨h3, h12⟩ := inB_iff.1 hn
    refine Ev.pos rfl (Ev.bind (contains_bad L hmax) ?_)
    by_cases hf : ∀ j, j < L.length → Bd 1000 (cyc (pts L) j)
    · refine Ev.neg (by simp; exact hf) ?_
      unfold impl_polygon_convex.f
      refine Ev.bind (convex_loop L (by omega) hf L.length 0 (by omega) (fun i' h => by omega)) ((Ev.pure _).eq ?_)
      unfold polyB
      rw [decide_eq_decide, polyOk_iff, hl]
      exact ⟨fun h => ⟨by omega, by omega, hf, h⟩, fun h => h.2.2.2⟩
    · refine Ev.pos (by simpa using hf) ((Ev.pure _).eq (polyB_false fun h => hf (by have := h.fits; rwa [hl] at this)).symm)
  · refine Ev.neg hn ((Ev.pure _).eq (polyB_false fun h => hn (inB_iff.2 ?_)).symm)
    have := h.n3; have := h.n12; omega
end Go.Proofs.Ytpplohjbifieiaa.PE

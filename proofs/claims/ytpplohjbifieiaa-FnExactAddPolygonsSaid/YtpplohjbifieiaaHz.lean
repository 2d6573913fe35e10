/- Hulls: what program and reference tell of them. -/
import Derived.Test.YtpplohjbifieiaaHj
namespace Go.Proofs.Ytpplohjbifieiaa.PE
open Go.RowKit Go.Proofs.YtpplohjbifieiaaW.PrintWords Go.Proofs.YtpplohjbifieiaaW.PrintLast Go.Proofs.YtpplohjbifieiaaW.PrintMore
open Poly (Pt det sub)
open Hull Go.Sort Go.Lib

/-- what is told of the corners -/
noncomputable def told (V : List S40) : List S40 × Int := if (V.length : Int) < 3 then ([], 5) else if polyB (pts V) = true then (V, 0) else ([], 3)
theorem told_len (V : List S40) : (told V).1.length ≤ 12 := by
  unfold told
  split
  · simp
  · split
    · rename_i h
      have : PolyOk (pts V) := by
        rcases Classical.em (PolyOk (pts V)) with k | k
        · exact k
        · rw [polyB_false k] at h; cases h
      have := this.n12
      rwa [pts_len] at this
    · simp

/-- the sorted points, each once -/
def sorted (L : List S40) : List S40 := compact (L.mergeSort leP)
theorem sorted_mem (L : List S40) (x : S40) : x ∈ sorted L ↔ x ∈ L := by
  unfold sorted
  rw [mem_compact, List.mem_mergeSort]
theorem sorted_lt (L : List S40) : (sorted L).Pairwise (fun a b => lt (pt a) (pt b)) := strict_of _ (sorted_of L)
theorem sorted_len (L : List S40) : (sorted L).length ≤ L.length := by
  have : (compact (L.mergeSort leP)).length ≤ (L.mergeSort leP).length := by
    unfold compact compactUpTo
    rw [List.length_map]
    exact Nat.le_trans (List.length_filter_le _ _) (by simp)
  rwa [List.length_mergeSort] at this

theorem impl_hull_ev (L : List S40) (hn : L.length ≤ 100000) (hb : ∀ e ∈ L, Bd 1000000 (pt e)) : Ev (fun k => impl_hull.f k L) (told (corners (sorted L))) := by
  have hD : ∀ e ∈ sorted L, Bd 1000000 (pt e) := fun e he => hb e ((sorted_mem L e).mp he)
  have hl := sorted_len L
  have c1 : slices_Clone_impl_Point_impl_Point.f L = some L := by unfold slices_Clone_impl_Point_impl_Point.f; rw [if_pos (by omega)]
  have c2 : slices_SortFunc_impl_Point_impl_Point_at_impl_pointOrder.f L = some (L.mergeSort leP) := by unfold slices_SortFunc_impl_Point_impl_Point_at_impl_pointOrder.f; rw [if_pos (by omega)]
  have c3 : slices_Compact_impl_Point_impl_Point.f (L.mergeSort leP) = some (sorted L) := by
    unfold slices_Compact_impl_Point_impl_Point.f
    rw [if_pos (by rw [List.length_mergeSort]; omega)]
    rfl
  have c5 : slices_Reverse_impl_Point_impl_Point.f (sorted L) = some (sorted L).reverse := rfl
  have e4 := chain_ev (sorted L) hD (by omega)
  have e6 := chain_ev (sorted L).reverse (fun e he => hD e (List.mem_reverse.mp he)) (by rw [List.length_reverse]; omega)
  have l4 : (run [] (sorted L)).tail.reverse.length ≤ 100000 := by
    have := (run_len (sorted L) []).1
    simp at this ⊢
    omega
  have l6 : (run [] (sorted L).reverse).tail.reverse.length ≤ 100000 := by
    have := (run_len (sorted L).reverse []).1
    simp at this ⊢
    omega
  have e7 : Ev (fun k => slices_Concat_impl_Point_impl_Point.f k [(run [] (sorted L)).tail.reverse, (run [] (sorted L).reverse).tail.reverse]) (corners (sorted L)) := concatP_ev _ _ (show (run [] (sorted L)).tail.reverse.length + (run [] (sorted L).reverse).tail.reverse.length ≤ 1000000 by omega)
  unfold impl_hull.f
  refine Ev.bind0 c1 (Ev.bind0 c2 (Ev.bind0 c3 (Ev.bind e4 (Ev.bind0 c5 (Ev.bind e6 (Ev.bind e7 ?_))))))
  have hcl : (corners (sorted L)).length < 1000000000000 := by unfold corners; rw [List.length_append]; omega
  unfold told
  by_cases h3 : ((corners (sorted L)).length : Int) < 3
  · rw [if_pos h3]
    exact Ev.pos h3 (Ev.pure _)
  · rw [if_neg h3]
    refine Ev.neg h3 (Ev.bind (isP_ev _ hcl) ?_)
    by_cases hp : polyB (pts (corners (sorted L))) = true
    · rw [if_pos hp]
      exact Ev.of (fun k => by simp [hp])
    · rw [if_neg hp]
      exact Ev.of (fun k => by simp [hp])

theorem told_ev (L W : List S40) (h : Ev (fun k => spec_l09Hull.f k L) W) : Ev (fun k => spec_l09Told.f k L) (told W) := by
  unfold spec_l09Told.f told
  refine Ev.bind h ?_
  by_cases h3 : (W.length : Int) < 3
  · rw [if_pos h3]
    exact Ev.pos h3 (Ev.pure _)
  · rw [if_neg h3]
    refine Ev.neg h3 (Ev.bind (is_ev W) ?_)
    by_cases hp : polyB (pts W) = true
    · rw [if_pos hp]
      exact Ev.of (fun k => by simp [hp])
    · rw [if_neg hp]
      exact Ev.of (fun k => by simp [hp])

theorem spec_hull_ev (L : List S40) (hn : L.length ≤ 100000) (hb : ∀ e ∈ L, Bd 1000000 (pt e)) : Ev (fun k => spec_l09Told.f k L) (told (corners (sorted L))) := by
  have hmem := sorted_mem L
  have hlt := sorted_lt L
  have hlen := sorted_len L
  have hIn : In (sorted L) = In L := by
    funext p
    unfold In
    simp only [hmem]
  generalize sorted L = D at hmem hlt hlen hIn ⊢
  cases D with
  | nil =>
    have hL : L = [] := by
      cases L with
      | nil => rfl
      | cons a L => exact absurd ((hmem a).mpr List.mem_cons_self) (by simp)
    subst hL
    have : told (corners []) = told ([] : List S40) := rfl
    rw [this]
    refine told_ev _ _ ?_
    unfold spec_l09Hull.f
    exact Ev.pos rfl (Ev.pure _)
  | cons d D =>
    have hdL : d ∈ L := (hmem d).mp List.mem_cons_self
    have hpos : 0 < L.length := List.length_pos_of_mem hdL
    have hmin : ∀ e ∈ L, e = d ∨ lt (pt d) (pt e) := fun e he => by
      rcases List.mem_cons.mp ((hmem e).mpr he) with k | k
      · exact .inl k
      · exact .inr ((List.pairwise_cons.mp hlt).1 e k)
    have start : ∀ W, Ev (fun k => spec_l09Hull.l1 k L [d] d.f0 d.f1) W → Ev (fun k => spec_l09Hull.f k L) W := fun W h => by
      unfold spec_l09Hull.f
      refine Ev.neg (by omega) (Ev.pos (by omega) ?_)
      have hr : rd_T40 L 0 = L[0] := rdAt (i := 0) (List.getElem?_eq_getElem hpos)
      rw [hr]
      exact first_ev L hn d hdL hmin h L.length 0 L[0] (by omega) (List.getElem_mem _) (fun j hj h => by omega)
    have h1 : rd_T40 [d] (wrap64 ((([d] : List S40).length : Int) - 1)) = d := by
      rw [w64 (by simp) (by simp)]
      rfl
    cases D with
    | nil =>
      have hall : ∀ e ∈ L, e = d := fun e he => by simpa using (hmem e).mpr he
      have : told (corners [d]) = told [d] := by
        have e : corners [d] = [] := rfl
        rw [e]
        unfold told
        rw [if_pos (by simp), if_pos (by simp)]
      rw [this]
      refine told_ev _ _ (start _ ?_)
      refine Ev.step (fun k => by rw [spec_l09Hull.l1]) ?_
      rw [h1]
      refine Ev.pos (by rw [w64 (by simp) (by simp)]; simp) (Ev.pos (by rw [w64 (by simp) (by simp)]; simp) ?_)
      exact alone_ev L hn [d] d d hall L.length 0 ⟨0, 0⟩ (by omega)
    | cons d2 D =>
      obtain ⟨v, hv⟩ : ∃ v, (d :: d2 :: D).getLast? = some v := ⟨_, List.getLast?_eq_some_getLast (List.cons_ne_nil _ _)⟩
      have hvD : v ∈ d2 :: D := by
        rw [List.getLast?_cons_cons] at hv
        exact List.mem_of_getLast? hv
      have hne : d ≠ v := fun e => lt_irr (pt v) (by have := (List.pairwise_cons.mp hlt).1 v hvD; rwa [e] at this)
      obtain ⟨h0, c0, cm, cs, cn, cl, _⟩ := corners_ok (d :: d2 :: D) d v rfl hv hne hlt
      generalize corners (d :: d2 :: D) = V at h0 c0 cm cs cn cl ⊢
      rw [hIn] at cs
      refine told_ev _ _ (start _ ?_)
      have := around_ev L V hn hb (fun e he => (hmem e).mp (cm e he)) h0 (by omega) cs cn (V.length - 1) 0 (by omega)
      rw [List.take_add_one, List.getElem?_eq_getElem h0, c0] at this
      exact this

end Go.Proofs.Ytpplohjbifieiaa.PE

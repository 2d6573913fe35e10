/- The way around: what the reference's loop computes. -/
import Derived.Test.YtpplohjbifieiaaHv
namespace Go.Proofs.Ytpplohjbifieiaa.PE
open Go.RowKit Go.Proofs.YtpplohjbifieiaaW.PrintWords Go.Proofs.YtpplohjbifieiaaW.PrintLast Go.Proofs.YtpplohjbifieiaaW.PrintMore
open Poly (Pt det sub)
open Hull

theorem pt_inj {p q : S40} (h : pt p = pt q) : p = q := by
  cases p; cases q
  unfold pt at h
  simpa using h
theorem before_ev (p q : S40) : ∃ b, spec_l09Before.f p.f0 p.f1 q.f0 q.f1 = some b ∧ (b = true ↔ lt (pt p) (pt q)) := by
  unfold spec_l09Before.f lt pt
  simp only
  by_cases h : p.f0 < q.f0
  · exact ⟨true, by rw [if_pos h], by simp [h]⟩
  · by_cases h2 : p.f0 = q.f0
    · exact ⟨decide (p.f1 < q.f1), by rw [if_neg h, if_pos h2], by simp [h2]⟩
    · exact ⟨false, by rw [if_neg h, if_neg h2], by simp; omega⟩
theorem far_eq {p q : Pt} (hp : Bd 1000000 p) (hq : Bd 1000000 q) : spec_l09Far.f p.x p.y q.x q.y = some (far p q) := by
  obtain ⟨a0, a1, a2, a3⟩ := hp
  obtain ⟨b0, b1, b2, b3⟩ := hq
  have m : ∀ a b : Int, mx a b = max a b := fun a b => by unfold mx; split <;> omega
  unfold spec_l09Far.f far
  rw [w64 (x := q.x - p.x) (by omega) (by omega), w64 (x := q.y - p.y) (by omega) (by omega), w64 (x := -(q.x - p.x)) (by omega) (by omega), w64 (x := -(q.y - p.y)) (by omega) (by omega), m, m, w64 (by omega) (by omega)]

/-- the first of all points -/
theorem first_ev (L : List S40) (hn : L.length ≤ 100000) (v : S40) (hv : v ∈ L) (hmin : ∀ e ∈ L, e = v ∨ lt (pt v) (pt e)) {R : List S40} (h : Ev (fun k => spec_l09Hull.l1 k L [v] v.f0 v.f1) R) :
    ∀ d i (u : S40), i + d = L.length → u ∈ L → (∀ j (hj : j < L.length), j < i → L[j] = v → u = v) → Ev (fun k => spec_l09Hull.l0 k L (i : Int) u.f0 u.f1) R := by
  intro d
  induction d with
  | zero =>
    intro i u hi hu hs
    refine Ev.step (fun k => by rw [spec_l09Hull.l0]) (Ev.neg (by omega) ?_)
    obtain ⟨j, hj, e⟩ := List.getElem_of_mem hv
    have := hs j hj (by omega) e
    subst this
    exact h
  | succ d ih =>
    intro i u hi hu hs
    have hlt : i < L.length := by omega
    have hr : rd_T40 L (i : Int) = L[i] := rdAt (List.getElem?_eq_getElem hlt)
    refine Ev.step (fun k => by rw [spec_l09Hull.l0]) (Ev.pos (by omega) (Ev.pos (by omega) ?_))
    rw [hr]
    obtain ⟨b, hb, hb2⟩ := before_ev L[i] u
    refine Ev.bind0 hb ?_
    have hw : wrap64 ((i : Int) + 1) = ((i + 1 : Nat) : Int) := wnext i (by omega)
    by_cases hc : b = true
    · refine Ev.pos hc ?_
      rw [hw]
      refine ih (i + 1) L[i] (by omega) (List.getElem_mem hlt) (fun j hj hji he => ?_)
      by_cases e : j = i
      · subst e; exact he
      · have := hs j hj (by omega) he
        subst this
        have h1 := hb2.mp hc
        rcases hmin L[i] (List.getElem_mem hlt) with k | k
        · exact k
        · exact absurd h1 (fun k2 => lt_asym k k2)
    · refine Ev.neg hc ?_
      rw [hw]
      refine ih (i + 1) u (by omega) hu (fun j hj hji he => ?_)
      by_cases e : j = i
      · subst e
        rcases hmin u hu with k | k
        · exact k
        · exact absurd (hb2.mpr (by rw [he]; exact k)) hc
      · exact hs j hj (by omega) he

/-- the points -/
def In (L : List S40) (p : Pt) : Prop := ∃ e ∈ L, pt e = p

theorem eqb_true {p q : S40} : (p.f0 == q.f0 && (p.f1 == q.f1)) = true ↔ p = q := by
  cases p; cases q; simp

/-- the search for the next corner -/
theorem next_ev (L : List S40) (hn : L.length ≤ 100000) (hb : ∀ e ∈ L, Bd 1000000 (pt e)) (X : List S40) (v now t : S40) (hnow : now ∈ L) (ht : t ∈ L) (hs : Succ (In L) (pt now) (pt t)) {R : List S40}
    (h : Ev (fun k => spec_l09Hull.j4 k L X (t.f0 == v.f0 && (t.f1 == v.f1)) v.f0 v.f1 t.f0 t.f1) R) :
    ∀ d i (f : Bool) (u : S40), i + d = L.length → (f = true → u ∈ L ∧ u ≠ now) → (∀ j (hj : j < L.length), j < i → L[j] = t → f = true ∧ u = t) → (f = true → u = t → ∃ j, ∃ hj : j < L.length, j < i ∧ L[j] = t) →
      Ev (fun k => spec_l09Hull.l2 k L X f (i : Int) v.f0 v.f1 now.f0 now.f1 u.f0 u.f1) R := by
  have htn : t ≠ now := fun e => hs.ne (by rw [e])
  have bn := hb now hnow
  intro d
  induction d with
  | zero =>
    intro i f u hi hf hk hk2
    refine Ev.step (fun k => by rw [spec_l09Hull.l2]) (Ev.neg (by omega) ?_)
    obtain ⟨j, hj, e⟩ := List.getElem_of_mem ht
    obtain ⟨h1, h2⟩ := hk j hj (by omega) e
    subst h2
    exact Ev.pos h1 h
  | succ d ih =>
    intro i f u hi hf hk hk2
    have hlt : i < L.length := by omega
    have hr : rd_T40 L (i : Int) = L[i] := rdAt (List.getElem?_eq_getElem hlt)
    have hm := List.getElem_mem hlt
    have be := hb L[i] hm
    have hw : wrap64 ((i : Int) + 1) = ((i + 1 : Nat) : Int) := wnext i (by omega)
    refine Ev.step (fun k => by rw [spec_l09Hull.l2]) (Ev.pos (by omega) (Ev.pos (by omega) ?_))
    rw [hr, hw]
    by_cases hc : L[i] = now
    · refine Ev.pos (eqb_true.mpr hc) (ih (i + 1) f u (by omega) hf (fun j hj hji he => ?_) (fun h1 h2 => ?_))
      · by_cases e : j = i
        · subst e; exact absurd (he.symm.trans hc) htn
        · exact hk j hj (by omega) he
      · obtain ⟨j, hj, h3, h4⟩ := hk2 h1 h2
        exact ⟨j, hj, by omega, h4⟩
    · refine Ev.neg (fun k => hc (eqb_true.mp k)) ?_
      cases f with
      | false =>
        refine Ev.neg (by simp) (ih (i + 1) true L[i] (by omega) (fun _ => ⟨hm, hc⟩) (fun j hj hji he => ?_) (fun _ h2 => ⟨i, hlt, by omega, h2⟩))
        by_cases e : j = i
        · subst e; exact ⟨rfl, he⟩
        · have := (hk j hj (by omega) he).1
          cases this
      | true =>
        obtain ⟨hu, hun⟩ := hf rfl
        have bu := hb u hu
        have e1 : spec_l01Plus.f u.f0 u.f1 now.f0 now.f1 (-1) = some ((sub (pt u) (pt now)).x, (sub (pt u) (pt now)).y) := sub_pt (p := pt u) (q := pt now) (bu.mono (by omega)) (bn.mono (by omega))
        have e2 : spec_l01Plus.f L[i].f0 L[i].f1 now.f0 now.f1 (-1) = some ((sub (pt L[i]) (pt now)).x, (sub (pt L[i]) (pt now)).y) := sub_pt (p := pt L[i]) (q := pt now) (be.mono (by omega)) (bn.mono (by omega))
        have e3 := det_pt (p := sub (pt u) (pt now)) (q := sub (pt L[i]) (pt now)) ((bu.sub bn).mono (by omega)) ((be.sub bn).mono (by omega))
        refine Ev.pos rfl (Ev.bind0 e1 (Ev.bind0 e2 (Ev.bind0 e3 ?_)))
        -- what is kept either way
        have take : (L[i] = t ∨ u ≠ t) → Ev (fun k => spec_l09Hull.l2 k L X true ((i + 1 : Nat) : Int) v.f0 v.f1 now.f0 now.f1 L[i].f0 L[i].f1) R := fun hh => by
          refine ih (i + 1) true L[i] (by omega) (fun _ => ⟨hm, hc⟩) (fun j hj hji he => ⟨rfl, ?_⟩) (fun _ h2 => ⟨i, hlt, by omega, h2⟩)
          by_cases e : j = i
          · subst e; exact he
          · rcases hh with k | k
            · exact k
            · exact absurd (hk j hj (by omega) he).2 k
        have keep : (u = t ∨ L[i] ≠ t) → Ev (fun k => spec_l09Hull.l2 k L X true ((i + 1 : Nat) : Int) v.f0 v.f1 now.f0 now.f1 u.f0 u.f1) R := fun hh => by
          refine ih (i + 1) true u (by omega) (fun _ => ⟨hu, hun⟩) (fun j hj hji he => ⟨rfl, ?_⟩) (fun _ h2 => ?_)
          · by_cases e : j = i
            · subst e
              rcases hh with k | k
              · exact k
              · exact absurd he k
            · exact (hk j hj (by omega) he).2
          · obtain ⟨j, hj, h3, h4⟩ := hk2 rfl h2
            exact ⟨j, hj, by omega, h4⟩
        have jt : (L[i] = t ∨ u ≠ t) → Ev (fun k => spec_l09Hull.j3 k L X true (i : Int) true v.f0 v.f1 now.f0 now.f1 u.f0 u.f1) R := fun hh => by
          refine Ev.step (fun k => by rw [spec_l09Hull.j3]) (Ev.pos rfl (Ev.pos (by omega) (Ev.pos (by omega) ?_)))
          rw [hr, hw]
          exact take hh
        have jf : (u = t ∨ L[i] ≠ t) → Ev (fun k => spec_l09Hull.j3 k L X true (i : Int) false v.f0 v.f1 now.f0 now.f1 u.f0 u.f1) R := fun hh => by
          refine Ev.step (fun k => by rw [spec_l09Hull.j3]) (Ev.neg (by simp) ?_)
          rw [hw]
          exact keep hh
        -- what the best one says
        have hu_best : u = t → 0 ≤ det (sub (pt u) (pt now)) (sub (pt L[i]) (pt now)) ∧ (det (sub (pt u) (pt now)) (sub (pt L[i]) (pt now)) = 0 → far (pt now) (pt L[i]) ≤ far (pt now) (pt u)) := fun e => by
          subst e
          by_cases k : L[i] = u
          · rw [k, Poly.det_self]; exact ⟨Int.le_refl _, fun _ => Int.le_refl _⟩
          · rcases hs.best (pt L[i]) ⟨_, hm, rfl⟩ (fun e => hc (pt_inj e)) (fun e => k (pt_inj e)) with a | ⟨a, b⟩
            · exact ⟨by omega, fun z => by omega⟩
            · exact ⟨by omega, fun _ => by omega⟩
        have he_best : L[i] = t → u ≠ t → det (sub (pt u) (pt now)) (sub (pt L[i]) (pt now)) < 0 ∨ det (sub (pt u) (pt now)) (sub (pt L[i]) (pt now)) = 0 ∧ far (pt now) (pt u) < far (pt now) (pt L[i]) := fun e k => by
          rw [e]
          have sw := Poly.det_swap (sub (pt t) (pt now)) (sub (pt u) (pt now))
          rcases hs.best (pt u) ⟨_, hu, rfl⟩ (fun e => hun (pt_inj e)) (fun e => k (pt_inj e)) with a | ⟨a, b⟩
          · left; omega
          · right; exact ⟨by omega, b⟩
        by_cases h1 : det (sub (pt u) (pt now)) (sub (pt L[i]) (pt now)) < 0
        · refine Ev.pos h1 (jt ?_)
          right
          intro e
          have := (hu_best e).1
          omega
        · refine Ev.neg h1 ?_
          by_cases h2 : det (sub (pt u) (pt now)) (sub (pt L[i]) (pt now)) = 0
          · refine Ev.pos h2 (Ev.bind0 (far_eq bn be) (Ev.bind0 (far_eq bn bu) ?_))
            by_cases h3 : far (pt now) (pt L[i]) > far (pt now) (pt u)
            · rw [decide_eq_true h3]
              refine jt (.inr fun e => ?_)
              have := (hu_best e).2 h2
              omega
            · rw [decide_eq_false h3]
              refine jf ?_
              by_cases k : u = t
              · exact .inl k
              · right
                intro e
                rcases he_best e k with a | a <;> omega
          · refine Ev.neg h2 (jf ?_)
            by_cases k : u = t
            · exact .inl k
            · right
              intro e
              rcases he_best e k with a | a <;> omega

/-- nothing but one point -/
theorem alone_ev (L : List S40) (hn : L.length ≤ 100000) (X : List S40) (v now : S40) (hall : ∀ e ∈ L, e = now) :
    ∀ d i (u : S40), i + d = L.length → Ev (fun k => spec_l09Hull.l2 k L X false (i : Int) v.f0 v.f1 now.f0 now.f1 u.f0 u.f1) X := by
  intro d
  induction d with
  | zero =>
    intro i u hi
    refine Ev.step (fun k => by rw [spec_l09Hull.l2]) (Ev.neg (by omega) (Ev.neg (by simp) ?_))
    exact Ev.step (fun k => by rw [spec_l09Hull.j4]) (Ev.pos rfl (Ev.pure _))
  | succ d ih =>
    intro i u hi
    have hlt : i < L.length := by omega
    have hr : rd_T40 L (i : Int) = L[i] := rdAt (List.getElem?_eq_getElem hlt)
    have hw : wrap64 ((i : Int) + 1) = ((i + 1 : Nat) : Int) := wnext i (by omega)
    refine Ev.step (fun k => by rw [spec_l09Hull.l2]) (Ev.pos (by omega) (Ev.pos (by omega) ?_))
    rw [hr, hw]
    exact Ev.pos (eqb_true.mpr (hall _ (List.getElem_mem hlt))) (ih (i + 1) u (by omega))

/-- all around -/
theorem around_ev (L V : List S40) (hn : L.length ≤ 100000) (hb : ∀ e ∈ L, Bd 1000000 (pt e)) (hV : ∀ e ∈ V, e ∈ L) (h0 : 0 < V.length) (hl : V.length ≤ L.length)
    (hs : ∀ i (hi : i < V.length), Succ (In L) (pt V[i]) (pt (V[(i + 1) % V.length]'(Nat.mod_lt _ h0)))) (hne : ∀ i (hi : i < V.length), 0 < i → V[i] ≠ V[0]) :
    ∀ d i, i + 1 + d = V.length → Ev (fun k => spec_l09Hull.l1 k L (V.take (i + 1)) V[0].f0 V[0].f1) V := by
  intro d
  induction d with
  | zero =>
    intro i hi
    have hii : i < V.length := by omega
    have ht : V.take (i + 1) = V := List.take_of_length_le (by omega)
    rw [ht]
    have hg : rd_T40 V (wrap64 ((V.length : Int) - 1)) = V[i] := by
      rw [w64 (by omega) (by omega), show (V.length : Int) - 1 = (i : Int) by omega]
      exact rdAt (List.getElem?_eq_getElem hii)
    refine Ev.step (fun k => by rw [spec_l09Hull.l1]) ?_
    rw [hg, w64 (by omega) (by omega)]
    refine Ev.pos (by omega) (Ev.pos (by omega) ?_)
    have h1 := hs i hii
    have e : V[(i + 1) % V.length]'(Nat.mod_lt _ h0) = V[0] := by
      congr 1
      rw [show i + 1 = V.length by omega, Nat.mod_self]
    rw [e] at h1
    refine next_ev L hn hb V V[0] V[i] V[0] (hV _ (List.getElem_mem _)) (hV _ (List.getElem_mem _)) h1 ?_ L.length 0 false ⟨0, 0⟩ (by omega) (fun h => by cases h) (fun j hj h => by omega) (fun h => by cases h)
    refine Ev.step (fun k => by rw [spec_l09Hull.j4]) (Ev.pos (by simp) (Ev.pure _))
  | succ d ih =>
    intro i hi
    have hii : i < V.length := by omega
    have hi1 : i + 1 < V.length := by omega
    have hlen : (V.take (i + 1)).length = i + 1 := by rw [List.length_take]; omega
    have hg : rd_T40 (V.take (i + 1)) (wrap64 (((V.take (i + 1)).length : Int) - 1)) = V[i] := by
      rw [hlen, w64 (by omega) (by omega), show ((i + 1 : Nat) : Int) - 1 = (i : Int) by omega]
      refine rdAt ?_
      rw [List.getElem?_take, if_pos (by omega)]
      exact List.getElem?_eq_getElem hii
    refine Ev.step (fun k => by rw [spec_l09Hull.l1]) ?_
    rw [hg, hlen, w64 (by omega) (by omega)]
    refine Ev.pos (by omega) (Ev.pos (by omega) ?_)
    have h1 := hs i hii
    have e : V[(i + 1) % V.length]'(Nat.mod_lt _ h0) = V[i + 1] := by
      congr 1
      exact Nat.mod_eq_of_lt hi1
    rw [e] at h1
    refine next_ev L hn hb (V.take (i + 1)) V[0] V[i] V[i + 1] (hV _ (List.getElem_mem _)) (hV _ (List.getElem_mem _)) h1 ?_ L.length 0 false ⟨0, 0⟩ (by omega) (fun h => by cases h) (fun j hj h => by omega) (fun h => by cases h)
    have ha : V.take (i + 1) ++ [(⟨V[i + 1].f0, V[i + 1].f1⟩ : S40)] = V.take (i + 1 + 1) := by
      conv => rhs; rw [List.take_add_one, List.getElem?_eq_getElem hi1]
      rfl
    refine Ev.step (fun k => by rw [spec_l09Hull.j4]) (Ev.neg (fun k => hne (i + 1) hi1 (by omega) (eqb_true.mp k)) (Ev.pos (by omega) ?_))
    rw [ha]
    refine Ev.bind0 rfl (Ev.neg (by rw [List.length_take]; omega) (ih (i + 1) (by omega)))
end Go.Proofs.Ytpplohjbifieiaa.PE

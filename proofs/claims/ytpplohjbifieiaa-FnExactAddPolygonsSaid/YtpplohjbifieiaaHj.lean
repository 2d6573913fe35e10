/- Hulls: program and reference find the same. -/
import Derived.Test.YtpplohjbifieiaaHw
namespace Go.Proofs.Ytpplohjbifieiaa.PE
open Go.RowKit Go.Proofs.YtpplohjbifieiaaW.PrintWords Go.Proofs.YtpplohjbifieiaaW.PrintLast Go.Proofs.YtpplohjbifieiaaW.PrintMore
open Poly (Pt det sub)
open Hull Go.Sort Go.Lib

theorem growP_eq (n : Nat) (h : n ≤ 1000000) : slices_Grow_impl_Point_impl_Point_at_nil.f (n : Int) = some [] := by
  unfold slices_Grow_impl_Point_impl_Point_at_nil.f
  rw [if_pos (by omega)]
theorem concatP_ev (A B : List S40) (h : A.length + B.length ≤ 1000000) : Ev (fun k => slices_Concat_impl_Point_impl_Point.f k [A, B]) (A ++ B) := by
  unfold slices_Concat_impl_Point_impl_Point.f
  have r0 : rd_L3 [A, B] 0 = A := rfl
  have r1 : rd_L3 [A, B] 1 = B := rfl
  refine Ev.step (fun k => by rw [slices_Concat_impl_Point_impl_Point.l0]) (Ev.pos (by simp) (Ev.pos (by omega) (Ev.pos (by simp) ?_)))
  rw [r0, w64 (x := 0 + (A.length : Int)) (by omega) (by omega), w01]
  refine Ev.neg (by omega) ?_
  refine Ev.step (fun k => by rw [slices_Concat_impl_Point_impl_Point.l0]) (Ev.pos (by simp) (Ev.pos (by omega) (Ev.pos (by simp) ?_)))
  rw [r1, w64 (x := 0 + (A.length : Int) + (B.length : Int)) (by omega) (by omega), w11]
  refine Ev.neg (by omega) ?_
  refine Ev.step (fun k => by rw [slices_Concat_impl_Point_impl_Point.l0]) (Ev.neg (by simp) ?_)
  rw [show (0 : Int) + (A.length : Int) + (B.length : Int) = ((A.length + B.length : Nat) : Int) by omega, growP_eq _ h]
  refine Ev.bind0 rfl ?_
  refine Ev.step (fun k => by rw [slices_Concat_impl_Point_impl_Point.l1]) (Ev.pos (by simp) (Ev.pos (by omega) (Ev.pos (by simp) ?_)))
  rw [r0, w01, List.nil_append]
  refine Ev.pos (by simp; omega) ?_
  refine Ev.step (fun k => by rw [slices_Concat_impl_Point_impl_Point.l1]) (Ev.pos (by simp) (Ev.pos (by omega) (Ev.pos (by simp) ?_)))
  rw [r1, w11]
  refine Ev.pos (by omega) ?_
  exact Ev.step (fun k => by rw [slices_Concat_impl_Point_impl_Point.l1]) (Ev.neg (by simp) (Ev.pure _))
/-! ### The sorted list without doubles -/
theorem le_iff (x y : S40) : leP x y = true ↔ ¬ lt (pt y) (pt x) := by
  unfold leP lt pt
  rw [Bool.not_eq_true', cfP_ge]
theorem sorted_of (L : List S40) : (L.mergeSort leP).Pairwise (fun a b => ¬ lt (pt b) (pt a)) := by
  have h := List.pairwise_mergeSort (le := leP) (fun a b c h1 h2 => by rw [le_iff] at *; unfold lt at *; omega) (fun a b => by
    rw [Bool.or_eq_true, le_iff, le_iff]; unfold lt; omega) L
  exact h.imp (fun {a b} h => (le_iff a b).mp h)
theorem mem_upTo (d : Array S40) (m : Nat) : ∀ i, i < m → d[i]! ∈ compactUpTo d m := by
  intro i
  induction i with
  | zero => intro h; exact List.mem_map.mpr ⟨0, List.mem_filter.mpr ⟨List.mem_range.mpr h, by simp [keeps]⟩, rfl⟩
  | succ i ih =>
    intro h
    by_cases hk : d[i + 1]! = d[i]!
    · rw [hk]; exact ih (by omega)
    · exact List.mem_map.mpr ⟨i + 1, List.mem_filter.mpr ⟨List.mem_range.mpr h, by simp [keeps, hk]⟩, rfl⟩
theorem get_list (S : List S40) (i : Nat) (h : i < S.length) : S.toArray[i]! = S[i] := by
  rw [List.getElem!_toArray, getElem!_pos S i h]
theorem mem_compact (S : List S40) (x : S40) : x ∈ compact S ↔ x ∈ S := by
  constructor
  · intro h
    obtain ⟨i, hi, rfl⟩ := List.mem_map.mp h
    have hi' := List.mem_range.mp (List.mem_filter.mp hi).1
    show S.toArray[i]! ∈ S
    rw [get_list S i hi']
    exact List.getElem_mem _
  · intro h
    obtain ⟨i, hi, rfl⟩ := List.getElem_of_mem h
    have := mem_upTo S.toArray S.length i hi
    rwa [get_list S i hi] at this
theorem strict_of (S : List S40) (hS : S.Pairwise (fun a b => ¬ lt (pt b) (pt a))) : (compact S).Pairwise (fun a b => lt (pt a) (pt b)) := by
  unfold compact compactUpTo
  rw [List.pairwise_map]
  have hr : (List.range S.length).Pairwise (· < ·) := List.pairwise_lt_range
  refine ((hr.imp_of_mem (R := (· < ·)) (S := fun a b => b < S.length → keeps S.toArray b = true → lt (pt S.toArray[a]!) (pt S.toArray[b]!)) ?_).filter _).imp_of_mem ?_
  · intro a b ha hb hab hbl hk
    have h1 : b ≠ 0 := by omega
    have h2 : S.toArray[b]! ≠ S.toArray[b - 1]! := by simpa [keeps, h1] using hk
    rw [get_list S a (by omega)]
    rw [get_list S b hbl, get_list S (b - 1) (by omega)] at *
    have p := List.pairwise_iff_getElem.mp hS
    have q1 := p (b - 1) b (by omega) hbl (by omega)
    have q2 : lt (pt S[b - 1]) (pt S[b]) := by
      rcases lt_tri (pt S[b - 1]) (pt S[b]) with k | k | k
      · exact k
      · exact absurd (pt_inj k).symm h2
      · exact absurd k q1
    by_cases e : a = b - 1
    · subst e; exact q2
    · have q3 := p a (b - 1) (by omega) (by omega) (by omega)
      unfold lt at *
      omega
  · intro a b ha hb h
    have := List.mem_filter.mp hb
    exact h (List.mem_range.mp this.1) this.2

theorem bottom {Q : Pt → Prop} : ∀ (r : List Pt) (b : Pt), Ok Q r → r.getLast? = some b → ∀ q, Q q → ¬ lt q b
  | [], b, _, h => by simp at h
  | [a], b, h, e => by simp at e; subst e; exact h
  | b' :: a :: r, b, h, e => bottom (a :: r) b h.2.2.2 (by rw [List.getLast?_cons_cons] at e; exact e)
theorem len_le {α : Type} [DecidableEq α] : ∀ (V L : List α), V.Pairwise (· ≠ ·) → (∀ x ∈ V, x ∈ L) → V.length ≤ L.length
  | [], _, _, _ => Nat.zero_le _
  | x :: V, L, hp, hs => by
    obtain ⟨h1, h2⟩ := List.pairwise_cons.mp hp
    have hx := hs x List.mem_cons_self
    have := len_le V (L.erase x) h2 (fun y hy => (List.mem_erase_of_ne (fun e => h1 y hy e.symm)).mpr (hs y (List.mem_cons_of_mem _ hy)))
    rw [List.length_erase_of_mem hx] at this
    have := List.length_pos_of_mem hx
    simp only [List.length_cons]
    omega

/-- one side: the stack, told from its first one on -/
theorem side_ex (f : S40 → Pt) (hf : ∀ a b c, turnD (f a) (f b) (f c) = turnD (pt a) (pt b) (pt c)) (hi : ∀ a b, f a = f b → a = b) (D : List S40) (u v : S40) (hu : D.head? = some u) (hv : D.getLast? = some v) (huv : u ≠ v) (hp : D.Pairwise (fun a b => lt (f a) (f b))) :
    ∃ m, (run [] D).tail.reverse.length = m ∧ 0 < m ∧ ((run [] D).tail.reverse ++ [v])[0]? = some u ∧ (∀ e ∈ (run [] D).tail.reverse, e ∈ D) ∧
      ∀ i a b, ((run [] D).tail.reverse ++ [v])[i]? = some a → ((run [] D).tail.reverse ++ [v])[i + 1]? = some b → Hull.Edge (fun p => ∃ e ∈ D, f e = p) (f a) (f b) ∧ lt (f a) (f b) := by
  have h0 : D ≠ [] := fun e => by rw [e] at hu; simp at hu
  obtain ⟨s, X, er, ho, hm, hl⟩ := run_all f hf D h0 hp
  rw [hv] at hl
  injection hl with hl
  subst hl
  rw [er, List.tail_cons]
  have hmem : ∀ e ∈ v :: X, e ∈ D := fun e he => by
    obtain ⟨e', h1, h2⟩ := hm e he
    rw [← hi _ _ h2]; exact h1
  -- the bottom
  obtain ⟨bt, hb⟩ : ∃ bt, (v :: X).getLast? = some bt := ⟨_, List.getLast?_eq_some_getLast (List.cons_ne_nil _ _)⟩
  have hbD : bt ∈ D := hmem bt (List.mem_of_getLast? hb)
  have hbm := bottom _ (f bt) ho (by rw [List.getLast?_map, hb]; rfl)
  have hbu : bt = u := by
    cases D with
    | nil => simp at hu
    | cons d D =>
      simp at hu
      subst hu
      rcases List.mem_cons.mp hbD with k | k
      · exact k
      · exact absurd ((List.pairwise_cons.mp hp).1 bt k) (hbm (f d) ⟨d, List.mem_cons_self, rfl⟩)
  subst hbu
  have erev : X.reverse ++ [v] = (v :: X).reverse := by simp
  have hX : X ≠ [] := fun e => by
    subst e
    simp at hb
    exact huv hb.symm
  refine ⟨X.length, by simp, List.length_pos_iff.mpr hX, ?_, fun e he => hmem e (List.mem_cons_of_mem _ (List.mem_reverse.mp he)), fun i a b ha hb2 => ?_⟩
  · rw [erev, ← List.head?_eq_getElem?, List.head?_reverse, hb]
  · rw [erev] at ha hb2
    have hib : i + 1 < (v :: X).length := by
      obtain ⟨h, _⟩ := List.getElem?_eq_some_iff.mp hb2
      simpa using h
    rw [List.getElem?_reverse (by omega)] at ha hb2
    have e1 : (v :: X).length - 1 - (i + 1) + 1 = (v :: X).length - 1 - i := by omega
    refine Ok.edges _ ho ((v :: X).length - 1 - (i + 1)) (f a) (f b) ?_ ?_
    · rw [List.getElem?_map, hb2]; rfl
    · rw [e1, List.getElem?_map, ha]; rfl

/-- the corners that the program finds -/
def corners (D : List S40) : List S40 := (run [] D).tail.reverse ++ (run [] D.reverse).tail.reverse
theorem corners_ok (D : List S40) (u v : S40) (hu : D.head? = some u) (hv : D.getLast? = some v) (huv : u ≠ v) (hp : D.Pairwise (fun a b => lt (pt a) (pt b))) :
    ∃ h0 : 0 < (corners D).length, (corners D)[0] = u ∧ (∀ e ∈ corners D, e ∈ D) ∧ (∀ i (hi : i < (corners D).length), Succ (In D) (pt (corners D)[i]) (pt ((corners D)[(i + 1) % (corners D).length]'(Nat.mod_lt _ h0)))) ∧ (∀ i (hi : i < (corners D).length), 0 < i → (corners D)[i] ≠ (corners D)[0]) ∧ (corners D).length ≤ D.length ∧ (corners D).Pairwise (· ≠ ·) := by
  obtain ⟨m, hm, hm0, hR0, hRm, hRe⟩ := side_ex pt (fun _ _ _ => rfl) (fun _ _ h => pt_inj h) D u v hu hv huv hp
  obtain ⟨n, hn, hn0, hU0, hUm, hUe⟩ := side_ex (fun e => ng (pt e)) (fun a b c => turn_ng _ _ _) (fun a b h => pt_inj (by rw [← ng_ng (pt a), h, ng_ng])) D.reverse v u (by rw [List.head?_reverse]; exact hv) (by rw [List.getLast?_reverse]; exact hu) (fun e => huv e.symm) (by
    rw [List.pairwise_reverse]
    exact hp.imp (fun {a b} h => lt_ng.mpr h))
  unfold corners
  generalize (run [] D).tail.reverse = A at hm hR0 hRm hRe ⊢
  generalize (run [] D.reverse).tail.reverse = B at hn hU0 hUm hUe ⊢
  have hlen : (A ++ B).length = m + n := by rw [List.length_append, hm, hn]
  have h0 : 0 < (A ++ B).length := by omega
  have hQ : (fun p => ∃ e ∈ D.reverse, ng (pt e) = p) = (fun p => In D (ng p)) := by
    funext p
    simp only [List.mem_reverse, eq_iff_iff, In]
    constructor
    · rintro ⟨e, h1, h2⟩
      exact ⟨e, h1, by rw [← h2, ng_ng]⟩
    · rintro ⟨e, h1, h2⟩
      exact ⟨e, h1, by rw [h2, ng_ng]⟩
  rw [hQ] at hUe
  have hB0 : B[0]? = some v := by
    rw [List.getElem?_append_left (by omega)] at hU0
    exact hU0
  have hA0 : A[0]? = some u := by
    rw [List.getElem?_append_left (by omega)] at hR0
    exact hR0
  have gA : ∀ i, i ≤ m → (A ++ B)[i]? = (A ++ [v])[i]? := fun i hi => by
    rcases Nat.lt_or_ge i m with h | h
    · rw [List.getElem?_append_left (by omega), List.getElem?_append_left (by omega)]
    · have : i = m := by omega
      subst this
      rw [List.getElem?_append_right (by omega), List.getElem?_append_right (by omega), hm, Nat.sub_self, hB0]
      rfl
  have gB : ∀ j, j < n → (A ++ B)[m + j]? = (B ++ [u])[j]? := fun j hj => by
    rw [List.getElem?_append_right (by omega), hm, Nat.add_sub_cancel_left, List.getElem?_append_left (by omega)]
  have hu0 : (A ++ B)[0] = u := by
    have := gA 0 (by omega)
    rw [hR0, List.getElem?_eq_getElem h0] at this
    injection this
  have hmem : ∀ e ∈ A ++ B, e ∈ D := fun e he => by
    rcases List.mem_append.mp he with k | k
    · exact hRm e k
    · exact List.mem_reverse.mp (hUm e k)
  have hmin : ∀ e ∈ D, ¬ lt (pt e) (pt u) := by
    cases D with
    | nil => simp at hu
    | cons d D =>
      simp at hu
      subst hu
      intro e he
      rcases List.mem_cons.mp he with k | k
      · rw [k]; exact lt_irr _
      · exact fun h => lt_asym h ((List.pairwise_cons.mp hp).1 e k)
  -- the way on
  have hs : ∀ i (hi : i < (A ++ B).length), Succ (In D) (pt (A ++ B)[i]) (pt ((A ++ B)[(i + 1) % (A ++ B).length]'(Nat.mod_lt _ h0))) := fun i hi => by
    rcases Nat.lt_or_ge i m with h | h
    · have e1 := gA i (by omega)
      have e2 := gA (i + 1) (by omega)
      rw [List.getElem?_eq_getElem hi] at e1
      rw [List.getElem?_eq_getElem (by omega)] at e2
      have e3 : (A ++ B)[(i + 1) % (A ++ B).length]'(Nat.mod_lt _ h0) = (A ++ B)[i + 1]'(by omega) := by
        congr 1
        exact Nat.mod_eq_of_lt (by omega)
      rw [e3]
      obtain ⟨h1, h2⟩ := hRe i _ _ e1.symm e2.symm
      exact h1.succ ⟨_, hmem _ (List.getElem_mem _), rfl⟩ h2
    · obtain ⟨j, rfl⟩ : ∃ j, i = m + j := ⟨i - m, by omega⟩
      have hj : j < n := by omega
      have e1 := gB j hj
      rw [List.getElem?_eq_getElem hi] at e1
      have e2 : (B ++ [u])[j + 1]? = some ((A ++ B)[(m + j + 1) % (A ++ B).length]'(Nat.mod_lt _ h0)) := by
        rcases Nat.lt_or_ge (j + 1) n with k | k
        · rw [← gB (j + 1) k]
          have : (m + j + 1) % (A ++ B).length = m + (j + 1) := Nat.mod_eq_of_lt (by omega)
          rw [← this]
          exact List.getElem?_eq_getElem _
        · have : (m + j + 1) % (A ++ B).length = 0 := by rw [hlen, show m + j + 1 = m + n by omega, Nat.mod_self]
          rw [List.getElem?_append_right (by omega), show j + 1 - B.length = 0 by omega]
          have e3 : (A ++ B)[(m + j + 1) % (A ++ B).length]'(Nat.mod_lt _ h0) = (A ++ B)[0] := by congr 1
          rw [e3, hu0]
          rfl
      obtain ⟨h1, h2⟩ := hUe j _ _ e1.symm e2
      refine Succ.ng (h1.succ ?_ h2)
      rw [ng_ng]
      exact ⟨_, hmem _ (List.getElem_mem _), rfl⟩
  have hne : ∀ i (hi : i < (A ++ B).length), 0 < i → (A ++ B)[i] ≠ (A ++ B)[0] := fun i hi h0i he => by
    rw [hu0] at he
    rcases Nat.lt_or_ge m i with h | h
    · obtain ⟨j, rfl⟩ : ∃ j, i = m + j := ⟨i - m, by omega⟩
      have hj : j < n := by omega
      have e1 := gB j hj
      rw [List.getElem?_eq_getElem hi, he] at e1
      obtain ⟨b, hb⟩ : ∃ b, (B ++ [u])[j + 1]? = some b := ⟨_, List.getElem?_eq_getElem (by simp; omega)⟩
      have h2 := (hUe j _ _ e1.symm hb).2
      have hbD : b ∈ D := by
        rcases List.mem_append.mp (List.mem_of_getElem? hb) with k | k
        · exact List.mem_reverse.mp (hUm b k)
        · simp at k; subst k; exact List.mem_of_mem_head? hu
      exact hmin b hbD (lt_ng.mp h2)
    · obtain ⟨i', rfl⟩ : ∃ i', i = i' + 1 := ⟨i - 1, by omega⟩
      have e1 := gA (i' + 1) h
      have e0 := gA i' (by omega)
      rw [List.getElem?_eq_getElem hi, he] at e1
      rw [List.getElem?_eq_getElem (by omega)] at e0
      have h2 := (hRe i' _ _ e0.symm e1.symm).2
      exact hmin _ (hmem _ (List.getElem_mem _)) h2
  suffices hnd : (A ++ B).Pairwise (· ≠ ·) from ⟨h0, hu0, hmem, hs, hne, len_le _ _ hnd hmem, hnd⟩
  refine List.pairwise_iff_getElem.mpr fun i j hi hj hij he => ?_
  have step : ∀ t, (A ++ B)[(i + t) % (A ++ B).length]'(Nat.mod_lt _ h0) = (A ++ B)[(j + t) % (A ++ B).length]'(Nat.mod_lt _ h0) := fun t => by
    induction t with
    | zero =>
      have e1 : (A ++ B)[(i + 0) % (A ++ B).length]'(Nat.mod_lt _ h0) = (A ++ B)[i] := by congr 1; exact Nat.mod_eq_of_lt hi
      have e2 : (A ++ B)[(j + 0) % (A ++ B).length]'(Nat.mod_lt _ h0) = (A ++ B)[j] := by congr 1; exact Nat.mod_eq_of_lt hj
      rw [e1, e2, he]
    | succ t ih =>
      have a1 := hs _ (Nat.mod_lt (i + t) h0)
      have a2 := hs _ (Nat.mod_lt (j + t) h0)
      rw [ih] at a1
      have e1 : (A ++ B)[((i + t) % (A ++ B).length + 1) % (A ++ B).length]'(Nat.mod_lt _ h0) = (A ++ B)[(i + (t + 1)) % (A ++ B).length]'(Nat.mod_lt _ h0) := by congr 1; rw [Nat.mod_add_mod]; rfl
      have e2 : (A ++ B)[((j + t) % (A ++ B).length + 1) % (A ++ B).length]'(Nat.mod_lt _ h0) = (A ++ B)[(j + (t + 1)) % (A ++ B).length]'(Nat.mod_lt _ h0) := by congr 1; rw [Nat.mod_add_mod]; rfl
      rw [← e1, ← e2]
      exact pt_inj (a1.uniq a2)
  have hfin := step ((A ++ B).length - j)
  have e1 : (i + ((A ++ B).length - j)) % (A ++ B).length = i + ((A ++ B).length - j) := Nat.mod_eq_of_lt (by omega)
  have e2 : (j + ((A ++ B).length - j)) % (A ++ B).length = 0 := by rw [show j + ((A ++ B).length - j) = (A ++ B).length by omega, Nat.mod_self]
  have f1 : (A ++ B)[(i + ((A ++ B).length - j)) % (A ++ B).length]'(Nat.mod_lt _ h0) = (A ++ B)[i + ((A ++ B).length - j)]'(by omega) := by congr 1
  have f2 : (A ++ B)[(j + ((A ++ B).length - j)) % (A ++ B).length]'(Nat.mod_lt _ h0) = (A ++ B)[0] := by congr 1
  rw [f1, f2] at hfin
  exact hne _ (by omega) (by omega) hfin
end Go.Proofs.Ytpplohjbifieiaa.PE

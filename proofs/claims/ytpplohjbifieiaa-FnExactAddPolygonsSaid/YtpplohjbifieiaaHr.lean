/- Reversing points in place, and cloning them: by the shelf's contracts. -/
import Derived.Test.YtpplohjbifieiaaHb
import Derived.Test.YtpplohjbifieiaaSh
import Derived.Shelf.SlicesQ.Reverse
import Derived.Shelf.SlicesE.Clone
namespace Go.Proofs.Ytpplohjbifieiaa.PE
open Go.RowKit Go.Proofs.YtpplohjbifieiaaW.PrintWords Go.Proofs.YtpplohjbifieiaaW.PrintLast Go.Proofs.YtpplohjbifieiaaW.PrintMore
open Go.Sort

def slices_Reverse_impl_Point_impl_Point.f (l0 : List S40) : Option (List S40) := some l0.reverse
theorem slices_Reverse_impl_Point_impl_Point.calls (P0_ : Nat → Prop) (u9000_ : Value) (l0 r : List S40) (w0 w : World) (hB : Below w0.heap.size w0 w) (ho0 : Kd.R k40 40 w w0.heap.size P0_ u9000_ l0)
    (h : slices_Reverse_impl_Point_impl_Point.f l0 = some r) :
    Calls Try.prog 76 #[u9000_] w fun e w' => e = .returned (.tuple #[]) ∧ Kd.R k40 40 w' w0.heap.size (fun k_ => (P0_ k_ ∨ w.heap.size ≤ k_)) u9000_ r ∧ Below w0.heap.size w0 w' ∧ Kept w w' (fun k_ => P0_ k_) := by
  obtain rfl : l0.reverse = r := by unfold slices_Reverse_impl_Point_impl_Point.f at h; injection h
  obtain ⟨A, c, rfl, hn, hC⟩ := Kd.R_reads ho0
  rcases hA : A with _ | ⟨g, off, spot⟩
  · subst hA
    obtain ⟨_, ho⟩ := R_open ho0
    obtain ⟨_, ho⟩ := ho
    rcases ho with ⟨hv, hz⟩ | ⟨g', cap, cur, hv, _⟩
    · obtain rfl := List.length_eq_zero_iff.mp hz
      have hS := AnyQ.slices_Reverse_empty (P := Try.prog) Try.revPt none c w
      refine hS.mono ?_
      rintro e w' ⟨rfl, rfl⟩
      exact ⟨rfl, Kd.R_mono ho0 (fun _ h => .inl h), hB, Kept.refl _ _⟩
    · cases hv
  · subst hA
    obtain ⟨_, ho⟩ := R_open ho0
    obtain ⟨rfl, rfl⟩ : off = 0 ∧ spot = none := by
      obtain ⟨_, ho⟩ := ho
      rcases ho with ⟨hv, hz⟩ | ⟨g', cap, cur, hv, _⟩
      · cases hv
      · injection hv with h1; injection h1 with h1; injection h1 with h1 h2 h3; exact ⟨h2, h3⟩
    obtain ⟨hH, hg, _, _, _⟩ := own_holds ho
    have hS := AnyQ.slices_Reverse (P := Try.prog) Try.revPt 2 Try.isAgg40 Try.sizeOf40 pe pe_len pe_one g 0 c l0.toArray w hH (by have := Kd.C_max hC; simpa using this)
    refine hS.mono ?_
    rintro e w' ⟨rfl, q, hw⟩
    exact ⟨rfl, row_done (q := q) (os := #[]) hB ho0 (by simp) (by rw [hw, grow_empty]; simp)⟩

theorem C_cells {w : World} {ad : Addr} {n : Nat} {l : List S40} (h : Kd.C k40 w (some ad) n l) : ∀ j u, (pcl l)[j]? = some u → w.cell? (ad.add j) = some u := by
  intro j u hj
  have hlt : j < l.length * 2 := by
    obtain ⟨h, _⟩ := List.getElem?_eq_some_iff.mp hj
    rwa [pcl_length] at h
  have hp : j / 2 < l.length := by omega
  obtain ⟨hl, _, h⟩ := h
  obtain ⟨ad', e, hc⟩ := h (by omega)
  injection e with e
  subst e
  obtain ⟨c, _, hk, hc⟩ := hc (j / 2) l[j / 2] (List.getElem?_eq_getElem hp)
  have hk := k40_open hk
  have := hc (j % 2) u (by rw [hk, ← hj, pcl_get l j hlt, getElem!_pos l (j / 2) hp]; rfl)
  rwa [show j / 2 * k40.sz + j % 2 = j from by show j / 2 * 2 + j % 2 = j; omega] at this
theorem pcl_one (l : List S40) : ∀ u ∈ pcl l, u.oneCell' = true := by
  intro u hu
  obtain ⟨x, _, hx⟩ := List.mem_flatMap.mp hu
  exact pe_one x u hx

def slices_Clone_impl_Point_impl_Point.f (l0 : List S40) : Option (List S40) := if l0.length ≤ 1000000 then some l0 else none
theorem slices_Clone_impl_Point_impl_Point.calls (A0 : Option Addr) (c0 : Nat) (l0 r : List S40) (w : World) (hr0 : Kd.C k40 w A0 l0.length l0) (hc0 : l0.length ≤ c0)
    (h : slices_Clone_impl_Point_impl_Point.f l0 = some r) :
    Calls Try.prog 72 #[.slice A0 l0.length c0] w fun e w' => ∃ v0_ : Value, e = .returned (v0_) ∧ Kd.R k40 40 w' w.heap.size (fun _ => True) v0_ r ∧ Below w.heap.size w w' := by
  unfold slices_Clone_impl_Point_impl_Point.f at h
  split at h
  · rename_i hm
    obtain rfl : l0 = r := by injection h
    rcases hA : A0 with _ | ⟨g, off, spot⟩
    · subst hA
      refine (AnyE.slices_Clone_nil (P := Try.prog) Try.clonePt l0.length c0 w).mono ?_
      rintro e w' ⟨rfl, rfl⟩
      have hz : l0 = [] := by
        rcases Nat.eq_zero_or_pos l0.length with h | h
        · exact List.length_eq_zero_iff.mp h
        · obtain ⟨ad, e, _⟩ := hr0.2.2 h
          cases e
      subst hz
      exact ⟨_, rfl, Kd.R_nil _ _ _ _ _, Below.refl _ _⟩
    · subst hA
      obtain ⟨i0, hi, hz0, hz1, hz2⟩ := info_parts info40
      have hcell := Lib.hid (C_cells hr0)
      have hlen := pcl_length l0
      have hone := pcl_one l0
      have q22 : ∀ (w : World) (a : Option Addr) (n c n' c' : Nat), (binOp .eql 24 (.slice a n c) (.slice none n' c')).run Try.prog w = .ok (.bool a.isNone) w := fun w a n c n' c' => Lib.run_eql_slice_nil w _ _ a n c n' c' Try.underlying24
      clear hr0
      generalize hL : pcl l0 = L at hcell hlen hone
      go_enter Try.func72, Try.ntmps72
      go_wp2_with (at_builtin; refine wpList_append_own _ rfl _ _ 24 rfl w.heap.size 40 i0 _ 2 16 Try.underlying24 hi hz0 hz1 hz2 rfl (by decide) _ _ _ rfl (World.ownsRow_made w #[] 0 (Nat.le_refl _) (Nat.zero_le _) (by simp)) ⟨g, off, spot⟩ l0.length c0 L rfl ?qc1 ?qc2 ?qc3 ?qc4 ?qc5 ?qc6 ?_)
      case qc2 =>
        intro j u hj
        exact Lib.cell?_alloc_some _ (hcell.out j u hj)
      case qc3 => exact hone
      case qc4 => simp only [maxLen]; omega
      case qc5 => omega
      try (case qc6 => simp)
      intro v' w1 hown hgrow hnil
      go_wp2
      go_ret
      refine ⟨v', rfl, R_shut (fun _ _ => trivial) (by rw [hL]; simpa using hown), ?_⟩
      exact ((Below.refl _ w).alloc (Nat.le_refl _) _).grown hgrow (by simp) (by intro k hk; simp [Value.ownBlock] at hk; omega)
  · cases h
end Go.Proofs.Ytpplohjbifieiaa.PE

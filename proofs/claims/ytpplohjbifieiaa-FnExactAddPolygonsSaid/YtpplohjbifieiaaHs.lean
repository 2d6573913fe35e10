/- slices.SortFunc of points in their order: by the shelf's contract. -/
import Derived.Test.YtpplohjbifieiaaHb
import Derived.Test.YtpplohjbifieiaaHo
import Derived.Test.YtpplohjbifieiaaEv
import Derived.Test.YtpplohjbifieiaaSh
import Derived.Shelf.SlSortCmp.NoneTotal
namespace Go.Proofs.Ytpplohjbifieiaa.PE
open Go.RowKit Go.Proofs.YtpplohjbifieiaaW.PrintWords Go.Proofs.YtpplohjbifieiaaW.PrintLast Go.Proofs.YtpplohjbifieiaaW.PrintMore
open Go.Sort

theorem cmpS_eq (a b : Int) : cmp_Compare_int64.f a b = some (if a < b then -1 else if b < a then 1 else 0) := by
  have h : ∀ x : Int, cmp_isNaN_int64.f x = some false := fun x => by unfold cmp_isNaN_int64.f; simp
  unfold cmp_Compare_int64.f
  rw [h, h]
  simp only [Option.bind_some]
  by_cases h1 : a < b
  · simp [h1]
  · by_cases h2 : b < a
    · simp [h1, h2]
    · simp [h1, h2]
theorem or2S_ev (x y : Int) : Ev (fun k => cmp_Or_int.f k [x, y]) (if x = 0 then y else x) := by
  unfold cmp_Or_int.f
  refine Ev.step (fun k => by rw [cmp_Or_int.l0]) (Ev.pos (by simp) (Ev.pos (by omega) (Ev.pos (by simp) ?_)))
  rw [show rd [x, y] 0 = x from rfl]
  by_cases hx : x = 0
  · refine Ev.pos hx ?_
    rw [w01]
    refine Ev.step (fun k => by rw [cmp_Or_int.l0]) (Ev.pos (by simp) (Ev.pos (by omega) (Ev.pos (by simp) ?_)))
    rw [show rd [x, y] 1 = y from rfl, if_pos hx]
    by_cases hy : y = 0
    · refine Ev.pos hy ?_
      rw [w11]
      exact Ev.step (fun k => by rw [cmp_Or_int.l0]) (Ev.neg (by simp) ((Ev.pure _).eq hy.symm))
    · exact Ev.neg hy (Ev.pure _)
  · rw [if_neg hx]
    exact Ev.neg hx (Ev.pure _)

/-- how two points compare -/
def cfP (x y : S40) : Int := if x.f0 < y.f0 then -1 else if y.f0 < x.f0 then 1 else if x.f1 < y.f1 then -1 else if y.f1 < x.f1 then 1 else 0
theorem cfP_ev (x y : S40) : Ev (fun k => pointOrder_f k x.f0 x.f1 y.f0 y.f1) (cfP x y) := by
  unfold pointOrder_f
  refine Ev.bind0 (cmpS_eq _ _) (Ev.bind0 (cmpS_eq _ _) (Ev.bind (or2S_ev _ _) (Ev.eq (Ev.pure _) ?_)))
  unfold cfP
  split <;> split <;> simp_all <;> omega
theorem cfP_lt (x y : S40) : ltOf cfP x y = true ↔ (x.f0 < y.f0 ∨ x.f0 = y.f0 ∧ x.f1 < y.f1) := by
  unfold ltOf cfP
  rw [decide_eq_true_iff]
  constructor
  · intro h
    repeat' split at h
    all_goals omega
  · intro h
    repeat' split
    all_goals omega
theorem cfP_ge (x y : S40) : ltOf cfP x y = false ↔ ¬ (x.f0 < y.f0 ∨ x.f0 = y.f0 ∧ x.f1 < y.f1) := by
  rw [← cfP_lt]; simp
theorem swoP : SWO (ltOf cfP) where
  irrefl x := by rw [cfP_ge]; omega
  trans x y z h1 h2 := by rw [cfP_lt] at *; omega
  ntrans x y z h1 h2 := by rw [cfP_ge] at *; omega
theorem totP (x y : S40) (h1 : ltOf cfP x y = false) (h2 : ltOf cfP y x = false) : x = y := by
  rw [cfP_ge] at *
  cases x; cases y
  simp only [S40.mk.injEq] at *
  omega
/-- the order of points, as a test -/
def leP (x y : S40) : Bool := !(ltOf cfP) y x

theorem cmpLays (blk off size : Nat) (w : World) : CmpLays Try.prog 63 #[] pe 2 cfP blk off size w := by
  intro m os dk _ x y
  obtain ⟨k, hk⟩ := Ev.get (cfP_ev x y)
  exact pointOrder_g.calls k x.f0 x.f1 y.f0 y.f1 (cfP x y) _ hk

def slices_SortFunc_impl_Point_impl_Point_at_impl_pointOrder.f (l0 : List S40) : Option (List S40) := if l0.length ≤ 1000000 then some (l0.mergeSort leP) else none
theorem slices_SortFunc_impl_Point_impl_Point_at_impl_pointOrder.calls (P0_ : Nat → Prop) (u9000_ : Value) (l0 r : List S40) (w0 w : World) (hB : Below w0.heap.size w0 w) (ho0 : Kd.R k40 40 w w0.heap.size P0_ u9000_ l0)
    (h : slices_SortFunc_impl_Point_impl_Point_at_impl_pointOrder.f l0 = some r) :
    Calls Try.prog 73 #[u9000_, .func (.func 63) #[] #[]] w fun e w' => e = .returned (.tuple #[]) ∧ Kd.R k40 40 w' w0.heap.size (fun k_ => (P0_ k_ ∨ w.heap.size ≤ k_)) u9000_ r ∧ Below w0.heap.size w0 w' ∧ Kept w w' (fun k_ => P0_ k_) := by
  unfold slices_SortFunc_impl_Point_impl_Point_at_impl_pointOrder.f at h
  split at h
  case isFalse => cases h
  rename_i hm
  obtain rfl : l0.mergeSort leP = r := by injection h
  obtain ⟨A, c, rfl, hn, hC⟩ := Kd.R_reads ho0
  rcases hA : A with _ | ⟨g, off, spot⟩
  · subst hA
    obtain ⟨_, ho⟩ := R_open ho0
    obtain ⟨_, ho⟩ := ho
    rcases ho with ⟨hv, hz⟩ | ⟨g', cap, cur, hv, _⟩
    · obtain rfl := List.length_eq_zero_iff.mp hz
      have hS := AnyF.slices_SortFunc_none (P := Try.prog) Try.sortPt none c (.func (.func 63) #[] #[]) w
      refine hS.mono ?_
      rintro e w' ⟨rfl, rfl⟩
      exact ⟨rfl, by simpa using Kd.R_mono ho0 (fun _ h => .inl h), hB, Kept.refl _ _⟩
    · cases hv
  · subst hA
    obtain ⟨_, ho⟩ := R_open ho0
    obtain ⟨rfl, rfl⟩ : off = 0 ∧ spot = none := by
      obtain ⟨_, ho⟩ := ho
      rcases ho with ⟨hv, hz⟩ | ⟨g', cap, cur, hv, _⟩
      · cases hv
      · injection hv with h1; injection h1 with h1; injection h1 with h1 h2 h3; exact ⟨h2, h3⟩
    obtain ⟨hH, hg, _, _, _⟩ := own_holds ho
    have eg : ∀ args w, (callFunc 63 args).run Try.prog w = .ok (.enter 63 args) w := enters_of Try.func63 (by kernel_rfl) rfl
    have hS := AnyQ.slices_SortFunc_total (P := Try.prog) Try.sortPt 2 Try.isAgg40 Try.sizeOf40 pe pe_len pe_one cfP swoP 63 #[] g 0 c l0.toArray w eg (cmpLays _ _ _ _) hH hg (by simp; omega) totP
    refine hS.mono ?_
    rintro e w' ⟨rfl, q, os, hw⟩
    exact ⟨rfl, row_done (q := q) (os := os) hB ho0 (List.length_mergeSort _) (by rw [hw]; rfl)⟩
end Go.Proofs.Ytpplohjbifieiaa.PE

/- FnExactAddPolygons: for every two lists of pairs of whole numbers the program's AddPolygons returns the list and the code that the reference's returns, leaves its arguments as they were, and returns memory of its own at each call. No condition. -/
import Derived.Test.YtpplohjbifieiaaRows
import Derived.Test.YtpplohjbifieiaaHa
import Derived.Test.YtpplohjbifieiaaRw
import Derived.WalkKit
import Derived.ProofKit
import Derived.OpenShut
import Derived.ShutString
import Derived.ChangeOld
import Derived.Below
import Derived.SizedLaws
namespace Go.Proofs.Ytpplohjbifieiaa.fnExactAddPolygons
open Go.ChangeShapes Go.WideShapes Go.ChangeAt Go.RowKit
open Go.Proofs.Ytpplohjbifieiaa.PE Go.Proofs.YtpplohjbifieiaaW.PrintWords
set_option linter.unusedVariables false
theorem own : ownKnob Try.prog.godebug = none := by kernel_rfl
theorem laidOut : laidOutB Try.prog = true := by kernel_rfl
set_option maxRecDepth 100000 in
theorem lifted (os : Os) (started : os.Started) (H : Type) (enc : TypeId × Value → H) :
    ReturnsInHanded {} Try.checked os 6 .any (Rows.fnExactAddPolygonsSpec.pre6 enc Try.prog Try.f6 Rows.fnExactAddPolygonsRow.domain false) (Rows.fnExactAddPolygonsSpec.post enc Try.prog Try.f6 false true false false) := by
  refine returnsInHanded_of_change_sized (C := Try.checked) own started (by kernel_rfl) Try.func6
    (ChangeSpec.witness6 (enc := enc) (C := Try.checked) false ⟨#[], #[.slice none 0 0, .slice none 0 0], []⟩ 8 (by kernel_rfl) (by kernel_rfl) (by kernel_rfl) (by kernel_rfl)) ?_
  intro W base args ds gs before hval0 hW hcnd hsz0 _
  have hsz : (DataW.weightsEach Try.prog (Try.f6.params.toList ++ Rows.fnExactAddPolygonsSpec.plain.varTypes Try.prog) (ds ++ gs)).all (· ≤ reachBytes) = true := hsz0
  have hval : ∀ (j : Nat) t v, Try.f6.params[j]? = some t → args[j]? = some v → Value.okWide Try.prog W .any base t v := hval0
  have hW' := hW
  obtain ⟨p, q, hA0, hV, rfl, hfz, hnd⟩ := hW
  have hA : DataW.TrodAll enc Try.prog W 0 (fun _ => true) true Try.f6.params.toList args.toList ds p := hA0
  rw [Try.params6] at hA hval hsz
  obtain ⟨v0, vs0, d0, ds0, p0, q0, hargs, rfl, rfl, h0, r0⟩ := trodAll_cons hA
  obtain ⟨v1, vs1, d1, ds1, p1, q1, rfl, rfl, rfl, h1, r1⟩ := trodAll_cons r0
  obtain ⟨rfl, rfl, rfl⟩ := trodAll_nil r1
  obtain rfl : args = #[v0, v1] := by cases args; simp_all
  obtain ⟨rfl, rfl⟩ := trodVars_none hV
  obtain ⟨a0, len0, cap0, rfl⟩ := okWide_slice Try.underlying22 (hval 0 22 v0 rfl rfl)
  have k0 := h0
  have lt0 : ∀ x ∈ p0, x.block < W.heap.size := by obtain ⟨m, hm⟩ := k0; exact DataW.trod_lt m _ _ _ hm
  obtain ⟨z0, w0, c0, g0⟩ : ∃ zs : List S35, zs.length = len0 ∧ len0 ≤ cap0 ∧ Kd.C k35 W a0 len0 zs := by
    obtain ⟨fuel, hf⟩ := h0
    rcases open_points Try.underlying22 Try.underlying35 Try.underlying2 (by kernel_rfl) (by kernel_rfl) hf with hcs | ⟨x, l, c, elems, rest, f, hcs, hl, hm, _, _, hcell⟩
    · simp [Value.cells] at hcs
      obtain ⟨rfl, rfl, rfl⟩ := hcs
      exact ⟨[], rfl, Nat.le_refl _, rfl, by omega, fun h => by omega⟩
    · simp [Value.cells] at hcs
      obtain ⟨rfl, rfl, rfl⟩ := hcs
      refine ⟨(List.range len0).map fun i => ⟨(f i).1, (f i).2⟩, by simp, hl, by simp, by unfold maxLen at hm; omega, fun _ => ⟨x, rfl, fun j p hj => ?_⟩⟩
      have hjl : j < len0 := by have := (List.getElem?_eq_some_iff.1 hj).1; simpa using this
      obtain rfl : (⟨(f j).1, (f j).2⟩ : S35) = p := by simpa [hjl] using hj
      refine ⟨_, rfl, k35_mk W _, fun u c hu => ?_⟩
      obtain ⟨e0, e1⟩ := hcell j hjl
      match u, hu with
      | 0, hu => obtain rfl := Option.some.inj hu; exact e0
      | 1, hu => obtain rfl := Option.some.inj hu; exact e1
  have y0 : len0 * 16 ≤ 140737488351232 := sized_points hsz (j := 0) (t := 22) rfl rfl Try.underlying22 Try.underlying35 Try.underlying2 (by kernel_rfl) (by kernel_rfl) (by kernel_rfl) h0
  subst w0
  obtain ⟨a1, len1, cap1, rfl⟩ := okWide_slice Try.underlying22 (hval 1 22 v1 rfl rfl)
  have k1 := h1
  have lt1 : ∀ x ∈ p1, x.block < W.heap.size := by obtain ⟨m, hm⟩ := k1; exact DataW.trod_lt m _ _ _ hm
  obtain ⟨z1, w1, c1, g1⟩ : ∃ zs : List S35, zs.length = len1 ∧ len1 ≤ cap1 ∧ Kd.C k35 W a1 len1 zs := by
    obtain ⟨fuel, hf⟩ := h1
    rcases open_points Try.underlying22 Try.underlying35 Try.underlying2 (by kernel_rfl) (by kernel_rfl) hf with hcs | ⟨x, l, c, elems, rest, f, hcs, hl, hm, _, _, hcell⟩
    · simp [Value.cells] at hcs
      obtain ⟨rfl, rfl, rfl⟩ := hcs
      exact ⟨[], rfl, Nat.le_refl _, rfl, by omega, fun h => by omega⟩
    · simp [Value.cells] at hcs
      obtain ⟨rfl, rfl, rfl⟩ := hcs
      refine ⟨(List.range len1).map fun i => ⟨(f i).1, (f i).2⟩, by simp, hl, by simp, by unfold maxLen at hm; omega, fun _ => ⟨x, rfl, fun j p hj => ?_⟩⟩
      have hjl : j < len1 := by have := (List.getElem?_eq_some_iff.1 hj).1; simpa using this
      obtain rfl : (⟨(f j).1, (f j).2⟩ : S35) = p := by simpa [hjl] using hj
      refine ⟨_, rfl, k35_mk W _, fun u c hu => ?_⟩
      obtain ⟨e0, e1⟩ := hcell j hjl
      match u, hu with
      | 0, hu => obtain rfl := Option.some.inj hu; exact e0
      | 1, hu => obtain rfl := Option.some.inj hu; exact e1
  have y1 : len1 * 16 ≤ 140737488351232 := sized_points hsz (j := 1) (t := 22) rfl rfl Try.underlying22 Try.underlying35 Try.underlying2 (by kernel_rfl) (by kernel_rfl) (by kernel_rfl) h1
  subst w1
  clear hA0 hval0 hsz0 hsz
  try simp only [List.append_nil] at hW'
  obtain ⟨k, hk⟩ := (pure_add z0 (by omega) z1 (by omega)).get
  refine (laws_FnExactAddPolygons.calls k a0 cap0 z0 a1 cap1 z1 true W g0 c0 g1 c1 hk).mono fun e W' ⟨he, bel⟩ => ?_
  subst he
  exact ⟨_, rfl, _, _, _, [], _, [], hW', trodAll_mk1 (shut_bool Try.underlying4 _), (trodAll_cons_mk (Below.trod laidOut (by kernel_rfl) (of_decide_eq_true (by kernel_rfl)) k0 bel lt0) (trodAll_cons_mk (Below.trod laidOut (by kernel_rfl) (of_decide_eq_true (by kernel_rfl)) k1 bel lt1) trodAll_mk0)), rfl, bel.frame _, fun h => by cases h⟩

theorem over : Rows.fnExactAddPolygonsRow.holds Try.pinned (OpenSpec.ofChange Rows.fnExactAddPolygonsSpec) :=
  OpenClaim.holds_of_wide 6 Try.f6 rfl rfl rfl rfl rfl rfl rfl ⟨rfl, rfl, rfl, rfl, rfl⟩ rfl rfl rfl rfl rfl (by kernel_rfl) Try.func6 (by kernel_rfl)
    (of_decide_eq_true (by kernel_rfl)) (by unfold Func.isWrapper; first | (rw [if_pos (by decide +kernel)]; kernel_rfl) | (rw [if_neg (by decide +kernel)]; exact ⟨rfl, rfl⟩))
    (fun os started H enc _ => lifted os started H enc)

theorem proved : Rows.FnExactAddPolygonsSaid := over
#print axioms proved
end Go.Proofs.Ytpplohjbifieiaa.fnExactAddPolygons

/- Growing from nothing: slices.Grow of nil. -/
import Derived.Test.YtpplohjbifieiaaEx0
import Derived.Lib.Hide
namespace Go.Proofs.Ytpplohjbifieiaa.PE
open Go.RowKit Go.Proofs.YtpplohjbifieiaaW.PrintWords Go.Proofs.YtpplohjbifieiaaW.PrintLast Go.Proofs.YtpplohjbifieiaaW.PrintMore

theorem grown_taken {w : World} {base : Nat} {ok : Nat → Prop} {v : Value} {L : List S40} (h : Kd.R k40 40 w base ok v L) : ∃ A c n, v = .slice A n c ∧ n ≤ c ∧ Hid (Kd.R k40 40 w base ok (.slice A 0 c) []) := by
  obtain ⟨A, c, rfl, hl, _⟩ := Kd.R_reads h
  exact ⟨A, c, _, rfl, hl, Lib.hid (by have := Kd.R_take (m := 0) h (Nat.zero_le _); simpa using this)⟩

def slices_Grow_impl_polygon_impl_Point_at_nil.f (a1 : Int) : Option (List S40) := if 0 ≤ a1 ∧ a1 ≤ 1000000 then some [] else none
set_option maxRecDepth 100000 in
set_option maxHeartbeats 1000000 in
theorem slices_Grow_impl_polygon_impl_Point_at_nil.calls (a1 : Int) (r : List S40) (w : World) (h : slices_Grow_impl_polygon_impl_Point_at_nil.f a1 = some r) :
    Calls Try.prog 93 #[.slice none 0 0, .int .i64 a1] w fun e w' => ∃ v0_ : Value, e = .returned (v0_) ∧ Kd.R k40 40 w' w.heap.size (fun _ => True) v0_ r ∧ Below w.heap.size w w' := by
  unfold slices_Grow_impl_polygon_impl_Point_at_nil.f at h
  split at h
  · rename_i hc
    obtain ⟨h0, h1⟩ := hc
    obtain rfl : ([] : List S40) = r := by injection h
    clear h
    by_cases hz : a1 = 0
    · subst hz
      go_enter Try.func93, Try.ntmps93
      go_wp2
      go_ret
      exact ⟨_, rfl, Kd.R_nil _ _ _ _ _, Below.refl _ _⟩
    · have hp : 0 < a1 := by omega
      have hz' : (a1 == 0) = false := by simpa using hz
      clear hz
      obtain ⟨i0, hi0, _, hsz, _⟩ := info_parts info40
      clear hsz
      go_enter Try.func93, Try.ntmps93
      go_wp2_with (first | (at_builtin; go_loud (refine Kd.R_append_zeros k40 (w0 := w) w.heap.size rfl (.tmp 20) (.tmp 21) 46 3 40 (.agg #[.int .i64 0, .int .i64 0]) 16 rfl Try.underlying46 Try.underlying3 info40 rfl (by decide) (by decide) (.slice none 0 0) [] z40 a1 (fun _ => True) rfl rfl (k40_mkM _ _ _ z40) (fun _ _ => trivial) (Kd.R_nil _ _ _ _ _) h0 (Below.refl _ _) (Nat.le_refl _) (by simp; omega) ?_; intro v1 w1 hR hB hg hx_; obtain ⟨A_, c_, n_, rfl, hle_, hT⟩ := grown_taken hR; have hcut := cut_to (P := Try.prog) 46 40 .i64 Try.underlying46 hi0 A_ n_ c_ 0 (by omega) (by omega) hle_; clear hR hg hx_ hle_)))
      go_ret
      exact ⟨_, rfl, hT.out, hB⟩
  · cases h
def slices_Grow_impl_Point_impl_Point_at_nil.f (a1 : Int) : Option (List S40) := if 0 ≤ a1 ∧ a1 ≤ 1000000 then some [] else none
set_option maxRecDepth 100000 in
set_option maxHeartbeats 1000000 in
theorem slices_Grow_impl_Point_impl_Point_at_nil.calls (a1 : Int) (r : List S40) (w : World) (h : slices_Grow_impl_Point_impl_Point_at_nil.f a1 = some r) :
    Calls Try.prog 107 #[.slice none 0 0, .int .i64 a1] w fun e w' => ∃ v0_ : Value, e = .returned (v0_) ∧ Kd.R k40 40 w' w.heap.size (fun _ => True) v0_ r ∧ Below w.heap.size w w' := by
  unfold slices_Grow_impl_Point_impl_Point_at_nil.f at h
  split at h
  · rename_i hc
    obtain ⟨h0, h1⟩ := hc
    obtain rfl : ([] : List S40) = r := by injection h
    clear h
    by_cases hz : a1 = 0
    · subst hz
      go_enter Try.func107, Try.ntmps107
      go_wp2
      go_ret
      exact ⟨_, rfl, Kd.R_nil _ _ _ _ _, Below.refl _ _⟩
    · have hp : 0 < a1 := by omega
      have hz' : (a1 == 0) = false := by simpa using hz
      clear hz
      obtain ⟨i0, hi0, _, hsz, _⟩ := info_parts info40
      clear hsz
      go_enter Try.func107, Try.ntmps107
      go_wp2_with (first | (at_builtin; go_loud (refine Kd.R_append_zeros k40 (w0 := w) w.heap.size rfl (.tmp 20) (.tmp 21) 24 3 40 (.agg #[.int .i64 0, .int .i64 0]) 16 rfl Try.underlying24 Try.underlying3 info40 rfl (by decide) (by decide) (.slice none 0 0) [] z40 a1 (fun _ => True) rfl rfl (k40_mkM _ _ _ z40) (fun _ _ => trivial) (Kd.R_nil _ _ _ _ _) h0 (Below.refl _ _) (Nat.le_refl _) (by simp; omega) ?_; intro v1 w1 hR hB hg hx_; obtain ⟨A_, c_, n_, rfl, hle_, hT⟩ := grown_taken hR; have hcut := cut_to (P := Try.prog) 24 40 .i64 Try.underlying24 hi0 A_ n_ c_ 0 (by omega) (by omega) hle_; clear hR hg hx_ hle_)))
      go_ret
      exact ⟨_, rfl, hT.out, hB⟩
  · cases h
end Go.Proofs.Ytpplohjbifieiaa.PE

/- Lists of forms: what is in a list, the cycle. -/
import Derived.Test.YtcphdmhcpjfedaaCnb
import Derived.Test.YtcphdmhcpjfedaaEq
namespace Go.Proofs.Ytcphdmhcpjfedaa
open Go.RowKit

theorem l06Has_any (L : List Fm) (a b c : Int) (base g cap n : Nat) (w : World) (hown : w.ownsRow base 39 3 (.slice (some ⟨g, 0, none⟩) n cap) n (fcells L)) (hn : n ≤ 1000000000) :
    Calls Try.prog 99 #[.slice (some ⟨g, 0, none⟩) n cap, .agg #[.int .i64 a, .int .i64 b, .int .i64 c]] w fun e w' => e = .returned (.bool (decide ((⟨a, b, c⟩ : Fm) ∈ L))) ∧ Below w.heap.size w w' := by
  have hL := row_length hown
  subst hL
  have hg : g < w.heap.size := (hown.lt g rfl).2
  have hcell := Lib.hid (fun k hk => form_cells hown k hk)
  clear hown
  have W0c0 : ∀ i, (w.alloc (.cells #[.int .i64 a, .int .i64 b, .int .i64 c] 39)).cell? ⟨g, i, none⟩ = w.cell? ⟨g, i, none⟩ := fun i => World.cell?_alloc_lt w _ ⟨g, i, none⟩ hg
  have W0c := Lib.hid W0c0
  clear W0c0
  have hsame := form_same
  have hguard := guard_form
  go_enter Try.func99, Try.ntmps99
  go_wp2
  go_loopw [5] (fun i wr => ∃ k nq : Nat, k ≤ L.length ∧ i = .int .i64 k ∧ (∀ j (h : j < L.length), j < k → L[j] ≠ ⟨a, b, c⟩) ∧ wr = (w.alloc (.cells #[.int .i64 a, .int .i64 b, .int .i64 c] 39)).drewN nq) (fun i _ => L.length - (intOf i).toNat)
  case atStart => exact ⟨0, 0, by omega, rfl, fun j _ h => by omega, rfl⟩
  case round =>
    obtain ⟨k, nq, hk, rfl, hne, rfl⟩ := hrel
    have Hne := Lib.hid hne
    clear hne
    by_cases hlt : k < L.length
    · obtain ⟨e0, e1, e2⟩ := hcell.out k hlt
      rw [← W0c.out] at e0 e1 e2
      have hlt1 : (k : Int) < (L.length : Int) := by omega
      have hlt2 : (0 : Int) ≤ (k : Int) := by omega
      by_cases hq : L[k] = ⟨a, b, c⟩
      · have hmem : (⟨a, b, c⟩ : Fm) ∈ L := by rw [← hq]; exact List.getElem_mem hlt
        have Hmem := Lib.hid hmem
        have hq1 : eqF L[k].a L[k].b L[k].c a b c = true := eqF_true.2 hq
        clear hmem hq
        go_wp2_with fail
        go_quiet (fail)
        go_wp2
        go_ret
        exact ⟨ret_bool (by simp [Hmem.out]), by (repeat (first | exact Below.refl _ _ | assumption | refine Below.drew ?_ | refine below_drewN ?_ _ | refine Below.alloc ?_ (by first | omega | (simp; done) | (simp; omega)) _ | refine Below.setCell ?_ (by first | omega | (simp; done) | (simp; omega)) _))⟩
      · have Hq := Lib.hid hq
        have hq1 : eqF L[k].a L[k].b L[k].c a b c = false := eqF_false.2 hq
        clear hq
        go_wp2_with fail
        go_quiet (fail)
        go_wp2
        go_roundw
        case rel =>
          refine ⟨k + 1, _, by omega, by go_num, ?_, rfl⟩
          intro j hj hjk
          by_cases e : j = k
          · subst e; exact Hq.out
          · exact Hne.out j hj (by omega)
        case measure => simp [intOf]; omega
    · go_wp2
      go_ret
      refine ⟨ret_bool ?_, by (repeat (first | exact Below.refl _ _ | assumption | refine Below.drew ?_ | refine below_drewN ?_ _ | refine Below.alloc ?_ (by first | omega | (simp; done) | (simp; omega)) _ | refine Below.setCell ?_ (by first | omega | (simp; done) | (simp; omega)) _))⟩
      have : ¬ (⟨a, b, c⟩ : Fm) ∈ L := by
        intro hm
        obtain ⟨j, hj, e⟩ := List.getElem_of_mem hm
        exact Hne.out j hj (by omega) e
      simp [this]

end Go.Proofs.Ytcphdmhcpjfedaa

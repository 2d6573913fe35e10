/- The program's ClassNumber. -/
import Derived.Test.YtcphdmhcpjfedaaCnh
import Derived.Test.YtcphdmhcpjfedaaMap
namespace Go.Proofs.Ytcphdmhcpjfedaa
open Go.RowKit

theorem Mb.ne {w : World} {m base g cap n : Nat} {e : TypeId} {size : Nat} {xs : List Value} {S : List Fm} (h : Mb w m S) (hown : w.ownsRow base e size (.slice (some ⟨g, 0, none⟩) n cap) n xs) : g ≠ m := by
  rintro rfl
  rcases hown.2 with ⟨h1, _⟩ | ⟨g', cap', cur, h1, _, h2, _⟩
  · cases h1
  · injection h1 with h1
    injection h1 with h1
    injection h1 with h1
    subst h1
    unfold Mb at h
    rw [h2] at h
    cases h

noncomputable def stI (L : List Fm) (i : Nat) : Nat × List Fm := (L.take i).foldl stepI (0, [])
theorem stI_succ (L : List Fm) (i : Nat) (h : i < L.length) : stI L (i + 1) = stepI (stI L i) L[i] := by
  unfold stI
  rw [List.take_succ_eq_append_getElem h, List.foldl_append]; rfl
theorem stI_bound (L : List Fm) : ∀ i, (stI L i).1 ≤ i
  | 0 => by simp [stI]
  | i + 1 => by
    have ih := stI_bound L i
    by_cases h : i < L.length
    · rw [stI_succ L i h]
      unfold stepI
      split
      · omega
      · simp; omega
    · have e : stI L (i + 1) = stI L i := by unfold stI; rw [List.take_of_length_le (by omega), List.take_of_length_le (by omega)]
      rw [e]; omega

/-- the first j forms of a list put into a map -/
def put (C S : List Fm) (j : Nat) : List Fm := (C.take j).foldl ins S
theorem put_succ (C S : List Fm) (j : Nat) (h : j < C.length) : put C S (j + 1) = ins (put C S j) C[j] := by
  unfold put
  rw [List.take_succ_eq_append_getElem h, List.foldl_append]; rfl

set_option maxHeartbeats 800000 in
set_option maxRecDepth 100000 in
theorem implClassNumber_ok (d : Int) (hd : Hid (okD d)) (hc : Hid (dcode d = 0)) (w : World) :
    Calls Try.prog 12 #[.int .i64 d] w fun e w' => e = .returned (.tuple #[.int .i64 (stI (reds d) (reds d).length).1, .int .i64 0]) ∧ Below w.heap.size w w' := by
  have hlen := reds_length d hd.out.2.1
  have hmem := Lib.hid (fun x (hx : x ∈ reds d) => mem_reds hx)
  obtain ⟨L, hL⟩ : ∃ L, reds d = L := ⟨_, rfl⟩
  have HL := Lib.hid hL
  rw [hL] at hlen hmem ⊢
  clear hL
  have hmm := @run_makeMap Try.prog
  go_enter Try.func12, Try.ntmps12
  go_wp2_with (first | (go_at_call 101; refine (discFault_any d _).mono ?_; rw [hc.out]; rintro e w' ⟨rfl, rfl⟩) | (go_at_call 102; refine (reducedForms_any d hd _).mono ?_; rw [HL.out]; rintro e w1 ⟨gl, capl, rfl, hl1, hb1⟩))
  have hm1 : Mb w1 w.heap.size [] := (Mb.new w).below hb1
  have hbw1 : Below w.heap.size w w1 := below_box hb1 (by simp)
  have hgl1 : w.heap.size < gl := by have := hl1.lt gl rfl; simp at this; omega
  go_loopg [5, 20] L.length (fun k cv iv wr => ∃ (i : Nat), i + k = L.length ∧ cv = .int .i64 (stI L i).1 ∧ iv = .int .i64 i ∧ Mb wr w.heap.size (stI L i).2 ∧
    wr.ownsRow (w.heap.size + 1) 39 3 (.slice (some ⟨gl, 0, none⟩) L.length capl) L.length (fcells L) ∧ Below w.heap.size w wr)
  case atStart =>
    exact ⟨0, by omega, rfl, rfl, hm1, by simpa using hl1, hbw1⟩
  case round =>
    obtain ⟨i, hik, rfl, rfl, hmb, hl, hbel⟩ := hrel
    obtain ⟨ko, rfl⟩ : ∃ x, x = gk := ⟨_, rfl⟩
    have Hik := Lib.hid hik
    have bd1 := stI_bound L i
    have hi : i ≤ L.length := by omega
    have hcn : (stI L i).1 ≤ 8001 := by omega
    have hsz := hbel.size
    have hgl := hl.lt gl rfl
    have hml := hmb.lt
    clear hik bd1
    by_cases hlt : i < L.length
    · obtain ⟨c0, c1, c2⟩ := form_cells hl i hlt
      have hx := hmem.out L[i] (List.getElem_mem hlt)
      obtain ⟨N, hN⟩ := red_way hd.out hx.1 hx.2
      have HN := Lib.hid hN
      have hst := Lib.hid (stI_succ L i hlt)
      have hN1 : 1 ≤ N := hN.per.1
      have hN2 : N ≤ 10000 := hN.per.2.1
      have hcl : (cyc L[i]).length = N := by rw [cyc_of_per (x := L[i]) hN.per]; simp
      have Hcl := Lib.hid hcl
      clear hx hN hcl
      by_cases hm : L[i] ∈ (stI L i).2
      · have hlook := fun o => run_lookup_form L[i] (wr.alloc o) w.heap.size (stI L i).2 (hmb.alloc o)
        have e1 : decide (L[i] ∈ (stI L i).2) = true := by simpa using hm
        simp only [e1, Fm.val] at hlook
        have Hm := Lib.hid hm
        clear hm e1
        go_wp2_with fail
        go_roundg (ko - 1)
        case measure => have := Hik.out; omega
        case rel =>
          have e : stI L (i + 1) = stI L i := by rw [hst.out]; unfold stepI; rw [if_pos Hm.out]
          refine ⟨i + 1, by have := Hik.out; omega, by rw [e], by go_num, by rw [e]; exact hmb.alloc _, hl.alloc _, hbel.alloc hsz _⟩
      · have hlook := fun o => run_lookup_form L[i] (wr.alloc o) w.heap.size (stI L i).2 (hmb.alloc o)
        have e1 : decide (L[i] ∈ (stI L i).2) = false := by simpa using hm
        simp only [e1, Fm.val] at hlook
        have Hm := Lib.hid hm
        clear hm e1
        go_wp2_with (first | (go_at_call 103; refine (cycle_red L[i] d N HN _).mono ?_; rintro e w3 ⟨gc, capc, rfl, hc4, hb3⟩))
        have hz3 := hb3.size
        simp only [World.size_alloc] at hz3
        have hmb3 := (hmb.alloc _).below hb3
        have hl3 := own_below (hl.alloc _) hb3
        have hbel3 : Below w.heap.size w w3 := (hbel.alloc hsz _).trans (hb3.mono (by simp; omega))
        obtain ⟨C, hC⟩ : ∃ C, cyc L[i] = C := ⟨_, rfl⟩
        have HC := Lib.hid hC
        rw [hC] at hc4
        have hCl : C.length = N := by rw [← hC]; exact Hcl.out
        have HCl := Lib.hid hCl
        clear hC hCl hlook hb3
        go_loopg [32] N (fun k jv wr2 => ∃ (j : Nat), j + k = N ∧ jv = .int .i64 j ∧ Mb wr2 w.heap.size (put C (stI L i).2 j) ∧
          wr2.ownsRow (wr.heap.size + 1) 39 3 (.slice (some ⟨gc, 0, none⟩) N capc) N (fcells C) ∧ wr2.ownsRow (w.heap.size + 1) 39 3 (.slice (some ⟨gl, 0, none⟩) L.length capl) L.length (fcells L) ∧ Below w.heap.size w wr2)
        case atStart => exact ⟨0, by omega, rfl, hmb3, by simpa using hc4, hl3, hbel3⟩
        case round =>
          obtain ⟨j, hjk, rfl, hmb4, hc5, hl4, hbel4⟩ := hrel
          have Hjk := Lib.hid hjk
          have hjN : j ≤ N := by omega
          have hsz4 := hbel4.size
          clear hjk
          by_cases hj : j < N
          · have hjC : j < C.length := by rw [HCl.out]; exact hj
            obtain ⟨d0, d1, d2⟩ := form_cells hc5 j hjC
            have hput := Lib.hid (put_succ C (stI L i).2 j hjC)
            go_wp2_with (first | (at_mapUpdate; refine update_form rfl _ _ _ rfl w.heap.size (put C (stI L i).2 j) rfl (hmb4.alloc _) C[j].a C[j].b C[j].c rfl rfl ?_; intro w6 hmb6 hgr6))
            go_roundg (gk - 1)
            case measure => have := Hjk.out; omega
            case rel =>
              refine ⟨j + 1, by have := Hjk.out; omega, by go_num, ?_, ?_, ?_, ?_⟩
              · rw [hput.out]; exact hmb6
              · exact (hc5.alloc _).kept hgr6 (.inr (by simpa [Value.ownBlock] using hmb4.ne hc5))
              · exact (hl4.alloc _).kept hgr6 (.inr (by simpa [Value.ownBlock] using hmb4.ne hl4))
              · exact (hbel4.alloc hsz4 _).grown hgr6 (by simp; omega) (fun k hk => by injection hk with hk; omega)
          · go_wp2_with fail
            go_roundg (ko - 1)
            case measure => have := Hik.out; omega
            case rel =>
              have hjC : j = C.length := by rw [HCl.out]; omega
              have e : stI L (i + 1) = ((stI L i).1 + 1, C.foldl ins (stI L i).2) := by rw [hst.out]; unfold stepI; rw [if_neg Hm.out, HC.out]
              refine ⟨i + 1, by have := Hik.out; omega, by rw [e]; go_num, by go_num, ?_, hl4, hbel4⟩
              rw [e]
              unfold put at hmb4
              rw [hjC, List.take_length] at hmb4
              exact hmb4
    · have hi' : i = L.length := by omega
      subst hi'
      go_wp2_with fail
      go_ret2
      refine ⟨?_, hbel⟩
      rfl

end Go.Proofs.Ytcphdmhcpjfedaa

/- The reference's ClassNumber. -/
import Derived.Test.YtcphdmhcpjfedaaCng
namespace Go.Proofs.Ytcphdmhcpjfedaa
open Go.RowKit

/-- 'out = append(out, xs...)', xs a list of forms that is not empty -/
theorem append_forms {ops : Array Oper} {rest : List Oper} {o : Oper} {a : Act} {Q : Exit → Act → World → Prop} {w : World} (hgd : o.guard = none) (s x : Operand)
    (ho : o.op = .call { callee := .builtin .append, args := #[s, x], argTypes := #[44, 44] })
    (base g cap n : Nat) (L : List Fm) (hs : a.eval s = .slice (some ⟨g, 0, none⟩) n cap) (hown : w.ownsRow base 39 3 (.slice (some ⟨g, 0, none⟩) n cap) n (fcells L))
    (base2 b m c : Nat) (M : List Fm) (hx : a.eval x = .slice (some ⟨b, 0, none⟩) m c) (hb : w.ownsRow base2 39 3 (.slice (some ⟨b, 0, none⟩) m c) m (fcells M))
    (hm : 0 < m) (hn : n ≤ 1000000000) (hm2 : m ≤ 1000000000) (hbase : base ≤ w.heap.size) (H : Nat) (hH : w.heap.size = H)
    (h : ∀ g' cap' w', w'.ownsRow base 39 3 (.slice (some ⟨g', 0, none⟩) (n + m) cap') (n + m) (fcells (L ++ M)) → w.grownBy w' (some g) → (g' = g ∨ g' = H) → g' < w'.heap.size →
      wpList Try.prog ops Q rest (a.put o.dst (.slice (some ⟨g', 0, none⟩) (n + m) cap')) w') :
    wpList Try.prog ops Q (o :: rest) a w := by
  obtain ⟨i, hi, hz0, hz1, hz2⟩ := info_parts info_form
  refine wpList_append_lies w hgd s x _ ho base 39 i _ 3 24 Try.underlying44 hi hz0 hz1 hz2 rfl (by decide) _ n (fcells L) hs hown ⟨b, 0, none⟩ m c (fcells M) hx hb.1
    (hb.cells (g := b) rfl) (fcells_one _) hm (by unfold maxLen; omega) (by omega) hbase H hH ?_
  intro g' cap' w' h1 h2 h3 h4
  rw [← fcells_append] at h1
  refine h g' cap' w' h1 h2 ?_ h4
  rcases h3 with h3 | h3
  · exact .inl (by simpa [Value.ownBlock] using h3.symm)
  · exact .inr h3

theorem red_way {x : Fm} {d : Int} (hd : okD d) (hx : dsc x = d) (hr : redB x (root d) = true) : ∃ N, Way x d 0 N := by
  have hd' : okD (dsc x) := by rw [hx]; exact hd
  have hr' : redB x (root (dsc x)) = true := by rw [hx]; exact hr
  obtain ⟨N, hN⟩ := exists_per hd' hr'
  refine ⟨N, hd, fun i => ?_, fun i => ?_, fun i hi => by omega, hr, hN⟩
  · rw [(it_red hd' hr' i).1, hx]
  · obtain ⟨h1, h2⟩ := it_red hd' hr' i
    obtain ⟨s1, s2, s3, s4⟩ := hd'.sq
    obtain ⟨l1, l2⟩ := red_last (x := it x i) (by rw [h1]; exact hd') (by rw [h1]; exact h2)
    obtain ⟨r1, r2, r3, r4⟩ := redB_iff.1 h2
    rw [h1] at l1 l2
    have e1 := absv_eq (it x i).a
    have e2 := absv_eq (it x i).c
    have e3 := absv_nonneg (it x i).a
    have e4 := absv_nonneg (it x i).c
    refine ⟨⟨?_, ?_⟩, ⟨?_, ?_⟩, ⟨?_, ?_⟩⟩ <;> omega

/-- the cycle of a reduced form is handed back -/
def CycOf (x : Fm) (N : Nat) (w : World) (e : Ending) (w' : World) : Prop :=
  ∃ g cap, e = .returned (.slice (some ⟨g, 0, none⟩) N cap) ∧ w'.ownsRow w.heap.size 39 3 (.slice (some ⟨g, 0, none⟩) N cap) N (fcells (cyc x)) ∧ Below w.heap.size w w'
theorem cycOf_of {x : Fm} {d : Int} {N : Nat} (h : Way x d 0 N) {w w' : World} {e : Ending} (hn : NewForms w ((List.range N).map (it (it x 0))) e w') : CycOf x N w e w' := by
  obtain ⟨g, cap, h1, h2, h3⟩ := hn
  have hlen : ((List.range N).map (it (it x 0))).length = N := by simp
  rw [hlen] at h1 h2
  have hc : cyc x = (List.range N).map (it (it x 0)) := cyc_of_per h.per
  exact ⟨g, cap, h1, by rw [hc]; exact h2, h3⟩
theorem l06Cycle_red (x : Fm) (d : Int) (N : Nat) (h : Hid (Way x d 0 N)) (w : World) :
    Calls Try.prog 100 #[.agg #[.int .i64 x.a, .int .i64 x.b, .int .i64 x.c]] w (CycOf x N w) :=
  (l06Cycle_any x d 0 N h w).mono fun _ _ hn => cycOf_of h.out hn
theorem cycle_red (x : Fm) (d : Int) (N : Nat) (h : Hid (Way x d 0 N)) (w : World) :
    Calls Try.prog 103 #[.agg #[.int .i64 x.a, .int .i64 x.b, .int .i64 x.c]] w (CycOf x N w) :=
  (cycle_any x d 0 N h w).mono fun _ _ hn => cycOf_of h.out hn

noncomputable def stS (L : List Fm) (i : Nat) : Nat × List Fm := (L.take i).foldl stepS (0, [])
theorem stS_succ (L : List Fm) (i : Nat) (h : i < L.length) : stS L (i + 1) = stepS (stS L i) L[i] := by
  unfold stS
  rw [List.take_succ_eq_append_getElem h, List.foldl_append]; rfl
theorem stS_bound (L : List Fm) : ∀ i, (stS L i).1 ≤ i ∧ (stS L i).2.length ≤ i * 10000
  | 0 => by simp [stS]
  | i + 1 => by
    have ih := stS_bound L i
    by_cases h : i < L.length
    · rw [stS_succ L i h]
      unfold stepS
      split
      · omega
      · refine ⟨by simp; omega, ?_⟩
        simp only [List.length_append]
        have : (cyc L[i]).length ≤ 10000 := by
          unfold cyc
          split
          · rename_i hex
            have := (Classical.choose_spec hex).2.1
            simpa using this
          · simp
        omega
    · have e : stS L (i + 1) = stS L i := by unfold stS; rw [List.take_of_length_le (by omega), List.take_of_length_le (by omega)]
      rw [e]; omega

theorem reds_length (d : Int) (h : d ≤ 4000) : (reds d).length ≤ 8001 := by
  have := rowsTo_length d (root d) (2 * root d + 1).toNat
  obtain ⟨r0, r1⟩ := root_bd d h
  have h2 : (2 * root d + 1).toNat * (root d).toNat ≤ 127 * 63 := Nat.mul_le_mul (by omega) (by omega)
  unfold reds; omega

set_option maxHeartbeats 400000 in
set_option maxRecDepth 100000 in
theorem specClassNumber_ok (d : Int) (hd : Hid (okD d)) (h4 : d % 4 ≤ 1) (w : World) :
    Calls Try.prog 11 #[.int .i64 d] w fun e w' => e = .returned (.tuple #[.int .i64 (stS (reds d) (reds d).length).1, .int .i64 0]) ∧ Below w.heap.size w w' := by
  have hlen := reds_length d hd.out.2.1
  have hmem := Lib.hid (fun x (hx : x ∈ reds d) => mem_reds hx)
  obtain ⟨L, hL⟩ : ∃ L, reds d = L := ⟨_, rfl⟩
  have HL := Lib.hid hL
  rw [hL] at hlen hmem ⊢
  clear hL
  go_enter Try.func11, Try.ntmps11
  go_wp2_with (first | (go_at_call 98; refine (l06All_ok d hd h4 _).mono ?_; rw [HL.out]; rintro e w1 ⟨gl, capl, rfl, hl1, hb1⟩))
  go_loopg [6, 7, 8] L.length (fun k cv mv iv wr => ∃ (i g cap n : Nat), i + k = L.length ∧ cv = .int .i64 (stS L i).1 ∧ mv = .slice (some ⟨g, 0, none⟩) n cap ∧ iv = .int .i64 i ∧
    wr.ownsRow w.heap.size 39 3 (.slice (some ⟨g, 0, none⟩) n cap) n (fcells (stS L i).2) ∧ wr.ownsRow w.heap.size 39 3 (.slice (some ⟨gl, 0, none⟩) L.length capl) L.length (fcells L) ∧ g ≠ gl ∧ Below w.heap.size w wr)
  case atStart =>
    refine ⟨0, w1.heap.size, 0, 0, by omega, rfl, rfl, rfl, ?_, hl1.alloc _, ?_, ?_⟩
    · exact own_new w1 [] 39 w.heap.size 3 0 hb1.size rfl (by decide)
    · have := hl1.lt gl rfl; omega
    · exact hb1.alloc hb1.size _
  case round =>
    obtain ⟨i, g, cap, n, hik, rfl, rfl, rfl, hown, hl, hne, hbel⟩ := hrel
    have Hik := Lib.hid hik
    have hn := row_length hown
    obtain ⟨bd1, bd2⟩ := stS_bound L i
    have hi : i ≤ L.length := by omega
    have hn2 : n ≤ 81000000 := by
      have : i * 10000 ≤ 8001 * 10000 := Nat.mul_le_mul_right _ (by omega)
      omega
    have hcn : (stS L i).1 ≤ 8001 := by omega
    have hsz := hbel.size
    have hgl := hl.lt gl rfl
    have hgg := hown.lt g rfl
    have Hn := Lib.hid hn
    clear hik bd1 bd2 hn
    by_cases hlt : i < L.length
    · obtain ⟨c0, c1, c2⟩ := form_cells hl i hlt
      have hx := hmem.out L[i] (List.getElem_mem hlt)
      obtain ⟨N, hN⟩ := red_way hd.out hx.1 hx.2
      have HN := Lib.hid hN
      have hst := Lib.hid (stS_succ L i hlt)
      have hN1 : 1 ≤ N := hN.per.1
      have hN2 : N ≤ 10000 := hN.per.2.1
      clear hx hN
      by_cases hm : L[i] ∈ (stS L i).2
      · have hm1 : decide ((⟨L[i].a, L[i].b, L[i].c⟩ : Fm) ∈ (stS L i).2) = true := by simpa using hm
        have Hm := Lib.hid hm
        clear hm
        go_wp2_with (first | (go_at_call 99; refine (l06Has_any (stS L i).2 _ _ _ w.heap.size g cap n _ hown (by omega)).mono ?_; rw [hm1]; rintro e w2 ⟨rfl, hb2⟩))
        go_roundg (gk - 1)
        case measure => have := Hik.out; omega
        case rel =>
          have e : stS L (i + 1) = stS L i := by rw [hst.out]; unfold stepS; rw [if_pos Hm.out]
          refine ⟨i + 1, g, cap, n, by have := Hik.out; omega, by rw [e], rfl, by go_num, ?_, own_below hl hb2, hne, hbel.trans (hb2.mono hsz)⟩
          rw [e]; exact own_below hown hb2
      · have hm1 : decide ((⟨L[i].a, L[i].b, L[i].c⟩ : Fm) ∈ (stS L i).2) = false := by simpa using hm
        have Hm := Lib.hid hm
        clear hm
        go_wp2_with (first | (go_at_call 99; refine (l06Has_any (stS L i).2 _ _ _ w.heap.size g cap n _ hown (by omega)).mono ?_; rw [hm1]; rintro e w2 ⟨rfl, hb2⟩; obtain ⟨d0, d1, d2⟩ := form_cells (own_below hl hb2) i hlt) | (go_at_call 100; refine (l06Cycle_red L[i] d N HN _).mono ?_; rintro e w3 ⟨gc, capc, rfl, hc4, hb3⟩; have hown3 := own_below (own_below hown hb2) hb3; have hz2 := hb2.size; have hz3 := hb3.size) | (at_builtin; refine append_forms rfl (.tmp 33) (.tmp 38) rfl w.heap.size g cap n _ rfl hown3 w2.heap.size gc N capc (cyc L[i]) rfl hc4 (by omega) (by omega) (by omega) (by omega) _ rfl ?_; intro g' cap' w4 h4' hgr hat hlt4))
        go_roundg (gk - 1)
        case measure => have := Hik.out; omega
        case rel =>
          have e : stS L (i + 1) = ((stS L i).1 + 1, (stS L i).2 ++ cyc L[i]) := by rw [hst.out]; unfold stepS; rw [if_neg Hm.out]
          refine ⟨i + 1, g', cap', n + N, by have := Hik.out; omega, by rw [e]; go_num, rfl, by go_num, by rw [e]; exact h4', ?_, ?_, ?_⟩
          · have h5 := own_below (own_below hl hb2) hb3
            exact h5.kept hgr (.inr (by simp [Value.ownBlock]; omega))
          · omega
          · have b3 := (hbel.trans (hb2.mono hsz)).trans (hb3.mono (by omega))
            exact b3.grown hgr (by omega) (fun k hk => by injection hk with hk; omega)
    · have hi' : i = L.length := by omega
      subst hi'
      go_wp2_with fail
      go_ret2
      refine ⟨?_, hbel⟩
      rfl

end Go.Proofs.Ytcphdmhcpjfedaa

/- The reference's order of multiples. -/
import Derived.Test.YtcphdmhcpjfedaaSi
namespace Go.Proofs.Ytcphdmhcpjfedaa
open Go.RowKit

theorem own_any (ad : Addr) (m c : Nat) (M : List Int) (hl : Hid (M.length = m)) (w : World) (hnews : Hid (∀ j u, (icells M)[j]? = some u → w.cell? (ad.add j) = some u)) (had : ad.block < w.heap.size) (hm : m ≤ 1000000) :
    Calls Try.prog 176 #[.slice (some ad) m c] w fun e w' => ∃ g cap, e = .returned (.slice (some ⟨g, 0, none⟩) m cap) ∧ w'.ownsRow w.heap.size 2 1 (.slice (some ⟨g, 0, none⟩) m cap) m (icells M) ∧ Below w.heap.size w w' := by
  have hn2 : Hid (∀ j u, (icells M)[j]? = some u → (w.alloc (.cells #[] 2)).cell? (ad.add j) = some u) := fun j u hu => by
    have h1 := hnews.out j u hu
    rw [← h1]
    have hb : (ad.add j).block = ad.block := by unfold Addr.add; split <;> rfl
    exact World.cell?_of_block (Below.heap_alloc w _ _ (by rw [hb]; exact had))
  go_enter Try.func176, Try.ntmps176
  go_wp2_with (first | (at_builtin; refine append_ints rfl (.tmp 3) (.tmp 4) rfl w.heap.size w.heap.size 0 0 [] rfl (own_new w [] 2 w.heap.size 1 0 (Nat.le_refl _) rfl (by decide)) ad m c M rfl hl.out hn2.out (by omega) (by simp) _ rfl ?_; intro g6 cap6 w6 hown6 hgr6 hat6 hlt6))
  go_ret
  simp only [Nat.zero_add, List.nil_append] at hown6 ⊢
  refine ⟨g6, cap6, rfl, hown6, ?_⟩
  · exact (below_box0 w _).grown hgr6 (by simp) (fun k hk => by injection hk with hk; omega)

/-- the cells of the part behind j -/
theorem part_news {w : World} {base g cap n : Nat} {L : List Int} (h : w.ownsRow base 2 1 (.slice (some ⟨g, 0, none⟩) n cap) n (icells L)) (at_ : Nat) : ∀ j u, (icells (L.drop at_))[j]? = some u → w.cell? ((⟨g, at_, none⟩ : Addr).add j) = some u := by
  intro j u hu
  have hc := h.cells (g := g) rfl
  have h1 : (icells L)[at_ + j]? = some u := by
    rw [← hu]; simp [icells, List.getElem?_drop]
  have := hc _ _ h1
  simp only [Addr.add_lit, Nat.zero_add] at this ⊢
  exact this
theorem head_news {w : World} {base g cap n : Nat} {L : List Int} (h : w.ownsRow base 2 1 (.slice (some ⟨g, 0, none⟩) n cap) n (icells L)) (at_ : Nat) : ∀ j u, (icells (L.take at_))[j]? = some u → w.cell? ((⟨g, 0, none⟩ : Addr).add j) = some u := by
  intro j u hu
  have hc := h.cells (g := g) rfl
  refine hc _ _ ?_
  have hi : icells (L.take at_) = (icells L).take at_ := by simp [icells]
  rw [hi, List.getElem?_take] at hu
  by_cases hj : j < at_
  · rw [if_pos hj] at hu; exact hu
  · rw [if_neg hj] at hu; cases hu

theorem Good.ins {p q : Int} {i J : Nat} {L : List Int} (h : Good p q i L) (hJ : J ≤ i) (hhi : ∀ t, J ≤ t → t < i → key p q (i : Int) < key p q (L.getD t 0)) (hlo : ∀ t, t + 1 = J → key p q (L.getD t 0) ≤ key p q (i : Int)) :
    Good p q (i + 1) (L.take J ++ ([(i : Int)] ++ L.drop J)) := by
  have hl := h.len
  have hhi' : ∀ x ∈ L.drop J, key p q (i : Int) < key p q x := by
    intro x hx
    obtain ⟨a, ha, rfl⟩ := List.mem_iff_getElem.1 hx
    rw [List.length_drop] at ha
    have := hhi (J + a) (by omega) (by omega)
    simpa [List.getElem_drop, show J + a < L.length by omega] using this
  have hlo' : ∀ x ∈ L.take J, key p q x ≤ key p q (i : Int) := by
    intro x hx
    obtain ⟨a, ha, rfl⟩ := List.mem_iff_getElem.1 hx
    rw [List.length_take] at ha
    have h1 := hlo (J - 1) (by omega)
    rw [List.getElem_take]
    have e : L.getD (J - 1) 0 = L[J - 1]'(by omega) := by simp [show J - 1 < L.length by omega]
    rw [e] at h1
    by_cases haj : a = J - 1
    · subst haj; exact h1
    · have := (List.pairwise_iff_getElem.1 h.srt) a (J - 1) (by omega) (by omega) (by omega)
      unfold Rk at this
      omega
  have hp := h.srt
  rw [← List.take_append_drop J L, List.pairwise_append] at hp
  refine ⟨?_, ?_, ?_⟩
  · simp only [List.length_append, List.length_take, List.length_drop, List.length_singleton]; omega
  · rw [List.pairwise_append]
    refine ⟨hp.1, ?_, ?_⟩
    · rw [List.singleton_append, List.pairwise_cons]
      exact ⟨fun x hx => .inl (hhi' x hx), hp.2.1⟩
    · intro x hx y hy
      rw [List.singleton_append] at hy
      rcases List.mem_cons.1 hy with e | e
      · subst e
        have h1 := hlo' x hx
        have h2 := h.mem x (List.mem_of_mem_take hx)
        unfold Rk; omega
      · exact hp.2.2 x hx y e
  · intro x hx
    simp only [List.mem_append, List.mem_singleton] at hx
    rcases hx with e | e | e
    · have := h.mem x (List.mem_of_mem_take e); omega
    · subst e; omega
    · have := h.mem x (List.mem_of_mem_drop e); omega

theorem own_grown {w w' : World} {base : Nat} {e : TypeId} {size g cap k : Nat} {n : Nat} {xs : List Value} (h : w.ownsRow base e size (.slice (some ⟨g, 0, none⟩) n cap) n xs) (hg : w.grownBy w' (some k)) (hk : g ≠ k) :
    w'.ownsRow base e size (.slice (some ⟨g, 0, none⟩) n cap) n xs :=
  h.kept (row := some k) hg (.inr (by simpa [Value.ownBlock] using hk))
theorem own_base {w : World} {base base' : Nat} {e : TypeId} {size : Nat} {v : Value} {n : Nat} {xs : List Value} (h : w.ownsRow base e size v n xs) (hb : base' ≤ base) : w.ownsRow base' e size v n xs := by
  refine ⟨h.1, ?_⟩
  rcases h.2 with h2 | ⟨g, cap, cur, h1, h2, h3⟩
  · exact .inl h2
  · exact .inr ⟨g, cap, cur, h1, by omega, h3⟩

set_option maxHeartbeats 800000 in
set_option maxRecDepth 100000 in
theorem l10Order_any {N : Int} (p q : Int) (n : Nat) (hN : N = n) (hok : Hid (Ok p q)) (h3 : n ≤ 500) (w : World) :
    Calls Try.prog 106 #[.int .i64 p, .int .i64 q, .int .i64 N] w fun e w' => ∃ L, Good p q n L ∧ NewInts w L e w' := by
  subst hN
  obtain ⟨p0, p1, q0, q1⟩ := hok.out
  go_enter Try.func106, Try.ntmps106
  go_wp2_with fail
  go_loopg [7, 8] n (fun k sv iv wr => ∃ (i g cap : Nat) (L : List Int), i + k = n ∧ sv = .slice (some ⟨g, 0, none⟩) i cap ∧ iv = .int .i64 i ∧ wr.ownsRow w.heap.size 2 1 (.slice (some ⟨g, 0, none⟩) i cap) i (icells L) ∧ Good p q i L ∧
    Below w.heap.size w wr)
  case atStart =>
    refine ⟨0, w.heap.size, 0, [], by omega, rfl, rfl, own_new w [] 2 w.heap.size 1 0 (Nat.le_refl _) rfl (by decide), ⟨rfl, List.Pairwise.nil, fun x hx => by simp at hx⟩, below_box0 w _⟩
  case round =>
    obtain ⟨i, g, cap, L, hik, rfl, rfl, hown, hgood, hbel⟩ := hrel
    obtain ⟨ko, rfl⟩ : ∃ x, x = gk := ⟨_, rfl⟩
    have Hik := Lib.hid hik
    have hin : i ≤ n := by omega
    have Hg := Lib.hid hgood
    clear hik hgood
    have hsz := hbel.size
    have hgb := hown.lt g rfl
    have hcap : i ≤ cap ∧ cap ≤ 9223372036854775807 := by obtain ⟨_, _, _, h, h2, _⟩ := (Arr.of_own hown).2.2; unfold maxLen at h2; omega
    obtain ⟨hcap, hcap2⟩ := hcap
    by_cases hlt : i < n
    · obtain ⟨m0, m1⟩ := mul_bd (a := (i : Int)) (b := p) (A := 500) (B := 1000000) (by omega) (by omega) p0 p1
      obtain ⟨own, hown_⟩ : ∃ x, (i : Int) * p % q = x := ⟨_, rfl⟩
      go_wp2_with (first | (go_at_call 110; refine (l01Rest_any _ _ q0 (by omega) _).mono ?_; rintro e w' ⟨rfl, rfl⟩))
      have Hw := Lib.hid hown_
      clear hown_
      go_loopg [10] i (fun k av wr2 => ∃ j : Nat, j = k ∧ j ≤ i ∧ av = .int .i64 j ∧ wr2 = wr ∧ ∀ t, j ≤ t → t < i → own < key p q (L.getD t 0))
      case atStart => exact ⟨i, rfl, by omega, rfl, rfl, fun t h1 h2 => by omega⟩
      case round =>
        obtain ⟨j, hjk, hji, rfl, rfl, hhi⟩ := hrel
        have Hjk := Lib.hid hjk
        have Hhi := Lib.hid hhi
        clear hjk hhi
        by_cases hj : 0 < j
        · obtain ⟨j', rfl⟩ : ∃ j', j = j' + 1 := ⟨j - 1, by omega⟩
          have harr := (Arr.of_own hown).2.2
          have c1 := harr.cell (i := j') (by omega)
          obtain ⟨v, hv⟩ : ∃ v, L.getD j' 0 = v := ⟨_, rfl⟩
          have hvm : 0 ≤ v ∧ v < i := by
            rw [← hv]
            have : j' < L.length := by rw [Hg.out.len]; omega
            have e : L.getD j' 0 = L[j'] := by simp [this]
            rw [e]; exact Hg.out.mem _ (List.getElem_mem this)
          simp only [hv] at c1
          have Hv := Lib.hid hv
          obtain ⟨hv0, hv1⟩ := hvm
          obtain ⟨m2, m3⟩ := mul_bd (a := v) (b := p) (A := 500) (B := 1000000) (by omega) (by omega) p0 p1
          have s2 : IntKind.i64.wrap ((j' : Int) + 1 - 1) = (j' : Int) := by rw [show (j' : Int) + 1 - 1 = j' by omega]; exact IntWalk.i64_in _ (by omega)
          clear hv harr
          by_cases hk : own < v * p % q
          · go_wp2_with (first | (go_at_call 110; refine (l01Rest_any _ _ q0 (by omega) _).mono ?_; rintro e w' ⟨rfl, rfl⟩))
            go_roundg (gk - 1)
            case measure => have := Hjk.out; omega
            case rel =>
              refine ⟨j', by have := Hjk.out; omega, by omega, by go_num, rfl, fun t h1 h2 => ?_⟩
              by_cases e : t = j'
              · subst e; rw [Hv.out]; exact hk
              · exact Hhi.out t (by omega) h2
          · have hkle : v * p % q ≤ own := by omega
            clear hk
            by_cases hcj : cap = j' + 1
            · have hcj2 := hcj.symm
              subst hcj2
              have hlt1 : ((L.take (j' + 1)).length = j' + 1) := by rw [List.length_take, Hg.out.len]; omega
              have hlt2 : ((L.drop (j' + 1)).length = i - (j' + 1)) := by rw [List.length_drop, Hg.out.len]
              have Hl1 := Lib.hid hlt1
              have Hl2 := Lib.hid hlt2
              clear hlt1 hlt2
              go_wp2_with (first
                | (go_at_call 110; refine (l01Rest_any _ _ q0 (by omega) _).mono ?_; rintro e w' ⟨rfl, rfl⟩)
                | (at_builtin; (refine append_ints rfl (.tmp 43) (.tmp 46) rfl w.heap.size wr.heap.size 1 1 [(i : Int)] rfl (own_new wr [.int .i64 i] 2 w.heap.size 1 1 hsz rfl (by decide)) ⟨g, 0, none⟩ 0 0 [] rfl List.length_nil (by intro x u hx; simp [icells] at hx) (by omega) (by simp; omega) _ rfl ?_; intro g6 cap6 w6 hown6 hgr6 hat6 hlt6); have hown5 := own_grown (hown.alloc (.cells #[.int .i64 i] 2)) hgr6 (by omega); have hsz6 := hgr6.size; simp only [World.size_alloc] at hsz6)
                | (go_at_call 176; (refine (own_any ⟨g, 0, none⟩ (j' + 1) (j' + 1) (L.take (j' + 1)) Hl1 _ (Lib.hid (head_news hown5 (j' + 1))) (by simp only; omega) (by omega)).mono ?_; rintro e w7 ⟨g7, cap7, rfl, hown7, hb7⟩); have hown6' := own_below hown6 hb7; have hown7' := own_base hown7 (show w.heap.size ≤ w6.heap.size by omega); have hsz7 := hb7.size)
                | (at_builtin; (refine append_ints rfl (.tmp 51) (.tmp 52) rfl w.heap.size g7 cap7 (j' + 1) _ rfl hown7' ⟨g6, 0, none⟩ (1 + 0) cap6 ([(i : Int)] ++ []) rfl (by rw [List.length_append, List.length_nil]; rfl) (part_news hown6' 0) (by omega) (by omega) _ rfl ?_; intro g8 cap8 w8 hown8 hgr8 hat8 hlt8)))
              have e8 : j' + 1 + (1 + 0) = i + 1 := by omega
              rw [e8] at hown8
              go_roundg (ko - 1)
              case measure => have := Hik.out; omega
              case rel =>
                have hgb7 := hown7.lt g7 rfl
                refine ⟨i + 1, g8, cap8, L.take (j' + 1) ++ ([(i : Int)] ++ L.drop (j' + 1)), by have := Hik.out; omega, by first | rfl | (congr 1; done) | (congr 1; omega), by go_num, (by rw [show L.drop (j' + 1) = [] from List.eq_nil_of_length_eq_zero (by rw [Hl2.out]; omega)]; exact hown8), ?_, ?_⟩
                · refine Hg.out.ins (by omega) ?_ ?_
                  · intro t h1 h2
                    have := Hhi.out t h1 h2
                    rw [← Hw.out] at this; exact this
                  · intro t ht
                    obtain rfl : t = j' := by omega
                    rw [Hv.out]
                    have := Hw.out
                    unfold key; omega
                · have b5 : Below w.heap.size w (wr.alloc (.cells #[.int .i64 i] 2)) := hbel.alloc hsz _
                  have b6 := b5.grown hgr6 (by simp; omega) (fun k hk => by injection hk with hk; omega)
                  have b7 := b6.trans (hb7.mono (by omega))
                  exact b7.grown hgr8 (by omega) (fun k hk => by injection hk with hk; omega)
            · have hlt1 : ((L.take (j' + 1)).length = j' + 1) := by rw [List.length_take, Hg.out.len]; omega
              have hlt2 : ((L.drop (j' + 1)).length = i - (j' + 1)) := by rw [List.length_drop, Hg.out.len]
              have Hl1 := Lib.hid hlt1
              have Hl2 := Lib.hid hlt2
              clear hlt1 hlt2
              go_wp2_with (first
                | (go_at_call 110; refine (l01Rest_any _ _ q0 (by omega) _).mono ?_; rintro e w' ⟨rfl, rfl⟩)
                | (at_builtin; (refine append_ints rfl (.tmp 43) (.tmp 46) rfl w.heap.size wr.heap.size 1 1 [(i : Int)] rfl (own_new wr [.int .i64 i] 2 w.heap.size 1 1 hsz rfl (by decide)) ⟨g, j' + 1, none⟩ (i - (j' + 1)) (cap - (j' + 1)) (L.drop (j' + 1)) rfl Hl2.out (part_news (hown.alloc _) (j' + 1)) (by omega) (by simp; omega) _ rfl ?_; intro g6 cap6 w6 hown6 hgr6 hat6 hlt6); have hown5 := own_grown (hown.alloc (.cells #[.int .i64 i] 2)) hgr6 (by omega); have hsz6 := hgr6.size; simp only [World.size_alloc] at hsz6)
                | (go_at_call 176; (refine (own_any ⟨g, 0, none⟩ (j' + 1) cap (L.take (j' + 1)) Hl1 _ (Lib.hid (head_news hown5 (j' + 1))) (by simp only; omega) (by omega)).mono ?_; rintro e w7 ⟨g7, cap7, rfl, hown7, hb7⟩); have hown6' := own_below hown6 hb7; have hown7' := own_base hown7 (show w.heap.size ≤ w6.heap.size by omega); have hsz7 := hb7.size)
                | (at_builtin; (refine append_ints rfl (.tmp 51) (.tmp 52) rfl w.heap.size g7 cap7 (j' + 1) _ rfl hown7' ⟨g6, 0, none⟩ (1 + (i - (j' + 1))) cap6 ([(i : Int)] ++ (L.drop (j' + 1))) rfl (by rw [List.length_append, Hl2.out]; rfl) (part_news hown6' 0) (by omega) (by omega) _ rfl ?_; intro g8 cap8 w8 hown8 hgr8 hat8 hlt8)))
              have e8 : j' + 1 + (1 + (i - (j' + 1))) = i + 1 := by omega
              rw [e8] at hown8
              go_roundg (ko - 1)
              case measure => have := Hik.out; omega
              case rel =>
                have hgb7 := hown7.lt g7 rfl
                refine ⟨i + 1, g8, cap8, L.take (j' + 1) ++ ([(i : Int)] ++ L.drop (j' + 1)), by have := Hik.out; omega, by first | rfl | (congr 1; done) | (congr 1; omega), by go_num, hown8, ?_, ?_⟩
                · refine Hg.out.ins (by omega) ?_ ?_
                  · intro t h1 h2
                    have := Hhi.out t h1 h2
                    rw [← Hw.out] at this; exact this
                  · intro t ht
                    obtain rfl : t = j' := by omega
                    rw [Hv.out]
                    have := Hw.out
                    unfold key; omega
                · have b5 : Below w.heap.size w (wr.alloc (.cells #[.int .i64 i] 2)) := hbel.alloc hsz _
                  have b6 := b5.grown hgr6 (by simp; omega) (fun k hk => by injection hk with hk; omega)
                  have b7 := b6.trans (hb7.mono (by omega))
                  exact b7.grown hgr8 (by omega) (fun k hk => by injection hk with hk; omega)
        · by_cases hcj : cap = j
          · have hcj2 := hcj.symm
            subst hcj2
            have hlt1 : ((L.take (j)).length = j) := by rw [List.length_take, Hg.out.len]; omega
            have hlt2 : ((L.drop (j)).length = i - (j)) := by rw [List.length_drop, Hg.out.len]
            have Hl1 := Lib.hid hlt1
            have Hl2 := Lib.hid hlt2
            clear hlt1 hlt2
            go_wp2_with (first
              | (go_at_call 110; refine (l01Rest_any _ _ q0 (by omega) _).mono ?_; rintro e w' ⟨rfl, rfl⟩)
              | (at_builtin; (refine append_ints rfl (.tmp 43) (.tmp 46) rfl w.heap.size wr.heap.size 1 1 [(i : Int)] rfl (own_new wr [.int .i64 i] 2 w.heap.size 1 1 hsz rfl (by decide)) ⟨g, 0, none⟩ 0 0 [] rfl List.length_nil (by intro x u hx; simp [icells] at hx) (by omega) (by simp; omega) _ rfl ?_; intro g6 cap6 w6 hown6 hgr6 hat6 hlt6); have hown5 := own_grown (hown.alloc (.cells #[.int .i64 i] 2)) hgr6 (by omega); have hsz6 := hgr6.size; simp only [World.size_alloc] at hsz6)
              | (go_at_call 176; (refine (own_any ⟨g, 0, none⟩ (j) (j) (L.take (j)) Hl1 _ (Lib.hid (head_news hown5 (j))) (by simp only; omega) (by omega)).mono ?_; rintro e w7 ⟨g7, cap7, rfl, hown7, hb7⟩); have hown6' := own_below hown6 hb7; have hown7' := own_base hown7 (show w.heap.size ≤ w6.heap.size by omega); have hsz7 := hb7.size)
              | (at_builtin; (refine append_ints rfl (.tmp 51) (.tmp 52) rfl w.heap.size g7 cap7 (j) _ rfl hown7' ⟨g6, 0, none⟩ (1 + 0) cap6 ([(i : Int)] ++ []) rfl (by rw [List.length_append, List.length_nil]; rfl) (part_news hown6' 0) (by omega) (by omega) _ rfl ?_; intro g8 cap8 w8 hown8 hgr8 hat8 hlt8)))
            have e8 : j + (1 + 0) = i + 1 := by omega
            rw [e8] at hown8
            go_roundg (ko - 1)
            case measure => have := Hik.out; omega
            case rel =>
              have hgb7 := hown7.lt g7 rfl
              refine ⟨i + 1, g8, cap8, L.take (j) ++ ([(i : Int)] ++ L.drop (j)), by have := Hik.out; omega, by first | rfl | (congr 1; done) | (congr 1; omega), by go_num, (by rw [show L.drop (j) = [] from List.eq_nil_of_length_eq_zero (by rw [Hl2.out]; omega)]; exact hown8), ?_, ?_⟩
              · refine Hg.out.ins (by omega) ?_ ?_
                · intro t h1 h2
                  have := Hhi.out t h1 h2
                  rw [← Hw.out] at this; exact this
                · intro t ht; omega
              · have b5 : Below w.heap.size w (wr.alloc (.cells #[.int .i64 i] 2)) := hbel.alloc hsz _
                have b6 := b5.grown hgr6 (by simp; omega) (fun k hk => by injection hk with hk; omega)
                have b7 := b6.trans (hb7.mono (by omega))
                exact b7.grown hgr8 (by omega) (fun k hk => by injection hk with hk; omega)
          · have hlt1 : ((L.take (j)).length = j) := by rw [List.length_take, Hg.out.len]; omega
            have hlt2 : ((L.drop (j)).length = i - (j)) := by rw [List.length_drop, Hg.out.len]
            have Hl1 := Lib.hid hlt1
            have Hl2 := Lib.hid hlt2
            clear hlt1 hlt2
            go_wp2_with (first
              | (go_at_call 110; refine (l01Rest_any _ _ q0 (by omega) _).mono ?_; rintro e w' ⟨rfl, rfl⟩)
              | (at_builtin; (refine append_ints rfl (.tmp 43) (.tmp 46) rfl w.heap.size wr.heap.size 1 1 [(i : Int)] rfl (own_new wr [.int .i64 i] 2 w.heap.size 1 1 hsz rfl (by decide)) ⟨g, j, none⟩ (i - (j)) (cap - (j)) (L.drop (j)) rfl Hl2.out (part_news (hown.alloc _) (j)) (by omega) (by simp; omega) _ rfl ?_; intro g6 cap6 w6 hown6 hgr6 hat6 hlt6); have hown5 := own_grown (hown.alloc (.cells #[.int .i64 i] 2)) hgr6 (by omega); have hsz6 := hgr6.size; simp only [World.size_alloc] at hsz6)
              | (go_at_call 176; (refine (own_any ⟨g, 0, none⟩ (j) cap (L.take (j)) Hl1 _ (Lib.hid (head_news hown5 (j))) (by simp only; omega) (by omega)).mono ?_; rintro e w7 ⟨g7, cap7, rfl, hown7, hb7⟩); have hown6' := own_below hown6 hb7; have hown7' := own_base hown7 (show w.heap.size ≤ w6.heap.size by omega); have hsz7 := hb7.size)
              | (at_builtin; (refine append_ints rfl (.tmp 51) (.tmp 52) rfl w.heap.size g7 cap7 (j) _ rfl hown7' ⟨g6, 0, none⟩ (1 + (i - (j))) cap6 ([(i : Int)] ++ (L.drop (j))) rfl (by rw [List.length_append, Hl2.out]; rfl) (part_news hown6' 0) (by omega) (by omega) _ rfl ?_; intro g8 cap8 w8 hown8 hgr8 hat8 hlt8)))
            have e8 : j + (1 + (i - (j))) = i + 1 := by omega
            rw [e8] at hown8
            go_roundg (ko - 1)
            case measure => have := Hik.out; omega
            case rel =>
              have hgb7 := hown7.lt g7 rfl
              refine ⟨i + 1, g8, cap8, L.take (j) ++ ([(i : Int)] ++ L.drop (j)), by have := Hik.out; omega, by first | rfl | (congr 1; done) | (congr 1; omega), by go_num, hown8, ?_, ?_⟩
              · refine Hg.out.ins (by omega) ?_ ?_
                · intro t h1 h2
                  have := Hhi.out t h1 h2
                  rw [← Hw.out] at this; exact this
                · intro t ht; omega
              · have b5 : Below w.heap.size w (wr.alloc (.cells #[.int .i64 i] 2)) := hbel.alloc hsz _
                have b6 := b5.grown hgr6 (by simp; omega) (fun k hk => by injection hk with hk; omega)
                have b7 := b6.trans (hb7.mono (by omega))
                exact b7.grown hgr8 (by omega) (fun k hk => by injection hk with hk; omega)
    · have hi : i = n := by omega
      subst hi
      go_wp2_with fail
      go_ret
      refine ⟨L, Hg.out, g, cap, by rw [Hg.out.len]; rfl, ?_, hbel⟩
      rw [Hg.out.len]; exact hown

end Go.Proofs.Ytcphdmhcpjfedaa

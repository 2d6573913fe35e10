/- The cycle of a form, as the reference finds it. -/
import Derived.Test.YtcphdmhcpjfedaaCnd
namespace Go.Proofs.Ytcphdmhcpjfedaa
open Go.RowKit

set_option maxHeartbeats 400000 in
set_option maxRecDepth 100000 in
theorem l06Cycle_any (x : Fm) (D : Int) (R N : Nat) (hw : Hid (Way x D R N)) (w : World) :
    Calls Try.prog 100 #[.agg #[.int .i64 x.a, .int .i64 x.b, .int .i64 x.c]] w (NewForms w ((List.range N).map (it (it x R)))) := by
  have hok := Lib.hid hw.out.ok
  obtain ⟨W, hW⟩ : ∃ W, Hid (root D = W) := ⟨_, rfl⟩
  go_enter Try.func100, Try.ntmps100
  have hsx : Hid (small ⟨x.a, x.b, x.c⟩) := hw.out.few 0
  have hdx : dsc ⟨x.a, x.b, x.c⟩ = D := hw.out.disc 0
  have hWo : root D = W := hW.out
  have hD4 : D ≤ 4000 := hok.out.2.1
  go_wp2_with (first | (go_at_call 119; refine (l06Disc_any ⟨x.a, x.b, x.c⟩ hsx.out _).mono ?_; rintro e w0 ⟨rfl, hb0⟩) | (go_at_call 121; refine (l06Root_any _ hD4 _).mono ?_; rintro e w' ⟨rfl, rfl⟩))
  have hblk0 : Fb w0 w.heap.size x.a x.b x.c := (Fb.new w x.a x.b x.c).below hb0
  have hbel0 : Below w.heap.size w w0 := below_box hb0 (by simp)
  clear hdx hWo
  go_loopg [] R (fun k wr => ∃ r, r + k = R ∧ Fb wr w.heap.size (it x r).a (it x r).b (it x r).c ∧ Below w.heap.size w wr)
  case atStart => exact ⟨0, by omega, hblk0, hbel0⟩
  case round =>
    obtain ⟨r, hr, hblk, hbel⟩ := hrel
    have Hr := Lib.hid hr
    clear hr
    obtain ⟨a, b, c, hy⟩ : ∃ a b c, it x r = ⟨a, b, c⟩ := ⟨_, _, _, rfl⟩
    rw [hy] at hblk
    simp only at hblk
    obtain ⟨c0, c1, c2⟩ := hblk.cell
    have hsm : Hid (small ⟨a, b, c⟩) := by rw [← hy]; exact hw.out.few r
    have hdd : Hid (dsc ⟨a, b, c⟩ = D) := by rw [← hy]; exact hw.out.disc r
    have hc : Hid (c ≠ 0) := c_ne (x := ⟨a, b, c⟩) (by rw [hdd.out]; exact hok.out)
    have Hy := Lib.hid hy
    clear hy
    by_cases hlt : r < R
    · have hred : Hid (redB ⟨a, b, c⟩ W = false) := by rw [← Hy.out, ← hW.out]; exact hw.out.wild r hlt
      obtain ⟨a', b', c', hz⟩ : ∃ a' b' c', it x (r + 1) = ⟨a', b', c'⟩ := ⟨_, _, _, rfl⟩
      have hnx : Hid (nextD ⟨a, b, c⟩ D W = ⟨a', b', c'⟩) := by rw [← hz]; show _ = nextF (it x r); rw [Hy.out, ← hW.out, ← hdd.out]; rfl
      have Hz := Lib.hid hz
      clear hz
      go_wp2_with (first | (go_at_call 126; refine (l06Reduced_to hsm hok hW hred _).mono ?_; rintro e w1 ⟨rfl, hb1⟩; have hblk1 := hblk.below hb1; obtain ⟨d0, d1, d2⟩ := hblk1.cell) | (go_at_call 120; refine (l06Next_to hsm hok hW hc hnx _).mono ?_; rintro e w2 ⟨rfl, hb2⟩; have hblk2 := hblk1.below hb2; obtain ⟨e0, e1, e2⟩ := hblk2.cell; have f2 := hblk2.frozen))
      go_roundg (gk - 1)
      case measure => have := Hr.out; omega
      case rel =>
        refine ⟨r + 1, by have := Hr.out; omega, ?_, ?_⟩
        · rw [Hz.out]; exact hblk2.set3 a' b' c'
        · have hb : Below w.heap.size w w2 := (hbel.trans (hb1.mono hbel.size)).trans (hb2.mono (Nat.le_trans hbel.size hb1.size))
          exact ((hb.setCell (Nat.le_refl _) _).setCell (Nat.le_refl _) _).setCell (Nat.le_refl _) _
    · have hrR : r = R := by have := Hr.out; omega
      subst hrR
      have hred : Hid (redB ⟨a, b, c⟩ W = true) := by rw [← Hy.out, ← hW.out]; exact hw.out.tame
      obtain ⟨a', b', c', hz⟩ : ∃ a' b' c', it x (r + 1) = ⟨a', b', c'⟩ := ⟨_, _, _, rfl⟩
      have hnx : Hid (nextD ⟨a, b, c⟩ D W = ⟨a', b', c'⟩) := by rw [← hz]; show _ = nextF (it x r); rw [Hy.out, ← hW.out, ← hdd.out]; rfl
      have Hz := Lib.hid hz
      clear hz
      go_wp2_with (first | (go_at_call 126; refine (l06Reduced_to hsm hok hW hred _).mono ?_; rintro e w1 ⟨rfl, hb1⟩; have hblk1 := hblk.below hb1; obtain ⟨d0, d1, d2⟩ := hblk1.cell; have da0 := fun o => (hblk1.alloc o).cell.1; have da1 := fun o => (hblk1.alloc o).cell.2.1; have da2 := fun o => (hblk1.alloc o).cell.2.2) | (go_at_call 120; refine (l06Next_to hsm hok hW hc hnx _).mono ?_; rintro e w2 ⟨rfl, hb2⟩))
      have hs1 : w.heap.size ≤ w1.heap.size := Nat.le_trans hbel.size hb1.size
      have hs2 : w1.heap.size + 1 ≤ w2.heap.size := by have := hb2.size; simpa using this
      have hblk2 : Fb w2 w.heap.size a b c := (hblk1.alloc _).below hb2
      have hblk1' := hblk1.lt
      clear hblk1 c0 c1 c2 d0 d1 d2 da0 da1 da2
      go_loopg [5, 6] (N - 1) (fun k t3 t4 wr => ∃ i g cap yb, i + k = N ∧ 1 ≤ i ∧ t3 = .slice (some ⟨g, 0, none⟩) i cap ∧ t4 = .pointer (some ⟨yb, 0, none⟩) ∧
        wr.ownsRow w.heap.size 39 3 (.slice (some ⟨g, 0, none⟩) i cap) i (fcells ((List.range i).map (it ⟨a, b, c⟩))) ∧ Fb wr yb (it ⟨a, b, c⟩ i).a (it ⟨a, b, c⟩ i).b (it ⟨a, b, c⟩ i).c ∧
        Fb wr w.heap.size a b c ∧ (yb ≠ g ∧ g ≠ w.heap.size ∧ yb ≠ w.heap.size ∧ w.heap.size ≤ yb) ∧ Below w.heap.size w wr)
      case atStart =>
        refine ⟨1, w1.heap.size, 1, w2.heap.size, by have := hw.out.per.1; omega, Nat.le_refl _, rfl, rfl, ?_, ?_, ?_, ⟨by omega, by omega, by omega, by omega⟩, ?_⟩
        · have h := own_new w1 (fcells [⟨a, b, c⟩]) 39 w.heap.size 3 1 hs1 rfl (by decide)
          exact own_below (own_below h hb2) (below_box0 _ _)
        · have hz2 : it ⟨a, b, c⟩ 1 = ⟨a', b', c'⟩ := by rw [← Hy.out, it_add]; exact Hz.out
          rw [hz2]
          exact Fb.new w2 a' b' c'
        · exact hblk2.alloc _
        · exact ((((hbel.trans (hb1.mono hbel.size)).alloc hs1 _).trans (hb2.mono (by simp; omega))).alloc (by omega) _)
      case round =>
        obtain ⟨i, g, cap, yb, hiN, hi1, rfl, rfl, hown, hyb, hxb, ⟨n1, n2, n3, n4⟩, hbw⟩ := hrel
        have HiN := Lib.hid hiN
        clear hiN
        have hsz := hbw.size
        obtain ⟨p, q, s, hz'⟩ : ∃ p q s, it ⟨a, b, c⟩ i = ⟨p, q, s⟩ := ⟨_, _, _, rfl⟩
        rw [hz'] at hyb
        simp only at hyb
        have hir : it ⟨a, b, c⟩ i = it x (r + i) := by rw [← Hy.out, it_add]
        have hsm' : Hid (small ⟨p, q, s⟩) := by rw [← hz', hir]; exact hw.out.few _
        have hdd' : Hid (dsc ⟨p, q, s⟩ = D) := by rw [← hz', hir]; exact hw.out.disc _
        have hc' : Hid (s ≠ 0) := c_ne (x := ⟨p, q, s⟩) (by rw [hdd'.out]; exact hok.out)
        obtain ⟨p', q', s', hz2⟩ : ∃ p' q' s', it ⟨a, b, c⟩ (i + 1) = ⟨p', q', s'⟩ := ⟨_, _, _, rfl⟩
        have hnx' : Hid (nextD ⟨p, q, s⟩ D W = ⟨p', q', s'⟩) := by rw [← hz2]; show _ = nextF (it ⟨a, b, c⟩ i); rw [hz', ← hW.out, ← hdd'.out]; rfl
        have hper := hw.out.per
        rw [Hy.out] at hper
        obtain ⟨c0, c1, c2⟩ := hyb.cell
        obtain ⟨d0, d1, d2⟩ := hxb.cell
        by_cases hlt : i < N
        · have hq1 : eqF p q s a b c = false := eqF_false.2 (by rw [← hz']; exact hper.2.2.2 i hi1 hlt)
          have hbnd : i ≤ 10000 := by have := hper.2.1; omega
          have hlist : fcells ((List.range i).map (it ⟨a, b, c⟩) ++ [⟨p, q, s⟩]) = fcells ((List.range (i + 1)).map (it ⟨a, b, c⟩)) := by rw [List.range_succ, List.map_append, ← hz']; rfl
          have Hper := Lib.hid hper
          have Hz1 := Lib.hid hz'
          have Hz2 := Lib.hid hz2
          have Hir := Lib.hid hir
          have Hlist := Lib.hid hlist
          clear hper hz' hz2 hir hlist
          have hsame := form_neq
          have hguard := guard_form
          go_wp2_with (first | (at_builtin; refine append_form rfl (.tmp 32) (.tmp 34) rfl w.heap.size g cap i _ rfl (hown.alloc _) p q s wr.heap.size rfl (heap_alloc_new wr _) (by omega) (by simp; omega) _ rfl ?_; intro g' cap' w3 hown' hgr hat hlt'; have hat1 : g' = g ∨ g' = wr.heap.size + 1 := (by simpa using hat); clear hat; have hyb3 := (hyb.alloc _).grown hgr n1; have hxb3 := (hxb.alloc _).grown hgr (Ne.symm n2); obtain ⟨k0, k1, k2⟩ := hyb3.cell) | (go_at_call 120; refine (l06Next_to hsm' hok hW hc' hnx' _).mono ?_; rintro e w4 ⟨rfl, hb4⟩; have hy4 := (Fb.new w3 p q s).below hb4; obtain ⟨l0, l1, l2⟩ := hy4.cell; have l3 := hy4.frozen))
          have hlt3 := hgr.size
          simp only [World.size_alloc] at hlt3
          have hlt4 := hb4.size
          simp only [World.size_alloc] at hlt4
          have hgw := (hown.lt g rfl)
          go_roundg (gk - 1)
          case measure => have := HiN.out; omega
          case rel =>
            refine ⟨i + 1, g', cap', w3.heap.size, by have := HiN.out; omega, by omega, rfl, rfl, ?_, ?_, ?_, ⟨by omega, by omega, by omega, by omega⟩, ?_⟩
            · rw [Hlist.out] at hown'
              have h4 := own_below (hown'.alloc _) hb4
              have hne : w3.heap.size ≠ g' := by omega
              exact own_far (own_far (own_far h4 hne _) hne _) hne _
            · rw [Hz2.out]; exact hy4.set3 p' q' s'
            · have h4 := (hxb3.alloc _).below hb4
              have hne : w.heap.size ≠ w3.heap.size := by omega
              exact ((h4.far (p := ⟨w3.heap.size, 0, none⟩) hne _).far (p := ⟨w3.heap.size, 1, none⟩) hne _).far (p := ⟨w3.heap.size, 2, none⟩) hne _
            · have b1 := hbw.alloc hsz (.cells #[.int .i64 p, .int .i64 q, .int .i64 s] 39)
              have b2 := b1.grown hgr (by simp; omega) (fun k hk => by injection hk with hk; omega)
              have b3 := b2.alloc (by omega) (.cells #[.int .i64 p, .int .i64 q, .int .i64 s] 39)
              have b4 := b3.trans (hb4.mono (by simp; omega))
              have hne : w.heap.size ≤ w3.heap.size := by omega
              exact ((b4.setCell (p := ⟨w3.heap.size, 0, none⟩) hne _).setCell (p := ⟨w3.heap.size, 1, none⟩) hne _).setCell (p := ⟨w3.heap.size, 2, none⟩) hne _
        · have hiN' : i = N := by have := HiN.out; omega
          subst hiN'
          have hq1 : eqF p q s a b c = true := eqF_true.2 (by rw [← hz']; exact hper.2.2.1)
          have Hper := Lib.hid hper
          have Hz1 := Lib.hid hz'
          have Hz2 := Lib.hid hz2
          have Hir := Lib.hid hir
          clear hper hz' hz2 hir
          have hsame := form_neq
          have hguard := guard_form
          go_wp2_with (fail)
          go_ret
          have hlen : ((List.range i).map (it (it x r))).length = i := by simp
          refine ⟨g, cap, ?_, ?_, hbw⟩
          · rw [hlen]; rfl
          · rw [hlen, Hy.out]; exact hown

end Go.Proofs.Ytcphdmhcpjfedaa

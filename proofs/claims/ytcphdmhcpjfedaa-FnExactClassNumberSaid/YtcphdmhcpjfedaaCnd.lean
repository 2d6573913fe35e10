/- append of one form; the cycle of a form. -/
import Derived.Test.YtcphdmhcpjfedaaCnc
import Derived.Deep.LoopGhost
namespace Go.Proofs.Ytcphdmhcpjfedaa
open Go.RowKit

theorem info_form : (Try.prog.info? 39).map (fun i => (i.zero, i.size, i.bytes)) = some (some (.agg #[.int .i64 0, .int .i64 0, .int .i64 0]), 3, 24) := by kernel_rfl

/-- 'out = append(out, x)', x a form that lies in a new block -/
theorem append_form {ops : Array Oper} {rest : List Oper} {o : Oper} {a : Act} {Q : Exit → Act → World → Prop} {w : World} (hgd : o.guard = none) (s x : Operand)
    (ho : o.op = .call { callee := .builtin .append, args := #[s, x], argTypes := #[44, 44] })
    (base g cap n : Nat) (L : List Fm) (hs : a.eval s = .slice (some ⟨g, 0, none⟩) n cap) (hown : w.ownsRow base 39 3 (.slice (some ⟨g, 0, none⟩) n cap) n (fcells L))
    (p q r : Int) (b : Nat) (hx : a.eval x = .slice (some ⟨b, 0, none⟩) 1 1) (hb : w.heap[b]? = some (.cells #[.int .i64 p, .int .i64 q, .int .i64 r] 39 (0, 0)))
    (hn : n ≤ 1000000000) (hbase : base ≤ w.heap.size) (H : Nat) (hH : w.heap.size = H)
    (h : ∀ g' cap' w', w'.ownsRow base 39 3 (.slice (some ⟨g', 0, none⟩) (n + 1) cap') (n + 1) (fcells (L ++ [⟨p, q, r⟩])) → w.grownBy w' (some g) → (g' = g ∨ g' = H) → g' < w'.heap.size →
      wpList Try.prog ops Q rest (a.put o.dst (.slice (some ⟨g', 0, none⟩) (n + 1) cap')) w') :
    wpList Try.prog ops Q (o :: rest) a w := by
  obtain ⟨i, hi, hz0, hz1, hz2⟩ := info_parts info_form
  refine wpList_append_lies w hgd s x _ ho base 39 i _ 3 24 Try.underlying44 hi hz0 hz1 hz2 rfl (by decide) _ n (fcells L) hs hown ⟨b, 0, none⟩ 1 1 (fcells [⟨p, q, r⟩]) hx rfl
    (World.news_of_block hb) (fcells_one _) (by decide) (by unfold maxLen; omega) (by omega) hbase H hH ?_
  intro g' cap' w' h1 h2 h3 h4
  rw [← fcells_append] at h1
  refine h g' cap' w' h1 h2 ?_ h4
  rcases h3 with h3 | h3
  · exact .inl (by simpa [Value.ownBlock] using h3.symm)
  · exact .inr h3

/-- the forms that are first found from x on are reduced at R; all of them have numbers of points, and one discriminant -/
structure Way (x : Fm) (D : Int) (R N : Nat) : Prop where
  ok : okD D
  disc : ∀ i, dsc (it x i) = D
  few : ∀ i, small (it x i)
  wild : ∀ i, i < R → redB (it x i) (root D) = false
  tame : redB (it x R) (root D) = true
  per : Per (it x R) N

theorem it_add (x : Fm) (i : Nat) : ∀ j, it (it x i) j = it x (i + j)
  | 0 => rfl
  | j + 1 => by rw [it, it_add x i j]; rfl


theorem next_to {a b c a' b' c' D W : Int} (hs : Hid (small ⟨a, b, c⟩)) (hdd : Hid (dsc ⟨a, b, c⟩ = D)) (hd : Hid (okD D)) (hW : Hid (root D = W)) (hn : Hid (nextD ⟨a, b, c⟩ D W = ⟨a', b', c'⟩)) (w : World) :
    Calls Try.prog 117 #[.agg #[.int .i64 a, .int .i64 b, .int .i64 c]] w fun e w' => e = .returned (.agg #[.int .i64 a', .int .i64 b', .int .i64 c']) ∧ Below w.heap.size w w' :=
  (next_abc a b c D W hs hdd.out hd hW.out w).mono fun _ _ h => ⟨h.1.trans (by rw [hn.out]; rfl), h.2⟩

theorem l06Next_to {a b c a' b' c' D W : Int} (hs : Hid (small ⟨a, b, c⟩)) (hd : Hid (okD D)) (hW : Hid (root D = W)) (hc : Hid (c ≠ 0)) (hn : Hid (nextD ⟨a, b, c⟩ D W = ⟨a', b', c'⟩)) (w : World) :
    Calls Try.prog 120 #[.agg #[.int .i64 a, .int .i64 b, .int .i64 c], .int .i64 D, .int .i64 W] w fun e w' => e = .returned (.agg #[.int .i64 a', .int .i64 b', .int .i64 c']) ∧ Below w.heap.size w w' :=
  (l06Next_abc a b c D W hs hd hW.out hc.out w).mono fun _ _ h => ⟨h.1.trans (by rw [hn.out]; rfl), h.2⟩

theorem reduced_to {a b c D W : Int} {r : Bool} (hs : Hid (small ⟨a, b, c⟩)) (hdd : Hid (dsc ⟨a, b, c⟩ = D)) (hd : Hid (okD D)) (hW : Hid (root D = W)) (hr : Hid (redB ⟨a, b, c⟩ W = r)) (w : World) :
    Calls Try.prog 125 #[.agg #[.int .i64 a, .int .i64 b, .int .i64 c]] w fun e w' => e = .returned (.bool r) ∧ Below w.heap.size w w' :=
  (reduced_abc a b c D W hs hdd.out hd.out.2.1 hW.out w).mono fun _ _ h => ⟨h.1.trans (by rw [hr.out]), h.2⟩

theorem l06Reduced_to {a b c D W : Int} {r : Bool} (hs : Hid (small ⟨a, b, c⟩)) (hd : Hid (okD D)) (hW : Hid (root D = W)) (hr : Hid (redB ⟨a, b, c⟩ W = r)) (w : World) :
    Calls Try.prog 126 #[.agg #[.int .i64 a, .int .i64 b, .int .i64 c], .int .i64 W] w fun e w' => e = .returned (.bool r) ∧ Below w.heap.size w w' :=
  (l06Reduced_abc a b c W hs (hW.out ▸ (root_bd D hd.out.2.1).1) (hW.out ▸ (root_bd D hd.out.2.1).2) w).mono fun _ _ h => ⟨h.1.trans (by rw [hr.out]), h.2⟩

/-- the call hands back a new list of forms -/
def NewForms (w : World) (L : List Fm) (e : Ending) (w' : World) : Prop :=
  ∃ g cap, e = .returned (.slice (some ⟨g, 0, none⟩) L.length cap) ∧ w'.ownsRow w.heap.size 39 3 (.slice (some ⟨g, 0, none⟩) L.length cap) L.length (fcells L) ∧ Below w.heap.size w w'

/-- a block that holds one form -/
def Fb (w : World) (g : Nat) (a b c : Int) : Prop := w.heap[g]? = some (.cells #[.int .i64 a, .int .i64 b, .int .i64 c] 39 (0, 0))
theorem Fb.cell {w : World} {g : Nat} {a b c : Int} (h : Fb w g a b c) : w.cell? ⟨g, 0, none⟩ = some (.int .i64 a) ∧ w.cell? ⟨g, 1, none⟩ = some (.int .i64 b) ∧ w.cell? ⟨g, 2, none⟩ = some (.int .i64 c) :=
  ⟨cell_of_row w g 0 _ _ _ h, cell_of_row w g 1 _ _ _ h, cell_of_row w g 2 _ _ _ h⟩
theorem Fb.frozen {w : World} {g : Nat} {a b c : Int} (h : Fb w g a b c) (i : Nat) : w.frozen? ⟨g, i, none⟩ = false := by
  unfold Fb at h; simp [World.frozen?, h]
theorem Fb.lt {w : World} {g : Nat} {a b c : Int} (h : Fb w g a b c) : g < w.heap.size := by
  rcases Nat.lt_or_ge g w.heap.size with hlt | hge
  · exact hlt
  · unfold Fb at h; rw [Array.getElem?_eq_none hge] at h; cases h
theorem Fb.below {w w' : World} {g : Nat} {a b c : Int} (h : Fb w g a b c) (hb : Below w.heap.size w w') : Fb w' g a b c := (hb.block g h.lt).trans h
theorem Fb.alloc {w : World} {g : Nat} {a b c : Int} (h : Fb w g a b c) (o : Obj) : Fb (w.alloc o) g a b c := (Below.heap_alloc w o g h.lt).trans h
theorem Fb.new (w : World) (a b c : Int) : Fb (w.alloc (.cells #[.int .i64 a, .int .i64 b, .int .i64 c] 39)) w.heap.size a b c := heap_alloc_new w _
theorem Fb.far {w : World} {g : Nat} {a b c : Int} (h : Fb w g a b c) {p : Addr} (hp : g ≠ p.block) (u : Value) : Fb (w.setCell p u) g a b c := (Below.heap_setCell w p u g hp).trans h
theorem Fb.grown {w w' : World} {g k : Nat} {a b c : Int} (h : Fb w g a b c) (hg : w.grownBy w' (some k)) (hk : g ≠ k) : Fb w' g a b c := (hg.block g h.lt (fun e => hk (by injection e))).trans h
/-- all three numbers stored anew -/
theorem Fb.set3 {w : World} {g : Nat} {a b c : Int} (h : Fb w g a b c) (p q r : Int) : Fb (((w.setCell ⟨g, 0, none⟩ (.int .i64 p)).setCell ⟨g, 1, none⟩ (.int .i64 q)).setCell ⟨g, 2, none⟩ (.int .i64 r)) g p q r := by
  unfold Fb at h ⊢
  simp [World.setCell, Array.getElem?_modify, h]

set_option maxHeartbeats 400000 in
set_option maxRecDepth 100000 in
theorem cycle_any (x : Fm) (D : Int) (R N : Nat) (hw : Hid (Way x D R N)) (w : World) :
    Calls Try.prog 103 #[.agg #[.int .i64 x.a, .int .i64 x.b, .int .i64 x.c]] w (NewForms w ((List.range N).map (it (it x R)))) := by
  have hok := Lib.hid hw.out.ok
  obtain ⟨W, hW⟩ : ∃ W, Hid (root D = W) := ⟨_, rfl⟩
  go_enter Try.func103, Try.ntmps103
  go_wp2_with fail
  go_loopg [] R (fun k wr => ∃ r, r + k = R ∧ Fb wr w.heap.size (it x r).a (it x r).b (it x r).c ∧ Below w.heap.size w wr)
  case atStart => exact ⟨0, by omega, Fb.new w _ _ _, below_box0 w _⟩
  case round =>
    obtain ⟨r, hr, hblk, hbel⟩ := hrel
    have Hr := Lib.hid hr
    clear hr
    obtain ⟨a, b, c, hy⟩ : ∃ a b c, it x r = ⟨a, b, c⟩ := ⟨_, _, _, rfl⟩
    rw [hy] at hblk
    simp only at hblk
    obtain ⟨c0, c1, c2⟩ := hblk.cell
    have hsm : Hid (small ⟨a, b, c⟩) := by rw [← hy]; exact hw.out.few r
    have hdd : Hid (dsc ⟨a, b, c⟩ = D) := by rw [← hy]; exact hw.out.disc r
    have Hy := Lib.hid hy
    clear hy
    by_cases hlt : r < R
    · have hred : Hid (redB ⟨a, b, c⟩ W = false) := by rw [← Hy.out, ← hW.out]; exact hw.out.wild r hlt
      obtain ⟨a', b', c', hz⟩ : ∃ a' b' c', it x (r + 1) = ⟨a', b', c'⟩ := ⟨_, _, _, rfl⟩
      have hnx : Hid (nextD ⟨a, b, c⟩ D W = ⟨a', b', c'⟩) := by rw [← hz]; show _ = nextF (it x r); rw [Hy.out, ← hW.out, ← hdd.out]; rfl
      have Hz := Lib.hid hz
      clear hz
      go_wp2_with (first | (go_at_call 125; refine (reduced_to hsm hdd hok hW hred _).mono ?_; rintro e w1 ⟨rfl, hb1⟩; have hblk1 := hblk.below hb1; obtain ⟨d0, d1, d2⟩ := hblk1.cell) | (go_at_call 117; refine (next_to hsm hdd hok hW hnx _).mono ?_; rintro e w2 ⟨rfl, hb2⟩; have hblk2 := hblk1.below hb2; obtain ⟨e0, e1, e2⟩ := hblk2.cell; have f2 := hblk2.frozen))
      go_roundg (gk - 1)
      case measure => have := Hr.out; omega
      case rel =>
        refine ⟨r + 1, by have := Hr.out; omega, ?_, ?_⟩
        · rw [Hz.out]; exact hblk2.set3 a' b' c'
        · have hb : Below w.heap.size w w2 := (hbel.trans (hb1.mono hbel.size)).trans (hb2.mono (Nat.le_trans hbel.size hb1.size))
          exact ((hb.setCell (Nat.le_refl _) _).setCell (Nat.le_refl _) _).setCell (Nat.le_refl _) _
    · have hrR : r = R := by have := Hr.out; omega
      subst hrR
      have hred : Hid (redB ⟨a, b, c⟩ W = true) := by rw [← Hy.out, ← hW.out]; exact hw.out.tame
      obtain ⟨a', b', c', hz⟩ : ∃ a' b' c', it x (r + 1) = ⟨a', b', c'⟩ := ⟨_, _, _, rfl⟩
      have hnx : Hid (nextD ⟨a, b, c⟩ D W = ⟨a', b', c'⟩) := by rw [← hz]; show _ = nextF (it x r); rw [Hy.out, ← hW.out, ← hdd.out]; rfl
      have Hz := Lib.hid hz
      clear hz
      go_wp2_with (first | (go_at_call 125; refine (reduced_to hsm hdd hok hW hred _).mono ?_; rintro e w1 ⟨rfl, hb1⟩; have hblk1 := hblk.below hb1; obtain ⟨d0, d1, d2⟩ := hblk1.cell; have da0 := fun o => (hblk1.alloc o).cell.1; have da1 := fun o => (hblk1.alloc o).cell.2.1; have da2 := fun o => (hblk1.alloc o).cell.2.2) | (go_at_call 117; refine (next_to hsm hdd hok hW hnx _).mono ?_; rintro e w2 ⟨rfl, hb2⟩))
      have hs1 : w.heap.size ≤ w1.heap.size := Nat.le_trans hbel.size hb1.size
      have hs2 : w1.heap.size + 1 ≤ w2.heap.size := by have := hb2.size; simpa using this
      have hblk2 : Fb w2 w.heap.size a b c := (hblk1.alloc _).below hb2
      have hblk1' := hblk1.lt
      clear hblk1 c0 c1 c2 d0 d1 d2 da0 da1 da2
      go_loopg [3, 4] (N - 1) (fun k t3 t4 wr => ∃ i g cap yb, i + k = N ∧ 1 ≤ i ∧ t3 = .slice (some ⟨g, 0, none⟩) i cap ∧ t4 = .pointer (some ⟨yb, 0, none⟩) ∧
        wr.ownsRow w.heap.size 39 3 (.slice (some ⟨g, 0, none⟩) i cap) i (fcells ((List.range i).map (it ⟨a, b, c⟩))) ∧ Fb wr yb (it ⟨a, b, c⟩ i).a (it ⟨a, b, c⟩ i).b (it ⟨a, b, c⟩ i).c ∧
        Fb wr w.heap.size a b c ∧ (yb ≠ g ∧ g ≠ w.heap.size ∧ yb ≠ w.heap.size ∧ w.heap.size ≤ yb) ∧ Below w.heap.size w wr)
      case atStart =>
        refine ⟨1, w1.heap.size, 1, w2.heap.size, by have := hw.out.per.1; omega, Nat.le_refl _, rfl, rfl, ?_, ?_, ?_, ⟨by omega, by omega, by omega, by omega⟩, ?_⟩
        · have h := own_new w1 (fcells [⟨a, b, c⟩]) 39 w.heap.size 3 1 hs1 rfl (by decide)
          exact own_below (own_below h hb2) (below_box0 _ _)
        · have hz2 : it ⟨a, b, c⟩ 1 = ⟨a', b', c'⟩ := by rw [← Hy.out, it_add]; exact Hz.out
          rw [hz2]
          exact Fb.new w2 a' b' c'
        · exact hblk2.alloc _
        · exact ((((hbel.trans (hb1.mono hbel.size)).alloc hs1 _).trans (hb2.mono (by simp; omega))).alloc (by omega) _)
      case round =>
        obtain ⟨i, g, cap, yb, hiN, hi1, rfl, rfl, hown, hyb, hxb, ⟨n1, n2, n3, n4⟩, hbw⟩ := hrel
        have HiN := Lib.hid hiN
        clear hiN
        have hsz := hbw.size
        obtain ⟨p, q, s, hz'⟩ : ∃ p q s, it ⟨a, b, c⟩ i = ⟨p, q, s⟩ := ⟨_, _, _, rfl⟩
        rw [hz'] at hyb
        simp only at hyb
        have hir : it ⟨a, b, c⟩ i = it x (r + i) := by rw [← Hy.out, it_add]
        have hsm' : Hid (small ⟨p, q, s⟩) := by rw [← hz', hir]; exact hw.out.few _
        have hdd' : Hid (dsc ⟨p, q, s⟩ = D) := by rw [← hz', hir]; exact hw.out.disc _
        obtain ⟨p', q', s', hz2⟩ : ∃ p' q' s', it ⟨a, b, c⟩ (i + 1) = ⟨p', q', s'⟩ := ⟨_, _, _, rfl⟩
        have hnx' : Hid (nextD ⟨p, q, s⟩ D W = ⟨p', q', s'⟩) := by rw [← hz2]; show _ = nextF (it ⟨a, b, c⟩ i); rw [hz', ← hW.out, ← hdd'.out]; rfl
        have hper := hw.out.per
        rw [Hy.out] at hper
        obtain ⟨c0, c1, c2⟩ := hyb.cell
        obtain ⟨d0, d1, d2⟩ := hxb.cell
        by_cases hlt : i < N
        · have hq1 : eqF p q s a b c = false := eqF_false.2 (by rw [← hz']; exact hper.2.2.2 i hi1 hlt)
          have hbnd : i ≤ 10000 := by have := hper.2.1; omega
          have hlist : fcells ((List.range i).map (it ⟨a, b, c⟩) ++ [⟨p, q, s⟩]) = fcells ((List.range (i + 1)).map (it ⟨a, b, c⟩)) := by rw [List.range_succ, List.map_append, ← hz']; rfl
          have Hper := Lib.hid hper
          have Hz1 := Lib.hid hz'
          have Hz2 := Lib.hid hz2
          have Hir := Lib.hid hir
          have Hlist := Lib.hid hlist
          clear hper hz' hz2 hir hlist
          have hsame := form_neq
          have hguard := guard_form
          go_wp2_with (first | (at_builtin; refine append_form rfl (.tmp 19) (.tmp 21) rfl w.heap.size g cap i _ rfl (hown.alloc _) p q s wr.heap.size rfl (heap_alloc_new wr _) (by omega) (by simp; omega) _ rfl ?_; intro g' cap' w3 hown' hgr hat hlt'; have hat1 : g' = g ∨ g' = wr.heap.size + 1 := (by simpa using hat); clear hat; have hyb3 := (hyb.alloc _).grown hgr n1; have hxb3 := (hxb.alloc _).grown hgr (Ne.symm n2); obtain ⟨k0, k1, k2⟩ := hyb3.cell) | (go_at_call 117; refine (next_to hsm' hdd' hok hW hnx' _).mono ?_; rintro e w4 ⟨rfl, hb4⟩; have hy4 := (Fb.new w3 p q s).below hb4; obtain ⟨l0, l1, l2⟩ := hy4.cell; have l3 := hy4.frozen))
          have hlt3 := hgr.size
          simp only [World.size_alloc] at hlt3
          have hlt4 := hb4.size
          simp only [World.size_alloc] at hlt4
          have hgw := (hown.lt g rfl)
          go_roundg (gk - 1)
          case measure => have := HiN.out; omega
          case rel =>
            refine ⟨i + 1, g', cap', w3.heap.size, by have := HiN.out; omega, by omega, rfl, rfl, ?_, ?_, ?_, ⟨by omega, by omega, by omega, by omega⟩, ?_⟩
            · rw [Hlist.out] at hown'
              have h4 := own_below (hown'.alloc _) hb4
              have hne : w3.heap.size ≠ g' := by omega
              exact own_far (own_far (own_far h4 hne _) hne _) hne _
            · rw [Hz2.out]; exact hy4.set3 p' q' s'
            · have h4 := (hxb3.alloc _).below hb4
              have hne : w.heap.size ≠ w3.heap.size := by omega
              exact ((h4.far (p := ⟨w3.heap.size, 0, none⟩) hne _).far (p := ⟨w3.heap.size, 1, none⟩) hne _).far (p := ⟨w3.heap.size, 2, none⟩) hne _
            · have b1 := hbw.alloc hsz (.cells #[.int .i64 p, .int .i64 q, .int .i64 s] 39)
              have b2 := b1.grown hgr (by simp; omega) (fun k hk => by injection hk with hk; omega)
              have b3 := b2.alloc (by omega) (.cells #[.int .i64 p, .int .i64 q, .int .i64 s] 39)
              have b4 := b3.trans (hb4.mono (by simp; omega))
              have hne : w.heap.size ≤ w3.heap.size := by omega
              exact ((b4.setCell (p := ⟨w3.heap.size, 0, none⟩) hne _).setCell (p := ⟨w3.heap.size, 1, none⟩) hne _).setCell (p := ⟨w3.heap.size, 2, none⟩) hne _
        · have hiN' : i = N := by have := HiN.out; omega
          subst hiN'
          have hq1 : eqF p q s a b c = true := eqF_true.2 (by rw [← hz']; exact hper.2.2.1)
          have Hper := Lib.hid hper
          have Hz1 := Lib.hid hz'
          have Hz2 := Lib.hid hz2
          have Hir := Lib.hid hir
          clear hper hz' hz2 hir
          have hsame := form_neq
          have hguard := guard_form
          go_wp2_with (fail)
          go_ret
          have hlen : ((List.range i).map (it (it x r))).length = i := by simp
          refine ⟨g, cap, ?_, ?_, hbw⟩
          · rw [hlen]; rfl
          · rw [hlen, Hy.out]; exact hown

end Go.Proofs.Ytcphdmhcpjfedaa

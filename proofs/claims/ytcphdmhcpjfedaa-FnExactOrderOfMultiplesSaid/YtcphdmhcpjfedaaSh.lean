/- append of numbers; the multiples in order. -/
import Derived.Test.YtcphdmhcpjfedaaSg
namespace Go.Proofs.Ytcphdmhcpjfedaa
open Go.RowKit

theorem info_int : (Try.prog.info? 2).map (fun i => (i.zero, i.size, i.bytes)) = some (some (.int .i64 0), 1, 8) := by kernel_rfl

/-- 'append(s, part...)', s not nil -/
theorem append_ints {ops : Array Oper} {rest : List Oper} {o : Oper} {a : Act} {Q : Exit → Act → World → Prop} {w : World} (hgd : o.guard = none) (s x : Operand)
    (ho : o.op = .call { callee := .builtin .append, args := #[s, x], argTypes := #[25, 25] })
    (base g cap n : Nat) (L : List Int) (hs : a.eval s = .slice (some ⟨g, 0, none⟩) n cap) (hown : w.ownsRow base 2 1 (.slice (some ⟨g, 0, none⟩) n cap) n (icells L))
    (ad : Addr) (m c : Nat) (M : List Int) (hx : a.eval x = .slice (some ad) m c) (hl : M.length = m) (hnews : ∀ j u, (icells M)[j]? = some u → w.cell? (ad.add j) = some u)
    (hn : n + m ≤ 1000000000) (hbase : base ≤ w.heap.size) (H : Nat) (hH : w.heap.size = H)
    (h : ∀ g' cap' w', w'.ownsRow base 2 1 (.slice (some ⟨g', 0, none⟩) (n + m) cap') (n + m) (icells (L ++ M)) → w.grownBy w' (some g) → (g' = g ∨ g' = H) → g' < w'.heap.size →
      wpList Try.prog ops Q rest (a.put o.dst (.slice (some ⟨g', 0, none⟩) (n + m) cap')) w') :
    wpList Try.prog ops Q (o :: rest) a w := by
  obtain ⟨i, hi, hz0, hz1, hz2⟩ := info_parts info_int
  refine wpList_append_own_at w hgd s x _ ho base 2 i _ 1 8 Try.underlying25 hi hz0 hz1 hz2 rfl (by decide) _ n (icells L) hs hown ad m c (icells M) hx (by rw [icells_length]; omega)
    hnews (icells_one _) (by unfold maxLen; omega) (by omega) hbase ?_
  intro v' w' h1 h2 h3 h4
  rw [← icells_append] at h1
  have hv : ∃ g' cap', v' = .slice (some ⟨g', 0, none⟩) (n + m) cap' ∧ g' < w'.heap.size := by
    rcases h1.2 with ⟨e, _⟩ | ⟨g', cap', cur, e, _, hb, _⟩
    · exact absurd (h3.1 e).1 (by intro x; cases x)
    · refine ⟨g', cap', e, ?_⟩
      rcases Nat.lt_or_ge g' w'.heap.size with hlt | hge
      · exact hlt
      · rw [Array.getElem?_eq_none hge] at hb; cases hb
  obtain ⟨g', cap', rfl, hlt⟩ := hv
  refine h g' cap' w' h1 h2 ?_ hlt
  rcases h4 with h4 | h4
  · exact .inl (by simpa [Value.ownBlock] using h4)
  · exact .inr (by rw [← hH]; simpa [Value.ownBlock] using h4)

/-- the call hands back a new list of numbers -/
def NewInts (w : World) (L : List Int) (e : Ending) (w' : World) : Prop :=
  ∃ g cap, e = .returned (.slice (some ⟨g, 0, none⟩) L.length cap) ∧ w'.ownsRow w.heap.size 2 1 (.slice (some ⟨g, 0, none⟩) L.length cap) L.length (icells L) ∧ Below w.heap.size w w'

def upto (i : Nat) : List Int := (List.range i).map (fun (i : Nat) => (i : Int))
theorem upto_length (i : Nat) : (upto i).length = i := by simp [upto]
theorem upto_succ (i : Nat) : upto (i + 1) = upto i ++ [(i : Int)] := by simp [upto, List.range_succ]
theorem upto_get (n i : Nat) (h : i < n) : (upto n).getD i 0 = i := by simp [upto, h]

theorem mem_upto {n : Nat} {x : Int} : x ∈ upto n ↔ 0 ≤ x ∧ x < n := by
  simp only [upto, List.mem_map, List.mem_range]
  constructor
  · rintro ⟨i, h, rfl⟩; omega
  · intro h; exact ⟨x.toNat, by omega, by omega⟩

/-- the first n multiples, in order -/
structure Good (p q : Int) (n : Nat) (L : List Int) : Prop where
  len : L.length = n
  srt : L.Pairwise (Rk (key p q))
  mem : ∀ x ∈ L, 0 ≤ x ∧ x < n

theorem sorted_unique {R : Int → Int → Prop} (ht : ∀ x y z, R x y → R y z → R x z) (hi : ∀ x, ¬ R x x) : ∀ (L M : List Int), L.Pairwise R → M.Pairwise R → (∀ x, x ∈ L ↔ x ∈ M) → L = M
  | [], [], _, _, _ => rfl
  | [], y :: M, _, _, h => absurd ((h y).2 (by simp)) (by simp)
  | x :: L, [], _, _, h => absurd ((h x).1 (by simp)) (by simp)
  | x :: L, y :: M, h1, h2, h => by
    rw [List.pairwise_cons] at h1 h2
    have exy : x = y := by
      have a1 := (h x).1 (by simp)
      have a2 := (h y).2 (by simp)
      rcases List.mem_cons.1 a1 with e | e
      · exact e
      · rcases List.mem_cons.1 a2 with e' | e'
        · exact e'.symm
        · exact absurd (ht _ _ _ (h1.1 y e') (h2.1 x e)) (hi x)
    subst exy
    rw [sorted_unique ht hi L M h1.2 h2.2]
    intro z
    have hz := h z
    simp only [List.mem_cons] at hz
    constructor
    · intro hm
      rcases hz.1 (.inr hm) with e | e
      · subst e; exact absurd (h1.1 z hm) (hi z)
      · exact e
    · intro hm
      rcases hz.2 (.inr hm) with e | e
      · subst e; exact absurd (h2.1 z hm) (hi z)
      · exact e

theorem Good.nodup {p q : Int} {n : Nat} {L : List Int} (h : Good p q n L) : L.Nodup := h.srt.imp (fun hr e => by subst e; exact hr.irrefl)

theorem Good.all {p q : Int} {n : Nat} {L : List Int} (h : Good p q n L) (x : Int) (h0 : 0 ≤ x) (h1 : x < n) : x ∈ L := by
  apply Decidable.byContradiction
  intro hx
  have hnd : (x :: L).Nodup := List.nodup_cons.2 ⟨hx, h.nodup⟩
  have h0' : ∀ y ∈ x :: L, 0 ≤ y ∧ y < n := fun y hy => by
    rcases List.mem_cons.1 hy with e | e
    · subst e; exact ⟨h0, h1⟩
    · exact h.mem y e
  have hm : ((x :: L).map Int.toNat).Nodup := by
    refine List.pairwise_map.2 (List.Pairwise.imp_of_mem (fun {a b} ha hb hr e => hr ?_) hnd)
    have h2 := h0' a ha
    have h3 := h0' b hb
    omega
  have := nodup_length_le n ((x :: L).map Int.toNat) hm (fun y hy => by
    obtain ⟨z, hz, rfl⟩ := List.mem_map.1 hy
    have := h0' z hz
    omega)
  rw [List.length_map, List.length_cons, h.len] at this
  omega

theorem Good.unique {p q : Int} {n : Nat} {L M : List Int} (h : Good p q n L) (k : Good p q n M) : L = M :=
  sorted_unique (R := Rk (key p q)) (fun _ _ _ a b => Rk.trans a b) (fun _ a => Rk.irrefl a) L M h.srt k.srt (fun x => ⟨fun hx => k.all x (h.mem x hx).1 (h.mem x hx).2, fun hx => h.all x (k.mem x hx).1 (k.mem x hx).2⟩)

theorem below_alloc2 {w w1 : World} {o o' : Obj} {B : Nat} (hb : Below B ((w.alloc o).alloc o') w1) (hB : w.heap.size + 1 ≤ B) : Below (w.heap.size + 1) (w.alloc o) w1 :=
  (Below.alloc (Below.refl _ _) (by simp) _).trans (hb.mono hB)

set_option maxHeartbeats 800000 in
set_option maxRecDepth 100000 in
theorem multiples_any {N : Int} (p q : Int) (n : Nat) (hN : N = n) (hok : Hid (Ok p q)) (h3 : n ≤ 500) (w : World) :
    Calls Try.prog 109 #[.int .i64 p, .int .i64 q, .int .i64 N] w fun e w' => ∃ L, Good p q n L ∧ NewInts w L e w' := by
  subst hN
  go_enter Try.func109, Try.ntmps109
  go_wp2_with fail
  go_loopg [7, 11] n (fun k sv iv wr => ∃ (i g cap : Nat), i + k = n ∧ sv = .slice (some ⟨g, 0, none⟩) i cap ∧ iv = .int .i64 i ∧ wr.ownsRow (w.heap.size + 2) 2 1 (.slice (some ⟨g, 0, none⟩) i cap) i (icells (upto i)) ∧
    Below (w.heap.size + 2) ((w.alloc (.cells #[.int .i64 p] 2)).alloc (.cells #[.int .i64 q] 2)) wr)
  case atStart =>
    refine ⟨0, w.heap.size + 2, 0, by omega, rfl, rfl, ?_, ?_⟩
    · have z := own_new ((w.alloc (.cells #[.int .i64 p] 2)).alloc (.cells #[.int .i64 q] 2)) [] 2 (w.heap.size + 2) 1 0 (by simp) rfl (by decide)
      simp only [World.size_alloc] at z
      exact z
    · exact Below.alloc (Below.refl _ _) (by simp) _
  case round =>
    obtain ⟨i, g, cap, hik, rfl, rfl, hown, hbel⟩ := hrel
    have Hik := Lib.hid hik
    have hin : i ≤ n := by omega
    clear hik
    have hsz := hbel.size
    have hgb := hown.lt g rfl
    simp only [World.size_alloc] at hsz
    by_cases hlt : i < n
    · go_wp2_with (first | (at_builtin; refine append_ints rfl (.tmp 14) (.tmp 16) rfl (w.heap.size + 2) g cap i _ rfl (hown.alloc _) ⟨wr.heap.size, 0, none⟩ 1 1 [(i : Int)] rfl rfl (World.news_of_block (heap_alloc_new wr _)) (by omega) (by simp; omega) _ rfl ?_; intro g6 cap6 w6 hown6 hgr6 hat6 hlt6))
      go_roundg (gk - 1)
      case measure => have := Hik.out; omega
      case rel =>
        refine ⟨i + 1, g6, cap6, by have := Hik.out; omega, rfl, by go_num, by rw [upto_succ]; exact hown6, ?_⟩
        exact (hbel.alloc (by omega) _).grown hgr6 (by simp; omega) (fun k hk => by injection hk with hk; omega)
    · have hi : i = n := by omega
      subst hi
      have harr := (Arr.of_own hown).2.2
      have c0 : wr.cell? ⟨w.heap.size, 0, none⟩ = some (.int .i64 p) := box_cells (below_alloc2 hbel (by omega)) (by omega) 0
      have c1 : wr.cell? ⟨w.heap.size + 1, 0, none⟩ = some (.int .i64 q) := by
        have z := box_cells hbel (by simp) 0
        simp only [World.size_alloc] at z
        exact z
      have hpq : PQ wr w.heap.size (w.heap.size + 1) p q := ⟨c0, c1⟩
      have hr : Hid (Rng i (fun j => (upto i).getD j 0)) := fun j hj => by simp only [upto_get i j hj]; omega
      have hinc : Hid (Inc (fun j => (upto i).getD j 0) i) := fun j k h1 h2 => by simp only [upto_get i j (by omega), upto_get i k h2]; omega
      go_wp2_with (first | (go_at_call 177; refine (SortStable_any i g cap _ p q w.heap.size (w.heap.size + 1) _ harr hpq (by omega) (by omega) hok hr hinc h3).mono ?_; rintro e w2 ⟨f2, rfl, ha2, hg2, hs2, hf2⟩))
      go_ret
      refine ⟨vals f2 i, ⟨vals_length _ _, ?_, ?_⟩, g, cap, by rw [vals_length]; rfl, ?_, ?_⟩
      · rw [List.pairwise_iff_getElem]
        intro a b ha hb hab
        rw [vals_length] at ha hb
        simp only [vals, List.getElem_map, List.getElem_range]
        exact hs2 a b (by omega) hab hb
      · intro x hx
        obtain ⟨a, ha, rfl⟩ := List.mem_map.1 hx
        obtain ⟨b, hb, e⟩ := hf2 a (List.mem_range.1 ha)
        rw [e, upto_get i b hb]; omega
      · rw [vals_length]; exact ha2.to_own (by omega)
      · have b1 : Below w.heap.size w wr := below_box2 hbel (by omega)
        exact b1.grown hg2 b1.size (fun k hk => by injection hk with hk; omega)

end Go.Proofs.Ytcphdmhcpjfedaa

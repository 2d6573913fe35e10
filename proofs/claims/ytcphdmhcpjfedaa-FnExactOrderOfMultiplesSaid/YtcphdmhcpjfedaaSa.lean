/- Arrays of numbers in memory; the comparison of multiples. -/
import Derived.Test.YtcphdmhcpjfedaaCna
import Derived.Test.YtcphdmhcpjfedaaSort
import Derived.BigRegion
import Derived.Deep.LoopGhost
namespace Go.Proofs.Ytcphdmhcpjfedaa
open Go.RowKit

/-- block g holds the numbers f 0, .., f (n - 1), and has room for cap -/
def Arr (w : World) (g n cap : Nat) (f : Nat → Int) : Prop :=
  ∃ cur : Array Value, w.heap[g]? = some (.cells cur 2 (0, 0)) ∧ cur.size = cap ∧ n ≤ cap ∧ cap ≤ maxLen ∧ ∀ i, i < n → cur[i]? = some (.int .i64 (f i))

section
variable {w w' : World} {g n cap : Nat} {f : Nat → Int}
theorem Arr.lt (h : Arr w g n cap f) : g < w.heap.size := by
  obtain ⟨cur, h, _⟩ := h
  rcases Nat.lt_or_ge g w.heap.size with hlt | hge
  · exact hlt
  · rw [Array.getElem?_eq_none hge] at h; cases h
theorem Arr.cell (h : Arr w g n cap f) {i : Nat} (hi : i < n) : w.cell? ⟨g, i, none⟩ = some (.int .i64 (f i)) := by
  obtain ⟨cur, h1, _, _, _, h2⟩ := h
  rw [cell_of_row w g i cur _ _ h1]; exact h2 i hi
theorem Arr.frozen (h : Arr w g n cap f) (i : Nat) : w.frozen? ⟨g, i, none⟩ = false := by
  obtain ⟨cur, h1, _⟩ := h
  simp [World.frozen?, h1]
theorem Arr.set (h : Arr w g n cap f) {i : Nat} (v : Int) : Arr (w.setCell ⟨g, i, none⟩ (.int .i64 v)) g n cap (upd f i v) := by
  obtain ⟨cur, h1, h2, h3, h4, h5⟩ := h
  refine ⟨cur.setIfInBounds i (.int .i64 v), ?_, by simpa using h2, h3, h4, fun j hj => ?_⟩
  · simp [World.setCell, Array.getElem?_modify, h1]
  · have := h5 j hj
    unfold upd
    rw [Array.getElem?_setIfInBounds]
    by_cases e : i = j
    · subst e; simp; omega
    · rw [if_neg e, if_neg (by omega)]; exact this
theorem Arr.keep (h : Arr w g n cap f) (hk : w'.heap[g]? = w.heap[g]?) : Arr w' g n cap f := by
  obtain ⟨cur, h1, h2⟩ := h
  exact ⟨cur, hk.trans h1, h2⟩
theorem Arr.below (h : Arr w g n cap f) (hb : Below w.heap.size w w') : Arr w' g n cap f := h.keep (hb.block g h.lt)
theorem Arr.alloc (h : Arr w g n cap f) (o : Obj) : Arr (w.alloc o) g n cap f := h.keep (Below.heap_alloc w o g h.lt)
theorem Arr.far (h : Arr w g n cap f) {p : Addr} (hp : g ≠ p.block) (u : Value) : Arr (w.setCell p u) g n cap f := h.keep (Below.heap_setCell w p u g hp)
theorem Arr.grown {k : Nat} (h : Arr w g n cap f) (hg : w.grownBy w' (some k)) (hk : g ≠ k) : Arr w' g n cap f := h.keep (hg.block g h.lt (fun e => hk (by injection e)))
theorem Arr.congr {f' : Nat → Int} (h : Arr w g n cap f) (e : ∀ i, i < n → f i = f' i) : Arr w g n cap f' := by
  obtain ⟨cur, h1, h2, h3, h4, h5⟩ := h
  exact ⟨cur, h1, h2, h3, h4, fun i hi => by rw [h5 i hi, e i hi]⟩
end

/-- numbers as cells -/
def icells (L : List Int) : List Value := L.map (Value.int .i64)
theorem icells_length (L : List Int) : (icells L).length = L.length := by simp [icells]
theorem icells_append (L M : List Int) : icells (L ++ M) = icells L ++ icells M := by simp [icells]
theorem icells_one (L : List Int) : ∀ u ∈ icells L, u.oneCell' = true := by
  intro u hu; simp only [icells, List.mem_map] at hu; obtain ⟨x, _, rfl⟩ := hu; rfl
/-- the first n numbers of a function -/
def vals (f : Nat → Int) (n : Nat) : List Int := (List.range n).map f
theorem vals_length (f : Nat → Int) (n : Nat) : (vals f n).length = n := by simp [vals]

theorem Arr.of_own {w : World} {base g n cap : Nat} {L : List Int} (h : w.ownsRow base 2 1 (.slice (some ⟨g, 0, none⟩) n cap) n (icells L)) : L.length = n ∧ base ≤ g ∧ Arr w g n cap (fun i => L.getD i 0) := by
  have hl : L.length = n := by have := h.1; rw [icells_length] at this; omega
  rcases h.2 with ⟨h1, _⟩ | ⟨g', cap', cur, h1, h2, h3, h4, h5, h6, h7⟩
  · cases h1
  · injection h1 with h1 _ hc
    injection h1 with h1
    injection h1 with h1
    subst h1
    subst hc
    refine ⟨hl, h2, cur, h3, by omega, h4, h5, fun i hi => ?_⟩
    have e : (cur.toList.take (n * 1))[i]? = (icells L)[i]? := by rw [h7]
    rw [List.getElem?_take, if_pos (by omega)] at e
    simp only [Array.getElem?_toList] at e
    rw [e]
    simp [icells, show i < L.length by omega]

theorem Arr.to_own {w : World} {base g n cap : Nat} {f : Nat → Int} (h : Arr w g n cap f) (hb : base ≤ g) : w.ownsRow base 2 1 (.slice (some ⟨g, 0, none⟩) n cap) n (icells (vals f n)) := by
  obtain ⟨cur, h1, h2, h3, h4, h5⟩ := h
  refine ⟨by rw [icells_length, vals_length]; omega, .inr ⟨g, cap, cur, rfl, hb, h1, h3, h4, by omega, ?_⟩⟩
  apply List.ext_getElem?
  intro i
  rw [List.getElem?_take]
  by_cases hi : i < n
  · rw [if_pos (by omega)]
    simp only [Array.getElem?_toList]
    rw [h5 i hi]
    simp [icells, vals, hi]
  · rw [if_neg (by omega)]
    simp [icells, vals, hi]

theorem isNaN_any (a : Int) (w : World) : Calls Try.prog 210 #[.int .i64 a] w fun e w' => e = .returned (.bool false) ∧ w = w' := by
  have h : (a != a) = false := by simp
  go_enter Try.func210, Try.ntmps210
  go_wp2
  go_ret
  exact ⟨rfl, rfl⟩

/-- what comparing two numbers answers -/
def cmpI (x y : Int) : Int := if x < y then -1 else if y < x then 1 else 0

theorem Compare_any (a b : Int) (w : World) : Calls Try.prog 179 #[.int .i64 a, .int .i64 b] w fun e w' => e = .returned (.int .i64 (cmpI a b)) ∧ w = w' := by
  rcases Int.lt_trichotomy a b with h | h | h
  all_goals
    have hc := Lib.hid (show cmpI a b = cmpI a b from rfl)
    (try subst h)
    go_enter Try.func179, Try.ntmps179
    go_wp2_with (first | (go_at_call 210; refine (isNaN_any _ _).mono ?_; rintro e w' ⟨rfl, rfl⟩))
    go_ret
    refine ⟨ret_int ?_, rfl⟩
    unfold cmpI
  · rw [if_pos h]
  · rw [if_neg (by omega), if_neg (by omega)]
  · rw [if_neg (by omega), if_pos h]

/-- both boxes of the closure -/
def PQ (w : World) (bp bq : Nat) (p q : Int) : Prop := w.cell? ⟨bp, 0, none⟩ = some (.int .i64 p) ∧ w.cell? ⟨bq, 0, none⟩ = some (.int .i64 q)

/-- the key of a multiple: its place -/
def key (p q x : Int) : Int := x * p % q

theorem cmpc_any (a b p q : Int) (bp bq : Nat) (w : World) (hpq : PQ w bp bq p q) (ha : 0 ≤ a) (ha' : a ≤ 1000000) (hb : 0 ≤ b) (hb' : b ≤ 1000000) (hp : -1000000 ≤ p) (hp' : p ≤ 1000000) (hq : 0 < q) (hq' : q ≤ 1000000) :
    Calls Try.prog 178 #[.int .i64 a, .int .i64 b, .pointer (some ⟨bp, 0, none⟩), .pointer (some ⟨bq, 0, none⟩)] w fun e w' => e = .returned (.int .i64 (cmpI (key p q a) (key p q b))) ∧ ∃ m, w' = w.drewN m := by
  obtain ⟨c0, c1⟩ := hpq
  obtain ⟨m0, m1⟩ := mul_bd (a := a) (b := p) (A := 1000000) (B := 1000000) (by omega) (by omega) (by omega) (by omega)
  obtain ⟨m2, m3⟩ := mul_bd (a := b) (b := p) (A := 1000000) (B := 1000000) (by omega) (by omega) (by omega) (by omega)
  have w1 : IntKind.i64.wrap (a * p) = a * p := IntWalk.i64_in _ (by omega)
  have w2 : IntKind.i64.wrap (b * p) = b * p := IntWalk.i64_in _ (by omega)
  go_enter Try.func178, Try.ntmps178
  go_wp2_with fail
  go_big_quiet ((first | (go_at_call 111; exact quiet_same (mod_any _ _ (by omega) (by omega) hq (by omega) _)) | (go_at_call 179; exact quiet_same (Compare_any _ _ _))))
  go_wp2
  go_ret
  exact ⟨rfl, _, rfl⟩

end Go.Proofs.Ytcphdmhcpjfedaa

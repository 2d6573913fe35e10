/- Words of my own that hang on no program: values of points and forms, rows of cells, worlds that grow. -/
import Derived.WalkKit
import Derived.WalkSpells
import Derived.WalkLawsBesides
import Derived.Deep.QuietTactic
import Derived.BigQuiet
import Derived.Deep.AppendLies
import Derived.Lib.Hide
namespace Go.Proofs.Ytcphdmhcpjfedaa
open Go.RowKit

/-- a form: three whole numbers -/
structure Fm where
  a : Int
  b : Int
  c : Int
deriving DecidableEq

def Fm.val (x : Fm) : Value := .agg #[.int .i64 x.a, .int .i64 x.b, .int .i64 x.c]
def Fm.cells (x : Fm) : List Value := [.int .i64 x.a, .int .i64 x.b, .int .i64 x.c]
def fcells (L : List Fm) : List Value := L.flatMap Fm.cells

theorem fcells_length (L : List Fm) : (fcells L).length = L.length * 3 := by
  induction L with
  | nil => rfl
  | cons x L ih => simp only [fcells, List.flatMap_cons, List.length_append, List.length_cons] at ih ⊢; rw [ih]; simp [Fm.cells]; omega

theorem fcells_append (L M : List Fm) : fcells (L ++ M) = fcells L ++ fcells M := by simp [fcells]

theorem fcells_get (L : List Fm) : ∀ k (h : k < L.length), (fcells L)[k * 3]? = some (.int .i64 L[k].a) ∧ (fcells L)[k * 3 + 1]? = some (.int .i64 L[k].b) ∧ (fcells L)[k * 3 + 2]? = some (.int .i64 L[k].c) := by
  induction L with
  | nil => intro k h; simp at h
  | cons x L ih =>
    intro k h
    have e : fcells (x :: L) = x.cells ++ fcells L := by simp [fcells]
    rw [e]
    cases k with
    | zero => simp [Fm.cells]
    | succ k =>
      have := ih k (by simpa using h)
      have e2 : (k + 1) * 3 = k * 3 + 1 + 1 + 1 := by omega
      rw [e2]
      simpa [Fm.cells, Nat.add_right_comm] using this

theorem fcells_one (L : List Fm) : ∀ u ∈ fcells L, u.oneCell' = true := by
  intro u hu
  simp only [fcells, List.mem_flatMap, Fm.cells] at hu
  obtain ⟨x, _, hx⟩ := hu
  simp at hx
  rcases hx with rfl | rfl | rfl <;> rfl

/-- the three cells of element k of an owned row of forms -/
theorem form_cells {w : World} {base : Nat} {e : TypeId} {g cap n : Nat} {L : List Fm} (h : w.ownsRow base e 3 (.slice (some ⟨g, 0, none⟩) n cap) n (fcells L)) (k : Nat) (hk : k < L.length) :
    w.cell? ⟨g, k * 3, none⟩ = some (.int .i64 L[k].a) ∧ w.cell? ⟨g, k * 3 + 1, none⟩ = some (.int .i64 L[k].b) ∧ w.cell? ⟨g, k * 3 + 2, none⟩ = some (.int .i64 L[k].c) := by
  have hc := h.cells (g := g) rfl
  obtain ⟨h0, h1, h2⟩ := fcells_get L k hk
  have a0 := hc _ _ h0
  have a1 := hc _ _ h1
  have a2 := hc _ _ h2
  simp only [Addr.add_lit, Nat.zero_add] at a0 a1 a2
  exact ⟨a0, a1, a2⟩

theorem row_length {w : World} {base : Nat} {e : TypeId} {v : Value} {n : Nat} {L : List Fm} (h : w.ownsRow base e 3 v n (fcells L)) : n = L.length := by
  have := h.1
  rw [fcells_length] at this
  omega

/-- old cells and marks read as before -/
theorem bcell {W w1 : World} (hb : Below W.heap.size W w1) : (∀ b o, b < W.heap.size → w1.cell? ⟨b, o, none⟩ = W.cell? ⟨b, o, none⟩) ∧ (∀ b o, b < W.heap.size → w1.frozen? ⟨b, o, none⟩ = W.frozen? ⟨b, o, none⟩) :=
  ⟨fun b o h => hb.cell (p := ⟨b, o, none⟩) h, fun b o h => hb.frozen (p := ⟨b, o, none⟩) h⟩

/-- a block that the call has made reads on as it was made -/
theorem box_cells {w w1 : World} {cs : Array Value} {t : TypeId} {B : Nat} (hb : Below B (w.alloc (.cells cs t)) w1) (hB : w.heap.size < B) (i : Nat) : w1.cell? ⟨w.heap.size, i, none⟩ = cs[i]? := by
  have h := hb.block w.heap.size hB
  rw [heap_alloc_new] at h
  exact cell_of_row w1 _ i cs t (0, 0) h
theorem box_block {w w1 : World} {o : Obj} {B : Nat} (hb : Below B (w.alloc o) w1) (hB : w.heap.size < B) : w1.heap[w.heap.size]? = some o := by
  have h := hb.block w.heap.size hB
  rwa [heap_alloc_new] at h

theorem below_box {w w1 : World} {o : Obj} {B : Nat} (hb : Below B (w.alloc o) w1) (hB : w.heap.size ≤ B) : Below w.heap.size w w1 :=
  Below.trans (Below.alloc (Below.refl w.heap.size w) (Nat.le_refl _) o) (Below.mono hb hB)
theorem below_box2 {w w1 : World} {o o' : Obj} {B : Nat} (hb : Below B ((w.alloc o).alloc o') w1) (hB : w.heap.size ≤ B) : Below w.heap.size w w1 :=
  Below.trans (Below.alloc (Below.alloc (Below.refl w.heap.size w) (Nat.le_refl _) o) (by simp) o') (Below.mono hb hB)
theorem below_box0 (w : World) (o : Obj) : Below w.heap.size w (w.alloc o) := Below.alloc (Below.refl w.heap.size w) (Nat.le_refl _) o

/-- a callee that leaves the world alone, inside a region that draws its order -/
theorem quiet_same {P : Program} {f : FuncId} {args : Array Value} {w : World} {n : Nat} {v : Value}
    (h : Calls P f args (w.drewN n) fun e w' => e = .returned v ∧ w.drewN n = w') : Calls P f args (w.drewN n) fun e w'' => e = .returned v ∧ ∃ m, w'' = w.drewN m :=
  h.mono fun _ _ g => ⟨g.1, n, g.2.symm⟩

/-- what is owned stays owned in a later world, and behind a store into another block -/
theorem own_below {w w' : World} {base : Nat} {e : TypeId} {size : Nat} {v : Value} {n : Nat} {xs : List Value} (h : w.ownsRow base e size v n xs) (hb : Below w.heap.size w w') : w'.ownsRow base e size v n xs :=
  h.kept (row := none) ⟨hb.os, hb.tape, hb.output, hb.size, fun k hk _ => hb.block k hk⟩ (by cases v.ownBlock <;> simp)
theorem own_far {w : World} {base : Nat} {e : TypeId} {size g cap : Nat} {n : Nat} {xs : List Value} (h : w.ownsRow base e size (.slice (some ⟨g, 0, none⟩) n cap) n xs) {p : Addr} (hp : p.block ≠ g) (u : Value) :
    (w.setCell p u).ownsRow base e size (.slice (some ⟨g, 0, none⟩) n cap) n xs :=
  h.kept (row := some p.block) ⟨rfl, rfl, rfl, by simp [World.setCell], fun k _ hk => Below.heap_setCell w p u k (fun e => hk (by rw [e]))⟩ (.inr (by simpa [Value.ownBlock] using Ne.symm hp))
/-- a new block of cells is owned whole -/
theorem own_new (w : World) (cs : List Value) (e : TypeId) (base size n : Nat) (hb : base ≤ w.heap.size) (hc : cs.length = n * size) (hn : n ≤ maxLen) :
    (w.alloc (.cells cs.toArray e)).ownsRow base e size (.slice (some ⟨w.heap.size, 0, none⟩) n n) n cs :=
  ⟨hc, .inr ⟨w.heap.size, n, cs.toArray, rfl, hb, heap_alloc_new w _, Nat.le_refl _, hn, by simpa using hc, by simp [← hc]⟩⟩

theorem ret_int {k : IntKind} {a b : Int} (h : a = b) : Ending.returned (.int k a) = .returned (.int k b) := by rw [h]
theorem ret_bool {a b : Bool} (h : a = b) : Ending.returned (.bool a) = .returned (.bool b) := by rw [h]

end Go.Proofs.Ytcphdmhcpjfedaa

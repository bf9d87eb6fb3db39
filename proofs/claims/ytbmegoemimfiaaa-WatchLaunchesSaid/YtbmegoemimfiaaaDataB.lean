/-
  Items, entries, rows of tasks as plain data; slices of them in memory; what an append leaves of other blocks.
-/
import Derived.Test.YtbmegoemimfiaaaTail
import Derived.Test.YtbmegoemimfiaaaData
import Derived.Laws.Entries
namespace Go.Proofs.Ytbmegoemimfiaaa
open Go Go.RowKit

structure Item where
  t : ByteArray
  re : Nat
  im : Nat
def Item.cells (x : Item) : List Value := [.string x.t, .complex .f64 x.re x.im]
structure Entry where
  f : ByteArray
  e : ByteArray
  run : Int
  A : Option Addr
  n : Nat
  c : Nat
  items : List Item
def Entry.cells (x : Entry) : List Value := [.string x.f, .string x.e, .int .i64 x.run, .slice x.A x.n x.c]
structure RowT where
  f : ByteArray
  t : ByteArray
  e : ByteArray
  run : Int
  re : Nat
  im : Nat
def RowT.cells (x : RowT) : List Value := [.string x.f, .string x.t, .string x.e, .int .i64 x.run, .complex .f64 x.re x.im]

def ItemsAt (w : World) (A : Option Addr) (L : List Item) : Prop := RowOf Item.cells 2 w A L
def EntriesAt (w : World) (A : Option Addr) (L : List Entry) : Prop := RowOf Entry.cells 4 w A L ∧ ∀ x ∈ L, ItemsAt w x.A x.items ∧ x.n = x.items.length
theorem EntriesAt.below {w w1 : World} {A : Option Addr} {L : List Entry} (h : EntriesAt w A L) (hb : Below w.heap.size w w1) : EntriesAt w1 A L :=
  ⟨h.1.below hb, fun x hx => ⟨RowOf.below (h.2 x hx).1 hb, (h.2 x hx).2⟩⟩

def rowOf (e : Entry) (it : Item) : RowT := ⟨e.f, it.t, e.e, e.run, it.re, it.im⟩
def rowsOf (L : List Entry) : List RowT := L.flatMap fun e => e.items.map (rowOf e)
theorem rowsOf_succ (L : List Entry) (k : Nat) (x : Entry) (h : L[k]? = some x) : rowsOf (L.take (k + 1)) = rowsOf (L.take k) ++ x.items.map (rowOf x) := by
  unfold rowsOf
  rw [List.take_add_one, h, List.flatMap_append]
  simp
theorem rowsOf_take_le (L : List Entry) (k : Nat) : (rowsOf (L.take k)).length ≤ (rowsOf L).length := by
  have h : rowsOf L = rowsOf (L.take k) ++ rowsOf (L.drop k) := by
    unfold rowsOf
    rw [← List.flatMap_append, List.take_append_drop]
  rw [h]
  simp

theorem blk_cell {w : World} {g : Nat} {t : TypeId} {cs : Array Value} (h : w.heap[g]? = some (.cells cs t (0, 0))) (i : Nat) : w.cell? ⟨g, i, none⟩ = cs[i]? := cell_of_row w g i cs t (0, 0) h
theorem blk_lt {w : World} {g : Nat} {o : Obj} (h : w.heap[g]? = some o) : g < w.heap.size := (Array.getElem?_eq_some_iff.1 h).1
theorem blk_new (w : World) (o : Obj) : (w.alloc o).heap[w.heap.size]? = some o := heap_alloc_new w o
theorem blk_below {w w1 : World} {g : Nat} {o : Obj} (h : w.heap[g]? = some o) (hb : Below w.heap.size w w1) : w1.heap[g]? = some o := (hb.block g (blk_lt h)).trans h
/-- An append to a row leaves a block of another type as it was. -/
theorem blk_grown {w w1 : World} {g : Nat} {t e : TypeId} {cs : Array Value} {base size n : Nat} {v : Value} {xs : List Value} (h : w.heap[g]? = some (.cells cs t (0, 0))) (ho : w.ownsRow base e size v n xs) (hne : e ≠ t)
    (hg : w.grownBy w1 v.ownBlock) : w1.heap[g]? = some (.cells cs t (0, 0)) := by
  refine (hg.block g (blk_lt h) fun he => ?_).trans h
  rcases ho.2 with ⟨rfl, _⟩ | ⟨g', cap, cur, rfl, _, hh, _⟩
  · simp [Value.ownBlock] at he
  · have : g = g' := by simpa [Value.ownBlock] using he
    subst this
    rw [h] at hh
    injection hh with hh
    injection hh with _ ht
    exact hne ht.symm
theorem own_alloc {w : World} {base n : Nat} {e : TypeId} {size : Nat} {v : Value} {xs : List Value} (h : w.ownsRow base e size v n xs) (o : Obj) : (w.alloc o).ownsRow base e size v n xs := h.alloc o

/-- What an owned row holds, element by element. -/
theorem own_rowOf {α : Type} {cells : α → List Value} {size : Nat} {w : World} {base n c : Nat} {e : TypeId} {A : Option Addr} {L : List α} (hsz : ∀ x, (cells x).length = size) (hs0 : 0 < size)
    (h : w.ownsRow base e size (.slice A n c) n (L.flatMap cells)) : n = L.length ∧ RowOf cells size w A L := by
  have hl : ∀ T : List α, (T.flatMap cells).length = T.length * size := by
    intro T
    induction T with
    | nil => simp
    | cons y T ih => rw [List.flatMap_cons, List.length_append, hsz, ih, List.length_cons, Nat.succ_mul]; omega
  have hn : L.length = n := by
    have := h.1
    rw [hl] at this
    exact Nat.eq_of_mul_eq_mul_right hs0 this
  refine ⟨hn.symm, fun h0 => ?_⟩
  obtain ⟨g, cap, hv, _, _⟩ := h.form (by omega)
  have hA : A = some ⟨g, 0, none⟩ := by injection hv
  refine ⟨g, 0, hA, fun i x hx j v hv' => ?_⟩
  have hj : j < size := by
    have := (List.getElem?_eq_some_iff.1 hv').1
    rwa [hsz] at this
  have key : ∀ (T : List α) (i : Nat), T[i]? = some x → (T.flatMap cells)[i * size + j]? = (cells x)[j]? := by
    intro T
    induction T with
    | nil => intro i h; simp at h
    | cons y T ih =>
      intro i h
      cases i with
      | zero =>
        simp at h
        subst h
        rw [List.flatMap_cons, Nat.zero_mul, Nat.zero_add, List.getElem?_append_left (by rw [hsz]; omega)]
      | succ i =>
        rw [List.flatMap_cons, List.getElem?_append_right (by rw [hsz, Nat.succ_mul]; omega), hsz]
        rw [show (i + 1) * size + j - size = i * size + j by rw [Nat.succ_mul]; omega]
        exact ih i (by simpa using h)
  have hc := h.cells (g := g) (by rw [hA]; rfl) (i * size + j) v (by rw [key L i hx]; exact hv')
  have e : (⟨g, 0, none⟩ : Addr).add (i * size + j) = ⟨g, 0 + i * size + j, none⟩ := by
    unfold Addr.add
    split <;> simp_all
  rwa [e] at hc
/-- A literal slice, just laid. -/
theorem row_new {α : Type} {cells : α → List Value} {size : Nat} (hsz : ∀ x, (cells x).length = size) (w : World) (L : List α) (cs : Array Value) (g : Nat) (e : TypeId) (hcs : cs = (L.flatMap cells).toArray) (hg : g = w.heap.size) :
    RowOf cells size (w.alloc (.cells cs e)) (some ⟨g, 0, none⟩) L := by
  subst hcs
  subst hg
  intro _
  refine ⟨_, _, rfl, fun i x hx j v hv => ?_⟩
  have hj : j < size := by
    have := (List.getElem?_eq_some_iff.1 hv).1
    rwa [hsz] at this
  rw [cell_new]
  have key : ∀ (T : List α) (i : Nat), T[i]? = some x → (T.flatMap cells)[i * size + j]? = (cells x)[j]? := by
    intro T
    induction T with
    | nil => intro i h; simp at h
    | cons y T ih =>
      intro i h
      cases i with
      | zero =>
        simp at h
        subst h
        rw [List.flatMap_cons, Nat.zero_mul, Nat.zero_add, List.getElem?_append_left (by rw [hsz]; omega)]
      | succ i =>
        rw [List.flatMap_cons, List.getElem?_append_right (by rw [hsz, Nat.succ_mul]; omega), hsz]
        rw [show (i + 1) * size + j - size = i * size + j by rw [Nat.succ_mul]; omega]
        exact ih i (by simpa using h)
  have h := key L i hx
  rw [show 0 + i * size + j = i * size + j by omega]
  simpa [hv] using h

theorem run_store_float (P : Program) (w : World) (a : Addr) (m : Mode) (k : FloatKind) (b : Nat) : (store a (.float k b) m).run P w = stored P w a (.float k b) m := run_store P w a _ m rfl
theorem run_store_complex (P : Program) (w : World) (a : Addr) (m : Mode) (k : FloatKind) (x y : Nat) : (store a (.complex k x y) m).run P w = stored P w a (.complex k x y) m := run_store P w a _ m rfl

section
variable {P : Program} {ops : Array Oper} {rest : List Oper} {o : Oper} {a : Act} {Q : Exit → Act → World → Prop}
/-- 'app_one' where the world is not a letter: H is its heap's size as the walk writes it. -/
theorem app_at {w0 W : World} (H : Nat) (hH : W.heap.size = H) (base : Nat) (hgd : o.guard = none) (s x : Operand) (t e : TypeId) (z : Value) (size bytes : Nat)
    (ho : o.op = .call { callee := .builtin .append, args := #[s, x], argTypes := #[t, t] })
    (ht : P.underlying t = some (.slice e)) (hinfo : (P.info? e).map (fun i => (i.zero, i.size, i.bytes)) = some (some z, size, bytes)) (hz : z.cells.size = size) (hs0 : 0 < size) (hb0 : 0 < bytes)
    (v : Value) (n : Nat) (xs cs : List Value) (hs : a.eval s = v) (hx : a.eval x = .slice (some ⟨H, 0, none⟩) 1 1) (hlen : cs.length = size) (h1 : ∀ u ∈ cs, u.oneCell' = true)
    (HO : W.ownsRow base e size v n xs) (HB : Below base w0 W) (hbase : base ≤ W.heap.size) (hl : (n + 1) * bytes ≤ 140737488355328)
    (h : ∀ v1 w1, w1.ownsRow base e size v1 (n + 1) (xs ++ cs) → Below base w0 w1 → W.grownBy w1 v.ownBlock → (v1.ownBlock = v.ownBlock ∨ v1.ownBlock = some (H + 1)) → wpList P ops Q rest (a.put o.dst v1) w1) :
    wpList P ops Q (o :: rest) a (W.alloc (.cells cs.toArray e)) := by
  subst hH
  exact app_one base hgd s x t e z size bytes ho ht hinfo hz hs0 hb0 v n xs cs hs hx hlen h1 HO HB hbase hl h
end
end Go.Proofs.Ytbmegoemimfiaaa

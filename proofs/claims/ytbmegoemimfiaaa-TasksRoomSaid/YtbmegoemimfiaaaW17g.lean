/-
  TasksOrder: the lists that the law lays, in plain Lean; its closure.
-/
import Derived.Test.YtbmegoemimfiaaaRows
import Derived.Test.YtbmegoemimfiaaaW17f
import Derived.Test.YtbmegoemimfiaaaW18e
import Derived.WalkKit
import Derived.WalkSpells
import Derived.WalkLawsBesides
import Derived.Outline
import Derived.Laws.StructEq
import Derived.Deep.Light
import Derived.Deep.QuietTactic
import Derived.BigQuiet
import Derived.Maps.OwnOps
import Derived.Maps.OwnSet
import Derived.Lib.Hide
namespace Go.Proofs.Ytbmegoemimfiaaa
open Go Go.RowKit
set_option maxRecDepth 100000
set_option linter.unusedVariables false
set_option linter.unusedSimpArgs false

attribute [local go_sem] run_store_float run_store_complex
def fl (n : Int) : Nat := floatOfInt .f64 n
def tn (i k : Nat) : ByteArray := ⟨#[UInt8.ofNat (97 + i), UInt8.ofNat (48 + k)]⟩
def itO (i k : Nat) : Item := ⟨tn i k, fl i, fl (k + 1)⟩
def runO (zs : List Int) (i : Nat) : Int := zs.getD i 0 % 4
def entO (zs : List Int) (i : Nat) (p : Nat × Nat) : Entry := ⟨fg i, ⟨#[120]⟩, runO zs i, some ⟨p.1, 0, none⟩, 2, p.2, [itO i 0, itO i 1]⟩
def entsO (zs : List Int) (G : List (Nat × Nat)) : List Entry := G.mapIdx (entO zs)
def rowO (zs : List Int) (i k : Nat) : RowT := ⟨fg i, tn i k, ⟨#[120]⟩, runO zs i, fl i, fl (k + 1)⟩
def rowsO (zs : List Int) (m : Nat) : List RowT := (List.range m).flatMap fun i => [rowO zs i 0, rowO zs i 1]
theorem entsO_snoc (zs : List Int) (G : List (Nat × Nat)) (p : Nat × Nat) : entsO zs (G ++ [p]) = entsO zs G ++ [entO zs G.length p] := by simp [entsO]
theorem entsO_length (zs : List Int) (G : List (Nat × Nat)) : (entsO zs G).length = G.length := by simp [entsO]
theorem rowsO_succ (zs : List Int) (m : Nat) : rowsO zs (m + 1) = rowsO zs m ++ [rowO zs m 0, rowO zs m 1] := by simp [rowsO, List.range_succ]
theorem rowsO_length (zs : List Int) (m : Nat) : (rowsO zs m).length = 2 * m := by
  induction m with
  | zero => rfl
  | succ m ih => rw [rowsO_succ, List.length_append, ih]; simp; omega
theorem rowsOf_append (L M : List Entry) : rowsOf (L ++ M) = rowsOf L ++ rowsOf M := by simp [rowsOf]
theorem rows_entsO (zs : List Int) (G : List (Nat × Nat)) : rowsOf (entsO zs G) = rowsO zs G.length := by
  have key : ∀ m, m ≤ G.length → rowsOf ((entsO zs G).take m) = rowsO zs m := by
    intro m
    induction m with
    | zero => intro _; rfl
    | succ m ih =>
      intro h
      have hx : (entsO zs G)[m]? = some (entO zs m (G[m]'(by omega))) := by
        unfold entsO
        rw [List.getElem?_mapIdx, List.getElem?_eq_getElem (show m < G.length by omega)]
        rfl
      rw [rowsOf_succ _ m _ hx, ih (by omega), rowsO_succ]
      rfl
  have := key G.length (Nat.le_refl _)
  rwa [List.take_of_length_le (by rw [entsO_length]; omega)] at this
theorem mem_rowsO {zs : List Int} {m : Nat} {x : RowT} (h : x ∈ rowsO zs m) : ∃ i k, i < m ∧ k < 2 ∧ x = rowO zs i k := by
  simp only [rowsO, List.mem_flatMap, List.mem_range] at h
  obtain ⟨i, hi, hx⟩ := h
  simp only [List.mem_cons, List.not_mem_nil, or_false] at hx
  rcases hx with rfl | rfl
  · exact ⟨i, 0, hi, by omega, rfl⟩
  · exact ⟨i, 1, hi, by omega, rfl⟩
theorem fl_self : ∀ n, n < 7 → selfEq (fl (n : Nat)) = true := by decide +kernel
theorem rowsO_own (zs : List Int) (m : Nat) (hm : m ≤ 6) : ∀ x ∈ rowsO zs m, x.own = true := by
  intro x hx
  obtain ⟨i, k, hi, hk, rfl⟩ := mem_rowsO hx
  have h1 := fl_self i (by omega)
  have h2 := fl_self (k + 1) (by omega)
  simp only [RowT.own, rowO, Bool.and_eq_true]
  exact ⟨h1, h2⟩
def LaidO (w : World) (base : Nat) (G : List (Nat × Nat)) : Prop := ∀ (i : Nat) (p : Nat × Nat), G[i]? = some p → w.ownsRow base 50 2 (.slice (some ⟨p.1, 0, none⟩) 2 p.2) 2 ([itO i 0, itO i 1].flatMap Item.cells)
theorem own_heap {w w1 : World} {base n c g : Nat} {e : TypeId} {size : Nat} {xs : List Value} (h : w.ownsRow base e size (.slice (some ⟨g, 0, none⟩) n c) n xs) (hh : w1.heap[g]? = w.heap[g]?) : w1.ownsRow base e size (.slice (some ⟨g, 0, none⟩) n c) n xs := by
  refine ⟨h.1, ?_⟩
  rcases h.2 with ⟨hv, _⟩ | ⟨g', cap, cur, hv, hb, hgg, rest⟩
  · cases hv
  · injection hv with hA _ hc
    injection hA with hA
    injection hA with hA
    subst hA
    subst hc
    exact .inr ⟨g, c, cur, rfl, hb, hh.trans hgg, rest⟩
theorem own_at_lt {w : World} {base n c g : Nat} {e : TypeId} {size : Nat} {xs : List Value} (h : w.ownsRow base e size (.slice (some ⟨g, 0, none⟩) n c) n xs) : base ≤ g ∧ g < w.heap.size := h.lt g rfl
/-- Rows of unlike elements lie in unlike blocks. -/
theorem own_apart {w : World} {b1 n1 c1 g b2 n2 : Nat} {e1 e2 : TypeId} {s1 s2 : Nat} {v2 : Value} {xs ys : List Value} (h1 : w.ownsRow b1 e1 s1 (.slice (some ⟨g, 0, none⟩) n1 c1) n1 xs) (h2 : w.ownsRow b2 e2 s2 v2 n2 ys) (hne : e1 ≠ e2) : some g ≠ v2.ownBlock := by
  intro h
  rcases h2.2 with ⟨rfl, _⟩ | ⟨g2, cap, cur, rfl, _, hg2, _⟩
  · simp [Value.ownBlock] at h
  · simp [Value.ownBlock] at h
    subst h
    rcases h1.2 with ⟨hv, _⟩ | ⟨g3, cap3, cur3, hv, _, hg3, _⟩
    · cases hv
    · injection hv with hA _ _
      injection hA with hA
      injection hA with hA
      subst hA
      rw [hg2] at hg3
      injection hg3 with hg3
      injection hg3 with _ ht
      exact hne ht.symm
theorem own_apart' {w : World} {b1 n1 b2 n2 : Nat} {e1 e2 : TypeId} {s1 s2 : Nat} {v1 v2 : Value} {xs ys : List Value} (h1 : w.ownsRow b1 e1 s1 v1 n1 xs) (h2 : w.ownsRow b2 e2 s2 v2 n2 ys) (hne : e1 ≠ e2) : v1.ownBlock = none ∨ v1.ownBlock ≠ v2.ownBlock := by
  rcases h1.2 with ⟨rfl, _⟩ | ⟨g, cap, cur, rfl, _⟩
  · exact .inl rfl
  · exact .inr (own_apart h1 h2 hne)
theorem LaidO.of_heap {w w1 : World} {base : Nat} {G : List (Nat × Nat)} (h : LaidO w base G) (hh : ∀ p ∈ G, w1.heap[p.1]? = w.heap[p.1]?) : LaidO w1 base G := fun i p hp => own_heap (h i p hp) (hh p (List.mem_of_getElem? hp))
theorem LaidO.lt {w : World} {base : Nat} {G : List (Nat × Nat)} (h : LaidO w base G) : ∀ p ∈ G, p.1 < w.heap.size := by
  intro p hp
  obtain ⟨i, hi⟩ := List.getElem?_of_mem hp
  exact (own_at_lt (h i p hi)).2
theorem LaidO.below {w w1 : World} {base B : Nat} {G : List (Nat × Nat)} (h : LaidO w base G) (hB : ∀ p ∈ G, p.1 < B) (hb : Below B w w1) : LaidO w1 base G := h.of_heap fun p hp => hb.block p.1 (hB p hp)
theorem LaidO.grown {w w1 : World} {base b2 n2 : Nat} {e2 : TypeId} {s2 : Nat} {v2 : Value} {ys : List Value} {G : List (Nat × Nat)} (h : LaidO w base G) (h2 : w.ownsRow b2 e2 s2 v2 n2 ys) (hne : 50 ≠ e2) (hg : w.grownBy w1 v2.ownBlock) : LaidO w1 base G := by
  refine h.of_heap fun p hp => ?_
  obtain ⟨i, hi⟩ := List.getElem?_of_mem hp
  exact hg.block p.1 (h.lt p hp) (own_apart (h i p hi) h2 hne)
theorem LaidO.nil (w : World) (base : Nat) : LaidO w base [] := fun i p hp => by simp at hp
theorem LaidO.snoc {w : World} {base : Nat} {G : List (Nat × Nat)} {p : Nat × Nat} (h : LaidO w base G) (hp : w.ownsRow base 50 2 (.slice (some ⟨p.1, 0, none⟩) 2 p.2) 2 ([itO G.length 0, itO G.length 1].flatMap Item.cells)) : LaidO w base (G ++ [p]) := by
  intro i q hi
  by_cases hlt : i < G.length
  · rw [List.getElem?_append_left hlt] at hi; exact h i q hi
  · have hle : i < G.length + 1 := by have := (List.getElem?_eq_some_iff.1 hi).1; simpa using this
    obtain rfl : i = G.length := by omega
    simp at hi
    subst hi
    exact hp
theorem LaidO.items {w : World} {base : Nat} {zs : List Int} {G : List (Nat × Nat)} (h : LaidO w base G) : ∀ x ∈ entsO zs G, ItemsAt w x.A x.items ∧ x.n = x.items.length := by
  intro x hx
  obtain ⟨i, hi⟩ := List.getElem?_of_mem hx
  unfold entsO at hi
  rw [List.getElem?_mapIdx] at hi
  obtain ⟨p, hp, rfl⟩ := Option.map_eq_some_iff.1 hi
  exact ⟨(own_rowOf (cells := Item.cells) (fun _ => rfl) (by decide) (h i p hp)).2, rfl⟩
theorem own_keep {w w1 : World} {base n : Nat} {e : TypeId} {size : Nat} {v : Value} {xs : List Value} (h : w.ownsRow base e size v n xs) (hh : ∀ k, v.ownBlock = some k → w1.heap[k]? = w.heap[k]?) : w1.ownsRow base e size v n xs := by
  refine ⟨h.1, ?_⟩
  rcases h.2 with hn | ⟨g, cap, cur, rfl, hb, hgg, rest⟩
  · exact .inl hn
  · exact .inr ⟨g, cap, cur, rfl, hb, (hh g rfl).trans hgg, rest⟩
theorem own_ne_blk {w : World} {base n g : Nat} {e t : TypeId} {size : Nat} {v : Value} {xs : List Value} {cs : Array Value} (h : w.ownsRow base e size v n xs) (hg : w.heap[g]? = some (.cells cs t (0, 0))) (hne : e ≠ t) : ∀ k, v.ownBlock = some k → k ≠ g := by
  intro k hk he
  subst he
  rcases h.2 with ⟨rfl, _⟩ | ⟨g', cap, cur, rfl, _, hh, _⟩
  · simp [Value.ownBlock] at hk
  · simp [Value.ownBlock] at hk
    subst hk
    rw [hg] at hh
    injection hh with hh
    injection hh with _ ht
    exact hne ht.symm
theorem own_setCell {w : World} {base n g : Nat} {e t : TypeId} {size : Nat} {v : Value} {xs : List Value} {cs : Array Value} (h : w.ownsRow base e size v n xs) (hg : w.heap[g]? = some (.cells cs t (0, 0))) (hne : e ≠ t) (o : Nat) (u : Value) : (w.setCell ⟨g, o, none⟩ u).ownsRow base e size v n xs :=
  own_keep h fun k hk => Below.heap_setCell _ _ _ _ (own_ne_blk h hg hne k hk)
theorem blk_setCell_ne {w : World} {g g' o : Nat} {ob : Obj} (h : w.heap[g']? = some ob) (hne : g' ≠ g) (u : Value) : (w.setCell ⟨g, o, none⟩ u).heap[g']? = some ob := (Below.heap_setCell _ _ _ _ hne).trans h
/-- a new block of the region's own, of type e, behind a pointer -/
def QSpec.new (B : Nat) (e : TypeId) (cs : List Value) : QSpec := ⟨fun v w => ∃ g, v = .pointer (some ⟨g, 0, none⟩) ∧ B ≤ g ∧ w.heap[g]? = some (.cells cs.toArray e (0, 0)), fun v w w1 hb h => by
  obtain ⟨g, hv, hB, hg⟩ := h
  exact ⟨g, hv, hB, blk_below hg hb⟩⟩
def tl (t : ByteArray) : ByteArray := ⟨t.data.extract 1 t.data.size⟩
def one1 (t : ByteArray) : Bool := eqS (tl t) ⟨#[49]⟩
def ofB (R : Int) (x : RowT) : Bool := eqS x.f ⟨#[103]⟩ && x.run == R
def opB (x : RowT) : Bool := x.run != 0 && one1 x.t
def st31 (t : ByteArray) : Int := if one1 t = true then 2 else 4
theorem tn_size (i k : Nat) : (tn i k).size = 2 := rfl
theorem filter_of (zs : List Int) (m : Nat) (R : Int) : (rowsO zs m).filter (fun x => !delB ⟨#[103]⟩ ⟨#[120]⟩ R x) = (rowsO zs m).filter (ofB R) := by
  refine List.filter_congr fun x hx => ?_
  obtain ⟨i, k, _, _, rfl⟩ := mem_rowsO hx
  have he : eqS (⟨#[120]⟩ : ByteArray) ⟨#[120]⟩ = true := by decide
  simp [delB, ofB, rowO, he]
theorem filter_none_of (zs : List Int) (m : Nat) (R : Int) : (rowsO zs m).filter (fun x => !delB ⟨#[103]⟩ ⟨#[121]⟩ R x) = [] := by
  refine List.filter_eq_nil_iff.2 fun x hx => ?_
  obtain ⟨i, k, _, _, rfl⟩ := mem_rowsO hx
  have he : eqS (⟨#[120]⟩ : ByteArray) ⟨#[121]⟩ = false := by decide
  simp [delB, rowO, he]
theorem filter_open (zs : List Int) (m : Nat) : (rowsO zs m).filter (openB st31) = (rowsO zs m).filter opB := by
  refine List.filter_congr fun x hx => ?_
  have h2 : overB 2 = false := by decide
  have h4 : overB 4 = true := by decide
  unfold openB opB st31
  rcases h : one1 x.t with _ | _ <;> simp [h2, h4]
end Go.Proofs.Ytbmegoemimfiaaa

/-
  TasksRoom: the lists that the law lays, and what they add up to, in plain Lean.
-/
import Derived.Test.YtbmegoemimfiaaaRows
import Derived.Test.YtbmegoemimfiaaaW17j
import Derived.Test.YtbmegoemimfiaaaW18e
import Derived.Test.YtbmegoemimfiaaaInts
import Derived.WalkKit
import Derived.WalkSpells
import Derived.WalkLawsBesides
import Derived.Outline
import Derived.Laws.StructEq
import Derived.Deep.Light
import Derived.Deep.QuietTactic
import Derived.BigQuiet
import Derived.Maps.OwnOps
import Derived.Maps.OwnSet
import Derived.Lib.Hide
namespace Go.Proofs.Ytbmegoemimfiaaa
open Go Go.RowKit
set_option maxRecDepth 100000
set_option linter.unusedVariables false
set_option linter.unusedSimpArgs false

def kx (xs : List Int) (i : Nat) : Nat := (xs.getD i 0 % 100).toNat
def ky (ys : List Int) (i : Nat) : Nat := 1 + (ys.getD i 0 % 100).toNat
theorem kx_lt (xs : List Int) (i : Nat) : kx xs i < 100 := by unfold kx; omega
theorem ky_lt (ys : List Int) (i : Nat) : 1 ≤ ky ys i ∧ ky ys i ≤ 100 := by unfold ky; omega
theorem kx_int (xs : List Int) (i : Nat) : (kx xs i : Int) = xs.getD i 0 % 100 := by unfold kx; omega
theorem ky_int (ys : List Int) (i : Nat) : (ky ys i : Int) = 1 + ys.getD i 0 % 100 := by unfold ky; omega
def itR (xs ys : List Int) (i : Nat) : Item := ⟨lt i, fz (kx xs i), fz (ky ys i)⟩
def entR (xs ys : List Int) (i g : Nat) : Entry := ⟨⟨#[102]⟩, ⟨#[120]⟩, 1 + ((i % 2 : Nat) : Int), some ⟨g, 0, none⟩, 1, 1, [itR xs ys i]⟩
def entsR (xs ys : List Int) (G : List Nat) : List Entry := G.mapIdx (entR xs ys)
def rowR (xs ys : List Int) (i : Nat) : RowT := ⟨⟨#[102]⟩, lt i, ⟨#[120]⟩, 1 + ((i % 2 : Nat) : Int), fz (kx xs i), fz (ky ys i)⟩
def rowsR (xs ys : List Int) (m : Nat) : List RowT := (List.range m).map (rowR xs ys)
theorem entsR_snoc (xs ys : List Int) (G : List Nat) (g : Nat) : entsR xs ys (G ++ [g]) = entsR xs ys G ++ [entR xs ys G.length g] := by simp [entsR]
theorem entsR_length (xs ys : List Int) (G : List Nat) : (entsR xs ys G).length = G.length := by simp [entsR]
theorem rowsR_length (xs ys : List Int) (m : Nat) : (rowsR xs ys m).length = m := by simp [rowsR]
theorem rows_entsR (xs ys : List Int) (G : List Nat) : rowsOf (entsR xs ys G) = rowsR xs ys G.length := by
  have key : ∀ m, m ≤ G.length → rowsOf ((entsR xs ys G).take m) = rowsR xs ys m := by
    intro m
    induction m with
    | zero => intro _; rfl
    | succ m ih =>
      intro h
      have hx : (entsR xs ys G)[m]? = some (entR xs ys m (G[m]'(by omega))) := by
        unfold entsR
        rw [List.getElem?_mapIdx, List.getElem?_eq_getElem (show m < G.length by omega)]
        rfl
      rw [rowsOf_succ _ m _ hx, ih (by omega)]
      simp [rowsR, List.range_succ, entR, rowOf, itR, rowR]
  have := key G.length (Nat.le_refl _)
  rwa [List.take_of_length_le (by rw [entsR_length]; omega)] at this
def LaidR (w : World) (xs ys : List Int) (G : List Nat) : Prop := ∀ (i g : Nat), G[i]? = some g → w.heap[g]? = some (.cells (itR xs ys i).cells.toArray 50 (0, 0))
theorem LaidR.below {w w1 : World} {xs ys : List Int} {G : List Nat} (h : LaidR w xs ys G) (hb : Below w.heap.size w w1) : LaidR w1 xs ys G := fun i g hg => blk_below (h i g hg) hb
theorem LaidR.nil (w : World) (xs ys : List Int) : LaidR w xs ys [] := fun i g hg => by simp at hg
theorem LaidR.snoc {w : World} {xs ys : List Int} {G : List Nat} {g : Nat} (h : LaidR w xs ys G) (hg : w.heap[g]? = some (.cells (itR xs ys G.length).cells.toArray 50 (0, 0))) : LaidR w xs ys (G ++ [g]) := by
  intro i g' hi
  by_cases hlt : i < G.length
  · rw [List.getElem?_append_left hlt] at hi; exact h i g' hi
  · have hle : i < G.length + 1 := by have := (List.getElem?_eq_some_iff.1 hi).1; simpa using this
    obtain rfl : i = G.length := by omega
    simp at hi
    subst hi
    exact hg
theorem LaidR.items {w : World} {xs ys : List Int} {G : List Nat} (h : LaidR w xs ys G) : ∀ x ∈ entsR xs ys G, ItemsAt w x.A x.items ∧ x.n = x.items.length := by
  intro x hx
  obtain ⟨i, hi⟩ := List.getElem?_of_mem hx
  unfold entsR at hi
  rw [List.getElem?_mapIdx] at hi
  obtain ⟨g, hg, rfl⟩ := Option.map_eq_some_iff.1 hi
  exact ⟨RowOf.of_blk (cells := Item.cells) (size := 2) (fun _ => rfl) (h i g hg) (by simp [entR]), rfl⟩
/-- the sum of the first m -/
def sm (f : Nat → Nat) (m : Nat) : Nat := ((List.range m).map f).sum
/-- all but k -/
def but (m k : Nat) : List Nat := (List.range m).filter (fun i => i != k)
theorem sm_succ (f : Nat → Nat) (m : Nat) : sm f (m + 1) = sm f m + f m := by simp [sm, List.range_succ]
theorem sm_le (f : Nat → Nat) (c : Nat) (hf : ∀ i, f i ≤ c) (m : Nat) : sm f m ≤ c * m := by
  induction m with
  | zero => simp [sm]
  | succ m ih => rw [sm_succ, Nat.mul_succ]; have := hf m; omega
theorem but_sum (f : Nat → Nat) (m k : Nat) : ((but m k).map f).sum + (if k < m then f k else 0) = sm f m := by
  induction m with
  | zero => simp [but, sm]
  | succ m ih =>
    have e : but (m + 1) k = but m k ++ (if m != k then [m] else []) := by
      unfold but
      rw [List.range_succ, List.filter_append]
      by_cases h : m = k <;> simp [h]
    rw [e, sm_succ, List.map_append, List.sum_append, ← ih]
    by_cases h : m = k
    · subst h
      simp
    · have h1 : (m != k) = true := by rw [bne_iff_ne]; exact h
      rw [h1]
      simp only [if_true, List.map_cons, List.map_nil, List.sum_cons, List.sum_nil]
      by_cases h2 : k < m
      · rw [if_pos h2, if_pos (by omega)]; omega
      · rw [if_neg h2, if_neg (by omega)]; omega
theorem but_length (m k : Nat) (hk : k < m) : (but m k).length = m - 1 := by
  have h := but_sum (fun _ => 1) m k
  rw [if_pos hk] at h
  have e : ∀ l : List Nat, (l.map fun _ => 1).sum = l.length := by intro l; induction l with
    | nil => rfl
    | cons a l ih => simp [ih]; omega
  have e2 : sm (fun _ => 1) m = m := by unfold sm; rw [e, List.length_range]
  rw [e, e2] at h
  omega
/-- Sums of whole numbers as the program adds them. -/
theorem sumGo_fz : ∀ (T : List (Nat × Nat)) (p q : Nat), p + (T.map (·.1)).sum < 2 ^ 52 → q + (T.map (·.2)).sum < 2 ^ 52 → (∀ t ∈ T, t.1 < 2 ^ 50 ∧ t.2 < 2 ^ 50) →
    sumGo (fz p, fz q) (T.map fun t => (fz t.1, fz t.2)) = some (fz ((p + (T.map (·.1)).sum : Nat) : Int), fz ((q + (T.map (·.2)).sum : Nat) : Int))
  | [], p, q, _, _, _ => rfl
  | t :: T, p, q, hp, hq, ht => by
    simp only [List.map_cons, List.sum_cons] at hp hq ⊢
    have h1 := fz_add p t.1 (by omega) (by omega)
    have h2 := fz_add q t.2 (by omega) (by omega)
    have ha : addC (fz p, fz q) (fz t.1, fz t.2) = some (fz ((p + t.1 : Nat) : Int), fz ((q + t.2 : Nat) : Int)) := by
      unfold addC cSumBits
      rw [h1, h2]
      rfl
    show (addC (fz p, fz q) (fz t.1, fz t.2)).bind _ = _
    rw [ha]
    have ih := sumGo_fz T (p + t.1) (q + t.2) (by omega) (by omega) (fun u hu => ht u (List.mem_cons_of_mem _ hu))
    rw [Nat.add_assoc, Nat.add_assoc] at ih
    exact ih
theorem sum_rows (xs ys : List Int) (l : List Nat) (hl : l.length ≤ 8) : sumGo (0, 0) ((l.map (rowR xs ys)).map RowT.cx) = some (fz (((l.map (kx xs)).sum : Nat) : Int), fz (((l.map (ky ys)).sum : Nat) : Int)) := by
  have hle : ∀ (f : Nat → Nat), (∀ i, f i ≤ 100) → ∀ l : List Nat, (l.map f).sum ≤ 100 * l.length := by
    intro f hf l
    induction l with
    | nil => simp
    | cons a l ih => simp only [List.map_cons, List.sum_cons, List.length_cons]; have := hf a; omega
  have h1 := hle (kx xs) (fun i => by have := kx_lt xs i; omega) l
  have h2 := hle (ky ys) (fun i => (ky_lt ys i).2) l
  have h := sumGo_fz (l.map fun i => (kx xs i, ky ys i)) 0 0 (by simp only [List.map_map]; show 0 + (l.map (kx xs)).sum < _; omega) (by simp only [List.map_map]; show 0 + (l.map (ky ys)).sum < _; omega) (by
    intro t ht
    obtain ⟨i, _, rfl⟩ := List.mem_map.1 ht
    have h3 := kx_lt xs i
    have h4 := (ky_lt ys i).2
    exact ⟨by show kx xs i < _; omega, by show ky ys i < _; omega⟩)
  simp only [List.map_map, Nat.zero_add] at h
  rw [show ((0 : Nat) : Int) = 0 from rfl, fz_zero] at h
  simp only [List.map_map]
  exact h
theorem over22 : overB 2 = false := by decide
theorem over3 : overB 3 = true := by decide
theorem over1 : overB 1 = false := by decide
theorem rowR_run (xs ys : List Int) (i : Nat) : ((rowR xs ys i).run != 0) = true := by
  rw [bne_iff_ne]
  show (1 + ((i % 2 : Nat) : Int)) ≠ 0
  omega
theorem filter_all (xs ys : List Int) (m : Nat) : rowsR xs ys m = (rowsR xs ys m).filter (openB (fun _ => 2)) := by
  symm
  refine List.filter_eq_self.2 fun x hx => ?_
  obtain ⟨i, _, rfl⟩ := List.mem_map.1 hx
  simp [openB, over22, rowR_run]
theorem lt_ne : ∀ i, i < 8 → ∀ k, k < 8 → eqS (lt i) (lt k) = decide (i = k) := by decide +kernel
theorem filter_but (xs ys : List Int) (m k : Nat) (hm : m ≤ 8) (hk : k < m) : (but m k).map (rowR xs ys) = (rowsR xs ys m).filter (openB (stEnd k)) := by
  unfold rowsR but
  rw [List.filter_map]
  congr 1
  refine List.filter_congr fun i hi => ?_
  have hi := List.mem_range.1 hi
  have h := lt_ne i (by omega) k (by omega)
  show _ = openB (stEnd k) (rowR xs ys i)
  unfold openB
  rw [rowR_run]
  show _ = (true && !overB (stEnd k (lt i)))
  unfold stEnd
  rw [h]
  by_cases e : i = k
  · subst e; simp [over3]
  · simp [e, over1]
theorem leB_fz (a b : Nat) (ha : a < 2 ^ 52) (hb : b < 2 ^ 52) : leB (fz a) (fz b) = decide (a ≤ b) := by
  unfold leB
  rw [fz_order a b ha hb]
  rcases Nat.lt_trichotomy a b with h | rfl | h
  · rw [Nat.compare_eq_lt.2 h, decide_eq_true (by omega)]; rfl
  · rw [Nat.compare_eq_eq.2 rfl, decide_eq_true (by omega)]; rfl
  · rw [Nat.compare_eq_gt.2 h, decide_eq_false (by omega)]; rfl
/-- What is used beside a need, in one sum. -/
theorem fit_sum (p q a b : Nat) (hp : p + a < 2 ^ 50) (hq : q + b < 2 ^ 50) (t : ByteArray) : sumGo (0, 0) ((fz p, fz q) :: [(⟨t, fz a, fz b⟩ : Item)].map Item.cx) = some (fz ((p + a : Nat) : Int), fz ((q + b : Nat) : Int)) := by
  have h := sumGo_fz [(p, q), (a, b)] 0 0 (by simp; omega) (by simp; omega) (by
    intro t ht
    simp only [List.mem_cons, List.not_mem_nil, or_false] at ht
    rcases ht with rfl | rfl
    · exact ⟨by show p < _; omega, by show q < _; omega⟩
    · exact ⟨by show a < _; omega, by show b < _; omega⟩)
  simp only [List.map_cons, List.map_nil, List.sum_cons, List.sum_nil, Nat.zero_add, Nat.add_zero] at h
  rw [show ((0 : Nat) : Int) = 0 from rfl, fz_zero] at h
  exact h
theorem sub_fz (a b c d : Nat) (ha : a < 2 ^ 52) (hb : b < 2 ^ 52) (hc : c ≤ a) (hd : d ≤ b) : cSumBits .sub .f64 (fz a) (fz b) (fz c) (fz d) = some (fz ((a - c : Nat) : Int), fz ((b - d : Nat) : Int)) := by
  unfold cSumBits
  rw [fz_sub a c ha hc, fz_sub b d hb hd]
  rfl
theorem fz_one : fz 1 = 4607182418800017408 := by decide +kernel
theorem selfEq_fz (a : Nat) (ha : a < 2 ^ 52) : (FloatKind.f64.format.order (fz a) (fz a) == some .eq) = true := by
  rw [fz_order a a ha ha, Nat.compare_eq_eq.2 rfl]
  rfl
end Go.Proofs.Ytbmegoemimfiaaa

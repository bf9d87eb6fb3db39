/-
  AnswerAll: the entries that the law lays, in plain Lean.
-/
import Derived.Test.YtbmegoemimfiaaaRows
import Derived.Test.YtbmegoemimfiaaaW18d
import Derived.WalkKit
import Derived.WalkSpells
import Derived.WalkLawsBesides
import Derived.Outline
import Derived.Laws.StructEq
import Derived.Deep.Light
import Derived.Deep.QuietTactic
import Derived.BigQuiet
import Derived.Maps.OwnOps
import Derived.Maps.OwnSet
import Derived.Lib.Hide
namespace Go.Proofs.Ytbmegoemimfiaaa
open Go Go.RowKit
set_option maxRecDepth 100000
set_option linter.unusedVariables false
set_option linter.unusedSimpArgs false

def one64 : Nat := 4607182418800017408
def fg (i : Nat) : ByteArray := if i % 2 = 0 then ⟨#[102]⟩ else ⟨#[103]⟩
def itI (i : Nat) : Item := ⟨lt i, one64, 0⟩
def entI (i g : Nat) : Entry := ⟨fg i, ⟨#[120]⟩, i, some ⟨g, 0, none⟩, 1, 1, [itI i]⟩
def ents (G : List Nat) : List Entry := G.mapIdx entI
theorem ents_snoc (G : List Nat) (g : Nat) : ents (G ++ [g]) = ents G ++ [entI G.length g] := by simp [ents]
theorem ents_length (G : List Nat) : (ents G).length = G.length := by simp [ents]
def rowI (i : Nat) : RowT := ⟨fg i, lt i, ⟨#[120]⟩, i, one64, 0⟩
def saidI (i : Nat) : Msg := toldOf ⟨#[102]⟩ (lt (2 * i)) (1 + 2 * (i : Int))
def LaidAt (w : World) (G : List Nat) : Prop := ∀ (i g : Nat), G[i]? = some g → w.heap[g]? = some (.cells (itI i).cells.toArray 50 (0, 0))
theorem LaidAt.below {w w1 : World} {G : List Nat} (h : LaidAt w G) (hb : Below w.heap.size w w1) : LaidAt w1 G := fun i g hg => blk_below (h i g hg) hb
theorem LaidAt.nil (w : World) : LaidAt w [] := fun i g hg => by simp at hg
theorem LaidAt.snoc {w : World} {G : List Nat} {g : Nat} (h : LaidAt w G) (hg : w.heap[g]? = some (.cells (itI G.length).cells.toArray 50 (0, 0))) : LaidAt w (G ++ [g]) := by
  intro i g' hi
  by_cases hlt : i < G.length
  · rw [List.getElem?_append_left hlt] at hi; exact h i g' hi
  · have hle : i < G.length + 1 := by have := (List.getElem?_eq_some_iff.1 hi).1; simpa using this
    obtain rfl : i = G.length := by omega
    simp at hi
    subst hi
    exact hg
theorem LaidAt.items {w : World} {G : List Nat} (h : LaidAt w G) : ∀ x ∈ ents G, ItemsAt w x.A x.items ∧ x.n = x.items.length := by
  intro x hx
  obtain ⟨i, hi⟩ := List.getElem?_of_mem hx
  unfold ents at hi
  rw [List.getElem?_mapIdx] at hi
  obtain ⟨g, hg, rfl⟩ := Option.map_eq_some_iff.1 hi
  refine ⟨?_, rfl⟩
  exact RowOf.of_blk (cells := Item.cells) (size := 2) (fun _ => rfl) (h i g hg) (by simp [entI])
theorem rows_ents (G : List Nat) (hG : G.length ≤ 5) : rowsOf (ents G) = (List.range G.length).map rowI := by
  match G, hG with
  | [], _ => rfl
  | [_], _ => rfl
  | [_, _], _ => rfl
  | [_, _, _], _ => rfl
  | [_, _, _, _], _ => rfl
  | [_, _, _, _, _], _ => rfl
  | _ :: _ :: _ :: _ :: _ :: _ :: _, h => simp at h
theorem ofAll_rows (m : Nat) (hm : m ≤ 5) : ofAll st27 ⟨#[102]⟩ ((List.range m).map rowI) = (List.range ((m + 1) / 2)).map saidI := by
  have : m = 0 ∨ m = 1 ∨ m = 2 ∨ m = 3 ∨ m = 4 ∨ m = 5 := by omega
  rcases this with rfl | rfl | rfl | rfl | rfl | rfl <;> rfl
theorem items_le (G : List Nat) : ∀ x ∈ ents G, x.items.length ≤ 1000 := by
  intro x hx
  obtain ⟨i, hi⟩ := List.getElem?_of_mem hx
  unfold ents at hi
  rw [List.getElem?_mapIdx] at hi
  obtain ⟨g, _, rfl⟩ := Option.map_eq_some_iff.1 hi
  simp [entI]
def want (m j : Nat) : Int := if decide (j < m) && j % 2 == 1 then 1 + (j : Int) else 6
theorem ents_keys (G : List Nat) : (ents G).map (fun e => (e.f, e.items)) = (List.range G.length).map fun i => (fg i, [itI i]) := by
  apply List.ext_getElem?
  intro i
  unfold ents
  rw [List.getElem?_map, List.getElem?_mapIdx, List.getElem?_map]
  by_cases h : i < G.length
  · rw [List.getElem?_eq_getElem h, List.getElem?_range h]; rfl
  · rw [List.getElem?_eq_none (by omega), List.getElem?_eq_none (by simp; omega)]; rfl
def knownN (m j : Nat) : Bool := ((List.range m).map fun i => (fg i, [itI i])).any fun p => eqS p.1 ⟨#[103]⟩ && (idxOf p.2 (lt j)).isSome
theorem known_ents (G : List Nat) (j : Nat) : knownB (ents G) ⟨#[103]⟩ (lt j) = knownN G.length j := by
  unfold knownN
  rw [← ents_keys, List.any_map]
  rfl
theorem knownN_eq : ∀ m, m < 6 → ∀ j, j < 8 → (if knownN m j = true then 1 + (j : Int) else 6) = want m j := by decide +kernel
theorem sOf_ents (G : List Nat) (hG : G.length ≤ 5) (j : Nat) (hj : j < 8) : sOf (ents G) ⟨#[103]⟩ st27 (lt j) = want G.length j := by
  unfold sOf
  rw [known_ents, st27_lt j hj]
  exact knownN_eq G.length (by omega) j hj
def qI (j : Nat) : Item := ⟨lt j, 0, 0⟩
theorem tell_qs (G : List Nat) (hG : G.length ≤ 5) (J : List Nat) (hJ : ∀ j ∈ J, j < 8) : (J.map qI).map (tellI (ents G) ⟨#[103]⟩ st27) = J.map fun j => toldOf ⟨#[103]⟩ (lt j) (want G.length j) := by
  rw [List.map_map]
  refine List.map_congr_left fun j hj => ?_
  simp only [Function.comp, tellI, qI]
  rw [sOf_ents G hG j (hJ j hj)]
theorem rows_ok (m : Nat) (hm : m ≤ 5) : ∀ x ∈ (List.range m).map rowI, okL x.t := by
  intro x hx
  obtain ⟨i, hi, rfl⟩ := List.mem_map.1 hx
  have := List.mem_range.1 hi
  exact ⟨i, by omega, rfl⟩
theorem qs_ok (J : List Nat) (hJ : ∀ j ∈ J, j < 8) : ∀ x ∈ J.map qI, okL x.t := by
  intro x hx
  obtain ⟨j, hj, rfl⟩ := List.mem_map.1 hx
  exact ⟨j, hJ j hj, rfl⟩
def QSpec.ptr (i : Nat) (e : TypeId) (cs : List Value) : QSpec := ⟨fun v w => ∃ g, v = .pointer (some ⟨g, i, none⟩) ∧ w.heap[g]? = some (.cells cs.toArray e (0, 0)), fun v w w1 hb h => by
  obtain ⟨g, hv, hg⟩ := h
  exact ⟨g, hv, blk_below hg hb⟩⟩
theorem info52 : (Try.prog.info? 52).map (fun i => (i.zero, i.size, i.bytes)) = some (some (.agg #[.string ⟨#[]⟩, .string ⟨#[]⟩, .int .i64 0, .slice none 0 0]), 4, 64) := by kernel_rfl
theorem info50 : (Try.prog.info? 50).map (fun i => (i.zero, i.size, i.bytes)) = some (some (.agg #[.string ⟨#[]⟩, .complex .f64 0 0]), 2, 32) := by kernel_rfl
set_option maxHeartbeats 1000000 in
theorem within18 (v n : Int) (h1 : 1 ≤ n) (h2 : n ≤ 1000) (w : World) : Calls Try.prog 11 #[.int .i64 v, .int .i64 n] w fun e w' => e = .returned (.int .i64 (v % n)) ∧ w = w' := by
  have c0 : decide (n < 1) = false := decide_eq_false (by omega)
  have c1 : (n == 0) = false := by rw [beq_eq_false_iff_ne]; omega
  have c2 : (n != 0) = true := by rw [bne_iff_ne]; omega
  have hl : Int.tmod v n < n := Int.tmod_lt_of_pos v (by omega)
  have hg : -n < Int.tmod v n := by have := Int.lt_tmod_of_pos v (show 0 < n by omega); omega
  by_cases h : Int.tmod v n < 0
  · have hb : decide (Int.tmod v n < 0) = true := decide_eq_true h
    have hw : wrap64 (Int.tmod v n + n) = Int.tmod v n + n := by unfold wrap64; omega
    have hfin : Hid (wrap64 (Int.tmod v n + n) = v % n) := by
      show wrap64 _ = _
      rw [hw]
      rcases Int.lt_or_le v 0 with hv | hv
      · rw [Int.tmod_eq_emod] at h ⊢
        split at h <;> split <;> first | omega | (simp_all; omega)
      · rw [Int.tmod_eq_emod_of_nonneg hv] at h
        have := Int.emod_nonneg v (show n ≠ 0 by omega)
        omega
    clear hw hl hg h
    go_enter Try.func11, Try.ntmps11
    go_wp2
    go_ret
    refine ⟨?_, rfl⟩
    rw [← hfin.out]
    rfl
  · have hb : decide (Int.tmod v n < 0) = false := decide_eq_false h
    have hfin : Hid (Int.tmod v n = v % n) := by
      show _ = _
      rcases Int.lt_or_le v 0 with hv | hv
      · rw [Int.tmod_eq_emod] at h ⊢
        have := Int.emod_nonneg v (show n ≠ 0 by omega)
        have := Int.emod_lt_of_pos v (show 0 < n by omega)
        split at h <;> split <;> first | omega | (simp_all; omega)
      · exact Int.tmod_eq_emod_of_nonneg hv
    clear hl hg h
    go_enter Try.func11, Try.ntmps11
    go_wp2
    go_ret
    refine ⟨?_, rfl⟩
    rw [← hfin.out]
    rfl
end Go.Proofs.Ytbmegoemimfiaaa

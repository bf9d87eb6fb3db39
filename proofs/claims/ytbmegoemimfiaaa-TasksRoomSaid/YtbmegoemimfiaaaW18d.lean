/-
  chapter 18: the closures, wakes: the walks.
-/
import Derived.Test.YtbmegoemimfiaaaRows
import Derived.Test.YtbmegoemimfiaaaW18c
import Derived.WalkKit
import Derived.WalkSpells
import Derived.WalkLawsBesides
import Derived.Outline
import Derived.Laws.StructEq
import Derived.Deep.Light
import Derived.Deep.QuietTactic
import Derived.BigQuiet
import Derived.Maps.OwnOps
import Derived.Maps.OwnSet
import Derived.Lib.Hide
namespace Go.Proofs.Ytbmegoemimfiaaa
open Go Go.RowKit
set_option maxRecDepth 100000
set_option linter.unusedVariables false
set_option linter.unusedSimpArgs false

attribute [local go_sem] run_store_float run_store_complex
def lt (j : Nat) : ByteArray := ⟨#[UInt8.ofNat (97 + j)]⟩
def okL (t : ByteArray) : Prop := ∃ j, j < 8 ∧ t = lt j
def st27 (t : ByteArray) : Int := match t.data.toList with | [] => 0 | b :: _ => 1 + ((b.toNat : Int) - 97)
theorem st27_lt (j : Nat) (hj : j < 8) : st27 (lt j) = 1 + (j : Int) := by
  have : j = 0 ∨ j = 1 ∨ j = 2 ∨ j = 3 ∨ j = 4 ∨ j = 5 ∨ j = 6 ∨ j = 7 := by omega
  rcases this with rfl | rfl | rfl | rfl | rfl | rfl | rfl | rfl <;> decide
set_option maxHeartbeats 4000000 in
theorem tells27 : TellsOn 27 okL st27 := by
  rintro W f t ⟨j, hj, rfl⟩
  rw [st27_lt j hj]
  have : j = 0 ∨ j = 1 ∨ j = 2 ∨ j = 3 ∨ j = 4 ∨ j = 5 ∨ j = 6 ∨ j = 7 := by omega
  rcases this with rfl | rfl | rfl | rfl | rfl | rfl | rfl | rfl
  · clear hj
    rw [show lt 0 = (⟨#[97]⟩ : ByteArray) from rfl]
    go_enter Try.func27, Try.ntmps27
    go_wp2
    go_ret
    exact ⟨rfl, (Below.refl _ _).alloc (Nat.le_refl _) _⟩
  · clear hj
    rw [show lt 1 = (⟨#[98]⟩ : ByteArray) from rfl]
    go_enter Try.func27, Try.ntmps27
    go_wp2
    go_ret
    exact ⟨rfl, (Below.refl _ _).alloc (Nat.le_refl _) _⟩
  · clear hj
    rw [show lt 2 = (⟨#[99]⟩ : ByteArray) from rfl]
    go_enter Try.func27, Try.ntmps27
    go_wp2
    go_ret
    exact ⟨rfl, (Below.refl _ _).alloc (Nat.le_refl _) _⟩
  · clear hj
    rw [show lt 3 = (⟨#[100]⟩ : ByteArray) from rfl]
    go_enter Try.func27, Try.ntmps27
    go_wp2
    go_ret
    exact ⟨rfl, (Below.refl _ _).alloc (Nat.le_refl _) _⟩
  · clear hj
    rw [show lt 4 = (⟨#[101]⟩ : ByteArray) from rfl]
    go_enter Try.func27, Try.ntmps27
    go_wp2
    go_ret
    exact ⟨rfl, (Below.refl _ _).alloc (Nat.le_refl _) _⟩
  · clear hj
    rw [show lt 5 = (⟨#[102]⟩ : ByteArray) from rfl]
    go_enter Try.func27, Try.ntmps27
    go_wp2
    go_ret
    exact ⟨rfl, (Below.refl _ _).alloc (Nat.le_refl _) _⟩
  · clear hj
    rw [show lt 6 = (⟨#[103]⟩ : ByteArray) from rfl]
    go_enter Try.func27, Try.ntmps27
    go_wp2
    go_ret
    exact ⟨rfl, (Below.refl _ _).alloc (Nat.le_refl _) _⟩
  · clear hj
    rw [show lt 7 = (⟨#[104]⟩ : ByteArray) from rfl]
    go_enter Try.func27, Try.ntmps27
    go_wp2
    go_ret
    exact ⟨rfl, (Below.refl _ _).alloc (Nat.le_refl _) _⟩
set_option maxHeartbeats 4000000 in
theorem tells52 : TellsOn 52 (fun _ => True) (fun _ => 2) := by
  intro W f t _
  go_enter Try.func52, Try.ntmps52
  go_wp2
  go_ret
  exact ⟨rfl, (Below.refl _ _).alloc (Nat.le_refl _) _⟩
theorem call27 (args : Array Value) (w : World) : (callFunc 27 args).run Try.prog w = .ok (.enter 27 args) w := by go_simp
theorem call52 (args : Array Value) (w : World) : (callFunc 52 args).run Try.prog w = .ok (.enter 52 args) w := by go_simp
set_option maxHeartbeats 8000000 in
theorem wakes18 (w : World) : Calls Try.prog 29 #[] w fun e w' => e = .returned (.bool true) ∧ Below w.heap.size w w' := by
  go_enter Try.func29, Try.ntmps29
  go_wp2_with fail
  refine (of_items none 0 [] (by simp) (by simp) ⟨#[102]⟩ w.heap.size 0 1 [⟨⟨#[97]⟩, 0, 0⟩] (by simp) (by simp) 52 (fun _ => True) (fun _ => 2) call52 tells52 (fun _ _ => trivial) _ ⟨RowOf.nil _ _ _ _, by simp⟩ (row_new (cells := Item.cells) (size := 2) (fun _ => rfl) w [⟨⟨#[97]⟩, 0, 0⟩] #[.string ⟨#[97]⟩, .complex .f64 0 0] w.heap.size 50 rfl rfl)).mono ?_
  rintro e w1 ⟨v, rfl, hown, hb⟩
  have hbw : Below w.heap.size w w1 := below_step (below_alloc (Below.refl _ _) _) hb
  obtain ⟨A, c, hv⟩ := own_slice hown
  subst hv
  obtain ⟨b, o, hA, hcs⟩ := (own_rowOf (cells := Msg.cells) (fun _ => rfl) (by decide) hown).2 (by simp)
  subst hA
  have c0 : w1.cell? ⟨b, o, none⟩ = some (.int .i64 12) := hcs 0 _ rfl 0 _ rfl
  have c1 : w1.cell? ⟨b, o + 1, none⟩ = some (.string ⟨#[102]⟩) := hcs 0 _ rfl 1 _ rfl
  have c3 : w1.cell? ⟨b, o + 3, none⟩ = some (.string ⟨#[97]⟩) := hcs 0 _ rfl 3 _ rfl
  have c5 : w1.cell? ⟨b, o + 5, none⟩ = some (.int .i64 6) := hcs 0 _ rfl 5 _ rfl
  clear hcs hown hb
  simp only [List.length_singleton, List.length_cons, List.length_nil]
  go_wp2
  go_ret
  exact ⟨rfl, hbw⟩
end Go.Proofs.Ytbmegoemimfiaaa

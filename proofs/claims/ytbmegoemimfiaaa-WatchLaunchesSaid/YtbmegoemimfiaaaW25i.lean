/-
  hostlerlaw25.WatchLaunches: what is said, and its closure.
-/
import Derived.Test.YtbmegoemimfiaaaRows
import Derived.Test.YtbmegoemimfiaaaW25h
import Derived.Test.YtbmegoemimfiaaaW25d
import Derived.Test.YtbmegoemimfiaaaFloat
import Derived.WalkKit
import Derived.WalkSpells
import Derived.WalkLawsBesides
import Derived.Outline
import Derived.Laws.StructEq
import Derived.Deep.Light
import Derived.Deep.QuietTactic
import Derived.BigQuiet
import Derived.Maps.OwnOps
import Derived.Maps.OwnSet
import Derived.Lib.Hide
namespace Go.Proofs.Ytbmegoemimfiaaa
open Go Go.RowKit
set_option maxRecDepth 100000
set_option linter.unusedVariables false
set_option linter.unusedSimpArgs false

attribute [local go_sem] run_store_float run_store_complex
/-- What is said: a launch of one item, or an end. -/
inductive Con where
  | ask (f x a : ByteArray) (n : Int) (re im : Nat)
  | other (n : Int)
def Con.ls : Con → Nat → LS
  | .ask f x a n re im, g => ⟨⟨⟨14, f, x, ⟨#[]⟩, n, 0, 0, 0, some ⟨g, 0, none⟩, 1, 1⟩, n, 0⟩, ⟨a, re, im⟩⟩
  | .other n, _ => ⟨⟨⟨15, ⟨#[102]⟩, ⟨#[120]⟩, ⟨#[97]⟩, n, 0, 0, 0, none, 0, 0⟩, 0, 0⟩, ⟨⟨#[]⟩, 0, 0⟩⟩
def Con.good : Con → Nat → World → Prop
  | .ask _ _ a _ re im, g, w => ItAt w g 0 ⟨a, re, im⟩
  | .other _, _, _ => True
theorem Con.good.below {w w1 : World} (hb : Below w.heap.size w w1) : ∀ (c : Con) (g : Nat), c.good g w → c.good g w1
  | .ask .., _, h => ItAt.below h hb
  | .other _, _, _ => trivial
theorem Con.good.ok {w : World} : ∀ (c : Con) (g : Nat), c.good g w → (c.ls g).isL = true → (c.ls g).ok w
  | .ask f x a n re im, g, h, _ => ⟨rfl, g, 0, rfl, h⟩
  | .other _, _, _, h => by simp [Con.ls, LS.isL] at h
def conA : Con := .ask ⟨#[102]⟩ ⟨#[120]⟩ ⟨#[97]⟩ 1 4607182418800017408 0
def tabL (n : Int) : List (Con × Bool) := [(conA, true), (.ask ⟨#[102]⟩ ⟨#[120]⟩ ⟨#[97]⟩ n 4607182418800017408 0, false), (.ask ⟨#[102]⟩ ⟨#[121]⟩ ⟨#[97]⟩ 1 4607182418800017408 0, false), (.ask ⟨#[102]⟩ ⟨#[120]⟩ ⟨#[97]⟩ 1 4607182418800017408 (floatOfInt .f64 n), false),
  (.ask ⟨#[102]⟩ ⟨#[120]⟩ ⟨#[98]⟩ n 4611686018427387904 0, true), (.ask ⟨#[103]⟩ ⟨#[120]⟩ ⟨#[97]⟩ n 4611686018427387904 0, true), (.other n, true)]
def tabChk (n : Int) (g0 g : Nat) : Bool := (tabL n).all (fun p => launchesB [conA.ls g0, p.1.ls g] == p.2 && launchesB [p.1.ls g, conA.ls g0, p.1.ls g] == p.2)
theorem tabL_2 (g0 g : Nat) : tabChk 2 g0 g = true := by kernel_rfl
theorem tabL_3 (g0 g : Nat) : tabChk 3 g0 g = true := by kernel_rfl
theorem tabL_4 (g0 g : Nat) : tabChk 4 g0 g = true := by kernel_rfl
theorem tabL_5 (g0 g : Nat) : tabChk 5 g0 g = true := by kernel_rfl
theorem tabL_6 (g0 g : Nat) : tabChk 6 g0 g = true := by kernel_rfl
theorem tabL_7 (g0 g : Nat) : tabChk 7 g0 g = true := by kernel_rfl
theorem tabL_8 (g0 g : Nat) : tabChk 8 g0 g = true := by kernel_rfl
theorem tabL_9 (g0 g : Nat) : tabChk 9 g0 g = true := by kernel_rfl
theorem tabL_10 (g0 g : Nat) : tabChk 10 g0 g = true := by kernel_rfl
theorem tabL_11 (g0 g : Nat) : tabChk 11 g0 g = true := by kernel_rfl
theorem tabL_12 (g0 g : Nat) : tabChk 12 g0 g = true := by kernel_rfl
theorem tabL_13 (g0 g : Nat) : tabChk 13 g0 g = true := by kernel_rfl
theorem tabL_14 (g0 g : Nat) : tabChk 14 g0 g = true := by kernel_rfl
theorem tabL_15 (g0 g : Nat) : tabChk 15 g0 g = true := by kernel_rfl
theorem tabL_16 (g0 g : Nat) : tabChk 16 g0 g = true := by kernel_rfl
theorem tabL_17 (g0 g : Nat) : tabChk 17 g0 g = true := by kernel_rfl
theorem tabL_18 (g0 g : Nat) : tabChk 18 g0 g = true := by kernel_rfl
theorem tabL_19 (g0 g : Nat) : tabChk 19 g0 g = true := by kernel_rfl
theorem tabL_20 (g0 g : Nat) : tabChk 20 g0 g = true := by kernel_rfl
theorem tabL_21 (g0 g : Nat) : tabChk 21 g0 g = true := by kernel_rfl
theorem tabL_ok (n : Int) (h2 : 2 ≤ n) (h21 : n ≤ 21) (g0 g : Nat) : tabChk n g0 g = true := by
  have hc : n = 2 ∨ n = 3 ∨ n = 4 ∨ n = 5 ∨ n = 6 ∨ n = 7 ∨ n = 8 ∨ n = 9 ∨ n = 10 ∨ n = 11 ∨ n = 12 ∨ n = 13 ∨ n = 14 ∨ n = 15 ∨ n = 16 ∨ n = 17 ∨ n = 18 ∨ n = 19 ∨ n = 20 ∨ n = 21 := by omega
  clear h2 h21
  rcases hc with rfl | rfl | rfl | rfl | rfl | rfl | rfl | rfl | rfl | rfl | rfl | rfl | rfl | rfl | rfl | rfl | rfl | rfl | rfl | rfl
  · exact tabL_2 g0 g
  · exact tabL_3 g0 g
  · exact tabL_4 g0 g
  · exact tabL_5 g0 g
  · exact tabL_6 g0 g
  · exact tabL_7 g0 g
  · exact tabL_8 g0 g
  · exact tabL_9 g0 g
  · exact tabL_10 g0 g
  · exact tabL_11 g0 g
  · exact tabL_12 g0 g
  · exact tabL_13 g0 g
  · exact tabL_14 g0 g
  · exact tabL_15 g0 g
  · exact tabL_16 g0 g
  · exact tabL_17 g0 g
  · exact tabL_18 g0 g
  · exact tabL_19 g0 g
  · exact tabL_20 g0 g
  · exact tabL_21 g0 g
theorem launches_at (A : Option Addr) (c n : Nat) (S : List LS) (r : Bool) (hl : S.length = n) (hr : launchesB S = r) (hn : n ≤ 1000) (w : World) (hS : RowOf (fun y : LS => y.x.cells) 11 w A S) (hok : ∀ y ∈ S, y.isL = true → y.ok w) :
    Calls Try.prog 43 #[.slice A n c] w fun e w' => e = .returned (.bool r) ∧ Below w.heap.size w w' := by
  subst hl
  subst hr
  exact launches_any A c S hn w hS hok
set_option maxHeartbeats 4000000 in
theorem says (f x a : ByteArray) (n : Int) (re im : Nat) (w : World) :
    Calls Try.prog 42 #[.string f, .string x, .string a, .int .i64 n, .complex .f64 re im] w fun e w' => ∃ g, e = .returned (.agg #[.int .i64 14, .string f, .string x, .string ⟨#[]⟩, .int .i64 n, .int .i64 0, .int .i64 0, .int .i64 0, .slice (some ⟨g, 0, none⟩) 1 1, .int .i64 n, .int .i64 0]) ∧ ItAt w' g 0 ⟨a, re, im⟩ ∧ Below w.heap.size w w' := by
  go_enter Try.func42, Try.ntmps42
  go_wp2
  refine bodyPost_ret (v := .agg #[.int .i64 14, .string f, .string x, .string ⟨#[]⟩, .int .i64 n, .int .i64 0, .int .i64 0, .int .i64 0, .slice (some ⟨w.heap.size + 1, 0, none⟩) 1 1, .int .i64 n, .int .i64 0]) (by simp [results, Try.results42, go_sem]) rfl ?_
  refine ⟨w.heap.size + 1, rfl, ?_, ?_⟩
  · exact ⟨by rw [cell_new1]; rfl, by rw [cell_new1]; rfl⟩
  · exact below_alloc (below_alloc (Below.refl _ _) _) _
end Go.Proofs.Ytbmegoemimfiaaa

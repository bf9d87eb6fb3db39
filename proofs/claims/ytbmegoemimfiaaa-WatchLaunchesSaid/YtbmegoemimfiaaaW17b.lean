/-
  hostlerkeep.Same at rows of tasks: two equal lists are the same.
-/
import Derived.Test.YtbmegoemimfiaaaRows
import Derived.Test.YtbmegoemimfiaaaW18b
import Derived.WalkKit
import Derived.WalkSpells
import Derived.WalkLawsBesides
import Derived.Outline
import Derived.Laws.StructEq
import Derived.Deep.Light
import Derived.Deep.QuietTactic
import Derived.BigQuiet
import Derived.Maps.OwnOps
import Derived.Maps.OwnSet
import Derived.Lib.Hide
namespace Go.Proofs.Ytbmegoemimfiaaa
open Go Go.RowKit
set_option maxRecDepth 100000
set_option linter.unusedVariables false
set_option linter.unusedSimpArgs false

theorem run_equalIn_complex {P : Program} (w : World) (d : Nat) (t : TypeId) (k k' : FloatKind) (a b c e : Nat) (h : P.underlying t = some (.complex k')) : (Op.equalIn (d + 1) t (.complex k a b) (.complex k c e)).run P w = .ok ((k.format.order a c == some .eq) && (k.format.order b e == some .eq)) w := by
  simp [Op.equalIn, run_underlying h, Op.floatEq]
attribute [local go_sem] run_equalIn_complex
def selfEq (b : Nat) : Bool := FloatKind.f64.format.order b b == some .eq
def RowT.own (x : RowT) : Bool := selfEq x.re && selfEq x.im
def SameRelR (w : World) (n : Nat) (i : Value) (wr : World) : Prop := ∃ k : Nat, k ≤ n ∧ i = .int .i64 k ∧ Below w.heap.size w wr
set_option maxHeartbeats 4000000 in
theorem sameR_some (b1 o1 c1 b2 o2 c2 : Nat) (L : List RowT) (hn : L.length ≤ 1000) (hr : ∀ x ∈ L, x.own = true) (w : World) (h1 : RowOf RowT.cells 5 w (some ⟨b1, o1, none⟩) L) (h2 : RowOf RowT.cells 5 w (some ⟨b2, o2, none⟩) L) :
    Calls Try.prog 30 #[.slice (some ⟨b1, o1, none⟩) L.length c1, .slice (some ⟨b2, o2, none⟩) L.length c2] w fun e w' => e = .returned (.bool true) ∧ Below w.heap.size w w' := by
  have H1 := Lib.hid h1
  have H2 := Lib.hid h2
  have HR := Lib.hid hr
  clear h1 h2 hr
  go_enter Try.func30, Try.ntmps30
  go_wp2
  go_loopw [5] (fun i wr => SameRelR w L.length i wr) (fun i _ => L.length - (intOf i).toNat)
  case atStart => exact ⟨0, Nat.zero_le _, rfl, Below.refl _ _⟩
  case round =>
    obtain ⟨k, hk, rfl, hb⟩ := hrel
    by_cases hlt : k < L.length
    · obtain ⟨x, hx⟩ : ∃ x, L[k]? = some x := ⟨_, List.getElem?_eq_getElem hlt⟩
      obtain ⟨b1', o1', he1, hc1⟩ := H1.out (by omega)
      obtain ⟨b2', o2', he2, hc2⟩ := H2.out (by omega)
      cases he1
      cases he2
      have hown := HR.out x (List.mem_of_getElem? hx)
      have hc : ∀ (j : Nat) (v : Value), x.cells[j]? = some v → wr.cell? ⟨b1, o1 + k * 5 + j, none⟩ = some v := fun j v h => cell_below hb (hc1 k x hx j v h)
      have hd : ∀ (j : Nat) (v : Value), x.cells[j]? = some v → wr.cell? ⟨b2, o2 + k * 5 + j, none⟩ = some v := fun j v h => cell_below hb (hc2 k x hx j v h)
      clear hc1 hc2 hx
      obtain ⟨xf, xt, xe, xrun, xre, xim⟩ := x
      simp only [RowT.own, Bool.and_eq_true, selfEq] at hown
      obtain ⟨q1, q2⟩ := hown
      have c0 : wr.cell? ⟨b1, o1 + k * 5, none⟩ = some (.string xf) := hc 0 _ rfl
      have c1 : wr.cell? ⟨b1, o1 + k * 5 + 1, none⟩ = some (.string xt) := hc 1 _ rfl
      have c2 : wr.cell? ⟨b1, o1 + k * 5 + 2, none⟩ = some (.string xe) := hc 2 _ rfl
      have c3 : wr.cell? ⟨b1, o1 + k * 5 + 3, none⟩ = some (.int .i64 xrun) := hc 3 _ rfl
      have c4 : wr.cell? ⟨b1, o1 + k * 5 + 4, none⟩ = some (.complex .f64 xre xim) := hc 4 _ rfl
      have d0 : wr.cell? ⟨b2, o2 + k * 5, none⟩ = some (.string xf) := hd 0 _ rfl
      have d1 : wr.cell? ⟨b2, o2 + k * 5 + 1, none⟩ = some (.string xt) := hd 1 _ rfl
      have d2 : wr.cell? ⟨b2, o2 + k * 5 + 2, none⟩ = some (.string xe) := hd 2 _ rfl
      have d3 : wr.cell? ⟨b2, o2 + k * 5 + 3, none⟩ = some (.int .i64 xrun) := hd 3 _ rfl
      have d4 : wr.cell? ⟨b2, o2 + k * 5 + 4, none⟩ = some (.complex .f64 xre xim) := hd 4 _ rfl
      clear hc hd
      have hkk : (k : Int) < (L.length : Int) := by omega
      go_wp2
      go_quiet (fail)
      go_wp2
      go_roundw
      case rel => exact ⟨k + 1, by omega, by go_num, below_drewN hb _⟩
      case measure => simp [intOf]; omega
    · go_wp2
      go_ret
      exact ⟨rfl, hb⟩
set_option maxHeartbeats 1000000 in
theorem sameR_nil (A1 A2 : Option Addr) (c1 c2 : Nat) (w : World) :
    Calls Try.prog 30 #[.slice A1 0 c1, .slice A2 0 c2] w fun e w' => e = .returned (.bool true) ∧ Below w.heap.size w w' := by
  go_enter Try.func30, Try.ntmps30
  go_wp2
  go_loopw [5] (fun i wr => i = .int .i64 0 ∧ w = wr) (fun _ _ => 0)
  case atStart => exact ⟨rfl, rfl⟩
  case round =>
    obtain ⟨rfl, rfl⟩ := hrel
    go_wp2
    go_ret
    exact ⟨rfl, Below.refl _ _⟩
theorem sameR_any (A1 A2 : Option Addr) (c1 c2 : Nat) (L : List RowT) (hn : L.length ≤ 1000) (hr : ∀ x ∈ L, x.own = true) (w : World) (h1 : RowOf RowT.cells 5 w A1 L) (h2 : RowOf RowT.cells 5 w A2 L) :
    Calls Try.prog 30 #[.slice A1 L.length c1, .slice A2 L.length c2] w fun e w' => e = .returned (.bool true) ∧ Below w.heap.size w w' := by
  rcases Nat.eq_zero_or_pos L.length with h0 | h0
  · obtain rfl := List.eq_nil_of_length_eq_zero h0
    exact sameR_nil A1 A2 c1 c2 w
  · obtain ⟨b1, o1, rfl, _⟩ := h1 h0
    obtain ⟨b2, o2, rfl, _⟩ := h2 h0
    exact sameR_some b1 o1 c1 b2 o2 c2 L hn hr w h1 h2
end Go.Proofs.Ytbmegoemimfiaaa

/-
  need.Sum, need.Fits, tasks.Fits; the wakes of the statements on tasks: the walks.
-/
import Derived.Test.YtbmegoemimfiaaaRows
import Derived.Test.YtbmegoemimfiaaaW17e
import Derived.WalkKit
import Derived.WalkSpells
import Derived.WalkLawsBesides
import Derived.Outline
import Derived.Laws.StructEq
import Derived.Deep.Light
import Derived.Deep.QuietTactic
import Derived.BigQuiet
import Derived.Maps.OwnOps
import Derived.Maps.OwnSet
import Derived.Lib.Hide
namespace Go.Proofs.Ytbmegoemimfiaaa
open Go Go.RowKit
set_option maxRecDepth 100000
set_option linter.unusedVariables false
set_option linter.unusedSimpArgs false

attribute [local go_sem] run_store_float run_store_complex
theorem run_store_complex' (P : Program) (w : World) (a : Addr) (m : Mode) (k : FloatKind) (x y : Nat) : (store a (.complex k x y) m).run P w = stored P w a (.complex k x y) m := run_store_complex P w a m k x y
theorem info47 : (Try.prog.info? 47).map (fun i => (i.zero, i.size, i.bytes)) = some (some (.complex .f64 0 0), 1, 16) := by kernel_rfl
abbrev Cx := Nat × Nat
def Cx.cells (x : Cx) : List Value := [.complex .f64 x.1 x.2]
def addC (x y : Cx) : Option Cx := cSumBits .add .f64 x.1 x.2 y.1 y.2
def sumGo : Cx → List Cx → Option Cx
  | z, [] => some z
  | z, x :: r => (addC z x).bind fun y => sumGo y r
theorem sumGo_cons {z x y : Cx} {r : List Cx} (h : sumGo z (x :: r) = some y) : ∃ u, addC z x = some u ∧ sumGo u r = some y := by
  unfold sumGo at h
  obtain ⟨u, h1, h2⟩ := Option.bind_eq_some_iff.1 h
  exact ⟨u, h1, h2⟩
def SumRel (L : List Cx) (r : Cx) (z i : Value) : Prop := ∃ (k : Nat) (u : Cx), k ≤ L.length ∧ i = .int .i64 k ∧ z = .complex .f64 u.1 u.2 ∧ Hid (sumGo u (L.drop k) = some r)
set_option maxHeartbeats 4000000 in
theorem sum_some (b o c : Nat) (L : List Cx) (hn : L.length ≤ 1000) (r : Cx) (hr : sumGo (0, 0) L = some r) (w : World) (hL : RowOf Cx.cells 1 w (some ⟨b, o, none⟩) L) :
    Calls Try.prog 47 #[.slice (some ⟨b, o, none⟩) L.length c] w fun e w' => e = .returned (.complex .f64 r.1 r.2) ∧ w = w' := by
  have HL := Lib.hid hL
  have HR := Lib.hid hr
  clear hL hr
  go_enter Try.func47, Try.ntmps47
  go_wp2
  go_loop [3, 8] (fun z i => SumRel L r z i) (fun _ i => L.length - (intOf i).toNat)
  case atStart => exact ⟨0, (0, 0), Nat.zero_le _, rfl, rfl, HR.out⟩
  case round =>
    obtain ⟨k, u, hk, rfl, rfl, hg⟩ := hrel
    by_cases hlt : k < L.length
    · obtain ⟨x, hx⟩ : ∃ x, L[k]? = some x := ⟨_, List.getElem?_eq_getElem hlt⟩
      obtain ⟨b', o', hA0, hcs⟩ := HL.out (by omega)
      cases hA0
      have hd : L.drop k = x :: L.drop (k + 1) := by
        rw [List.drop_eq_getElem_cons hlt]
        rw [List.getElem?_eq_getElem hlt] at hx
        cases hx
        rfl
      have hg' := hg.out
      rw [hd] at hg'
      obtain ⟨y, hy1, hy2⟩ := sumGo_cons hg'
      have hyH := Lib.hid hy2
      have c0 : w.cell? ⟨b, o + k, none⟩ = some (.complex .f64 x.1 x.2) := by have := hcs k x hx 0 _ rfl; simpa using this
      have hadd : ∀ w, (binOp .add 47 (.complex .f64 u.1 u.2) (.complex .f64 x.1 x.2)).run Try.prog w = .ok (.complex .f64 y.1 y.2) w := fun w => run_complex_sum w .add (.inl rfl) 47 .f64 _ _ _ _ _ _ hy1
      clear hg hg' hy1 hy2 hd hx hcs
      go_wp2
      go_round
      case rel => exact ⟨k + 1, y, by omega, by go_num, rfl, hyH⟩
      case measure => simp [intOf]; omega
    · have hfin : Hid (u = r) := by
        have h := hg.out
        rw [List.drop_of_length_le (by omega)] at h
        injection h
      clear hg
      go_wp2
      go_ret
      rw [hfin.out]
      exact ⟨rfl, rfl⟩
set_option maxHeartbeats 1000000 in
theorem sum_nil (A : Option Addr) (c : Nat) (w : World) : Calls Try.prog 47 #[.slice A 0 c] w fun e w' => e = .returned (.complex .f64 0 0) ∧ w = w' := by
  go_enter Try.func47, Try.ntmps47
  go_wp2
  go_loop [3, 8] (fun z i => i = .int .i64 0 ∧ z = .complex .f64 0 0) (fun _ _ => 0)
  case atStart => exact ⟨rfl, rfl⟩
  case round =>
    obtain ⟨rfl, rfl⟩ := hrel
    go_wp2
    go_ret
    exact ⟨rfl, rfl⟩
theorem sum_any (A : Option Addr) (c : Nat) (L : List Cx) (hn : L.length ≤ 1000) (r : Cx) (hr : sumGo (0, 0) L = some r) (w : World) (hL : RowOf Cx.cells 1 w A L) :
    Calls Try.prog 47 #[.slice A L.length c] w fun e w' => e = .returned (.complex .f64 r.1 r.2) ∧ w = w' := by
  rcases Nat.eq_zero_or_pos L.length with h0 | h0
  · obtain rfl := List.eq_nil_of_length_eq_zero h0
    injection hr with hr
    subst hr
    exact sum_nil A c w
  · obtain ⟨b, o, rfl, _⟩ := hL h0
    exact sum_some b o c L hn r hr w hL
def leB (x y : Nat) : Bool := FloatKind.f64.format.order x y == some .lt || FloatKind.f64.format.order x y == some .eq
set_option maxHeartbeats 1000000 in
theorem needFits (a b c d : Nat) (w : World) : Calls Try.prog 48 #[.complex .f64 a b, .complex .f64 c d] w fun e w' => e = .returned (.bool (leB a c && leB b d)) ∧ w = w' := by
  go_enter Try.func48, Try.ntmps48
  go_wp2
  · go_ret
    exact ⟨rfl, rfl⟩
  · rename_i h
    go_ret
    rw [show leB a c = false from by simpa [leB] using h]
    exact ⟨rfl, rfl⟩
theorem own_one (w : World) (base : Nat) (e : TypeId) (v : Value) (hb : base ≤ w.heap.size) : (w.alloc (.cells #[v] e)).ownsRow base e 1 (.slice (some ⟨w.heap.size, 0, none⟩) 1 1) 1 [v] :=
  ⟨rfl, .inr ⟨w.heap.size, 1, #[v], rfl, hb, heap_alloc_new w _, Nat.le_refl _, by decide, rfl, rfl⟩⟩
def Item.cx (x : Item) : Cx := (x.re, x.im)
def FitRel (w : World) (X : List Item) (u : Cx) (v i : Value) (wr : World) : Prop := ∃ k : Nat, k ≤ X.length ∧ i = .int .i64 k ∧ Below w.heap.size w wr ∧ wr.ownsRow w.heap.size 47 1 v (k + 1) ((u :: (X.take k).map Item.cx).flatMap Cx.cells)
theorem cx_length (u : Cx) (X : List Item) : (u :: X.map Item.cx).length = X.length + 1 := by simp
set_option maxHeartbeats 8000000 in
theorem fits_any (A : Option Addr) (c : Nat) (X : List Item) (hn : X.length ≤ 900) (a b x y : Nat) (r : Cx) (hr : sumGo (0, 0) ((a, b) :: X.map Item.cx) = some r) (w : World) (hX : ItemsAt w A X) :
    Calls Try.prog 25 #[.complex .f64 a b, .complex .f64 x y, .slice A X.length c] w fun e w' => e = .returned (.bool (leB r.1 x && leB r.2 y)) ∧ Below w.heap.size w w' := by
  have HX := Lib.hid hX
  have HR := Lib.hid hr
  clear hX hr
  have hstart := Lib.hid (own_one w w.heap.size 47 (.complex .f64 a b) (Nat.le_refl _))
  have hb0 := below_alloc (Below.refl w.heap.size w) (.cells #[.complex .f64 a b] 47)
  go_enter Try.func25, Try.ntmps25
  go_wp2_with fail
  generalize hW : w.alloc _ = W0 at hstart hb0 ⊢
  clear hW
  go_loopw [7, 14] (fun v i wr => FitRel w X (a, b) v i wr) (fun _ i _ => X.length - (intOf i).toNat)
  case atStart => exact ⟨0, Nat.zero_le _, rfl, hb0, hstart.out⟩
  case round =>
    obtain ⟨k, hk, rfl, hb, hown⟩ := hrel
    obtain ⟨A2, cp2, hv2⟩ := own_slice hown
    subst hv2
    have hownH := Lib.hid hown
    clear hown hstart hb0
    by_cases hlt : k < X.length
    · obtain ⟨it, hit⟩ : ∃ it, X[k]? = some it := ⟨_, List.getElem?_eq_getElem hlt⟩
      obtain ⟨b', o', hA0, hcs⟩ := HX.out (by omega)
      subst hA0
      have c0 : wr.cell? ⟨b', o' + k * 2, none⟩ = some (.string it.t) := cell_below hb (hcs k it hit 0 _ rfl)
      have c1 : wr.cell? ⟨b', o' + k * 2 + 1, none⟩ = some (.complex .f64 it.re it.im) := cell_below hb (hcs k it hit 1 _ rfl)
      have hsn := Lib.hid (take_snoc' X k it hit)
      clear hcs hit
      go_wp2_with (at_builtin; refine app_at (w0 := w) (wr.heap.size + 1) (by simp) w.heap.size rfl _ _ 88 47 (.complex .f64 0 0) 1 16 rfl Try.underlying88 info47 rfl (by decide) (by decide) (.slice A2 (k + 1) cp2) (k + 1) ((((a, b) : Cx) :: (X.take k).map Item.cx).flatMap Cx.cells) [.complex .f64 it.re it.im] (by rfl) (by rfl) rfl (by simp [Value.oneCell']) (hownH.out.alloc _) (below_alloc hb _) (below_size (below_alloc hb _)) (by omega) ?_; intro v1 w3 hown1 hb1 hg1 hat1)
      go_roundw
      case rel =>
        refine ⟨k + 1, by omega, by go_num, hb1, ?_⟩
        rw [hsn.out, List.map_append, ← List.cons_append, List.flatMap_append]
        exact hown1
      case measure => simp [intOf]; omega
    · have hke : k = X.length := by omega
      subst hke
      rw [List.take_length] at hownH
      have hrow := (own_rowOf (cells := Cx.cells) (fun _ => rfl) (by decide) hownH.out).2
      have hS := sum_any A2 cp2 (((a, b) : Cx) :: X.map Item.cx) (by rw [cx_length]; omega) r HR.out wr hrow
      rw [cx_length] at hS
      have HS := Lib.hid hS
      clear hS hrow hownH
      go_wp2_with fail
      refine HS.out.mono ?_
      rintro e w4 ⟨rfl, rfl⟩
      go_wp2_with fail
      refine (needFits r.1 r.2 x y wr).mono ?_
      rintro e w5 ⟨rfl, rfl⟩
      go_wp2
      go_ret
      exact ⟨rfl, hb⟩
def two64 : Nat := 4611686018427387904
theorem sumW : sumGo (0, 0) [(0, 0), (two64, 0)] = some (two64, 0) := by kernel_rfl
theorem leW : (leB two64 two64 && leB 0 0) = true := by kernel_rfl
set_option maxHeartbeats 4000000 in
theorem wakes17 (w : World) : Calls Try.prog 23 #[] w fun e w' => e = .returned (.bool true) ∧ Below w.heap.size w w' := by
  go_enter Try.func23, Try.ntmps23
  go_wp2_with fail
  refine (rows_any none 0 [] (by simp) (by simp [rowsOf]) w ⟨RowOf.nil _ _ _ _, by simp⟩).mono ?_
  rintro e w1 ⟨v, rfl, hown, hb⟩
  obtain ⟨A, c, hv⟩ := own_slice hown
  subst hv
  clear hown
  go_wp2_with fail
  have hF := fits_any (some ⟨w1.heap.size, 0, none⟩) 1 [⟨⟨#[97]⟩, two64, 0⟩] (by simp) 0 0 two64 0 (two64, 0) sumW (w1.alloc (.cells #[.string ⟨#[97]⟩, .complex .f64 two64 0] 50)) (row_new (cells := Item.cells) (size := 2) (fun _ => rfl) w1 [⟨⟨#[97]⟩, two64, 0⟩] _ w1.heap.size 50 rfl rfl)
  rw [leW] at hF
  refine hF.mono ?_
  rintro e w2 ⟨rfl, hb2⟩
  have hb3 := below_step (below_alloc hb _) hb2
  go_wp2
  go_ret
  exact ⟨rfl, hb3⟩
end Go.Proofs.Ytbmegoemimfiaaa

/-
  tasks.Used; the closures of TasksRoom: the walks.
-/
import Derived.Test.YtbmegoemimfiaaaRows
import Derived.Test.YtbmegoemimfiaaaW17f
import Derived.Test.YtbmegoemimfiaaaW18d
import Derived.Test.YtbmegoemimfiaaaFloat
import Derived.WalkKit
import Derived.WalkSpells
import Derived.WalkLawsBesides
import Derived.Outline
import Derived.Laws.StructEq
import Derived.Deep.Light
import Derived.Deep.QuietTactic
import Derived.BigQuiet
import Derived.Maps.OwnOps
import Derived.Maps.OwnSet
import Derived.Lib.Hide
namespace Go.Proofs.Ytbmegoemimfiaaa
open Go Go.RowKit
set_option maxRecDepth 100000
set_option linter.unusedVariables false
set_option linter.unusedSimpArgs false

attribute [local go_sem] run_store_float run_store_complex
def RowT.cx (x : RowT) : Cx := (x.re, x.im)
def UsedRel (w : World) (L : List RowT) (v i : Value) (wr : World) : Prop := ∃ k : Nat, k ≤ L.length ∧ i = .int .i64 k ∧ Below w.heap.size w wr ∧ wr.ownsRow w.heap.size 47 1 v k (((L.take k).map RowT.cx).flatMap Cx.cells)
set_option maxHeartbeats 8000000 in
theorem used_any (A : Option Addr) (c : Nat) (L K : List RowT) (hn : L.length ≤ 900) (g : Nat) (bs : Array Value) (J : World → Prop) (ok : ByteArray → Prop) (st : ByteArray → Int) (hF : StateFn g bs J ok st) (hok : ∀ x ∈ L, ok x.t) (hK : K = L.filter (openB st)) (r : Cx) (hr : sumGo (0, 0) (K.map RowT.cx) = some r) (w : World) (hJ : J w) (hL : RowOf RowT.cells 5 w A L) :
    Calls Try.prog 21 #[.slice A L.length c, .func (.func g) #[] bs] w fun e w' => e = .returned (.complex .f64 r.1 r.2) ∧ Below w.heap.size w w' := by
  have hKl : K.length ≤ 900 := by rw [hK]; exact Nat.le_trans (List.length_filter_le _ _) hn
  have HO := Lib.hid (open_any A c L (by omega) g bs J ok st hF hok w hJ hL)
  have HR := Lib.hid hr
  have HK := Lib.hid hK
  clear hF hok hJ hL hr hK hn
  go_enter Try.func21, Try.ntmps21
  go_wp2_with fail
  refine HO.out.mono ?_
  clear HO
  rintro e w1 ⟨v, rfl, hown, hb⟩
  rw [← HK.out] at hown
  obtain ⟨A1, c1, hv⟩ := own_slice hown
  subst hv
  have hrow := Lib.hid (own_rowOf (cells := RowT.cells) (fun _ => rfl) (by decide) hown).2
  clear hown HK
  go_wp2_with fail
  go_loopw [5, 12] (fun v i wr => UsedRel w1 K v i wr) (fun _ i _ => K.length - (intOf i).toNat)
  case atStart => exact ⟨0, Nat.zero_le _, rfl, Below.refl _ _, World.ownsRow_nil _ _ _ _⟩
  case round =>
    obtain ⟨k, hk, rfl, hb2, hown⟩ := hrel
    obtain ⟨A2, cp2, hv2⟩ := own_slice hown
    subst hv2
    have hownH := Lib.hid hown
    clear hown
    by_cases hlt : k < K.length
    · obtain ⟨x, hx⟩ : ∃ x, K[k]? = some x := ⟨_, List.getElem?_eq_getElem hlt⟩
      obtain ⟨b', o', hA0, hcs⟩ := hrow.out (by omega)
      subst hA0
      have hc : ∀ (j : Nat) (v : Value), x.cells[j]? = some v → wr.cell? ⟨b', o' + k * 5 + j, none⟩ = some v := fun j v h => cell_below hb2 (hcs k x hx j v h)
      have c0 : wr.cell? ⟨b', o' + k * 5, none⟩ = some (.string x.f) := hc 0 _ rfl
      have c1 : wr.cell? ⟨b', o' + k * 5 + 1, none⟩ = some (.string x.t) := hc 1 _ rfl
      have c2 : wr.cell? ⟨b', o' + k * 5 + 2, none⟩ = some (.string x.e) := hc 2 _ rfl
      have c3 : wr.cell? ⟨b', o' + k * 5 + 3, none⟩ = some (.int .i64 x.run) := hc 3 _ rfl
      have c4 : wr.cell? ⟨b', o' + k * 5 + 4, none⟩ = some (.complex .f64 x.re x.im) := hc 4 _ rfl
      have hsn := Lib.hid (take_snoc' K k x hx)
      clear hcs hc hx
      go_wp2_with (at_builtin; refine app_at (w0 := w1) (wr.heap.size + 1) (by simp) w1.heap.size rfl _ _ 88 47 (.complex .f64 0 0) 1 16 rfl Try.underlying88 info47 rfl (by decide) (by decide) (.slice A2 k cp2) k (((K.take k).map RowT.cx).flatMap Cx.cells) [.complex .f64 x.re x.im] (by rfl) (by rfl) rfl (by simp [Value.oneCell']) (hownH.out.alloc _) (below_alloc hb2 _) (below_size (below_alloc hb2 _)) (by omega) ?_; intro v1 w3 hown1 hb1 hg1 hat1)
      go_roundw
      case rel =>
        refine ⟨k + 1, by omega, by go_num, hb1, ?_⟩
        rw [hsn.out, List.map_append, List.flatMap_append]
        exact hown1
      case measure => simp [intOf]; omega
    · have hke : k = K.length := by omega
      subst hke
      rw [List.take_length] at hownH
      have hrow2 := (own_rowOf (cells := Cx.cells) (fun _ => rfl) (by decide) hownH.out).2
      have hS := sum_any A2 cp2 (K.map RowT.cx) (by rw [List.length_map]; omega) r HR.out wr hrow2
      rw [List.length_map] at hS
      have HS := Lib.hid hS
      clear hS hrow2 hownH
      have hbw := below_step hb hb2
      clear hb hb2
      go_wp2_with fail
      refine HS.out.mono ?_
      rintro e w4 ⟨rfl, rfl⟩
      go_wp2
      go_ret
      exact ⟨rfl, hbw⟩
theorem call22 (args : Array Value) (w : World) : (callFunc 22 args).run Try.prog w = .ok (.enter 22 args) w := by go_simp
theorem call24 (args : Array Value) (w : World) : (callFunc 24 args).run Try.prog w = .ok (.enter 24 args) w := by go_simp
set_option maxHeartbeats 1000000 in
theorem tells22 : StateFn 22 #[] (fun _ => True) (fun _ => True) (fun _ => 2) := by
  refine ⟨call22, fun W f t _ _ => ?_, fun _ _ _ _ => trivial⟩
  simp only [Array.append_empty]
  go_enter Try.func22, Try.ntmps22
  go_wp2
  go_ret
  exact ⟨rfl, (Below.refl _ _).alloc (Nat.le_refl _) _⟩
def stEnd (k : Nat) (t : ByteArray) : Int := if eqS t (lt k) = true then 3 else 1
def sufR (k : Nat) : ByteArray := (⟨#[97, 98, 99, 100, 101, 102, 103, 104]⟩ : ByteArray).extract k 8
def oneR (k : Nat) : ByteArray := (sufR k).extract 0 1
theorem oneR_lt (k : Nat) (hk : k < 8) : oneR k = lt k := by
  have hk8 : k = 0 ∨ k = 1 ∨ k = 2 ∨ k = 3 ∨ k = 4 ∨ k = 5 ∨ k = 6 ∨ k = 7 := by omega
  rcases hk8 with rfl | rfl | rfl | rfl | rfl | rfl | rfl | rfl <;> decide +kernel
set_option maxHeartbeats 1000000 in
theorem end24 (gk k : Nat) (hk : k < 8) (W : World) (f t : ByteArray) (hJ : W.cell? ⟨gk, 0, none⟩ = some (.int .i64 k)) (q : Bool) (hq : eqS t (lt k) = q) :
    Calls Try.prog 24 #[.agg #[.string f, .string t], .pointer (some ⟨gk, 0, none⟩)] W fun e w' => e = .returned (.int .i64 (if q = true then 3 else 1)) ∧ Below W.heap.size W w' := by
  have q0 : ∀ o, (W.alloc o).cell? ⟨gk, 0, none⟩ = some (.int .i64 k) := fun o => cell_below (below_alloc (Below.refl _ _) _) hJ
  have e1 : (t.toList == (((⟨#[97, 98, 99, 100, 101, 102, 103, 104]⟩ : ByteArray).extract k 8).extract 0 1).toList) = q := by
    rw [eqS_toList, ← hq, ← oneR_lt k hk]
    rfl
  clear hJ hq
  cases q with
  | true =>
    go_enter Try.func24, Try.ntmps24
    go_wp2
    go_quiet (fail)
    go_wp2
    go_ret
    exact ⟨rfl, below_drewN (below_alloc (Below.refl _ _) _) _⟩
  | false =>
    go_enter Try.func24, Try.ntmps24
    go_wp2
    go_quiet (fail)
    go_wp2
    go_ret
    exact ⟨rfl, below_drewN (below_alloc (Below.refl _ _) _) _⟩
theorem tells24 (gk k : Nat) (hk : k < 8) : StateFn 24 #[.pointer (some ⟨gk, 0, none⟩)] (fun W => W.cell? ⟨gk, 0, none⟩ = some (.int .i64 k)) (fun _ => True) (stEnd k) :=
  ⟨call24, fun W f t hJ _ => end24 gk k hk W f t hJ (eqS t (lt k)) rfl, fun W W' h hb => cell_below hb h⟩
end Go.Proofs.Ytbmegoemimfiaaa

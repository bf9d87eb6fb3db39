/-
  tasks.Of: what it strikes (its closure), slices.IndexFunc at rows: the walks.
-/
import Derived.Test.YtbmegoemimfiaaaRows
import Derived.Test.YtbmegoemimfiaaaW17b
import Derived.WalkKit
import Derived.WalkSpells
import Derived.WalkLawsBesides
import Derived.Outline
import Derived.Laws.StructEq
import Derived.Deep.Light
import Derived.Deep.QuietTactic
import Derived.BigQuiet
import Derived.Maps.OwnOps
import Derived.Maps.OwnSet
import Derived.Lib.Hide
namespace Go.Proofs.Ytbmegoemimfiaaa
open Go Go.RowKit
set_option maxRecDepth 100000
set_option linter.unusedVariables false
set_option linter.unusedSimpArgs false

attribute [local go_sem] run_store_float run_store_complex
def RowT.agg (x : RowT) : Value := .agg #[.string x.f, .string x.t, .string x.e, .int .i64 x.run, .complex .f64 x.re x.im]
def delB (f e : ByteArray) (n : Int) (x : RowT) : Bool := !(eqS x.f f && eqS x.e e && x.run == n)
structure Caught (w : World) (p1 p2 p3 : Nat) (f e : ByteArray) (n : Int) : Prop where
  c1 : w.cell? ⟨p1, 0, none⟩ = some (.string f)
  c2 : w.cell? ⟨p2, 0, none⟩ = some (.string e)
  c3 : w.cell? ⟨p3, 0, none⟩ = some (.int .i64 n)
theorem Caught.below {w w1 : World} {p1 p2 p3 : Nat} {f e : ByteArray} {n : Int} (h : Caught w p1 p2 p3 f e n) (hb : Below w.heap.size w w1) : Caught w1 p1 p2 p3 f e n :=
  ⟨cell_below hb h.c1, cell_below hb h.c2, cell_below hb h.c3⟩
def clo (p1 p2 p3 : Nat) : Value := .func (.func 54) #[] #[.pointer (some ⟨p1, 0, none⟩), .pointer (some ⟨p2, 0, none⟩), .pointer (some ⟨p3, 0, none⟩)]
set_option maxHeartbeats 4000000 in
theorem dels (x : RowT) (p1 p2 p3 : Nat) (f e : ByteArray) (n : Int) (w : World) (h : Caught w p1 p2 p3 f e n) :
    Calls Try.prog 54 #[.agg #[.string x.f, .string x.t, .string x.e, .int .i64 x.run, .complex .f64 x.re x.im], .pointer (some ⟨p1, 0, none⟩), .pointer (some ⟨p2, 0, none⟩), .pointer (some ⟨p3, 0, none⟩)] w fun en w' => en = .returned (.bool (delB f e n x)) ∧ Below w.heap.size w w' := by
  have q1 : ∀ o, (w.alloc o).cell? ⟨p1, 0, none⟩ = some (.string f) := fun o => cell_below (below_alloc (Below.refl _ _) _) h.c1
  have q2 : ∀ o, (w.alloc o).cell? ⟨p2, 0, none⟩ = some (.string e) := fun o => cell_below (below_alloc (Below.refl _ _) _) h.c2
  have q3 : ∀ o, (w.alloc o).cell? ⟨p3, 0, none⟩ = some (.int .i64 n) := fun o => cell_below (below_alloc (Below.refl _ _) _) h.c3
  obtain ⟨xf, xt, xe, xrun, xre, xim⟩ := x
  simp only []
  have hd : Hid (delB f e n ⟨xf, xt, xe, xrun, xre, xim⟩ = !(eqS xf f && eqS xe e && xrun == n)) := rfl
  clear h
  have t1 := eqS_toList xf f
  have t2 := eqS_toList xe e
  rcases h1 : eqS xf f with _ | _
  · rw [h1] at t1 hd
    clear h1 t2
    go_enter Try.func54, Try.ntmps54
    go_wp2
    go_ret
    rw [hd.out]
    exact ⟨rfl, (Below.refl _ _).alloc (Nat.le_refl _) _⟩
  · rcases h2 : eqS xe e with _ | _
    · rw [h1] at t1 hd
      rw [h2] at t2 hd
      clear h1 h2
      go_enter Try.func54, Try.ntmps54
      go_wp2
      go_ret
      rw [hd.out]
      exact ⟨rfl, (Below.refl _ _).alloc (Nat.le_refl _) _⟩
    · rw [h1] at t1 hd
      rw [h2] at t2 hd
      clear h1 h2
      by_cases h3 : xrun = n
      · have b3 : (xrun != n) = false := by rw [bne_eq_false_iff_eq]; exact h3
        have b4 : (xrun == n) = true := by rw [beq_iff_eq]; exact h3
        rw [b4] at hd
        clear h3 b4
        go_enter Try.func54, Try.ntmps54
        go_wp2
        go_ret
        rw [hd.out]
        exact ⟨rfl, (Below.refl _ _).alloc (Nat.le_refl _) _⟩
      · have b3 : (xrun != n) = true := by rw [bne_iff_ne]; exact h3
        have b4 : (xrun == n) = false := by rw [beq_eq_false_iff_ne]; exact h3
        rw [b4] at hd
        clear h3 b4
        go_enter Try.func54, Try.ntmps54
        go_wp2
        go_ret
        rw [hd.out]
        exact ⟨rfl, (Below.refl _ _).alloc (Nat.le_refl _) _⟩
def IdxPost (w : World) (d : RowT → Bool) (L : List RowT) (en : Ending) (w' : World) : Prop := ∃ r : Int, en = .returned (.int .i64 r) ∧ Below w.heap.size w w' ∧ ((r = -1 ∧ ∀ x ∈ L, d x = false) ∨ ∃ (k : Nat) (x : RowT), r = k ∧ L[k]? = some x ∧ d x = true ∧ ∀ (j : Nat) (y : RowT), j < k → L[j]? = some y → d y = false)
def IdxRelR (w : World) (d : RowT → Bool) (L : List RowT) (i : Value) (wr : World) : Prop := ∃ k : Nat, k ≤ L.length ∧ i = .int .i64 k ∧ Below w.heap.size w wr ∧ ∀ (j : Nat) (y : RowT), j < k → L[j]? = some y → d y = false
set_option maxHeartbeats 4000000 in
theorem index_some (b o c : Nat) (L : List RowT) (hn : L.length ≤ 1000) (p1 p2 p3 : Nat) (f e : ByteArray) (n : Int) (w : World) (hC : Caught w p1 p2 p3 f e n) (hL : RowOf RowT.cells 5 w (some ⟨b, o, none⟩) L) :
    Calls Try.prog 67 #[.slice (some ⟨b, o, none⟩) L.length c, .func (.func 54) #[] #[.pointer (some ⟨p1, 0, none⟩), .pointer (some ⟨p2, 0, none⟩), .pointer (some ⟨p3, 0, none⟩)]] w (IdxPost w (delB f e n) L) := by
  have HL := Lib.hid hL
  have HC := Lib.hid hC
  clear hL hC
  go_enter Try.func67, Try.ntmps67
  go_wp2
  go_loopw [8] (fun i wr => IdxRelR w (delB f e n) L i wr) (fun i _ => L.length - (intOf i).toNat)
  case atStart => exact ⟨0, Nat.zero_le _, rfl, Below.refl _ _, fun j y hj => absurd hj (by omega)⟩
  case round =>
    obtain ⟨k, hk, rfl, hb, hall⟩ := hrel
    have hallH := Lib.hid hall
    clear hall
    by_cases hlt : k < L.length
    · obtain ⟨x, hx⟩ : ∃ x, L[k]? = some x := ⟨_, List.getElem?_eq_getElem hlt⟩
      obtain ⟨b1', o1', he1, hc1⟩ := HL.out (by omega)
      cases he1
      have hc : ∀ (j : Nat) (v : Value), x.cells[j]? = some v → wr.cell? ⟨b, o + k * 5 + j, none⟩ = some v := fun j v h => cell_below hb (hc1 k x hx j v h)
      have hxH := Lib.hid hx
      clear hc1 hx
      have c0 : wr.cell? ⟨b, o + k * 5, none⟩ = some (.string x.f) := hc 0 _ rfl
      have c1 : wr.cell? ⟨b, o + k * 5 + 1, none⟩ = some (.string x.t) := hc 1 _ rfl
      have c2 : wr.cell? ⟨b, o + k * 5 + 2, none⟩ = some (.string x.e) := hc 2 _ rfl
      have c3 : wr.cell? ⟨b, o + k * 5 + 3, none⟩ = some (.int .i64 x.run) := hc 3 _ rfl
      have c4 : wr.cell? ⟨b, o + k * 5 + 4, none⟩ = some (.complex .f64 x.re x.im) := hc 4 _ rfl
      clear hc
      go_wp2_with fail
      refine (dels x p1 p2 p3 f e n wr (HC.out.below hb)).mono ?_
      rintro en w1 ⟨rfl, hb1⟩
      have hb2 := below_step hb hb1
      obtain ⟨q, hq⟩ : ∃ q, q = delB f e n x := ⟨_, rfl⟩
      rw [← hq]
      have hqH := Lib.hid hq
      clear hq hb hb1 c0 c1 c2 c3 c4
      cases q with
      | true =>
        go_wp2
        go_ret
        exact ⟨k, rfl, hb2, .inr ⟨k, x, rfl, hxH.out, hqH.out.symm, hallH.out⟩⟩
      | false =>
        go_wp2
        go_roundw
        case rel =>
          refine ⟨k + 1, by omega, by go_num, hb2, fun j y hj hy => ?_⟩
          rcases Nat.lt_or_ge j k with h | h
          · exact hallH.out j y h hy
          · obtain rfl : j = k := by omega
            have := hy.symm.trans hxH.out
            cases this
            exact hqH.out.symm
        case measure => simp [intOf]; omega
    · have hke : k = L.length := by omega
      subst hke
      go_wp2
      go_ret
      refine ⟨-1, rfl, hb, .inl ⟨rfl, fun x hx => ?_⟩⟩
      obtain ⟨j, hj⟩ := List.getElem?_of_mem hx
      exact hallH.out j x (List.getElem?_eq_some_iff.1 hj).1 hj
set_option maxHeartbeats 1000000 in
theorem index_nil (A : Option Addr) (c : Nat) (u : Value) (d : RowT → Bool) (w : World) : Calls Try.prog 67 #[.slice A 0 c, u] w (IdxPost w d []) := by
  go_enter Try.func67, Try.ntmps67
  go_wp2
  go_loopw [8] (fun i wr => i = .int .i64 0 ∧ w = wr) (fun _ _ => 0)
  case atStart => exact ⟨rfl, rfl⟩
  case round =>
    obtain ⟨rfl, rfl⟩ := hrel
    go_wp2
    go_ret
    exact ⟨-1, rfl, Below.refl _ _, .inl ⟨rfl, fun x hx => by cases hx⟩⟩
theorem index_any (A : Option Addr) (c : Nat) (L : List RowT) (hn : L.length ≤ 1000) (p1 p2 p3 : Nat) (f e : ByteArray) (n : Int) (w : World) (hC : Caught w p1 p2 p3 f e n) (hL : RowOf RowT.cells 5 w A L) :
    Calls Try.prog 67 #[.slice A L.length c, .func (.func 54) #[] #[.pointer (some ⟨p1, 0, none⟩), .pointer (some ⟨p2, 0, none⟩), .pointer (some ⟨p3, 0, none⟩)]] w (IdxPost w (delB f e n) L) := by
  rcases Nat.eq_zero_or_pos L.length with h0 | h0
  · obtain rfl := List.eq_nil_of_length_eq_zero h0
    exact index_nil A c _ _ w
  · obtain ⟨b, o, rfl, _⟩ := hL h0
    exact index_some b o c L hn p1 p2 p3 f e n w hC hL
end Go.Proofs.Ytbmegoemimfiaaa

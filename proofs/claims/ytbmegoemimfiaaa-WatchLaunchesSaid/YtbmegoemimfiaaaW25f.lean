/-
  slices.Equal at items, message.Same: the walks.
-/
import Derived.Test.YtbmegoemimfiaaaRows
import Derived.Test.YtbmegoemimfiaaaW17b
import Derived.Test.YtbmegoemimfiaaaKMap
import Derived.WalkKit
import Derived.WalkSpells
import Derived.WalkLawsBesides
import Derived.Outline
import Derived.Laws.StructEq
import Derived.Deep.Light
import Derived.Deep.QuietTactic
import Derived.BigQuiet
import Derived.Maps.OwnOps
import Derived.Maps.OwnSet
import Derived.Lib.Hide
namespace Go.Proofs.Ytbmegoemimfiaaa
open Go Go.RowKit
set_option maxRecDepth 100000
set_option linter.unusedVariables false
set_option linter.unusedSimpArgs false

attribute [local go_sem] run_equalIn_complex run_store_float run_store_complex
def eqZ (a b : Nat) : Bool := FloatKind.f64.format.order a b == some .eq
def itB (x y : Item) : Bool := eqS x.t y.t && (eqZ x.re y.re && eqZ x.im y.im)
/-- One item lies at A. -/
def ItAt (w : World) (b o : Nat) (x : Item) : Prop := w.cell? ⟨b, o, none⟩ = some (.string x.t) ∧ w.cell? ⟨b, o + 1, none⟩ = some (.complex .f64 x.re x.im)
theorem ItAt.below {w w1 : World} {b o : Nat} {x : Item} (h : ItAt w b o x) (hb : Below w.heap.size w w1) : ItAt w1 b o x := ⟨cell_below hb h.1, cell_below hb h.2⟩
theorem ItAt.low {w w1 : World} {B b o : Nat} {x : Item} (h : ItAt w b o x) (hb : Below B w w1) (hB : b < B) : ItAt w1 b o x :=
  ⟨(hb.cell (p := ⟨b, o, none⟩) hB).trans h.1, (hb.cell (p := ⟨b, o + 1, none⟩) hB).trans h.2⟩
theorem ItAt.lt {w : World} {b o : Nat} {x : Item} (h : ItAt w b o x) : b < w.heap.size := World.block_lt_of_cell? w _ h.1
set_option maxHeartbeats 4000000 in
theorem items77 (b1 o1 c1 b2 o2 c2 : Nat) (x y : Item) (w : World) (h1 : ItAt w b1 o1 x) (h2 : ItAt w b2 o2 y) :
    Calls Try.prog 77 #[.slice (some ⟨b1, o1, none⟩) 1 c1, .slice (some ⟨b2, o2, none⟩) 1 c2] w fun e w' => e = .returned (.bool (itB x y)) ∧ Below w.heap.size w w' := by
  have H1 := Lib.hid h1
  have H2 := Lib.hid h2
  clear h1 h2
  go_enter Try.func77, Try.ntmps77
  go_wp2
  go_loopw [13] (fun i wr => (i = .int .i64 0 ∨ (i = .int .i64 1 ∧ Hid (itB x y = true))) ∧ Below w.heap.size w wr) (fun i _ => 1 - (intOf i).toNat)
  case atStart => exact ⟨.inl rfl, Below.refl _ _⟩
  case round =>
    obtain ⟨hi, hb⟩ := hrel
    rcases hi with rfl | ⟨rfl, hit⟩
    · obtain ⟨q0, q1⟩ := H1.out.below hb
      obtain ⟨r0, r1⟩ := H2.out.below hb
      obtain ⟨xt, xre, xim⟩ := x
      obtain ⟨yt, yre, yim⟩ := y
      simp only at q0 q1 r0 r1
      have t1 := eqS_toList xt yt
      have e1 : eqZ xre yre = (FloatKind.f64.format.order xre yre == some .eq) := rfl
      have e2 : eqZ xim yim = (FloatKind.f64.format.order xim yim == some .eq) := rfl
      have hit : Hid (itB ⟨xt, xre, xim⟩ ⟨yt, yre, yim⟩ = (eqS xt yt && (eqZ xre yre && eqZ xim yim))) := rfl
      generalize eqS xt yt = ba at t1 hit
      generalize eqZ xre yre = bb at e1 hit
      generalize eqZ xim yim = bc at e2 hit
      replace e1 := e1.symm
      replace e2 := e2.symm
      by_cases hzz : (ba && (bb && bc)) = true
      · have hfin : Hid (itB ⟨xt, xre, xim⟩ ⟨yt, yre, yim⟩ = true) := hit.out.trans hzz
        simp only [Bool.and_eq_true] at hzz
        obtain ⟨rfl, rfl, rfl⟩ := hzz
        clear hit
        go_wp2
        go_quiet (fail)
        go_wp2
        go_roundw
        case rel => exact ⟨.inr ⟨rfl, hfin⟩, below_drewN hb _⟩
        case measure => simp [intOf]
      · have hfin : Hid (itB ⟨xt, xre, xim⟩ ⟨yt, yre, yim⟩ = false) := hit.out.trans (by simpa using hzz)
        clear hit
        cases ba <;> cases bb <;> cases bc <;> (first | (simp at hzz; done) | skip) <;> clear hzz <;>
        · go_wp2
          go_quiet (fail)
          go_wp2
          go_ret
          rw [hfin.out]
          exact ⟨rfl, below_drewN hb _⟩
    · go_wp2
      go_ret
      rw [hit.out]
      exact ⟨rfl, hb⟩

def msgB (x y : Msg) (i j : Item) : Bool := (x.k == y.k) && (eqS x.f y.f && (eqS x.e y.e && (eqS x.t y.t && ((x.n == y.n) && ((x.s == y.s) && ((x.u == y.u) && ((x.p == y.p) && itB i j)))))))
set_option maxHeartbeats 8000000 in
theorem same64 (x y : Msg) (i j : Item) (b1 o1 c1 b2 o2 c2 : Nat) (w : World) (h1 : ItAt w b1 o1 i) (h2 : ItAt w b2 o2 j) :
    Calls Try.prog 64 #[.agg #[.int .i64 x.k, .string x.f, .string x.e, .string x.t, .int .i64 x.n, .int .i64 x.s, .int .i64 x.u, .int .i64 x.p, .slice (some ⟨b1, o1, none⟩) 1 c1], .agg #[.int .i64 y.k, .string y.f, .string y.e, .string y.t, .int .i64 y.n, .int .i64 y.s, .int .i64 y.u, .int .i64 y.p, .slice (some ⟨b2, o2, none⟩) 1 c2]] w fun e w' => e = .returned (.bool (msgB x y i j)) ∧ Below w.heap.size w w' := by
  have H1 := Lib.hid h1
  have H2 := Lib.hid h2
  clear h1 h2
  have hm : Hid (msgB x y i j = ((x.k == y.k) && (eqS x.f y.f && (eqS x.e y.e && (eqS x.t y.t && ((x.n == y.n) && ((x.s == y.s) && ((x.u == y.u) && ((x.p == y.p) && itB i j))))))))) := rfl
  obtain ⟨xk, xf, xe, xt, xn, xs, xu, xp, xA, xil, xic⟩ := x
  obtain ⟨yk, yf, ye, yt, yn, ys, yu, yp, yA, yil, yic⟩ := y
  simp only at hm ⊢
  have t1 := eqS_toList xf yf
  have t2 := eqS_toList xe ye
  have t3 := eqS_toList xt yt
  obtain ⟨b0, q0⟩ : ∃ b, (xk == yk) = b := ⟨_, rfl⟩
  obtain ⟨b4, q4⟩ : ∃ b, (xn == yn) = b := ⟨_, rfl⟩
  obtain ⟨b5, q5⟩ : ∃ b, (xs == ys) = b := ⟨_, rfl⟩
  obtain ⟨b6, q6⟩ : ∃ b, (xu == yu) = b := ⟨_, rfl⟩
  obtain ⟨b7, q7⟩ : ∃ b, (xp == yp) = b := ⟨_, rfl⟩
  rw [q0, q4, q5, q6, q7] at hm
  generalize eqS xf yf = v1 at t1 hm
  generalize eqS xe ye = v2 at t2 hm
  generalize eqS xt yt = v3 at t3 hm
  have hw : Below w.heap.size w w := Below.refl _ _
  have hw1 : ∀ o1 o2, Below w.heap.size w ((w.alloc o1).alloc o2) := fun o1 o2 => below_alloc (below_alloc hw _) _
  cases b0
  · replace hm : Hid _ := hm.out.trans (by rfl : _ = false)
    clear t1 t2 t3 q4 q5 q6 q7
    go_enter Try.func64, Try.ntmps64
    go_wp2
    go_ret
    rw [hm.out]
    exact ⟨rfl, hw1 _ _⟩
  cases v1
  · replace hm : Hid _ := hm.out.trans (by rfl : _ = false)
    clear t2 t3 q4 q5 q6 q7
    go_enter Try.func64, Try.ntmps64
    go_wp2
    go_ret
    rw [hm.out]
    exact ⟨rfl, hw1 _ _⟩
  cases v2
  · replace hm : Hid _ := hm.out.trans (by rfl : _ = false)
    clear t3 q4 q5 q6 q7
    go_enter Try.func64, Try.ntmps64
    go_wp2
    go_ret
    rw [hm.out]
    exact ⟨rfl, hw1 _ _⟩
  cases v3
  · replace hm : Hid _ := hm.out.trans (by rfl : _ = false)
    clear q4 q5 q6 q7
    go_enter Try.func64, Try.ntmps64
    go_wp2
    go_ret
    rw [hm.out]
    exact ⟨rfl, hw1 _ _⟩
  cases b4
  · replace hm : Hid _ := hm.out.trans (by rfl : _ = false)
    clear q5 q6 q7
    go_enter Try.func64, Try.ntmps64
    go_wp2
    go_ret
    rw [hm.out]
    exact ⟨rfl, hw1 _ _⟩
  cases b5
  · replace hm : Hid _ := hm.out.trans (by rfl : _ = false)
    clear q6 q7
    go_enter Try.func64, Try.ntmps64
    go_wp2
    go_ret
    rw [hm.out]
    exact ⟨rfl, hw1 _ _⟩
  cases b6
  · replace hm : Hid _ := hm.out.trans (by rfl : _ = false)
    clear q7
    go_enter Try.func64, Try.ntmps64
    go_wp2
    go_ret
    rw [hm.out]
    exact ⟨rfl, hw1 _ _⟩
  cases b7
  · replace hm : Hid _ := hm.out.trans (by rfl : _ = false)
    go_enter Try.func64, Try.ntmps64
    go_wp2
    go_ret
    rw [hm.out]
    exact ⟨rfl, hw1 _ _⟩
  replace hm : Hid _ := hm.out.trans (by rfl : _ = itB i j)
  go_enter Try.func64, Try.ntmps64
  go_wp2_with fail
  refine (items77 b1 o1 c1 b2 o2 c2 i j _ (H1.out.below (hw1 _ _)) (H2.out.below (hw1 _ _))).mono ?_
  rintro e w1 ⟨rfl, hb1⟩
  have hbw := below_step (hw1 _ _) hb1
  clear hb1 hw hw1
  go_wp2
  go_ret
  rw [hm.out]
  exact ⟨rfl, hbw⟩
end Go.Proofs.Ytbmegoemimfiaaa

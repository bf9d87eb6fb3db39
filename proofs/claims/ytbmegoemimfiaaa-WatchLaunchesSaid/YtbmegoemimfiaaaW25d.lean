/-
  hostlerkeep.Same[int]; hostlerlaw25.wakes: the walks.
-/
import Derived.Test.YtbmegoemimfiaaaRows
import Derived.Test.YtbmegoemimfiaaaW25c
import Derived.WalkKit
import Derived.WalkSpells
import Derived.WalkLawsBesides
import Derived.Outline
import Derived.Laws.StructEq
import Derived.Deep.Light
import Derived.Deep.QuietTactic
import Derived.BigQuiet
import Derived.Maps.OwnOps
import Derived.Maps.OwnSet
import Derived.Lib.Hide
namespace Go.Proofs.Ytbmegoemimfiaaa
open Go Go.RowKit
set_option maxRecDepth 100000
set_option linter.unusedVariables false
set_option linter.unusedSimpArgs false

theorem same_false (xs ys : List Int) (h : xs.length ≠ ys.length) : (xs == ys) = false := by
  rw [beq_eq_false_iff_ne]
  rintro rfl
  exact h rfl
theorem same_at (xs ys : List Int) (k : Nat) (hk : k < xs.length) (hl : xs.length = ys.length) (h : xs.getD k 0 ≠ ys.getD k 0) : (xs == ys) = false := by
  rw [beq_eq_false_iff_ne]
  rintro rfl
  exact h rfl
theorem same_true (xs ys : List Int) (hl : xs.length = ys.length) (h : ∀ k, k < xs.length → xs.getD k 0 = ys.getD k 0) : (xs == ys) = true := by
  rw [beq_iff_eq]
  apply List.ext_getElem hl
  intro k h1 h2
  have := h k h1
  simpa [List.getD_eq_getElem?_getD, List.getElem?_eq_getElem h1, List.getElem?_eq_getElem h2] using this
def SameRel (w : World) (xs ys : List Int) (i : Value) (wr : World) : Prop := ∃ k : Nat, k ≤ xs.length ∧ i = .int .i64 k ∧ Below w.heap.size w wr ∧ Hid (∀ j, j < k → xs.getD j 0 = ys.getD j 0)
set_option maxHeartbeats 4000000 in
theorem same_some (b1 o1 c1 b2 o2 c2 : Nat) (xs ys : List Int) (hl : xs.length = ys.length) (hn : xs.length ≤ 1000) (w : World) (h1 : IntRow w (some ⟨b1, o1, none⟩) xs) (h2 : IntRow w (some ⟨b2, o2, none⟩) ys) :
    Calls Try.prog 17 #[.slice (some ⟨b1, o1, none⟩) xs.length c1, .slice (some ⟨b2, o2, none⟩) xs.length c2] w fun e w' => e = .returned (.bool (xs == ys)) ∧ Below w.heap.size w w' := by
  have H1 := Lib.hid h1
  have H2 := Lib.hid h2
  have HL := Lib.hid hl
  clear h1 h2 hl
  go_enter Try.func17, Try.ntmps17
  go_wp2
  go_loopw [5] (fun i wr => SameRel w xs ys i wr) (fun i _ => xs.length - (intOf i).toNat)
  case atStart => exact ⟨0, Nat.zero_le _, rfl, Below.refl _ _, fun j hj => absurd hj (by omega)⟩
  case round =>
    obtain ⟨k, hk, rfl, hb, hall⟩ := hrel
    by_cases hlt : k < xs.length
    · obtain ⟨b1', o1', he1, hc1⟩ := H1.out.at_ hlt
      obtain ⟨b2', o2', he2, hc2⟩ := H2.out.at_ (show k < ys.length by have := HL.out; omega)
      cases he1
      cases he2
      replace hc1 := cell_below hb hc1
      replace hc2 := cell_below hb hc2
      have hat := Lib.hid (same_at xs ys k hlt HL.out)
      have hkk : (k : Int) < (xs.length : Int) := by omega
      obtain ⟨x, hx⟩ : ∃ x, x = xs.getD k 0 := ⟨_, rfl⟩
      obtain ⟨y, hy⟩ : ∃ y, y = ys.getD k 0 := ⟨_, rfl⟩
      have HX := Lib.hid hx
      have HY := Lib.hid hy
      rw [← hx] at hc1 hat
      rw [← hy] at hc2 hat
      clear hx hy
      by_cases hxy : x = y
      · have hb0 : (x != y) = false := by rw [bne_eq_false_iff_eq]; exact hxy
        have hxyH := Lib.hid hxy
        clear hxy
        go_wp2
        go_quiet (fail)
        go_wp2
        go_roundw
        case rel =>
          refine ⟨k + 1, by omega, by go_num, below_drewN hb _, ?_⟩
          intro j hj
          by_cases e : j < k
          · exact hall.out j e
          · obtain rfl : j = k := by omega
            rw [← HX.out, ← HY.out]
            exact hxyH.out
        case measure => simp [intOf]; omega
      · have hb0 : (x != y) = true := by rw [bne_iff_ne]; exact hxy
        have hfin := Lib.hid (hat.out hxy)
        clear hxy
        go_wp2
        go_quiet (fail)
        go_wp2
        go_ret
        rw [hfin.out]
        exact ⟨rfl, below_drewN hb _⟩
    · have hfin := Lib.hid (same_true xs ys HL.out fun j hj => hall.out j (by omega))
      go_wp2
      go_ret
      rw [hfin.out]
      exact ⟨rfl, hb⟩
theorem same_nil (A1 A2 : Option Addr) (c1 c2 : Nat) (w : World) :
    Calls Try.prog 17 #[.slice A1 0 c1, .slice A2 0 c2] w fun e w' => e = .returned (.bool true) ∧ Below w.heap.size w w' := by
  go_enter Try.func17, Try.ntmps17
  go_wp2
  go_loopw [5] (fun i wr => i = .int .i64 0 ∧ w = wr) (fun _ _ => 0)
  case atStart => exact ⟨rfl, rfl⟩
  case round =>
    obtain ⟨rfl, rfl⟩ := hrel
    go_wp2
    go_ret
    exact ⟨rfl, Below.refl _ _⟩
theorem same_any (A1 A2 : Option Addr) (c1 c2 n1 n2 : Nat) (xs ys : List Int) (hn1 : xs.length = n1) (hn2 : ys.length = n2) (hn : xs.length ≤ 1000) (hm : ys.length ≤ 1000) (w : World) (h1 : IntRow w A1 xs) (h2 : IntRow w A2 ys) :
    Calls Try.prog 17 #[.slice A1 n1 c1, .slice A2 n2 c2] w fun e w' => e = .returned (.bool (xs == ys)) ∧ Below w.heap.size w w' := by
  subst hn1
  subst hn2
  by_cases hl : xs.length = ys.length
  · rw [← hl]
    rcases Nat.eq_zero_or_pos xs.length with h0 | h0
    · obtain rfl := List.eq_nil_of_length_eq_zero h0
      obtain rfl := List.eq_nil_of_length_eq_zero (hl.symm.trans h0)
      exact same_nil A1 A2 c1 c2 w
    · obtain ⟨b1, o1, rfl, _⟩ := h1 h0
      obtain ⟨b2, o2, rfl, _⟩ := h2 (by omega)
      exact same_some b1 o1 c1 b2 o2 c2 xs ys hl hn w h1 h2
  · have hfin := Lib.hid (same_false xs ys hl)
    have hb0 : ((xs.length : Int) != (ys.length : Int)) = true := by rw [bne_iff_ne]; omega
    have hb1 : (xs.length != ys.length) = true := by rw [bne_iff_ne]; exact hl
    clear hl
    go_enter Try.func17, Try.ntmps17
    go_wp2
    go_ret
    rw [hfin.out]
    exact ⟨rfl, Below.refl _ _⟩

/-- A literal slice of Saids, just laid. -/
theorem rowOf_new (w : World) (L : List Said) : RowOf Said.cells 11 (w.alloc (.cells (L.flatMap Said.cells).toArray 67)) (some ⟨w.heap.size, 0, none⟩) L := by
  intro _
  refine ⟨_, _, rfl, fun i x hx j v hv => ?_⟩
  have hlen : ∀ y : Said, y.cells.length = 11 := fun y => rfl
  have hj : j < 11 := by
    have := (List.getElem?_eq_some_iff.1 hv).1
    rwa [hlen] at this
  rw [cell_new]
  have key : ∀ (T : List Said) (i : Nat), T[i]? = some x → (T.flatMap Said.cells)[i * 11 + j]? = (Said.cells x)[j]? := by
    intro T
    induction T with
    | nil => intro i h; simp at h
    | cons y T ih =>
      intro i h
      cases i with
      | zero =>
        simp at h
        subst h
        rw [List.flatMap_cons, Nat.zero_mul, Nat.zero_add, List.getElem?_append_left (by rw [hlen]; omega)]
      | succ i =>
        rw [List.flatMap_cons, List.getElem?_append_right (by rw [hlen]; omega), hlen]
        rw [show (i + 1) * 11 + j - 11 = i * 11 + j by omega]
        exact ih i (by simpa using h)
  have h := key L i hx
  rw [show 0 + i * 11 + j = i * 11 + j by omega]
  simpa [hv] using h
theorem intRow_new (w : World) (L : List Int) : IntRow (w.alloc (.cells (L.map (Value.int .i64)).toArray 3)) (some ⟨w.heap.size, 0, none⟩) L := by
  intro _
  refine ⟨_, _, rfl, fun i x hx j v hv => ?_⟩
  cases j with
  | zero =>
    simp at hv
    subst hv
    rw [cell_new]
    simp [hx]
  | succ j => simp at hv

def AtS (w : World) (g : Nat) (x : Said) : Prop := ∀ (j : Nat) (v : Value), x.cells[j]? = some v → w.cell? ⟨g, j, none⟩ = some v
theorem AtS.below {w w1 : World} {g : Nat} {x : Said} (h : AtS w g x) (hb : Below w.heap.size w w1) : AtS w1 g x := fun j v hv => cell_below hb (h j v hv)
theorem atS_new (w : World) (x : Said) (cs : Array Value) (g : Nat) (hcs : cs = x.cells.toArray) (hg : g = w.heap.size) : AtS (w.alloc (.cells cs 67)) g x := by
  intro j v hv
  subst hcs
  subst hg
  rw [cell_new]
  simpa using hv
theorem AtS.alloc {w : World} {g : Nat} {x : Said} (h : AtS w g x) (o : Obj) : AtS (w.alloc o) g x := h.below (below_alloc (Below.refl _ _) o)
theorem rowOf_new' (w : World) (L : List Said) (cs : Array Value) (g : Nat) (hcs : cs = (L.flatMap Said.cells).toArray) (hg : g = w.heap.size) : RowOf Said.cells 11 (w.alloc (.cells cs 67)) (some ⟨g, 0, none⟩) L := by
  subst hcs
  subst hg
  exact rowOf_new w L
theorem intRow_new' (w : World) (L : List Int) (cs : Array Value) (g : Nat) (hcs : cs = (L.map (Value.int .i64)).toArray) (hg : g = w.heap.size) : IntRow (w.alloc (.cells cs 3)) (some ⟨g, 0, none⟩) L := by
  subst hcs
  subst hg
  exact intRow_new w L
theorem streams_at (A : Option Addr) (c n : Nat) (S : List Said) (r : Bool) (hl : S.length = n) (hr : streamsB S = r) (hn : n ≤ 1000) (hwf : ∀ x ∈ S, (Lit.int .i64 x.m.u).wf = true ∧ (Lit.int .i64 x.m.s).wf = true) (w : World) (hS : RowOf Said.cells 11 w A S) :
    Calls Try.prog 34 #[.slice A n c] w fun e w' => e = .returned (.bool r) ∧ Below w.heap.size w w' := by
  subst hl
  subst hr
  exact streams_any A c S hn hwf w hS
theorem sent_at (A : Option Addr) (c n : Nat) (S : List Said) (f t : ByteArray) (R : List Int) (hl : S.length = n) (hr : sent f t S = R) (m : Nat) (hm : R.length = m) (hn : n ≤ 1000) (w : World) (hS : RowOf Said.cells 11 w A S) :
    Calls Try.prog 35 #[.slice A n c, .agg #[.string f, .string t]] w fun e w' => ∃ A1 c1, e = .returned (.slice A1 m c1) ∧ IntRow w' A1 R ∧ Below w.heap.size w w' := by
  subst hl
  subst hr
  subst hm
  refine (sent_any A c S hn f t w hS).mono ?_
  rintro e w1 ⟨v, rfl, hown, hb⟩
  obtain ⟨A1, c1, rfl⟩ := own_slice hown
  exact ⟨A1, c1, rfl, (own_introw hown).2, hb⟩
theorem same_at' (A1 A2 : Option Addr) (c1 c2 n1 n2 : Nat) (xs ys : List Int) (r : Bool) (hr : (xs == ys) = r) (hn1 : xs.length = n1) (hn2 : ys.length = n2) (hn : xs.length ≤ 1000) (hm : ys.length ≤ 1000) (w : World) (h1 : IntRow w A1 xs) (h2 : IntRow w A2 ys) :
    Calls Try.prog 17 #[.slice A1 n1 c1, .slice A2 n2 c2] w fun e w' => e = .returned (.bool r) ∧ Below w.heap.size w w' := by
  subst hr
  exact same_any A1 A2 c1 c2 n1 n2 xs ys hn1 hn2 hn hm w h1 h2
def xW : Said := ⟨⟨11, ⟨#[102]⟩, ⟨#[]⟩, ⟨#[97]⟩, 0, 2, 1, 1, none, 0, 0⟩, 1, 0⟩
def yW : Said := ⟨⟨11, ⟨#[102]⟩, ⟨#[]⟩, ⟨#[97]⟩, 0, 3, 3, 1, none, 0, 0⟩, 1, 0⟩
theorem w1a : streamsB [xW, xW] = true := by kernel_rfl
theorem w1b : streamsB [xW, yW] = false := by kernel_rfl
theorem w1c : sent ⟨#[102]⟩ ⟨#[97]⟩ [xW, xW, yW] = [1, 3] := by kernel_rfl
theorem wfW (x : Said) (h : x = xW ∨ x = yW) : (Lit.int .i64 x.m.u).wf = true ∧ (Lit.int .i64 x.m.s).wf = true := by
  rcases h with rfl | rfl <;> exact ⟨by decide, by decide⟩
set_option maxHeartbeats 4000000 in
theorem wakes25 (w : World) : Calls Try.prog 36 #[] w fun e w' => e = .returned (.bool true) ∧ Below w.heap.size w w' := by
  go_enter Try.func36, Try.ntmps36
  go_wp2_with fail
  refine (streams_at _ 2 2 [xW, xW] true rfl w1a (by omega) (fun x hx => wfW x (by simp at hx; exact .inl hx)) _ (rowOf_new' _ [xW, xW] _ _ rfl (by simp))).mono ?_
  rintro e w1 ⟨rfl, hb1⟩
  have hx : Hid (AtS w1 w.heap.size xW) := AtS.below (((atS_new w xW _ _ rfl rfl).alloc _).alloc _) hb1
  have hy : Hid (AtS w1 (w.heap.size + 1) yW) := AtS.below ((atS_new (w.alloc _) yW _ _ rfl (by simp)).alloc _) hb1
  have hbw : Below w.heap.size w w1 := below_step (below_alloc (below_alloc (below_alloc (Below.refl _ _) _) _) _) hb1
  clear hb1
  have qx0 := hx.out 0 _ rfl
  have qy0 := hy.out 0 _ rfl
  have qx1 := hx.out 1 _ rfl
  have qy1 := hy.out 1 _ rfl
  have qx2 := hx.out 2 _ rfl
  have qy2 := hy.out 2 _ rfl
  have qx3 := hx.out 3 _ rfl
  have qy3 := hy.out 3 _ rfl
  have qx4 := hx.out 4 _ rfl
  have qy4 := hy.out 4 _ rfl
  have qx5 := hx.out 5 _ rfl
  have qy5 := hy.out 5 _ rfl
  have qx6 := hx.out 6 _ rfl
  have qy6 := hy.out 6 _ rfl
  have qx7 := hx.out 7 _ rfl
  have qy7 := hy.out 7 _ rfl
  have qx8 := hx.out 8 _ rfl
  have qy8 := hy.out 8 _ rfl
  have qx9 := hx.out 9 _ rfl
  have qy9 := hy.out 9 _ rfl
  have qx10 := hx.out 10 _ rfl
  have qy10 := hy.out 10 _ rfl
  go_wp2_with fail
  clear qx0 qy0 qx1 qy1 qx2 qy2 qx3 qy3 qx4 qy4 qx5 qy5 qx6 qy6 qx7 qy7 qx8 qy8 qx9 qy9 qx10 qy10
  refine (streams_at _ 2 2 [xW, yW] false rfl w1b (by omega) (fun x hx => wfW x (by simp at hx; exact hx)) _ (rowOf_new' _ [xW, yW] _ _ rfl (by simp))).mono ?_
  rintro e w2 ⟨rfl, hb2⟩
  replace hx : Hid (AtS w2 w.heap.size xW) := (hx.out.alloc _).below hb2
  replace hy : Hid (AtS w2 (w.heap.size + 1) yW) := (hy.out.alloc _).below hb2
  replace hbw : Below w.heap.size w w2 := below_step (below_alloc hbw _) hb2
  clear hb2
  have qx0 := hx.out 0 _ rfl
  have qy0 := hy.out 0 _ rfl
  have qx1 := hx.out 1 _ rfl
  have qy1 := hy.out 1 _ rfl
  have qx2 := hx.out 2 _ rfl
  have qy2 := hy.out 2 _ rfl
  have qx3 := hx.out 3 _ rfl
  have qy3 := hy.out 3 _ rfl
  have qx4 := hx.out 4 _ rfl
  have qy4 := hy.out 4 _ rfl
  have qx5 := hx.out 5 _ rfl
  have qy5 := hy.out 5 _ rfl
  have qx6 := hx.out 6 _ rfl
  have qy6 := hy.out 6 _ rfl
  have qx7 := hx.out 7 _ rfl
  have qy7 := hy.out 7 _ rfl
  have qx8 := hx.out 8 _ rfl
  have qy8 := hy.out 8 _ rfl
  have qx9 := hx.out 9 _ rfl
  have qy9 := hy.out 9 _ rfl
  have qx10 := hx.out 10 _ rfl
  have qy10 := hy.out 10 _ rfl
  go_wp2_with fail
  clear qx0 qy0 qx1 qy1 qx2 qy2 qx3 qy3 qx4 qy4 qx5 qy5 qx6 qy6 qx7 qy7 qx8 qy8 qx9 qy9 qx10 qy10
  refine (sent_at _ 3 3 [xW, xW, yW] _ _ [1, 3] rfl w1c 2 rfl (by omega) _ (rowOf_new' _ [xW, xW, yW] _ _ rfl (by simp))).mono ?_
  rintro e w3 ⟨A1, c1, rfl, hrow, hb3⟩
  replace hbw : Below w.heap.size w w3 := below_step (below_alloc hbw _) hb3
  clear hb3 hx hy
  have hrow := Lib.hid hrow
  go_wp2_with fail
  refine (same_at' A1 _ c1 2 2 2 [1, 3] [1, 3] true rfl rfl rfl (by decide) (by decide) _ (RowOf.below hrow.out (below_alloc (Below.refl _ _) _)) (intRow_new' _ [1, 3] _ _ rfl (by simp))).mono ?_
  rintro e w4 ⟨rfl, hb4⟩
  replace hbw : Below w.heap.size w w4 := below_step (below_alloc hbw _) hb4
  clear hb4
  go_wp2
  go_ret
  exact ⟨rfl, hbw⟩
end Go.Proofs.Ytbmegoemimfiaaa

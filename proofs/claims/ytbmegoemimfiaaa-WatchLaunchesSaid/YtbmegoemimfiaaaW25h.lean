/-
  watch.Launches: the walk.
-/
import Derived.Test.YtbmegoemimfiaaaRows
import Derived.Test.YtbmegoemimfiaaaW25g
import Derived.WalkKit
import Derived.WalkSpells
import Derived.WalkLawsBesides
import Derived.Outline
import Derived.Laws.StructEq
import Derived.Deep.Light
import Derived.Deep.QuietTactic
import Derived.BigQuiet
import Derived.Maps.OwnOps
import Derived.Maps.OwnSet
import Derived.Lib.Hide
namespace Go.Proofs.Ytbmegoemimfiaaa
open Go Go.RowKit
set_option maxRecDepth 100000
set_option linter.unusedVariables false
set_option linter.unusedSimpArgs false

attribute [local go_sem] run_store_float run_store_complex
section
variable {P : Program} {ops : Array Oper} {rest : List Oper} {o : Oper} {a : Act} {Q : Exit → Act → World → Prop}
theorem klook_some {α β : Type} [DecidableEq α] (w : World) (hg : o.guard = none) (m x : Operand) (t : TypeId) (hop : o.op = Op.lookup t m x true)
    (k e : TypeId) (K : α → Value) (V : β → Value) (T : KeysOk P k K) (ht : P.underlying t = some (.map k e)) (b : Nat) (L : List (α × β)) (h : KMap w b K V L)
    (z : Value) (hz : (zeroValue e).run P w = .ok z w) (hm : a.eval m = .map (some b)) (x0 : α) (hx : a.eval x = K x0)
    (y : β) (hr : kget L x0 = some y) (vy : Value) (hv : V y = vy) (hK : wpList P ops Q rest (a.put o.dst (.tuple #[vy, .bool true])) w) : wpList P ops Q (o :: rest) a w := by
  subst hv
  exact wpList_klook w hg m x t hop k e K V T ht b L h z hz hm x0 hx (some y) hr hK
theorem klook_none {α β : Type} [DecidableEq α] (w : World) (hg : o.guard = none) (m x : Operand) (t : TypeId) (hop : o.op = Op.lookup t m x true)
    (k e : TypeId) (K : α → Value) (V : β → Value) (T : KeysOk P k K) (ht : P.underlying t = some (.map k e)) (b : Nat) (L : List (α × β)) (h : KMap w b K V L)
    (z : Value) (hz : (zeroValue e).run P w = .ok z w) (hm : a.eval m = .map (some b)) (x0 : α) (hx : a.eval x = K x0)
    (hr : kget L x0 = none) (hK : wpList P ops Q rest (a.put o.dst (.tuple #[z, .bool false])) w) : wpList P ops Q (o :: rest) a w :=
  wpList_klook w hg m x t hop k e K V T ht b L h z hz hm x0 hx none hr hK
end
def MAt (w : World) (g : Nat) (m : Msg) : Prop := ∀ (j : Nat) (v : Value), m.cells[j]? = some v → w.cell? ⟨g, j, none⟩ = some v
theorem MAt.kept {w w1 : World} {g : Nat} {m : Msg} {row : Option Nat} (h : MAt w g m) (hg : w.grownBy w1 row) (hne : some g ≠ row) : MAt w1 g m := by
  intro j v hv
  have hc := h j v hv
  have hlt := World.block_lt_of_cell? w _ hc
  have hb := hg.block g hlt hne
  rw [← hc]
  unfold World.cell?
  simp only [hb]
theorem MAt.below {w w1 : World} {g : Nat} {m : Msg} (h : MAt w g m) (hb : Below w.heap.size w w1) : MAt w1 g m := h.kept (grown_of_below hb none) (by simp)
def Kept43 (S : List LS) (kv : KV) : Prop := ∀ p ∈ kv, p.2 ∈ S ∧ p.2.isL = true
theorem Kept43.put {S : List LS} {kv : KV} (h : Kept43 S kv) (x : Key40) (y : LS) (hy : y ∈ S) (hl : y.isL = true) : Kept43 S (kput kv x y) := by
  intro p hp
  rcases kput_mem kv x y p hp with hp | rfl
  · exact h p hp
  · exact ⟨hy, hl⟩
def LRel (w : World) (S : List LS) (i : Value) (wr : World) : Prop := ∃ (k : Nat) (kv : KV), k ≤ S.length ∧ i = .int .i64 k ∧ Below w.heap.size w wr ∧ Hid (lfold (S.take k) = some kv) ∧ Hid (KMap wr w.heap.size k40 LS.agg kv) ∧ Hid (Kept43 S kv)
def LRel2 (w : World) (S : List LS) (k g : Nat) (kv : KV) (m : Msg) (i : Value) (wr : World) : Prop :=
  Below w.heap.size w wr ∧ Hid (MAt wr g m) ∧ ((i = .int .i64 0 ∧ Hid (KMap wr w.heap.size k40 LS.agg kv)) ∨ (i = .int .i64 1 ∧ ∃ kv' : KV, Hid (lfold (S.take (k + 1)) = some kv') ∧ Hid (KMap wr w.heap.size k40 LS.agg kv') ∧ Hid (Kept43 S kv')))
set_option maxHeartbeats 8000000 in
theorem launches_any (A0 : Option Addr) (c : Nat) (S : List LS) (hn : S.length ≤ 1000) (w : World) (hS : RowOf (fun y : LS => y.x.cells) 11 w A0 S) (hok : ∀ y ∈ S, y.isL = true → y.ok w) :
    Calls Try.prog 43 #[.slice A0 S.length c] w fun e w' => e = .returned (.bool (launchesB S)) ∧ Below w.heap.size w w' := by
  have HS := Lib.hid hS
  have HOK := Lib.hid hok
  clear hS hok
  have hmm := @run_makeMap Try.prog
  go_enter Try.func43, Try.ntmps43
  go_wp2
  clear hmm
  have hM0 : Hid (KMap (w.alloc (.map #[] 0)) w.heap.size k40 LS.agg ([] : KV)) := KMap.made w _ _
  generalize hW0 : w.alloc _ = W0 at hM0
  have hb0 : Below w.heap.size w W0 := by rw [← hW0]; exact below_alloc (Below.refl _ _) _
  have hz0 : w.heap.size < W0.heap.size := by rw [← hW0]; simp
  clear hW0
  go_loopw [15] (fun i wr => LRel w S i wr) (fun i _ => S.length - (intOf i).toNat)
  case atStart => exact ⟨0, [], Nat.zero_le _, rfl, hb0, rfl, hM0, fun p hp => by cases hp⟩
  case round =>
    clear hM0
    obtain ⟨k, kv, hk, rfl, hb, hst, hM, hkept⟩ := hrel
    by_cases hlt : k < S.length
    · obtain ⟨x, hx⟩ : ∃ x, S[k]? = some x := ⟨_, List.getElem?_eq_getElem hlt⟩
      have hmem := List.mem_of_getElem? hx
      have hsucc : Hid (lfold (S.take (k + 1)) = lstep kv x) := by
        have h := lfold_succ S k x hx
        rw [hst.out] at h
        exact h
      have hokx := Lib.hid (HOK.out x hmem)
      have hmemH := Lib.hid hmem
      obtain ⟨b, o, hA0, hcs⟩ := HS.out (by omega)
      have hc : ∀ (j : Nat) (v : Value), x.x.cells[j]? = some v → wr.cell? ⟨b, o + k * 11 + j, none⟩ = some v := fun j v h => cell_below hb (hcs k x hx j v h)
      clear hx hcs hmem
      subst hA0
      have hwr := hb.size
      obtain ⟨⟨⟨xk, xf, xe, xt, xn, xs, xu, xp, xA, xil, xic⟩, ep, now⟩, it⟩ := x
      have c0 : wr.cell? ⟨b, o + k * 11, none⟩ = some (.int .i64 xk) := hc 0 _ rfl
      have c1 : wr.cell? ⟨b, o + k * 11 + 1, none⟩ = some (.string xf) := hc 1 _ rfl
      have c2 : wr.cell? ⟨b, o + k * 11 + 2, none⟩ = some (.string xe) := hc 2 _ rfl
      have c3 : wr.cell? ⟨b, o + k * 11 + 3, none⟩ = some (.string xt) := hc 3 _ rfl
      have c4 : wr.cell? ⟨b, o + k * 11 + 4, none⟩ = some (.int .i64 xn) := hc 4 _ rfl
      have c5 : wr.cell? ⟨b, o + k * 11 + 5, none⟩ = some (.int .i64 xs) := hc 5 _ rfl
      have c6 : wr.cell? ⟨b, o + k * 11 + 6, none⟩ = some (.int .i64 xu) := hc 6 _ rfl
      have c7 : wr.cell? ⟨b, o + k * 11 + 7, none⟩ = some (.int .i64 xp) := hc 7 _ rfl
      have c8 : wr.cell? ⟨b, o + k * 11 + 8, none⟩ = some (.slice xA xil xic) := hc 8 _ rfl
      have c9 : wr.cell? ⟨b, o + k * 11 + 9, none⟩ = some (.int .i64 ep) := hc 9 _ rfl
      have c10 : wr.cell? ⟨b, o + k * 11 + 10, none⟩ = some (.int .i64 now) := hc 10 _ rfl
      clear hc
      have hkk : (k : Int) < (S.length : Int) := by omega
      by_cases hk14 : xk = 14
      · have hk14b : (xk != 14) = false := by rw [bne_eq_false_iff_eq]; exact hk14
        have hisL : Hid (LS.isL ⟨⟨⟨xk, xf, xe, xt, xn, xs, xu, xp, xA, xil, xic⟩, ep, now⟩, it⟩ = true) := by show (xk == 14) = true; simpa using hk14
        clear hk14
        obtain ⟨hil, bi, oi, hA, hit⟩ := hokx.out hisL.out
        simp only at hil hA hit
        subst hil
        subst hA
        replace hit := Lib.hid hit
        obtain ⟨wo, rfl⟩ : ∃ wo : World, wo = wr := ⟨_, rfl⟩
        go_wp2
        generalize hW : ((wo.alloc _).alloc _) = W
        have hbW : Below wo.heap.size wo W := by rw [← hW]; exact ((Below.refl _ _).alloc (Nat.le_refl _) _).alloc (by simp) _
        have hMA : Hid (MAt W (wo.heap.size + 1) ⟨xk, xf, xe, xt, xn, xs, xu, xp, some ⟨bi, oi, none⟩, 1, xic⟩) := by
          intro j v hv
          rw [← hW, cell_new1]
          simpa [Msg.cells] using hv
        clear hW c0 c1 c2 c3 c4 c5 c6 c7 c8 c9 c10 hk14b
        have hMW := Lib.hid (hM.out.below hbW)
        have hbw := below_step hb hbW
        clear hM
        go_loopw [27] (fun i wr2 => LRel2 w S k (wo.heap.size + 1) kv ⟨xk, xf, xe, xt, xn, xs, xu, xp, some ⟨bi, oi, none⟩, 1, xic⟩ i wr2) (fun i _ => 1 - (intOf i).toNat)
        case atStart => exact ⟨hbw, hMA, .inl ⟨rfl, hMW⟩⟩
        case round =>
          obtain ⟨hb2, hMA2, hc⟩ := hrel
          rcases hc with ⟨rfl, hM2⟩ | ⟨rfl, kv', hkv', hM2, hkept'⟩
          · obtain ⟨xit, xre, xim⟩ := it
            have hit2 := hit.out.below hb2
            obtain ⟨qi0, qi1⟩ := hit2
            simp only at qi0 qi1
            have r1 : ∀ o, (wr.alloc o).cell? ⟨wo.heap.size + 1, 1, none⟩ = some (.string xf) := fun o => cell_below (below_alloc (Below.refl _ _) _) (hMA2.out 1 _ rfl)
            rcases hr : kget kv (xf, xit) with _ | ⟨⟨⟨ok, of, oe, ot, on, os, ou, op, oA, oil, oic⟩, oep, onow⟩, oit⟩
            · have hput : Hid (lstep kv (⟨⟨⟨xk, xf, xe, xt, xn, xs, xu, xp, some ⟨bi, oi, none⟩, 1, xic⟩, ep, now⟩, ⟨xit, xre, xim⟩⟩ : LS) = some (kput kv (xf, xit) (⟨⟨⟨xk, xf, xe, xt, xn, xs, xu, xp, some ⟨bi, oi, none⟩, 1, xic⟩, ep, now⟩, ⟨xit, xre, xim⟩⟩ : LS))) := by
                show _ = _
                rw [lstep, if_pos hisL.out, lput]
                simp only [hr]
              have HR := Lib.hid hr
              clear hr
              go_wp2_with (first
                | (at_lookup
                   generalize hW3 : ((wr.alloc _).alloc _) = W3
                   have hbW3 : Below wr.heap.size wr W3 := by rw [← hW3]; exact below_alloc (below_alloc (Below.refl _ _) _) _
                   have d0 : W3.cell? ⟨wr.heap.size + 1, 0, none⟩ = some (.string xf) := by rw [← hW3, cell_new1]; rfl
                   have d1 : W3.cell? ⟨wr.heap.size + 1, 1, none⟩ = some (.string xit) := by rw [← hW3, cell_new1]; rfl
                   clear hW3 r1 qi0 qi1
                   have hb3 := below_step hb2 hbW3
                   have hM3 := Lib.hid (hM2.out.below hbW3)
                   have hMA3 := Lib.hid (hMA2.out.below hbW3)
                   have hwo3 : wo.heap.size + 1 < W3.heap.size := World.block_lt_of_cell? W3 _ (hMA3.out 0 _ rfl)
                   have hwr3 : wr.heap.size + 1 < W3.heap.size := World.block_lt_of_cell? W3 _ d0
                   have hwwo : w.heap.size ≤ wo.heap.size := hwr
                   clear hM2 hMA2 hb2 hbW3
                   have e0 : ∀ o, (W3.alloc o).cell? ⟨wr.heap.size + 1, 0, none⟩ = some (.string xf) := fun o => cell_below (below_alloc (Below.refl _ _) _) d0
                   have e1 : ∀ o, (W3.alloc o).cell? ⟨wr.heap.size + 1, 1, none⟩ = some (.string xit) := fun o => cell_below (below_alloc (Below.refl _ _) _) d1
                   have r0 : ∀ o, (W3.alloc o).cell? ⟨wo.heap.size + 1, 0, none⟩ = some (.int .i64 xk) := fun o => cell_below (below_alloc (Below.refl _ _) _) (hMA3.out 0 _ rfl)
                   have r1 : ∀ o, (W3.alloc o).cell? ⟨wo.heap.size + 1, 1, none⟩ = some (.string xf) := fun o => cell_below (below_alloc (Below.refl _ _) _) (hMA3.out 1 _ rfl)
                   have r2 : ∀ o, (W3.alloc o).cell? ⟨wo.heap.size + 1, 2, none⟩ = some (.string xe) := fun o => cell_below (below_alloc (Below.refl _ _) _) (hMA3.out 2 _ rfl)
                   have r3 : ∀ o, (W3.alloc o).cell? ⟨wo.heap.size + 1, 3, none⟩ = some (.string xt) := fun o => cell_below (below_alloc (Below.refl _ _) _) (hMA3.out 3 _ rfl)
                   have r4 : ∀ o, (W3.alloc o).cell? ⟨wo.heap.size + 1, 4, none⟩ = some (.int .i64 xn) := fun o => cell_below (below_alloc (Below.refl _ _) _) (hMA3.out 4 _ rfl)
                   have r5 : ∀ o, (W3.alloc o).cell? ⟨wo.heap.size + 1, 5, none⟩ = some (.int .i64 xs) := fun o => cell_below (below_alloc (Below.refl _ _) _) (hMA3.out 5 _ rfl)
                   have r6 : ∀ o, (W3.alloc o).cell? ⟨wo.heap.size + 1, 6, none⟩ = some (.int .i64 xu) := fun o => cell_below (below_alloc (Below.refl _ _) _) (hMA3.out 6 _ rfl)
                   have r7 : ∀ o, (W3.alloc o).cell? ⟨wo.heap.size + 1, 7, none⟩ = some (.int .i64 xp) := fun o => cell_below (below_alloc (Below.refl _ _) _) (hMA3.out 7 _ rfl)
                   have r8 : ∀ o, (W3.alloc o).cell? ⟨wo.heap.size + 1, 8, none⟩ = some (.slice (some ⟨bi, oi, none⟩) 1 xic) := fun o => cell_below (below_alloc (Below.refl _ _) _) (hMA3.out 8 _ rfl)
                   refine klook_none _ rfl _ _ 115 rfl 40 35 k40 LS.agg keys40 Try.underlying115 w.heap.size kv hM3.out _ (zero35 _) (by rfl) (xf, xit) (by rfl) HR.out ?_)
                | (at_mapUpdate
                   refine wpList_kstore _ rfl _ _ _ 115 rfl 40 35 k40 LS.agg keys40 Try.underlying115 w.heap.size kv (hM3.out.below (below_alloc (Below.refl _ _) _)) (by rfl) (xf, xit) (⟨⟨⟨xk, xf, xe, xt, xn, xs, xu, xp, some ⟨bi, oi, none⟩, 1, xic⟩, ep, now⟩, ⟨xit, xre, xim⟩⟩ : LS) (by rfl) (by rfl) ?_
                   intro w5 hM5 hg5
                   have hMA5 : Hid (MAt w5 (wo.heap.size + 1) ⟨xk, xf, xe, xt, xn, xs, xu, xp, some ⟨bi, oi, none⟩, 1, xic⟩) := (hMA3.out.below (below_alloc (Below.refl _ _) _)).kept hg5 (by simp; omega)
                   have hb5 : Below w.heap.size w w5 := (below_alloc hb3 _).grown hg5 (by simp; omega) (by simp)
                   have hM5H := Lib.hid hM5
                   clear hM5 hg5 hM3 hMA3 r0 r1 r2 r3 r4 r5 r6 r7 r8 d0 d1 e0 e1))
              go_roundw
              case rel => exact ⟨hb5, hMA5, .inr ⟨rfl, _, hsucc.out.trans hput.out, hM5H, hkept.out.put _ _ hmemH.out hisL.out⟩⟩
              case measure => simp [intOf]
            · obtain ⟨p, hp, hpe⟩ := kget_mem kv _ _ hr
              obtain ⟨hpS, hpL⟩ := hkept.out p hp
              rw [hpe] at hpS hpL
              obtain ⟨ho1, bo, oo, ho2, hito⟩ := HOK.out _ hpS hpL
              simp only at ho1 ho2 hito
              subst ho1
              subst ho2
              replace hito := Lib.hid hito
              have HR := Lib.hid hr
              clear hp hpe hpS hpL p
              by_cases hob : msgB ⟨xk, xf, xe, xt, xn, xs, xu, xp, some ⟨bi, oi, none⟩, 1, xic⟩ ⟨ok, of, oe, ot, on, os, ou, op, some ⟨bo, oo, none⟩, 1, oic⟩ ⟨xit, xre, xim⟩ oit = true
              · have HOB := Lib.hid hob
                have hput : Hid (lstep kv (⟨⟨⟨xk, xf, xe, xt, xn, xs, xu, xp, some ⟨bi, oi, none⟩, 1, xic⟩, ep, now⟩, ⟨xit, xre, xim⟩⟩ : LS) = some (kput kv (xf, xit) (⟨⟨⟨xk, xf, xe, xt, xn, xs, xu, xp, some ⟨bi, oi, none⟩, 1, xic⟩, ep, now⟩, ⟨xit, xre, xim⟩⟩ : LS))) := by
                  show _ = _
                  rw [lstep, if_pos hisL.out, lput]
                  simp only [hr, oldB, hob, if_true]
                clear hr hob
                go_wp2_with (first
                  | (at_lookup
                     generalize hW3 : ((wr.alloc _).alloc _) = W3
                     have hbW3 : Below wr.heap.size wr W3 := by rw [← hW3]; exact below_alloc (below_alloc (Below.refl _ _) _) _
                     have d0 : W3.cell? ⟨wr.heap.size + 1, 0, none⟩ = some (.string xf) := by rw [← hW3, cell_new1]; rfl
                     have d1 : W3.cell? ⟨wr.heap.size + 1, 1, none⟩ = some (.string xit) := by rw [← hW3, cell_new1]; rfl
                     clear hW3 r1 qi0 qi1
                     have hb3 := below_step hb2 hbW3
                     have hM3 := Lib.hid (hM2.out.below hbW3)
                     have hMA3 := Lib.hid (hMA2.out.below hbW3)
                     have hwo3 : wo.heap.size + 1 < W3.heap.size := World.block_lt_of_cell? W3 _ (hMA3.out 0 _ rfl)
                     have hwr3 : wr.heap.size + 1 < W3.heap.size := World.block_lt_of_cell? W3 _ d0
                     have hwwo : w.heap.size ≤ wo.heap.size := hwr
                     clear hM2 hMA2 hb2 hbW3
                     have e0 : ∀ o, (W3.alloc o).cell? ⟨wr.heap.size + 1, 0, none⟩ = some (.string xf) := fun o => cell_below (below_alloc (Below.refl _ _) _) d0
                     have e1 : ∀ o, (W3.alloc o).cell? ⟨wr.heap.size + 1, 1, none⟩ = some (.string xit) := fun o => cell_below (below_alloc (Below.refl _ _) _) d1
                     have r0 : ∀ o, (W3.alloc o).cell? ⟨wo.heap.size + 1, 0, none⟩ = some (.int .i64 xk) := fun o => cell_below (below_alloc (Below.refl _ _) _) (hMA3.out 0 _ rfl)
                     have r1 : ∀ o, (W3.alloc o).cell? ⟨wo.heap.size + 1, 1, none⟩ = some (.string xf) := fun o => cell_below (below_alloc (Below.refl _ _) _) (hMA3.out 1 _ rfl)
                     have r2 : ∀ o, (W3.alloc o).cell? ⟨wo.heap.size + 1, 2, none⟩ = some (.string xe) := fun o => cell_below (below_alloc (Below.refl _ _) _) (hMA3.out 2 _ rfl)
                     have r3 : ∀ o, (W3.alloc o).cell? ⟨wo.heap.size + 1, 3, none⟩ = some (.string xt) := fun o => cell_below (below_alloc (Below.refl _ _) _) (hMA3.out 3 _ rfl)
                     have r4 : ∀ o, (W3.alloc o).cell? ⟨wo.heap.size + 1, 4, none⟩ = some (.int .i64 xn) := fun o => cell_below (below_alloc (Below.refl _ _) _) (hMA3.out 4 _ rfl)
                     have r5 : ∀ o, (W3.alloc o).cell? ⟨wo.heap.size + 1, 5, none⟩ = some (.int .i64 xs) := fun o => cell_below (below_alloc (Below.refl _ _) _) (hMA3.out 5 _ rfl)
                     have r6 : ∀ o, (W3.alloc o).cell? ⟨wo.heap.size + 1, 6, none⟩ = some (.int .i64 xu) := fun o => cell_below (below_alloc (Below.refl _ _) _) (hMA3.out 6 _ rfl)
                     have r7 : ∀ o, (W3.alloc o).cell? ⟨wo.heap.size + 1, 7, none⟩ = some (.int .i64 xp) := fun o => cell_below (below_alloc (Below.refl _ _) _) (hMA3.out 7 _ rfl)
                     have r8 : ∀ o, (W3.alloc o).cell? ⟨wo.heap.size + 1, 8, none⟩ = some (.slice (some ⟨bi, oi, none⟩) 1 xic) := fun o => cell_below (below_alloc (Below.refl _ _) _) (hMA3.out 8 _ rfl)
                     refine klook_some _ rfl _ _ 115 rfl 40 35 k40 LS.agg keys40 Try.underlying115 w.heap.size kv hM3.out _ (zero35 _) (by rfl) (xf, xit) (by rfl) ⟨⟨⟨ok, of, oe, ot, on, os, ou, op, some ⟨bo, oo, none⟩, 1, oic⟩, oep, onow⟩, oit⟩ HR.out (.agg #[.int .i64 ok, .string of, .string oe, .string ot, .int .i64 on, .int .i64 os, .int .i64 ou, .int .i64 op, .slice (some ⟨bo, oo, none⟩) 1 oic]) rfl ?_)
                  | (at_mapUpdate
                     refine wpList_kstore _ rfl _ _ _ 115 rfl 40 35 k40 LS.agg keys40 Try.underlying115 w.heap.size kv hM4.out (by rfl) (xf, xit) (⟨⟨⟨xk, xf, xe, xt, xn, xs, xu, xp, some ⟨bi, oi, none⟩, 1, xic⟩, ep, now⟩, ⟨xit, xre, xim⟩⟩ : LS) (by rfl) (by rfl) ?_
                     intro w5 hM5 hg5
                     have hMA5 : Hid (MAt w5 (wo.heap.size + 1) ⟨xk, xf, xe, xt, xn, xs, xu, xp, some ⟨bi, oi, none⟩, 1, xic⟩) := hMA4.out.kept hg5 (by simp; omega)
                     have hb5 : Below w.heap.size w w5 := hb3.grown hg5 (by omega) (by simp)
                     have hM5H := Lib.hid hM5
                     clear hM5 hg5 hM4 hMA4 s0 s1 s2 s3 s4 s5 s6 s7 s8 f0 f1)
                  | (go_at_call 64
                     refine (same64 ⟨xk, xf, xe, xt, xn, xs, xu, xp, some ⟨bi, oi, none⟩, 1, xic⟩ ⟨ok, of, oe, ot, on, os, ou, op, some ⟨bo, oo, none⟩, 1, oic⟩ ⟨xit, xre, xim⟩ oit bi oi xic bo oo oic _ ((hit.out.below (below_alloc hb3 _))) ((hito.out.below (below_alloc hb3 _)))).mono ?_
                     rintro e w4 ⟨rfl, hb4⟩
                     have hbA := below_alloc (Below.refl _ W3) (Obj.cells #[.int .i64 ok, .string of, .string oe, .string ot, .int .i64 on, .int .i64 os, .int .i64 ou, .int .i64 op, .slice (some ⟨bo, oo, none⟩) 1 oic] 35)
                     have hb34 : Below W3.heap.size W3 w4 := below_step hbA hb4
                     have hM4 := Lib.hid (hM3.out.below hb34)
                     have hMA4 := Lib.hid (hMA3.out.below hb34)
                     have f0 := cell_below hb34 d0
                     have f1 := cell_below hb34 d1
                     replace hb3 := below_step hb3 hb34
                     have hwo4 : wo.heap.size + 1 < w4.heap.size := Nat.lt_of_lt_of_le hwo3 hb34.size
                     clear hbA hb4 hb34 hM3 hMA3 r0 r1 r2 r3 r4 r5 r6 r7 r8 d0 d1 e0 e1
                     have s0 := hMA4.out 0 _ rfl
                     have s1 := hMA4.out 1 _ rfl
                     have s2 := hMA4.out 2 _ rfl
                     have s3 := hMA4.out 3 _ rfl
                     have s4 := hMA4.out 4 _ rfl
                     have s5 := hMA4.out 5 _ rfl
                     have s6 := hMA4.out 6 _ rfl
                     have s7 := hMA4.out 7 _ rfl
                     have s8 := hMA4.out 8 _ rfl
                     rw [HOB.out]))
                go_roundw
                case rel => exact ⟨hb5, hMA5, .inr ⟨rfl, _, hsucc.out.trans hput.out, hM5H, hkept.out.put _ _ hmemH.out hisL.out⟩⟩
                case measure => simp [intOf]
              · have hobf : msgB ⟨xk, xf, xe, xt, xn, xs, xu, xp, some ⟨bi, oi, none⟩, 1, xic⟩ ⟨ok, of, oe, ot, on, os, ou, op, some ⟨bo, oo, none⟩, 1, oic⟩ ⟨xit, xre, xim⟩ oit = false := by simpa using hob
                have HOB := Lib.hid hobf
                have hfin : Hid (launchesB S = false) := by
                  show _ = _
                  have hst1 : lfold (S.take (k + 1)) = none := by
                    rw [hsucc.out, lstep, if_pos hisL.out, lput]
                    simp only [hr, oldB, hobf]
                    rfl
                  unfold launchesB
                  rw [lfold_none S (k + 1) hst1]
                  rfl
                clear hr hob hobf
                go_wp2_with (first
                  | (at_lookup
                     generalize hW3 : ((wr.alloc _).alloc _) = W3
                     have hbW3 : Below wr.heap.size wr W3 := by rw [← hW3]; exact below_alloc (below_alloc (Below.refl _ _) _) _
                     have d0 : W3.cell? ⟨wr.heap.size + 1, 0, none⟩ = some (.string xf) := by rw [← hW3, cell_new1]; rfl
                     have d1 : W3.cell? ⟨wr.heap.size + 1, 1, none⟩ = some (.string xit) := by rw [← hW3, cell_new1]; rfl
                     clear hW3 r1 qi0 qi1
                     have hb3 := below_step hb2 hbW3
                     have hM3 := Lib.hid (hM2.out.below hbW3)
                     have hMA3 := Lib.hid (hMA2.out.below hbW3)
                     have hwo3 : wo.heap.size + 1 < W3.heap.size := World.block_lt_of_cell? W3 _ (hMA3.out 0 _ rfl)
                     have hwr3 : wr.heap.size + 1 < W3.heap.size := World.block_lt_of_cell? W3 _ d0
                     have hwwo : w.heap.size ≤ wo.heap.size := hwr
                     clear hM2 hMA2 hb2 hbW3
                     have e0 : ∀ o, (W3.alloc o).cell? ⟨wr.heap.size + 1, 0, none⟩ = some (.string xf) := fun o => cell_below (below_alloc (Below.refl _ _) _) d0
                     have e1 : ∀ o, (W3.alloc o).cell? ⟨wr.heap.size + 1, 1, none⟩ = some (.string xit) := fun o => cell_below (below_alloc (Below.refl _ _) _) d1
                     have r0 : ∀ o, (W3.alloc o).cell? ⟨wo.heap.size + 1, 0, none⟩ = some (.int .i64 xk) := fun o => cell_below (below_alloc (Below.refl _ _) _) (hMA3.out 0 _ rfl)
                     have r1 : ∀ o, (W3.alloc o).cell? ⟨wo.heap.size + 1, 1, none⟩ = some (.string xf) := fun o => cell_below (below_alloc (Below.refl _ _) _) (hMA3.out 1 _ rfl)
                     have r2 : ∀ o, (W3.alloc o).cell? ⟨wo.heap.size + 1, 2, none⟩ = some (.string xe) := fun o => cell_below (below_alloc (Below.refl _ _) _) (hMA3.out 2 _ rfl)
                     have r3 : ∀ o, (W3.alloc o).cell? ⟨wo.heap.size + 1, 3, none⟩ = some (.string xt) := fun o => cell_below (below_alloc (Below.refl _ _) _) (hMA3.out 3 _ rfl)
                     have r4 : ∀ o, (W3.alloc o).cell? ⟨wo.heap.size + 1, 4, none⟩ = some (.int .i64 xn) := fun o => cell_below (below_alloc (Below.refl _ _) _) (hMA3.out 4 _ rfl)
                     have r5 : ∀ o, (W3.alloc o).cell? ⟨wo.heap.size + 1, 5, none⟩ = some (.int .i64 xs) := fun o => cell_below (below_alloc (Below.refl _ _) _) (hMA3.out 5 _ rfl)
                     have r6 : ∀ o, (W3.alloc o).cell? ⟨wo.heap.size + 1, 6, none⟩ = some (.int .i64 xu) := fun o => cell_below (below_alloc (Below.refl _ _) _) (hMA3.out 6 _ rfl)
                     have r7 : ∀ o, (W3.alloc o).cell? ⟨wo.heap.size + 1, 7, none⟩ = some (.int .i64 xp) := fun o => cell_below (below_alloc (Below.refl _ _) _) (hMA3.out 7 _ rfl)
                     have r8 : ∀ o, (W3.alloc o).cell? ⟨wo.heap.size + 1, 8, none⟩ = some (.slice (some ⟨bi, oi, none⟩) 1 xic) := fun o => cell_below (below_alloc (Below.refl _ _) _) (hMA3.out 8 _ rfl)
                     refine klook_some _ rfl _ _ 115 rfl 40 35 k40 LS.agg keys40 Try.underlying115 w.heap.size kv hM3.out _ (zero35 _) (by rfl) (xf, xit) (by rfl) ⟨⟨⟨ok, of, oe, ot, on, os, ou, op, some ⟨bo, oo, none⟩, 1, oic⟩, oep, onow⟩, oit⟩ HR.out (.agg #[.int .i64 ok, .string of, .string oe, .string ot, .int .i64 on, .int .i64 os, .int .i64 ou, .int .i64 op, .slice (some ⟨bo, oo, none⟩) 1 oic]) rfl ?_)
                  | (go_at_call 64
                     refine (same64 ⟨xk, xf, xe, xt, xn, xs, xu, xp, some ⟨bi, oi, none⟩, 1, xic⟩ ⟨ok, of, oe, ot, on, os, ou, op, some ⟨bo, oo, none⟩, 1, oic⟩ ⟨xit, xre, xim⟩ oit bi oi xic bo oo oic _ ((hit.out.below (below_alloc hb3 _))) ((hito.out.below (below_alloc hb3 _)))).mono ?_
                     rintro e w4 ⟨rfl, hb4⟩
                     have hbA := below_alloc (Below.refl _ W3) (Obj.cells #[.int .i64 ok, .string of, .string oe, .string ot, .int .i64 on, .int .i64 os, .int .i64 ou, .int .i64 op, .slice (some ⟨bo, oo, none⟩) 1 oic] 35)
                     have hb34 : Below W3.heap.size W3 w4 := below_step hbA hb4
                     have hM4 := Lib.hid (hM3.out.below hb34)
                     have hMA4 := Lib.hid (hMA3.out.below hb34)
                     have f0 := cell_below hb34 d0
                     have f1 := cell_below hb34 d1
                     replace hb3 := below_step hb3 hb34
                     have hwo4 : wo.heap.size + 1 < w4.heap.size := Nat.lt_of_lt_of_le hwo3 hb34.size
                     clear hbA hb4 hb34 hM3 hMA3 r0 r1 r2 r3 r4 r5 r6 r7 r8 d0 d1 e0 e1
                     have s0 := hMA4.out 0 _ rfl
                     have s1 := hMA4.out 1 _ rfl
                     have s2 := hMA4.out 2 _ rfl
                     have s3 := hMA4.out 3 _ rfl
                     have s4 := hMA4.out 4 _ rfl
                     have s5 := hMA4.out 5 _ rfl
                     have s6 := hMA4.out 6 _ rfl
                     have s7 := hMA4.out 7 _ rfl
                     have s8 := hMA4.out 8 _ rfl
                     rw [HOB.out]))
                go_ret
                rw [hfin.out]
                exact ⟨rfl, hb3⟩
          · clear hit
            go_wp2
            go_roundw
            case rel =>
              exact ⟨k + 1, kv', by omega, by go_num, hb2, hkv', hM2, hkept'⟩
            case measure => simp [intOf]; omega
      · have hk14b : (xk != 14) = true := by rw [bne_iff_ne]; exact hk14
        have hisL : Hid (LS.isL ⟨⟨⟨xk, xf, xe, xt, xn, xs, xu, xp, xA, xil, xic⟩, ep, now⟩, it⟩ = false) := by show (xk == 14) = false; simpa using hk14
        clear hk14
        go_wp2
        generalize hW : ((wr.alloc _).alloc _) = W
        have hbW : Below wr.heap.size wr W := by rw [← hW]; exact ((Below.refl _ _).alloc (Nat.le_refl _) _).alloc (by simp) _
        clear hW
        go_wp2
        go_roundw
        case rel =>
          refine ⟨k + 1, kv, by omega, by go_num, below_step hb hbW, ?_, hM.out.below hbW, hkept⟩
          show _ = _
          rw [hsucc.out, lstep, if_neg (by rw [hisL.out]; simp)]
        case measure => simp [intOf]; omega
    · have hke : k = S.length := by omega
      have hfin : Hid (launchesB S = true) := by
        have h := hst.out
        rw [hke, List.take_of_length_le (Nat.le_refl _)] at h
        show _ = _
        unfold launchesB
        rw [h]
        rfl
      clear hke
      go_wp2
      go_ret
      rw [hfin.out]
      exact ⟨rfl, hb⟩
end Go.Proofs.Ytbmegoemimfiaaa

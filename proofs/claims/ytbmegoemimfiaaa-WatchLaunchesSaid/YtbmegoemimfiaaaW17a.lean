/-
  tasks.Rows: the walk.
-/
import Derived.Test.YtbmegoemimfiaaaRows
import Derived.Test.YtbmegoemimfiaaaDataB
import Derived.WalkKit
import Derived.WalkSpells
import Derived.WalkLawsBesides
import Derived.Outline
import Derived.Laws.StructEq
import Derived.Deep.Light
import Derived.Deep.QuietTactic
import Derived.BigQuiet
import Derived.Maps.OwnOps
import Derived.Maps.OwnSet
import Derived.Lib.Hide
namespace Go.Proofs.Ytbmegoemimfiaaa
open Go Go.RowKit
set_option maxRecDepth 100000
set_option linter.unusedVariables false
set_option linter.unusedSimpArgs false

attribute [local go_sem] run_store_float run_store_complex
theorem info62 : (Try.prog.info? 62).map (fun i => (i.zero, i.size, i.bytes)) = some (some (.agg #[.string ⟨#[]⟩, .string ⟨#[]⟩, .string ⟨#[]⟩, .int .i64 0, .complex .f64 0 0]), 5, 72) := by kernel_rfl
theorem flat_snoc {α : Type} (cells : α → List Value) (L : List α) (x : α) : (L ++ [x]).flatMap cells = L.flatMap cells ++ cells x := by simp
theorem take_snoc' {α : Type} (l : List α) (k : Nat) (x : α) (h : l[k]? = some x) : l.take (k + 1) = l.take k ++ [x] := by
  rw [List.take_add_one, h]
  rfl
def RowsRel (w : World) (L : List Entry) (v i : Value) (wr : World) : Prop := ∃ k : Nat, k ≤ L.length ∧ i = .int .i64 k ∧ Below w.heap.size w wr ∧
  wr.ownsRow w.heap.size 62 5 v (rowsOf (L.take k)).length ((rowsOf (L.take k)).flatMap RowT.cells)
def RowsIn (w : World) (L : List RowT) (x : Entry) (g : Nat) (v i : Value) (wr : World) : Prop := ∃ j : Nat, j ≤ x.items.length ∧ i = .int .i64 j ∧ Below w.heap.size w wr ∧
  wr.heap[g]? = some (.cells x.cells.toArray 52 (0, 0)) ∧ wr.ownsRow w.heap.size 62 5 v (L ++ (x.items.take j).map (rowOf x)).length ((L ++ (x.items.take j).map (rowOf x)).flatMap RowT.cells)
set_option maxHeartbeats 8000000 in
theorem rows_some (b o c : Nat) (L : List Entry) (hn : L.length ≤ 1000) (hr : (rowsOf L).length ≤ 1000) (w : World) (hL : EntriesAt w (some ⟨b, o, none⟩) L) :
    Calls Try.prog 20 #[.slice (some ⟨b, o, none⟩) L.length c] w fun e w' => ∃ v, e = .returned v ∧ w'.ownsRow w.heap.size 62 5 v (rowsOf L).length ((rowsOf L).flatMap RowT.cells) ∧ Below w.heap.size w w' := by
  have HL := Lib.hid hL
  clear hL
  go_enter Try.func20, Try.ntmps20
  go_wp2
  go_loopw [3, 10] (fun v i wr => RowsRel w L v i wr) (fun _ i _ => L.length - (intOf i).toNat)
  case atStart => exact ⟨0, Nat.zero_le _, rfl, Below.refl _ _, World.ownsRow_nil _ _ _ _⟩
  case round =>
    obtain ⟨k, hk, rfl, hb, hown⟩ := hrel
    by_cases hlt : k < L.length
    · obtain ⟨x, hx⟩ : ∃ x, L[k]? = some x := ⟨_, List.getElem?_eq_getElem hlt⟩
      have hsucc := Lib.hid (rowsOf_succ L k x hx)
      have htot : (rowsOf (L.take k)).length + x.items.length ≤ 1000 := by
        have h1 := rowsOf_take_le L (k + 1)
        rw [hsucc.out] at h1
        simp at h1
        omega
      obtain ⟨b', o', hA0, hcs⟩ := HL.out.1 (by omega)
      cases hA0
      obtain ⟨hit, hxn⟩ := HL.out.2 x (List.mem_of_getElem? hx)
      have hc : ∀ (j : Nat) (v : Value), x.cells[j]? = some v → wr.cell? ⟨b, o + k * 4 + j, none⟩ = some v := fun j v h => cell_below hb (hcs k x hx j v h)
      have hitH := Lib.hid hit
      generalize hLk : rowsOf (L.take k) = Lk at hown hsucc htot
      clear hLk hcs hit hx
      obtain ⟨xf, xe, xrun, xA, xn, xc, xits⟩ := x
      obtain rfl : xn = xits.length := hxn
      have c0 : wr.cell? ⟨b, o + k * 4, none⟩ = some (.string xf) := hc 0 _ rfl
      have c1 : wr.cell? ⟨b, o + k * 4 + 1, none⟩ = some (.string xe) := hc 1 _ rfl
      have c2 : wr.cell? ⟨b, o + k * 4 + 2, none⟩ = some (.int .i64 xrun) := hc 2 _ rfl
      have c3 : wr.cell? ⟨b, o + k * 4 + 3, none⟩ = some (.slice xA xits.length xc) := hc 3 _ rfl
      clear hc
      obtain ⟨A, cp, hv⟩ := own_slice hown
      subst hv
      have hownH := Lib.hid hown
      clear hown
      go_wp2
      generalize hW : wr.alloc _ = W1
      have hb1 : Below w.heap.size w W1 := by rw [← hW]; exact below_alloc hb _
      have hown1 : Hid (W1.ownsRow w.heap.size 62 5 (.slice A Lk.length cp) Lk.length (Lk.flatMap RowT.cells)) := by rw [← hW]; exact hownH.out.alloc _
      have hbox : Hid (W1.heap[wr.heap.size]? = some (.cells (Entry.cells ⟨xf, xe, xrun, xA, xits.length, xc, xits⟩).toArray 52 (0, 0))) := by rw [← hW]; exact heap_alloc_new wr _
      have hlt5 : w.heap.size ≤ wr.heap.size := hb.size
      clear hW hb hownH c0 c1 c2 c3
      obtain ⟨g5, hg5⟩ : ∃ g, g = wr.heap.size := ⟨_, rfl⟩
      rw [← hg5] at hbox hlt5 ⊢
      clear hg5
      go_loopw [3, 17] (fun v i wr2 => RowsIn w Lk ⟨xf, xe, xrun, xA, xits.length, xc, xits⟩ g5 v i wr2) (fun _ i _ => xits.length - (intOf i).toNat)
      case atStart => exact ⟨0, Nat.zero_le _, rfl, hb1, hbox.out, by simpa using hown1.out⟩
      case round =>
        clear hb1 hown1 hbox
        obtain ⟨j, hj, rfl, hb2, hbox, hown⟩ := hrel
        simp only [] at hj
        have d0 : wr.cell? ⟨g5, 0, none⟩ = some (.string xf) := by rw [blk_cell hbox]; rfl
        have d1 : wr.cell? ⟨g5, 1, none⟩ = some (.string xe) := by rw [blk_cell hbox]; rfl
        have d2 : wr.cell? ⟨g5, 2, none⟩ = some (.int .i64 xrun) := by rw [blk_cell hbox]; rfl
        have hll : (Lk ++ (xits.take j).map (rowOf ⟨xf, xe, xrun, xA, xits.length, xc, xits⟩)).length ≤ 1000 := by simp; omega
        obtain ⟨M, hM⟩ : ∃ M, M = Lk ++ (xits.take j).map (rowOf ⟨xf, xe, xrun, xA, xits.length, xc, xits⟩) := ⟨_, rfl⟩
        simp only [] at hown
        rw [← hM] at hown hll
        have hMH := Lib.hid hM
        clear hM
        obtain ⟨A2, cp2, hv2⟩ := own_slice hown
        subst hv2
        by_cases hjt : j < xits.length
        · obtain ⟨it, hit⟩ : ∃ it, xits[j]? = some it := ⟨_, List.getElem?_eq_getElem hjt⟩
          obtain ⟨b1, o1, hA1, hc1⟩ := hitH.out (by omega)
          have e0 : wr.cell? ⟨b1, o1 + j * 2, none⟩ = some (.string it.t) := cell_below hb2 (hc1 j it hit 0 _ rfl)
          have e1 : wr.cell? ⟨b1, o1 + j * 2 + 1, none⟩ = some (.complex .f64 it.re it.im) := cell_below hb2 (hc1 j it hit 1 _ rfl)
          have hsn := Lib.hid (take_snoc' xits j it hit)
          have hg5lt := blk_lt hbox
          clear hc1 hit
          subst hA1
          obtain ⟨it_t, it_re, it_im⟩ := it
          simp only [] at e0 e1
          have hownH := Lib.hid hown
          have hboxH := Lib.hid hbox
          clear hown hbox
          go_wp2_with (at_builtin; refine app_at (w0 := w) (wr.heap.size + 1) (by simp) w.heap.size rfl _ _ 53 62 (.agg #[.string ⟨#[]⟩, .string ⟨#[]⟩, .string ⟨#[]⟩, .int .i64 0, .complex .f64 0 0]) 5 72 rfl Try.underlying53 info62 rfl (by decide) (by decide) (.slice A2 M.length cp2) M.length (M.flatMap RowT.cells) [.string xf, .string it_t, .string xe, .int .i64 xrun, .complex .f64 it_re it_im] (by rfl) (by rfl) rfl (by simp [Value.oneCell']) (hownH.out.alloc _) (below_alloc hb2 _) (below_size (below_alloc hb2 _)) (by omega) ?_; intro v1 w3 hown1 hb1 hg1 hat1)
          go_roundw
          case rel =>
            refine ⟨j + 1, by simp only []; omega, by go_num, hb1, ?_, ?_⟩
            · exact blk_grown (blk_below hboxH.out (below_alloc (Below.refl _ _) _)) (hownH.out.alloc _) (by decide) hg1
            · simp only []
              rw [hsn.out, List.map_append, ← List.append_assoc, ← hMH.out]
              simpa [rowOf, RowT.cells] using hown1
          case measure => simp [intOf]; omega
        · have hje : j = xits.length := by omega
          have hfin : Hid (wr.ownsRow w.heap.size 62 5 (.slice A2 M.length cp2) (rowsOf (L.take (k + 1))).length ((rowsOf (L.take (k + 1))).flatMap RowT.cells)) := by
            have hME : M = rowsOf (L.take (k + 1)) := by rw [hsucc.out, hMH.out, hje, List.take_length]
            show wr.ownsRow _ _ _ _ _ _
            rw [← hME]
            exact hown
          clear hje hown hbox
          go_wp2
          go_roundw
          case rel => exact ⟨k + 1, by omega, by go_num, hb2, hfin.out⟩
          case measure => simp [intOf]; omega
    · have hke : k = L.length := by omega
      have hrow : Hid (rowsOf (L.take k) = rowsOf L) := by
        show _ = _
        rw [hke, List.take_length]
      have hownH := Lib.hid hown
      clear hke hown
      go_wp2
      go_ret
      refine ⟨_, rfl, ?_, hb⟩
      have h := hownH.out
      rw [hrow.out] at h
      exact h
end Go.Proofs.Ytbmegoemimfiaaa

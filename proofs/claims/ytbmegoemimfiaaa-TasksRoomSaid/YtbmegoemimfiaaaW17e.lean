/-
  tasks.Open: the walk.
-/
import Derived.Test.YtbmegoemimfiaaaRows
import Derived.Test.YtbmegoemimfiaaaW17d
import Derived.Test.YtbmegoemimfiaaaW25b
import Derived.WalkKit
import Derived.WalkSpells
import Derived.WalkLawsBesides
import Derived.Outline
import Derived.Laws.StructEq
import Derived.Deep.Light
import Derived.Deep.QuietTactic
import Derived.BigQuiet
import Derived.Maps.OwnOps
import Derived.Maps.OwnSet
import Derived.Lib.Hide
namespace Go.Proofs.Ytbmegoemimfiaaa
open Go Go.RowKit
set_option maxRecDepth 100000
set_option linter.unusedVariables false
set_option linter.unusedSimpArgs false

attribute [local go_sem] run_store_float run_store_complex
/-- What a function value tells of any key: in every world in which J holds, which lasts while the old blocks stand. -/
structure StateFn (g : Nat) (bs : Array Value) (J : World → Prop) (ok : ByteArray → Prop) (st : ByteArray → Int) : Prop where
  call : ∀ (args : Array Value) (w : World), (callFunc g args).run Try.prog w = .ok (.enter g args) w
  tells : ∀ (W : World) (f t : ByteArray), J W → ok t → Calls Try.prog g (#[.agg #[.string f, .string t]] ++ bs) W fun e w' => e = .returned (.int .i64 (st t)) ∧ Below W.heap.size W w'
  lasts : ∀ (W W' : World), J W → Below W.heap.size W W' → J W'
def openB (st : ByteArray → Int) (x : RowT) : Bool := x.run != 0 && !overB (st x.t)
theorem filter_snoc2 {α : Type} (d : α → Bool) (L : List α) (j : Nat) (x : α) (hx : L[j]? = some x) : (L.take (j + 1)).filter d = (L.take j).filter d ++ (if d x then [x] else []) := by
  rw [take_snoc' L j x hx, List.filter_append]
  rcases hd : d x with _ | _ <;> simp [hd]
def OpenRel (w : World) (d : RowT → Bool) (L : List RowT) (v i : Value) (wr : World) : Prop := ∃ (k : Nat) (M : List RowT), k ≤ L.length ∧ i = .int .i64 k ∧ M = (L.take k).filter d ∧ M.length ≤ k ∧ Below w.heap.size w wr ∧ wr.ownsRow w.heap.size 62 5 v M.length (M.flatMap RowT.cells)
def OpenPost (w : World) (K : List RowT) (en : Ending) (w' : World) : Prop := ∃ v, en = .returned v ∧ w'.ownsRow w.heap.size 62 5 v K.length (K.flatMap RowT.cells) ∧ Below w.heap.size w w'
set_option maxHeartbeats 8000000 in
theorem open_some (b o c : Nat) (L : List RowT) (hn : L.length ≤ 1000) (g : Nat) (bs : Array Value) (J : World → Prop) (ok : ByteArray → Prop) (st : ByteArray → Int) (hF : StateFn g bs J ok st) (hok : ∀ x ∈ L, ok x.t) (w : World) (hJ : J w) (hL : RowOf RowT.cells 5 w (some ⟨b, o, none⟩) L) :
    Calls Try.prog 26 #[.slice (some ⟨b, o, none⟩) L.length c, .func (.func g) #[] bs] w (OpenPost w (L.filter (openB st))) := by
  have HL := Lib.hid hL
  have HF := Lib.hid hF
  have HO := Lib.hid hok
  have HJ := Lib.hid hJ
  clear hL hF hok hJ
  go_enter Try.func26, Try.ntmps26
  go_wp2_with fail
  go_loopw [5, 10] (fun v i wr => OpenRel w (openB st) L v i wr) (fun _ i _ => L.length - (intOf i).toNat)
  case atStart => exact ⟨0, [], Nat.zero_le _, rfl, rfl, Nat.le_refl _, Below.refl _ _, World.ownsRow_nil _ _ _ _⟩
  case round =>
    obtain ⟨k, M, hk, rfl, hM, hMk, hb, hown⟩ := hrel
    obtain ⟨A2, cp2, hv2⟩ := own_slice hown
    subst hv2
    have hownH := Lib.hid hown
    have hMH := Lib.hid hM
    clear hown hM
    by_cases hlt : k < L.length
    · obtain ⟨x, hx⟩ : ∃ x, L[k]? = some x := ⟨_, List.getElem?_eq_getElem hlt⟩
      obtain ⟨b', o', hA0, hcs⟩ := HL.out (by omega)
      cases hA0
      have hxo := Lib.hid (HO.out x (List.mem_of_getElem? hx))
      have hfs := Lib.hid (filter_snoc2 (openB st) L k x hx)
      have hc : ∀ (j : Nat) (v : Value), x.cells[j]? = some v → wr.cell? ⟨b, o + k * 5 + j, none⟩ = some v := fun j v h => cell_below hb (hcs k x hx j v h)
      have c0 : wr.cell? ⟨b, o + k * 5, none⟩ = some (.string x.f) := hc 0 _ rfl
      have c1 : wr.cell? ⟨b, o + k * 5 + 1, none⟩ = some (.string x.t) := hc 1 _ rfl
      have c2 : wr.cell? ⟨b, o + k * 5 + 2, none⟩ = some (.string x.e) := hc 2 _ rfl
      have c3 : wr.cell? ⟨b, o + k * 5 + 3, none⟩ = some (.int .i64 x.run) := hc 3 _ rfl
      have c4 : wr.cell? ⟨b, o + k * 5 + 4, none⟩ = some (.complex .f64 x.re x.im) := hc 4 _ rfl
      clear hc hcs hx
      obtain ⟨xf, xt, xe, xrun, xre, xim⟩ := x
      simp only [] at c0 c1 c2 c3 c4 hxo
      have hod : Hid (openB st ⟨xf, xt, xe, xrun, xre, xim⟩ = (xrun != 0 && !overB (st xt))) := rfl
      by_cases h0 : xrun = 0
      · subst h0
        have hfs0 : Hid ((L.take (k + 1)).filter (openB st) = M) := by
          show _ = _
          rw [hfs.out, hod.out, ← hMH.out]
          simp
        go_wp2
        go_roundw
        case rel => exact ⟨k + 1, M, by omega, by go_num, hfs0.out.symm, by omega, below_alloc hb _, own_alloc hownH.out _⟩
        case measure => simp [intOf]; omega
      · have hne : (xrun != 0) = true := by rw [bne_iff_ne]; exact h0
        rw [hne] at hod
        clear h0
        go_wp2_with fail
        generalize hW : wr.alloc _ = W1
        have hb1 : Below wr.heap.size wr W1 := by rw [← hW]; exact below_alloc (Below.refl _ _) _
        have p0 : W1.cell? ⟨wr.heap.size, 0, none⟩ = some (.string xf) := by rw [← hW, cell_new]; rfl
        have p1 : W1.cell? ⟨wr.heap.size, 1, none⟩ = some (.string xt) := by rw [← hW, cell_new]; rfl
        have p2 : W1.cell? ⟨wr.heap.size, 2, none⟩ = some (.string xe) := by rw [← hW, cell_new]; rfl
        have p3 : W1.cell? ⟨wr.heap.size, 3, none⟩ = some (.int .i64 xrun) := by rw [← hW, cell_new]; rfl
        have p4 : W1.cell? ⟨wr.heap.size, 4, none⟩ = some (.complex .f64 xre xim) := by rw [← hW, cell_new]; rfl
        clear hW c0 c1 c2 c3 c4
        have hbw1 := below_step hb hb1
        have hJ1 := HF.out.lasts _ _ HJ.out hbw1
        rw [HF.out.call]
        refine (HF.out.tells W1 xf xt hJ1 hxo.out).mono ?_
        rintro en w2 ⟨rfl, hb2⟩
        have hbw2 := below_step hbw1 hb2
        have hown2 := Lib.hid (own_below (own_below hownH.out hb1) hb2)
        replace p0 := cell_below hb2 p0
        replace p1 := cell_below hb2 p1
        replace p2 := cell_below hb2 p2
        replace p3 := cell_below hb2 p3
        replace p4 := cell_below hb2 p4
        clear hb1 hb2 hbw1 hJ1 hb hownH
        go_wp2_with fail
        refine (over_any (st xt) w2).mono ?_
        rintro en w3 ⟨rfl, rfl⟩
        obtain ⟨q, hq⟩ : ∃ q, q = overB (st xt) := ⟨_, rfl⟩
        rw [← hq] at hod ⊢
        clear hq
        cases q with
        | true =>
          have hfs0 : Hid ((L.take (k + 1)).filter (openB st) = M) := by
            show _ = _
            rw [hfs.out, hod.out, ← hMH.out]
            simp
          go_wp2
          go_roundw
          case rel => exact ⟨k + 1, M, by omega, by go_num, hfs0.out.symm, by omega, hbw2, hown2.out⟩
          case measure => simp [intOf]; omega
        | false =>
          have hfs0 : Hid ((L.take (k + 1)).filter (openB st) = M ++ [⟨xf, xt, xe, xrun, xre, xim⟩]) := by
            show _ = _
            rw [hfs.out, hod.out, ← hMH.out]
            simp
          go_wp2_with (at_builtin; refine app_at (w0 := w) w2.heap.size rfl w.heap.size rfl _ _ 53 62 (.agg #[.string ⟨#[]⟩, .string ⟨#[]⟩, .string ⟨#[]⟩, .int .i64 0, .complex .f64 0 0]) 5 72 rfl Try.underlying53 info62 rfl (by decide) (by decide) (.slice A2 M.length cp2) M.length (M.flatMap RowT.cells) [.string xf, .string xt, .string xe, .int .i64 xrun, .complex .f64 xre xim] (by rfl) (by rfl) rfl (by simp [Value.oneCell']) hown2.out hbw2 (below_size hbw2) (by omega) ?_; intro v1 w4 hown1 hb4 hg1 hat1)
          go_roundw
          case rel => exact ⟨k + 1, M ++ [⟨xf, xt, xe, xrun, xre, xim⟩], by omega, by go_num, hfs0.out.symm, by rw [List.length_append, List.length_singleton]; omega, hb4, by rw [List.length_append, flat_snoc]; exact hown1⟩
          case measure => simp [intOf]; omega
    · have hke : k = L.length := by omega
      subst hke
      have hfin : Hid (M = L.filter (openB st)) := by
        have h2 := hMH.out
        rw [List.take_length] at h2
        exact h2
      go_wp2
      go_ret
      refine ⟨_, rfl, ?_, hb⟩
      rw [← hfin.out]
      exact hownH.out
set_option maxHeartbeats 1000000 in
theorem open_nil (A : Option Addr) (c : Nat) (g : Nat) (bs : Array Value) (w : World) : Calls Try.prog 26 #[.slice A 0 c, .func (.func g) #[] bs] w (OpenPost w []) := by
  go_enter Try.func26, Try.ntmps26
  go_wp2
  go_loopw [5, 10] (fun v i wr => v = .slice none 0 0 ∧ i = .int .i64 0 ∧ w = wr) (fun _ _ _ => 0)
  case atStart => exact ⟨rfl, rfl, rfl⟩
  case round =>
    obtain ⟨rfl, rfl, rfl⟩ := hrel
    go_wp2
    go_ret
    exact ⟨_, rfl, World.ownsRow_nil _ _ _ _, Below.refl _ _⟩
theorem open_any (A : Option Addr) (c : Nat) (L : List RowT) (hn : L.length ≤ 1000) (g : Nat) (bs : Array Value) (J : World → Prop) (ok : ByteArray → Prop) (st : ByteArray → Int) (hF : StateFn g bs J ok st) (hok : ∀ x ∈ L, ok x.t) (w : World) (hJ : J w) (hL : RowOf RowT.cells 5 w A L) :
    Calls Try.prog 26 #[.slice A L.length c, .func (.func g) #[] bs] w (OpenPost w (L.filter (openB st))) := by
  rcases Nat.eq_zero_or_pos L.length with h0 | h0
  · obtain rfl := List.eq_nil_of_length_eq_zero h0
    exact open_nil A c g bs w
  · obtain ⟨b, o, rfl, _⟩ := hL h0
    exact open_some b o c L hn g bs J ok st hF hok w hJ hL
end Go.Proofs.Ytbmegoemimfiaaa

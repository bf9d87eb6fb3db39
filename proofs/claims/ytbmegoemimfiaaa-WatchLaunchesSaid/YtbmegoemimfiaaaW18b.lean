/-
  answer.Of: the walks.
-/
import Derived.Test.YtbmegoemimfiaaaRows
import Derived.Test.YtbmegoemimfiaaaW18a
import Derived.WalkKit
import Derived.WalkSpells
import Derived.WalkLawsBesides
import Derived.Outline
import Derived.Laws.StructEq
import Derived.Deep.Light
import Derived.Deep.QuietTactic
import Derived.BigQuiet
import Derived.Maps.OwnOps
import Derived.Maps.OwnSet
import Derived.Lib.Hide
namespace Go.Proofs.Ytbmegoemimfiaaa
open Go Go.RowKit
set_option maxRecDepth 100000
set_option linter.unusedVariables false
set_option linter.unusedSimpArgs false

attribute [local go_sem] run_store_float run_store_complex
theorem info35 : (Try.prog.info? 35).map (fun i => (i.zero, i.size, i.bytes)) = some (some (.agg #[.int .i64 0, .string ⟨#[]⟩, .string ⟨#[]⟩, .string ⟨#[]⟩, .int .i64 0, .int .i64 0, .int .i64 0, .int .i64 0, .slice none 0 0]), 9, 112) := by kernel_rfl
set_option maxHeartbeats 4000000 in
theorem known_nil (A : Option Addr) (c : Nat) (f t : ByteArray) (w : World) :
    Calls Try.prog 50 #[.slice A 0 c, .agg #[.string f, .string t]] w (KnownPost w [] f t) := by
  go_enter Try.func50, Try.ntmps50
  go_wp2
  generalize hW0 : (w.alloc _).alloc _ = W0
  have hres : Hid (W0.heap[w.heap.size + 1]? = some (.cells #[.string ⟨#[]⟩, .complex .f64 0 0] 50 (0, 0))) := by
    have h := heap_alloc_new (w.alloc (.cells #[.string f, .string t] 40)) (.cells #[.string ⟨#[]⟩, .complex .f64 0 0] 50)
    rw [hW0] at h
    show W0.heap[w.heap.size + 1]? = _
    simpa using h
  have hb0 : Below w.heap.size w W0 := by rw [← hW0]; exact below_alloc (below_alloc (Below.refl _ _) _) _
  clear hW0
  go_loopw [12] (fun i wr => i = .int .i64 0 ∧ W0 = wr) (fun _ _ => 0)
  case atStart => exact ⟨rfl, rfl⟩
  case round =>
    obtain ⟨rfl, rfl⟩ := hrel
    have r0 : W0.cell? ⟨w.heap.size + 1, 0, none⟩ = some (.string ⟨#[]⟩) := by rw [blk_cell hres.out]; rfl
    have r1 : W0.cell? ⟨w.heap.size + 1, 1, none⟩ = some (.complex .f64 0 0) := by rw [blk_cell hres.out]; rfl
    have f0 : W0.frozen? ⟨w.heap.size + 1, 0, none⟩ = false := by simp [World.frozen?, hres.out]
    have f1 : W0.frozen? ⟨w.heap.size + 1, 1, none⟩ = false := by simp [World.frozen?, hres.out]
    go_wp2
    refine bodyPost_ret (v := .tuple #[.int .i64 0, .agg #[.string ⟨#[]⟩, .complex .f64 0 0], .bool false]) (by simp [results, Try.results50, go_sem, r0, r1]) rfl ⟨⟨0, ⟨#[]⟩, 0, 0, rfl⟩, ?_⟩
    exact ((hb0.setCell (p := ⟨w.heap.size + 1, 0, none⟩) (Nat.le_succ _) _).setCell (p := ⟨w.heap.size + 1, 1, none⟩) (Nat.le_succ _) _)
theorem known_any (A : Option Addr) (c : Nat) (L : List Entry) (hn : L.length ≤ 1000) (hni : ∀ x ∈ L, x.items.length ≤ 1000) (f t : ByteArray) (w : World) (hL : EntriesAt w A L) :
    Calls Try.prog 50 #[.slice A L.length c, .agg #[.string f, .string t]] w (KnownPost w L f t) := by
  rcases Nat.eq_zero_or_pos L.length with h0 | h0
  · obtain rfl := List.eq_nil_of_length_eq_zero h0
    exact known_nil A c f t w
  · obtain ⟨b, o, rfl, _⟩ := hL.1 h0
    exact known_some b o c L hn hni f t w hL
set_option maxHeartbeats 4000000 in
theorem rows_nil (A : Option Addr) (c : Nat) (w : World) :
    Calls Try.prog 20 #[.slice A 0 c] w fun e w' => ∃ v, e = .returned v ∧ w'.ownsRow w.heap.size 62 5 v (rowsOf []).length ((rowsOf []).flatMap RowT.cells) ∧ Below w.heap.size w w' := by
  go_enter Try.func20, Try.ntmps20
  go_wp2
  go_loopw [3, 10] (fun v i wr => v = .slice none 0 0 ∧ i = .int .i64 0 ∧ w = wr) (fun _ _ _ => 0)
  case atStart => exact ⟨rfl, rfl, rfl⟩
  case round =>
    obtain ⟨rfl, rfl, rfl⟩ := hrel
    go_wp2
    go_ret
    exact ⟨_, rfl, World.ownsRow_nil _ _ _ _, Below.refl _ _⟩
theorem rows_any (A : Option Addr) (c : Nat) (L : List Entry) (hn : L.length ≤ 1000) (hr : (rowsOf L).length ≤ 1000) (w : World) (hL : EntriesAt w A L) :
    Calls Try.prog 20 #[.slice A L.length c] w fun e w' => ∃ v, e = .returned v ∧ w'.ownsRow w.heap.size 62 5 v (rowsOf L).length ((rowsOf L).flatMap RowT.cells) ∧ Below w.heap.size w w' := by
  rcases Nat.eq_zero_or_pos L.length with h0 | h0
  · obtain rfl := List.eq_nil_of_length_eq_zero h0
    exact rows_nil A c w
  · obtain ⟨b, o, rfl, _⟩ := hL.1 h0
    exact rows_some b o c L hn hr w hL

def toldOf (f t : ByteArray) (s : Int) : Msg := ⟨12, f, ⟨#[]⟩, t, 0, s, 0, 0, none, 0, 0⟩
def TellsOn (g : Nat) (ok : ByteArray → Prop) (st : ByteArray → Int) : Prop := ∀ (W : World) (f t : ByteArray), ok t → Calls Try.prog g #[.agg #[.string f, .string t]] W fun e w' => e = .returned (.int .i64 (st t)) ∧ Below W.heap.size W w'
def sOf (L : List Entry) (f : ByteArray) (st : ByteArray → Int) (t : ByteArray) : Int := if knownB L f t = true then st t else 6
def tellI (L : List Entry) (f : ByteArray) (st : ByteArray → Int) (x : Item) : Msg := toldOf f x.t (sOf L f st x.t)
theorem map_snoc {α β : Type} (F : α → β) (X : List α) (k : Nat) (x : α) (hx : X[k]? = some x) : (X.take (k + 1)).map F = (X.take k).map F ++ [F x] := by
  rw [take_snoc' X k x hx]; simp
def OfIRel (w : World) (T : List Msg → Prop) (n : Nat) (v i : Value) (wr : World) : Prop := ∃ (k : Nat) (M : List Msg), k ≤ n ∧ M.length = k ∧ T M ∧ i = .int .i64 k ∧ Below w.heap.size w wr ∧ wr.ownsRow w.heap.size 35 9 v k (M.flatMap Msg.cells)
set_option maxHeartbeats 8000000 in
theorem of_items (A : Option Addr) (c : Nat) (L : List Entry) (hn : L.length ≤ 1000) (hni : ∀ x ∈ L, x.items.length ≤ 1000) (f : ByteArray) (b o c2 : Nat) (X : List Item) (hX0 : 0 < X.length) (hXn : X.length ≤ 1000)
    (g : Nat) (ok : ByteArray → Prop) (st : ByteArray → Int) (hC : ∀ (args : Array Value) (w : World), (callFunc g args).run Try.prog w = .ok (.enter g args) w) (hF : TellsOn g ok st) (hok : ∀ x ∈ X, ok x.t) (w : World) (hL : EntriesAt w A L) (hX : ItemsAt w (some ⟨b, o, none⟩) X) :
    Calls Try.prog 28 #[.slice A L.length c, .string f, .slice (some ⟨b, o, none⟩) X.length c2, .func (.func g) #[] #[]] w fun e w' => ∃ v, e = .returned v ∧ w'.ownsRow w.heap.size 35 9 v X.length ((X.map (tellI L f st)).flatMap Msg.cells) ∧ Below w.heap.size w w' := by
  have HL := Lib.hid hL
  have HX := Lib.hid hX
  have HF := Lib.hid hF
  have HC := Lib.hid hC
  clear hC
  have HO := Lib.hid hok
  have HNI := Lib.hid hni
  clear hL hX hF hok hni
  go_enter Try.func28, Try.ntmps28
  go_wp2
  go_loopw [9, 21] (fun v i wr => OfIRel w (fun M => M = (X.take M.length).map (tellI L f st)) X.length v i wr) (fun _ i _ => X.length - (intOf i).toNat)
  case atStart => exact ⟨0, [], Nat.zero_le _, rfl, rfl, rfl, Below.refl _ _, World.ownsRow_nil _ _ _ _⟩
  case round =>
    obtain ⟨k, M, hk, hMl, hM, rfl, hb, hown⟩ := hrel
    obtain ⟨A2, cp2, hv2⟩ := own_slice hown
    subst hv2
    have hownH := Lib.hid hown
    have hMH := Lib.hid hM
    have hMlH := Lib.hid hMl
    clear hown hM hMl
    by_cases hlt : k < X.length
    · obtain ⟨x, hx⟩ : ∃ x, X[k]? = some x := ⟨_, List.getElem?_eq_getElem hlt⟩
      obtain ⟨b', o', hA0, hcs⟩ := HX.out hX0
      cases hA0
      have hokx := Lib.hid (HO.out x (List.mem_of_getElem? hx))
      have hxH := Lib.hid hx
      have e0 : wr.cell? ⟨b, o + k * 2, none⟩ = some (.string x.t) := cell_below hb (hcs k x hx 0 _ rfl)
      have e1 : wr.cell? ⟨b, o + k * 2 + 1, none⟩ = some (.complex .f64 x.re x.im) := cell_below hb (hcs k x hx 1 _ rfl)
      clear hx hcs
      obtain ⟨xt, xre, xim⟩ := x
      simp only [] at e0 e1 hokx
      go_wp2_with fail
      generalize hW : (wr.alloc _).alloc _ = W1
      have hb1 : Below wr.heap.size wr W1 := by rw [← hW]; exact below_alloc (below_alloc (Below.refl _ _) _) _
      have k0 : W1.cell? ⟨wr.heap.size + 1, 0, none⟩ = some (.string f) := by rw [← hW, cell_new1]; rfl
      have k1 : W1.cell? ⟨wr.heap.size + 1, 1, none⟩ = some (.string xt) := by rw [← hW, cell_new1]; rfl
      have hown1 : Hid (W1.ownsRow w.heap.size 35 9 (.slice A2 k cp2) k (M.flatMap Msg.cells)) := by rw [← hW]; exact (hownH.out.alloc _).alloc _
      have hbw1 : Below w.heap.size w W1 := below_step hb hb1
      clear hW hb1 e0 e1 hownH
      refine (known_any A c L hn HNI.out f xt W1 (HL.out.below hbw1)).mono ?_
      rintro e w1 ⟨⟨at_, it, re, im, rfl⟩, hb2⟩
      replace k0 := cell_below hb2 k0
      replace k1 := cell_below hb2 k1
      have hbw2 : Below w.heap.size w w1 := below_step hbw1 hb2
      have hown2 : Hid (w1.ownsRow w.heap.size 35 9 (.slice A2 k cp2) k (M.flatMap Msg.cells)) := own_below hown1.out hb2
      clear hbw1 hown1 hb2
      have hgk : wr.heap.size + 1 < w1.heap.size := by have := World.block_lt_of_cell? w1 _ k0; exact this
      obtain ⟨kn, hkn⟩ : ∃ kn, knownB L f xt = kn := ⟨_, rfl⟩
      rw [hkn]
      have hs : Hid (sOf L f st xt = if kn = true then st xt else 6) := by rw [← hkn]; rfl
      clear hkn
      have q0 : (w1.alloc (.cells #[.string it, .complex .f64 re im] 50)).cell? ⟨wr.heap.size + 1, 0, none⟩ = some (.string f) := cell_below (below_alloc (Below.refl _ _) _) k0
      have q1 : (w1.alloc (.cells #[.string it, .complex .f64 re im] 50)).cell? ⟨wr.heap.size + 1, 1, none⟩ = some (.string xt) := cell_below (below_alloc (Below.refl _ _) _) k1
      cases kn with
      | true =>
        go_wp2_with fail
        rw [HC.out]
        refine (HF.out _ f xt hokx.out).mono ?_
        rintro e w3 ⟨rfl, hb3⟩
        have hbw3 : Below w.heap.size w w3 := below_step (below_alloc hbw2 _) hb3
        have hown3 : Hid (w3.ownsRow w.heap.size 35 9 (.slice A2 k cp2) k (M.flatMap Msg.cells)) := own_below (own_alloc hown2.out _) hb3
        replace q0 := cell_below hb3 q0
        replace q1 := cell_below hb3 q1
        clear hb3 hown2 hbw2 k0 k1
        go_wp2_with fail
        refine (told_any f xt _ _).mono ?_
        rintro e w4 ⟨rfl, hb4⟩
        have hbw4 : Below w.heap.size w w4 := below_step hbw3 hb4
        have hown4 : Hid (w4.ownsRow w.heap.size 35 9 (.slice A2 k cp2) k (M.flatMap Msg.cells)) := own_below hown3.out hb4
        clear hb4 hown3 hbw3 q0 q1
        go_wp2_with (at_builtin; refine app_at (w0 := w) (w4.heap.size) rfl w.heap.size rfl _ _ 37 35 (.agg #[.int .i64 0, .string ⟨#[]⟩, .string ⟨#[]⟩, .string ⟨#[]⟩, .int .i64 0, .int .i64 0, .int .i64 0, .int .i64 0, .slice none 0 0]) 9 112 rfl Try.underlying37 info35 rfl (by decide) (by decide) (.slice A2 k cp2) k (M.flatMap Msg.cells) (toldOf f xt (st xt)).cells (by rfl) (by rfl) rfl (by simp [Value.oneCell', toldOf, Msg.cells]) hown4.out hbw4 (below_size hbw4) (by omega) ?_; intro v1 w5 hown5 hb5 hg5 hat5)
        go_roundw
        case rel => exact ⟨k + 1, M ++ [tellI L f st ⟨xt, xre, xim⟩], by omega, by simp [hMlH.out], by
          have h1 := map_snoc (tellI L f st) X k _ hxH.out
          have h2 := hMH.out
          rw [hMlH.out] at h2
          simp only [List.length_append, List.length_singleton, hMlH.out]
          rw [h1, ← h2], by go_num, hb5, by
          have hsx : sOf L f st xt = st xt := (by have h := hs.out; simpa using h)
          rw [flat_snoc]
          simpa only [tellI, hsx] using hown5⟩
        case measure => simp [intOf]; omega
      | false =>
        go_wp2_with fail
        refine (told_any f xt _ _).mono ?_
        rintro e w4 ⟨rfl, hb4⟩
        have hbw4 : Below w.heap.size w w4 := below_step (below_alloc hbw2 _) hb4
        have hown4 : Hid (w4.ownsRow w.heap.size 35 9 (.slice A2 k cp2) k (M.flatMap Msg.cells)) := own_below (own_alloc hown2.out _) hb4
        clear hb4 hown2 hbw2 q0 q1 k0 k1
        go_wp2_with (at_builtin; refine app_at (w0 := w) (w4.heap.size) rfl w.heap.size rfl _ _ 37 35 (.agg #[.int .i64 0, .string ⟨#[]⟩, .string ⟨#[]⟩, .string ⟨#[]⟩, .int .i64 0, .int .i64 0, .int .i64 0, .int .i64 0, .slice none 0 0]) 9 112 rfl Try.underlying37 info35 rfl (by decide) (by decide) (.slice A2 k cp2) k (M.flatMap Msg.cells) (toldOf f xt 6).cells (by rfl) (by rfl) rfl (by simp [Value.oneCell', toldOf, Msg.cells]) hown4.out hbw4 (below_size hbw4) (by omega) ?_; intro v1 w5 hown5 hb5 hg5 hat5)
        go_roundw
        case rel => exact ⟨k + 1, M ++ [tellI L f st ⟨xt, xre, xim⟩], by omega, by simp [hMlH.out], by
          have h1 := map_snoc (tellI L f st) X k _ hxH.out
          have h2 := hMH.out
          rw [hMlH.out] at h2
          simp only [List.length_append, List.length_singleton, hMlH.out]
          rw [h1, ← h2], by go_num, hb5, by
          have hsx : sOf L f st xt = 6 := (by have h := hs.out; simpa using h)
          rw [flat_snoc]
          simpa only [tellI, hsx] using hown5⟩
        case measure => simp [intOf]; omega
    · have hke : k = X.length := by omega
      subst hke
      have hfin : Hid (M = X.map (tellI L f st)) := by
        have h2 := hMH.out
        rw [hMlH.out, List.take_length] at h2
        exact h2
      go_wp2
      go_ret
      refine ⟨_, rfl, ?_, hb⟩
      rw [← hfin.out]
      exact hownH.out
end Go.Proofs.Ytbmegoemimfiaaa

/-
  admit.Known and what it calls; answer.told: the walks.
-/
import Derived.Test.YtbmegoemimfiaaaRows
import Derived.Test.YtbmegoemimfiaaaW17a
import Derived.WalkKit
import Derived.WalkSpells
import Derived.WalkLawsBesides
import Derived.Outline
import Derived.Laws.StructEq
import Derived.Deep.Light
import Derived.Deep.QuietTactic
import Derived.BigQuiet
import Derived.Maps.OwnOps
import Derived.Maps.OwnSet
import Derived.Lib.Hide
namespace Go.Proofs.Ytbmegoemimfiaaa
open Go Go.RowKit
set_option maxRecDepth 100000
set_option linter.unusedVariables false
set_option linter.unusedSimpArgs false

attribute [local go_sem] run_store_float run_store_complex
def eqS (a b : ByteArray) : Bool := a.data.toList == b.data.toList
theorem eqS_toList (a b : ByteArray) : (a.toList == b.toList) = eqS a b := by unfold eqS; rw [ByteArray.toList_eq, ByteArray.toList_eq]
set_option maxHeartbeats 400000 in
theorem told_any (f t : ByteArray) (s : Int) (w : World) :
    Calls Try.prog 51 #[.agg #[.string f, .string t], .int .i64 s] w fun e w' => e = .returned (.agg #[.int .i64 12, .string f, .string ⟨#[]⟩, .string t, .int .i64 0, .int .i64 s, .int .i64 0, .int .i64 0, .slice none 0 0]) ∧ Below w.heap.size w w' := by
  go_enter Try.func51, Try.ntmps51
  go_wp2
  exact bodyPost_ret (v := .agg #[.int .i64 12, .string f, .string ⟨#[]⟩, .string t, .int .i64 0, .int .i64 s, .int .i64 0, .int .i64 0, .slice none 0 0]) (by simp [results, Try.results51, go_sem]) rfl ⟨rfl, ((Below.refl _ _).alloc (Nat.le_refl _) _).alloc (by simp) _⟩
set_option maxHeartbeats 400000 in
theorem known1_any (it t : ByteArray) (re im g : Nat) (w : World) (hg : w.cell? ⟨g, 1, none⟩ = some (.string t)) :
    Calls Try.prog 66 #[.agg #[.string it, .complex .f64 re im], .pointer (some ⟨g, 0, none⟩)] w fun e w' => e = .returned (.bool (eqS it t)) ∧ Below w.heap.size w w' := by
  have hlt := World.block_lt_of_cell? w _ hg
  simp only [] at hlt
  obtain ⟨q, hq⟩ : ∃ q, (it.toList == t.toList) = q := ⟨_, rfl⟩
  have hQ : Hid (eqS it t = q) := by rw [← hq, eqS_toList]; rfl
  go_enter Try.func66, Try.ntmps66
  go_wp2
  go_ret
  rw [hQ.out]
  exact ⟨rfl, (Below.refl _ _).alloc (Nat.le_refl _) _⟩
def idxOf (L : List Item) (t : ByteArray) : Option Nat := L.findIdx? fun x => eqS x.t t
def idxV (r : Option Nat) : Int := match r with | some j => (j : Int) | none => -1
theorem idxOf_none (L : List Item) (t : ByteArray) (h : ∀ (j : Nat) (x : Item), L[j]? = some x → eqS x.t t = false) : idxOf L t = none := by
  unfold idxOf
  rw [List.findIdx?_eq_none_iff]
  intro x hx
  obtain ⟨j, hj⟩ := List.getElem?_of_mem hx
  exact h j x hj
theorem idxOf_some (L : List Item) (t : ByteArray) (k : Nat) (x : Item) (hx : L[k]? = some x) (he : eqS x.t t = true) (h : ∀ (j : Nat) (x : Item), j < k → L[j]? = some x → eqS x.t t = false) : idxOf L t = some k := by
  unfold idxOf
  rw [List.findIdx?_eq_some_iff_getElem]
  have hlt := (List.getElem?_eq_some_iff.1 hx).1
  refine ⟨hlt, by rw [(List.getElem?_eq_some_iff.1 hx).2]; exact he, fun j hj => ?_⟩
  rw [h j _ hj (List.getElem?_eq_getElem (by omega))]
  decide
def IdxRel (w : World) (L : List Item) (t : ByteArray) (i : Value) (wr : World) : Prop := ∃ k : Nat, k ≤ L.length ∧ i = .int .i64 k ∧ Below w.heap.size w wr ∧ Hid (∀ (j : Nat) (x : Item), j < k → L[j]? = some x → eqS x.t t = false)
set_option maxHeartbeats 4000000 in
theorem indexFunc_some (b o c g : Nat) (t : ByteArray) (L : List Item) (hn : L.length ≤ 1000) (w : World) (hL : ItemsAt w (some ⟨b, o, none⟩) L) (hg : w.cell? ⟨g, 1, none⟩ = some (.string t)) :
    Calls Try.prog 65 #[.slice (some ⟨b, o, none⟩) L.length c, .func (.func 66) #[] #[.pointer (some ⟨g, 0, none⟩)]] w fun e w' => e = .returned (.int .i64 (idxV (idxOf L t))) ∧ Below w.heap.size w w' := by
  have HL := Lib.hid hL
  have HG := Lib.hid hg
  clear hL hg
  go_enter Try.func65, Try.ntmps65
  go_wp2
  go_loopw [8] (fun i wr => IdxRel w L t i wr) (fun i _ => L.length - (intOf i).toNat)
  case atStart => exact ⟨0, Nat.zero_le _, rfl, Below.refl _ _, fun j x hj => absurd hj (by omega)⟩
  case round =>
    obtain ⟨k, hk, rfl, hb, hall⟩ := hrel
    by_cases hlt : k < L.length
    · obtain ⟨x, hx⟩ : ∃ x, L[k]? = some x := ⟨_, List.getElem?_eq_getElem hlt⟩
      obtain ⟨b', o', hA0, hcs⟩ := HL.out (by omega)
      cases hA0
      obtain ⟨xt, xre, xim⟩ := x
      have c0 : wr.cell? ⟨b, o + k * 2, none⟩ = some (.string xt) := cell_below hb (hcs k _ hx 0 _ rfl)
      have c1 : wr.cell? ⟨b, o + k * 2 + 1, none⟩ = some (.complex .f64 xre xim) := cell_below hb (hcs k _ hx 1 _ rfl)
      have hxH := Lib.hid hx
      clear hx hcs
      go_wp2_with fail
      refine (known1_any xt t xre xim g wr (cell_below hb HG.out)).mono ?_
      rintro e w1 ⟨rfl, hb1⟩
      have hbw : Below w.heap.size w w1 := below_step hb hb1
      clear c0 c1 hb hb1
      by_cases he : eqS xt t = true
      · have hfin := Lib.hid (idxOf_some L t k _ hxH.out he hall.out)
        go_wp2
        go_ret
        rw [hfin.out]
        exact ⟨rfl, hbw⟩
      · have heb : eqS xt t = false := by simpa using he
        have heH := Lib.hid heb
        clear he
        go_wp2
        go_roundw
        case rel =>
          refine ⟨k + 1, by omega, by go_num, hbw, ?_⟩
          intro j x hj hx
          by_cases e : j < k
          · exact hall.out j x e hx
          · obtain rfl : j = k := by omega
            rw [hxH.out] at hx
            cases hx
            exact heH.out
        case measure => simp [intOf]; omega
    · have hfin := Lib.hid (idxOf_none L t fun j x hx => hall.out j x (by have := (List.getElem?_eq_some_iff.1 hx).1; omega) hx)
      go_wp2
      go_ret
      rw [hfin.out]
      exact ⟨rfl, hb⟩
set_option maxHeartbeats 4000000 in
theorem indexFunc_nil (A : Option Addr) (c : Nat) (F : Value) (w : World) :
    Calls Try.prog 65 #[.slice A 0 c, F] w fun e w' => e = .returned (.int .i64 (-1)) ∧ Below w.heap.size w w' := by
  go_enter Try.func65, Try.ntmps65
  go_wp2
  go_loopw [8] (fun i wr => i = .int .i64 0 ∧ w = wr) (fun _ _ => 0)
  case atStart => exact ⟨rfl, rfl⟩
  case round =>
    obtain ⟨rfl, rfl⟩ := hrel
    go_wp2
    go_ret
    exact ⟨rfl, Below.refl _ _⟩
theorem indexFunc_any (A : Option Addr) (c g : Nat) (t : ByteArray) (L : List Item) (hn : L.length ≤ 1000) (w : World) (hL : ItemsAt w A L) (hg : w.cell? ⟨g, 1, none⟩ = some (.string t)) :
    Calls Try.prog 65 #[.slice A L.length c, .func (.func 66) #[] #[.pointer (some ⟨g, 0, none⟩)]] w fun e w' => e = .returned (.int .i64 (idxV (idxOf L t))) ∧ Below w.heap.size w w' := by
  rcases Nat.eq_zero_or_pos L.length with h0 | h0
  · obtain rfl := List.eq_nil_of_length_eq_zero h0
    exact indexFunc_nil A c _ w
  · obtain ⟨b, o, rfl, _⟩ := hL h0
    exact indexFunc_some b o c g t L hn w hL hg

def knownB (L : List Entry) (f t : ByteArray) : Bool := L.any fun e => eqS e.f f && (idxOf e.items t).isSome
theorem knownB_false (L : List Entry) (f t : ByteArray) (h : ∀ (j : Nat) (x : Entry), L[j]? = some x → (eqS x.f f && (idxOf x.items t).isSome) = false) : knownB L f t = false := by
  unfold knownB
  rw [Bool.eq_false_iff]
  intro h1
  obtain ⟨x, hx, h2⟩ := List.any_eq_true.1 h1
  obtain ⟨j, hj⟩ := List.getElem?_of_mem hx
  rw [h j x hj] at h2
  cases h2
theorem knownB_true (L : List Entry) (f t : ByteArray) (k : Nat) (x : Entry) (hx : L[k]? = some x) (h : (eqS x.f f && (idxOf x.items t).isSome) = true) : knownB L f t = true := by
  unfold knownB
  exact List.any_eq_true.2 ⟨x, List.mem_of_getElem? hx, h⟩
def KnownPost (w : World) (L : List Entry) (f t : ByteArray) (e : Ending) (w' : World) : Prop :=
  (∃ (at_ : Int) (it : ByteArray) (re im : Nat), e = .returned (.tuple #[.int .i64 at_, .agg #[.string it, .complex .f64 re im], .bool (knownB L f t)])) ∧ Below w.heap.size w w'
def KnownRel (W0 : World) (L : List Entry) (f t : ByteArray) (i : Value) (wr : World) : Prop := ∃ k : Nat, k ≤ L.length ∧ i = .int .i64 k ∧ Below W0.heap.size W0 wr ∧ Hid (∀ (j : Nat) (x : Entry), j < k → L[j]? = some x → (eqS x.f f && (idxOf x.items t).isSome) = false)
set_option maxHeartbeats 8000000 in
theorem known_some (b o c : Nat) (L : List Entry) (hn : L.length ≤ 1000) (hni : ∀ x ∈ L, x.items.length ≤ 1000) (f t : ByteArray) (w : World) (hL : EntriesAt w (some ⟨b, o, none⟩) L) :
    Calls Try.prog 50 #[.slice (some ⟨b, o, none⟩) L.length c, .agg #[.string f, .string t]] w (KnownPost w L f t) := by
  have HL := Lib.hid hL
  have HN := Lib.hid hni
  clear hL hni
  go_enter Try.func50, Try.ntmps50
  go_wp2
  generalize hW0 : (w.alloc _).alloc _ = W0
  have d0 : W0.cell? ⟨w.heap.size, 0, none⟩ = some (.string f) := by rw [← hW0, World.cell?_alloc_lt _ _ _ (by simp), cell_new]; rfl
  have d1 : W0.cell? ⟨w.heap.size, 1, none⟩ = some (.string t) := by rw [← hW0, World.cell?_alloc_lt _ _ _ (by simp), cell_new]; rfl
  have hres : Hid (W0.heap[w.heap.size + 1]? = some (.cells #[.string ⟨#[]⟩, .complex .f64 0 0] 50 (0, 0))) := by
    have h := heap_alloc_new (w.alloc (.cells #[.string f, .string t] 40)) (.cells #[.string ⟨#[]⟩, .complex .f64 0 0] 50)
    rw [hW0] at h
    show W0.heap[w.heap.size + 1]? = _
    simpa using h
  have hb0 : Below w.heap.size w W0 := by rw [← hW0]; exact below_alloc (below_alloc (Below.refl _ _) _) _
  have hz0 : w.heap.size + 1 < W0.heap.size := by rw [← hW0]; simp
  clear hW0
  go_loopw [12] (fun i wr => KnownRel W0 L f t i wr) (fun i _ => L.length - (intOf i).toNat)
  case atStart => exact ⟨0, Nat.zero_le _, rfl, Below.refl _ _, fun j x hj => absurd hj (by omega)⟩
  case round =>
    obtain ⟨k, hk, rfl, hb, hall⟩ := hrel
    have hresr : Hid (wr.heap[w.heap.size + 1]? = some (.cells #[.string ⟨#[]⟩, .complex .f64 0 0] 50 (0, 0))) := blk_below hres.out hb
    replace d0 := cell_below hb d0
    replace d1 := cell_below hb d1
    have hbw : Below w.heap.size w wr := below_step hb0 hb
    by_cases hlt : k < L.length
    · obtain ⟨x, hx⟩ : ∃ x, L[k]? = some x := ⟨_, List.getElem?_eq_getElem hlt⟩
      obtain ⟨b', o', hA0, hcs⟩ := HL.out.1 (by omega)
      cases hA0
      obtain ⟨hit, hxn⟩ := HL.out.2 x (List.mem_of_getElem? hx)
      have hin := HN.out x (List.mem_of_getElem? hx)
      have hitw : Hid (ItemsAt wr x.A x.items) := RowOf.below hit hbw
      have hxH := Lib.hid hx
      obtain ⟨xf, xe, xrun, xA, xn, xc, xits⟩ := x
      obtain rfl : xn = xits.length := hxn
      have c0 : wr.cell? ⟨b, o + k * 4, none⟩ = some (.string xf) := cell_below hbw (hcs k _ hx 0 _ rfl)
      have c1 : wr.cell? ⟨b, o + k * 4 + 1, none⟩ = some (.string xe) := cell_below hbw (hcs k _ hx 1 _ rfl)
      have c2 : wr.cell? ⟨b, o + k * 4 + 2, none⟩ = some (.int .i64 xrun) := cell_below hbw (hcs k _ hx 2 _ rfl)
      have c3 : wr.cell? ⟨b, o + k * 4 + 3, none⟩ = some (.slice xA xits.length xc) := cell_below hbw (hcs k _ hx 3 _ rfl)
      clear hx hcs hit
      simp only [] at hin hitw
      go_wp2_with fail
      have hd1 : (wr.alloc (.cells (Entry.cells ⟨xf, xe, xrun, xA, xits.length, xc, xits⟩).toArray 52)).cell? ⟨w.heap.size, 1, none⟩ = some (.string t) := cell_below (below_alloc (Below.refl _ _) _) d1
      refine (indexFunc_any xA xc w.heap.size t xits hin _ (RowOf.below hitw.out (below_alloc (Below.refl _ _) _)) hd1).mono ?_
      rintro e w1 ⟨rfl, hb1⟩
      have q0 : w1.cell? ⟨wr.heap.size, 0, none⟩ = some (.string xf) := cell_below hb1 (by rw [cell_new]; rfl)
      have q3 : w1.cell? ⟨wr.heap.size, 3, none⟩ = some (.slice xA xits.length xc) := cell_below hb1 (by rw [cell_new]; rfl)
      have hbn : Below W0.heap.size W0 w1 := below_step (below_alloc hb _) hb1
      have hbr : Below wr.heap.size wr w1 := below_step (below_alloc (Below.refl _ _) _) hb1
      have hit1 : Hid (ItemsAt w1 xA xits) := RowOf.below hitw.out hbr
      have hres1 : Hid (w1.heap[w.heap.size + 1]? = some (.cells #[.string ⟨#[]⟩, .complex .f64 0 0] 50 (0, 0))) := blk_below hresr.out hbr
      replace d0 := cell_below hbr d0
      clear c0 c1 c2 c3 hd1 hb1 hresr hitw hb hbr d1
      obtain ⟨bq, hbq⟩ : ∃ q, (xf.toList == f.toList) = q := ⟨_, rfl⟩
      have hQ : Hid (eqS xf f = bq) := by rw [← hbq, eqS_toList]; rfl
      by_cases hkn : (eqS xf f && (idxOf xits t).isSome) = true
      · have hfin := Lib.hid (knownB_true L f t k _ hxH.out hkn)
        rw [Bool.and_eq_true] at hkn
        obtain ⟨hk1, hk2⟩ := hkn
        obtain ⟨m, hm⟩ := Option.isSome_iff_exists.1 hk2
        have hbq1 : bq = true := hQ.out.symm.trans hk1
        subst hbq1
        have hml : m < xits.length := by
          unfold idxOf at hm
          exact (List.findIdx?_eq_some_iff_getElem.1 hm).1
        have hidx : idxV (idxOf xits t) = (m : Int) := by rw [hm]; rfl
        obtain ⟨bi, oi, hAi, hci⟩ := hit1.out (by omega)
        obtain ⟨it, hit⟩ : ∃ it, xits[m]? = some it := ⟨_, List.getElem?_eq_getElem hml⟩
        have s0 : w1.cell? ⟨bi, oi + m * 2, none⟩ = some (.string it.t) := hci m it hit 0 _ rfl
        have s1 : w1.cell? ⟨bi, oi + m * 2 + 1, none⟩ = some (.complex .f64 it.re it.im) := hci m it hit 1 _ rfl
        have r0 : w1.cell? ⟨w.heap.size + 1, 0, none⟩ = some (.string ⟨#[]⟩) := by rw [blk_cell hres1.out]; rfl
        have r1 : w1.cell? ⟨w.heap.size + 1, 1, none⟩ = some (.complex .f64 0 0) := by rw [blk_cell hres1.out]; rfl
        have f0 : w1.frozen? ⟨w.heap.size + 1, 0, none⟩ = false := by simp [World.frozen?, hres1.out]
        have f1 : w1.frozen? ⟨w.heap.size + 1, 1, none⟩ = false := by simp [World.frozen?, hres1.out]
        subst hAi
        rw [hidx]
        clear hm hk1 hk2 hci hit hidx hall hit1 hres1
        go_wp2
        clear hbq hQ hxH HN HL
        go_region
        go_wp2
        refine bodyPost_ret (v := .tuple #[.int .i64 k, .agg #[.string it.t, .complex .f64 it.re it.im], .bool true]) (by simp [results, Try.results50, go_sem, r0, r1]) rfl ⟨⟨k, it.t, it.re, it.im, by rw [hfin.out]⟩, ?_⟩
        exact (((below_step hb0 hbn).setCell (p := ⟨w.heap.size + 1, 0, none⟩) (Nat.le_succ _) _).setCell (p := ⟨w.heap.size + 1, 1, none⟩) (Nat.le_succ _) _).drew
      · have hknf : (eqS xf f && (idxOf xits t).isSome) = false := by simpa using hkn
        have hknH := Lib.hid hknf
        have hrelfin : Hid (∀ (j : Nat) (x : Entry), j < k + 1 → L[j]? = some x → (eqS x.f f && (idxOf x.items t).isSome) = false) := by
          intro j x hj hx
          by_cases e : j < k
          · exact hall.out j x e hx
          · obtain rfl : j = k := by omega
            rw [hxH.out] at hx
            cases hx
            exact hknH.out
        rw [hQ.out] at hknf
        clear hkn
        cases bq with
        | false =>
          go_wp2
          go_roundw
          case rel => exact ⟨k + 1, by omega, by go_num, hbn, hrelfin.out⟩
          case measure => simp [intOf]; omega
        | true =>
          have hidx : idxV (idxOf xits t) = -1 := by
            cases h : idxOf xits t with
            | none => rfl
            | some m => rw [h] at hknf; cases hknf
          rw [hidx]
          clear hknf hidx
          go_wp2
          go_roundw
          case rel => exact ⟨k + 1, by omega, by go_num, hbn, hrelfin.out⟩
          case measure => simp [intOf]; omega
    · have hfin := Lib.hid (knownB_false L f t fun j x hx => hall.out j x (by have := (List.getElem?_eq_some_iff.1 hx).1; omega) hx)
      have r0 : wr.cell? ⟨w.heap.size + 1, 0, none⟩ = some (.string ⟨#[]⟩) := by rw [blk_cell hresr.out]; rfl
      have r1 : wr.cell? ⟨w.heap.size + 1, 1, none⟩ = some (.complex .f64 0 0) := by rw [blk_cell hresr.out]; rfl
      have f0 : wr.frozen? ⟨w.heap.size + 1, 0, none⟩ = false := by simp [World.frozen?, hresr.out]
      have f1 : wr.frozen? ⟨w.heap.size + 1, 1, none⟩ = false := by simp [World.frozen?, hresr.out]
      go_wp2
      refine bodyPost_ret (v := .tuple #[.int .i64 0, .agg #[.string ⟨#[]⟩, .complex .f64 0 0], .bool false]) (by simp [results, Try.results50, go_sem, r0, r1]) rfl ⟨⟨0, ⟨#[]⟩, 0, 0, by rw [hfin.out]⟩, ?_⟩
      exact ((hbw.setCell (p := ⟨w.heap.size + 1, 0, none⟩) (Nat.le_succ _) _).setCell (p := ⟨w.heap.size + 1, 1, none⟩) (Nat.le_succ _) _)
end Go.Proofs.Ytbmegoemimfiaaa

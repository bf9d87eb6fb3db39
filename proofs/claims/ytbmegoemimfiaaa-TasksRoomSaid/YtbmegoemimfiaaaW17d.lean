/-
  slices.DeleteFunc at rows that the call itself made; tasks.Of: the walks.
-/
import Derived.Test.YtbmegoemimfiaaaRows
import Derived.Test.YtbmegoemimfiaaaW17c
import Derived.WalkKit
import Derived.WalkSpells
import Derived.WalkLawsBesides
import Derived.Outline
import Derived.Laws.StructEq
import Derived.Deep.Light
import Derived.Deep.QuietTactic
import Derived.BigQuiet
import Derived.Maps.OwnOps
import Derived.Maps.OwnSet
import Derived.Lib.Hide
namespace Go.Proofs.Ytbmegoemimfiaaa
open Go Go.RowKit
set_option maxRecDepth 100000
set_option linter.unusedVariables false
set_option linter.unusedSimpArgs false

attribute [local go_sem] run_store_float run_store_complex
theorem blk_setCell {w : World} {g o : Nat} {t : TypeId} {cur : Array Value} (h : w.heap[g]? = some (.cells cur t (0, 0))) (v : Value) : (w.setCell ⟨g, o, none⟩ v).heap[g]? = some (.cells (cur.setIfInBounds o v) t (0, 0)) := by
  simp [World.setCell, Array.getElem?_modify, h]
theorem blk_free {w : World} {g o : Nat} {t : TypeId} {cur : Array Value} (h : w.heap[g]? = some (.cells cur t (0, 0))) : w.frozen? ⟨g, o, none⟩ = false := by simp [World.frozen?, h]
theorem blk_setCells {g : Nat} {t : TypeId} {base : Nat} {w0 : World} (hg : base ≤ g) : ∀ (vs : List Value) (o : Nat) (w : World) (cur : Array Value), w.heap[g]? = some (.cells cur t (0, 0)) → Below base w0 w →
    ∃ cur', (w.setCells g o vs).heap[g]? = some (.cells cur' t (0, 0)) ∧ cur'.size = cur.size ∧ (∀ p, p < o → cur'[p]? = cur[p]?) ∧ Below base w0 (w.setCells g o vs)
  | [], o, w, cur, h, hb => ⟨cur, h, rfl, fun _ _ => rfl, hb⟩
  | v :: vs, o, w, cur, h, hb => by
    obtain ⟨cur', h1, h2, h3, h4⟩ := blk_setCells hg vs (o + 1) (w.setCell ⟨g, o, none⟩ v) _ (blk_setCell h v) (hb.setCell hg v)
    refine ⟨cur', h1, by simpa using h2, fun p hp => ?_, h4⟩
    rw [h3 p (by omega), Array.getElem?_setIfInBounds]
    rw [if_neg (by omega)]
def AtR (cur : Array Value) (q : Nat) (x : RowT) : Prop := ∀ (t : Nat) (v : Value), x.cells[t]? = some v → cur[q * 5 + t]? = some v
def set5 (cur : Array Value) (i : Nat) (x : RowT) : Array Value := ((((cur.setIfInBounds (i * 5) (.string x.f)).setIfInBounds (i * 5 + 1) (.string x.t)).setIfInBounds (i * 5 + 2) (.string x.e)).setIfInBounds (i * 5 + 3) (.int .i64 x.run)).setIfInBounds (i * 5 + 4) (.complex .f64 x.re x.im)
theorem set5_size (cur : Array Value) (i : Nat) (x : RowT) : (set5 cur i x).size = cur.size := by simp [set5]
theorem AtR.set_self (cur : Array Value) (i : Nat) (x : RowT) (h : i * 5 + 5 ≤ cur.size) : AtR (set5 cur i x) i x := by
  intro t v ht
  have h5 : t < 5 := by have := (List.getElem?_eq_some_iff.1 ht).1; simpa [RowT.cells] using this
  have : t = 0 ∨ t = 1 ∨ t = 2 ∨ t = 3 ∨ t = 4 := by omega
  unfold set5
  rcases this with rfl | rfl | rfl | rfl | rfl <;> simp [RowT.cells] at ht <;> subst ht <;> simp [Array.getElem?_setIfInBounds] <;> omega
theorem AtR.set_other {cur : Array Value} {i q : Nat} {x y : RowT} (h : AtR cur q y) (hne : q ≠ i) : AtR (set5 cur i x) q y := by
  intro t v ht
  have h5 : t < 5 := by have := (List.getElem?_eq_some_iff.1 ht).1; simpa [RowT.cells] using this
  have hq := h t v ht
  unfold set5
  simp only [Array.getElem?_setIfInBounds]
  rw [if_neg (by omega), if_neg (by omega), if_neg (by omega), if_neg (by omega), if_neg (by omega)]
  exact hq
theorem flat5_get (L : List RowT) : ∀ (p : Nat) (t : Nat) (y : RowT), L[p]? = some y → t < 5 → (L.flatMap RowT.cells)[p * 5 + t]? = y.cells[t]? := by
  induction L with
  | nil => intro p t y h; simp at h
  | cons z L ih =>
    intro p t y h ht
    cases p with
    | zero =>
      simp at h
      subst h
      rw [List.flatMap_cons, Nat.zero_mul, Nat.zero_add, List.getElem?_append_left (by simpa [RowT.cells] using ht)]
    | succ p =>
      rw [List.flatMap_cons, List.getElem?_append_right (by simp [RowT.cells]; omega)]
      rw [show (p + 1) * 5 + t - z.cells.length = p * 5 + t by simp [RowT.cells]; omega]
      exact ih p t y (by simpa using h) ht
theorem flat5_len (L : List RowT) : (L.flatMap RowT.cells).length = L.length * 5 := by
  induction L with
  | nil => rfl
  | cons z L ih => rw [List.flatMap_cons, List.length_append, ih, List.length_cons, RowT.cells]; simp; omega
theorem own_of_at {w : World} {g base cap : Nat} {cur : Array Value} {M : List RowT} (h : w.heap[g]? = some (.cells cur 62 (0, 0))) (hb : base ≤ g) (hn : M.length ≤ cap) (hm : cap ≤ maxLen) (hs : cur.size = cap * 5) (hM : ∀ (p : Nat) (y : RowT), M[p]? = some y → AtR cur p y) :
    w.ownsRow base 62 5 (.slice (some ⟨g, 0, none⟩) M.length cap) M.length (M.flatMap RowT.cells) := by
  refine ⟨flat5_len M, .inr ⟨g, cap, cur, rfl, hb, h, hn, hm, hs, ?_⟩⟩
  apply List.ext_getElem?
  intro i
  by_cases hi : i < M.length * 5
  · rw [List.getElem?_take_of_lt hi]
    have hp : i / 5 < M.length := by omega
    have hx := List.getElem?_eq_getElem hp
    obtain ⟨v, hv⟩ : ∃ v, M[i / 5].cells[i % 5]? = some v := ⟨M[i / 5].cells[i % 5]'(by show i % 5 < 5; omega), List.getElem?_eq_getElem (by show i % 5 < 5; omega)⟩
    have h1 := hM _ _ hx _ _ hv
    have h2 := flat5_get M _ (i % 5) _ hx (by omega)
    rw [show i / 5 * 5 + i % 5 = i by omega] at h1 h2
    rw [h2, hv, Array.getElem?_toList]
    exact h1
  · rw [List.getElem?_eq_none (by simp; omega), List.getElem?_eq_none (by rw [flat5_len]; omega)]
theorem at_of_own {w : World} {base n : Nat} {L : List RowT} {v : Value} (h : w.ownsRow base 62 5 v n (L.flatMap RowT.cells)) (h0 : 0 < L.length) : n = L.length ∧ ∃ g cap cur, v = .slice (some ⟨g, 0, none⟩) n cap ∧ base ≤ g ∧ w.heap[g]? = some (.cells cur 62 (0, 0)) ∧ n ≤ cap ∧ cap ≤ maxLen ∧ cur.size = cap * 5 ∧ ∀ (p : Nat) (y : RowT), L[p]? = some y → AtR cur p y := by
  have hl : n = L.length := by have := h.1; rw [flat5_len] at this; omega
  rcases h.2 with ⟨rfl, rfl⟩ | ⟨g, cap, cur, rfl, hb, hg, hn, hm, hs, hx⟩
  · omega
  · refine ⟨hl, g, cap, cur, rfl, hb, hg, hn, hm, hs, fun p y hp t v ht => ?_⟩
    have h5 : t < 5 := by have := (List.getElem?_eq_some_iff.1 ht).1; simpa [RowT.cells] using this
    have hpl := (List.getElem?_eq_some_iff.1 hp).1
    have h2 := flat5_get L p t y hp h5
    rw [← hx, List.getElem?_take_of_lt (by omega), Array.getElem?_toList, ht] at h2
    exact h2
def zero62 : Value := .agg #[.string ⟨#[]⟩, .string ⟨#[]⟩, .string ⟨#[]⟩, .int .i64 0, .complex .f64 0 0]
theorem run_zero62 (w : World) : (zeroValue 62).run Try.prog w = .ok zero62 w := by kernel_rfl
theorem one_zero62 (n : Nat) : ∀ v ∈ (Builtin.zeroCells zero62.cells n).toList, v.oneCell' = true := by
  intro v hv
  simp only [Builtin.zeroCells, Array.toList_map, List.mem_map] at hv
  obtain ⟨i, _, rfl⟩ := hv
  have h5 : i % 5 < 5 := Nat.mod_lt _ (by decide)
  show (zero62.cells[i % 5]!).oneCell' = true
  have : i % 5 = 0 ∨ i % 5 = 1 ∨ i % 5 = 2 ∨ i % 5 = 3 ∨ i % 5 = 4 := by omega
  rcases this with h | h | h | h | h <;> rw [h] <;> rfl
theorem run_clear_rows (w : World) (ty : TypeId) (b o n c : Nat) (hn : 0 < n) (hc : ∀ j, j < n * 5 → (w.cell? ⟨b, o + j, none⟩).isSome = true) (hf : ∀ j, j < n * 5 → w.frozen? ⟨b, o + j, none⟩ = false) :
    (Builtin.clear_ #[53] ty #[.slice (some ⟨b, o, none⟩) n c]).run Try.prog w = .ok (.tuple #[]) (w.setCells b o (Builtin.zeroCells zero62.cells n).toList) := by
  have hl : (Builtin.zeroCells zero62.cells n).toList.length = n * 5 := by simp [size_zeroCells]; rfl
  have hst := run_storeCells_cells (P := Try.prog) b o (Builtin.zeroCells zero62.cells n).toList 0 w (by simpa [hl] using hc) (by simpa [hl] using hf) (one_zero62 n)
  simp only [Nat.add_zero] at hst
  obtain ⟨m, rfl⟩ : ∃ m, n = m + 1 := ⟨n - 1, by omega⟩
  have hz := run_zero62
  unfold zero62 at hz hst ⊢
  simp [Builtin.clear_, run_underlying Try.underlying53, hz, hst]
def DelPost (w0 : World) (base : Nat) (K : List RowT) (en : Ending) (w' : World) : Prop := ∃ v, en = .returned v ∧ w'.ownsRow base 62 5 v K.length (K.flatMap RowT.cells) ∧ Below base w0 w'
def DelRel (w0 : World) (base g cap : Nat) (d : RowT → Bool) (L : List RowT) (s5 s6 : Value) (wr : World) : Prop := ∃ (i j : Nat) (M : List RowT) (cur : Array Value), M.length = i ∧ i < j ∧ j ≤ L.length ∧ s5 = .int .i64 i ∧ s6 = .int .i64 j ∧ M = (L.take j).filter (fun x => !d x) ∧ Below base w0 wr ∧ wr.heap[g]? = some (.cells cur 62 (0, 0)) ∧ cur.size = cap * 5 ∧
  (∀ (p : Nat) (y : RowT), M[p]? = some y → AtR cur p y) ∧ ∀ (p : Nat) (y : RowT), j ≤ p → L[p]? = some y → AtR cur p y
theorem filter_none (d : RowT → Bool) (L : List RowT) (h : ∀ x ∈ L, d x = false) : L.filter (fun x => !d x) = L := List.filter_eq_self.2 fun x hx => by simp [h x hx]
theorem filter_first (d : RowT → Bool) (L : List RowT) (k : Nat) (x : RowT) (hx : L[k]? = some x) (hd : d x = true) (h : ∀ (j : Nat) (y : RowT), j < k → L[j]? = some y → d y = false) : (L.take (k + 1)).filter (fun x => !d x) = L.take k := by
  rw [take_snoc' L k x hx, List.filter_append, filter_none]
  · simp [hd]
  · intro y hy
    obtain ⟨j, hj⟩ := List.getElem?_of_mem hy
    have hl := (List.getElem?_eq_some_iff.1 hj).1
    rw [List.length_take] at hl
    rw [List.getElem?_take_of_lt (by omega)] at hj
    exact h j y (by omega) hj
theorem filter_snoc (d : RowT → Bool) (L : List RowT) (j : Nat) (x : RowT) (hx : L[j]? = some x) : (L.take (j + 1)).filter (fun x => !d x) = (L.take j).filter (fun x => !d x) ++ (if d x then [] else [x]) := by
  rw [take_snoc' L j x hx, List.filter_append]
  rcases hd : d x with _ | _ <;> simp [hd]
set_option maxHeartbeats 800000 in
theorem delete_nil (A : Option Addr) (c : Nat) (u : Value) (hu : ∃ g cs bs, u = .func g cs bs) (w0 w : World) (base : Nat) (hbase : base ≤ w.heap.size) (hB : Below base w0 w) (hown : w.ownsRow base 62 5 (.slice A 0 c) 0 []) : Calls Try.prog 53 #[.slice A 0 c, u] w (DelPost w0 base []) := by
  obtain ⟨g, cs, bs, rfl⟩ := hu
  have HO := Lib.hid hown
  clear hown
  go_enter Try.func53, Try.ntmps53
  go_wp2_with fail
  refine (index_nil A c _ (fun _ => false) w).mono ?_
  rintro en w1 ⟨r, rfl, hb1, hr⟩
  have hB1 : Below base w0 w1 := hB.trans (hb1.mono hbase)
  have HO1 := Lib.hid (own_below HO.out hb1)
  rcases hr with ⟨rfl, _⟩ | ⟨k, x, _, hx, _⟩
  · go_wp2
    go_ret
    exact ⟨_, rfl, HO1.out, hB1⟩
  · simp at hx
set_option maxHeartbeats 8000000 in
theorem delete_some (g o c : Nat) (ho : o = 0) (L : List RowT) (hn : L.length ≤ 1000) (h0 : 0 < L.length) (p1 p2 p3 : Nat) (f e : ByteArray) (n : Int) (w0 w : World) (base : Nat) (hbase : base ≤ w.heap.size) (h1 : p1 < base) (h2 : p2 < base) (h3 : p3 < base) (hC : Caught w0 p1 p2 p3 f e n) (hB : Below base w0 w) (hown : w.ownsRow base 62 5 (.slice (some ⟨g, o, none⟩) L.length c) L.length (L.flatMap RowT.cells)) :
    Calls Try.prog 53 #[.slice (some ⟨g, o, none⟩) L.length c, .func (.func 54) #[] #[.pointer (some ⟨p1, 0, none⟩), .pointer (some ⟨p2, 0, none⟩), .pointer (some ⟨p3, 0, none⟩)]] w (DelPost w0 base (L.filter (fun x => !delB f e n x))) := by
  have hrow := (own_rowOf (cells := RowT.cells) (fun _ => rfl) (by decide) hown).2
  have hcatch : ∀ W, Below base w0 W → Caught W p1 p2 p3 f e n := fun W hW => ⟨(hW.cell (p := ⟨p1, 0, none⟩) h1).trans hC.c1, (hW.cell (p := ⟨p2, 0, none⟩) h2).trans hC.c2, (hW.cell (p := ⟨p3, 0, none⟩) h3).trans hC.c3⟩
  have hidx := index_any (some ⟨g, o, none⟩) c L hn p1 p2 p3 f e n w (hcatch w hB) hrow
  have HX := Lib.hid hidx
  have HC := Lib.hid hcatch
  have HO := Lib.hid hown
  have hoH := Lib.hid ho
  clear hC hown hrow hidx hcatch h1 h2 h3 ho
  obtain ⟨d, hd⟩ : ∃ d, d = delB f e n := ⟨_, rfl⟩
  rw [← hd] at HX
  rw [← show d = delB f e n from hd]
  have HD := Lib.hid hd
  clear hd
  go_enter Try.func53, Try.ntmps53
  go_wp2_with fail
  refine HX.out.mono ?_
  clear HX
  rintro en w1 ⟨r, rfl, hb1, hr⟩
  have hB1 : Below base w0 w1 := hB.trans (hb1.mono hbase)
  have HO1 := Lib.hid (own_below HO.out hb1)
  have hbase1 : base ≤ w1.heap.size := Nat.le_trans hbase hb1.size
  rcases hr with ⟨rfl, hall⟩ | ⟨k, x, rfl, hx, hdx, hall⟩
  · have hfin := Lib.hid (filter_none d L hall)
    clear hall
    go_wp2
    go_ret
    refine ⟨_, rfl, ?_, hB1⟩
    rw [hfin.out]
    exact HO1.out
  · have hk : k < L.length := (List.getElem?_eq_some_iff.1 hx).1
    obtain ⟨_, g', cap, cur, hv, hg, hblk, hncap, hcap, hcs, hcur⟩ := at_of_own HO1.out h0
    injection hv with hA _ hc
    injection hA with hA
    injection hA with hA1 hA2
    subst hA1
    subst hc
    clear hA2
    have hst : Hid ((L.take (k + 1)).filter (fun x => !d x) = L.take k) := filter_first d L k x hx hdx hall
    clear hx hdx hall HO HO1 hb1
    have hcurH := Lib.hid hcur
    have hblkH := Lib.hid hblk
    have hcsH := Lib.hid hcs
    clear hcur hblk hcs
    have hne : ((k : Int) == -1) = false := beq_eq_false_iff_ne.2 (by omega)
    unfold maxLen at hcap
    go_wp2_with fail
    go_loopw [5, 6] (fun s5 s6 wr => DelRel w0 base g c d L s5 s6 wr) (fun _ j _ => L.length - (intOf j).toNat)
    case atStart => exact ⟨k, k + 1, _, cur, by rw [List.length_take]; omega, by omega, by omega, rfl, by go_num, hst.out.symm, hB1, hblkH.out, hcsH.out, fun p y hp => hcurH.out p y (by
        have hl := (List.getElem?_eq_some_iff.1 hp).1
        rw [List.length_take] at hl
        rwa [List.getElem?_take_of_lt (by omega)] at hp), fun p y _ hp => hcurH.out p y hp⟩
    case round =>
      clear hne
      obtain ⟨i, j, M, cur2, hMl, hij, hj, rfl, rfl, hM, hB2, hblk2, hcs2, hdone, hleft⟩ := hrel
      have hMlH := Lib.hid hMl
      have hMH := Lib.hid hM
      have hblk2H := Lib.hid hblk2
      have hcs2H := Lib.hid hcs2
      have hdoneH := Lib.hid hdone
      have hleftH := Lib.hid hleft
      have hci : ∀ t, wr.cell? ⟨g, t, none⟩ = cur2[t]? := fun t => blk_cell hblk2 t
      have hgl := blk_lt hblk2
      clear hMl hM hcs2 hdone hleft hcurH hblkH hst
      by_cases hlt : j < L.length
      · obtain ⟨y, hy⟩ : ∃ y, L[j]? = some y := ⟨_, List.getElem?_eq_getElem hlt⟩
        have hyH := Lib.hid hy
        have hat := hleftH.out j y (Nat.le_refl _) hy
        have c0 : wr.cell? ⟨g, o + j * 5, none⟩ = some (.string y.f) := by rw [hoH.out, Nat.zero_add, hci]; exact hat 0 _ rfl
        have c1 : wr.cell? ⟨g, o + j * 5 + 1, none⟩ = some (.string y.t) := by rw [hoH.out, Nat.zero_add, hci]; exact hat 1 _ rfl
        have c2 : wr.cell? ⟨g, o + j * 5 + 2, none⟩ = some (.string y.e) := by rw [hoH.out, Nat.zero_add, hci]; exact hat 2 _ rfl
        have c3 : wr.cell? ⟨g, o + j * 5 + 3, none⟩ = some (.int .i64 y.run) := by rw [hoH.out, Nat.zero_add, hci]; exact hat 3 _ rfl
        have c4 : wr.cell? ⟨g, o + j * 5 + 4, none⟩ = some (.complex .f64 y.re y.im) := by rw [hoH.out, Nat.zero_add, hci]; exact hat 4 _ rfl
        clear hat hci hy
        go_wp2_with fail
        generalize hW : wr.alloc _ = W1
        have hb3 : Below wr.heap.size wr W1 := by rw [← hW]; exact below_alloc (Below.refl _ _) _
        have p0 : W1.cell? ⟨wr.heap.size, 0, none⟩ = some (.string y.f) := by rw [← hW, cell_new]; rfl
        have p1' : W1.cell? ⟨wr.heap.size, 1, none⟩ = some (.string y.t) := by rw [← hW, cell_new]; rfl
        have p2' : W1.cell? ⟨wr.heap.size, 2, none⟩ = some (.string y.e) := by rw [← hW, cell_new]; rfl
        have p3' : W1.cell? ⟨wr.heap.size, 3, none⟩ = some (.int .i64 y.run) := by rw [← hW, cell_new]; rfl
        have p4' : W1.cell? ⟨wr.heap.size, 4, none⟩ = some (.complex .f64 y.re y.im) := by rw [← hW, cell_new]; rfl
        clear hW c0 c1 c2 c3 c4
        have hblk3 := blk_below hblk2H.out hb3
        have hbase2 : base ≤ wr.heap.size := by omega
        have hB3 : Below base w0 W1 := hB2.trans (hb3.mono hbase2)
        clear hB2 hblk2 hblk2H
        go_wp2_with fail
        refine (dels y p1 p2 p3 f e n W1 (HC.out W1 hB3)).mono ?_
        rintro en w4 ⟨rfl, hb4⟩
        rw [← show d y = delB f e n y by rw [HD.out]]
        replace p0 := cell_below hb4 p0
        replace p1' := cell_below hb4 p1'
        replace p2' := cell_below hb4 p2'
        replace p3' := cell_below hb4 p3'
        replace p4' := cell_below hb4 p4'
        have hblk4 := blk_below hblk3 hb4
        have hbase3 : base ≤ W1.heap.size := Nat.le_trans hbase2 hb3.size
        have hB4 : Below base w0 w4 := hB3.trans (hb4.mono hbase3)
        have hne4 : ¬ (wr.heap.size = g) := by omega
        clear hB3 hblk3 hb3 hb4
        obtain ⟨q, hq⟩ : ∃ q, q = d y := ⟨_, rfl⟩
        rw [← hq]
        have hfs := Lib.hid (filter_snoc d L j y hyH.out)
        rw [← hq] at hfs
        clear hq
        cases q with
        | true =>
          go_wp2
          go_roundw
          case rel =>
            refine ⟨i, j + 1, M, cur2, hMlH.out, by omega, by omega, rfl, by go_num, ?_, hB4, hblk4, hcs2H.out, hdoneH.out, fun p y' hp hy' => hleftH.out p y' (by omega) hy'⟩
            rw [hfs.out, hMH.out]
            simp
          case measure => simp [intOf]; omega
        | false =>
          have f0 : w4.frozen? ⟨g, o + i * 5, none⟩ = false := blk_free hblk4
          have f1 : w4.frozen? ⟨g, o + i * 5 + 1, none⟩ = false := blk_free hblk4
          have f2 : w4.frozen? ⟨g, o + i * 5 + 2, none⟩ = false := blk_free hblk4
          have f3 : w4.frozen? ⟨g, o + i * 5 + 3, none⟩ = false := blk_free hblk4
          have f4 : w4.frozen? ⟨g, o + i * 5 + 4, none⟩ = false := blk_free hblk4
          have hin : i * 5 + 5 ≤ cur2.size := by rw [hcs2H.out]; omega
          have ex : ∀ t, t < cur2.size → ∃ v, w4.cell? ⟨g, t, none⟩ = some v := fun t ht => ⟨cur2[t], by rw [blk_cell hblk4, Array.getElem?_eq_getElem ht]⟩
          obtain ⟨v0, g0⟩ := ex (i * 5) (by omega)
          obtain ⟨v1, g1⟩ := ex (i * 5 + 1) (by omega)
          obtain ⟨v2, g2⟩ := ex (i * 5 + 2) (by omega)
          obtain ⟨v3, g3⟩ := ex (i * 5 + 3) (by omega)
          obtain ⟨v4, g4⟩ := ex (i * 5 + 4) (by omega)
          rw [← show o + i * 5 = i * 5 by rw [hoH.out, Nat.zero_add]] at g0 g1 g2 g3 g4
          have hblk4H := Lib.hid hblk4
          clear ex hblk4
          go_wp2
          go_roundw
          case rel =>
            refine ⟨i + 1, j + 1, M ++ [y], set5 cur2 i y, ?_, by omega, by omega, by go_num, by go_num, ?_, ?_, ?_, ?_, ?_, ?_⟩
            · rw [List.length_append, hMlH.out]; rfl
            · rw [hfs.out, hMH.out]; rfl
            · exact ((((hB4.setCell hg _).setCell hg _).setCell hg _).setCell hg _).setCell hg _
            · have eo : o + i * 5 = i * 5 := by rw [hoH.out, Nat.zero_add]
              rw [eo]
              exact blk_setCell (blk_setCell (blk_setCell (blk_setCell (blk_setCell hblk4H.out _) _) _) _) _
            · rw [set5_size]; exact hcs2H.out
            · intro p y' hp
              rcases Nat.lt_or_ge p M.length with h | h
              · rw [List.getElem?_append_left h] at hp
                exact (hdoneH.out p y' hp).set_other (by have := hMlH.out; omega)
              · have hpl : p < (M ++ [y]).length := (List.getElem?_eq_some_iff.1 hp).1
                rw [List.length_append, List.length_singleton] at hpl
                obtain rfl : p = M.length := by omega
                simp at hp
                subst hp
                rw [hMlH.out]
                exact AtR.set_self _ _ _ hin
            · intro p y' hp hy'
              exact (hleftH.out p y' (by omega) hy').set_other (by omega)
          case measure => simp [intOf]; omega
      · have hje : j = L.length := by omega
        have hx62 : ∀ ty, (Builtin.clear_ #[53] ty #[.slice (some ⟨g, o + i * 5, none⟩) (L.length - i) (c - i)]).run Try.prog wr = .ok (.tuple #[]) (wr.setCells g (o + i * 5) (Builtin.zeroCells zero62.cells (L.length - i)).toList) := fun ty => run_clear_rows wr ty g (o + i * 5) _ _ (by omega) (fun t ht => by
            rw [hoH.out, Nat.zero_add, hci, Array.getElem?_eq_getElem (by rw [hcs2H.out]; omega)]; rfl) (fun t ht => blk_free hblk2)
        obtain ⟨cur3, k1, k2, k3, k4⟩ := blk_setCells hg (Builtin.zeroCells zero62.cells (L.length - i)).toList (o + i * 5) wr cur2 hblk2 hB2
        obtain ⟨W3, hW3⟩ : ∃ W3, W3 = wr.setCells g (o + i * 5) (Builtin.zeroCells zero62.cells (L.length - i)).toList := ⟨_, rfl⟩
        rw [← hW3] at hx62 k1 k4
        have k1H := Lib.hid k1
        have k2H := Lib.hid k2
        have k3H := Lib.hid k3
        clear hci k1 k2 k3 hW3 hblk2
        go_wp2
        go_ret
        refine ⟨_, rfl, ?_, k4⟩
        have hK : L.filter (fun x => !d x) = M := by rw [hMH.out, hje, List.take_length]
        rw [hK, hoH.out, ← hMlH.out]
        refine own_of_at k1H.out hg (by have := hMlH.out; omega) hcap (k2H.out.trans hcs2H.out) fun p y hp => ?_
        intro t v ht
        have h5 : t < 5 := by have := (List.getElem?_eq_some_iff.1 ht).1; simpa [RowT.cells] using this
        have hpl := (List.getElem?_eq_some_iff.1 hp).1
        rw [k3H.out _ (by rw [hoH.out]; have := hMlH.out; omega)]
        exact hdoneH.out p y hp t v ht
theorem delete_any (A : Option Addr) (c : Nat) (L : List RowT) (hn : L.length ≤ 1000) (p1 p2 p3 : Nat) (f e : ByteArray) (n : Int) (w0 w : World) (base : Nat) (hbase : base ≤ w.heap.size) (h1 : p1 < base) (h2 : p2 < base) (h3 : p3 < base) (hC : Caught w0 p1 p2 p3 f e n) (hB : Below base w0 w) (hown : w.ownsRow base 62 5 (.slice A L.length c) L.length (L.flatMap RowT.cells)) :
    Calls Try.prog 53 #[.slice A L.length c, .func (.func 54) #[] #[.pointer (some ⟨p1, 0, none⟩), .pointer (some ⟨p2, 0, none⟩), .pointer (some ⟨p3, 0, none⟩)]] w (DelPost w0 base (L.filter (fun x => !delB f e n x))) := by
  rcases Nat.eq_zero_or_pos L.length with h0 | h0
  · obtain rfl := List.eq_nil_of_length_eq_zero h0
    exact delete_nil A c _ ⟨_, _, _, rfl⟩ w0 w base hbase hB hown
  · obtain ⟨_, g', cap, cur, hv, _⟩ := at_of_own hown h0
    injection hv with hA _ hc
    subst hA
    exact delete_some g' 0 c rfl L hn h0 p1 p2 p3 f e n w0 w base hbase h1 h2 h3 hC hB hown
set_option maxHeartbeats 4000000 in
theorem of17 (A : Option Addr) (c : Nat) (L : List Entry) (hn : L.length ≤ 1000) (hr : (rowsOf L).length ≤ 1000) (f e : ByteArray) (n : Int) (w : World) (hL : EntriesAt w A L) :
    Calls Try.prog 32 #[.slice A L.length c, .string f, .string e, .int .i64 n] w (DelPost w w.heap.size ((rowsOf L).filter (fun x => !delB f e n x))) := by
  have HL := Lib.hid hL
  clear hL
  go_enter Try.func32, Try.ntmps32
  go_wp2_with fail
  generalize hW : ((w.alloc _).alloc _).alloc _ = W3
  have hb3 : Below w.heap.size w W3 := by rw [← hW]; exact below_alloc (below_alloc (below_alloc (Below.refl _ _) _) _) _
  have hz : W3.heap.size = w.heap.size + 3 := by rw [← hW]; simp
  have hC : Hid (Caught W3 w.heap.size (w.heap.size + 1) (w.heap.size + 1 + 1) f e n) := by
    rw [← hW]
    refine ⟨?_, ?_, ?_⟩
    · have h := cell_new w #[.string f] 9 0
      exact cell_below (below_alloc (Below.refl _ _) _) (cell_below (below_alloc (Below.refl _ _) _) h)
    · have h := cell_new (w.alloc (.cells #[.string f] 9)) #[.string e] 9 0
      have e1 : (w.alloc (.cells #[.string f] 9)).heap.size = w.heap.size + 1 := by simp
      rw [e1] at h
      exact cell_below (below_alloc (Below.refl _ _) _) h
    · have h := cell_new ((w.alloc (.cells #[.string f] 9)).alloc (.cells #[.string e] 9)) #[.int .i64 n] 3 0
      have e1 : ((w.alloc (.cells #[.string f] 9)).alloc (.cells #[.string e] 9)).heap.size = w.heap.size + 1 + 1 := by simp
      rw [e1] at h
      exact h
  have hLH := Lib.hid (HL.out.below hb3)
  clear hW HL
  refine (rows_any A c L hn hr W3 hLH.out).mono ?_
  rintro en w4 ⟨v, rfl, hown, hb4⟩
  obtain ⟨A4, c4, hv⟩ := own_slice hown
  subst hv
  have hownH := Lib.hid hown
  have hz4 := hb4.size
  clear hown
  go_wp2_with fail
  refine (delete_any A4 c4 (rowsOf L) hr _ _ _ f e n W3 w4 W3.heap.size (by omega) (by omega) (by omega) (by omega) hC.out hb4 hownH.out).mono ?_
  rintro en w5 ⟨v5, rfl, hown5, hb5⟩
  have hb6 := below_then hb3 (by omega) hb5
  have hown6 := Lib.hid (own_lower hown5 (show w.heap.size ≤ W3.heap.size by omega))
  clear hown5 hb5 hb4 hownH hz hz4
  go_wp2
  go_ret
  exact ⟨_, rfl, hown6.out, hb6⟩
end Go.Proofs.Ytbmegoemimfiaaa

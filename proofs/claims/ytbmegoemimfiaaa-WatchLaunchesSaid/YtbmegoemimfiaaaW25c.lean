/-
  hostlerkeep.Within; watch.right, watch.Streams: the walks.
-/
import Derived.Test.YtbmegoemimfiaaaRows
import Derived.Test.YtbmegoemimfiaaaW25b
import Derived.WalkKit
import Derived.WalkSpells
import Derived.WalkLawsBesides
import Derived.Outline
import Derived.Laws.StructEq
import Derived.Deep.Light
import Derived.Deep.QuietTactic
import Derived.BigQuiet
import Derived.Maps.OwnOps
import Derived.Maps.OwnSet
import Derived.Lib.Hide
namespace Go.Proofs.Ytbmegoemimfiaaa
open Go Go.RowKit
set_option maxRecDepth 100000
set_option linter.unusedVariables false
set_option linter.unusedSimpArgs false

open Go.Maps
set_option maxHeartbeats 1000000 in
theorem within_any (v n : Int) (h1 : 1 ≤ n) (h2 : n ≤ 1000) (w : World) : Calls Try.prog 11 #[.int .i64 v, .int .i64 n] w fun e w' => e = .returned (.int .i64 (v % n)) ∧ w = w' := by
  have c0 : decide (n < 1) = false := decide_eq_false (by omega)
  have c1 : (n == 0) = false := by rw [beq_eq_false_iff_ne]; omega
  have c2 : (n != 0) = true := by rw [bne_iff_ne]; omega
  have hl : Int.tmod v n < n := Int.tmod_lt_of_pos v (by omega)
  have hg : -n < Int.tmod v n := by have := Int.lt_tmod_of_pos v (show 0 < n by omega); omega
  by_cases h : Int.tmod v n < 0
  · have hb : decide (Int.tmod v n < 0) = true := decide_eq_true h
    have hw : wrap64 (Int.tmod v n + n) = Int.tmod v n + n := by unfold wrap64; omega
    have hfin : Hid (wrap64 (Int.tmod v n + n) = v % n) := by
      show wrap64 _ = _
      rw [hw]
      rcases Int.lt_or_le v 0 with hv | hv
      · rw [Int.tmod_eq_emod] at h ⊢
        split at h <;> split <;> first | omega | (simp_all; omega)
      · rw [Int.tmod_eq_emod_of_nonneg hv] at h
        have := Int.emod_nonneg v (show n ≠ 0 by omega)
        omega
    clear hw hl hg h
    go_enter Try.func11, Try.ntmps11
    go_wp2
    go_ret
    refine ⟨?_, rfl⟩
    rw [← hfin.out]
    rfl
  · have hb : decide (Int.tmod v n < 0) = false := decide_eq_false h
    have hfin : Hid (Int.tmod v n = v % n) := by
      show _ = _
      rcases Int.lt_or_le v 0 with hv | hv
      · rw [Int.tmod_eq_emod] at h ⊢
        have := Int.emod_nonneg v (show n ≠ 0 by omega)
        have := Int.emod_lt_of_pos v (show 0 < n by omega)
        split at h <;> split <;> first | omega | (simp_all; omega)
      · exact Int.tmod_eq_emod_of_nonneg hv
    clear hl hg h
    go_enter Try.func11, Try.ntmps11
    go_wp2
    go_ret
    refine ⟨?_, rfl⟩
    rw [← hfin.out]
    rfl

theorem sent_pos (f t : ByteArray) (S : List Said) (x : Said) (hx : x ∈ S) (hh : hit f t x = true) : 0 < (sent f t S).length := by
  unfold sent
  have grow : ∀ (T : List Said) (acc : List Int), acc.length ≤ (T.foldl (sentStep f t) acc).length := by
    intro T
    induction T with
    | nil => intro acc; simp
    | cons y T ih =>
      intro acc
      refine Nat.le_trans ?_ (ih (sentStep f t acc y))
      unfold sentStep
      split
      · split <;> simp
      · simp
  have main : ∀ (T : List Said) (acc : List Int), x ∈ T → 0 < (T.foldl (sentStep f t) acc).length := by
    intro T
    induction T with
    | nil => intro acc h; cases h
    | cons y T ih =>
      intro acc h
      rcases List.mem_cons.1 h with rfl | h
      · refine Nat.lt_of_lt_of_le ?_ (grow T _)
        unfold sentStep
        rw [if_pos hh]
        split
        · rename_i hl
          cases acc with
          | nil => simp at hl
          | cons a acc => simp
        · simp
      · exact ih _ h
  exact main S [] hx
theorem upTo_get (n : Nat) (j : Nat) (h : j < n) : (upTo n)[j]? = some ((j : Int) + 1) := by simp [upTo, h]
theorem is_upTo (l : List Int) : (l == upTo l.length) = true ↔ ∀ j, j < l.length → l.getD j 0 = (j : Int) + 1 := by
  rw [beq_iff_eq]
  constructor
  · intro h j hj
    have h1 : l[j]? = (upTo l.length)[j]? := by rw [← h]
    rw [upTo_get _ j hj] at h1
    rw [List.getD_eq_getElem?_getD, h1]
    rfl
  · intro h
    apply List.ext_getElem?
    intro j
    by_cases hj : j < l.length
    · rw [upTo_get _ j hj, ← h j hj, List.getD_eq_getElem?_getD, List.getElem?_eq_getElem hj]
      rfl
    · rw [List.getElem?_eq_none (by omega), List.getElem?_eq_none (by simp [upTo]; omega)]
theorem rightB_not (f t : ByteArray) (S : List Said) (k : Nat) (hk : k < (sent f t S).length) (h : (sent f t S).getD k 0 ≠ (k : Int) + 1) : rightB f t S = false := by
  unfold rightB
  have : (sent f t S == upTo (sent f t S).length) = false := by
    rw [Bool.eq_false_iff]
    intro h1
    exact h ((is_upTo _).1 h1 k hk)
  rw [this]
  rfl
theorem rightB_some (f t : ByteArray) (S : List Said) (st : List (Int × Int)) (hst : statesOf f t S = some st) (h : ∀ j, j < (sent f t S).length → (sent f t S).getD j 0 = (j : Int) + 1) :
    rightB f t S = (lifeOf ((sent f t S).map fun n => (look st n).getD 0) != 0) := by
  unfold rightB
  rw [(is_upTo _).2 h, hst]
  rfl
theorem rightB_none (f t : ByteArray) (S : List Said) (hst : statesOf f t S = none) : rightB f t S = false := by
  unfold rightB
  rw [hst]
  simp

theorem wpList_lookup_nil {P : Program} (w : World) {ops : Array Oper} {rest : List Oper} {o : Oper} {a : Act} {Q : Exit → Act → World → Prop}
    (hg : o.guard = none) (m x : Operand) (t : TypeId) (hop : o.op = Op.lookup t m x false) (hm : a.eval m = .map none) (key v : Value) (hx : a.eval x = key)
    (hrun : (Instr.lookup t (.map none) key false).run P w = .ok v w) (hK : wpList P ops Q rest (a.put o.dst v) w) : wpList P ops Q (o :: rest) a w := by
  refine wpList_plain hg fun K' hK' => ?_
  unfold Oper.wp
  simp [execOp, hop, hm, hx, hrun, Result.andThen]
  exact hK' _ _ hK

def RightRel (w0 w2 : World) (L : List Int) (look' : Int → Int) (all i : Value) (wr : World) : Prop := ∃ k : Nat, k ≤ L.length ∧ i = .int .i64 k ∧ Below w2.heap.size w2 wr ∧
  wr.ownsRow w2.heap.size 3 1 all k (((L.take k).map look').map (Value.int .i64)) ∧ Hid (∀ j, j < k → L.getD j 0 = (j : Int) + 1)
theorem take_snoc {α : Type} (l : List α) (d : α) (k : Nat) (h : k < l.length) : l.take (k + 1) = l.take k ++ [l.getD k d] := by
  rw [List.take_add_one, List.getElem?_eq_getElem h, List.getD_eq_getElem?_getD, List.getElem?_eq_getElem h]
  rfl

set_option maxHeartbeats 8000000 in
theorem right_some (A0 : Option Addr) (c : Nat) (S : List Said) (hn : S.length ≤ 1000) (hwf : ∀ x ∈ S, (Lit.int .i64 x.m.u).wf = true ∧ (Lit.int .i64 x.m.s).wf = true) (f t : ByteArray) (st : List (Int × Int)) (hst : statesOf f t S = some st) (hne : 0 < (sent f t S).length) (w : World) (hS : RowOf Said.cells 11 w A0 S) :
    Calls Try.prog 55 #[.slice A0 S.length c, .agg #[.string f, .string t]] w fun e w' => e = .returned (.bool (rightB f t S)) ∧ Below w.heap.size w w' := by
  have HS := Lib.hid hS
  have HWF := Lib.hid hwf
  have HST := Lib.hid hst
  have hlen : (sent f t S).length ≤ 1000 := Nat.le_trans (sent_len f t S) hn
  clear hS hwf hst
  go_enter Try.func55, Try.ntmps55
  go_wp2_with fail
  have hb0 : Below w.heap.size w (w.alloc (Obj.cells #[Value.string f, Value.string t] 40)) := (Below.refl _ _).alloc (Nat.le_refl _) _
  refine (states_any A0 c S hn HWF.out f t _ (HS.out.below hb0)).mono ?_
  rintro e w1 hpost
  unfold StatesPost at hpost
  rw [HST.out] at hpost
  obtain ⟨⟨bm, nm, rfl, hbm, hM⟩, hb1⟩ := hpost
  have hbw1 : Below w.heap.size w w1 := below_step hb0 hb1
  have d0 : w1.cell? ⟨w.heap.size, 0, none⟩ = some (.string f) := cell_below hb1 (by rw [cell_new]; rfl)
  have d1 : w1.cell? ⟨w.heap.size, 1, none⟩ = some (.string t) := cell_below hb1 (by rw [cell_new]; rfl)
  clear hb0 hb1
  go_wp2_with fail
  refine (sent_any A0 c S hn f t w1 (HS.out.below hbw1)).mono ?_
  rintro e w2 ⟨v, rfl, hown, hb2⟩
  obtain ⟨g, cap, hv, _, _⟩ := hown.form hne
  subst hv
  have hbw2 : Below w.heap.size w w2 := below_step hbw1 hb2
  have hcells : Hid (∀ k, k < (sent f t S).length → w2.cell? ⟨g, k, none⟩ = some (.int .i64 ((sent f t S).getD k 0))) := by
    intro k hk
    have h := hown.cells (g := g) rfl k (.int .i64 ((sent f t S).getD k 0)) (by simp [List.getElem?_eq_getElem hk, List.getD_eq_getElem?_getD])
    have e : (⟨g, 0, none⟩ : Addr).add k = ⟨g, k, none⟩ := by unfold Addr.add; split <;> simp_all
    rwa [e] at h
  have hM2 := Lib.hid (hM.below hb2)
  clear hM
  clear hown d0 d1 hbw1 hb2
  have hRnot := Lib.hid (rightB_not f t S)
  have hRfin := Lib.hid (rightB_some f t S st HST.out)
  have hwn : Hid (∀ k, k < (sent f t S).length → (sent f t S).getD k 0 = (k : Int) + 1 → (Lit.int .i64 ((sent f t S).getD k 0)).wf = true) := by
    intro k hk h
    rw [h]
    exact WalkArith.wf_i64 (by omega)
  clear HST HS HWF hn
  generalize sent f t S = L at hne hlen hcells hRnot hRfin hwn ⊢
  go_wp2
  go_loopw [7, 20] (fun all i wr => RightRel w w2 L (fun n => (look st n).getD 0) all i wr) (fun _ i _ => L.length - (intOf i).toNat)
  case atStart => exact ⟨0, Nat.zero_le _, rfl, Below.refl _ _, World.ownsRow_nil _ _ _ _, fun j hj => absurd hj (by omega)⟩
  case round =>
    obtain ⟨k, hk, rfl, hb, hown, hall⟩ := hrel
    by_cases hlt : k < L.length
    · have hcl := cell_below hb (hcells.out k hlt)
      have hsn := Lib.hid (take_snoc L 0 k hlt)
      have hR := Lib.hid (hRnot.out k hlt)
      have hwk := Lib.hid (hwn.out k hlt)
      obtain ⟨nk, hnk0⟩ : ∃ x, x = L.getD k 0 := ⟨_, rfl⟩
      have HNK : Hid (L.getD k 0 = nk) := hnk0.symm
      rw [← hnk0] at hcl hsn hR hwk
      clear hnk0
      obtain ⟨A, cp, hv⟩ := own_slice hown
      subst hv
      have hownH := Lib.hid hown
      clear hown
      by_cases hnk : nk = (k : Int) + 1
      · have hnkb : (nk != (k : Int) + 1) = false := by rw [bne_eq_false_iff_eq]; exact hnk
        have hwk := Lib.hid (hwk.out hnk)
        have hnkH := Lib.hid hnk
        clear hnk
        obtain ⟨D, hownD0, hmapD, hallD⟩ := (hM2.out.below hb)
        have hownD := Lib.hid hownD0
        have hatk : Hid (D.atKey (.int .i64 nk) (.lit (.int .i64 0)) = .lit (.int .i64 ((look st nk).getD 0))) := (hallD nk hwk.out).2
        clear hownD0 hmapD hallD
        go_wp2_with (first
          | (at_lookup; refine wpList_lookup_own_int _ rfl _ _ 120 rfl 3 3 .i64 law3 Try.underlying120 Try.underlying3 (zero3 _) bm nm D rfl hownD.out (.int .i64 nk) _ (by rfl) (keyOf_int_mk Try.underlying3 hwk.out) ?_; intro c0 hat hwc; have hc0 : c0 = (look st nk).getD 0 := (by have h := hat.symm.trans hatk.out; injection h with h; injection h); clear hat hwc)
          | (at_builtin; refine app_one (w0 := w2) w2.heap.size rfl _ _ 22 3 (.int .i64 0) 1 8 rfl Try.underlying22 info3 rfl (by decide) (by decide) (.slice A k cp) k (((L.take k).map (fun n => (look st n).getD 0)).map (Value.int .i64)) [.int .i64 ((look st nk).getD 0)] (by rfl) (by rfl) rfl (by simp [Value.oneCell']) hownH.out hb hb.size (by omega) ?_; intro v1 w3 hown1 hb1 hg1 hat1))
        go_roundw
        case rel =>
          refine ⟨k + 1, by omega, by go_num, hb1, ?_, ?_⟩
          · rw [hsn.out]
            simpa using hown1
          · intro j hj
            by_cases e : j < k
            · exact hall.out j e
            · obtain rfl : j = k := by omega
              rw [HNK.out]
              exact hnkH.out
        case measure => simp [intOf]; omega
      · have hnkb : (nk != (k : Int) + 1) = true := by rw [bne_iff_ne]; exact hnk
        have hRf : Hid (rightB f t S = false) := hR.out hnk
        clear hnk
        go_wp2
        go_ret
        rw [hRf.out]
        exact ⟨rfl, below_step hbw2 hb⟩
    · have hke : k = L.length := by omega
      obtain ⟨A, cp, hv⟩ := own_slice hown
      subst hv
      have hrow := Lib.hid (own_introw hown).2
      have hla : ((L.take k).map (fun n => (look st n).getD 0)).length = k := by simp; omega
      have hallL : Hid (∀ j, j < L.length → L.getD j 0 = (j : Int) + 1) := by
        rw [← hke]
        exact hall.out
      have htk : Hid (L.take k = L) := by
        show _ = _
        rw [hke]
        exact List.take_of_length_le (Nat.le_refl _)
      have hk1 : k ≤ 1000 := by omega
      clear hown hke
      have hRf : Hid (rightB f t S = (lifeOf ((L.take k).map (fun n => (look st n).getD 0)) != 0)) := by
        show _ = _
        rw [htk.out]
        exact hRfin.out hallL.out
      generalize ((L.take k).map (fun n => (look st n).getD 0)) = LL at hrow hla hRf
      have hlife := Lib.hid (fun W (h : IntRow W A LL) => hla ▸ lifeOf_any A cp LL (by omega) W h)
      clear hla
      by_cases hl0 : lifeOf LL = 0
      · have hl0b : (lifeOf LL != 0) = false := by rw [bne_eq_false_iff_eq]; exact hl0
        have hl0H := Lib.hid hl0b
        go_wp2_with (go_at_call 69; refine (hlife.out _ hrow.out).mono ?_; rintro e w' ⟨rfl, rfl⟩)
        go_ret
        rw [hRf.out, hl0H.out]
        exact ⟨rfl, below_step hbw2 hb⟩
      · have hl0b : (lifeOf LL != 0) = true := by rw [bne_iff_ne]; exact hl0
        have hl0H := Lib.hid hl0b
        clear hl0
        go_wp2_with (go_at_call 69; refine (hlife.out _ hrow.out).mono ?_; rintro e w' ⟨rfl, rfl⟩)
        go_ret
        rw [hRf.out, hl0H.out]
        exact ⟨rfl, below_step hbw2 hb⟩
set_option maxHeartbeats 8000000 in
theorem right_none (A0 : Option Addr) (c : Nat) (S : List Said) (hn : S.length ≤ 1000) (hwf : ∀ x ∈ S, (Lit.int .i64 x.m.u).wf = true ∧ (Lit.int .i64 x.m.s).wf = true) (f t : ByteArray) (hst : statesOf f t S = none) (hne : 0 < (sent f t S).length) (w : World) (hS : RowOf Said.cells 11 w A0 S) :
    Calls Try.prog 55 #[.slice A0 S.length c, .agg #[.string f, .string t]] w fun e w' => e = .returned (.bool (rightB f t S)) ∧ Below w.heap.size w w' := by
  have HS := Lib.hid hS
  have HWF := Lib.hid hwf
  have HST := Lib.hid hst
  have hlen : (sent f t S).length ≤ 1000 := Nat.le_trans (sent_len f t S) hn
  clear hS hwf hst
  go_enter Try.func55, Try.ntmps55
  go_wp2_with fail
  have hb0 : Below w.heap.size w (w.alloc (Obj.cells #[Value.string f, Value.string t] 40)) := (Below.refl _ _).alloc (Nat.le_refl _) _
  refine (states_any A0 c S hn HWF.out f t _ (HS.out.below hb0)).mono ?_
  rintro e w1 hpost
  unfold StatesPost at hpost
  rw [HST.out] at hpost
  obtain ⟨rfl, hb1⟩ := hpost
  have hbw1 : Below w.heap.size w w1 := below_step hb0 hb1
  have d0 : w1.cell? ⟨w.heap.size, 0, none⟩ = some (.string f) := cell_below hb1 (by rw [cell_new]; rfl)
  have d1 : w1.cell? ⟨w.heap.size, 1, none⟩ = some (.string t) := cell_below hb1 (by rw [cell_new]; rfl)
  clear hb0 hb1
  go_wp2_with fail
  refine (sent_any A0 c S hn f t w1 (HS.out.below hbw1)).mono ?_
  rintro e w2 ⟨v, rfl, hown, hb2⟩
  obtain ⟨g, cap, hv, _, _⟩ := hown.form hne
  subst hv
  have hbw2 : Below w.heap.size w w2 := below_step hbw1 hb2
  have hcells : Hid (∀ k, k < (sent f t S).length → w2.cell? ⟨g, k, none⟩ = some (.int .i64 ((sent f t S).getD k 0))) := by
    intro k hk
    have h := hown.cells (g := g) rfl k (.int .i64 ((sent f t S).getD k 0)) (by simp [List.getElem?_eq_getElem hk, List.getD_eq_getElem?_getD])
    have e : (⟨g, 0, none⟩ : Addr).add k = ⟨g, k, none⟩ := by unfold Addr.add; split <;> simp_all
    rwa [e] at h
  clear hown d0 d1 hbw1 hb2
  have hRnot := Lib.hid (rightB_not f t S)
  have hRfin := Lib.hid (rightB_none f t S HST.out)
  have hwn : Hid (∀ k, k < (sent f t S).length → (sent f t S).getD k 0 = (k : Int) + 1 → (Lit.int .i64 ((sent f t S).getD k 0)).wf = true) := by
    intro k hk h
    rw [h]
    exact WalkArith.wf_i64 (by omega)
  clear HST HS HWF hn
  generalize sent f t S = L at hne hlen hcells hRnot hRfin hwn ⊢
  go_wp2
  go_loopw [7, 20] (fun all i wr => RightRel w w2 L (fun _ => 0) all i wr) (fun _ i _ => L.length - (intOf i).toNat)
  case atStart => exact ⟨0, Nat.zero_le _, rfl, Below.refl _ _, World.ownsRow_nil _ _ _ _, fun j hj => absurd hj (by omega)⟩
  case round =>
    obtain ⟨k, hk, rfl, hb, hown, hall⟩ := hrel
    by_cases hlt : k < L.length
    · have hcl := cell_below hb (hcells.out k hlt)
      have hsn := Lib.hid (take_snoc L 0 k hlt)
      have hR := Lib.hid (hRnot.out k hlt)
      have hwk := Lib.hid (hwn.out k hlt)
      obtain ⟨nk, hnk0⟩ : ∃ x, x = L.getD k 0 := ⟨_, rfl⟩
      have HNK : Hid (L.getD k 0 = nk) := hnk0.symm
      rw [← hnk0] at hcl hsn hR hwk
      clear hnk0
      obtain ⟨A, cp, hv⟩ := own_slice hown
      subst hv
      have hownH := Lib.hid hown
      clear hown
      by_cases hnk : nk = (k : Int) + 1
      · have hnkb : (nk != (k : Int) + 1) = false := by rw [bne_eq_false_iff_eq]; exact hnk
        have hwk := Lib.hid (hwk.out hnk)
        have hnkH := Lib.hid hnk
        clear hnk
        go_wp2_with (first
          | (at_lookup; refine wpList_lookup_nil _ rfl _ _ 120 rfl (by rfl) (.int .i64 nk) (.int .i64 0) (by rfl) (by have h := Maps.look_nil (P := Try.prog) (w := wr) false law3 Try.underlying120 (zero3 _) (keyOf_int_mk Try.underlying3 hwk.out); simpa using h) ?_)
          | (at_builtin; refine app_one (w0 := w2) w2.heap.size rfl _ _ 22 3 (.int .i64 0) 1 8 rfl Try.underlying22 info3 rfl (by decide) (by decide) (.slice A k cp) k (((L.take k).map (fun _ => 0)).map (Value.int .i64)) [.int .i64 (0)] (by rfl) (by rfl) rfl (by simp [Value.oneCell']) hownH.out hb hb.size (by omega) ?_; intro v1 w3 hown1 hb1 hg1 hat1))
        go_roundw
        case rel =>
          refine ⟨k + 1, by omega, by go_num, hb1, ?_, ?_⟩
          · rw [hsn.out]
            simpa using hown1
          · intro j hj
            by_cases e : j < k
            · exact hall.out j e
            · obtain rfl : j = k := by omega
              rw [HNK.out]
              exact hnkH.out
        case measure => simp [intOf]; omega
      · have hnkb : (nk != (k : Int) + 1) = true := by rw [bne_iff_ne]; exact hnk
        have hRf : Hid (rightB f t S = false) := hR.out hnk
        clear hnk
        go_wp2
        go_ret
        rw [hRf.out]
        exact ⟨rfl, below_step hbw2 hb⟩
    · have hke : k = L.length := by omega
      obtain ⟨A, cp, hv⟩ := own_slice hown
      subst hv
      have hrow := Lib.hid (own_introw hown).2
      have hla : ((L.take k).map (fun _ => 0)).length = k := by simp; omega
      have hallL : Hid (∀ j, j < L.length → L.getD j 0 = (j : Int) + 1) := by
        rw [← hke]
        exact hall.out
      have htk : Hid (L.take k = L) := by
        show _ = _
        rw [hke]
        exact List.take_of_length_le (Nat.le_refl _)
      have hk1 : k ≤ 1000 := by omega
      clear hown hke
      go_wp2
      go_ret
      rw [show rightB f t S = false from hRfin.out]
      exact ⟨rfl, below_step hbw2 hb⟩

theorem right_any (A0 : Option Addr) (c : Nat) (S : List Said) (hn : S.length ≤ 1000) (hwf : ∀ x ∈ S, (Lit.int .i64 x.m.u).wf = true ∧ (Lit.int .i64 x.m.s).wf = true) (f t : ByteArray) (hne : 0 < (sent f t S).length) (w : World) (hS : RowOf Said.cells 11 w A0 S) :
    Calls Try.prog 55 #[.slice A0 S.length c, .agg #[.string f, .string t]] w fun e w' => e = .returned (.bool (rightB f t S)) ∧ Below w.heap.size w w' := by
  cases h : statesOf f t S with
  | none => exact right_none A0 c S hn hwf f t h hne w hS
  | some st => exact right_some A0 c S hn hwf f t st h hne w hS

theorem streams_not (S : List Said) (k : Nat) (x : Said) (hx : S[k]? = some x) (hk : x.m.k = 11) (hr : rightB x.m.f x.m.t S = false) : streamsB S = false := by
  unfold streamsB
  rw [Bool.eq_false_iff]
  intro h
  have := List.all_eq_true.1 h x (List.mem_of_getElem? hx)
  rw [hr, hk] at this
  exact absurd this (by decide)
theorem streams_all (S : List Said) (h : ∀ (j : Nat) (x : Said), S[j]? = some x → (!(x.m.k == 11) || rightB x.m.f x.m.t S) = true) : streamsB S = true := by
  unfold streamsB
  refine List.all_eq_true.2 fun x hx => ?_
  obtain ⟨j, hj⟩ := List.getElem?_of_mem hx
  exact h j x hj
theorem streams_nil (A : Option Addr) (c : Nat) (w : World) : Calls Try.prog 34 #[.slice A 0 c] w fun e w' => e = .returned (.bool true) ∧ Below w.heap.size w w' := by
  go_enter Try.func34, Try.ntmps34
  go_wp2
  go_loopw [7] (fun i wr => i = .int .i64 0 ∧ w = wr) (fun _ _ => 0)
  case atStart => exact ⟨rfl, rfl⟩
  case round =>
    obtain ⟨rfl, rfl⟩ := hrel
    go_wp2
    go_ret
    exact ⟨rfl, Below.refl _ _⟩
def StreamsRel (w : World) (S : List Said) (i : Value) (wr : World) : Prop := ∃ k : Nat, k ≤ S.length ∧ i = .int .i64 k ∧ Below w.heap.size w wr ∧ Hid (∀ (j : Nat) (x : Said), j < k → S[j]? = some x → (!(x.m.k == 11) || rightB x.m.f x.m.t S) = true)
set_option maxHeartbeats 8000000 in
theorem streams_some (b o c : Nat) (S : List Said) (hn : S.length ≤ 1000) (hwf : ∀ x ∈ S, (Lit.int .i64 x.m.u).wf = true ∧ (Lit.int .i64 x.m.s).wf = true) (w : World) (hS : RowOf Said.cells 11 w (some ⟨b, o, none⟩) S) :
    Calls Try.prog 34 #[.slice (some ⟨b, o, none⟩) S.length c] w fun e w' => e = .returned (.bool (streamsB S)) ∧ Below w.heap.size w w' := by
  have HS := Lib.hid hS
  have HWF := Lib.hid hwf
  clear hS hwf
  go_enter Try.func34, Try.ntmps34
  go_wp2
  go_loopw [7] (fun i wr => StreamsRel w S i wr) (fun i _ => S.length - (intOf i).toNat)
  case atStart => exact ⟨0, Nat.zero_le _, rfl, Below.refl _ _, fun j x h => absurd h (by omega)⟩
  case round =>
    obtain ⟨k, hk, rfl, hb, hall⟩ := hrel
    by_cases hlt : k < S.length
    · obtain ⟨x, hx⟩ : ∃ x, S[k]? = some x := ⟨_, List.getElem?_eq_getElem hlt⟩
      obtain ⟨b', o', hA0, hcs⟩ := HS.out (by omega)
      cases hA0
      have hc : ∀ (j : Nat) (v : Value), (Said.cells x)[j]? = some v → wr.cell? ⟨b, o + k * 11 + j, none⟩ = some v := fun j v h => cell_below hb (hcs k x hx j v h)
      have hxH := Lib.hid hx
      clear hx hcs
      obtain ⟨⟨xk, xf, xe, xt, xn, xs, xu, xp, xA, xil, xic⟩, ep, now⟩ := x
      have c0 : wr.cell? ⟨b, o + k * 11, none⟩ = some (.int .i64 xk) := hc 0 _ rfl
      have c1 : wr.cell? ⟨b, o + k * 11 + 1, none⟩ = some (.string xf) := hc 1 _ rfl
      have c2 : wr.cell? ⟨b, o + k * 11 + 2, none⟩ = some (.string xe) := hc 2 _ rfl
      have c3 : wr.cell? ⟨b, o + k * 11 + 3, none⟩ = some (.string xt) := hc 3 _ rfl
      have c4 : wr.cell? ⟨b, o + k * 11 + 4, none⟩ = some (.int .i64 xn) := hc 4 _ rfl
      have c5 : wr.cell? ⟨b, o + k * 11 + 5, none⟩ = some (.int .i64 xs) := hc 5 _ rfl
      have c6 : wr.cell? ⟨b, o + k * 11 + 6, none⟩ = some (.int .i64 xu) := hc 6 _ rfl
      have c7 : wr.cell? ⟨b, o + k * 11 + 7, none⟩ = some (.int .i64 xp) := hc 7 _ rfl
      have c8 : wr.cell? ⟨b, o + k * 11 + 8, none⟩ = some (.slice xA xil xic) := hc 8 _ rfl
      have c9 : wr.cell? ⟨b, o + k * 11 + 9, none⟩ = some (.int .i64 ep) := hc 9 _ rfl
      have c10 : wr.cell? ⟨b, o + k * 11 + 10, none⟩ = some (.int .i64 now) := hc 10 _ rfl
      clear hc
      by_cases h11 : xk = 11
      · have h11b : (xk == 11) = true := by simpa using h11
        have h11H := Lib.hid h11
        clear h11
        have hpos : Hid (0 < (sent xf xt S).length) := sent_pos xf xt S _ (List.mem_of_getElem? hxH.out) (by unfold hit; simp [h11H.out])
        go_wp2_with fail
        refine (key_any ⟨xk, xf, xe, xt, xn, xs, xu, xp, xA, xil, xic⟩ _).mono ?_
        rintro e w1 ⟨rfl, hb1⟩
        have hbw1 : Below w.heap.size w w1 := below_step (below_alloc hb _) hb1
        clear c0 c1 c2 c3 c4 c5 c6 c7 c8 c9 c10 hb1
        by_cases hr : rightB xf xt S = true
        · go_wp2_with fail
          refine (right_any _ c S hn HWF.out xf xt hpos.out w1 (HS.out.below hbw1)).mono ?_
          rintro e w2 ⟨rfl, hb2⟩
          have hbw2 : Below w.heap.size w w2 := below_step hbw1 hb2
          clear hb2 hbw1
          go_wp2
          go_roundw
          case rel =>
            refine ⟨k + 1, by omega, by go_num, hbw2, ?_⟩
            intro j x hj hx
            by_cases e : j < k
            · exact hall.out j x e hx
            · obtain rfl : j = k := by omega
              rw [hxH.out] at hx
              cases hx
              simp [hr]
          case measure => simp [intOf]; omega
        · have hrb : rightB xf xt S = false := by simpa using hr
          have hfin := Lib.hid (streams_not S k _ hxH.out h11H.out hrb)
          clear hr
          go_wp2_with fail
          refine (right_any _ c S hn HWF.out xf xt hpos.out w1 (HS.out.below hbw1)).mono ?_
          rintro e w2 ⟨rfl, hb2⟩
          have hbw2 : Below w.heap.size w w2 := below_step hbw1 hb2
          clear hb2 hbw1
          go_wp2
          go_ret
          rw [hfin.out]
          exact ⟨rfl, hbw2⟩
      · have h11b : (xk == 11) = false := by simpa using h11
        have h11H := Lib.hid h11
        clear h11
        go_wp2
        go_roundw
        case rel =>
          refine ⟨k + 1, by omega, by go_num, below_alloc hb _, ?_⟩
          intro j x hj hx
          by_cases e : j < k
          · exact hall.out j x e hx
          · obtain rfl : j = k := by omega
            rw [hxH.out] at hx
            cases hx
            have := h11H.out
            simp [this]
        case measure => simp [intOf]; omega
    · have hfin : Hid (streamsB S = true) := streams_all S fun j x hx => hall.out j x (by have := (List.getElem?_eq_some_iff.1 hx).1; omega) hx
      go_wp2
      go_ret
      rw [hfin.out]
      exact ⟨rfl, hb⟩
theorem streams_any (A : Option Addr) (c : Nat) (S : List Said) (hn : S.length ≤ 1000) (hwf : ∀ x ∈ S, (Lit.int .i64 x.m.u).wf = true ∧ (Lit.int .i64 x.m.s).wf = true) (w : World) (hS : RowOf Said.cells 11 w A S) :
    Calls Try.prog 34 #[.slice A S.length c] w fun e w' => e = .returned (.bool (streamsB S)) ∧ Below w.heap.size w w' := by
  rcases Nat.eq_zero_or_pos S.length with h0 | h0
  · obtain rfl := List.eq_nil_of_length_eq_zero h0
    exact streams_nil A c w
  · obtain ⟨b, o, rfl, _⟩ := hS h0
    exact streams_some b o c S hn hwf w hS

end Go.Proofs.Ytbmegoemimfiaaa

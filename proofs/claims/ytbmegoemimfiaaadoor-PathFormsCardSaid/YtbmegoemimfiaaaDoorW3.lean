/-
  the document's own names; paths: the walks.
-/
import Derived.Test.YtbmegoemimfiaaaDoorRows
import Derived.Test.YtbmegoemimfiaaaDoorW2
import Derived.WalkKit
import Derived.WalkSpells
import Derived.WalkLawsBesides
import Derived.Outline
import Derived.Laws.StructEq
import Derived.Deep.Light
import Derived.Deep.QuietTactic
import Derived.BigQuiet
import Derived.Lib.Hide
namespace Go.Proofs.YtbmegoemimfiaaaDoor
open Go Go.RowKit Go.Shelf
set_option maxRecDepth 100000
set_option linter.unusedVariables false
set_option linter.unusedSimpArgs false

theorem rightB_bad (s : ByteArray) (k : Nat) (hk : k < s.size) (h : okc s[k] = false) : rightB s = false := by
  unfold rightB
  have : s.data.toList.all okc = false := by
    rw [List.all_eq_false]
    refine ⟨s[k], ?_, by rw [h]; simp⟩
    have : s[k] = s.data.toList[k]'(by simpa using hk) := rfl
    rw [this]
    exact List.getElem_mem _
  rw [this]
  simp
theorem take_snocB (s : ByteArray) (k : Nat) (h : k < s.size) : s.data.toList.take (k + 1) = s.data.toList.take k ++ [s[k]] := by
  rw [List.take_succ_eq_append_getElem (by simpa using h)]; rfl
set_option maxHeartbeats 4000000 in
theorem refRight_any (s : ByteArray) (hs : s.size ≤ 9223372036854775807) (w : World) : Calls Tryd.prog 24 #[.string s] w fun e w' => e = .returned (.bool (rightB s)) ∧ w = w' := by
  go_enter Tryd.func24, Tryd.ntmps24
  go_wp2
  go_loop [3] (fun i => ∃ k : Nat, k ≤ s.size ∧ i = .int .i64 k ∧ Hid ((s.data.toList.take k).all okc = true)) (fun i => s.size - (intOf i).toNat)
  case atStart => exact ⟨0, Nat.zero_le _, rfl, rfl⟩
  case round =>
    obtain ⟨k, hk, rfl, hall⟩ := hrel
    by_cases hlt : k < s.size
    · have hb := Lib.hid (rightB_bad s k hlt)
      have hsn := Lib.hid (take_snocB s k hlt)
      have ho : Hid (okc s[k] = ((decide (97 ≤ s[k].toNat) && decide (s[k].toNat ≤ 122)) || (decide (48 ≤ s[k].toNat) && decide (s[k].toNat ≤ 57)))) := rfl
      go_wp2
      all_goals first
        | (go_round
           case rel =>
             refine ⟨k + 1, by omega, by go_num, ?_⟩
             have e : okc s[k] = true := by
               rw [ho.out]
               simp only [Bool.or_eq_true, Bool.and_eq_true, decide_eq_true_eq]
               try (simp only [Bool.not_eq_true', Bool.not_eq_false', decide_eq_false_iff_not, decide_eq_true_eq] at *)
               omega
             show _ = _
             rw [hsn.out, List.all_append, hall.out]
             simp [e]
           case measure => simp [intOf]; omega)
        | (have e : okc s[k] = false := by
             rw [ho.out]
             simp only [Bool.or_eq_false_iff, Bool.and_eq_false_iff, decide_eq_false_iff_not]
             try (simp only [Bool.not_eq_true', Bool.not_eq_false', decide_eq_false_iff_not, decide_eq_true_eq] at *)
             omega
           go_ret
           rw [hb.out e]
           exact ⟨rfl, rfl⟩)
    · have hfin : Hid (rightB s = (decide (1 ≤ s.size) && decide (s.size ≤ 8))) := by
        show _ = _
        have h := hall.out
        rw [List.take_of_length_le (by simp; omega)] at h
        unfold rightB
        rw [h]
        simp
      go_wp2
      · have h1 : 1 ≤ s.size := by omega
        go_ret
        rw [hfin.out, decide_eq_true h1]
        refine ⟨?_, rfl⟩
        show Ending.returned (Value.bool (decide ((s.size : Int) ≤ 8))) = _
        rw [Bool.true_and]
        congr 2
        exact decide_eq_decide.2 (by omega)
      · have h1 : ¬ 1 ≤ s.size := by omega
        go_ret
        rw [hfin.out, decide_eq_false h1]
        exact ⟨rfl, rfl⟩
theorem twoS_none (n : Int) (h : ¬ (1 ≤ n ∧ n ≤ 24)) : twoS n = ⟨#[]⟩ := if_neg h
theorem twoS_some (n : Int) (h : 1 ≤ n ∧ n ≤ 24) : (twoS n).size = 2 ∧ (twoS n).toList.isEmpty = false := by
  have e : twoS n = ⟨#[UInt8.ofNat (48 + n.toNat / 10), UInt8.ofNat (48 + n.toNat % 10)]⟩ := if_pos h
  have hs : (twoS n).size = 2 := by rw [e]; rfl
  refine ⟨hs, ?_⟩
  rw [empty_spell, hs]
  rfl
def admitS (n : Int) : ByteArray := if 1 ≤ n ∧ n ≤ 24 then ⟨#[97, 100, 109, 105, 116, 47]⟩ ++ twoS n else ⟨#[]⟩
set_option maxHeartbeats 1000000 in
theorem admit_any (n : Int) (w : World) : Calls Tryd.prog 6 #[.int .i64 n] w fun e w' => e = .returned (.string (admitS n)) ∧ w = w' := by
  by_cases h : 1 ≤ n ∧ n ≤ 24
  · have hr : Hid (admitS n = ⟨#[97, 100, 109, 105, 116, 47]⟩ ++ twoS n) := if_pos h
    obtain ⟨hsz, hem⟩ := twoS_some n h
    have hc := fun w => Lib.hid (two_any n w)
    clear h
    generalize twoS n = D at hr hem hc hsz
    go_enter Tryd.func6, Tryd.ntmps6
    go_wp2_with fail
    refine (hc w).out.mono ?_
    rintro e w1 ⟨rfl, rfl⟩
    go_wp2_with fail
    refine (hc w).out.mono ?_
    rintro e w1 ⟨rfl, rfl⟩
    go_wp2
    go_ret
    rw [hr.out]
    exact ⟨rfl, rfl⟩
  · have hr : Hid (admitS n = ⟨#[]⟩) := if_neg h
    have hc := Lib.hid (two_any n w)
    rw [twoS_none n h] at hc
    clear h
    go_enter Tryd.func6, Tryd.ntmps6
    go_wp2_with fail
    refine hc.out.mono ?_
    rintro e w1 ⟨rfl, rfl⟩
    go_wp2
    go_ret
    rw [hr.out]
    exact ⟨rfl, rfl⟩
set_option maxHeartbeats 1000000 in
theorem refAdmit_any (n : Int) (w : World) : Calls Tryd.prog 14 #[.int .i64 n] w fun e w' => e = .returned (.string (admitS n)) ∧ Below w.heap.size w w' := by
  by_cases h : 1 ≤ n ∧ n ≤ 24
  · have hr : Hid (admitS n = ⟨#[97, 100, 109, 105, 116, 47]⟩ ++ twoS n) := if_pos h
    obtain ⟨hsz, hem⟩ := twoS_some n h
    have hc := fun w => Lib.hid (refTwo_any n w)
    clear h
    generalize twoS n = D at hr hem hc hsz
    go_enter Tryd.func14, Tryd.ntmps14
    go_wp2_with fail
    refine (hc w).out.mono ?_
    rintro e w1 ⟨rfl, hb1⟩
    go_wp2_with fail
    refine (hc w1).out.mono ?_
    rintro e w2 ⟨rfl, hb2⟩
    go_wp2
    go_ret
    rw [hr.out]
    exact ⟨rfl, below_step hb1 hb2⟩
  · have hr : Hid (admitS n = ⟨#[]⟩) := if_neg h
    have hc := Lib.hid (refTwo_any n w)
    rw [twoS_none n h] at hc
    clear h
    go_enter Tryd.func14, Tryd.ntmps14
    go_wp2_with fail
    refine hc.out.mono ?_
    rintro e w1 ⟨rfl, hb1⟩
    go_wp2
    go_ret
    rw [hr.out]
    exact ⟨rfl, hb1⟩
def logS (f t : ByteArray) : ByteArray := if (rightB f && rightB t) = true then (⟨#[108, 111, 103, 47]⟩ ++ f ++ ⟨#[47]⟩) ++ t else ⟨#[]⟩
set_option maxHeartbeats 1000000 in
theorem key_any (f t : ByteArray) (hf : f.size ≤ 1000) (ht : t.size ≤ 1000) (w : World) : Calls Tryd.prog 19 #[.agg #[.string f, .string t]] w fun e w' => e = .returned (.bool (rightB f && rightB t)) ∧ Below w.heap.size w w' := by
  have hcf := fun w => Lib.hid (right_any f (by omega) w)
  have hct := fun w => Lib.hid (right_any t (by omega) w)
  generalize rightB f = bf at hcf ⊢
  generalize rightB t = bt at hct ⊢
  go_enter Tryd.func19, Tryd.ntmps19
  go_wp2_with fail
  generalize hW : w.alloc _ = W1
  have q1 : W1.cell? ⟨w.heap.size, 1, none⟩ = some (.string t) := by rw [← hW, cell_new]; rfl
  have hb0 : Below w.heap.size w W1 := by rw [← hW]; exact below_alloc (Below.refl _ _) _
  clear hW
  refine (hcf W1).out.mono ?_
  rintro e w1 ⟨rfl, hb1⟩
  replace q1 := cell_below hb1 q1
  have hb2 := below_step hb0 hb1
  cases bf with
  | false =>
    go_wp2
    go_ret
    exact ⟨rfl, hb2⟩
  | true =>
    go_wp2_with fail
    refine (hct w1).out.mono ?_
    rintro e w2 ⟨rfl, hb3⟩
    go_wp2
    go_ret
    exact ⟨rfl, below_step hb2 hb3⟩
set_option maxHeartbeats 1000000 in
theorem log_any (f t : ByteArray) (hf : f.size ≤ 1000) (ht : t.size ≤ 1000) (w : World) : Calls Tryd.prog 7 #[.agg #[.string f, .string t]] w fun e w' => e = .returned (.string (logS f t)) ∧ Below w.heap.size w w' := by
  have hck := fun w => Lib.hid (key_any f t hf ht w)
  have hr : Hid (logS f t = if (rightB f && rightB t) = true then (⟨#[108, 111, 103, 47]⟩ ++ f ++ ⟨#[47]⟩) ++ t else ⟨#[]⟩) := rfl
  generalize (rightB f && rightB t) = q at hck hr
  go_enter Tryd.func7, Tryd.ntmps7
  go_wp2_with fail
  generalize hW : w.alloc _ = W1
  have q0 : W1.cell? ⟨w.heap.size, 0, none⟩ = some (.string f) := by rw [← hW, cell_new]; rfl
  have q1 : W1.cell? ⟨w.heap.size, 1, none⟩ = some (.string t) := by rw [← hW, cell_new]; rfl
  have hb0 : Below w.heap.size w W1 := by rw [← hW]; exact below_alloc (Below.refl _ _) _
  clear hW
  refine (hck W1).out.mono ?_
  rintro e w1 ⟨rfl, hb1⟩
  replace q0 := cell_below hb1 q0
  replace q1 := cell_below hb1 q1
  have hb2 := below_step hb0 hb1
  cases q with
  | false =>
    go_wp2
    go_ret
    rw [hr.out]
    exact ⟨rfl, hb2⟩
  | true =>
    go_wp2
    go_ret
    rw [hr.out]
    exact ⟨rfl, hb2⟩
set_option maxHeartbeats 1000000 in
theorem refLog_any (f t : ByteArray) (hf : f.size ≤ 1000) (ht : t.size ≤ 1000) (w : World) : Calls Tryd.prog 15 #[.agg #[.string f, .string t]] w fun e w' => e = .returned (.string (logS f t)) ∧ Below w.heap.size w w' := by
  have hcf := fun w => Lib.hid (refRight_any f (by omega) w)
  have hct := fun w => Lib.hid (refRight_any t (by omega) w)
  have hr : Hid (logS f t = if (rightB f && rightB t) = true then (⟨#[108, 111, 103, 47]⟩ ++ f ++ ⟨#[47]⟩) ++ t else ⟨#[]⟩) := rfl
  generalize rightB f = bf at hcf hr
  generalize rightB t = bt at hct hr
  go_enter Tryd.func15, Tryd.ntmps15
  go_wp2_with fail
  generalize hW : w.alloc _ = W1
  have q0 : W1.cell? ⟨w.heap.size, 0, none⟩ = some (.string f) := by rw [← hW, cell_new]; rfl
  have q1 : W1.cell? ⟨w.heap.size, 1, none⟩ = some (.string t) := by rw [← hW, cell_new]; rfl
  have hb0 : Below w.heap.size w W1 := by rw [← hW]; exact below_alloc (Below.refl _ _) _
  clear hW
  refine (hcf W1).out.mono ?_
  rintro e w1 ⟨rfl, rfl⟩
  cases bf with
  | false =>
    go_wp2
    go_ret
    rw [hr.out]
    exact ⟨rfl, hb0⟩
  | true =>
    go_wp2_with fail
    refine (hct W1).out.mono ?_
    rintro e w2 ⟨rfl, rfl⟩
    cases bt with
    | false =>
      go_wp2
      go_ret
      rw [hr.out]
      exact ⟨rfl, hb0⟩
    | true =>
      go_wp2
      go_ret
      rw [hr.out]
      exact ⟨rfl, hb0⟩
end Go.Proofs.YtbmegoemimfiaaaDoor

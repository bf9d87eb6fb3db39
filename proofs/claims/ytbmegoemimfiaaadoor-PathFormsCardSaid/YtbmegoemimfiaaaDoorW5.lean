/-
  helps of the statements; the wakes of chapter 6: the walks.
-/
import Derived.Test.YtbmegoemimfiaaaDoorRows
import Derived.Test.YtbmegoemimfiaaaDoorW4
import Derived.WalkKit
import Derived.WalkSpells
import Derived.WalkLawsBesides
import Derived.Outline
import Derived.Laws.StructEq
import Derived.Deep.Light
import Derived.Deep.QuietTactic
import Derived.BigQuiet
import Derived.Lib.Hide
namespace Go.Proofs.YtbmegoemimfiaaaDoor
open Go Go.RowKit Go.Shelf
set_option maxRecDepth 100000
set_option linter.unusedVariables false
set_option linter.unusedSimpArgs false

set_option maxHeartbeats 1000000 in
theorem within_any (v n : Int) (h1 : 1 ≤ n) (h2 : n ≤ 1000) (w : World) : Calls Tryd.prog 5 #[.int .i64 v, .int .i64 n] w fun e w' => e = .returned (.int .i64 (v % n)) ∧ w = w' := by
  have c0 : decide (n < 1) = false := decide_eq_false (by omega)
  have c1 : (n == 0) = false := by rw [beq_eq_false_iff_ne]; omega
  have c2 : (n != 0) = true := by rw [bne_iff_ne]; omega
  have hl : Int.tmod v n < n := Int.tmod_lt_of_pos v (by omega)
  have hg : -n < Int.tmod v n := by have := Int.lt_tmod_of_pos v (show 0 < n by omega); omega
  by_cases h : Int.tmod v n < 0
  · have hb : decide (Int.tmod v n < 0) = true := decide_eq_true h
    have hw : wrap64 (Int.tmod v n + n) = Int.tmod v n + n := by unfold wrap64; omega
    have hfin : Hid (wrap64 (Int.tmod v n + n) = v % n) := by
      show wrap64 _ = _
      rw [hw]
      rcases Int.lt_or_le v 0 with hv | hv
      · rw [Int.tmod_eq_emod] at h ⊢
        split at h <;> split <;> first | omega | (simp_all; omega)
      · rw [Int.tmod_eq_emod_of_nonneg hv] at h
        have := Int.emod_nonneg v (show n ≠ 0 by omega)
        omega
    clear hw hl hg h
    go_enter Tryd.func5, Tryd.ntmps5
    go_wp2
    go_ret
    refine ⟨?_, rfl⟩
    rw [← hfin.out]
    rfl
  · have hb : decide (Int.tmod v n < 0) = false := decide_eq_false h
    have hfin : Hid (Int.tmod v n = v % n) := by
      show _ = _
      rcases Int.lt_or_le v 0 with hv | hv
      · rw [Int.tmod_eq_emod] at h ⊢
        have := Int.emod_nonneg v (show n ≠ 0 by omega)
        have := Int.emod_lt_of_pos v (show 0 < n by omega)
        split at h <;> split <;> first | omega | (simp_all; omega)
      · exact Int.tmod_eq_emod_of_nonneg hv
    clear hl hg h
    go_enter Tryd.func5, Tryd.ntmps5
    go_wp2
    go_ret
    refine ⟨?_, rfl⟩
    rw [← hfin.out]
    rfl
theorem isTemp_last (s : ByteArray) (h : 0 < s.size) : isTempB s = (((s[s.size - 1]'(by omega)).toNat : Int) == 126) := by
  unfold isTempB Lib.hasSuffix
  have hne : s.data.toList ≠ [] := by
    intro he
    have : s.data.toList.length = 0 := by rw [he]; rfl
    have h2 : s.data.toList.length = s.size := by simp
    omega
  have hl : s.data.toList.getLast hne = s[s.size - 1]'(by omega) := by
    rw [List.getLast_eq_getElem]
    rfl
  rw [Bool.eq_iff_iff, List.isSuffixOf_iff_suffix, beq_iff_eq]
  constructor
  · rintro ⟨t, ht⟩
    have : s.data.toList.getLast hne = 126 := by
      have h3 : (t ++ [126]).getLast (by simp) = 126 := by simp
      rw [← h3]
      congr 1
      exact ht.symm
    rw [← hl, this]
    rfl
  · intro h3
    have h4 : s.data.toList.getLast hne = 126 := by
      rw [hl]
      apply UInt8.toNat_inj.1
      have : (126 : UInt8).toNat = 126 := rfl
      omega
    exact ⟨s.data.toList.dropLast, by rw [← h4]; exact List.dropLast_concat_getLast hne⟩
theorem isTemp_empty (s : ByteArray) (h : s.size = 0) : isTempB s = false := by
  have : s.data.toList = [] := List.eq_nil_of_length_eq_zero (by simpa using h)
  unfold isTempB Lib.hasSuffix
  rw [this]
  rfl
set_option maxHeartbeats 1000000 in
theorem refIsTemp_any (s : ByteArray) (hs : s.size ≤ 1000000000000000001) (w : World) : Calls Tryd.prog 17 #[.string s] w fun en w' => en = .returned (.bool (isTempB s)) ∧ w = w' := by
  by_cases h0 : s.size = 0
  · have hr := Lib.hid (isTemp_empty s h0)
    go_enter Tryd.func17, Tryd.ntmps17
    go_wp2
    go_ret
    rw [hr.out]
    exact ⟨rfl, rfl⟩
  · have hp : 0 < s.size := by omega
    have hr := Lib.hid (isTemp_last s hp)
    clear h0
    go_enter Tryd.func17, Tryd.ntmps17
    go_wp2
    go_ret
    rw [hr.out]
    exact ⟨rfl, rfl⟩
set_option maxHeartbeats 1000000 in
theorem epoch_any (w : World) : Calls Tryd.prog 22 #[] w fun en w' => en = .returned (.string ⟨#[101, 112, 111, 99, 104]⟩) ∧ w = w' := by
  go_enter Tryd.func22, Tryd.ntmps22
  go_wp2
  go_ret
  exact ⟨rfl, rfl⟩
theorem admit3 : admitS 3 = ⟨#[97, 100, 109, 105, 116, 47, 48, 51]⟩ := ba_ext (by decide +kernel)
set_option maxHeartbeats 1000000 in
theorem wakes06 (w : World) : Calls Tryd.prog 12 #[] w fun en w' => en = .returned (.bool true) ∧ w = w' := by
  have hc := Lib.hid (admit_any 3 w)
  rw [admit3] at hc
  go_enter Tryd.func12, Tryd.ntmps12
  go_wp2_with fail
  refine hc.out.mono ?_
  rintro en w1 ⟨rfl, rfl⟩
  go_wp2_with fail
  refine (epoch_any w).mono ?_
  rintro en w1 ⟨rfl, rfl⟩
  go_wp2
  go_ret
  exact ⟨rfl, rfl⟩
def textS (s : ByteArray) : ByteArray := s.extract 0 (min s.size 10)
theorem textS_size (s : ByteArray) : (textS s).size ≤ 1000 := by
  unfold textS
  rw [ByteArray.size_extract]
  omega
set_option maxHeartbeats 1000000 in
theorem text_any (s : ByteArray) (hs : s.size ≤ 9223372036854775807) (w : World) : Calls Tryd.prog 13 #[.string s, .int .i64 10] w fun en w' => en = .returned (.string (textS s)) ∧ w = w' := by
  have hr : Hid (textS s = s.extract 0 (min (s.size : Int) 10).toNat) := by
    show _ = _
    rw [show (min (s.size : Int) 10).toNat = min s.size 10 by omega]
    rfl
  go_enter Tryd.func13, Tryd.ntmps13
  go_wp2
  go_ret
  rw [hr.out]
  exact ⟨rfl, rfl⟩
end Go.Proofs.YtbmegoemimfiaaaDoor

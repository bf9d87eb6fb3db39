/-
  PathTells: the walk.
-/
import Derived.Test.YtbmegoemimfiaaaDoorRows
import Derived.Test.YtbmegoemimfiaaaDoorW5
import Derived.WalkKit
import Derived.WalkSpells
import Derived.WalkLawsBesides
import Derived.Outline
import Derived.Laws.StructEq
import Derived.Deep.Light
import Derived.Deep.QuietTactic
import Derived.BigQuiet
import Derived.Lib.Hide
namespace Go.Proofs.YtbmegoemimfiaaaDoor
open Go Go.RowKit Go.Shelf
set_option maxRecDepth 100000
set_option linter.unusedVariables false
set_option linter.unusedSimpArgs false

theorem tempS_size (s : ByteArray) : (tempS s).size = s.size + 1 := by
  unfold tempS
  rw [ByteArray.size_append]
  rfl
set_option maxHeartbeats 40000000 in
theorem pathTells_walk (n : Int) (f e : ByteArray) (how : Int) (s : ByteArray) (hf : f.size ≤ 140737488351232) (he : e.size ≤ 140737488351232) (hs : s.size ≤ 140737488351232) (w : World) :
    Calls Tryd.prog 4 #[.int .i64 n, .string f, .string e, .int .i64 how, .string s] w fun en w' => en = .returned (.bool true) ∧ Below w.heap.size w w' := by
  go_enter Tryd.func4, Tryd.ntmps4
  by_cases h5 : how.tmod 5 = 4
  · have b5 : (how.tmod 5 != 4) = false := by rw [bne_eq_false_iff_eq]; exact h5
    clear h5
    obtain ⟨N, hN⟩ : ∃ N, N = n := ⟨_, rfl⟩
    rw [← hN]
    clear hN
    go_wp2_with fail
    refine (text_any f (by omega) w).mono ?_
    rintro en y ⟨rfl, rfl⟩
    go_wp2_with fail
    refine (text_any e (by omega) w).mono ?_
    rintro en y ⟨rfl, rfl⟩
    by_cases h3 : how.tmod 3 = 2
    · have b3 : (how.tmod 3 != 2) = false := by rw [bne_eq_false_iff_eq]; exact h3
      clear h3
      go_upto_region 6 with (fail)
      obtain ⟨F, hF0⟩ : ∃ F, F = textS f := ⟨_, rfl⟩
      obtain ⟨E, hE0⟩ : ∃ E, E = textS e := ⟨_, rfl⟩
      have hF : F.size ≤ 1000 := by rw [hF0]; exact textS_size f
      have hE : E.size ≤ 1000 := by rw [hE0]; exact textS_size e
      rw [← hF0, ← hE0]
      clear hF0 hE0 b3
      have hbw := Below.refl w.heap.size w
      by_cases h7 : how.tmod 7 = 5
      · have b7 : (how.tmod 7 == 5) = true := by rw [beq_iff_eq]; exact h7
        clear h7
        go_upto_region 8 with (fail)
        obtain ⟨S, hS⟩ : ∃ S, S = s ++ ⟨#[126]⟩ := ⟨_, rfl⟩
        have hSs : S.size ≤ 140737488351233 := by rw [hS, ByteArray.size_append]; show s.size + 1 ≤ _; omega
        rw [← hS]
        clear hS b7
        obtain ⟨x0, hx0⟩ : ∃ x, x = w := ⟨_, rfl⟩
        have hb0 : Below w.heap.size w x0 := by rw [hx0]; exact hbw
        rw [← hx0]
        clear hx0 hbw
        have hT := Lib.hid (isTemp_temp S)
        have hTS : (tempS S).size ≤ 1000000000000000001 := by rw [tempS_size]; omega
        have htmp : S ++ ⟨#[126]⟩ = tempS S := rfl
        go_wp2_with fail
        refine (admit_any N x0).mono ?_
        rintro en y ⟨rfl, rfl⟩
        go_wp2_with fail
        refine (refAdmit_any N x0).mono ?_
        rintro en x1 ⟨rfl, hc1⟩
        have hb1 := below_step hb0 hc1
        clear hb0 hc1
        go_wp2_with fail
        refine (log_any F E hF hE x1).mono ?_
        rintro en x2 ⟨rfl, hc2⟩
        have hb2 := below_step hb1 hc2
        clear hb1 hc2
        go_wp2_with fail
        refine (refLog_any F E hF hE x2).mono ?_
        rintro en x3 ⟨rfl, hc3⟩
        have hb3 := below_step hb2 hc3
        clear hb2 hc3
        go_wp2_with fail
        refine (gone_any F E N hF hE x3).mono ?_
        rintro en x4 ⟨rfl, hc4⟩
        have hb4 := below_step hb3 hc4
        clear hb3 hc4
        go_wp2_with fail
        refine (refOf_any ⟨#[103, 111, 110, 101]⟩ F E N (by decide) hF hE x4).mono ?_
        rintro en x5 ⟨rfl, hc5⟩
        have hb5 := below_step hb4 hc5
        clear hb4 hc5
        go_wp2_with fail
        refine (box_any F E N hF hE x5).mono ?_
        rintro en x6 ⟨rfl, hc6⟩
        have hb6 := below_step hb5 hc6
        clear hb5 hc6
        go_wp2_with fail
        refine (refOf_any ⟨#[98, 111, 120]⟩ F E N (by decide) hF hE x6).mono ?_
        rintro en x7 ⟨rfl, hc7⟩
        have hb7 := below_step hb6 hc7
        clear hb6 hc7
        go_wp2_with fail
        refine (temp_any S (by omega) x7).mono ?_
        rintro en y ⟨rfl, rfl⟩
        go_wp2_with fail
        refine (isTemp_any S (by omega) x7).mono ?_
        rintro en y ⟨rfl, rfl⟩
        go_wp2_with fail
        refine (refIsTemp_any S (by omega) x7).mono ?_
        rintro en y ⟨rfl, rfl⟩
        go_wp2_with fail
        refine (temp_any S (by omega) x7).mono ?_
        rintro en y ⟨rfl, rfl⟩
        go_wp2_with fail
        have hIT := isTemp_any (tempS S) hTS x7
        rw [hT.out] at hIT
        refine hIT.mono ?_
        clear hIT
        rintro en y ⟨rfl, rfl⟩
        go_wp2_with fail
        refine (wakes06 x7).mono ?_
        rintro en y ⟨rfl, rfl⟩
        go_wp2
        go_ret
        exact ⟨rfl, hb7⟩
      · have b7 : (how.tmod 7 == 5) = false := by rw [beq_eq_false_iff_ne]; exact h7
        clear h7
        go_upto_region 8 with (fail)
        obtain ⟨S, hS⟩ : ∃ S, S = s := ⟨_, rfl⟩
        have hSs : S.size ≤ 140737488351233 := by rw [hS]; omega
        rw [← hS]
        clear hS b7
        obtain ⟨x0, hx0⟩ : ∃ x, x = w := ⟨_, rfl⟩
        have hb0 : Below w.heap.size w x0 := by rw [hx0]; exact hbw
        rw [← hx0]
        clear hx0 hbw
        have hT := Lib.hid (isTemp_temp S)
        have hTS : (tempS S).size ≤ 1000000000000000001 := by rw [tempS_size]; omega
        have htmp : S ++ ⟨#[126]⟩ = tempS S := rfl
        go_wp2_with fail
        refine (admit_any N x0).mono ?_
        rintro en y ⟨rfl, rfl⟩
        go_wp2_with fail
        refine (refAdmit_any N x0).mono ?_
        rintro en x1 ⟨rfl, hc1⟩
        have hb1 := below_step hb0 hc1
        clear hb0 hc1
        go_wp2_with fail
        refine (log_any F E hF hE x1).mono ?_
        rintro en x2 ⟨rfl, hc2⟩
        have hb2 := below_step hb1 hc2
        clear hb1 hc2
        go_wp2_with fail
        refine (refLog_any F E hF hE x2).mono ?_
        rintro en x3 ⟨rfl, hc3⟩
        have hb3 := below_step hb2 hc3
        clear hb2 hc3
        go_wp2_with fail
        refine (gone_any F E N hF hE x3).mono ?_
        rintro en x4 ⟨rfl, hc4⟩
        have hb4 := below_step hb3 hc4
        clear hb3 hc4
        go_wp2_with fail
        refine (refOf_any ⟨#[103, 111, 110, 101]⟩ F E N (by decide) hF hE x4).mono ?_
        rintro en x5 ⟨rfl, hc5⟩
        have hb5 := below_step hb4 hc5
        clear hb4 hc5
        go_wp2_with fail
        refine (box_any F E N hF hE x5).mono ?_
        rintro en x6 ⟨rfl, hc6⟩
        have hb6 := below_step hb5 hc6
        clear hb5 hc6
        go_wp2_with fail
        refine (refOf_any ⟨#[98, 111, 120]⟩ F E N (by decide) hF hE x6).mono ?_
        rintro en x7 ⟨rfl, hc7⟩
        have hb7 := below_step hb6 hc7
        clear hb6 hc7
        go_wp2_with fail
        refine (temp_any S (by omega) x7).mono ?_
        rintro en y ⟨rfl, rfl⟩
        go_wp2_with fail
        refine (isTemp_any S (by omega) x7).mono ?_
        rintro en y ⟨rfl, rfl⟩
        go_wp2_with fail
        refine (refIsTemp_any S (by omega) x7).mono ?_
        rintro en y ⟨rfl, rfl⟩
        go_wp2_with fail
        refine (temp_any S (by omega) x7).mono ?_
        rintro en y ⟨rfl, rfl⟩
        go_wp2_with fail
        have hIT := isTemp_any (tempS S) hTS x7
        rw [hT.out] at hIT
        refine hIT.mono ?_
        clear hIT
        rintro en y ⟨rfl, rfl⟩
        go_wp2_with fail
        refine (wakes06 x7).mono ?_
        rintro en y ⟨rfl, rfl⟩
        go_wp2
        go_ret
        exact ⟨rfl, hb7⟩
    · have b3 : (how.tmod 3 != 2) = true := by rw [bne_iff_ne]; exact h3
      clear h3
      have hr0 : 0 ≤ how % 3 := Int.emod_nonneg how (by omega)
      have hr1 : how % 3 < 3 := Int.emod_lt_of_pos how (by omega)
      go_wp2_with fail
      generalize hW : w.alloc _ = W1
      obtain ⟨r, hr⟩ : ∃ r : Nat, how % 3 = (r : Int) := ⟨(how % 3).toNat, by omega⟩
      obtain ⟨D, hD, hDs⟩ : ∃ D : ByteArray, W1.cell? ⟨w.heap.size, r, none⟩ = some (.string D) ∧ D.size ≤ 2 := by
        have h3 : r = 0 ∨ r = 1 ∨ r = 2 := by omega
        rw [← hW]
        rcases h3 with rfl | rfl | rfl
        · exact ⟨⟨#[]⟩, by rw [cell_new]; rfl, by decide⟩
        · exact ⟨⟨#[49]⟩, by rw [cell_new]; rfl, by decide⟩
        · exact ⟨⟨#[120, 57]⟩, by rw [cell_new]; rfl, by decide⟩
      have hbw : Below w.heap.size w W1 := by rw [← hW]; exact below_alloc (Below.refl _ _) _
      clear hW
      have hr3 : r < 3 := by omega
      refine (within_any how 3 (by omega) (by omega) W1).mono ?_
      rintro en y ⟨rfl, rfl⟩
      rw [hr]
      clear hr hr0 hr1
      go_upto_region 6 with (fail)
      obtain ⟨F, hF0⟩ : ∃ F, F = ⟨#[102, 114]⟩ ++ D := ⟨_, rfl⟩
      have hF : F.size ≤ 1000 := by rw [hF0, ByteArray.size_append]; show 2 + D.size ≤ _; omega
      obtain ⟨E, hE0⟩ : ∃ E : ByteArray, E = ⟨#[101, 120]⟩ := ⟨_, rfl⟩
      have hE : E.size ≤ 1000 := by rw [hE0]; decide
      rw [← hF0, ← hE0]
      clear hF0 hE0 b3 hD hDs hr3
      by_cases h7 : how.tmod 7 = 5
      · have b7 : (how.tmod 7 == 5) = true := by rw [beq_iff_eq]; exact h7
        clear h7
        go_upto_region 8 with (fail)
        obtain ⟨S, hS⟩ : ∃ S, S = s ++ ⟨#[126]⟩ := ⟨_, rfl⟩
        have hSs : S.size ≤ 140737488351233 := by rw [hS, ByteArray.size_append]; show s.size + 1 ≤ _; omega
        rw [← hS]
        clear hS b7
        obtain ⟨x0, hx0⟩ : ∃ x, x = W1 := ⟨_, rfl⟩
        have hb0 : Below w.heap.size w x0 := by rw [hx0]; exact hbw
        rw [← hx0]
        clear hx0 hbw
        have hT := Lib.hid (isTemp_temp S)
        have hTS : (tempS S).size ≤ 1000000000000000001 := by rw [tempS_size]; omega
        have htmp : S ++ ⟨#[126]⟩ = tempS S := rfl
        go_wp2_with fail
        refine (admit_any N x0).mono ?_
        rintro en y ⟨rfl, rfl⟩
        go_wp2_with fail
        refine (refAdmit_any N x0).mono ?_
        rintro en x1 ⟨rfl, hc1⟩
        have hb1 := below_step hb0 hc1
        clear hb0 hc1
        go_wp2_with fail
        refine (log_any F E hF hE x1).mono ?_
        rintro en x2 ⟨rfl, hc2⟩
        have hb2 := below_step hb1 hc2
        clear hb1 hc2
        go_wp2_with fail
        refine (refLog_any F E hF hE x2).mono ?_
        rintro en x3 ⟨rfl, hc3⟩
        have hb3 := below_step hb2 hc3
        clear hb2 hc3
        go_wp2_with fail
        refine (gone_any F E N hF hE x3).mono ?_
        rintro en x4 ⟨rfl, hc4⟩
        have hb4 := below_step hb3 hc4
        clear hb3 hc4
        go_wp2_with fail
        refine (refOf_any ⟨#[103, 111, 110, 101]⟩ F E N (by decide) hF hE x4).mono ?_
        rintro en x5 ⟨rfl, hc5⟩
        have hb5 := below_step hb4 hc5
        clear hb4 hc5
        go_wp2_with fail
        refine (box_any F E N hF hE x5).mono ?_
        rintro en x6 ⟨rfl, hc6⟩
        have hb6 := below_step hb5 hc6
        clear hb5 hc6
        go_wp2_with fail
        refine (refOf_any ⟨#[98, 111, 120]⟩ F E N (by decide) hF hE x6).mono ?_
        rintro en x7 ⟨rfl, hc7⟩
        have hb7 := below_step hb6 hc7
        clear hb6 hc7
        go_wp2_with fail
        refine (temp_any S (by omega) x7).mono ?_
        rintro en y ⟨rfl, rfl⟩
        go_wp2_with fail
        refine (isTemp_any S (by omega) x7).mono ?_
        rintro en y ⟨rfl, rfl⟩
        go_wp2_with fail
        refine (refIsTemp_any S (by omega) x7).mono ?_
        rintro en y ⟨rfl, rfl⟩
        go_wp2_with fail
        refine (temp_any S (by omega) x7).mono ?_
        rintro en y ⟨rfl, rfl⟩
        go_wp2_with fail
        have hIT := isTemp_any (tempS S) hTS x7
        rw [hT.out] at hIT
        refine hIT.mono ?_
        clear hIT
        rintro en y ⟨rfl, rfl⟩
        go_wp2_with fail
        refine (wakes06 x7).mono ?_
        rintro en y ⟨rfl, rfl⟩
        go_wp2
        go_ret
        exact ⟨rfl, hb7⟩
      · have b7 : (how.tmod 7 == 5) = false := by rw [beq_eq_false_iff_ne]; exact h7
        clear h7
        go_upto_region 8 with (fail)
        obtain ⟨S, hS⟩ : ∃ S, S = s := ⟨_, rfl⟩
        have hSs : S.size ≤ 140737488351233 := by rw [hS]; omega
        rw [← hS]
        clear hS b7
        obtain ⟨x0, hx0⟩ : ∃ x, x = W1 := ⟨_, rfl⟩
        have hb0 : Below w.heap.size w x0 := by rw [hx0]; exact hbw
        rw [← hx0]
        clear hx0 hbw
        have hT := Lib.hid (isTemp_temp S)
        have hTS : (tempS S).size ≤ 1000000000000000001 := by rw [tempS_size]; omega
        have htmp : S ++ ⟨#[126]⟩ = tempS S := rfl
        go_wp2_with fail
        refine (admit_any N x0).mono ?_
        rintro en y ⟨rfl, rfl⟩
        go_wp2_with fail
        refine (refAdmit_any N x0).mono ?_
        rintro en x1 ⟨rfl, hc1⟩
        have hb1 := below_step hb0 hc1
        clear hb0 hc1
        go_wp2_with fail
        refine (log_any F E hF hE x1).mono ?_
        rintro en x2 ⟨rfl, hc2⟩
        have hb2 := below_step hb1 hc2
        clear hb1 hc2
        go_wp2_with fail
        refine (refLog_any F E hF hE x2).mono ?_
        rintro en x3 ⟨rfl, hc3⟩
        have hb3 := below_step hb2 hc3
        clear hb2 hc3
        go_wp2_with fail
        refine (gone_any F E N hF hE x3).mono ?_
        rintro en x4 ⟨rfl, hc4⟩
        have hb4 := below_step hb3 hc4
        clear hb3 hc4
        go_wp2_with fail
        refine (refOf_any ⟨#[103, 111, 110, 101]⟩ F E N (by decide) hF hE x4).mono ?_
        rintro en x5 ⟨rfl, hc5⟩
        have hb5 := below_step hb4 hc5
        clear hb4 hc5
        go_wp2_with fail
        refine (box_any F E N hF hE x5).mono ?_
        rintro en x6 ⟨rfl, hc6⟩
        have hb6 := below_step hb5 hc6
        clear hb5 hc6
        go_wp2_with fail
        refine (refOf_any ⟨#[98, 111, 120]⟩ F E N (by decide) hF hE x6).mono ?_
        rintro en x7 ⟨rfl, hc7⟩
        have hb7 := below_step hb6 hc7
        clear hb6 hc7
        go_wp2_with fail
        refine (temp_any S (by omega) x7).mono ?_
        rintro en y ⟨rfl, rfl⟩
        go_wp2_with fail
        refine (isTemp_any S (by omega) x7).mono ?_
        rintro en y ⟨rfl, rfl⟩
        go_wp2_with fail
        refine (refIsTemp_any S (by omega) x7).mono ?_
        rintro en y ⟨rfl, rfl⟩
        go_wp2_with fail
        refine (temp_any S (by omega) x7).mono ?_
        rintro en y ⟨rfl, rfl⟩
        go_wp2_with fail
        have hIT := isTemp_any (tempS S) hTS x7
        rw [hT.out] at hIT
        refine hIT.mono ?_
        clear hIT
        rintro en y ⟨rfl, rfl⟩
        go_wp2_with fail
        refine (wakes06 x7).mono ?_
        rintro en y ⟨rfl, rfl⟩
        go_wp2
        go_ret
        exact ⟨rfl, hb7⟩
  · have b5 : (how.tmod 5 != 4) = true := by rw [bne_iff_ne]; exact h5
    clear h5
    have hm0 : 0 ≤ n % 27 := Int.emod_nonneg n (by omega)
    have hm1 : n % 27 < 27 := Int.emod_lt_of_pos n (by omega)
    go_wp2_with fail
    refine (within_any n 27 (by omega) (by omega) w).mono ?_
    rintro en y ⟨rfl, rfl⟩
    generalize n % 27 = m at hm0 hm1 ⊢
    go_upto_region 3 with (fail)
    obtain ⟨N, hN⟩ : ∃ N, N = m - 1 := ⟨_, rfl⟩
    rw [← hN]
    clear hN hm0 hm1
    go_wp2_with fail
    refine (text_any f (by omega) w).mono ?_
    rintro en y ⟨rfl, rfl⟩
    go_wp2_with fail
    refine (text_any e (by omega) w).mono ?_
    rintro en y ⟨rfl, rfl⟩
    by_cases h3 : how.tmod 3 = 2
    · have b3 : (how.tmod 3 != 2) = false := by rw [bne_eq_false_iff_eq]; exact h3
      clear h3
      go_upto_region 6 with (fail)
      obtain ⟨F, hF0⟩ : ∃ F, F = textS f := ⟨_, rfl⟩
      obtain ⟨E, hE0⟩ : ∃ E, E = textS e := ⟨_, rfl⟩
      have hF : F.size ≤ 1000 := by rw [hF0]; exact textS_size f
      have hE : E.size ≤ 1000 := by rw [hE0]; exact textS_size e
      rw [← hF0, ← hE0]
      clear hF0 hE0 b3
      have hbw := Below.refl w.heap.size w
      by_cases h7 : how.tmod 7 = 5
      · have b7 : (how.tmod 7 == 5) = true := by rw [beq_iff_eq]; exact h7
        clear h7
        go_upto_region 8 with (fail)
        obtain ⟨S, hS⟩ : ∃ S, S = s ++ ⟨#[126]⟩ := ⟨_, rfl⟩
        have hSs : S.size ≤ 140737488351233 := by rw [hS, ByteArray.size_append]; show s.size + 1 ≤ _; omega
        rw [← hS]
        clear hS b7
        obtain ⟨x0, hx0⟩ : ∃ x, x = w := ⟨_, rfl⟩
        have hb0 : Below w.heap.size w x0 := by rw [hx0]; exact hbw
        rw [← hx0]
        clear hx0 hbw
        have hT := Lib.hid (isTemp_temp S)
        have hTS : (tempS S).size ≤ 1000000000000000001 := by rw [tempS_size]; omega
        have htmp : S ++ ⟨#[126]⟩ = tempS S := rfl
        go_wp2_with fail
        refine (admit_any N x0).mono ?_
        rintro en y ⟨rfl, rfl⟩
        go_wp2_with fail
        refine (refAdmit_any N x0).mono ?_
        rintro en x1 ⟨rfl, hc1⟩
        have hb1 := below_step hb0 hc1
        clear hb0 hc1
        go_wp2_with fail
        refine (log_any F E hF hE x1).mono ?_
        rintro en x2 ⟨rfl, hc2⟩
        have hb2 := below_step hb1 hc2
        clear hb1 hc2
        go_wp2_with fail
        refine (refLog_any F E hF hE x2).mono ?_
        rintro en x3 ⟨rfl, hc3⟩
        have hb3 := below_step hb2 hc3
        clear hb2 hc3
        go_wp2_with fail
        refine (gone_any F E N hF hE x3).mono ?_
        rintro en x4 ⟨rfl, hc4⟩
        have hb4 := below_step hb3 hc4
        clear hb3 hc4
        go_wp2_with fail
        refine (refOf_any ⟨#[103, 111, 110, 101]⟩ F E N (by decide) hF hE x4).mono ?_
        rintro en x5 ⟨rfl, hc5⟩
        have hb5 := below_step hb4 hc5
        clear hb4 hc5
        go_wp2_with fail
        refine (box_any F E N hF hE x5).mono ?_
        rintro en x6 ⟨rfl, hc6⟩
        have hb6 := below_step hb5 hc6
        clear hb5 hc6
        go_wp2_with fail
        refine (refOf_any ⟨#[98, 111, 120]⟩ F E N (by decide) hF hE x6).mono ?_
        rintro en x7 ⟨rfl, hc7⟩
        have hb7 := below_step hb6 hc7
        clear hb6 hc7
        go_wp2_with fail
        refine (temp_any S (by omega) x7).mono ?_
        rintro en y ⟨rfl, rfl⟩
        go_wp2_with fail
        refine (isTemp_any S (by omega) x7).mono ?_
        rintro en y ⟨rfl, rfl⟩
        go_wp2_with fail
        refine (refIsTemp_any S (by omega) x7).mono ?_
        rintro en y ⟨rfl, rfl⟩
        go_wp2_with fail
        refine (temp_any S (by omega) x7).mono ?_
        rintro en y ⟨rfl, rfl⟩
        go_wp2_with fail
        have hIT := isTemp_any (tempS S) hTS x7
        rw [hT.out] at hIT
        refine hIT.mono ?_
        clear hIT
        rintro en y ⟨rfl, rfl⟩
        go_wp2_with fail
        refine (wakes06 x7).mono ?_
        rintro en y ⟨rfl, rfl⟩
        go_wp2
        go_ret
        exact ⟨rfl, hb7⟩
      · have b7 : (how.tmod 7 == 5) = false := by rw [beq_eq_false_iff_ne]; exact h7
        clear h7
        go_upto_region 8 with (fail)
        obtain ⟨S, hS⟩ : ∃ S, S = s := ⟨_, rfl⟩
        have hSs : S.size ≤ 140737488351233 := by rw [hS]; omega
        rw [← hS]
        clear hS b7
        obtain ⟨x0, hx0⟩ : ∃ x, x = w := ⟨_, rfl⟩
        have hb0 : Below w.heap.size w x0 := by rw [hx0]; exact hbw
        rw [← hx0]
        clear hx0 hbw
        have hT := Lib.hid (isTemp_temp S)
        have hTS : (tempS S).size ≤ 1000000000000000001 := by rw [tempS_size]; omega
        have htmp : S ++ ⟨#[126]⟩ = tempS S := rfl
        go_wp2_with fail
        refine (admit_any N x0).mono ?_
        rintro en y ⟨rfl, rfl⟩
        go_wp2_with fail
        refine (refAdmit_any N x0).mono ?_
        rintro en x1 ⟨rfl, hc1⟩
        have hb1 := below_step hb0 hc1
        clear hb0 hc1
        go_wp2_with fail
        refine (log_any F E hF hE x1).mono ?_
        rintro en x2 ⟨rfl, hc2⟩
        have hb2 := below_step hb1 hc2
        clear hb1 hc2
        go_wp2_with fail
        refine (refLog_any F E hF hE x2).mono ?_
        rintro en x3 ⟨rfl, hc3⟩
        have hb3 := below_step hb2 hc3
        clear hb2 hc3
        go_wp2_with fail
        refine (gone_any F E N hF hE x3).mono ?_
        rintro en x4 ⟨rfl, hc4⟩
        have hb4 := below_step hb3 hc4
        clear hb3 hc4
        go_wp2_with fail
        refine (refOf_any ⟨#[103, 111, 110, 101]⟩ F E N (by decide) hF hE x4).mono ?_
        rintro en x5 ⟨rfl, hc5⟩
        have hb5 := below_step hb4 hc5
        clear hb4 hc5
        go_wp2_with fail
        refine (box_any F E N hF hE x5).mono ?_
        rintro en x6 ⟨rfl, hc6⟩
        have hb6 := below_step hb5 hc6
        clear hb5 hc6
        go_wp2_with fail
        refine (refOf_any ⟨#[98, 111, 120]⟩ F E N (by decide) hF hE x6).mono ?_
        rintro en x7 ⟨rfl, hc7⟩
        have hb7 := below_step hb6 hc7
        clear hb6 hc7
        go_wp2_with fail
        refine (temp_any S (by omega) x7).mono ?_
        rintro en y ⟨rfl, rfl⟩
        go_wp2_with fail
        refine (isTemp_any S (by omega) x7).mono ?_
        rintro en y ⟨rfl, rfl⟩
        go_wp2_with fail
        refine (refIsTemp_any S (by omega) x7).mono ?_
        rintro en y ⟨rfl, rfl⟩
        go_wp2_with fail
        refine (temp_any S (by omega) x7).mono ?_
        rintro en y ⟨rfl, rfl⟩
        go_wp2_with fail
        have hIT := isTemp_any (tempS S) hTS x7
        rw [hT.out] at hIT
        refine hIT.mono ?_
        clear hIT
        rintro en y ⟨rfl, rfl⟩
        go_wp2_with fail
        refine (wakes06 x7).mono ?_
        rintro en y ⟨rfl, rfl⟩
        go_wp2
        go_ret
        exact ⟨rfl, hb7⟩
    · have b3 : (how.tmod 3 != 2) = true := by rw [bne_iff_ne]; exact h3
      clear h3
      have hr0 : 0 ≤ how % 3 := Int.emod_nonneg how (by omega)
      have hr1 : how % 3 < 3 := Int.emod_lt_of_pos how (by omega)
      go_wp2_with fail
      generalize hW : w.alloc _ = W1
      obtain ⟨r, hr⟩ : ∃ r : Nat, how % 3 = (r : Int) := ⟨(how % 3).toNat, by omega⟩
      obtain ⟨D, hD, hDs⟩ : ∃ D : ByteArray, W1.cell? ⟨w.heap.size, r, none⟩ = some (.string D) ∧ D.size ≤ 2 := by
        have h3 : r = 0 ∨ r = 1 ∨ r = 2 := by omega
        rw [← hW]
        rcases h3 with rfl | rfl | rfl
        · exact ⟨⟨#[]⟩, by rw [cell_new]; rfl, by decide⟩
        · exact ⟨⟨#[49]⟩, by rw [cell_new]; rfl, by decide⟩
        · exact ⟨⟨#[120, 57]⟩, by rw [cell_new]; rfl, by decide⟩
      have hbw : Below w.heap.size w W1 := by rw [← hW]; exact below_alloc (Below.refl _ _) _
      clear hW
      have hr3 : r < 3 := by omega
      refine (within_any how 3 (by omega) (by omega) W1).mono ?_
      rintro en y ⟨rfl, rfl⟩
      rw [hr]
      clear hr hr0 hr1
      go_upto_region 6 with (fail)
      obtain ⟨F, hF0⟩ : ∃ F, F = ⟨#[102, 114]⟩ ++ D := ⟨_, rfl⟩
      have hF : F.size ≤ 1000 := by rw [hF0, ByteArray.size_append]; show 2 + D.size ≤ _; omega
      obtain ⟨E, hE0⟩ : ∃ E : ByteArray, E = ⟨#[101, 120]⟩ := ⟨_, rfl⟩
      have hE : E.size ≤ 1000 := by rw [hE0]; decide
      rw [← hF0, ← hE0]
      clear hF0 hE0 b3 hD hDs hr3
      by_cases h7 : how.tmod 7 = 5
      · have b7 : (how.tmod 7 == 5) = true := by rw [beq_iff_eq]; exact h7
        clear h7
        go_upto_region 8 with (fail)
        obtain ⟨S, hS⟩ : ∃ S, S = s ++ ⟨#[126]⟩ := ⟨_, rfl⟩
        have hSs : S.size ≤ 140737488351233 := by rw [hS, ByteArray.size_append]; show s.size + 1 ≤ _; omega
        rw [← hS]
        clear hS b7
        obtain ⟨x0, hx0⟩ : ∃ x, x = W1 := ⟨_, rfl⟩
        have hb0 : Below w.heap.size w x0 := by rw [hx0]; exact hbw
        rw [← hx0]
        clear hx0 hbw
        have hT := Lib.hid (isTemp_temp S)
        have hTS : (tempS S).size ≤ 1000000000000000001 := by rw [tempS_size]; omega
        have htmp : S ++ ⟨#[126]⟩ = tempS S := rfl
        go_wp2_with fail
        refine (admit_any N x0).mono ?_
        rintro en y ⟨rfl, rfl⟩
        go_wp2_with fail
        refine (refAdmit_any N x0).mono ?_
        rintro en x1 ⟨rfl, hc1⟩
        have hb1 := below_step hb0 hc1
        clear hb0 hc1
        go_wp2_with fail
        refine (log_any F E hF hE x1).mono ?_
        rintro en x2 ⟨rfl, hc2⟩
        have hb2 := below_step hb1 hc2
        clear hb1 hc2
        go_wp2_with fail
        refine (refLog_any F E hF hE x2).mono ?_
        rintro en x3 ⟨rfl, hc3⟩
        have hb3 := below_step hb2 hc3
        clear hb2 hc3
        go_wp2_with fail
        refine (gone_any F E N hF hE x3).mono ?_
        rintro en x4 ⟨rfl, hc4⟩
        have hb4 := below_step hb3 hc4
        clear hb3 hc4
        go_wp2_with fail
        refine (refOf_any ⟨#[103, 111, 110, 101]⟩ F E N (by decide) hF hE x4).mono ?_
        rintro en x5 ⟨rfl, hc5⟩
        have hb5 := below_step hb4 hc5
        clear hb4 hc5
        go_wp2_with fail
        refine (box_any F E N hF hE x5).mono ?_
        rintro en x6 ⟨rfl, hc6⟩
        have hb6 := below_step hb5 hc6
        clear hb5 hc6
        go_wp2_with fail
        refine (refOf_any ⟨#[98, 111, 120]⟩ F E N (by decide) hF hE x6).mono ?_
        rintro en x7 ⟨rfl, hc7⟩
        have hb7 := below_step hb6 hc7
        clear hb6 hc7
        go_wp2_with fail
        refine (temp_any S (by omega) x7).mono ?_
        rintro en y ⟨rfl, rfl⟩
        go_wp2_with fail
        refine (isTemp_any S (by omega) x7).mono ?_
        rintro en y ⟨rfl, rfl⟩
        go_wp2_with fail
        refine (refIsTemp_any S (by omega) x7).mono ?_
        rintro en y ⟨rfl, rfl⟩
        go_wp2_with fail
        refine (temp_any S (by omega) x7).mono ?_
        rintro en y ⟨rfl, rfl⟩
        go_wp2_with fail
        have hIT := isTemp_any (tempS S) hTS x7
        rw [hT.out] at hIT
        refine hIT.mono ?_
        clear hIT
        rintro en y ⟨rfl, rfl⟩
        go_wp2_with fail
        refine (wakes06 x7).mono ?_
        rintro en y ⟨rfl, rfl⟩
        go_wp2
        go_ret
        exact ⟨rfl, hb7⟩
      · have b7 : (how.tmod 7 == 5) = false := by rw [beq_eq_false_iff_ne]; exact h7
        clear h7
        go_upto_region 8 with (fail)
        obtain ⟨S, hS⟩ : ∃ S, S = s := ⟨_, rfl⟩
        have hSs : S.size ≤ 140737488351233 := by rw [hS]; omega
        rw [← hS]
        clear hS b7
        obtain ⟨x0, hx0⟩ : ∃ x, x = W1 := ⟨_, rfl⟩
        have hb0 : Below w.heap.size w x0 := by rw [hx0]; exact hbw
        rw [← hx0]
        clear hx0 hbw
        have hT := Lib.hid (isTemp_temp S)
        have hTS : (tempS S).size ≤ 1000000000000000001 := by rw [tempS_size]; omega
        have htmp : S ++ ⟨#[126]⟩ = tempS S := rfl
        go_wp2_with fail
        refine (admit_any N x0).mono ?_
        rintro en y ⟨rfl, rfl⟩
        go_wp2_with fail
        refine (refAdmit_any N x0).mono ?_
        rintro en x1 ⟨rfl, hc1⟩
        have hb1 := below_step hb0 hc1
        clear hb0 hc1
        go_wp2_with fail
        refine (log_any F E hF hE x1).mono ?_
        rintro en x2 ⟨rfl, hc2⟩
        have hb2 := below_step hb1 hc2
        clear hb1 hc2
        go_wp2_with fail
        refine (refLog_any F E hF hE x2).mono ?_
        rintro en x3 ⟨rfl, hc3⟩
        have hb3 := below_step hb2 hc3
        clear hb2 hc3
        go_wp2_with fail
        refine (gone_any F E N hF hE x3).mono ?_
        rintro en x4 ⟨rfl, hc4⟩
        have hb4 := below_step hb3 hc4
        clear hb3 hc4
        go_wp2_with fail
        refine (refOf_any ⟨#[103, 111, 110, 101]⟩ F E N (by decide) hF hE x4).mono ?_
        rintro en x5 ⟨rfl, hc5⟩
        have hb5 := below_step hb4 hc5
        clear hb4 hc5
        go_wp2_with fail
        refine (box_any F E N hF hE x5).mono ?_
        rintro en x6 ⟨rfl, hc6⟩
        have hb6 := below_step hb5 hc6
        clear hb5 hc6
        go_wp2_with fail
        refine (refOf_any ⟨#[98, 111, 120]⟩ F E N (by decide) hF hE x6).mono ?_
        rintro en x7 ⟨rfl, hc7⟩
        have hb7 := below_step hb6 hc7
        clear hb6 hc7
        go_wp2_with fail
        refine (temp_any S (by omega) x7).mono ?_
        rintro en y ⟨rfl, rfl⟩
        go_wp2_with fail
        refine (isTemp_any S (by omega) x7).mono ?_
        rintro en y ⟨rfl, rfl⟩
        go_wp2_with fail
        refine (refIsTemp_any S (by omega) x7).mono ?_
        rintro en y ⟨rfl, rfl⟩
        go_wp2_with fail
        refine (temp_any S (by omega) x7).mono ?_
        rintro en y ⟨rfl, rfl⟩
        go_wp2_with fail
        have hIT := isTemp_any (tempS S) hTS x7
        rw [hT.out] at hIT
        refine hIT.mono ?_
        clear hIT
        rintro en y ⟨rfl, rfl⟩
        go_wp2_with fail
        refine (wakes06 x7).mono ?_
        rintro en y ⟨rfl, rfl⟩
        go_wp2
        go_ret
        exact ⟨rfl, hb7⟩
end Go.Proofs.YtbmegoemimfiaaaDoor

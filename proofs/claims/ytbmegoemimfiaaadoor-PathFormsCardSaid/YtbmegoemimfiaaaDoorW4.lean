/-
  paths of runs, temporary ones, helps of the statements: the walks.
-/
import Derived.Test.YtbmegoemimfiaaaDoorRows
import Derived.Test.YtbmegoemimfiaaaDoorW3
import Derived.WalkKit
import Derived.WalkSpells
import Derived.WalkLawsBesides
import Derived.Outline
import Derived.Laws.StructEq
import Derived.Deep.Light
import Derived.Deep.QuietTactic
import Derived.BigQuiet
import Derived.Lib.Hide
namespace Go.Proofs.YtbmegoemimfiaaaDoor
open Go Go.RowKit Go.Shelf
set_option maxRecDepth 100000
set_option linter.unusedVariables false
set_option linter.unusedSimpArgs false

def inR (n : Int) : Bool := decide (1 ≤ n ∧ n ≤ 24)
def ofS (head f e : ByteArray) (n : Int) : ByteArray := if (rightB f && rightB e && inR n) = true then ((((head ++ ⟨#[47]⟩) ++ f ++ ⟨#[47]⟩) ++ e) ++ ⟨#[47]⟩) ++ twoS n else ⟨#[]⟩
theorem right_size (f : ByteArray) (h : rightB f = true) : f.size ≤ 8 := by
  unfold rightB at h
  simp only [Bool.and_eq_true, decide_eq_true_eq] at h
  exact h.2.1
theorem join4 (h f e t : ByteArray) : (⟨(Lib.join ([h, f, e, t].map (·.data.toList)) (⟨#[47]⟩ : ByteArray).data.toList).toArray⟩ : ByteArray) = ((((h ++ ⟨#[47]⟩) ++ f ++ ⟨#[47]⟩) ++ e) ++ ⟨#[47]⟩) ++ t := by
  apply ba_ext
  simp [Lib.join, List.intercalate, ByteArray.data_append]
theorem join4_len (h f e t : ByteArray) : (Lib.join ([h, f, e, t].map (·.data.toList)) (⟨#[47]⟩ : ByteArray).data.toList).length = h.size + f.size + e.size + t.size + 3 := by
  simp [Lib.join, List.intercalate]
  omega
set_option maxHeartbeats 2000000 in
theorem of_any (head f e : ByteArray) (n : Int) (hh : head.size ≤ 1000) (hf : f.size ≤ 1000) (he : e.size ≤ 1000) (w : World) : Calls Tryd.prog 20 #[.string head, .string f, .string e, .int .i64 n] w fun en w' => en = .returned (.string (ofS head f e n)) ∧ Below w.heap.size w w' := by
  have hcf := fun w => Lib.hid (right_any f (by omega) w)
  have hce := fun w => Lib.hid (right_any e (by omega) w)
  have hr : Hid (ofS head f e n = if (rightB f && rightB e && inR n) = true then ((((head ++ ⟨#[47]⟩) ++ f ++ ⟨#[47]⟩) ++ e) ++ ⟨#[47]⟩) ++ twoS n else ⟨#[]⟩) := rfl
  generalize rightB f = bf at hcf hr
  generalize rightB e = be at hce hr
  go_enter Tryd.func20, Tryd.ntmps20
  go_wp2_with fail
  refine (hcf w).out.mono ?_
  rintro en w1 ⟨rfl, hb1⟩
  cases bf with
  | false =>
    go_wp2
    go_ret
    rw [hr.out]
    exact ⟨rfl, hb1⟩
  | true =>
    go_wp2_with fail
    refine (hce w1).out.mono ?_
    rintro en w2 ⟨rfl, hb2⟩
    have hb12 := below_step hb1 hb2
    clear hb1 hb2
    cases be with
    | false =>
      go_wp2
      go_ret
      rw [hr.out]
      exact ⟨rfl, hb12⟩
    | true =>
      by_cases h : 1 ≤ n ∧ n ≤ 24
      · have hr2 : Hid (ofS head f e n = ((((head ++ ⟨#[47]⟩) ++ f ++ ⟨#[47]⟩) ++ e) ++ ⟨#[47]⟩) ++ twoS n) := by show _ = _; rw [hr.out, show inR n = true from decide_eq_true h]; rfl
        obtain ⟨hsz, hem⟩ := twoS_some n h
        have hc := fun w => Lib.hid (two_any n w)
        clear h hr
        generalize twoS n = D at hr2 hem hc hsz
        go_wp2_with fail
        refine (hc w2).out.mono ?_
        rintro en w3 ⟨rfl, rfl⟩
        go_wp2_with fail
        refine (hc w2).out.mono ?_
        rintro en w3 ⟨rfl, rfl⟩
        go_wp2_with fail
        have hJ := Tryd.strings_Join w2.heap.size 0 4 [head, f, e, D] ⟨#[47]⟩ (w2.alloc (.cells #[.string head, .string f, .string e, .string D] 9)) (by
          intro j x hx
          rw [Nat.zero_add, cell_new]
          have hj : j < 4 := by have := (List.getElem?_eq_some_iff.1 hx).1; simpa using this
          have : j = 0 ∨ j = 1 ∨ j = 2 ∨ j = 3 := by omega
          rcases this with rfl | rfl | rfl | rfl <;> simp at hx <;> subst hx <;> rfl) (by simp) (by simp) (by simp) (by rw [join4_len]; omega)
        rw [join4] at hJ
        refine hJ.mono ?_
        clear hJ
        rintro en w4 ⟨rfl, hb4⟩
        have hb5 := below_step (below_alloc hb12 _) hb4
        go_wp2
        go_ret
        rw [hr2.out]
        exact ⟨rfl, hb5⟩
      · have hr2 : Hid (ofS head f e n = ⟨#[]⟩) := by show _ = _; rw [hr.out, show inR n = false from decide_eq_false h]; rfl
        have hc := Lib.hid (two_any n w2)
        rw [twoS_none n h] at hc
        clear h hr
        go_wp2_with fail
        refine hc.out.mono ?_
        rintro en w3 ⟨rfl, rfl⟩
        go_wp2
        go_ret
        rw [hr2.out]
        exact ⟨rfl, hb12⟩
set_option maxHeartbeats 1000000 in
theorem gone_any (f e : ByteArray) (n : Int) (hf : f.size ≤ 1000) (he : e.size ≤ 1000) (w : World) : Calls Tryd.prog 8 #[.string f, .string e, .int .i64 n] w fun en w' => en = .returned (.string (ofS ⟨#[103, 111, 110, 101]⟩ f e n)) ∧ Below w.heap.size w w' := by
  have hc := Lib.hid (of_any ⟨#[103, 111, 110, 101]⟩ f e n (by decide) hf he w)
  generalize ofS ⟨#[103, 111, 110, 101]⟩ f e n = D at hc ⊢
  go_enter Tryd.func8, Tryd.ntmps8
  go_wp2_with fail
  refine hc.out.mono ?_
  rintro en w1 ⟨rfl, hb⟩
  go_wp2
  go_ret
  exact ⟨rfl, hb⟩
set_option maxHeartbeats 1000000 in
theorem box_any (f e : ByteArray) (n : Int) (hf : f.size ≤ 1000) (he : e.size ≤ 1000) (w : World) : Calls Tryd.prog 9 #[.string f, .string e, .int .i64 n] w fun en w' => en = .returned (.string (ofS ⟨#[98, 111, 120]⟩ f e n)) ∧ Below w.heap.size w w' := by
  have hc := Lib.hid (of_any ⟨#[98, 111, 120]⟩ f e n (by decide) hf he w)
  generalize ofS ⟨#[98, 111, 120]⟩ f e n = D at hc ⊢
  go_enter Tryd.func9, Tryd.ntmps9
  go_wp2_with fail
  refine hc.out.mono ?_
  rintro en w1 ⟨rfl, hb⟩
  go_wp2
  go_ret
  exact ⟨rfl, hb⟩
set_option maxHeartbeats 2000000 in
theorem refOf_any (head f e : ByteArray) (n : Int) (hh : head.size ≤ 1000) (hf : f.size ≤ 1000) (he : e.size ≤ 1000) (w : World) : Calls Tryd.prog 16 #[.string head, .string f, .string e, .int .i64 n] w fun en w' => en = .returned (.string (ofS head f e n)) ∧ Below w.heap.size w w' := by
  have hcf := fun w => Lib.hid (refRight_any f (by omega) w)
  have hce := fun w => Lib.hid (refRight_any e (by omega) w)
  have hr : Hid (ofS head f e n = if (rightB f && rightB e && inR n) = true then ((((head ++ ⟨#[47]⟩) ++ f ++ ⟨#[47]⟩) ++ e) ++ ⟨#[47]⟩) ++ twoS n else ⟨#[]⟩) := rfl
  generalize rightB f = bf at hcf hr
  generalize rightB e = be at hce hr
  go_enter Tryd.func16, Tryd.ntmps16
  go_wp2_with fail
  refine (hcf w).out.mono ?_
  rintro en w1 ⟨rfl, rfl⟩
  cases bf with
  | false =>
    go_wp2
    go_ret
    rw [hr.out]
    exact ⟨rfl, Below.refl _ _⟩
  | true =>
    go_wp2_with fail
    refine (hce w).out.mono ?_
    rintro en w2 ⟨rfl, rfl⟩
    cases be with
    | false =>
      go_wp2
      go_ret
      rw [hr.out]
      exact ⟨rfl, Below.refl _ _⟩
    | true =>
      by_cases h : 1 ≤ n ∧ n ≤ 24
      · have hr2 : Hid (ofS head f e n = ((((head ++ ⟨#[47]⟩) ++ f ++ ⟨#[47]⟩) ++ e) ++ ⟨#[47]⟩) ++ twoS n) := by show _ = _; rw [hr.out, show inR n = true from decide_eq_true h]; rfl
        obtain ⟨hsz, hem⟩ := twoS_some n h
        have hc := fun w => Lib.hid (refTwo_any n w)
        clear h hr
        generalize twoS n = D at hr2 hem hc hsz
        go_wp2_with fail
        refine (hc w).out.mono ?_
        rintro en w3 ⟨rfl, hb3⟩
        go_wp2_with fail
        refine (hc w3).out.mono ?_
        rintro en w4 ⟨rfl, hb4⟩
        have hb5 := below_step hb3 hb4
        go_wp2
        go_ret
        rw [hr2.out]
        exact ⟨rfl, hb5⟩
      · have hr2 : Hid (ofS head f e n = ⟨#[]⟩) := by show _ = _; rw [hr.out, show inR n = false from decide_eq_false h]; rfl
        have hc := Lib.hid (refTwo_any n w)
        rw [twoS_none n h] at hc
        clear h hr
        go_wp2_with fail
        refine hc.out.mono ?_
        rintro en w3 ⟨rfl, hb3⟩
        go_wp2
        go_ret
        rw [hr2.out]
        exact ⟨rfl, hb3⟩
def tempS (s : ByteArray) : ByteArray := s ++ ⟨#[126]⟩
set_option maxHeartbeats 1000000 in
theorem temp_any (s : ByteArray) (hs : s.size ≤ 1000000000000000000) (w : World) : Calls Tryd.prog 10 #[.string s] w fun en w' => en = .returned (.string (tempS s)) ∧ w = w' := by
  go_enter Tryd.func10, Tryd.ntmps10
  go_wp2
  go_ret
  exact ⟨rfl, rfl⟩
def isTempB (s : ByteArray) : Bool := Lib.hasSuffix s.data.toList [126]
set_option maxHeartbeats 1000000 in
theorem isTemp_any (s : ByteArray) (hs : s.size ≤ 1000000000000000001) (w : World) : Calls Tryd.prog 11 #[.string s] w fun en w' => en = .returned (.bool (isTempB s)) ∧ w = w' := by
  have hc := Lib.hid (Tryd.strings_HasSuffix s ⟨#[126]⟩ w (by omega))
  have hc2 : Hid (Calls Tryd.prog 21 #[.string s, .string ⟨#[126]⟩] w fun e w' => e = .returned (.bool (isTempB s)) ∧ w' = w) := hc.out
  clear hc
  generalize isTempB s = q at hc2 ⊢
  go_enter Tryd.func11, Tryd.ntmps11
  go_wp2_with fail
  refine hc2.out.mono ?_
  rintro en w1 ⟨rfl, rfl⟩
  go_wp2
  go_ret
  exact ⟨rfl, rfl⟩
theorem isTemp_temp (s : ByteArray) : isTempB (tempS s) = true := by
  unfold isTempB tempS Lib.hasSuffix
  rw [ByteArray.data_append]
  simp
end Go.Proofs.YtbmegoemimfiaaaDoor

/-
  PathForms: the walk.
-/
import Derived.Test.YtbmegoemimfiaaaDoorRows
import Derived.Test.YtbmegoemimfiaaaDoorW5
import Derived.Test.YtbmegoemimfiaaaDoorLoose
import Derived.WalkKit
import Derived.WalkSpells
import Derived.WalkLawsBesides
import Derived.Outline
import Derived.Laws.StructEq
import Derived.Deep.Light
import Derived.Deep.QuietTactic
import Derived.BigQuiet
import Derived.Lib.Hide
namespace Go.Proofs.YtbmegoemimfiaaaDoor
open Go Go.RowKit Go.Shelf
set_option maxRecDepth 100000
set_option linter.unusedVariables false
set_option linter.unusedSimpArgs false

def suf (j : Nat) : ByteArray := (⟨#[48, 49, 50, 51, 52, 53, 54, 55, 56, 57].extract j 10⟩)
def dg (j : Nat) : ByteArray := ⟨#[UInt8.ofNat (48 + j)]⟩
theorem dg_two (i : Nat) (h : 1 ≤ i) (h2 : i ≤ 24) : dg (i / 10) ++ dg (i % 10) = twoS i := by
  have e : twoS i = ⟨#[UInt8.ofNat (48 + i / 10), UInt8.ofNat (48 + i % 10)]⟩ := if_pos (by omega)
  rw [e]
  apply ByteArray.ext
  rw [ByteArray.data_append]
  rfl
theorem isT1 : isTempB ⟨#[126]⟩ = true := by decide +kernel
theorem isT2 : isTempB ⟨#[]⟩ = false := by decide +kernel
theorem isT3 : isTempB ⟨#[97, 126, 98]⟩ = false := by decide +kernel
theorem lg1 : logS ⟨#[102, 49]⟩ ⟨#[97, 98]⟩ = ⟨#[108, 111, 103, 47, 102, 49, 47, 97, 98]⟩ := ba_ext (by decide +kernel)
theorem lg2 : logS ⟨#[102]⟩ ⟨#[]⟩ = ⟨#[]⟩ := ba_ext (by decide +kernel)
theorem lg3 : logS ⟨#[70]⟩ ⟨#[97]⟩ = ⟨#[]⟩ := ba_ext (by decide +kernel)
theorem of_out (head f e : ByteArray) (n : Int) (h : ¬ (1 ≤ n ∧ n ≤ 24)) : ofS head f e n = ⟨#[]⟩ := by
  unfold ofS
  rw [show inR n = false from decide_eq_false h]
  simp
theorem of_bad1 (head f e : ByteArray) (n : Int) (h : rightB f = false) : ofS head f e n = ⟨#[]⟩ := by
  unfold ofS
  rw [h]
  simp
theorem of_bad2 (head f e : ByteArray) (n : Int) (h : rightB e = false) : ofS head f e n = ⟨#[]⟩ := by
  unfold ofS
  rw [h]
  simp
theorem of_good (head f e : ByteArray) (n : Int) (hf : rightB f = true) (he : rightB e = true) (h : 1 ≤ n ∧ n ≤ 24) : ofS head f e n = ((((head ++ ⟨#[47]⟩) ++ f ++ ⟨#[47]⟩) ++ e) ++ ⟨#[47]⟩) ++ twoS n := by
  unfold ofS
  rw [hf, he, show inR n = true from decide_eq_true h]
  rfl
theorem gone_good (i : Nat) (h : 1 ≤ i) (h2 : i ≤ 24) : ofS ⟨#[103, 111, 110, 101]⟩ ⟨#[102, 49]⟩ ⟨#[120]⟩ i = ⟨#[103, 111, 110, 101, 47, 102, 49, 47, 120, 47]⟩ ++ twoS i := by
  rw [of_good _ _ _ _ (by decide +kernel) (by decide +kernel) (by omega)]
  congr 1
theorem box_good (i : Nat) (h : 1 ≤ i) (h2 : i ≤ 24) : ofS ⟨#[98, 111, 120]⟩ ⟨#[102, 49]⟩ ⟨#[120]⟩ i = ⟨#[98, 111, 120, 47, 102, 49, 47, 120, 47]⟩ ++ twoS i := by
  rw [of_good _ _ _ _ (by decide +kernel) (by decide +kernel) (by omega)]
  congr 1
theorem temp_epoch : tempS ⟨#[101, 112, 111, 99, 104]⟩ = ⟨#[101, 112, 111, 99, 104, 126]⟩ := ba_ext (by decide +kernel)
def FormRel (w : World) (i : Value) (wr : World) : Prop := ∃ k : Nat, k ≤ 10 ∧ i = .int .i64 k ∧ w = wr
set_option maxHeartbeats 40000000 in
theorem pathForms_walk (n : Int) (w : World) : Calls Tryd.prog 3 #[.int .i64 n] w fun en w' => en = .returned (.bool true) ∧ Below w.heap.size w w' := by
  have hm0 : 0 ≤ n % 24 := Int.emod_nonneg n (by omega)
  have hm1 : n % 24 < 24 := Int.emod_lt_of_pos n (by omega)
  go_enter Tryd.func3, Tryd.ntmps3
  go_wp2_with fail
  refine (within_any n 24 (by omega) (by omega) w).mono ?_
  rintro en y ⟨rfl, rfl⟩
  go_wp2_with fail
  obtain ⟨i, hi⟩ : ∃ i : Nat, 1 + n % 24 = (i : Int) := ⟨(1 + n % 24).toNat, by omega⟩
  rw [hi]
  have hi1 : 1 ≤ i := by omega
  have hi2 : i ≤ 24 := by omega
  clear hi hm0 hm1
  have hi24 : i = 1 ∨ i = 2 ∨ i = 3 ∨ i = 4 ∨ i = 5 ∨ i = 6 ∨ i = 7 ∨ i = 8 ∨ i = 9 ∨ i = 10 ∨ i = 11 ∨ i = 12 ∨ i = 13 ∨ i = 14 ∨ i = 15 ∨ i = 16 ∨ i = 17 ∨ i = 18 ∨ i = 19 ∨ i = 20 ∨ i = 21 ∨ i = 22 ∨ i = 23 ∨ i = 24 := by omega
  have htwo := Lib.hid (dg_two i hi1 hi2)
  obtain ⟨V, HV⟩ : ∃ V : Tmp → Value → World → Prop, Hid (V = fun sl_ v_ w_ => match sl_ with | 3 => v_ = .string (twoS i) | 9 => v_ = .int .i64 i | 10 => v_ = .int .i64 (i / 10 : Nat) | 11 => v_ = .string (suf (i / 10)) | 12 => v_ = .string (dg (i / 10)) | 13 => v_ = .int .i64 i | 14 => v_ = .int .i64 (i % 10 : Nat) | 15 => v_ = .string (suf (i % 10)) | 16 => v_ = .string (dg (i % 10)) | 17 => v_ = .string (twoS i) | _ => True) := ⟨_, rfl⟩
  refine wp_region_loose (Below w.heap.size w ·) (fun _ _ => True) V (by kernel_rfl) (by kernel_rfl) (by kernel_rfl) (Below.refl _ _).drew (fun _ => trivial) ?_ ?_ ?_
  · intro t v w w' hC hR h
    rw [HV.out] at h ⊢
    exact h
  · go_light
    simp only [List.forall_mem_cons]
    refine ⟨?_, ?_, ?_, ?_, ?_, ?_, ?_, ?_, ?_, ?_, fun _ h => by cases h⟩
    · intro ρ w1 hc hf hg ho hC hV
      have e0 := ho 0 (by decide)
      simp only [execOp]
      go_simp
      exact ⟨hC, trivial, (by show V 9 _ _; rw [HV.out]; exact rfl)⟩
    · intro ρ w1 hc hf hg ho hC hV
      have e9 : ρ (.tmp 9) = .int .i64 i := by have h := hV 9 (by decide) (by decide); rw [HV.out] at h; exact h
      rcases hi24 with rfl | rfl | rfl | rfl | rfl | rfl | rfl | rfl | rfl | rfl | rfl | rfl | rfl | rfl | rfl | rfl | rfl | rfl | rfl | rfl | rfl | rfl | rfl | rfl
      · simp only [execOp]; go_simp; exact ⟨hC, trivial, (by show V 10 _ _; rw [HV.out]; exact rfl)⟩
      · simp only [execOp]; go_simp; exact ⟨hC, trivial, (by show V 10 _ _; rw [HV.out]; exact rfl)⟩
      · simp only [execOp]; go_simp; exact ⟨hC, trivial, (by show V 10 _ _; rw [HV.out]; exact rfl)⟩
      · simp only [execOp]; go_simp; exact ⟨hC, trivial, (by show V 10 _ _; rw [HV.out]; exact rfl)⟩
      · simp only [execOp]; go_simp; exact ⟨hC, trivial, (by show V 10 _ _; rw [HV.out]; exact rfl)⟩
      · simp only [execOp]; go_simp; exact ⟨hC, trivial, (by show V 10 _ _; rw [HV.out]; exact rfl)⟩
      · simp only [execOp]; go_simp; exact ⟨hC, trivial, (by show V 10 _ _; rw [HV.out]; exact rfl)⟩
      · simp only [execOp]; go_simp; exact ⟨hC, trivial, (by show V 10 _ _; rw [HV.out]; exact rfl)⟩
      · simp only [execOp]; go_simp; exact ⟨hC, trivial, (by show V 10 _ _; rw [HV.out]; exact rfl)⟩
      · simp only [execOp]; go_simp; exact ⟨hC, trivial, (by show V 10 _ _; rw [HV.out]; exact rfl)⟩
      · simp only [execOp]; go_simp; exact ⟨hC, trivial, (by show V 10 _ _; rw [HV.out]; exact rfl)⟩
      · simp only [execOp]; go_simp; exact ⟨hC, trivial, (by show V 10 _ _; rw [HV.out]; exact rfl)⟩
      · simp only [execOp]; go_simp; exact ⟨hC, trivial, (by show V 10 _ _; rw [HV.out]; exact rfl)⟩
      · simp only [execOp]; go_simp; exact ⟨hC, trivial, (by show V 10 _ _; rw [HV.out]; exact rfl)⟩
      · simp only [execOp]; go_simp; exact ⟨hC, trivial, (by show V 10 _ _; rw [HV.out]; exact rfl)⟩
      · simp only [execOp]; go_simp; exact ⟨hC, trivial, (by show V 10 _ _; rw [HV.out]; exact rfl)⟩
      · simp only [execOp]; go_simp; exact ⟨hC, trivial, (by show V 10 _ _; rw [HV.out]; exact rfl)⟩
      · simp only [execOp]; go_simp; exact ⟨hC, trivial, (by show V 10 _ _; rw [HV.out]; exact rfl)⟩
      · simp only [execOp]; go_simp; exact ⟨hC, trivial, (by show V 10 _ _; rw [HV.out]; exact rfl)⟩
      · simp only [execOp]; go_simp; exact ⟨hC, trivial, (by show V 10 _ _; rw [HV.out]; exact rfl)⟩
      · simp only [execOp]; go_simp; exact ⟨hC, trivial, (by show V 10 _ _; rw [HV.out]; exact rfl)⟩
      · simp only [execOp]; go_simp; exact ⟨hC, trivial, (by show V 10 _ _; rw [HV.out]; exact rfl)⟩
      · simp only [execOp]; go_simp; exact ⟨hC, trivial, (by show V 10 _ _; rw [HV.out]; exact rfl)⟩
      · simp only [execOp]; go_simp; exact ⟨hC, trivial, (by show V 10 _ _; rw [HV.out]; exact rfl)⟩
    · intro ρ w1 hc hf hg ho hC hV
      have e10 : ρ (.tmp 10) = .int .i64 (i / 10 : Nat) := by have h := hV 10 (by decide) (by decide); rw [HV.out] at h; exact h
      rcases hi24 with rfl | rfl | rfl | rfl | rfl | rfl | rfl | rfl | rfl | rfl | rfl | rfl | rfl | rfl | rfl | rfl | rfl | rfl | rfl | rfl | rfl | rfl | rfl | rfl
      · simp only [execOp]; go_simp; exact ⟨hC, trivial, (by show V 11 _ _; rw [HV.out]; exact rfl)⟩
      · simp only [execOp]; go_simp; exact ⟨hC, trivial, (by show V 11 _ _; rw [HV.out]; exact rfl)⟩
      · simp only [execOp]; go_simp; exact ⟨hC, trivial, (by show V 11 _ _; rw [HV.out]; exact rfl)⟩
      · simp only [execOp]; go_simp; exact ⟨hC, trivial, (by show V 11 _ _; rw [HV.out]; exact rfl)⟩
      · simp only [execOp]; go_simp; exact ⟨hC, trivial, (by show V 11 _ _; rw [HV.out]; exact rfl)⟩
      · simp only [execOp]; go_simp; exact ⟨hC, trivial, (by show V 11 _ _; rw [HV.out]; exact rfl)⟩
      · simp only [execOp]; go_simp; exact ⟨hC, trivial, (by show V 11 _ _; rw [HV.out]; exact rfl)⟩
      · simp only [execOp]; go_simp; exact ⟨hC, trivial, (by show V 11 _ _; rw [HV.out]; exact rfl)⟩
      · simp only [execOp]; go_simp; exact ⟨hC, trivial, (by show V 11 _ _; rw [HV.out]; exact rfl)⟩
      · simp only [execOp]; go_simp; exact ⟨hC, trivial, (by show V 11 _ _; rw [HV.out]; exact rfl)⟩
      · simp only [execOp]; go_simp; exact ⟨hC, trivial, (by show V 11 _ _; rw [HV.out]; exact rfl)⟩
      · simp only [execOp]; go_simp; exact ⟨hC, trivial, (by show V 11 _ _; rw [HV.out]; exact rfl)⟩
      · simp only [execOp]; go_simp; exact ⟨hC, trivial, (by show V 11 _ _; rw [HV.out]; exact rfl)⟩
      · simp only [execOp]; go_simp; exact ⟨hC, trivial, (by show V 11 _ _; rw [HV.out]; exact rfl)⟩
      · simp only [execOp]; go_simp; exact ⟨hC, trivial, (by show V 11 _ _; rw [HV.out]; exact rfl)⟩
      · simp only [execOp]; go_simp; exact ⟨hC, trivial, (by show V 11 _ _; rw [HV.out]; exact rfl)⟩
      · simp only [execOp]; go_simp; exact ⟨hC, trivial, (by show V 11 _ _; rw [HV.out]; exact rfl)⟩
      · simp only [execOp]; go_simp; exact ⟨hC, trivial, (by show V 11 _ _; rw [HV.out]; exact rfl)⟩
      · simp only [execOp]; go_simp; exact ⟨hC, trivial, (by show V 11 _ _; rw [HV.out]; exact rfl)⟩
      · simp only [execOp]; go_simp; exact ⟨hC, trivial, (by show V 11 _ _; rw [HV.out]; exact rfl)⟩
      · simp only [execOp]; go_simp; exact ⟨hC, trivial, (by show V 11 _ _; rw [HV.out]; exact rfl)⟩
      · simp only [execOp]; go_simp; exact ⟨hC, trivial, (by show V 11 _ _; rw [HV.out]; exact rfl)⟩
      · simp only [execOp]; go_simp; exact ⟨hC, trivial, (by show V 11 _ _; rw [HV.out]; exact rfl)⟩
      · simp only [execOp]; go_simp; exact ⟨hC, trivial, (by show V 11 _ _; rw [HV.out]; exact rfl)⟩
    · intro ρ w1 hc hf hg ho hC hV
      have e11 : ρ (.tmp 11) = .string (suf (i / 10)) := by have h := hV 11 (by decide) (by decide); rw [HV.out] at h; exact h
      rcases hi24 with rfl | rfl | rfl | rfl | rfl | rfl | rfl | rfl | rfl | rfl | rfl | rfl | rfl | rfl | rfl | rfl | rfl | rfl | rfl | rfl | rfl | rfl | rfl | rfl
      · simp only [execOp]; rw [e11]; simp only [suf]; go_simp; exact ⟨hC, trivial, (by show V 12 _ _; rw [HV.out]; exact rfl)⟩
      · simp only [execOp]; rw [e11]; simp only [suf]; go_simp; exact ⟨hC, trivial, (by show V 12 _ _; rw [HV.out]; exact rfl)⟩
      · simp only [execOp]; rw [e11]; simp only [suf]; go_simp; exact ⟨hC, trivial, (by show V 12 _ _; rw [HV.out]; exact rfl)⟩
      · simp only [execOp]; rw [e11]; simp only [suf]; go_simp; exact ⟨hC, trivial, (by show V 12 _ _; rw [HV.out]; exact rfl)⟩
      · simp only [execOp]; rw [e11]; simp only [suf]; go_simp; exact ⟨hC, trivial, (by show V 12 _ _; rw [HV.out]; exact rfl)⟩
      · simp only [execOp]; rw [e11]; simp only [suf]; go_simp; exact ⟨hC, trivial, (by show V 12 _ _; rw [HV.out]; exact rfl)⟩
      · simp only [execOp]; rw [e11]; simp only [suf]; go_simp; exact ⟨hC, trivial, (by show V 12 _ _; rw [HV.out]; exact rfl)⟩
      · simp only [execOp]; rw [e11]; simp only [suf]; go_simp; exact ⟨hC, trivial, (by show V 12 _ _; rw [HV.out]; exact rfl)⟩
      · simp only [execOp]; rw [e11]; simp only [suf]; go_simp; exact ⟨hC, trivial, (by show V 12 _ _; rw [HV.out]; exact rfl)⟩
      · simp only [execOp]; rw [e11]; simp only [suf]; go_simp; exact ⟨hC, trivial, (by show V 12 _ _; rw [HV.out]; exact rfl)⟩
      · simp only [execOp]; rw [e11]; simp only [suf]; go_simp; exact ⟨hC, trivial, (by show V 12 _ _; rw [HV.out]; exact rfl)⟩
      · simp only [execOp]; rw [e11]; simp only [suf]; go_simp; exact ⟨hC, trivial, (by show V 12 _ _; rw [HV.out]; exact rfl)⟩
      · simp only [execOp]; rw [e11]; simp only [suf]; go_simp; exact ⟨hC, trivial, (by show V 12 _ _; rw [HV.out]; exact rfl)⟩
      · simp only [execOp]; rw [e11]; simp only [suf]; go_simp; exact ⟨hC, trivial, (by show V 12 _ _; rw [HV.out]; exact rfl)⟩
      · simp only [execOp]; rw [e11]; simp only [suf]; go_simp; exact ⟨hC, trivial, (by show V 12 _ _; rw [HV.out]; exact rfl)⟩
      · simp only [execOp]; rw [e11]; simp only [suf]; go_simp; exact ⟨hC, trivial, (by show V 12 _ _; rw [HV.out]; exact rfl)⟩
      · simp only [execOp]; rw [e11]; simp only [suf]; go_simp; exact ⟨hC, trivial, (by show V 12 _ _; rw [HV.out]; exact rfl)⟩
      · simp only [execOp]; rw [e11]; simp only [suf]; go_simp; exact ⟨hC, trivial, (by show V 12 _ _; rw [HV.out]; exact rfl)⟩
      · simp only [execOp]; rw [e11]; simp only [suf]; go_simp; exact ⟨hC, trivial, (by show V 12 _ _; rw [HV.out]; exact rfl)⟩
      · simp only [execOp]; rw [e11]; simp only [suf]; go_simp; exact ⟨hC, trivial, (by show V 12 _ _; rw [HV.out]; exact rfl)⟩
      · simp only [execOp]; rw [e11]; simp only [suf]; go_simp; exact ⟨hC, trivial, (by show V 12 _ _; rw [HV.out]; exact rfl)⟩
      · simp only [execOp]; rw [e11]; simp only [suf]; go_simp; exact ⟨hC, trivial, (by show V 12 _ _; rw [HV.out]; exact rfl)⟩
      · simp only [execOp]; rw [e11]; simp only [suf]; go_simp; exact ⟨hC, trivial, (by show V 12 _ _; rw [HV.out]; exact rfl)⟩
      · simp only [execOp]; rw [e11]; simp only [suf]; go_simp; exact ⟨hC, trivial, (by show V 12 _ _; rw [HV.out]; exact rfl)⟩
    · intro ρ w1 hc hf hg ho hC hV
      have e0 := ho 0 (by decide)
      simp only [execOp]
      go_simp
      exact ⟨hC, trivial, (by show V 13 _ _; rw [HV.out]; exact rfl)⟩
    · intro ρ w1 hc hf hg ho hC hV
      have e13 : ρ (.tmp 13) = .int .i64 i := by have h := hV 13 (by decide) (by decide); rw [HV.out] at h; exact h
      rcases hi24 with rfl | rfl | rfl | rfl | rfl | rfl | rfl | rfl | rfl | rfl | rfl | rfl | rfl | rfl | rfl | rfl | rfl | rfl | rfl | rfl | rfl | rfl | rfl | rfl
      · simp only [execOp]; go_simp; exact ⟨hC, trivial, (by show V 14 _ _; rw [HV.out]; exact rfl)⟩
      · simp only [execOp]; go_simp; exact ⟨hC, trivial, (by show V 14 _ _; rw [HV.out]; exact rfl)⟩
      · simp only [execOp]; go_simp; exact ⟨hC, trivial, (by show V 14 _ _; rw [HV.out]; exact rfl)⟩
      · simp only [execOp]; go_simp; exact ⟨hC, trivial, (by show V 14 _ _; rw [HV.out]; exact rfl)⟩
      · simp only [execOp]; go_simp; exact ⟨hC, trivial, (by show V 14 _ _; rw [HV.out]; exact rfl)⟩
      · simp only [execOp]; go_simp; exact ⟨hC, trivial, (by show V 14 _ _; rw [HV.out]; exact rfl)⟩
      · simp only [execOp]; go_simp; exact ⟨hC, trivial, (by show V 14 _ _; rw [HV.out]; exact rfl)⟩
      · simp only [execOp]; go_simp; exact ⟨hC, trivial, (by show V 14 _ _; rw [HV.out]; exact rfl)⟩
      · simp only [execOp]; go_simp; exact ⟨hC, trivial, (by show V 14 _ _; rw [HV.out]; exact rfl)⟩
      · simp only [execOp]; go_simp; exact ⟨hC, trivial, (by show V 14 _ _; rw [HV.out]; exact rfl)⟩
      · simp only [execOp]; go_simp; exact ⟨hC, trivial, (by show V 14 _ _; rw [HV.out]; exact rfl)⟩
      · simp only [execOp]; go_simp; exact ⟨hC, trivial, (by show V 14 _ _; rw [HV.out]; exact rfl)⟩
      · simp only [execOp]; go_simp; exact ⟨hC, trivial, (by show V 14 _ _; rw [HV.out]; exact rfl)⟩
      · simp only [execOp]; go_simp; exact ⟨hC, trivial, (by show V 14 _ _; rw [HV.out]; exact rfl)⟩
      · simp only [execOp]; go_simp; exact ⟨hC, trivial, (by show V 14 _ _; rw [HV.out]; exact rfl)⟩
      · simp only [execOp]; go_simp; exact ⟨hC, trivial, (by show V 14 _ _; rw [HV.out]; exact rfl)⟩
      · simp only [execOp]; go_simp; exact ⟨hC, trivial, (by show V 14 _ _; rw [HV.out]; exact rfl)⟩
      · simp only [execOp]; go_simp; exact ⟨hC, trivial, (by show V 14 _ _; rw [HV.out]; exact rfl)⟩
      · simp only [execOp]; go_simp; exact ⟨hC, trivial, (by show V 14 _ _; rw [HV.out]; exact rfl)⟩
      · simp only [execOp]; go_simp; exact ⟨hC, trivial, (by show V 14 _ _; rw [HV.out]; exact rfl)⟩
      · simp only [execOp]; go_simp; exact ⟨hC, trivial, (by show V 14 _ _; rw [HV.out]; exact rfl)⟩
      · simp only [execOp]; go_simp; exact ⟨hC, trivial, (by show V 14 _ _; rw [HV.out]; exact rfl)⟩
      · simp only [execOp]; go_simp; exact ⟨hC, trivial, (by show V 14 _ _; rw [HV.out]; exact rfl)⟩
      · simp only [execOp]; go_simp; exact ⟨hC, trivial, (by show V 14 _ _; rw [HV.out]; exact rfl)⟩
    · intro ρ w1 hc hf hg ho hC hV
      have e14 : ρ (.tmp 14) = .int .i64 (i % 10 : Nat) := by have h := hV 14 (by decide) (by decide); rw [HV.out] at h; exact h
      rcases hi24 with rfl | rfl | rfl | rfl | rfl | rfl | rfl | rfl | rfl | rfl | rfl | rfl | rfl | rfl | rfl | rfl | rfl | rfl | rfl | rfl | rfl | rfl | rfl | rfl
      · simp only [execOp]; go_simp; exact ⟨hC, trivial, (by show V 15 _ _; rw [HV.out]; exact rfl)⟩
      · simp only [execOp]; go_simp; exact ⟨hC, trivial, (by show V 15 _ _; rw [HV.out]; exact rfl)⟩
      · simp only [execOp]; go_simp; exact ⟨hC, trivial, (by show V 15 _ _; rw [HV.out]; exact rfl)⟩
      · simp only [execOp]; go_simp; exact ⟨hC, trivial, (by show V 15 _ _; rw [HV.out]; exact rfl)⟩
      · simp only [execOp]; go_simp; exact ⟨hC, trivial, (by show V 15 _ _; rw [HV.out]; exact rfl)⟩
      · simp only [execOp]; go_simp; exact ⟨hC, trivial, (by show V 15 _ _; rw [HV.out]; exact rfl)⟩
      · simp only [execOp]; go_simp; exact ⟨hC, trivial, (by show V 15 _ _; rw [HV.out]; exact rfl)⟩
      · simp only [execOp]; go_simp; exact ⟨hC, trivial, (by show V 15 _ _; rw [HV.out]; exact rfl)⟩
      · simp only [execOp]; go_simp; exact ⟨hC, trivial, (by show V 15 _ _; rw [HV.out]; exact rfl)⟩
      · simp only [execOp]; go_simp; exact ⟨hC, trivial, (by show V 15 _ _; rw [HV.out]; exact rfl)⟩
      · simp only [execOp]; go_simp; exact ⟨hC, trivial, (by show V 15 _ _; rw [HV.out]; exact rfl)⟩
      · simp only [execOp]; go_simp; exact ⟨hC, trivial, (by show V 15 _ _; rw [HV.out]; exact rfl)⟩
      · simp only [execOp]; go_simp; exact ⟨hC, trivial, (by show V 15 _ _; rw [HV.out]; exact rfl)⟩
      · simp only [execOp]; go_simp; exact ⟨hC, trivial, (by show V 15 _ _; rw [HV.out]; exact rfl)⟩
      · simp only [execOp]; go_simp; exact ⟨hC, trivial, (by show V 15 _ _; rw [HV.out]; exact rfl)⟩
      · simp only [execOp]; go_simp; exact ⟨hC, trivial, (by show V 15 _ _; rw [HV.out]; exact rfl)⟩
      · simp only [execOp]; go_simp; exact ⟨hC, trivial, (by show V 15 _ _; rw [HV.out]; exact rfl)⟩
      · simp only [execOp]; go_simp; exact ⟨hC, trivial, (by show V 15 _ _; rw [HV.out]; exact rfl)⟩
      · simp only [execOp]; go_simp; exact ⟨hC, trivial, (by show V 15 _ _; rw [HV.out]; exact rfl)⟩
      · simp only [execOp]; go_simp; exact ⟨hC, trivial, (by show V 15 _ _; rw [HV.out]; exact rfl)⟩
      · simp only [execOp]; go_simp; exact ⟨hC, trivial, (by show V 15 _ _; rw [HV.out]; exact rfl)⟩
      · simp only [execOp]; go_simp; exact ⟨hC, trivial, (by show V 15 _ _; rw [HV.out]; exact rfl)⟩
      · simp only [execOp]; go_simp; exact ⟨hC, trivial, (by show V 15 _ _; rw [HV.out]; exact rfl)⟩
      · simp only [execOp]; go_simp; exact ⟨hC, trivial, (by show V 15 _ _; rw [HV.out]; exact rfl)⟩
    · intro ρ w1 hc hf hg ho hC hV
      have e15 : ρ (.tmp 15) = .string (suf (i % 10)) := by have h := hV 15 (by decide) (by decide); rw [HV.out] at h; exact h
      rcases hi24 with rfl | rfl | rfl | rfl | rfl | rfl | rfl | rfl | rfl | rfl | rfl | rfl | rfl | rfl | rfl | rfl | rfl | rfl | rfl | rfl | rfl | rfl | rfl | rfl
      · simp only [execOp]; rw [e15]; simp only [suf]; go_simp; exact ⟨hC, trivial, (by show V 16 _ _; rw [HV.out]; exact rfl)⟩
      · simp only [execOp]; rw [e15]; simp only [suf]; go_simp; exact ⟨hC, trivial, (by show V 16 _ _; rw [HV.out]; exact rfl)⟩
      · simp only [execOp]; rw [e15]; simp only [suf]; go_simp; exact ⟨hC, trivial, (by show V 16 _ _; rw [HV.out]; exact rfl)⟩
      · simp only [execOp]; rw [e15]; simp only [suf]; go_simp; exact ⟨hC, trivial, (by show V 16 _ _; rw [HV.out]; exact rfl)⟩
      · simp only [execOp]; rw [e15]; simp only [suf]; go_simp; exact ⟨hC, trivial, (by show V 16 _ _; rw [HV.out]; exact rfl)⟩
      · simp only [execOp]; rw [e15]; simp only [suf]; go_simp; exact ⟨hC, trivial, (by show V 16 _ _; rw [HV.out]; exact rfl)⟩
      · simp only [execOp]; rw [e15]; simp only [suf]; go_simp; exact ⟨hC, trivial, (by show V 16 _ _; rw [HV.out]; exact rfl)⟩
      · simp only [execOp]; rw [e15]; simp only [suf]; go_simp; exact ⟨hC, trivial, (by show V 16 _ _; rw [HV.out]; exact rfl)⟩
      · simp only [execOp]; rw [e15]; simp only [suf]; go_simp; exact ⟨hC, trivial, (by show V 16 _ _; rw [HV.out]; exact rfl)⟩
      · simp only [execOp]; rw [e15]; simp only [suf]; go_simp; exact ⟨hC, trivial, (by show V 16 _ _; rw [HV.out]; exact rfl)⟩
      · simp only [execOp]; rw [e15]; simp only [suf]; go_simp; exact ⟨hC, trivial, (by show V 16 _ _; rw [HV.out]; exact rfl)⟩
      · simp only [execOp]; rw [e15]; simp only [suf]; go_simp; exact ⟨hC, trivial, (by show V 16 _ _; rw [HV.out]; exact rfl)⟩
      · simp only [execOp]; rw [e15]; simp only [suf]; go_simp; exact ⟨hC, trivial, (by show V 16 _ _; rw [HV.out]; exact rfl)⟩
      · simp only [execOp]; rw [e15]; simp only [suf]; go_simp; exact ⟨hC, trivial, (by show V 16 _ _; rw [HV.out]; exact rfl)⟩
      · simp only [execOp]; rw [e15]; simp only [suf]; go_simp; exact ⟨hC, trivial, (by show V 16 _ _; rw [HV.out]; exact rfl)⟩
      · simp only [execOp]; rw [e15]; simp only [suf]; go_simp; exact ⟨hC, trivial, (by show V 16 _ _; rw [HV.out]; exact rfl)⟩
      · simp only [execOp]; rw [e15]; simp only [suf]; go_simp; exact ⟨hC, trivial, (by show V 16 _ _; rw [HV.out]; exact rfl)⟩
      · simp only [execOp]; rw [e15]; simp only [suf]; go_simp; exact ⟨hC, trivial, (by show V 16 _ _; rw [HV.out]; exact rfl)⟩
      · simp only [execOp]; rw [e15]; simp only [suf]; go_simp; exact ⟨hC, trivial, (by show V 16 _ _; rw [HV.out]; exact rfl)⟩
      · simp only [execOp]; rw [e15]; simp only [suf]; go_simp; exact ⟨hC, trivial, (by show V 16 _ _; rw [HV.out]; exact rfl)⟩
      · simp only [execOp]; rw [e15]; simp only [suf]; go_simp; exact ⟨hC, trivial, (by show V 16 _ _; rw [HV.out]; exact rfl)⟩
      · simp only [execOp]; rw [e15]; simp only [suf]; go_simp; exact ⟨hC, trivial, (by show V 16 _ _; rw [HV.out]; exact rfl)⟩
      · simp only [execOp]; rw [e15]; simp only [suf]; go_simp; exact ⟨hC, trivial, (by show V 16 _ _; rw [HV.out]; exact rfl)⟩
      · simp only [execOp]; rw [e15]; simp only [suf]; go_simp; exact ⟨hC, trivial, (by show V 16 _ _; rw [HV.out]; exact rfl)⟩
    · intro ρ w1 hc hf hg ho hC hV
      have e12 : ρ (.tmp 12) = .string (dg (i / 10)) := by have h := hV 12 (by decide) (by decide); rw [HV.out] at h; exact h
      have e16 : ρ (.tmp 16) = .string (dg (i % 10)) := by have h := hV 16 (by decide) (by decide); rw [HV.out] at h; exact h
      have ht := htwo.out
      simp only [execOp]
      go_simp
      exact ⟨hC, trivial, (by show V 17 _ _; rw [HV.out]; exact rfl)⟩
    · intro ρ w1 hc hf hg ho hC hV
      have e17 : ρ (.tmp 17) = .string (twoS i) := by have h := hV 17 (by decide) (by decide); rw [HV.out] at h; exact h
      simp only [execOp]
      go_simp
      exact ⟨hC, trivial, (by show V 3 _ _; rw [HV.out]; exact rfl)⟩
  · intro σ w1 hC hV
    have v3 : σ 3 = .string (twoS i) := by have h := hV 3 (by decide); rw [HV.out] at h; exact h
    have v9 : σ 9 = .int .i64 i := by have h := hV 9 (by decide); rw [HV.out] at h; exact h
    have v10 : σ 10 = .int .i64 (i / 10 : Nat) := by have h := hV 10 (by decide); rw [HV.out] at h; exact h
    have v11 : σ 11 = .string (suf (i / 10)) := by have h := hV 11 (by decide); rw [HV.out] at h; exact h
    have v12 : σ 12 = .string (dg (i / 10)) := by have h := hV 12 (by decide); rw [HV.out] at h; exact h
    have v13 : σ 13 = .int .i64 i := by have h := hV 13 (by decide); rw [HV.out] at h; exact h
    have v14 : σ 14 = .int .i64 (i % 10 : Nat) := by have h := hV 14 (by decide); rw [HV.out] at h; exact h
    have v15 : σ 15 = .string (suf (i % 10)) := by have h := hV 15 (by decide); rw [HV.out] at h; exact h
    have v16 : σ 16 = .string (dg (i % 10)) := by have h := hV 16 (by decide); rw [HV.out] at h; exact h
    have v17 : σ 17 = .string (twoS i) := by have h := hV 17 (by decide); rw [HV.out] at h; exact h
    clear hV HV V
    dsimp only [dsts, List.filterMap, putAll, Act.put]
    have hb0 := hC
    clear hC
    rw [v3, v9, v10, v11, v12, v13, v14, v15, v16, v17]
    clear v3 v9 v10 v11 v12 v13 v14 v15 v16 v17
    go_simp
    obtain ⟨x0, hx0⟩ : ∃ x, x = w1 := ⟨_, rfl⟩
    rw [← hx0] at hb0 ⊢
    clear hx0 htwo hi24
    have hAd : ∀ W, Calls Tryd.prog 6 #[.int .i64 i] W fun e w' => e = .returned (.string (⟨#[97, 100, 109, 105, 116, 47]⟩ ++ twoS i)) ∧ W = w' := fun W => by
      have h := admit_any i W
      rwa [show admitS i = ⟨#[97, 100, 109, 105, 116, 47]⟩ ++ twoS i from if_pos (by omega)] at h
    have hLg := log_any ⟨#[102, 49]⟩ ⟨#[97, 98]⟩ (by decide) (by decide)
    rw [lg1] at hLg
    have hGo := gone_any ⟨#[102, 49]⟩ ⟨#[120]⟩ i (by decide) (by decide)
    rw [gone_good i hi1 hi2] at hGo
    have hBo := box_any ⟨#[102, 49]⟩ ⟨#[120]⟩ i (by decide) (by decide)
    rw [box_good i hi1 hi2] at hBo
    have hTe := temp_any ⟨#[101, 112, 111, 99, 104]⟩ (by decide)
    rw [temp_epoch] at hTe
    have hA0 := admit_any 0
    rw [show admitS 0 = ⟨#[]⟩ from if_neg (by omega)] at hA0
    have hA1 := admit_any (-(i : Int))
    rw [show admitS (-(i : Int)) = ⟨#[]⟩ from if_neg (by omega)] at hA1
    have hA2 := admit_any (24 + (i : Int))
    rw [show admitS (24 + (i : Int)) = ⟨#[]⟩ from if_neg (by omega)] at hA2
    have hL0 := log_any ⟨#[102]⟩ ⟨#[]⟩ (by decide) (by decide)
    rw [lg2] at hL0
    have hL1 := log_any ⟨#[70]⟩ ⟨#[97]⟩ (by decide) (by decide)
    rw [lg3] at hL1
    have hG0 := gone_any ⟨#[]⟩ ⟨#[120]⟩ i (by decide) (by decide)
    rw [of_bad1 _ _ _ _ (by decide +kernel)] at hG0
    have hG1 := gone_any ⟨#[102]⟩ ⟨#[120]⟩ 0 (by decide) (by decide)
    rw [of_out _ _ _ _ (by omega)] at hG1
    have hG2 := gone_any ⟨#[102]⟩ ⟨#[120]⟩ 25 (by decide) (by decide)
    rw [of_out _ _ _ _ (by omega)] at hG2
    have hB0 := box_any ⟨#[102]⟩ ⟨#[88]⟩ i (by decide) (by decide)
    rw [of_bad2 _ _ _ _ (by decide +kernel)] at hB0
    have hB1 := box_any ⟨#[102]⟩ ⟨#[120]⟩ (-1) (by decide) (by decide)
    rw [of_out _ _ _ _ (by omega)] at hB1
    have hsz := (twoS_some i (by omega)).1
    generalize twoS i = D at hAd hGo hBo hsz ⊢
    replace hAd := Lib.hid hAd
    replace hLg := Lib.hid hLg
    replace hGo := Lib.hid hGo
    replace hBo := Lib.hid hBo
    replace hTe := Lib.hid hTe
    replace hA0 := Lib.hid hA0
    replace hA1 := Lib.hid hA1
    replace hA2 := Lib.hid hA2
    replace hL0 := Lib.hid hL0
    replace hL1 := Lib.hid hL1
    replace hG0 := Lib.hid hG0
    replace hG1 := Lib.hid hG1
    replace hG2 := Lib.hid hG2
    replace hB0 := Lib.hid hB0
    replace hB1 := Lib.hid hB1
    go_wp2_with fail
    refine (hAd.out x0).mono ?_
    rintro en y ⟨rfl, rfl⟩
    go_wp2_with fail
    refine (hLg.out x0).mono ?_
    rintro en x1 ⟨rfl, hc1⟩
    have hb1 := below_step hb0 hc1
    clear hb0 hc1
    go_wp2_with fail
    refine (hGo.out x1).mono ?_
    rintro en x2 ⟨rfl, hc2⟩
    have hb2 := below_step hb1 hc2
    clear hb1 hc2
    go_wp2_with fail
    refine (hBo.out x2).mono ?_
    rintro en x3 ⟨rfl, hc3⟩
    have hb3 := below_step hb2 hc3
    clear hb2 hc3
    go_wp2_with fail
    refine (hTe.out x3).mono ?_
    rintro en y ⟨rfl, rfl⟩
    go_wp2_with fail
    refine (hA0.out x3).mono ?_
    rintro en y ⟨rfl, rfl⟩
    go_wp2_with fail
    refine (hA1.out x3).mono ?_
    rintro en y ⟨rfl, rfl⟩
    go_wp2_with fail
    refine (hA2.out x3).mono ?_
    rintro en y ⟨rfl, rfl⟩
    go_wp2_with fail
    refine (hL0.out x3).mono ?_
    rintro en x4 ⟨rfl, hc4⟩
    have hb4 := below_step hb3 hc4
    clear hb3 hc4
    go_wp2_with fail
    refine (hL1.out x4).mono ?_
    rintro en x5 ⟨rfl, hc5⟩
    have hb5 := below_step hb4 hc5
    clear hb4 hc5
    go_wp2_with fail
    refine (hG0.out x5).mono ?_
    rintro en x6 ⟨rfl, hc6⟩
    have hb6 := below_step hb5 hc6
    clear hb5 hc6
    go_wp2_with fail
    refine (hG1.out x6).mono ?_
    rintro en x7 ⟨rfl, hc7⟩
    have hb7 := below_step hb6 hc7
    clear hb6 hc7
    go_wp2_with fail
    refine (hG2.out x7).mono ?_
    rintro en x8 ⟨rfl, hc8⟩
    have hb8 := below_step hb7 hc8
    clear hb7 hc8
    go_wp2_with fail
    refine (hB0.out x8).mono ?_
    rintro en x9 ⟨rfl, hc9⟩
    have hb9 := below_step hb8 hc9
    clear hb8 hc9
    go_wp2_with fail
    refine (hB1.out x9).mono ?_
    rintro en x10 ⟨rfl, hc10⟩
    have hb10 := below_step hb9 hc10
    clear hb9 hc10
    go_wp2_with fail
    generalize hW : World.alloc _ _ = X
    have hcells : Hid (∀ k, k < 10 → X.cell? ⟨x10.heap.size, k, none⟩ = some (.string ⟨#[]⟩)) := by
      intro k hk
      rw [← hW, cell_new]
      have : k = 0 ∨ k = 1 ∨ k = 2 ∨ k = 3 ∨ k = 4 ∨ k = 5 ∨ k = 6 ∨ k = 7 ∨ k = 8 ∨ k = 9 := by omega
      rcases this with rfl | rfl | rfl | rfl | rfl | rfl | rfl | rfl | rfl | rfl <;> rfl
    have hbX : Below w.heap.size w X := by rw [← hW]; exact below_alloc hb10 _
    clear hW hb10 hAd hLg hGo hBo hTe hA0 hA1 hA2 hL0 hL1 hG0 hG1 hG2 hB0 hB1
    have hI1 := isTemp_any ⟨#[126]⟩ (by decide) X
    rw [isT1] at hI1
    have hI2 := isTemp_any ⟨#[]⟩ (by decide) X
    rw [isT2] at hI2
    have hI3 := isTemp_any ⟨#[97, 126, 98]⟩ (by decide) X
    rw [isT3] at hI3
    replace hI1 := Lib.hid hI1
    replace hI2 := Lib.hid hI2
    replace hI3 := Lib.hid hI3
    go_loop [66] (fun i => ∃ k : Nat, k ≤ 10 ∧ i = .int .i64 k) (fun i => 10 - (intOf i).toNat)
    case atStart => exact ⟨0, Nat.zero_le _, rfl⟩
    case round =>
      obtain ⟨k, hk, rfl⟩ := hrel
      by_cases hlt : k < 10
      · have hc := hcells.out k hlt
        go_wp2
        go_round
        case rel => exact ⟨k + 1, by omega, by go_num⟩
        case measure => simp [intOf]; omega
      · go_wp2_with fail
        refine hI1.out.mono ?_
        rintro en y ⟨rfl, rfl⟩
        go_wp2_with fail
        refine hI2.out.mono ?_
        rintro en y ⟨rfl, rfl⟩
        go_wp2_with fail
        refine hI3.out.mono ?_
        rintro en y ⟨rfl, rfl⟩
        go_wp2_with fail
        refine (wakes06 X).mono ?_
        rintro en y ⟨rfl, rfl⟩
        go_wp2
        go_ret
        exact ⟨rfl, hbX⟩
end Go.Proofs.YtbmegoemimfiaaaDoor

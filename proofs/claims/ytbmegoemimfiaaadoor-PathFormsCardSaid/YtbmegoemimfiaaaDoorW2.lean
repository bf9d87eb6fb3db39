/-
  names: name.Right, name.Key and the document's own: the walks.
-/
import Derived.Test.YtbmegoemimfiaaaDoorRows
import Derived.Test.YtbmegoemimfiaaaDoorW1
import Derived.WalkKit
import Derived.WalkSpells
import Derived.WalkLawsBesides
import Derived.Outline
import Derived.Laws.StructEq
import Derived.Deep.Light
import Derived.Deep.QuietTactic
import Derived.BigQuiet
import Derived.Lib.Hide
namespace Go.Proofs.YtbmegoemimfiaaaDoor
open Go Go.RowKit Go.Shelf
set_option maxRecDepth 100000
set_option linter.unusedVariables false
set_option linter.unusedSimpArgs false

def signs : List UInt8 := [97, 98, 99, 100, 101, 102, 103, 104, 105, 106, 107, 108, 109, 110, 111, 112, 113, 114, 115, 116, 117, 118, 119, 120, 121, 122, 48, 49, 50, 51, 52, 53, 54, 55, 56, 57]
def okc (c : UInt8) : Bool := (decide (97 ≤ c.toNat) && decide (c.toNat ≤ 122)) || (decide (48 ≤ c.toNat) && decide (c.toNat ≤ 57))
theorem signs_nat : ∀ n, n < 256 → signs.contains (UInt8.ofNat n) = okc (UInt8.ofNat n) := by decide +kernel
theorem signs_okc (c : UInt8) : signs.contains c = okc c := by
  have := signs_nat c.toNat c.toNat_lt
  rwa [UInt8.ofNat_toNat] at this
def rightB (s : ByteArray) : Bool := decide (1 ≤ s.size) && (decide (s.size ≤ 8) && s.data.toList.all okc)
theorem dropWhile_nil {α : Type} (p : α → Bool) (l : List α) : l.dropWhile p = [] ↔ l.all p = true := by
  induction l with
  | nil => simp
  | cons a l ih =>
    rw [List.dropWhile_cons]
    rcases h : p a with _ | _ <;> simp [h, ih]
theorem trim_nil (l : List UInt8) : Lib.trimS l signs = [] ↔ l.all okc = true := by
  have e : (fun c => signs.contains c) = okc := funext signs_okc
  unfold Lib.trimS Lib.trimLeftS Lib.trimRightS
  rw [dropWhile_nil]
  rw [show (fun x => signs.contains x) = okc from e]
  constructor
  · intro h
    by_cases hd : (l.reverse.dropWhile okc) = []
    · have := (dropWhile_nil okc l.reverse).1 hd
      simpa using this
    · exfalso
      obtain ⟨a, r, hr⟩ : ∃ a r, l.reverse.dropWhile okc = a :: r := by
        cases h2 : l.reverse.dropWhile okc with
        | nil => exact absurd h2 hd
        | cons a r => exact ⟨a, r, rfl⟩
      have ha : okc a = false := by
        have := List.head_dropWhile_not okc (l := l.reverse) (by rw [hr]; simp)
        simpa [hr] using this
      rw [hr] at h
      simp [ha] at h
  · intro h
    have : l.reverse.dropWhile okc = [] := (dropWhile_nil okc l.reverse).2 (by simpa using h)
    rw [this]
    rfl
theorem empty_spell (s : ByteArray) : s.toList.isEmpty = decide (s.size = 0) := by
  rw [ByteArray.toList_eq]
  obtain ⟨⟨l⟩⟩ := s
  cases l <;> simp [ByteArray.size]
set_option maxHeartbeats 1000000 in
theorem right_any (s : ByteArray) (hs : s.size ≤ 9223372036854775807) (w : World) : Calls Tryd.prog 27 #[.string s] w fun e w' => e = .returned (.bool (rightB s)) ∧ Below w.heap.size w w' := by
  have hem := empty_spell s
  by_cases h0 : s.size = 0
  · have hr : Hid (rightB s = false) := by show _ = _; simp [rightB, h0]
    rw [decide_eq_true h0] at hem
    clear h0
    go_enter Tryd.func27, Tryd.ntmps27
    go_wp2
    go_ret
    rw [hr.out]
    exact ⟨rfl, Below.refl _ _⟩
  · rw [decide_eq_false h0] at hem
    have h1 : 1 ≤ s.size := by omega
    clear h0
    by_cases h8 : 8 < s.size
    · have hr : Hid (rightB s = false) := by show _ = _; simp [rightB, show ¬ s.size ≤ 8 by omega]
      go_enter Tryd.func27, Tryd.ntmps27
      go_wp2
      go_ret
      rw [hr.out]
      exact ⟨rfl, Below.refl _ _⟩
    · have hcon := Any.strings_Trim_laid Tryd.lays160 (by kernel_rfl) s ⟨#[97, 98, 99, 100, 101, 102, 103, 104, 105, 106, 107, 108, 109, 110, 111, 112, 113, 114, 115, 116, 117, 118, 119, 120, 121, 122, 48, 49, 50, 51, 52, 53, 54, 55, 56, 57]⟩ w hs (by decide) (ascii_of_all (by decide))
      change Calls Tryd.prog 37 _ _ (fun e w' => e = .returned (.string ⟨(Lib.trimS s.data.toList signs).toArray⟩) ∧ Below w.heap.size w w') at hcon
      have hr : Hid (rightB s = (⟨(Lib.trimS s.data.toList signs).toArray⟩ : ByteArray).toList.isEmpty) := by
        show _ = _
        rw [ByteArray.toList_eq]
        have e := trim_nil s.data.toList
        unfold rightB
        rw [decide_eq_true h1, decide_eq_true (show s.size ≤ 8 by omega)]
        rw [Bool.eq_iff_iff, List.isEmpty_iff]
        simp [e]
      have HC := Lib.hid hcon
      clear hcon
      generalize (⟨(Lib.trimS s.data.toList signs).toArray⟩ : ByteArray) = r at HC hr
      go_enter Tryd.func27, Tryd.ntmps27
      go_wp2_with fail
      refine HC.out.mono ?_
      rintro e w' ⟨rfl, hB⟩
      go_wp2
      go_ret
      rw [hr.out]
      exact ⟨rfl, hB⟩
end Go.Proofs.YtbmegoemimfiaaaDoor

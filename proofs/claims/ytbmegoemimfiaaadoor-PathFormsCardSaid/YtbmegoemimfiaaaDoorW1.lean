/-
  path's leaves and the document's own: numbers of two digits, names: the walks.
-/
import Derived.Test.YtbmegoemimfiaaaDoorRows
import Derived.Test.YtbmegoemimfiaaaDoorShelf
import Derived.WalkKit
import Derived.WalkSpells
import Derived.WalkLawsBesides
import Derived.Outline
import Derived.Laws.StructEq
import Derived.Deep.Light
import Derived.Deep.QuietTactic
import Derived.BigQuiet
import Derived.Lib.Hide
namespace Go.Proofs.YtbmegoemimfiaaaDoor
open Go Go.RowKit Go.Shelf
set_option maxRecDepth 100000
set_option linter.unusedVariables false
set_option linter.unusedSimpArgs false

theorem below_size {w W : World} (h : Below w.heap.size w W) : w.heap.size ≤ W.heap.size := h.size
theorem below_step {w w1 w2 : World} (h : Below w.heap.size w w1) (k : Below w1.heap.size w1 w2) : Below w.heap.size w w2 := h.trans (k.mono h.size)
theorem below_alloc {w W : World} (h : Below w.heap.size w W) (o : Obj) : Below w.heap.size w (W.alloc o) := h.alloc h.size o
theorem cell_below {w w1 : World} (h : Below w.heap.size w w1) {a : Addr} {v : Value} (hc : w.cell? a = some v) : w1.cell? a = some v := (h.cell (World.block_lt_of_cell? w a hc)).trans hc
theorem cell_new (w : World) (cs : Array Value) (t : TypeId) (j : Nat) : (w.alloc (.cells cs t)).cell? ⟨w.heap.size, j, none⟩ = cs[j]? := by
  have := cell_of_row (w.alloc (.cells cs t)) w.heap.size j cs t (0, 0) (heap_alloc_new w _)
  exact this
def twoS (n : Int) : ByteArray := if 1 ≤ n ∧ n ≤ 24 then ⟨#[UInt8.ofNat (48 + n.toNat / 10), UInt8.ofNat (48 + n.toNat % 10)]⟩ else ⟨#[]⟩
def numS (i : Nat) : ByteArray := ⟨(Lib.decDigits i).toArray⟩
theorem num_one : ∀ i, i < 10 → 1 ≤ i → (numS i).size = 1 ∧ ((⟨#[48]⟩ : ByteArray) ++ numS i).data.toList = (twoS i).data.toList := by decide +kernel
theorem num_two : ∀ i, i < 25 → 10 ≤ i → (numS i).size = 2 ∧ (numS i).data.toList = (twoS i).data.toList := by decide +kernel
theorem ba_ext {a b : ByteArray} (h : a.data.toList = b.data.toList) : a = b := by
  apply ByteArray.ext
  exact Array.toList_inj.1 h
theorem empty_add (a : ByteArray) : (⟨#[]⟩ : ByteArray) ++ a = a := by
  apply ba_ext
  rw [ByteArray.data_append]
  simp
set_option maxHeartbeats 1000000 in
theorem two_any (n : Int) (w : World) : Calls Tryd.prog 18 #[.int .i64 n] w fun e w' => e = .returned (.string (twoS n)) ∧ w = w' := by
  by_cases h1 : n < 1
  · have ht : Hid (twoS n = ⟨#[]⟩) := if_neg (by omega)
    go_enter Tryd.func18, Tryd.ntmps18
    go_wp2
    go_ret
    rw [ht.out]
    exact ⟨rfl, rfl⟩
  · by_cases h2 : 24 < n
    · have ht : Hid (twoS n = ⟨#[]⟩) := if_neg (by omega)
      go_enter Tryd.func18, Tryd.ntmps18
      go_wp2
      go_ret
      rw [ht.out]
      exact ⟨rfl, rfl⟩
    · obtain ⟨i, rfl⟩ : ∃ i : Nat, n = i := ⟨n.toNat, by omega⟩
      by_cases h3 : i < 10
      · obtain ⟨hs, hd⟩ := num_one i h3 (by omega)
        have ht : Hid ((⟨#[48]⟩ : ByteArray) ++ numS i = twoS i) := ba_ext hd
        have hc := Lib.hid (Tryd.strconv_Itoa_small i (by omega) w)
        have hc2 : Hid (Calls Tryd.prog 25 #[.int .i64 i] w fun e w' => e = .returned (.string (numS i)) ∧ w' = w) := hc.out
        clear hc hd
        generalize numS i = D at hs ht hc2
        go_enter Tryd.func18, Tryd.ntmps18
        go_wp2_with fail
        refine hc2.out.mono ?_
        rintro e w' ⟨rfl, rfl⟩
        go_wp2_with fail
        refine (Tryd.strings_Repeat_one ⟨#[48]⟩ w').mono ?_
        rintro e w2 ⟨rfl, rfl⟩
        go_wp2
        go_ret
        rw [← ht.out]
        exact ⟨rfl, rfl⟩
      · obtain ⟨hs, hd⟩ := num_two i (by omega) (by omega)
        have ht : Hid ((⟨#[]⟩ : ByteArray) ++ numS i = twoS i) := (empty_add _).trans (ba_ext hd)
        have hc2 : Hid (Calls Tryd.prog 25 #[.int .i64 i] w fun e w' => e = .returned (.string (numS i)) ∧ w' = w) := Tryd.strconv_Itoa_small i (by omega) w
        clear hd
        generalize numS i = D at hs ht hc2
        go_enter Tryd.func18, Tryd.ntmps18
        go_wp2_with fail
        refine hc2.out.mono ?_
        rintro e w' ⟨rfl, rfl⟩
        go_wp2_with fail
        refine (Tryd.strings_Repeat_zero ⟨#[48]⟩ w').mono ?_
        rintro e w2 ⟨rfl, rfl⟩
        go_wp2
        go_ret
        rw [← ht.out]
        exact ⟨rfl, rfl⟩
theorem two_nums : ∀ i : Nat, i < 25 → 1 ≤ i → (strOfNums [48 + (i : Int) / 10, 48 + (i : Int) % 10]).data.toList = (twoS i).data.toList := by decide +kernel
set_option maxHeartbeats 1000000 in
theorem refTwo_any (n : Int) (w : World) : Calls Tryd.prog 23 #[.int .i64 n] w fun e w' => e = .returned (.string (twoS n)) ∧ Below w.heap.size w w' := by
  by_cases h1 : n < 1
  · have ht : Hid (twoS n = ⟨#[]⟩) := if_neg (by omega)
    go_enter Tryd.func23, Tryd.ntmps23
    go_wp2
    go_ret
    rw [ht.out]
    exact ⟨rfl, Below.refl _ _⟩
  · by_cases h2 : 24 < n
    · have ht : Hid (twoS n = ⟨#[]⟩) := if_neg (by omega)
      go_enter Tryd.func23, Tryd.ntmps23
      go_wp2
      go_ret
      rw [ht.out]
      exact ⟨rfl, Below.refl _ _⟩
    · have ht : Hid (strOfNums [48 + n / 10, 48 + n % 10] = twoS n) := by
        obtain ⟨i, rfl⟩ : ∃ i : Nat, n = i := ⟨n.toNat, by omega⟩
        exact ba_ext (two_nums i (by omega) (by omega))
      have hcv : ∀ dst, Tryd.prog.underlying dst = some .string → (convert 40 dst (.slice (some ⟨w.heap.size, 0, none⟩) 2 2)).run Tryd.prog (w.alloc (.cells #[.int .u8 (48 + n / 10), .int .u8 (48 + n % 10)] 5)) = .ok (.string (strOfNums [48 + n / 10, 48 + n % 10])) (w.alloc (.cells #[.int .u8 (48 + n / 10), .int .u8 (48 + n % 10)] 5)) := by
        refine run_convert_bytes_arg _ 40 5 Tryd.underlying40 Tryd.underlying5 w.heap.size 0 2 2 [48 + n / 10, 48 + n % 10] rfl ?_
        intro i hi
        have : i = 0 ∨ i = 1 := by omega
        rcases this with rfl | rfl
        · exact cell_new w _ 5 0
        · exact cell_new w _ 5 1
      have hcv9 := hcv 9 Tryd.underlying9
      clear hcv
      generalize strOfNums [48 + n / 10, 48 + n % 10] = D at ht hcv9
      go_enter Tryd.func23, Tryd.ntmps23
      go_wp2
      go_ret
      rw [← ht.out]
      exact ⟨rfl, below_alloc (Below.refl _ _) _⟩
end Go.Proofs.YtbmegoemimfiaaaDoor

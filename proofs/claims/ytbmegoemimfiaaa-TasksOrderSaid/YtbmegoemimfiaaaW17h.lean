/-
  TasksOrder: the closure.
-/
import Derived.Test.YtbmegoemimfiaaaRows
import Derived.Test.YtbmegoemimfiaaaW17g
import Derived.WalkKit
import Derived.WalkSpells
import Derived.WalkLawsBesides
import Derived.Outline
import Derived.Laws.StructEq
import Derived.Deep.Light
import Derived.Deep.QuietTactic
import Derived.BigQuiet
import Derived.Maps.OwnOps
import Derived.Maps.OwnSet
import Derived.Lib.Hide
namespace Go.Proofs.Ytbmegoemimfiaaa
open Go Go.RowKit
set_option maxRecDepth 100000
set_option linter.unusedVariables false
set_option linter.unusedSimpArgs false

theorem tl_extract (t : ByteArray) : t.extract 1 t.size = tl t := by
  apply ByteArray.ext
  rw [ByteArray.data_extract]
  rfl
theorem call31 (args : Array Value) (w : World) : (callFunc 31 args).run Try.prog w = .ok (.enter 31 args) w := by go_simp
theorem one1_spell (t : ByteArray) (h : t.size = 2) : ((t.extract 1 2).toList == [49]) = one1 t := by
  have e1 : ((t.extract 1 t.size).toList == (⟨#[49]⟩ : ByteArray).toList) = one1 t := by
    rw [tl_extract]
    exact eqS_toList _ _
  rw [h, show (⟨#[49]⟩ : ByteArray).toList = [49] from by rw [ByteArray.toList_eq]] at e1
  exact e1
set_option maxHeartbeats 1000000 in
theorem tells31 : StateFn 31 #[] (fun _ => True) (fun t => t.size = 2) st31 := by
  refine ⟨call31, fun W f t _ hsz => ?_, fun _ _ _ _ => trivial⟩
  have h2 : (t.size : Int) = 2 := by omega
  have e1 := one1_spell t hsz
  have hst : Hid (st31 t = if one1 t = true then 2 else 4) := rfl
  simp only [Array.append_empty]
  rcases hq : one1 t with _ | _
  · rw [hq] at hst e1
    clear hq
    go_enter Try.func31, Try.ntmps31
    go_wp2
    go_ret
    rw [hst.out]
    exact ⟨rfl, (Below.refl _ _).alloc (Nat.le_refl _) _⟩
  · rw [hq] at hst e1
    clear hq
    go_enter Try.func31, Try.ntmps31
    go_wp2
    go_ret
    rw [hst.out]
    exact ⟨rfl, (Below.refl _ _).alloc (Nat.le_refl _) _⟩
theorem eqS_g (f : ByteArray) : (f.toList == [103]) = eqS f ⟨#[103]⟩ := by
  have := eqS_toList f ⟨#[103]⟩
  rwa [show (⟨#[103]⟩ : ByteArray).toList = [103] from by rw [ByteArray.toList_eq]] at this
theorem rowsK (A : Option Addr) (c : Nat) (zs : List Int) (G : List (Nat × Nat)) (k : Nat) (hG : G.length = k) (hk : k ≤ 6) (w : World) (hL : EntriesAt w A (entsO zs G)) :
    Calls Try.prog 20 #[.slice A k c] w fun e w' => ∃ v, e = .returned v ∧ w'.ownsRow w.heap.size 62 5 v (2 * k) ((rowsO zs k).flatMap RowT.cells) ∧ Below w.heap.size w w' := by
  have h := rows_any A c (entsO zs G) (by rw [entsO_length]; omega) (by rw [rows_entsO, rowsO_length]; omega) w hL
  rw [rows_entsO, rowsO_length, entsO_length, hG] at h
  exact h
theorem ofK (A : Option Addr) (c : Nat) (zs : List Int) (G : List (Nat × Nat)) (k : Nat) (hG : G.length = k) (hk : k ≤ 6) (f e : ByteArray) (n : Int) (w : World) (hL : EntriesAt w A (entsO zs G)) :
    Calls Try.prog 32 #[.slice A k c, .string f, .string e, .int .i64 n] w (DelPost w w.heap.size ((rowsO zs k).filter (fun x => !delB f e n x))) := by
  have h := of17 A c (entsO zs G) (by rw [entsO_length]; omega) (by rw [rows_entsO, rowsO_length]; omega) f e n w hL
  rw [rows_entsO, entsO_length, hG] at h
  exact h
theorem sameK (A1 A2 : Option Addr) (c1 c2 : Nat) (zs : List Int) (k : Nat) (hk : k ≤ 6) (w : World) (h1 : RowOf RowT.cells 5 w A1 (rowsO zs k)) (h2 : RowOf RowT.cells 5 w A2 (rowsO zs k)) :
    Calls Try.prog 30 #[.slice A1 (2 * k) c1, .slice A2 (2 * k) c2] w fun e w' => e = .returned (.bool true) ∧ Below w.heap.size w w' := by
  have h := sameR_any A1 A2 c1 c2 (rowsO zs k) (by rw [rowsO_length]; omega) (rowsO_own zs k hk) w h1 h2
  rw [rowsO_length] at h
  exact h
theorem openK (A : Option Addr) (c : Nat) (zs : List Int) (k : Nat) (hk : k ≤ 6) (w : World) (hL : RowOf RowT.cells 5 w A (rowsO zs k)) :
    Calls Try.prog 26 #[.slice A (2 * k) c, .func (.func 31) #[] #[]] w (OpenPost w ((rowsO zs k).filter opB)) := by
  have h := open_any A c (rowsO zs k) (by rw [rowsO_length]; omega) 31 #[] _ _ st31 tells31 (fun x hx => by
    obtain ⟨i, j, _, _, rfl⟩ := mem_rowsO hx
    exact tn_size i j) w trivial hL
  rw [rowsO_length, filter_open] at h
  exact h
theorem apart_or {v v' : Value} (h : ∀ q, v.ownBlock = some q → v'.ownBlock ≠ some q) : v'.ownBlock = none ∨ v'.ownBlock ≠ v.ownBlock := by
  rcases hv : v'.ownBlock with _ | q
  · exact .inl rfl
  · right
    intro he
    exact h q he.symm hv
theorem apart_or' {v v' : Value} (h : ∀ q, v.ownBlock = some q → v'.ownBlock ≠ some q) : v.ownBlock = none ∨ v.ownBlock ≠ v'.ownBlock := by
  rcases hv : v.ownBlock with _ | q
  · exact .inl rfl
  · right
    intro he
    exact h q hv he.symm
theorem apart_new {w : World} {base n s : Nat} {e : TypeId} {v v' v'' : Value} {xs : List Value} (h : ∀ q, v.ownBlock = some q → v'.ownBlock ≠ some q) (ho : w.ownsRow base e s v n xs) (hat : v''.ownBlock = v'.ownBlock ∨ v''.ownBlock = some (w.heap.size + 1)) : ∀ q, v.ownBlock = some q → v''.ownBlock ≠ some q := by
  intro q hq he
  rcases hat with hat | hat
  · rw [hat] at he
    exact h q hq he
  · rw [hat] at he
    injection he with he
    have := (ho.lt q hq).2
    omega
theorem apart_app {w : World} {base n s : Nat} {e : TypeId} {v v' v'' : Value} {xs : List Value} (h : ∀ q, v.ownBlock = some q → v'.ownBlock ≠ some q) (ho : w.ownsRow base e s v' n xs) (hat : v''.ownBlock = v.ownBlock ∨ v''.ownBlock = some (w.heap.size + 1 + 1)) : ∀ q, v''.ownBlock = some q → v'.ownBlock ≠ some q := by
  intro q hq he
  rcases hat with hat | hat
  · rw [hat] at hq
    exact h q hq he
  · rw [hat] at hq
    injection hq with hq
    have := (ho.lt q he).2
    omega
def SelRel (w : World) (L : List RowT) (R : Int) (v13 v14 i : Value) (wr : World) : Prop := ∃ (j : Nat) (M N : List RowT), j ≤ L.length ∧ i = .int .i64 j ∧ M = (L.take j).filter (ofB R) ∧ N = (L.take j).filter opB ∧ M.length ≤ j ∧ N.length ≤ j ∧ Below w.heap.size w wr ∧
  wr.ownsRow w.heap.size 62 5 v13 M.length (M.flatMap RowT.cells) ∧ wr.ownsRow w.heap.size 62 5 v14 N.length (N.flatMap RowT.cells) ∧ ∀ q, v13.ownBlock = some q → v14.ownBlock ≠ some q
def FinRel (w : World) (A : Option Addr) (n c : Nat) (i : Value) (wr : World) : Prop := ∃ j : Nat, j ≤ n ∧ i = .int .i64 j ∧ w.grownBy wr (Value.slice A n c).ownBlock ∧ (0 < n → ∃ g cap cur, A = some ⟨g, 0, none⟩ ∧ wr.heap[g]? = some (.cells cur 62 (0, 0)) ∧ n ≤ cap ∧ cur.size = cap * 5)
theorem grown_setCell {w wr : World} {g o : Nat} {A : Option Addr} {n c : Nat} (h : w.grownBy wr (Value.slice A n c).ownBlock) (hA : A = some ⟨g, 0, none⟩) (u : Value) : w.grownBy (wr.setCell ⟨g, o, none⟩ u) (Value.slice A n c).ownBlock := by
  subst hA
  refine ⟨h.os, h.tape, h.output, by simpa [World.setCell] using h.size, fun i hi hne => ?_⟩
  rw [Below.heap_setCell _ _ _ _ (by rintro rfl; exact hne rfl)]
  exact h.block i hi hne
theorem FinRel.step {w wr : World} {A : Option Addr} {n c j o : Nat} {g : Nat} {u : Value} (hj : j + 1 ≤ n) (hg : w.grownBy wr (Value.slice A n c).ownBlock) (hA : A = some ⟨g, 0, none⟩) (cap : Nat) (cur : Array Value) (hb : wr.heap[g]? = some (.cells cur 62 (0, 0))) (hn : n ≤ cap) (hs : cur.size = cap * 5) : FinRel w A n c (.int .i64 ((j + 1 : Nat) : Int)) (wr.setCell ⟨g, o, none⟩ u) :=
  ⟨j + 1, hj, rfl, grown_setCell hg hA u, fun _ => ⟨g, cap, _, hA, blk_setCell hb u, hn, by simpa using hs⟩⟩
theorem own_past {w w1 : World} {base n : Nat} {e : TypeId} {size : Nat} {v v' : Value} {xs : List Value} (h : w.ownsRow base e size v n xs) (hg : w.grownBy w1 v'.ownBlock) (hlt : ∀ q, v'.ownBlock = some q → q < base) : w1.ownsRow base e size v n xs := by
  refine h.kept hg ?_
  rcases hv : v.ownBlock with _ | q
  · exact .inl rfl
  · right
    intro he
    have h1 := (h.lt q hv).1
    have h2 := hlt q he.symm
    omega
end Go.Proofs.Ytbmegoemimfiaaa

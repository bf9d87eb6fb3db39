/-
  watch.Launches: the walk.
-/
import Derived.Test.YtbmegoemimfiaaaRows
import Derived.Test.YtbmegoemimfiaaaW25f
import Derived.WalkKit
import Derived.WalkSpells
import Derived.WalkLawsBesides
import Derived.Outline
import Derived.Laws.StructEq
import Derived.Deep.Light
import Derived.Deep.QuietTactic
import Derived.BigQuiet
import Derived.Maps.OwnOps
import Derived.Maps.OwnSet
import Derived.Lib.Hide
namespace Go.Proofs.Ytbmegoemimfiaaa
open Go Go.RowKit
set_option maxRecDepth 100000
set_option linter.unusedVariables false
set_option linter.unusedSimpArgs false

attribute [local go_sem] run_store_float run_store_complex
abbrev Key40 := ByteArray × ByteArray
def k40 (p : Key40) : Value := .agg #[.string p.1, .string p.2]
theorem toList_inj (a b : ByteArray) : a.toList = b.toList ↔ a = b := by
  rw [ByteArray.toList_eq, ByteArray.toList_eq]
  constructor
  · intro h
    cases a
    cases b
    simp at h
    rw [h]
  · intro h
    rw [h]
theorem beq_self (a : ByteArray) : (a == a) = true := by rw [beq_toListBytes]; simp
theorem keys40 : KeysOk Try.prog 40 k40 where
  wide := by kernel_rfl
  check := fun w em x => by
    obtain ⟨a, b⟩ := x
    kernel_rfl
  same := fun w x y => by
    obtain ⟨a, b⟩ := x
    obtain ⟨c, d⟩ := y
    unfold k40 Op.equal Op.maxDepth
    go_simp
    simp only [toList_inj, Prod.mk.injEq]
    by_cases h1 : a = c <;> by_cases h2 : b = d <;> simp [h1, h2]
  bits := fun x => by
    obtain ⟨a, b⟩ := x
    simp [k40, Instr.sameBits, beq_self]
theorem zero35 (w : World) : (zeroValue 35).run Try.prog w = .ok (.agg #[.int .i64 0, .string ⟨#[]⟩, .string ⟨#[]⟩, .string ⟨#[]⟩, .int .i64 0, .int .i64 0, .int .i64 0, .int .i64 0, .slice none 0 0]) w := by kernel_rfl

structure LS where
  x : Said
  it : Item
def LS.agg (y : LS) : Value := .agg #[.int .i64 y.x.m.k, .string y.x.m.f, .string y.x.m.e, .string y.x.m.t, .int .i64 y.x.m.n, .int .i64 y.x.m.s, .int .i64 y.x.m.u, .int .i64 y.x.m.p, .slice y.x.m.A y.x.m.il y.x.m.ic]
def LS.isL (y : LS) : Bool := y.x.m.k == 14
/-- What a message of launch is: its one item lies where it says. -/
def LS.ok (w : World) (y : LS) : Prop := y.x.m.il = 1 ∧ ∃ b o, y.x.m.A = some ⟨b, o, none⟩ ∧ ItAt w b o y.it
theorem LS.ok.below {w w1 : World} {y : LS} (h : y.ok w) (hb : Below w.heap.size w w1) : y.ok w1 := by
  obtain ⟨h1, b, o, h2, h3⟩ := h
  exact ⟨h1, b, o, h2, h3.below hb⟩
theorem LS.ok.low {B : Nat} {w w1 : World} {y : LS} (h : y.ok w) (hB : w.heap.size = B) (hb : Below B w w1) : y.ok w1 := h.below (hB ▸ hb)
def oldB (y z : LS) : Bool := msgB y.x.m z.x.m y.it z.it
abbrev KV := List (Key40 × LS)
def lput (kv : KV) (y : LS) : Option KV :=
  match kget kv (y.x.m.f, y.it.t) with
  | some z => if oldB y z then some (kput kv (y.x.m.f, y.it.t) y) else none
  | none => some (kput kv (y.x.m.f, y.it.t) y)
def lstep (kv : KV) (y : LS) : Option KV := if y.isL then lput kv y else some kv
def lfold (S : List LS) : Option KV := S.foldl (fun o y => o.bind fun kv => lstep kv y) (some [])
def launchesB (S : List LS) : Bool := (lfold S).isSome
theorem lfold_succ (S : List LS) (k : Nat) (y : LS) (h : S[k]? = some y) : lfold (S.take (k + 1)) = (lfold (S.take k)).bind fun kv => lstep kv y := by
  unfold lfold
  rw [List.take_add_one, h, List.foldl_append]
  rfl
theorem lfold_none (S : List LS) (k : Nat) (h : lfold (S.take k) = none) : lfold S = none := by
  have hs : S = S.take k ++ S.drop k := (List.take_append_drop k S).symm
  have hn : ∀ T : List LS, T.foldl (fun o y => o.bind fun kv => lstep kv y) (none : Option KV) = none := by
    intro T
    induction T with
    | nil => rfl
    | cons y T ih => simpa using ih
  rw [hs]
  unfold lfold at *
  rw [List.foldl_append, h, hn]
theorem kput_mem {α β : Type} [DecidableEq α] (L : List (α × β)) (x : α) (y : β) : ∀ p ∈ kput L x y, p ∈ L ∨ p.2 = y := by
  induction L with
  | nil => intro p hp; simp [kput] at hp; exact .inr (by rw [hp])
  | cons q L ih =>
    intro p hp
    unfold kput at hp
    split at hp
    · rcases List.mem_cons.1 hp with rfl | h
      · exact .inr rfl
      · exact .inl (List.mem_cons_of_mem _ h)
    · rcases List.mem_cons.1 hp with rfl | h
      · exact .inl (by simp)
      · rcases ih p h with h | h
        · exact .inl (List.mem_cons_of_mem _ h)
        · exact .inr h
theorem kget_mem {α β : Type} [DecidableEq α] (L : List (α × β)) (x : α) (z : β) (h : kget L x = some z) : ∃ p ∈ L, p.2 = z := by
  induction L with
  | nil => simp [kget] at h
  | cons q L ih =>
    unfold kget at h
    split at h
    · exact ⟨q, by simp, by simpa using h⟩
    · obtain ⟨p, hp, he⟩ := ih h
      exact ⟨p, List.mem_cons_of_mem _ hp, he⟩
end Go.Proofs.Ytbmegoemimfiaaa

/-
  What is known of a slot of a drawn region: a value, or something that stays true while the old blocks stand; append of what lies in an older block. No program in sight.
-/
import Derived.Test.YtbmegoemimfiaaaDataB
namespace Go.Proofs.Ytbmegoemimfiaaa
set_option linter.unusedVariables false
open Go Go.RowKit

structure QSpec where
  P : Value → World → Prop
  st : ∀ v w w1, Below w.heap.size w w1 → P v w → P v w1
def QSpec.holds (s : QSpec) (v : Value) (w : World) : Prop := s.P v w
def QSpec.any : QSpec := ⟨fun _ _ => True, fun _ _ _ _ h => h⟩
def QSpec.det (u : Value) : QSpec := ⟨fun v _ => v = u, fun _ _ _ _ h => h⟩
/-- a literal slice of n elements of type e, in a block of its own -/
def QSpec.row (n : Nat) (e : TypeId) (cs : List Value) : QSpec := ⟨fun v w => ∃ g, v = .slice (some ⟨g, 0, none⟩) n n ∧ w.heap[g]? = some (.cells cs.toArray e (0, 0)), fun v w w1 hb h => by
  obtain ⟨g, hv, hg⟩ := h
  exact ⟨g, hv, blk_below hg hb⟩⟩
/-- the same, where the cells hold (as F says) something that is itself only known so -/
def QSpec.rowOf (n : Nat) (e : TypeId) (s : QSpec) (F : Value → List Value) : QSpec := ⟨fun v w => ∃ g u, v = .slice (some ⟨g, 0, none⟩) n n ∧ w.heap[g]? = some (.cells (F u).toArray e (0, 0)) ∧ s.P u w, fun v w w1 hb h => by
  obtain ⟨g, u, hv, hg, hu⟩ := h
  exact ⟨g, u, hv, blk_below hg hb, s.st _ _ _ hb hu⟩⟩
/-- a value that holds (as F says) something that is itself only known so -/
def QSpec.with (s : QSpec) (F : Value → Value) : QSpec := ⟨fun v w => ∃ u, v = F u ∧ s.P u w, fun v w w1 hb h => by
  obtain ⟨u, hv, hu⟩ := h
  exact ⟨u, hv, s.st _ _ _ hb hu⟩⟩
/-- known only under a condition (the slot of a guarded operation) -/
def QSpec.when (c : Prop) (s : QSpec) : QSpec := ⟨fun v w => c → s.P v w, fun v w w1 hb h hc => s.st _ _ _ hb (h hc)⟩
theorem QSpec.mono {w w1 : World} (hb : Below w.heap.size w w1) (s : QSpec) (v : Value) (h : s.holds v w) : s.holds v w1 := s.st v w w1 hb h

theorem RowOf.of_blk {α : Type} {cells : α → List Value} {size : Nat} (hsz : ∀ x, (cells x).length = size) {w : World} {L : List α} {cs : Array Value} {g : Nat} {e : TypeId} (h : w.heap[g]? = some (.cells cs e (0, 0))) (hcs : cs = (L.flatMap cells).toArray) :
    RowOf cells size w (some ⟨g, 0, none⟩) L := by
  subst hcs
  intro _
  refine ⟨_, _, rfl, fun i x hx j v hv => ?_⟩
  have hj : j < size := by
    have := (List.getElem?_eq_some_iff.1 hv).1
    rwa [hsz] at this
  rw [blk_cell h]
  have key : ∀ (T : List α) (i : Nat), T[i]? = some x → (T.flatMap cells)[i * size + j]? = (cells x)[j]? := by
    intro T
    induction T with
    | nil => intro i h; simp at h
    | cons y T ih =>
      intro i h
      cases i with
      | zero =>
        simp at h
        subst h
        rw [List.flatMap_cons, Nat.zero_mul, Nat.zero_add, List.getElem?_append_left (by rw [hsz]; omega)]
      | succ i =>
        rw [List.flatMap_cons, List.getElem?_append_right (by rw [hsz, Nat.succ_mul]; omega), hsz]
        rw [show (i + 1) * size + j - size = i * size + j by rw [Nat.succ_mul]; omega]
        exact ih i (by simpa using h)
  have h := key L i hx
  rw [show 0 + i * size + j = i * size + j by omega]
  simpa [hv] using h

section
variable {P : Program} {ops : Array Oper} {rest : List Oper} {o : Oper} {a : Act} {Q : Exit → Act → World → Prop}
/-- 'out = append(out, x)': x of 'size' cells, laid somewhere before. -/
theorem app_far {w0 W : World} (base : Nat) (hgd : o.guard = none) (s x : Operand) (t e : TypeId) (z : Value) (size bytes : Nat)
    (ho : o.op = .call { callee := .builtin .append, args := #[s, x], argTypes := #[t, t] })
    (ht : P.underlying t = some (.slice e)) (hinfo : (P.info? e).map (fun i => (i.zero, i.size, i.bytes)) = some (some z, size, bytes)) (hz : z.cells.size = size) (hs0 : 0 < size) (hb0 : 0 < bytes)
    (v : Value) (n : Nat) (xs cs : List Value) (hs : a.eval s = v) (g : Nat) (hx : a.eval x = .slice (some ⟨g, 0, none⟩) 1 1) (hg : W.heap[g]? = some (.cells cs.toArray e (0, 0))) (hlen : cs.length = size) (h1 : ∀ u ∈ cs, u.oneCell' = true)
    (HO : W.ownsRow base e size v n xs) (HB : Below base w0 W) (hbase : base ≤ W.heap.size) (hl : (n + 1) * bytes ≤ 140737488355328)
    (h : ∀ v1 w1, w1.ownsRow base e size v1 (n + 1) (xs ++ cs) → Below base w0 w1 → W.grownBy w1 v.ownBlock → (v1.ownBlock = v.ownBlock ∨ v1.ownBlock = some W.heap.size) → wpList P ops Q rest (a.put o.dst v1) w1) :
    wpList P ops Q (o :: rest) a W := by
  obtain ⟨i0, hi, hzz⟩ := Option.map_eq_some_iff.1 hinfo
  simp only [Prod.mk.injEq] at hzz
  obtain ⟨hz0, hz1, hz2⟩ := hzz
  have hlen' : n + 1 ≤ 140737488355328 := Nat.le_trans (Nat.le_mul_of_pos_right _ hb0) hl
  refine wpList_append_own_at W hgd s x t ho base e i0 z size bytes ht hi hz0 hz1 hz2 hz hs0 v n xs hs HO ⟨g, 0, none⟩ 1 1 cs hx (by omega)
    (by have := World.news_of_block (cs := cs.toArray) (t := e) (fr := (0, 0)) hg; simpa using this) h1 (by simp only [maxLen]; omega) hl hbase ?_
  intro v1 w1 hown hgr _ hat
  exact h v1 w1 hown (HB.grown hgr hbase (own_base HO)) hgr hat
end
/-- What grew at an owned row's end leaves what is older than the row. -/
theorem below_grown {B base : Nat} {wB W w1 : World} {e : TypeId} {size n : Nat} {v : Value} {xs : List Value} (h : Below B wB W) (HO : W.ownsRow base e size v n xs) (hg : W.grownBy w1 v.ownBlock) (hB : B ≤ W.heap.size) (hne : ∀ k, v.ownBlock = some k → B ≤ k) : Below B wB w1 := h.grown hg hB hne
end Go.Proofs.Ytbmegoemimfiaaa

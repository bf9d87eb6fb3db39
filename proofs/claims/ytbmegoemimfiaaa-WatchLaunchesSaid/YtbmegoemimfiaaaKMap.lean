/-
  Maps whose keys are structs, over the bare heap: look-up and store, as laws on a list of pairs.
-/
import Derived.Test.YtbmegoemimfiaaaData
import Derived.Maps.OwnOps
import Derived.WideKeyRuns
import Derived.Laws.StructEq
namespace Go.Proofs.Ytbmegoemimfiaaa
open Go Go.RowKit Go.ChangeMaps

/-- What is asked of the keys of a map: they can be compared, and are as they read. -/
structure KeysOk {α : Type} [DecidableEq α] (P : Program) (k : TypeId) (K : α → Value) : Prop where
  wide : (match P.underlying k with | some (.array _ _) | some (.struct _) => true | _ => false) = true
  check : ∀ (w : World) (em : Bool) (x : α), (Instr.checkKey em 10000 k (K x)).run P w = .ok () w
  same : ∀ (w : World) (x y : α), (Op.equal k (K x) (K y)).run P w = .ok (decide (x = y)) w
  bits : ∀ (x : α), Instr.sameBits 10000 (K x) (K x) = true

def kget {α β : Type} [DecidableEq α] : List (α × β) → α → Option β
  | [], _ => none
  | p :: L, x => if x = p.1 then some p.2 else kget L x
def kput {α β : Type} [DecidableEq α] : List (α × β) → α → β → List (α × β)
  | [], x, y => [(x, y)]
  | p :: L, x, y => if x = p.1 then (x, y) :: L else p :: kput L x y

/-- Block b is a map of these entries, in this order. -/
def KMap {α β : Type} (w : World) (b : Nat) (K : α → Value) (V : β → Value) (L : List (α × β)) : Prop :=
  ∃ es clock, w.heap[b]? = some (.map es clock) ∧ es.toList.map (fun e => (e.key, e.val)) = L.map (fun p => (K p.1, V p.2))

theorem KMap.lt {α β : Type} {w : World} {b : Nat} {K : α → Value} {V : β → Value} {L : List (α × β)} (h : KMap w b K V L) : b < w.heap.size := by
  obtain ⟨es, clock, hb, _⟩ := h
  exact (Array.getElem?_eq_some_iff.1 hb).1
theorem KMap.kept {α β : Type} {w w' : World} {b : Nat} {K : α → Value} {V : β → Value} {L : List (α × β)} {row : Option Nat} (h : KMap w b K V L) (hg : w.grownBy w' row) (hne : some b ≠ row) : KMap w' b K V L := by
  have hlt := h.lt
  obtain ⟨es, clock, hb, hL⟩ := h
  exact ⟨es, clock, (hg.block b hlt hne).trans hb, hL⟩
theorem KMap.below {α β : Type} {w w' : World} {b : Nat} {K : α → Value} {V : β → Value} {L : List (α × β)} (h : KMap w b K V L) (hb : Below w.heap.size w w') : KMap w' b K V L :=
  h.kept (grown_of_below hb none) (by simp)
theorem KMap.made {α β : Type} (w : World) (K : α → Value) (V : β → Value) : KMap (w.alloc (.map #[] 0)) w.heap.size K V ([] : List (α × β)) :=
  ⟨#[], 0, (MapKept.heap_alloc w _).1, rfl⟩

section
variable {α β : Type} [DecidableEq α] {P : Program} {k : TypeId} {K : α → Value} {V : β → Value}

theorem kfind (T : KeysOk P k K) (w : World) (x : α) : ∀ (es : List MapEntry) (L : List (α × β)) (i : Nat), es.map (fun e => (e.key, e.val)) = L.map (fun p => (K p.1, V p.2)) →
    ((Instr.findAsking k (K x) es i).run P w = .ok none w ∧ kget L x = none ∧ ∀ y, kput L x y = L ++ [(x, y)]) ∨
    ∃ j e y, (Instr.findAsking k (K x) es i).run P w = .ok (some (i + j, V y)) w ∧ es[j]? = some e ∧ e.key = K x ∧ kget L x = some y ∧
      ∀ y', (es.modify j (fun e => { e with key := K x, val := V y' })).map (fun e => (e.key, e.val)) = (kput L x y').map (fun p => (K p.1, V p.2))
  | [], [], i, _ => Or.inl ⟨by simp [Instr.findAsking], rfl, fun _ => rfl⟩
  | [], _ :: _, _, h => by simp at h
  | _ :: _, [], _, h => by simp at h
  | e :: es, (x', y0) :: L, i, h => by
    simp only [List.map_cons, List.cons.injEq, Prod.mk.injEq] at h
    obtain ⟨⟨hk, hv⟩, ht⟩ := h
    by_cases hx : x = x'
    · subst hx
      refine Or.inr ⟨0, e, y0, ?_, rfl, hk, by simp [kget], fun y' => ?_⟩
      · simp [Instr.findAsking, hk, T.same, hv]
      · simp [kput, ht]
    · rcases kfind T w x es L (i + 1) ht with ⟨h1, h2, h3⟩ | ⟨j, e', y, h1, h2, h3, h4, h5⟩
      · refine Or.inl ⟨?_, by simp [kget, hx, h2], fun y => by simp [kput, hx, h3]⟩
        simp [Instr.findAsking, hk, T.same, hx, h1]
      · refine Or.inr ⟨j + 1, e', y, ?_, by simpa using h2, h3, by simp [kget, hx, h4], fun y' => ?_⟩
        · simp [Instr.findAsking, hk, T.same, hx, h1, Nat.add_assoc, Nat.add_comm 1 j]
        · have := h5 y'
          simp only [kput, hx, if_false, List.map_cons, List.modify_succ_cons]
          rw [this, hk, hv]

theorem KMap.lookup_ok {w : World} {b : Nat} {L : List (α × β)} (h : KMap w b K V L) (T : KeysOk P k K) {t e : TypeId} (ht : P.underlying t = some (.map k e)) {z : Value} (hz : (zeroValue e).run P w = .ok z w) (x : α) :
    (Instr.lookup t (.map (some b)) (K x) true).run P w = .ok (.tuple #[((kget L x).map V).getD z, .bool (kget L x).isSome]) w := by
  obtain ⟨es, clock, hb, hL⟩ := h
  rcases kfind T w x es.toList L 0 hL with ⟨h1, h2, _⟩ | ⟨j, e', y, h1, h2, h3, h4, _⟩
  · simp [Instr.lookup, run_underlying ht, MapKept.run_getObj_map hb, T.check w _ x, run_findKey_eq w T.wide, h1, h2, hz, Result.andThen]
  · simp [Instr.lookup, run_underlying ht, MapKept.run_getObj_map hb, T.check w _ x, run_findKey_eq w T.wide, h1, h4, Result.andThen]
theorem KMap.lookup {w : World} {b : Nat} {L : List (α × β)} (h : KMap w b K V L) (T : KeysOk P k K) {t e : TypeId} (ht : P.underlying t = some (.map k e)) {z : Value} (hz : (zeroValue e).run P w = .ok z w) (x : α) :
    (Instr.lookup t (.map (some b)) (K x) false).run P w = .ok (((kget L x).map V).getD z) w := by
  obtain ⟨es, clock, hb, hL⟩ := h
  rcases kfind T w x es.toList L 0 hL with ⟨h1, h2, _⟩ | ⟨j, e', y, h1, h2, h3, h4, _⟩
  · simp [Instr.lookup, run_underlying ht, MapKept.run_getObj_map hb, T.check w _ x, run_findKey_eq w T.wide, h1, h2, hz, Result.andThen]
  · simp [Instr.lookup, run_underlying ht, MapKept.run_getObj_map hb, T.check w _ x, run_findKey_eq w T.wide, h1, h4, Result.andThen]
theorem KMap.store {w : World} {b : Nat} {L : List (α × β)} (h : KMap w b K V L) (T : KeysOk P k K) {t e : TypeId} (ht : P.underlying t = some (.map k e)) (x : α) (y : β) :
    ∃ w', (Instr.mapUpdate t (.map (some b)) (K x) (V y)).run P w = .ok () w' ∧ KMap w' b K V (kput L x y) ∧ w.grownBy w' (some b) := by
  obtain ⟨es, clock, hb, hL⟩ := h
  rcases kfind T w x es.toList L 0 hL with ⟨h1, h2, h3⟩ | ⟨j, e', y0, h1, h2, h3, h4, h5⟩
  · refine ⟨setBlock w b (.map (es.push ⟨K x, V y, clock⟩) (clock + 1)), ?_, ⟨_, _, heap_setBlock_same hb _, ?_⟩, ⟨rfl, rfl, rfl, by simp [setBlock], fun i _ hi => heap_setBlock_other hb _ (fun e => hi (by rw [e]))⟩⟩
    · simp [Instr.mapUpdate, run_underlying ht, MapKept.run_getObj_map hb, T.check w false x, run_findKey_eq w T.wide, h1, MapKept.run_setObj_map _ hb, Result.andThen, setBlock]
    · rw [h3]; simp [hL]
  · have hj : es[j]? = some e' := by simpa using h2
    refine ⟨setBlock w b (.map (es.modify j (fun e' => { e' with key := K x, val := V y })) clock), ?_, ⟨_, _, heap_setBlock_same hb _, ?_⟩, ⟨rfl, rfl, rfl, by simp [setBlock], fun i _ hi => heap_setBlock_other hb _ (fun e => hi (by rw [e]))⟩⟩
    · simp [Instr.mapUpdate, run_underlying ht, MapKept.run_getObj_map hb, T.check w false x, run_findKey_eq w T.wide, h1, hj, h3, Instr.keyThatStays, T.bits, MapKept.run_setObj_map _ hb, Result.andThen, setBlock]
    · rw [Array.toList_modify]; exact h5 y
end

section
variable {P : Program} {ops : Array Oper} {rest : List Oper} {o : Oper} {a : Act} {Q : Exit → Act → World → Prop}
theorem wpList_kstore {α β : Type} [DecidableEq α] (w : World) (hg : o.guard = none) (m x v : Operand) (t : TypeId) (hop : o.op = Op.mapUpdate t m x v)
    (k e : TypeId) (K : α → Value) (V : β → Value) (T : KeysOk P k K) (ht : P.underlying t = some (.map k e)) (b : Nat) (L : List (α × β)) (h : KMap w b K V L)
    (hm : a.eval m = .map (some b)) (x0 : α) (y0 : β) (hx : a.eval x = K x0) (hv : a.eval v = V y0)
    (hK : ∀ w', KMap w' b K V (kput L x0 y0) → w.grownBy w' (some b) → wpList P ops Q rest (a.put o.dst undef) w') : wpList P ops Q (o :: rest) a w := by
  refine wpList_plain hg fun K' hK' => ?_
  obtain ⟨w', hrun, r1, r2⟩ := h.store T ht x0 y0
  unfold Oper.wp
  simp [execOp, hop, hm, hx, hv, hrun, Result.andThen]
  exact hK' _ _ (hK w' r1 r2)
theorem wpList_klook {α β : Type} [DecidableEq α] (w : World) (hg : o.guard = none) (m x : Operand) (t : TypeId) (hop : o.op = Op.lookup t m x true)
    (k e : TypeId) (K : α → Value) (V : β → Value) (T : KeysOk P k K) (ht : P.underlying t = some (.map k e)) (b : Nat) (L : List (α × β)) (h : KMap w b K V L)
    (z : Value) (hz : (zeroValue e).run P w = .ok z w) (hm : a.eval m = .map (some b)) (x0 : α) (hx : a.eval x = K x0)
    (r : Option β) (hr : kget L x0 = r) (hK : wpList P ops Q rest (a.put o.dst (.tuple #[(r.map V).getD z, .bool r.isSome])) w) : wpList P ops Q (o :: rest) a w := by
  subst hr
  refine wpList_plain hg fun K' hK' => ?_
  have hrun := h.lookup_ok T ht hz x0
  unfold Oper.wp
  simp [execOp, hop, hm, hx, hrun, Result.andThen]
  exact hK' _ _ hK
theorem wpList_klook1 {α β : Type} [DecidableEq α] (w : World) (hg : o.guard = none) (m x : Operand) (t : TypeId) (hop : o.op = Op.lookup t m x false)
    (k e : TypeId) (K : α → Value) (V : β → Value) (T : KeysOk P k K) (ht : P.underlying t = some (.map k e)) (b : Nat) (L : List (α × β)) (h : KMap w b K V L)
    (z : Value) (hz : (zeroValue e).run P w = .ok z w) (hm : a.eval m = .map (some b)) (x0 : α) (hx : a.eval x = K x0)
    (r : Option β) (hr : kget L x0 = r) (hK : wpList P ops Q rest (a.put o.dst ((r.map V).getD z)) w) : wpList P ops Q (o :: rest) a w := by
  subst hr
  refine wpList_plain hg fun K' hK' => ?_
  have hrun := h.lookup T ht hz x0
  unfold Oper.wp
  simp [execOp, hop, hm, hx, hrun, Result.andThen]
  exact hK' _ _ hK
end
end Go.Proofs.Ytbmegoemimfiaaa

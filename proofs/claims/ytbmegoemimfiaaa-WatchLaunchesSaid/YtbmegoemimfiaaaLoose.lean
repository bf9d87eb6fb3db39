/-
  A region that draws its order, whatever its operations are: each operation is proved by itself, from what is known of the slots that it looks at (V), in every world of the class C; what is known of a slot stays known (R). No program in sight.
-/
import Derived.Orders
import Derived.WalkKit
namespace Go.Proofs.Ytbmegoemimfiaaa
open Go Go.RowKit

/-- Edges go back; an operation that looks at a slot of the region has a direct edge to its writer; no slot has two writers. -/
def looseOk (ops : Array Oper) : Bool :=
  (List.range ops.size).all fun i => match ops[i]? with
    | none => true
    | some o => (o.after.all fun e => !Region.binds .any e || decide (e.on < i)) &&
        (List.range ops.size).all fun j => match (ops[j]?).bind (·.dst) with
          | none => true
          | some d => (!(o.looksAt ops).contains d || o.after.any (fun e => e.on == j && Region.binds .any e)) && (i == j || o.dst != some d)

def dsts (ops : Array Oper) : List Tmp := ops.toList.filterMap (·.dst)

def SameBut (ds : List Tmp) (a0 a : Act) : Prop := a.defers = a0.defers ∧ a.tmps.size = a0.tmps.size ∧ ∀ t, t ∉ ds → a.tmps[t]? = a0.tmps[t]?

theorem SameBut.eval {ds : List Tmp} {a0 a : Act} (h : SameBut ds a0 a) {t : Tmp} (ht : t ∉ ds) : a.eval (.tmp t) = a0.eval (.tmp t) := by
  have := h.2.2 t ht
  simp [Act.eval, Array.getD_eq_getD_getElem?, this]

def putAll : List Tmp → (Tmp → Value) → Act → Act
  | [], _, a => a
  | d :: ds, σ, a => putAll ds σ (a.put (some d) (σ d))

theorem putAll_defers (ds : List Tmp) (σ : Tmp → Value) : ∀ a : Act, (putAll ds σ a).defers = a.defers := by
  induction ds with
  | nil => intro a; rfl
  | cons d ds ih => intro a; simp [putAll, ih, Act.put]

theorem putAll_size (ds : List Tmp) (σ : Tmp → Value) : ∀ a : Act, (putAll ds σ a).tmps.size = a.tmps.size := by
  induction ds with
  | nil => intro a; rfl
  | cons d ds ih => intro a; simp [putAll, ih, Act.put]

theorem putAll_get (ds : List Tmp) (σ : Tmp → Value) (t : Tmp) : ∀ a : Act, (putAll ds σ a).tmps[t]? = if t ∈ ds ∧ t < a.tmps.size then some (σ t) else a.tmps[t]? := by
  induction ds with
  | nil => intro a; simp [putAll]
  | cons d ds ih =>
    intro a
    rw [putAll, ih]
    by_cases h1 : t ∈ ds
    · by_cases h3 : t < a.tmps.size
      · simp [h1, Act.put, h3]
      · simp [h1, Act.put, h3]
    · by_cases h2 : t = d
      · subst h2
        by_cases h3 : t < a.tmps.size <;> simp [h1, Act.put, h3]
      · simp [h1, h2, Act.put, Ne.symm h2]

theorem SameBut.put_all {ds : List Tmp} {a0 a : Act} (h : SameBut ds a0 a) : a = putAll ds (fun t => a.eval (.tmp t)) a0 := by
  have ht : a.tmps = (putAll ds (fun t => a.eval (.tmp t)) a0).tmps := by
    apply Array.ext_getElem?
    intro t
    rw [putAll_get]
    by_cases h1 : t ∈ ds ∧ t < a0.tmps.size
    · rw [if_pos h1]
      have hlt : t < a.tmps.size := by rw [h.2.1]; exact h1.2
      simp [Act.eval, Array.getD_eq_getD_getElem?, Array.getElem?_eq_getElem hlt]
    · rw [if_neg h1]
      by_cases h2 : t ∈ ds
      · have h3 : ¬ t < a0.tmps.size := fun h3 => h1 ⟨h2, h3⟩
        rw [Array.getElem?_eq_none (by rw [h.2.1]; omega), Array.getElem?_eq_none (by omega)]
      · exact h.2.2 t h2
  have hd : a.defers = (putAll ds (fun t => a.eval (.tmp t)) a0).defers := by rw [putAll_defers]; exact h.1
  cases a
  simp only [] at ht hd
  generalize hb : putAll ds _ a0 = b at ht hd ⊢
  cases b
  simp_all

section
variable {P : Program} {ops : Array Oper} {Q : Exit → Act → World → Prop}

/-- What is asked of one operation. -/
def LooseOp (P : Program) (ops : Array Oper) (a0 : Act) (C : World → Prop) (R : World → World → Prop) (V : Tmp → Value → World → Prop) (o : Oper) : Prop :=
  ∀ (Q : Exit → Act → World → Prop) (a : Act) (w : World), (∀ t, t ∉ dsts ops → a.eval (.tmp t) = a0.eval (.tmp t)) → C w → (∀ t ∈ o.looksAt ops, t ∈ dsts ops → V t (a.eval (.tmp t)) w) →
    if Region.wanted o (yielded ops a.tmps) then o.wp P a w (fun a' w' => ∃ v, a' = a.put o.dst v ∧ C w' ∧ R w w' ∧ ∀ d, o.dst = some d → V d v w') Q
    else ∀ d, o.dst = some d → V d undef w

theorem looseOk_spec (h : looseOk ops = true) {i : Nat} {o : Oper} (hi : ops[i]? = some o) :
    (∀ e ∈ o.after, Region.binds .any e = true → e.on < i) ∧
    ∀ j d, (ops[j]?).bind (·.dst) = some d → (d ∈ o.looksAt ops → ∃ e ∈ o.after, e.on = j ∧ Region.binds .any e = true) ∧ (i ≠ j → o.dst ≠ some d) := by
  have hlt : i < ops.size := (Array.getElem?_eq_some_iff.1 hi).1
  unfold looseOk at h
  have h1 := List.all_eq_true.1 h i (List.mem_range.2 hlt)
  simp only [hi, Bool.and_eq_true] at h1
  refine ⟨fun e he hb => ?_, fun j d hj => ?_⟩
  · have := Array.all_eq_true_iff_forall_mem.1 h1.1 e he
    simp only [Bool.or_eq_true, Bool.not_eq_true', decide_eq_true_eq] at this
    rcases this with h2 | h2
    · rw [hb] at h2; cases h2
    · exact h2
  · have hjlt : j < ops.size := by
      cases hj' : ops[j]? with
      | none => rw [hj'] at hj; cases hj
      | some o' => exact (Array.getElem?_eq_some_iff.1 hj').1
    have h2 := List.all_eq_true.1 h1.2 j (List.mem_range.2 hjlt)
    simp only [hj, Bool.and_eq_true, Bool.or_eq_true, Bool.not_eq_true', List.contains_eq_mem, decide_eq_false_iff_not, Array.any_eq_true', beq_iff_eq, bne_iff_ne, ne_eq] at h2
    refine ⟨fun hd => ?_, fun hij => ?_⟩
    · rcases h2.1 with h3 | ⟨e, he, h3, h4⟩
      · exact absurd hd h3
      · exact ⟨e, he, h3, h4⟩
    · rcases h2.2 with h3 | h3
      · exact absurd h3 hij
      · exact h3

theorem mem_dsts {t : Tmp} (h : t ∈ dsts ops) : ∃ j : Nat, (ops[j]?).bind (·.dst) = some t := by
  unfold dsts at h
  obtain ⟨o, ho, hd⟩ := List.mem_filterMap.1 h
  obtain ⟨j, hj⟩ := List.getElem?_of_mem ho
  exact ⟨j, by rw [← Array.getElem?_toList, hj]; exact hd⟩

theorem dsts_mem {j : Nat} {o : Oper} {t : Tmp} (hj : ops[j]? = some o) (hd : o.dst = some t) : t ∈ dsts ops := by
  unfold dsts
  refine List.mem_filterMap.2 ⟨o, ?_, hd⟩
  rw [← Array.getElem?_toList] at hj
  exact List.mem_of_getElem? hj

def left (listed : Array Bool) : Nat := (listed.toList.filter (fun b => !b)).length

theorem left_list (l : List Bool) : ∀ (i : Nat) (hi : i < l.length), l[i] = false → ((l.set i true).filter (fun b => !b)).length + 1 = (l.filter (fun b => !b)).length := by
  induction l with
  | nil => intro i hi; simp at hi
  | cons b l ih =>
    intro i hi h
    cases i with
    | zero => simp at h; subst h; simp
    | succ i =>
      have := ih i (by simpa using hi) (by simpa using h)
      cases b <;> simp <;> omega

theorem left_set {listed : Array Bool} {i : Nat} (hi : i < listed.size) (h : listed.getD i true = false) : left (listed.setIfInBounds i true) + 1 = left listed := by
  obtain ⟨l⟩ := listed
  have hi' : i < l.length := by simpa using hi
  have h' : l[i] = false := by
    simp only [Array.getD, hi, dite_true] at h
    exact h
  simpa [left] using left_list l i hi' h'

theorem left_zero {listed : Array Bool} (h : left listed = 0) (i : Nat) (hi : i < listed.size) : listed.getD i false = true := by
  obtain ⟨l⟩ := listed
  simp only [left] at h
  have hi : i < l.length := by simpa using hi
  have hn := List.eq_nil_of_length_eq_zero h
  have hm : l[i] ∈ l := List.getElem_mem hi
  have := List.filter_eq_nil_iff.1 hn _ hm
  simp at this
  simp [Array.getD, hi, this]

theorem ready_of_least {listed : Array Bool} (hok : looseOk ops = true) {i : Nat} (hi : i < ops.size) (hl : listed.getD i true = false)
    (hbelow : ∀ j, j < i → listed.getD j false = true) : i ∈ Region.ready .any ops listed := by
  have hio : ops[i]? = some ops[i] := Array.getElem?_eq_getElem hi
  unfold Region.ready
  refine List.mem_filter.2 ⟨List.mem_range.2 hi, ?_⟩
  rw [hl, hio]
  simp only [Bool.not_false, Bool.true_and, Option.map_some, Option.getD_some, Array.all_eq_true_iff_forall_mem]
  intro e he
  by_cases hb : Region.binds .any e = true
  · rw [hbelow e.on ((looseOk_spec hok hio).1 e he hb)]; simp
  · simp [hb]

theorem all_of_ready {listed : Array Bool} (hok : looseOk ops = true) (hs : listed.size = ops.size) (h : Region.ready .any ops listed = []) : ∀ n i, i < n → i < ops.size → listed.getD i false = true := by
  intro n
  induction n with
  | zero => intro i hi; omega
  | succ n ih =>
    intro i hi hio
    by_cases hin : i < n
    · exact ih i hin hio
    · have : i = n := by omega
      subst this
      by_cases hl : listed.getD i false = true
      · exact hl
      · have hlt : i < listed.size := by omega
        have hl' : listed.getD i true = false := by
          simp [Array.getD, hlt] at hl ⊢; exact hl
        have := ready_of_least hok hio hl' (fun j hj => ih j hj (by omega))
        rw [h] at this
        simp at this

theorem loose_any {C : World → Prop} {R : World → World → Prop} {V : Tmp → Value → World → Prop} {a0 : Act} (hok : looseOk ops = true) (hfit : ∀ d ∈ dsts ops, d < a0.tmps.size)
    (hR_refl : ∀ w, R w w) (hR : ∀ t v w w', C w → R w w' → V t v w → V t v w') (hops : ∀ o ∈ ops.toList, LooseOp P ops a0 C R V o)
    (hQ : ∀ a w, SameBut (dsts ops) a0 a → C w → (∀ t ∈ dsts ops, V t (a.eval (.tmp t)) w) → Q .normal a w) :
    ∀ (fuel : Nat) (listed : Array Bool) (a : Act) (w : World), listed.size = ops.size → left listed ≤ fuel → SameBut (dsts ops) a0 a → C w →
      (∀ (i : Nat) (o : Oper) (d : Tmp), ops[i]? = some o → o.dst = some d → listed.getD i false = true → V d (a.eval (.tmp d)) w) → wpAny P .any ops Q fuel listed a w := by
  intro fuel
  have hend : ∀ (listed : Array Bool) (a : Act) (w : World), SameBut (dsts ops) a0 a → C w → (∀ i, i < ops.size → listed.getD i false = true) →
      (∀ (i : Nat) (o : Oper) (d : Tmp), ops[i]? = some o → o.dst = some d → listed.getD i false = true → V d (a.eval (.tmp d)) w) → Q .normal a w := by
    intro listed a w hsb hC hall hV
    refine hQ a w hsb hC fun t ht => ?_
    obtain ⟨j, hj⟩ := mem_dsts ht
    cases hj' : ops[j]? with
    | none => rw [hj'] at hj; cases hj
    | some o' => rw [hj'] at hj; exact hV j o' t hj' hj (hall j (Array.getElem?_eq_some_iff.1 hj').1)
  induction fuel with
  | zero =>
    intro listed a w hs hf hsb hC hV
    have hall : ∀ i, i < ops.size → listed.getD i false = true := fun i hi => left_zero (by omega) i (by omega)
    refine ⟨?_, hend listed a w hsb hC hall hV⟩
    unfold Region.ready
    refine List.filter_eq_nil_iff.2 fun i hi => ?_
    have hlt : i < ops.size := List.mem_range.1 hi
    have h1 := hall i hlt
    have h2 : listed.getD i true = true := by
      simp [Array.getD, show i < listed.size by omega] at h1 ⊢; exact h1
    simp [h2]
  | succ fuel ih =>
    intro listed a w hs hf hsb hC hV
    refine ⟨fun h0 => hend listed a w hsb hC (fun i hi => all_of_ready hok hs h0 (i + 1) i (by omega) hi) hV, fun i hi => ?_⟩
    unfold Region.ready at hi
    obtain ⟨hir, hic⟩ := List.mem_filter.1 hi
    have hlt : i < ops.size := List.mem_range.1 hir
    have hio : ops[i]? = some ops[i] := Array.getElem?_eq_getElem hlt
    generalize ops[i] = o at hio
    rw [hio] at hic
    simp only [Option.map_some, Option.getD_some, Bool.and_eq_true, Bool.not_eq_true', Array.all_eq_true_iff_forall_mem, Bool.or_eq_true] at hic
    obtain ⟨hun, hed⟩ := hic
    obtain ⟨_, hs2⟩ := looseOk_spec hok hio
    have hmem : o ∈ ops.toList := by
      rw [← Array.getElem?_toList] at hio
      exact List.mem_of_getElem? hio
    have hlook : ∀ t ∈ o.looksAt ops, t ∈ dsts ops → V t (a.eval (.tmp t)) w := by
      intro t ht htd
      obtain ⟨j, hj⟩ := mem_dsts htd
      obtain ⟨e, he, hej, heb⟩ := (hs2 j t hj).1 ht
      have hl : listed.getD j false = true := by
        rcases hed e he with h1 | h1
        · rw [heb] at h1; cases h1
        · rw [← hej]; exact h1
      cases hj' : ops[j]? with
      | none => rw [hj'] at hj; cases hj
      | some o' => rw [hj'] at hj; exact hV j o' t hj' hj hl
    have hop := hops o hmem Q a w (fun t ht => hsb.eval ht) hC hlook
    have hnext : ∀ (v : Value) (w' : World), C w' → R w w' → (∀ d, o.dst = some d → V d v w') → wpAny P .any ops Q fuel (listed.setIfInBounds i true) (a.put o.dst v) w' := by
      intro v w' hC' hR' hv
      refine ih _ _ _ (by simpa using hs) (by have := left_set (listed := listed) (i := i) (by omega) hun; omega) ?_ hC' ?_
      · refine ⟨?_, ?_, ?_⟩
        · cases h : o.dst <;> simp [Act.put, hsb.1]
        · cases h : o.dst <;> simp [Act.put, hsb.2.1]
        · intro t ht
          cases h : o.dst with
          | none => simpa [Act.put] using hsb.2.2 t ht
          | some d =>
            have hne : d ≠ t := fun e => ht (e ▸ dsts_mem hio h)
            simp only [Act.put]
            rw [Array.getElem?_setIfInBounds, if_neg hne]
            exact hsb.2.2 t ht
      · intro j o' d hj hd hl
        by_cases hji : j = i
        · subst hji
          rw [hio] at hj
          obtain rfl := Option.some.inj hj
          have hdl : d < a.tmps.size := by rw [hsb.2.1]; exact hfit d (dsts_mem hio hd)
          have : (a.put o.dst v).eval (.tmp d) = v := by
            simp [Act.put, hd, Act.eval, Array.getD_eq_getD_getElem?, hdl]
          rw [this]
          exact hv d hd
        · have hl' : listed.getD j false = true := by
            have hjlt : j < ops.size := (Array.getElem?_eq_some_iff.1 hj).1
            have hjl : j < listed.size := by omega
            have hjl2 : j < (listed.setIfInBounds i true).size := by simpa using hjl
            simp only [Array.getD, hjl2, hjl, dite_true] at hl ⊢
            rw [Array.getInternal_eq_getElem] at hl ⊢
            rw [Array.getElem_setIfInBounds] at hl
            simpa [Ne.symm hji] using hl
          have hne : o.dst ≠ some d := (hs2 j d (by rw [hj]; exact hd)).2 (Ne.symm hji)
          have : (a.put o.dst v).eval (.tmp d) = a.eval (.tmp d) := by
            refine Act.eval_put ?_
            intro d' hd' e
            injection e with e
            subst e
            exact hne hd'
          rw [this]
          exact hR _ _ _ _ hC hR' (hV j o' d hj hd hl')
    unfold wpOp
    simp only [hio]
    by_cases hw : Region.wanted o (yielded ops a.tmps) = true
    · rw [if_pos hw] at hop
      rw [if_pos hw]
      refine .inl (Oper.wp_mono ?_ hop)
      rintro a' w' ⟨v, rfl, hC', hR', hv⟩
      exact hnext v w' hC' hR' hv
    · rw [if_neg hw] at hop
      rw [if_neg hw]
      exact hnext undef w hC (hR_refl w) hop

theorem wp_region_loose0 {id : Nat} {a0 : Act} {w : World} (C : World → Prop) (R : World → World → Prop) (V : Tmp → Value → World → Prop) (hm : P.follows .mixedOrders = true) (hok : looseOk ops = true)
    (hfit : (dsts ops).all (fun d => decide (d < a0.tmps.size)) = true) (hC : C w.drew) (hR_refl : ∀ w, R w w) (hR : ∀ t v w w', C w → R w w' → V t v w → V t v w')
    (hops : ∀ o ∈ ops.toList, LooseOp P ops a0 C R V o) (hQ : ∀ (σ : Tmp → Value) w, C w → (∀ t ∈ dsts ops, V t (σ t) w) → Q .normal (putAll (dsts ops) σ a0) w) : (Code.region id ops true).wp P Q a0 w := by
  refine wp_region_any hm (loose_any (a0 := a0) hok (fun d hd => by simpa using List.all_eq_true.1 hfit d hd) hR_refl hR hops (fun a w hsb hC hV => ?_) _ _ _ _ (by simp) ?_ ⟨rfl, rfl, fun _ _ => rfl⟩ hC ?_)
  · rw [hsb.put_all]
    exact hQ _ w hC hV
  · have : ∀ n, ((List.replicate n false).filter (fun b => !b)).length = n := fun n => by induction n <;> simp_all [List.replicate_succ]
    simp [left]
  · intro i o d hi _ hl
    have hlt : i < ops.size := (Array.getElem?_eq_some_iff.1 hi).1
    simp [Array.getD, hlt] at hl

/-- Behind an operation: a world of the class, what is known stays known, and what is known of the slot that it wrote. -/
def Good (C : World → Prop) (R : World → World → Prop) (V : Tmp → Value → World → Prop) (w : World) (dst : Option Tmp) (v : Value) (w' : World) : Prop :=
  C w' ∧ R w w' ∧ match dst with | some d => V d v w' | none => True

def looseUpon (P : Program) (G : Value → World → Prop) : Result Next → Prop
  | .ok (.value v) w' => G v w'
  | .ok .skip w' => G undef w'
  | .ok (.enter f args) w' => Calls P f args w' fun e w'' => ∃ v, e = .returned v ∧ G v w''
  | _ => False

@[simp] theorem looseUpon_value (G : Value → World → Prop) (v : Value) (w : World) : looseUpon P G (.ok (.value v) w) = G v w := rfl
@[simp] theorem looseUpon_skip (G : Value → World → Prop) (w : World) : looseUpon P G (.ok .skip w) = G undef w := rfl
@[simp] theorem looseUpon_enter (G : Value → World → Prop) (f : FuncId) (args : Array Value) (w : World) : looseUpon P G (.ok (.enter f args) w) = Calls P f args w fun e w'' => ∃ v, e = .returned v ∧ G v w'' := rfl

/-- What is asked of one operation, the frame being a function on operands. -/
def LooseOne (P : Program) (ops : Array Oper) (a0 : Act) (C : World → Prop) (R : World → World → Prop) (V : Tmp → Value → World → Prop) (o : Oper) : Prop :=
  ∀ (ρ : Operand → Value) (w : World), (∀ v, ρ (.const v) = v) → (∀ f, ρ (.func f) = .func (.func f) #[] #[]) → (∀ g, ρ (.global g) = .pointer (some ⟨g, 0, none⟩)) → (∀ t, t ∉ dsts ops → ρ (.tmp t) = a0.eval (.tmp t)) → C w →
    (∀ t ∈ o.looksAt ops, t ∈ dsts ops → V t (ρ (.tmp t)) w) →
    match o.guard with
    | none => looseUpon P (Good C R V w o.dst) ((execOp ρ o).run P w)
    | some (j, want) => ∃ d b, (ops[j]?).bind (·.dst) = some d ∧ ρ (.tmp d) = .bool b ∧ if b = want then looseUpon P (Good C R V w o.dst) ((execOp ρ o).run P w) else (match o.dst with | some d => V d undef w | none => True)

theorem loose_of_one {a0 : Act} {C : World → Prop} {R : World → World → Prop} {V : Tmp → Value → World → Prop} {o : Oper} (h : LooseOne P ops a0 C R V o) : LooseOp P ops a0 C R V o := by
  intro Q a w hout hC hV
  have h1 := h a.eval w (fun _ => rfl) (fun _ => rfl) (fun _ => rfl) hout hC hV
  have hup : looseUpon P (Good C R V w o.dst) ((execOp a.eval o).run P w) → o.wp P a w (fun a' w' => ∃ v, a' = a.put o.dst v ∧ C w' ∧ R w w' ∧ ∀ d, o.dst = some d → V d v w') Q := by
    have hg : ∀ v w', Good C R V w o.dst v w' → ∃ v', a.put o.dst v = a.put o.dst v' ∧ C w' ∧ R w w' ∧ ∀ d, o.dst = some d → V d v' w' := by
      rintro v w' ⟨h1, h2, h3⟩
      refine ⟨v, rfl, h1, h2, fun d hd => ?_⟩
      rw [hd] at h3
      exact h3
    intro hl
    unfold Oper.wp
    generalize (execOp a.eval o).run P w = r at hl ⊢
    cases r with
    | ok n w' =>
      cases n <;> simp only [looseUpon] at hl <;> simp only [Oper.upon]
      case value u => exact hg _ _ hl
      case skip => exact hg _ _ hl
      case enter f args =>
        refine hl.mono ?_
        rintro e w'' ⟨v, rfl, hv⟩
        exact hg _ _ hv
    | halt x w' => simp only [looseUpon] at hl
  cases hgd : o.guard with
  | none =>
    rw [hgd] at h1
    have hw : Region.wanted o (yielded ops a.tmps) = true := by simp [Region.wanted, hgd]
    rw [if_pos hw]
    exact hup h1
  | some jw =>
    obtain ⟨j, want⟩ := jw
    rw [hgd] at h1
    obtain ⟨d, b, hd, hb, h2⟩ := h1
    have hy : yielded ops a.tmps j = some b := by
      unfold yielded
      rw [hd]
      simp only [Option.bind_some]
      simp only [Act.eval, Array.getD_eq_getD_getElem?] at hb
      cases hg : a.tmps[d]? with
      | none => rw [hg] at hb; simp [undef] at hb
      | some u => rw [hg] at hb; simp at hb; subst hb; rfl
    have hw : Region.wanted o (yielded ops a.tmps) = decide (b = want) := by
      simp only [Region.wanted, hgd, hy]
      cases b <;> cases want <;> rfl
    by_cases hbw : b = want
    · rw [if_pos hbw] at h2
      rw [if_pos (by rw [hw]; simpa using hbw)]
      exact hup h2
    · rw [if_neg hbw] at h2
      rw [if_neg (by rw [hw]; simpa using hbw)]
      intro d' hd'
      rw [hd'] at h2
      exact h2

/-- THE RULE. -/
theorem wp_region_loose {id : Nat} {a0 : Act} {w : World} (C : World → Prop) (R : World → World → Prop) (V : Tmp → Value → World → Prop) (hm : P.follows .mixedOrders = true) (hok : looseOk ops = true)
    (hfit : (dsts ops).all (fun d => decide (d < a0.tmps.size)) = true) (hC : C w.drew) (hR_refl : ∀ w, R w w) (hR : ∀ t v w w', C w → R w w' → V t v w → V t v w')
    (hops : ∀ o ∈ ops.toList, LooseOne P ops a0 C R V o) (hQ : ∀ (σ : Tmp → Value) w, C w → (∀ t ∈ dsts ops, V t (σ t) w) → Q .normal (putAll (dsts ops) σ a0) w) : (Code.region id ops true).wp P Q a0 w :=
  wp_region_loose0 C R V hm hok hfit hC hR_refl hR (fun o ho => loose_of_one (hops o ho)) hQ
end
end Go.Proofs.Ytbmegoemimfiaaa

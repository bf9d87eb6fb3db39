/-
  A region that draws its order and whose last operations are forced: the first n operations by the rule of Loose, the rest in the text's order. No program in sight.
-/
import Derived.Test.YtbmegoemimfiaaaLoose
namespace Go.Proofs.Ytbmegoemimfiaaa
open Go Go.RowKit

section
variable {P : Program} {ops : Array Oper} {Q : Exit → Act → World → Prop}

def upTo' (N k : Nat) : Array Bool := ((List.range N).map fun i => decide (i < k)).toArray
theorem upTo'_size (N k : Nat) : (upTo' N k).size = N := by simp [upTo']
theorem upTo'_getD (N k i : Nat) (d : Bool) : (upTo' N k).getD i d = if i < N then decide (i < k) else d := by
  by_cases h : i < N <;> simp [upTo', Array.getD, h]
theorem upTo'_set (N k : Nat) : (upTo' N k).setIfInBounds k true = upTo' N (k + 1) := by
  apply Array.ext
  · simp [upTo'_size]
  · intro i h1 h2
    simp [upTo'_size] at h2
    rw [Array.getElem_setIfInBounds (by simpa [upTo'_size] using h2)]
    by_cases h : k = i
    · subst h; simp [upTo']
    · simp [upTo', h]; omega

/-- The operations from n on come up in the text's order, each alone. -/
def chainOk (ops : Array Oper) (n : Nat) : Bool := (List.range ops.size).all fun k => decide (k < n) || Region.ready .any ops (upTo' ops.size k) == [k]

theorem tail_any {n : Nat} (hch : chainOk ops n = true) : ∀ (m k fuel : Nat) (a : Act) (w : World), k + m = ops.size → n ≤ k → m ≤ fuel → wpList P ops Q (ops.toList.drop k) a w → wpAny P .any ops Q fuel (upTo' ops.size k) a w := by
  intro m
  induction m with
  | zero =>
    intro k fuel a w hk hn hf h
    have hd : ops.toList.drop k = [] := List.drop_of_length_le (by simp; omega)
    rw [hd] at h
    have hr : Region.ready .any ops (upTo' ops.size k) = [] := by
      unfold Region.ready
      refine List.filter_eq_nil_iff.2 fun i hi => ?_
      have hlt : i < ops.size := List.mem_range.1 hi
      rw [upTo'_getD, if_pos hlt, decide_eq_true (show i < k by omega)]
      simp
    cases fuel with
    | zero => exact ⟨hr, h⟩
    | succ fuel => exact ⟨fun _ => h, fun i hi => by rw [hr] at hi; cases hi⟩
  | succ m ih =>
    intro k fuel a w hk hn hf h
    have hlt : k < ops.size := by omega
    have hr : Region.ready .any ops (upTo' ops.size k) = [k] := by
      have := List.all_eq_true.1 hch k (List.mem_range.2 hlt)
      simpa [show ¬ k < n by omega] using this
    cases fuel with
    | zero => omega
    | succ fuel =>
      refine ⟨fun h0 => (by rw [hr] at h0; cases h0), fun i hi => ?_⟩
      rw [hr] at hi
      obtain rfl : i = k := by simpa using hi
      have hio : ops[i]? = some ops[i] := Array.getElem?_eq_getElem hlt
      have hd : ops.toList.drop i = ops[i] :: ops.toList.drop (i + 1) := by
        rw [List.drop_eq_getElem_cons (by simpa using hlt)]
        simp
      rw [hd] at h
      unfold wpOp
      simp only [hio]
      rw [upTo'_set]
      unfold wpList at h
      split at h
      · rename_i hw
        rw [if_pos hw]
        exact h.imp (Oper.wp_mono fun a w hh => ih (i + 1) fuel a w (by omega) (by omega) (by omega) hh) id
      · rename_i hw
        rw [if_neg hw]
        exact ih (i + 1) fuel _ w (by omega) (by omega) (by omega) h

/-- What stands before an operation, by its edges: a list that is checked, not trusted. -/
def befores (ops : Array Oper) : List (List Nat) := (Region.before ops).toList.map fun b => (List.range ops.size).filter fun j => b.testBit j
def beforesOk (ops : Array Oper) (B : List (List Nat)) : Bool :=
  (List.range ops.size).all fun i => match ops[i]? with
    | none => true
    | some o => (o.after.all fun e => !Region.binds .any e || decide (e.on < i)) && (B.getD i []).all fun j => o.after.any fun e => Region.binds .any e && (e.on == j || (B.getD e.on []).contains j)
/-- Of the first n operations: each looks only at slots whose writer stands before it; of the others: all of the first n stand before them; no slot has two writers. -/
def tailOk (ops : Array Oper) (n : Nat) (B : List (List Nat)) : Bool :=
  beforesOk ops B && decide (n ≤ ops.size) && chainOk ops n &&
  (List.range ops.size).all fun i => match ops[i]? with
    | none => true
    | some o => if i < n then
        (List.range n).all fun j => match (ops[j]?).bind (·.dst) with
          | none => true
          | some d => (!(o.looksAt ops).contains d || (B.getD i []).contains j) && (i == j || o.dst != some d)
      else (List.range n).all fun j => (B.getD i []).contains j

def Closed (ops : Array Oper) (listed : Array Bool) : Prop := ∀ (i : Nat) (o : Oper), ops[i]? = some o → listed.getD i false = true → ∀ e ∈ o.after, Region.binds .any e = true → listed.getD e.on false = true

theorem before_listed {B : List (List Nat)} (hok : beforesOk ops B = true) {listed : Array Bool} (hcl : Closed ops listed) : ∀ (N i : Nat) (o : Oper), i < N → ops[i]? = some o →
    (∀ e ∈ o.after, Region.binds .any e = true → listed.getD e.on false = true) → ∀ j ∈ B.getD i [], listed.getD j false = true := by
  intro N
  induction N with
  | zero => intro i o h; omega
  | succ N ih =>
    intro i o hi ho hed j hj
    have hlt : i < ops.size := (Array.getElem?_eq_some_iff.1 ho).1
    have h1 := List.all_eq_true.1 hok i (List.mem_range.2 hlt)
    simp only [ho, Bool.and_eq_true] at h1
    have h2 := List.all_eq_true.1 h1.2 j hj
    obtain ⟨e, he, h3⟩ := Array.any_eq_true'.1 h2
    simp only [Bool.and_eq_true, Bool.or_eq_true, beq_iff_eq, List.contains_eq_mem, decide_eq_true_eq] at h3
    have hl := hed e he h3.1
    rcases h3.2 with h4 | h4
    · rw [← h4]; exact hl
    · have h5 := Array.all_eq_true_iff_forall_mem.1 h1.1 e he
      simp only [Bool.or_eq_true, Bool.not_eq_true', decide_eq_true_eq] at h5
      have hlt2 : e.on < i := by
        rcases h5 with h5 | h5
        · rw [h3.1] at h5; cases h5
        · exact h5
      have hio : ops[e.on]? = some (ops[e.on]'(by omega)) := Array.getElem?_eq_getElem (by omega)
      exact ih e.on _ (by omega) hio (hcl e.on _ hio hl) j h4

theorem tailOk_spec {n : Nat} {B : List (List Nat)} (h : tailOk ops n B = true) : beforesOk ops B = true ∧ n ≤ ops.size ∧ chainOk ops n = true ∧
    (∀ (i : Nat) (o : Oper), i < n → ops[i]? = some o → ∀ j d, j < n → (ops[j]?).bind (·.dst) = some d → (d ∈ o.looksAt ops → j ∈ B.getD i []) ∧ (i ≠ j → o.dst ≠ some d)) ∧
    ∀ (i : Nat) (o : Oper), n ≤ i → ops[i]? = some o → ∀ j, j < n → j ∈ B.getD i [] := by
  unfold tailOk at h
  simp only [Bool.and_eq_true, decide_eq_true_eq] at h
  obtain ⟨⟨⟨h1, h2⟩, h3⟩, h4⟩ := h
  refine ⟨h1, h2, h3, fun i o hi ho j d hj hd => ?_, fun i o hi ho j hj => ?_⟩
  · have h5 := List.all_eq_true.1 h4 i (List.mem_range.2 (by omega))
    simp only [ho, if_pos hi] at h5
    have h6 := List.all_eq_true.1 h5 j (List.mem_range.2 hj)
    simp only [hd, Bool.and_eq_true, Bool.or_eq_true, Bool.not_eq_true', List.contains_eq_mem, decide_eq_false_iff_not, decide_eq_true_eq, beq_iff_eq, bne_iff_ne, ne_eq] at h6
    refine ⟨fun hl => ?_, fun hij => ?_⟩
    · rcases h6.1 with h7 | h7
      · exact absurd hl h7
      · exact h7
    · rcases h6.2 with h7 | h7
      · exact absurd h7 hij
      · exact h7
  · have hlt : i < ops.size := (Array.getElem?_eq_some_iff.1 ho).1
    have h5 := List.all_eq_true.1 h4 i (List.mem_range.2 hlt)
    simp only [ho, if_neg (show ¬ i < n by omega)] at h5
    have h6 := List.all_eq_true.1 h5 j (List.mem_range.2 hj)
    simpa using h6

def headDsts (ops : Array Oper) (n : Nat) : List Tmp := (ops.toList.take n).filterMap (·.dst)
theorem mem_headDsts {n : Nat} {t : Tmp} (h : t ∈ headDsts ops n) : ∃ j : Nat, j < n ∧ (ops[j]?).bind (·.dst) = some t := by
  unfold headDsts at h
  obtain ⟨o, ho, hd⟩ := List.mem_filterMap.1 h
  obtain ⟨j, hj⟩ := List.getElem?_of_mem ho
  rw [List.getElem?_take] at hj
  split at hj
  · rename_i hlt
    exact ⟨j, hlt, by rw [← Array.getElem?_toList, hj]; exact hd⟩
  · cases hj
theorem headDsts_mem {n j : Nat} {o : Oper} {t : Tmp} (hn : j < n) (hj : ops[j]? = some o) (hd : o.dst = some t) : t ∈ headDsts ops n := by
  unfold headDsts
  refine List.mem_filterMap.2 ⟨o, ?_, hd⟩
  have : (ops.toList.take n)[j]? = some o := by rw [List.getElem?_take, if_pos hn, Array.getElem?_toList]; exact hj
  exact List.mem_of_getElem? this

/-- What is asked of one operation of the head. -/
def HeadOp (P : Program) (ops : Array Oper) (n : Nat) (a0 : Act) (C : World → Prop) (R : World → World → Prop) (V : Tmp → Value → World → Prop) (o : Oper) : Prop :=
  ∀ (Q : Exit → Act → World → Prop) (a : Act) (w : World), (∀ t, t ∉ headDsts ops n → a.eval (.tmp t) = a0.eval (.tmp t)) → C w → (∀ t ∈ o.looksAt ops, t ∈ headDsts ops n → V t (a.eval (.tmp t)) w) →
    if Region.wanted o (yielded ops a.tmps) then o.wp P a w (fun a' w' => ∃ v, a' = a.put o.dst v ∧ C w' ∧ R w w' ∧ ∀ d, o.dst = some d → V d v w') Q
    else ∀ d, o.dst = some d → V d undef w

theorem head_any {n : Nat} {B : List (List Nat)} {C : World → Prop} {R : World → World → Prop} {V : Tmp → Value → World → Prop} {a0 : Act} (hok : tailOk ops n B = true) (hfit : ∀ d ∈ headDsts ops n, d < a0.tmps.size)
    (hR_refl : ∀ w, R w w) (hR : ∀ t v w w', C w → R w w' → V t v w → V t v w') (hops : ∀ o ∈ ops.toList.take n, HeadOp P ops n a0 C R V o)
    (hQ : ∀ a w, SameBut (headDsts ops n) a0 a → C w → (∀ t ∈ headDsts ops n, V t (a.eval (.tmp t)) w) → wpList P ops Q (ops.toList.drop n) a w) :
    ∀ (fuel : Nat) (listed : Array Bool) (a : Act) (w : World), listed.size = ops.size → left listed ≤ fuel → Closed ops listed → (∀ i, n ≤ i → listed.getD i false = false) → SameBut (headDsts ops n) a0 a → C w →
      (∀ (i : Nat) (o : Oper) (d : Tmp), i < n → ops[i]? = some o → o.dst = some d → listed.getD i false = true → V d (a.eval (.tmp d)) w) → wpAny P .any ops Q fuel listed a w := by
  obtain ⟨hbo, hns, hch, hhead, htail⟩ := tailOk_spec hok
  intro fuel
  have hall : ∀ (fuel : Nat) (listed : Array Bool) (a : Act) (w : World), listed.size = ops.size → left listed ≤ fuel → (∀ i, n ≤ i → listed.getD i false = false) → SameBut (headDsts ops n) a0 a → C w →
      (∀ (i : Nat) (o : Oper) (d : Tmp), i < n → ops[i]? = some o → o.dst = some d → listed.getD i false = true → V d (a.eval (.tmp d)) w) → (∀ i, i < n → listed.getD i false = true) → wpAny P .any ops Q fuel listed a w := by
    intro fuel listed a w hs hf htl hsb hC hV hdone
    have he : listed = upTo' ops.size n := by
      apply Array.ext
      · rw [upTo'_size, hs]
      · intro i h1 h2
        by_cases hin : i < n
        · have h3 := hdone i hin
          simp only [Array.getD, h1, dite_true] at h3
          have h4 := upTo'_getD ops.size n i false
          simp only [Array.getD, h2, dite_true, show i < ops.size by omega, if_true] at h4
          rw [Array.getInternal_eq_getElem] at h3 h4
          rw [h3, h4]
          simp [hin]
        · have h3 := htl i (by omega)
          simp only [Array.getD, h1, dite_true] at h3
          have h4 := upTo'_getD ops.size n i false
          simp only [Array.getD, h2, dite_true, show i < ops.size by omega, if_true] at h4
          rw [Array.getInternal_eq_getElem] at h3 h4
          rw [h3, h4]
          simp [hin]
    subst he
    have hleft : ops.size - n ≤ left (upTo' ops.size n) := by
      unfold left upTo'
      have : ∀ N, N - n ≤ (((List.range N).map fun i => decide (i < n)).filter (fun b => !b)).length := by
        intro N
        induction N with
        | zero => simp
        | succ N ih =>
          rw [List.range_succ, List.map_append, List.filter_append, List.length_append]
          by_cases h : N < n
          · simp [h]; omega
          · simp [h]; omega
      exact this _
    refine tail_any hch (ops.size - n) n fuel a w (by omega) (Nat.le_refl _) (by omega) (hQ a w hsb hC fun t ht => ?_)
    obtain ⟨j, hj, hjd⟩ := mem_headDsts ht
    cases hj' : ops[j]? with
    | none => rw [hj'] at hjd; cases hjd
    | some o' => rw [hj'] at hjd; exact hV j o' t hj hj' hjd (hdone j hj)
  induction fuel with
  | zero =>
    intro listed a w hs hf hcl htl hsb hC hV
    refine hall 0 listed a w hs hf htl hsb hC hV fun i hi => left_zero (by omega) i (by omega)
  | succ fuel ih =>
    intro listed a w hs hf hcl htl hsb hC hV
    by_cases hdone : ∀ i, i < n → listed.getD i false = true
    · exact hall (fuel + 1) listed a w hs hf htl hsb hC hV hdone
    · refine ⟨fun h0 => ?_, fun i hi => ?_⟩
      · -- the least that is not listed is ready
        exfalso
        apply hdone
        have key : ∀ N i, i < N → i < n → listed.getD i false = true := by
          intro N
          induction N with
          | zero => intro i h; omega
          | succ N ihN =>
            intro i hi hin
            by_cases hiN : i < N
            · exact ihN i hiN hin
            · have : i = N := by omega
              subst this
              by_cases hl : listed.getD i false = true
              · exact hl
              · have hlt : i < listed.size := by omega
                have hl' : listed.getD i true = false := by
                  simp [Array.getD, hlt] at hl ⊢; exact hl
                have hio : ops[i]? = some (ops[i]'(by omega)) := Array.getElem?_eq_getElem (by omega)
                have hmem : i ∈ Region.ready .any ops listed := by
                  unfold Region.ready
                  refine List.mem_filter.2 ⟨List.mem_range.2 (by omega), ?_⟩
                  rw [hl', hio]
                  simp only [Bool.not_false, Bool.true_and, Option.map_some, Option.getD_some, Array.all_eq_true_iff_forall_mem]
                  intro e he
                  by_cases hb : Region.binds .any e = true
                  · have h1 := List.all_eq_true.1 hbo i (List.mem_range.2 (by omega))
                    simp only [hio, Bool.and_eq_true] at h1
                    have h5 := Array.all_eq_true_iff_forall_mem.1 h1.1 e he
                    simp only [Bool.or_eq_true, Bool.not_eq_true', decide_eq_true_eq] at h5
                    have hlt2 : e.on < i := by
                      rcases h5 with h5 | h5
                      · rw [hb] at h5; cases h5
                      · exact h5
                    rw [ihN e.on hlt2 (by omega)]
                    simp
                  · simp [hb]
                rw [h0] at hmem
                cases hmem
        exact fun i hi => key (i + 1) i (by omega) hi
      · unfold Region.ready at hi
        obtain ⟨hir, hic⟩ := List.mem_filter.1 hi
        have hlt : i < ops.size := List.mem_range.1 hir
        have hio : ops[i]? = some ops[i] := Array.getElem?_eq_getElem hlt
        generalize ops[i] = o at hio
        rw [hio] at hic
        simp only [Option.map_some, Option.getD_some, Bool.and_eq_true, Bool.not_eq_true', Array.all_eq_true_iff_forall_mem, Bool.or_eq_true] at hic
        obtain ⟨hun, hed0⟩ := hic
        have hed : ∀ e ∈ o.after, Region.binds .any e = true → listed.getD e.on false = true := by
          intro e he hb
          rcases hed0 e he with h1 | h1
          · rw [hb] at h1; cases h1
          · exact h1
        have hin : i < n := by
          rcases Nat.lt_or_ge i n with h | h
          · exact h
          · exfalso
            exact hdone fun j hj => before_listed hbo hcl (i + 1) i o (by omega) hio hed j (htail i o h hio j hj)
        have hmem : o ∈ ops.toList.take n := by
          have : (ops.toList.take n)[i]? = some o := by rw [List.getElem?_take, if_pos hin, Array.getElem?_toList]; exact hio
          exact List.mem_of_getElem? this
        have hlook : ∀ t ∈ o.looksAt ops, t ∈ headDsts ops n → V t (a.eval (.tmp t)) w := by
          intro t ht htd
          obtain ⟨j, hjn, hj⟩ := mem_headDsts htd
          have hl : listed.getD j false = true := before_listed hbo hcl (i + 1) i o (by omega) hio hed j ((hhead i o hin hio j t hjn hj).1 ht)
          cases hj' : ops[j]? with
          | none => rw [hj'] at hj; cases hj
          | some o' => rw [hj'] at hj; exact hV j o' t hjn hj' hj hl
        have hop := hops o hmem Q a w (fun t ht => hsb.eval ht) hC hlook
        have hset : ∀ j, j ≠ i → (listed.setIfInBounds i true).getD j false = listed.getD j false := by
          intro j hji
          by_cases hjl : j < listed.size
          · have hjl2 : j < (listed.setIfInBounds i true).size := by simpa using hjl
            simp only [Array.getD, hjl2, hjl, dite_true]
            rw [Array.getInternal_eq_getElem, Array.getInternal_eq_getElem, Array.getElem_setIfInBounds hjl]
            simp [Ne.symm hji]
          · simp [Array.getD, hjl]
        have hsub : ∀ j, listed.getD j false = true → (listed.setIfInBounds i true).getD j false = true := by
          intro j hj
          by_cases hji : j = i
          · subst hji
            have : j < listed.size := by omega
            simp [Array.getD, this]
          · rw [hset j hji]; exact hj
        have hnext : ∀ (v : Value) (w' : World), C w' → R w w' → (∀ d, o.dst = some d → V d v w') → wpAny P .any ops Q fuel (listed.setIfInBounds i true) (a.put o.dst v) w' := by
          intro v w' hC' hR' hv
          refine ih _ _ _ (by simpa using hs) (by have := left_set (listed := listed) (i := i) (by omega) hun; omega) ?_ ?_ ?_ hC' ?_
          · intro j o' hj hl e he hb
            by_cases hji : j = i
            · subst hji
              rw [hio] at hj
              obtain rfl := Option.some.inj hj
              exact hsub _ (hed e he hb)
            · rw [hset j hji] at hl
              exact hsub _ (hcl j o' hj hl e he hb)
          · intro j hj
            rw [hset j (by omega)]
            exact htl j hj
          · refine ⟨?_, ?_, ?_⟩
            · cases h : o.dst <;> simp [Act.put, hsb.1]
            · cases h : o.dst <;> simp [Act.put, hsb.2.1]
            · intro t ht
              cases h : o.dst with
              | none => simpa [Act.put] using hsb.2.2 t ht
              | some d =>
                have hne : d ≠ t := fun e => ht (e ▸ headDsts_mem hin hio h)
                simp only [Act.put]
                rw [Array.getElem?_setIfInBounds, if_neg hne]
                exact hsb.2.2 t ht
          · intro j o' d hjn hj hd hl
            by_cases hji : j = i
            · subst hji
              rw [hio] at hj
              obtain rfl := Option.some.inj hj
              have hdl : d < a.tmps.size := by rw [hsb.2.1]; exact hfit d (headDsts_mem hin hio hd)
              have : (a.put o.dst v).eval (.tmp d) = v := by
                simp [Act.put, hd, Act.eval, Array.getD_eq_getD_getElem?, hdl]
              rw [this]
              exact hv d hd
            · rw [hset j hji] at hl
              have hne : o.dst ≠ some d := (hhead i o hin hio j d hjn (by rw [hj]; exact hd)).2 (Ne.symm hji)
              have : (a.put o.dst v).eval (.tmp d) = a.eval (.tmp d) := by
                refine Act.eval_put ?_
                intro d' hd' e
                injection e with e
                subst e
                exact hne hd'
              rw [this]
              exact hR _ _ _ _ hC hR' (hV j o' d hjn hj hd hl)
        unfold wpOp
        simp only [hio]
        by_cases hw : Region.wanted o (yielded ops a.tmps) = true
        · rw [if_pos hw] at hop
          rw [if_pos hw]
          refine .inl (Oper.wp_mono ?_ hop)
          rintro a' w' ⟨v, rfl, hC', hR', hv⟩
          exact hnext v w' hC' hR' hv
        · rw [if_neg hw] at hop
          rw [if_neg hw]
          exact hnext undef w hC (hR_refl w) hop

/-- What is asked of one operation of the head, the frame being a function on operands. -/
def HeadOne (P : Program) (ops : Array Oper) (n : Nat) (a0 : Act) (C : World → Prop) (R : World → World → Prop) (V : Tmp → Value → World → Prop) (o : Oper) : Prop :=
  ∀ (ρ : Operand → Value) (w : World), (∀ v, ρ (.const v) = v) → (∀ f, ρ (.func f) = .func (.func f) #[] #[]) → (∀ g, ρ (.global g) = .pointer (some ⟨g, 0, none⟩)) → (∀ t, t ∉ headDsts ops n → ρ (.tmp t) = a0.eval (.tmp t)) → C w →
    (∀ t ∈ o.looksAt ops, t ∈ headDsts ops n → V t (ρ (.tmp t)) w) →
    match o.guard with
    | none => looseUpon P (Good C R V w o.dst) ((execOp ρ o).run P w)
    | some (j, want) => ∃ d b, (ops[j]?).bind (·.dst) = some d ∧ ρ (.tmp d) = .bool b ∧ if b = want then looseUpon P (Good C R V w o.dst) ((execOp ρ o).run P w) else (match o.dst with | some d => V d undef w | none => True)

theorem head_of_one {n : Nat} {a0 : Act} {C : World → Prop} {R : World → World → Prop} {V : Tmp → Value → World → Prop} {o : Oper} (h : HeadOne P ops n a0 C R V o) : HeadOp P ops n a0 C R V o := by
  intro Q a w hout hC hV
  have h1 := h a.eval w (fun _ => rfl) (fun _ => rfl) (fun _ => rfl) hout hC hV
  have hup : looseUpon P (Good C R V w o.dst) ((execOp a.eval o).run P w) → o.wp P a w (fun a' w' => ∃ v, a' = a.put o.dst v ∧ C w' ∧ R w w' ∧ ∀ d, o.dst = some d → V d v w') Q := by
    have hg : ∀ v w', Good C R V w o.dst v w' → ∃ v', a.put o.dst v = a.put o.dst v' ∧ C w' ∧ R w w' ∧ ∀ d, o.dst = some d → V d v' w' := by
      rintro v w' ⟨h1, h2, h3⟩
      refine ⟨v, rfl, h1, h2, fun d hd => ?_⟩
      rw [hd] at h3
      exact h3
    intro hl
    unfold Oper.wp
    generalize (execOp a.eval o).run P w = r at hl ⊢
    cases r with
    | ok n w' =>
      cases n <;> simp only [looseUpon] at hl <;> simp only [Oper.upon]
      case value u => exact hg _ _ hl
      case skip => exact hg _ _ hl
      case enter f args =>
        refine hl.mono ?_
        rintro e w'' ⟨v, rfl, hv⟩
        exact hg _ _ hv
    | halt x w' => simp only [looseUpon] at hl
  cases hgd : o.guard with
  | none =>
    rw [hgd] at h1
    have hw : Region.wanted o (yielded ops a.tmps) = true := by simp [Region.wanted, hgd]
    rw [if_pos hw]
    exact hup h1
  | some jw =>
    obtain ⟨j, want⟩ := jw
    rw [hgd] at h1
    obtain ⟨d, b, hd, hb, h2⟩ := h1
    have hy : yielded ops a.tmps j = some b := by
      unfold yielded
      rw [hd]
      simp only [Option.bind_some]
      simp only [Act.eval, Array.getD_eq_getD_getElem?] at hb
      cases hg : a.tmps[d]? with
      | none => rw [hg] at hb; simp [undef] at hb
      | some u => rw [hg] at hb; simp at hb; subst hb; rfl
    have hw : Region.wanted o (yielded ops a.tmps) = decide (b = want) := by
      simp only [Region.wanted, hgd, hy]
      cases b <;> cases want <;> rfl
    by_cases hbw : b = want
    · rw [if_pos hbw] at h2
      rw [if_pos (by rw [hw]; simpa using hbw)]
      exact hup h2
    · rw [if_neg hbw] at h2
      rw [if_neg (by rw [hw]; simpa using hbw)]
      intro d' hd'
      rw [hd'] at h2
      exact h2

/-- THE RULE: a head whose order is open, a tail that is forced. -/
theorem wp_region_tail {id : Nat} {a0 : Act} {w : World} (n : Nat) (C : World → Prop) (R : World → World → Prop) (V : Tmp → Value → World → Prop) (hm : P.follows .mixedOrders = true) (hok : tailOk ops n (befores ops) = true)
    (hfit : (headDsts ops n).all (fun d => decide (d < a0.tmps.size)) = true) (hC : C w.drew) (hR_refl : ∀ w, R w w) (hR : ∀ t v w w', C w → R w w' → V t v w → V t v w')
    (hops : ∀ o ∈ ops.toList.take n, HeadOne P ops n a0 C R V o) (hQ : ∀ (σ : Tmp → Value) w, C w → (∀ t ∈ headDsts ops n, V t (σ t) w) → wpList P ops Q (ops.toList.drop n) (putAll (headDsts ops n) σ a0) w) : (Code.region id ops true).wp P Q a0 w := by
  refine wp_region_any hm (head_any (a0 := a0) hok (fun d hd => by simpa using List.all_eq_true.1 hfit d hd) hR_refl hR (fun o ho => head_of_one (hops o ho)) (fun a w hsb hC hV => ?_) _ _ _ _ (by simp) ?_ ?_ ?_ ⟨rfl, rfl, fun _ _ => rfl⟩ hC ?_)
  · rw [hsb.put_all]
    exact hQ _ w hC hV
  · have : ∀ n, ((List.replicate n false).filter (fun b => !b)).length = n := fun n => by induction n <;> simp_all [List.replicate_succ]
    simp [left]
  · intro i o hi hl
    have hlt : i < ops.size := (Array.getElem?_eq_some_iff.1 hi).1
    simp [Array.getD, hlt] at hl
  · intro i _
    by_cases h : i < ops.size <;> simp [Array.getD, h]
  · intro i o d _ hi _ hl
    have hlt : i < ops.size := (Array.getElem?_eq_some_iff.1 hi).1
    simp [Array.getD, hlt] at hl
end
end Go.Proofs.Ytbmegoemimfiaaa

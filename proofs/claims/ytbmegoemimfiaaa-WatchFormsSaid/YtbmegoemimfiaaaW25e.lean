/-
  hostlerlaw25.WatchForms: the walk.
-/
import Derived.Test.YtbmegoemimfiaaaRows
import Derived.Test.YtbmegoemimfiaaaW25d
import Derived.WalkKit
import Derived.WalkSpells
import Derived.WalkLawsBesides
import Derived.Outline
import Derived.Laws.StructEq
import Derived.Deep.Light
import Derived.Deep.QuietTactic
import Derived.BigQuiet
import Derived.Maps.OwnOps
import Derived.Maps.OwnSet
import Derived.Lib.Hide
namespace Go.Proofs.Ytbmegoemimfiaaa
open Go Go.RowKit
set_option maxRecDepth 100000
set_option linter.unusedVariables false
set_option linter.unusedSimpArgs false
def aS (E : Int) : Said := statusOf ⟨#[97]⟩ 1 2 E
def bS (E : Int) : Said := statusOf ⟨#[97]⟩ 2 3 E
def cS (E : Int) : Said := statusOf ⟨#[98]⟩ 1 6 E
def gS (E : Int) : Said := statusOf ⟨#[97]⟩ 2 3 E
def oS (E : Int) : Said := statusOf ⟨#[97]⟩ 2 4 E
def nS (E : Int) : Said := statusOf ⟨#[98]⟩ 2 2 E
def fS : Said := statusOf ⟨#[97]⟩ 1 1 1
def hS : Said := statusOf ⟨#[97]⟩ 1 2 1
def iS : Said := statusOf ⟨#[97]⟩ 2 7 1

def tabT (E : Int) : List (List Said × Bool) := [([], true), ([aS E], true), ([aS E, aS E, bS E, cS E, bS E], true), ([aS E, cS E, bS E, gS (E + 1), gS (E + 1)], true), ([bS E], false), ([bS E, aS E], false), ([aS E, bS E, aS E], false), ([aS E, bS E, oS (E + 1)], false), ([cS E, nS E], false), ([fS], false), ([hS, iS], false)]
theorem tabT_ok (E : Int) : (tabT E).all (fun p => streamsB p.1 == p.2) = true := by kernel_rfl
theorem tabT_wf (E : Int) : (tabT E).all (fun p => p.1.all fun x => (Lit.int .i64 x.m.u).wf && (Lit.int .i64 x.m.s).wf) = true := by kernel_rfl
theorem tabT_len (E : Int) : (tabT E).all (fun p => decide (p.1.length ≤ 1000)) = true := by kernel_rfl
theorem l_a (E : Int) : sent ⟨#[102]⟩ ⟨#[97]⟩ [aS E, cS E, aS E, bS E, bS E, cS E, aS E] = [1, 2, 1] := by kernel_rfl
theorem l_b (E : Int) : sent ⟨#[102]⟩ ⟨#[98]⟩ [aS E, cS E, aS E, bS E, bS E, cS E, aS E] = [1] := by kernel_rfl
theorem l_g (E : Int) : sent ⟨#[103]⟩ ⟨#[97]⟩ [aS E, cS E, aS E, bS E, bS E, cS E, aS E] = [] := by kernel_rfl

def TabFrom (w : World) (g : Nat) : Nat → List (List Said × Bool) → Prop
  | _, [] => True
  | i, p :: T => (∃ A c, w.cell? ⟨g, i * 2, none⟩ = some (.slice A p.1.length c) ∧ w.cell? ⟨g, i * 2 + 1, none⟩ = some (.bool p.2) ∧ RowOf Said.cells 11 w A p.1) ∧ TabFrom w g (i + 1) T
theorem TabFrom.below {w w1 : World} {g : Nat} (hb : Below w.heap.size w w1) : ∀ (T : List (List Said × Bool)) (i : Nat), TabFrom w g i T → TabFrom w1 g i T
  | [], _, _ => trivial
  | p :: T, i, ⟨⟨A, c, h1, h2, h3⟩, h⟩ => ⟨⟨A, c, cell_below hb h1, cell_below hb h2, h3.below hb⟩, TabFrom.below hb T (i + 1) h⟩
theorem TabFrom.get {w : World} {g : Nat} : ∀ (T : List (List Said × Bool)) (i k : Nat) (p : List Said × Bool), TabFrom w g i T → T[k]? = some p →
    ∃ A c, w.cell? ⟨g, (i + k) * 2, none⟩ = some (.slice A p.1.length c) ∧ w.cell? ⟨g, (i + k) * 2 + 1, none⟩ = some (.bool p.2) ∧ RowOf Said.cells 11 w A p.1
  | [], _, _, _, _, h => by simp at h
  | q :: T, i, 0, p, ht, h => by
    simp at h
    subst h
    exact ht.1
  | q :: T, i, k + 1, p, ht, h => by
    have := TabFrom.get T (i + 1) k p ht.2 (by simpa using h)
    rwa [show i + 1 + k = i + (k + 1) by omega] at this
inductive Spec where
  | any | det (v : Value) | row (L : List Said) | ent (L : List Said) (b : Bool) | tab (T : List (List Said × Bool))
def Spec.holds : Spec → Value → World → Prop
  | .any, _, _ => True
  | .det x, v, _ => v = x
  | .row L, v, w => ∃ g, v = .slice (some ⟨g, 0, none⟩) L.length L.length ∧ RowOf Said.cells 11 w (some ⟨g, 0, none⟩) L
  | .ent L b, v, w => ∃ A c, v = .agg #[.slice A L.length c, .bool b] ∧ RowOf Said.cells 11 w A L
  | .tab T, v, w => ∃ g, v = .slice (some ⟨g, 0, none⟩) T.length T.length ∧ TabFrom w g 0 T
theorem Spec.mono {w w1 : World} (hb : Below w.heap.size w w1) : ∀ (s : Spec) (v : Value), s.holds v w → s.holds v w1
  | .any, _, _ => trivial
  | .det _, _, h => h
  | .row _, _, ⟨g, h1, h2⟩ => ⟨g, h1, h2.below hb⟩
  | .ent _ _, _, ⟨A, c, h1, h2⟩ => ⟨A, c, h1, h2.below hb⟩
  | .tab _, _, ⟨g, h1, h2⟩ => ⟨g, h1, TabFrom.below hb _ _ h2⟩
theorem status_lit (t : ByteArray) (n s ep : Int) (w : World) :
    Calls Try.prog 33 #[.string t, .int .i64 n, .int .i64 s, .int .i64 ep] w fun e w' => e = .returned (.agg #[.int .i64 11, .string ⟨#[102]⟩, .string ⟨#[]⟩, .string t, .int .i64 0, .int .i64 s, .int .i64 n, .int .i64 ep, .slice none 0 0, .int .i64 ep, .int .i64 0]) ∧ Below w.heap.size w w' := status_any t n s ep w

def FormsRel (W : World) (i : Value) (wr : World) : Prop := ∃ k : Nat, k ≤ 11 ∧ i = .int .i64 k ∧ Below W.heap.size W wr
set_option maxHeartbeats 16000000 in
theorem watchForms_walk (v : Int) (w : World) : Calls Try.prog 7 #[.int .i64 v] w fun e w' => e = .returned (.bool true) ∧ Below w.heap.size w w' := by
  have hm0 : 0 ≤ v % 9 := Int.emod_nonneg v (by omega)
  have hm1 : v % 9 < 9 := Int.emod_lt_of_pos v (by omega)
  go_enter Try.func7, Try.ntmps7
  go_wp2_with fail
  refine (within_any v 9 (by omega) (by omega) _).mono ?_
  rintro e w1 ⟨rfl, rfl⟩
  generalize v % 9 = m at hm0 hm1 ⊢
  go_wp2_with fail
  generalize hE : 1 + m = E
  have hE0 : 1 ≤ E := by omega
  have hE1 : E ≤ 9 := by omega
  clear hE hm0 hm1
  refine (status_lit _ _ _ _ _).mono ?_
  rintro e w1 ⟨rfl, hb1⟩
  go_wp2_with fail
  refine (status_lit _ _ _ _ _).mono ?_
  rintro e w2 ⟨rfl, hb2⟩
  go_wp2_with fail
  refine (status_lit _ _ _ _ _).mono ?_
  rintro e w3 ⟨rfl, hb3⟩
  have hbw : Below w.heap.size w w3 := below_step (below_step hb1 hb2) hb3
  clear hb1 hb2 hb3
  go_wp2_with fail
  refine (status_lit _ _ _ _ _).mono ?_
  rintro e w4 ⟨rfl, hb4⟩
  have H3 : Hid (AtS w4 w3.heap.size (aS E)) := (((atS_new w3 (aS E) _ _ rfl rfl).alloc _).alloc _).below hb4
  have H4 : Hid (AtS w4 (w3.heap.size + 1) (bS E)) := ((atS_new (w3.alloc _) (bS E) _ _ rfl (by simp)).alloc _).below hb4
  have H5 : Hid (AtS w4 (w3.heap.size + 1 + 1) (cS E)) := (atS_new ((w3.alloc _).alloc _) (cS E) _ _ rfl (by simp)).below hb4
  replace hbw : Below w.heap.size w w4 := below_step (below_alloc (below_alloc (below_alloc hbw _) _) _) hb4
  clear hb4
  go_wp2_with fail
  refine (status_lit _ _ _ _ _).mono ?_
  rintro e w5 ⟨rfl, hb5⟩
  have H6 : Hid (AtS w5 w4.heap.size (gS (E + 1))) := (atS_new w4 (gS (E + 1)) _ _ rfl rfl).below hb5
  replace H3 : Hid (AtS w5 w3.heap.size (aS E)) := (H3.out.alloc _).below hb5
  replace H4 : Hid (AtS w5 (w3.heap.size + 1) (bS E)) := (H4.out.alloc _).below hb5
  replace H5 : Hid (AtS w5 (w3.heap.size + 1 + 1) (cS E)) := (H5.out.alloc _).below hb5
  replace hbw : Below w.heap.size w w5 := below_step (below_alloc hbw _) hb5
  clear hb5
  go_wp2_with fail
  refine (status_lit _ _ _ _ _).mono ?_
  rintro e w6 ⟨rfl, hb6⟩
  have H7 : Hid (AtS w6 w5.heap.size (oS (E + 1))) := (atS_new w5 (oS (E + 1)) _ _ rfl rfl).below hb6
  replace H3 : Hid (AtS w6 w3.heap.size (aS E)) := (H3.out.alloc _).below hb6
  replace H4 : Hid (AtS w6 (w3.heap.size + 1) (bS E)) := (H4.out.alloc _).below hb6
  replace H5 : Hid (AtS w6 (w3.heap.size + 1 + 1) (cS E)) := (H5.out.alloc _).below hb6
  replace H6 : Hid (AtS w6 w4.heap.size (gS (E + 1))) := (H6.out.alloc _).below hb6
  replace hbw : Below w.heap.size w w6 := below_step (below_alloc hbw _) hb6
  clear hb6
  go_wp2_with fail
  generalize hW : w6.alloc _ = W
  have hb7 : Below w6.heap.size w6 W := by rw [← hW]; exact below_alloc (Below.refl _ _) _
  have H8 : Hid (AtS W w6.heap.size (nS E)) := by rw [← hW]; exact atS_new w6 (nS E) _ _ rfl rfl
  clear hW
  replace H3 : Hid (AtS W w3.heap.size (aS E)) := H3.out.below hb7
  replace H4 : Hid (AtS W (w3.heap.size + 1) (bS E)) := H4.out.below hb7
  replace H5 : Hid (AtS W (w3.heap.size + 1 + 1) (cS E)) := H5.out.below hb7
  replace H6 : Hid (AtS W w4.heap.size (gS (E + 1))) := H6.out.below hb7
  replace H7 : Hid (AtS W w5.heap.size (oS (E + 1))) := H7.out.below hb7
  replace hbw : Below w.heap.size w W := below_step hbw hb7
  clear hb7
  obtain ⟨V, HV⟩ : ∃ V : Tmp → Value → World → Prop, Hid (V = fun sl_ v_ w_ => Spec.holds (match sl_ with | 29 => .det (.agg #[.slice none 0 0, .bool true]) | 30 => .det (.agg #[.int .i64 11, .string ⟨#[102]⟩, .string ⟨#[]⟩, .string ⟨#[97]⟩, .int .i64 0, .int .i64 2, .int .i64 1, .int .i64 E, .slice none 0 0, .int .i64 E, .int .i64 0]) | 31 => .row [aS E] | 32 => .ent [aS E] true | 33 => .det (.agg #[.int .i64 11, .string ⟨#[102]⟩, .string ⟨#[]⟩, .string ⟨#[97]⟩, .int .i64 0, .int .i64 2, .int .i64 1, .int .i64 E, .slice none 0 0, .int .i64 E, .int .i64 0]) | 34 => .det (.agg #[.int .i64 11, .string ⟨#[102]⟩, .string ⟨#[]⟩, .string ⟨#[97]⟩, .int .i64 0, .int .i64 2, .int .i64 1, .int .i64 E, .slice none 0 0, .int .i64 E, .int .i64 0]) | 35 => .det (.agg #[.int .i64 11, .string ⟨#[102]⟩, .string ⟨#[]⟩, .string ⟨#[97]⟩, .int .i64 0, .int .i64 3, .int .i64 2, .int .i64 E, .slice none 0 0, .int .i64 E, .int .i64 0]) | 36 => .det (.agg #[.int .i64 11, .string ⟨#[102]⟩, .string ⟨#[]⟩, .string ⟨#[98]⟩, .int .i64 0, .int .i64 6, .int .i64 1, .int .i64 E, .slice none 0 0, .int .i64 E, .int .i64 0]) | 37 => .det (.agg #[.int .i64 11, .string ⟨#[102]⟩, .string ⟨#[]⟩, .string ⟨#[97]⟩, .int .i64 0, .int .i64 3, .int .i64 2, .int .i64 E, .slice none 0 0, .int .i64 E, .int .i64 0]) | 38 => .row [aS E, aS E, bS E, cS E, bS E] | 39 => .ent [aS E, aS E, bS E, cS E, bS E] true | 40 => .det (.agg #[.int .i64 11, .string ⟨#[102]⟩, .string ⟨#[]⟩, .string ⟨#[97]⟩, .int .i64 0, .int .i64 2, .int .i64 1, .int .i64 E, .slice none 0 0, .int .i64 E, .int .i64 0]) | 41 => .det (.agg #[.int .i64 11, .string ⟨#[102]⟩, .string ⟨#[]⟩, .string ⟨#[98]⟩, .int .i64 0, .int .i64 6, .int .i64 1, .int .i64 E, .slice none 0 0, .int .i64 E, .int .i64 0]) | 42 => .det (.agg #[.int .i64 11, .string ⟨#[102]⟩, .string ⟨#[]⟩, .string ⟨#[97]⟩, .int .i64 0, .int .i64 3, .int .i64 2, .int .i64 E, .slice none 0 0, .int .i64 E, .int .i64 0]) | 43 => .det (.agg #[.int .i64 11, .string ⟨#[102]⟩, .string ⟨#[]⟩, .string ⟨#[97]⟩, .int .i64 0, .int .i64 3, .int .i64 2, .int .i64 (E + 1), .slice none 0 0, .int .i64 (E + 1), .int .i64 0]) | 44 => .det (.agg #[.int .i64 11, .string ⟨#[102]⟩, .string ⟨#[]⟩, .string ⟨#[97]⟩, .int .i64 0, .int .i64 3, .int .i64 2, .int .i64 (E + 1), .slice none 0 0, .int .i64 (E + 1), .int .i64 0]) | 45 => .row [aS E, cS E, bS E, gS (E + 1), gS (E + 1)] | 46 => .ent [aS E, cS E, bS E, gS (E + 1), gS (E + 1)] true | 47 => .det (.agg #[.int .i64 11, .string ⟨#[102]⟩, .string ⟨#[]⟩, .string ⟨#[97]⟩, .int .i64 0, .int .i64 3, .int .i64 2, .int .i64 E, .slice none 0 0, .int .i64 E, .int .i64 0]) | 48 => .row [bS E] | 49 => .ent [bS E] false | 50 => .det (.agg #[.int .i64 11, .string ⟨#[102]⟩, .string ⟨#[]⟩, .string ⟨#[97]⟩, .int .i64 0, .int .i64 3, .int .i64 2, .int .i64 E, .slice none 0 0, .int .i64 E, .int .i64 0]) | 51 => .det (.agg #[.int .i64 11, .string ⟨#[102]⟩, .string ⟨#[]⟩, .string ⟨#[97]⟩, .int .i64 0, .int .i64 2, .int .i64 1, .int .i64 E, .slice none 0 0, .int .i64 E, .int .i64 0]) | 52 => .row [bS E, aS E] | 53 => .ent [bS E, aS E] false | 54 => .det (.agg #[.int .i64 11, .string ⟨#[102]⟩, .string ⟨#[]⟩, .string ⟨#[97]⟩, .int .i64 0, .int .i64 2, .int .i64 1, .int .i64 E, .slice none 0 0, .int .i64 E, .int .i64 0]) | 55 => .det (.agg #[.int .i64 11, .string ⟨#[102]⟩, .string ⟨#[]⟩, .string ⟨#[97]⟩, .int .i64 0, .int .i64 3, .int .i64 2, .int .i64 E, .slice none 0 0, .int .i64 E, .int .i64 0]) | 56 => .det (.agg #[.int .i64 11, .string ⟨#[102]⟩, .string ⟨#[]⟩, .string ⟨#[97]⟩, .int .i64 0, .int .i64 2, .int .i64 1, .int .i64 E, .slice none 0 0, .int .i64 E, .int .i64 0]) | 57 => .row [aS E, bS E, aS E] | 58 => .ent [aS E, bS E, aS E] false | 59 => .det (.agg #[.int .i64 11, .string ⟨#[102]⟩, .string ⟨#[]⟩, .string ⟨#[97]⟩, .int .i64 0, .int .i64 2, .int .i64 1, .int .i64 E, .slice none 0 0, .int .i64 E, .int .i64 0]) | 60 => .det (.agg #[.int .i64 11, .string ⟨#[102]⟩, .string ⟨#[]⟩, .string ⟨#[97]⟩, .int .i64 0, .int .i64 3, .int .i64 2, .int .i64 E, .slice none 0 0, .int .i64 E, .int .i64 0]) | 61 => .det (.agg #[.int .i64 11, .string ⟨#[102]⟩, .string ⟨#[]⟩, .string ⟨#[97]⟩, .int .i64 0, .int .i64 4, .int .i64 2, .int .i64 (E + 1), .slice none 0 0, .int .i64 (E + 1), .int .i64 0]) | 62 => .row [aS E, bS E, oS (E + 1)] | 63 => .ent [aS E, bS E, oS (E + 1)] false | 64 => .det (.agg #[.int .i64 11, .string ⟨#[102]⟩, .string ⟨#[]⟩, .string ⟨#[98]⟩, .int .i64 0, .int .i64 6, .int .i64 1, .int .i64 E, .slice none 0 0, .int .i64 E, .int .i64 0]) | 65 => .det (.agg #[.int .i64 11, .string ⟨#[102]⟩, .string ⟨#[]⟩, .string ⟨#[98]⟩, .int .i64 0, .int .i64 2, .int .i64 2, .int .i64 E, .slice none 0 0, .int .i64 E, .int .i64 0]) | 66 => .row [cS E, nS E] | 67 => .ent [cS E, nS E] false | 68 => .det (.agg #[.int .i64 11, .string ⟨#[102]⟩, .string ⟨#[]⟩, .string ⟨#[97]⟩, .int .i64 0, .int .i64 1, .int .i64 1, .int .i64 1, .slice none 0 0, .int .i64 1, .int .i64 0]) | 69 => .row [fS] | 70 => .ent [fS] false | 71 => .det (.agg #[.int .i64 11, .string ⟨#[102]⟩, .string ⟨#[]⟩, .string ⟨#[97]⟩, .int .i64 0, .int .i64 2, .int .i64 1, .int .i64 1, .slice none 0 0, .int .i64 1, .int .i64 0]) | 72 => .det (.agg #[.int .i64 11, .string ⟨#[102]⟩, .string ⟨#[]⟩, .string ⟨#[97]⟩, .int .i64 0, .int .i64 7, .int .i64 2, .int .i64 1, .slice none 0 0, .int .i64 1, .int .i64 0]) | 73 => .row [hS, iS] | 74 => .ent [hS, iS] false | 75 => .tab (tabT E) | 76 => .det (.int .i64 11) | 77 => .det (.int .i64 0) | _ => .any) v_ w_) := ⟨_, rfl⟩
  refine wp_region_loose (Below W.heap.size W ·) (fun w_ w_2 => Below w_.heap.size w_ w_2) V (by kernel_rfl) (by kernel_rfl) (by kernel_rfl) (Below.refl _ _).drew (fun w_ => Below.refl _ _) ?_ ?_ ?_
  · intro t v w w' hC hR h
    rw [HV.out] at h ⊢
    exact Spec.mono hR _ _ h
  · go_light
    simp only [List.forall_mem_cons]
    refine ⟨?_, ?_, ?_, ?_, ?_, ?_, ?_, ?_, ?_, ?_, ?_, ?_, ?_, ?_, ?_, ?_, ?_, ?_, ?_, ?_, ?_, ?_, ?_, ?_, ?_, ?_, ?_, ?_, ?_, ?_, ?_, ?_, ?_, ?_, ?_, ?_, ?_, ?_, ?_, ?_, ?_, ?_, ?_, ?_, ?_, ?_, ?_, ?_, ?_, fun _ h => by cases h⟩
    · intro ρ w1 hc hf hg ho hC hV
      simp only [execOp]
      go_simp
      exact ⟨hC, Below.refl _ _, (by show V 29 _ _; rw [HV.out]; exact rfl)⟩
    · intro ρ w1 hc hf hg ho hC hV
      have e3 := ho 3 (by decide)
      have q0 := cell_below hC (H3.out 0 _ rfl)
      have q1 := cell_below hC (H3.out 1 _ rfl)
      have q2 := cell_below hC (H3.out 2 _ rfl)
      have q3 := cell_below hC (H3.out 3 _ rfl)
      have q4 := cell_below hC (H3.out 4 _ rfl)
      have q5 := cell_below hC (H3.out 5 _ rfl)
      have q6 := cell_below hC (H3.out 6 _ rfl)
      have q7 := cell_below hC (H3.out 7 _ rfl)
      have q8 := cell_below hC (H3.out 8 _ rfl)
      have q9 := cell_below hC (H3.out 9 _ rfl)
      have q10 := cell_below hC (H3.out 10 _ rfl)
      simp only [execOp]
      go_simp
      exact ⟨hC, Below.refl _ _, (by show V 30 _ _; rw [HV.out]; exact rfl)⟩
    · intro ρ w1 hc hf hg ho hC hV
      have e30 : ρ (.tmp 30) = .agg #[.int .i64 11, .string ⟨#[102]⟩, .string ⟨#[]⟩, .string ⟨#[97]⟩, .int .i64 0, .int .i64 2, .int .i64 1, .int .i64 E, .slice none 0 0, .int .i64 E, .int .i64 0] := by have h := hV 30 (by decide) (by decide); rw [HV.out] at h; exact h
      simp only [execOp]
      go_simp
      exact ⟨below_alloc hC _, below_alloc (Below.refl _ _) _, (by show V 31 _ _; rw [HV.out]; exact ⟨_, rfl, rowOf_new' _ [aS E] _ _ rfl rfl⟩)⟩
    · intro ρ w1 hc hf hg ho hC hV
      have e31 : Spec.holds (.row [aS E]) (ρ (.tmp 31)) w1 := by have h := hV 31 (by decide) (by decide); rw [HV.out] at h; exact h
      obtain ⟨g31, e31, r31⟩ := e31
      simp only [execOp]
      go_simp
      exact ⟨hC, Below.refl _ _, (by show V 32 _ _; rw [HV.out]; exact ⟨_, _, rfl, r31⟩)⟩
    · intro ρ w1 hc hf hg ho hC hV
      have e3 := ho 3 (by decide)
      have q0 := cell_below hC (H3.out 0 _ rfl)
      have q1 := cell_below hC (H3.out 1 _ rfl)
      have q2 := cell_below hC (H3.out 2 _ rfl)
      have q3 := cell_below hC (H3.out 3 _ rfl)
      have q4 := cell_below hC (H3.out 4 _ rfl)
      have q5 := cell_below hC (H3.out 5 _ rfl)
      have q6 := cell_below hC (H3.out 6 _ rfl)
      have q7 := cell_below hC (H3.out 7 _ rfl)
      have q8 := cell_below hC (H3.out 8 _ rfl)
      have q9 := cell_below hC (H3.out 9 _ rfl)
      have q10 := cell_below hC (H3.out 10 _ rfl)
      simp only [execOp]
      go_simp
      exact ⟨hC, Below.refl _ _, (by show V 33 _ _; rw [HV.out]; exact rfl)⟩
    · intro ρ w1 hc hf hg ho hC hV
      have e3 := ho 3 (by decide)
      have q0 := cell_below hC (H3.out 0 _ rfl)
      have q1 := cell_below hC (H3.out 1 _ rfl)
      have q2 := cell_below hC (H3.out 2 _ rfl)
      have q3 := cell_below hC (H3.out 3 _ rfl)
      have q4 := cell_below hC (H3.out 4 _ rfl)
      have q5 := cell_below hC (H3.out 5 _ rfl)
      have q6 := cell_below hC (H3.out 6 _ rfl)
      have q7 := cell_below hC (H3.out 7 _ rfl)
      have q8 := cell_below hC (H3.out 8 _ rfl)
      have q9 := cell_below hC (H3.out 9 _ rfl)
      have q10 := cell_below hC (H3.out 10 _ rfl)
      simp only [execOp]
      go_simp
      exact ⟨hC, Below.refl _ _, (by show V 34 _ _; rw [HV.out]; exact rfl)⟩
    · intro ρ w1 hc hf hg ho hC hV
      have e4 := ho 4 (by decide)
      have q0 := cell_below hC (H4.out 0 _ rfl)
      have q1 := cell_below hC (H4.out 1 _ rfl)
      have q2 := cell_below hC (H4.out 2 _ rfl)
      have q3 := cell_below hC (H4.out 3 _ rfl)
      have q4 := cell_below hC (H4.out 4 _ rfl)
      have q5 := cell_below hC (H4.out 5 _ rfl)
      have q6 := cell_below hC (H4.out 6 _ rfl)
      have q7 := cell_below hC (H4.out 7 _ rfl)
      have q8 := cell_below hC (H4.out 8 _ rfl)
      have q9 := cell_below hC (H4.out 9 _ rfl)
      have q10 := cell_below hC (H4.out 10 _ rfl)
      simp only [execOp]
      go_simp
      exact ⟨hC, Below.refl _ _, (by show V 35 _ _; rw [HV.out]; exact rfl)⟩
    · intro ρ w1 hc hf hg ho hC hV
      have e5 := ho 5 (by decide)
      have q0 := cell_below hC (H5.out 0 _ rfl)
      have q1 := cell_below hC (H5.out 1 _ rfl)
      have q2 := cell_below hC (H5.out 2 _ rfl)
      have q3 := cell_below hC (H5.out 3 _ rfl)
      have q4 := cell_below hC (H5.out 4 _ rfl)
      have q5 := cell_below hC (H5.out 5 _ rfl)
      have q6 := cell_below hC (H5.out 6 _ rfl)
      have q7 := cell_below hC (H5.out 7 _ rfl)
      have q8 := cell_below hC (H5.out 8 _ rfl)
      have q9 := cell_below hC (H5.out 9 _ rfl)
      have q10 := cell_below hC (H5.out 10 _ rfl)
      simp only [execOp]
      go_simp
      exact ⟨hC, Below.refl _ _, (by show V 36 _ _; rw [HV.out]; exact rfl)⟩
    · intro ρ w1 hc hf hg ho hC hV
      have e4 := ho 4 (by decide)
      have q0 := cell_below hC (H4.out 0 _ rfl)
      have q1 := cell_below hC (H4.out 1 _ rfl)
      have q2 := cell_below hC (H4.out 2 _ rfl)
      have q3 := cell_below hC (H4.out 3 _ rfl)
      have q4 := cell_below hC (H4.out 4 _ rfl)
      have q5 := cell_below hC (H4.out 5 _ rfl)
      have q6 := cell_below hC (H4.out 6 _ rfl)
      have q7 := cell_below hC (H4.out 7 _ rfl)
      have q8 := cell_below hC (H4.out 8 _ rfl)
      have q9 := cell_below hC (H4.out 9 _ rfl)
      have q10 := cell_below hC (H4.out 10 _ rfl)
      simp only [execOp]
      go_simp
      exact ⟨hC, Below.refl _ _, (by show V 37 _ _; rw [HV.out]; exact rfl)⟩
    · intro ρ w1 hc hf hg ho hC hV
      have e33 : ρ (.tmp 33) = .agg #[.int .i64 11, .string ⟨#[102]⟩, .string ⟨#[]⟩, .string ⟨#[97]⟩, .int .i64 0, .int .i64 2, .int .i64 1, .int .i64 E, .slice none 0 0, .int .i64 E, .int .i64 0] := by have h := hV 33 (by decide) (by decide); rw [HV.out] at h; exact h
      have e34 : ρ (.tmp 34) = .agg #[.int .i64 11, .string ⟨#[102]⟩, .string ⟨#[]⟩, .string ⟨#[97]⟩, .int .i64 0, .int .i64 2, .int .i64 1, .int .i64 E, .slice none 0 0, .int .i64 E, .int .i64 0] := by have h := hV 34 (by decide) (by decide); rw [HV.out] at h; exact h
      have e35 : ρ (.tmp 35) = .agg #[.int .i64 11, .string ⟨#[102]⟩, .string ⟨#[]⟩, .string ⟨#[97]⟩, .int .i64 0, .int .i64 3, .int .i64 2, .int .i64 E, .slice none 0 0, .int .i64 E, .int .i64 0] := by have h := hV 35 (by decide) (by decide); rw [HV.out] at h; exact h
      have e36 : ρ (.tmp 36) = .agg #[.int .i64 11, .string ⟨#[102]⟩, .string ⟨#[]⟩, .string ⟨#[98]⟩, .int .i64 0, .int .i64 6, .int .i64 1, .int .i64 E, .slice none 0 0, .int .i64 E, .int .i64 0] := by have h := hV 36 (by decide) (by decide); rw [HV.out] at h; exact h
      have e37 : ρ (.tmp 37) = .agg #[.int .i64 11, .string ⟨#[102]⟩, .string ⟨#[]⟩, .string ⟨#[97]⟩, .int .i64 0, .int .i64 3, .int .i64 2, .int .i64 E, .slice none 0 0, .int .i64 E, .int .i64 0] := by have h := hV 37 (by decide) (by decide); rw [HV.out] at h; exact h
      simp only [execOp]
      go_simp
      exact ⟨below_alloc hC _, below_alloc (Below.refl _ _) _, (by show V 38 _ _; rw [HV.out]; exact ⟨_, rfl, rowOf_new' _ [aS E, aS E, bS E, cS E, bS E] _ _ rfl rfl⟩)⟩
    · intro ρ w1 hc hf hg ho hC hV
      have e38 : Spec.holds (.row [aS E, aS E, bS E, cS E, bS E]) (ρ (.tmp 38)) w1 := by have h := hV 38 (by decide) (by decide); rw [HV.out] at h; exact h
      obtain ⟨g38, e38, r38⟩ := e38
      simp only [execOp]
      go_simp
      exact ⟨hC, Below.refl _ _, (by show V 39 _ _; rw [HV.out]; exact ⟨_, _, rfl, r38⟩)⟩
    · intro ρ w1 hc hf hg ho hC hV
      have e3 := ho 3 (by decide)
      have q0 := cell_below hC (H3.out 0 _ rfl)
      have q1 := cell_below hC (H3.out 1 _ rfl)
      have q2 := cell_below hC (H3.out 2 _ rfl)
      have q3 := cell_below hC (H3.out 3 _ rfl)
      have q4 := cell_below hC (H3.out 4 _ rfl)
      have q5 := cell_below hC (H3.out 5 _ rfl)
      have q6 := cell_below hC (H3.out 6 _ rfl)
      have q7 := cell_below hC (H3.out 7 _ rfl)
      have q8 := cell_below hC (H3.out 8 _ rfl)
      have q9 := cell_below hC (H3.out 9 _ rfl)
      have q10 := cell_below hC (H3.out 10 _ rfl)
      simp only [execOp]
      go_simp
      exact ⟨hC, Below.refl _ _, (by show V 40 _ _; rw [HV.out]; exact rfl)⟩
    · intro ρ w1 hc hf hg ho hC hV
      have e5 := ho 5 (by decide)
      have q0 := cell_below hC (H5.out 0 _ rfl)
      have q1 := cell_below hC (H5.out 1 _ rfl)
      have q2 := cell_below hC (H5.out 2 _ rfl)
      have q3 := cell_below hC (H5.out 3 _ rfl)
      have q4 := cell_below hC (H5.out 4 _ rfl)
      have q5 := cell_below hC (H5.out 5 _ rfl)
      have q6 := cell_below hC (H5.out 6 _ rfl)
      have q7 := cell_below hC (H5.out 7 _ rfl)
      have q8 := cell_below hC (H5.out 8 _ rfl)
      have q9 := cell_below hC (H5.out 9 _ rfl)
      have q10 := cell_below hC (H5.out 10 _ rfl)
      simp only [execOp]
      go_simp
      exact ⟨hC, Below.refl _ _, (by show V 41 _ _; rw [HV.out]; exact rfl)⟩
    · intro ρ w1 hc hf hg ho hC hV
      have e4 := ho 4 (by decide)
      have q0 := cell_below hC (H4.out 0 _ rfl)
      have q1 := cell_below hC (H4.out 1 _ rfl)
      have q2 := cell_below hC (H4.out 2 _ rfl)
      have q3 := cell_below hC (H4.out 3 _ rfl)
      have q4 := cell_below hC (H4.out 4 _ rfl)
      have q5 := cell_below hC (H4.out 5 _ rfl)
      have q6 := cell_below hC (H4.out 6 _ rfl)
      have q7 := cell_below hC (H4.out 7 _ rfl)
      have q8 := cell_below hC (H4.out 8 _ rfl)
      have q9 := cell_below hC (H4.out 9 _ rfl)
      have q10 := cell_below hC (H4.out 10 _ rfl)
      simp only [execOp]
      go_simp
      exact ⟨hC, Below.refl _ _, (by show V 42 _ _; rw [HV.out]; exact rfl)⟩
    · intro ρ w1 hc hf hg ho hC hV
      have e6 := ho 6 (by decide)
      have q0 := cell_below hC (H6.out 0 _ rfl)
      have q1 := cell_below hC (H6.out 1 _ rfl)
      have q2 := cell_below hC (H6.out 2 _ rfl)
      have q3 := cell_below hC (H6.out 3 _ rfl)
      have q4 := cell_below hC (H6.out 4 _ rfl)
      have q5 := cell_below hC (H6.out 5 _ rfl)
      have q6 := cell_below hC (H6.out 6 _ rfl)
      have q7 := cell_below hC (H6.out 7 _ rfl)
      have q8 := cell_below hC (H6.out 8 _ rfl)
      have q9 := cell_below hC (H6.out 9 _ rfl)
      have q10 := cell_below hC (H6.out 10 _ rfl)
      simp only [execOp]
      go_simp
      exact ⟨hC, Below.refl _ _, (by show V 43 _ _; rw [HV.out]; exact rfl)⟩
    · intro ρ w1 hc hf hg ho hC hV
      have e6 := ho 6 (by decide)
      have q0 := cell_below hC (H6.out 0 _ rfl)
      have q1 := cell_below hC (H6.out 1 _ rfl)
      have q2 := cell_below hC (H6.out 2 _ rfl)
      have q3 := cell_below hC (H6.out 3 _ rfl)
      have q4 := cell_below hC (H6.out 4 _ rfl)
      have q5 := cell_below hC (H6.out 5 _ rfl)
      have q6 := cell_below hC (H6.out 6 _ rfl)
      have q7 := cell_below hC (H6.out 7 _ rfl)
      have q8 := cell_below hC (H6.out 8 _ rfl)
      have q9 := cell_below hC (H6.out 9 _ rfl)
      have q10 := cell_below hC (H6.out 10 _ rfl)
      simp only [execOp]
      go_simp
      exact ⟨hC, Below.refl _ _, (by show V 44 _ _; rw [HV.out]; exact rfl)⟩
    · intro ρ w1 hc hf hg ho hC hV
      have e40 : ρ (.tmp 40) = .agg #[.int .i64 11, .string ⟨#[102]⟩, .string ⟨#[]⟩, .string ⟨#[97]⟩, .int .i64 0, .int .i64 2, .int .i64 1, .int .i64 E, .slice none 0 0, .int .i64 E, .int .i64 0] := by have h := hV 40 (by decide) (by decide); rw [HV.out] at h; exact h
      have e41 : ρ (.tmp 41) = .agg #[.int .i64 11, .string ⟨#[102]⟩, .string ⟨#[]⟩, .string ⟨#[98]⟩, .int .i64 0, .int .i64 6, .int .i64 1, .int .i64 E, .slice none 0 0, .int .i64 E, .int .i64 0] := by have h := hV 41 (by decide) (by decide); rw [HV.out] at h; exact h
      have e42 : ρ (.tmp 42) = .agg #[.int .i64 11, .string ⟨#[102]⟩, .string ⟨#[]⟩, .string ⟨#[97]⟩, .int .i64 0, .int .i64 3, .int .i64 2, .int .i64 E, .slice none 0 0, .int .i64 E, .int .i64 0] := by have h := hV 42 (by decide) (by decide); rw [HV.out] at h; exact h
      have e43 : ρ (.tmp 43) = .agg #[.int .i64 11, .string ⟨#[102]⟩, .string ⟨#[]⟩, .string ⟨#[97]⟩, .int .i64 0, .int .i64 3, .int .i64 2, .int .i64 (E + 1), .slice none 0 0, .int .i64 (E + 1), .int .i64 0] := by have h := hV 43 (by decide) (by decide); rw [HV.out] at h; exact h
      have e44 : ρ (.tmp 44) = .agg #[.int .i64 11, .string ⟨#[102]⟩, .string ⟨#[]⟩, .string ⟨#[97]⟩, .int .i64 0, .int .i64 3, .int .i64 2, .int .i64 (E + 1), .slice none 0 0, .int .i64 (E + 1), .int .i64 0] := by have h := hV 44 (by decide) (by decide); rw [HV.out] at h; exact h
      simp only [execOp]
      go_simp
      exact ⟨below_alloc hC _, below_alloc (Below.refl _ _) _, (by show V 45 _ _; rw [HV.out]; exact ⟨_, rfl, rowOf_new' _ [aS E, cS E, bS E, gS (E + 1), gS (E + 1)] _ _ rfl rfl⟩)⟩
    · intro ρ w1 hc hf hg ho hC hV
      have e45 : Spec.holds (.row [aS E, cS E, bS E, gS (E + 1), gS (E + 1)]) (ρ (.tmp 45)) w1 := by have h := hV 45 (by decide) (by decide); rw [HV.out] at h; exact h
      obtain ⟨g45, e45, r45⟩ := e45
      simp only [execOp]
      go_simp
      exact ⟨hC, Below.refl _ _, (by show V 46 _ _; rw [HV.out]; exact ⟨_, _, rfl, r45⟩)⟩
    · intro ρ w1 hc hf hg ho hC hV
      have e4 := ho 4 (by decide)
      have q0 := cell_below hC (H4.out 0 _ rfl)
      have q1 := cell_below hC (H4.out 1 _ rfl)
      have q2 := cell_below hC (H4.out 2 _ rfl)
      have q3 := cell_below hC (H4.out 3 _ rfl)
      have q4 := cell_below hC (H4.out 4 _ rfl)
      have q5 := cell_below hC (H4.out 5 _ rfl)
      have q6 := cell_below hC (H4.out 6 _ rfl)
      have q7 := cell_below hC (H4.out 7 _ rfl)
      have q8 := cell_below hC (H4.out 8 _ rfl)
      have q9 := cell_below hC (H4.out 9 _ rfl)
      have q10 := cell_below hC (H4.out 10 _ rfl)
      simp only [execOp]
      go_simp
      exact ⟨hC, Below.refl _ _, (by show V 47 _ _; rw [HV.out]; exact rfl)⟩
    · intro ρ w1 hc hf hg ho hC hV
      have e47 : ρ (.tmp 47) = .agg #[.int .i64 11, .string ⟨#[102]⟩, .string ⟨#[]⟩, .string ⟨#[97]⟩, .int .i64 0, .int .i64 3, .int .i64 2, .int .i64 E, .slice none 0 0, .int .i64 E, .int .i64 0] := by have h := hV 47 (by decide) (by decide); rw [HV.out] at h; exact h
      simp only [execOp]
      go_simp
      exact ⟨below_alloc hC _, below_alloc (Below.refl _ _) _, (by show V 48 _ _; rw [HV.out]; exact ⟨_, rfl, rowOf_new' _ [bS E] _ _ rfl rfl⟩)⟩
    · intro ρ w1 hc hf hg ho hC hV
      have e48 : Spec.holds (.row [bS E]) (ρ (.tmp 48)) w1 := by have h := hV 48 (by decide) (by decide); rw [HV.out] at h; exact h
      obtain ⟨g48, e48, r48⟩ := e48
      simp only [execOp]
      go_simp
      exact ⟨hC, Below.refl _ _, (by show V 49 _ _; rw [HV.out]; exact ⟨_, _, rfl, r48⟩)⟩
    · intro ρ w1 hc hf hg ho hC hV
      have e4 := ho 4 (by decide)
      have q0 := cell_below hC (H4.out 0 _ rfl)
      have q1 := cell_below hC (H4.out 1 _ rfl)
      have q2 := cell_below hC (H4.out 2 _ rfl)
      have q3 := cell_below hC (H4.out 3 _ rfl)
      have q4 := cell_below hC (H4.out 4 _ rfl)
      have q5 := cell_below hC (H4.out 5 _ rfl)
      have q6 := cell_below hC (H4.out 6 _ rfl)
      have q7 := cell_below hC (H4.out 7 _ rfl)
      have q8 := cell_below hC (H4.out 8 _ rfl)
      have q9 := cell_below hC (H4.out 9 _ rfl)
      have q10 := cell_below hC (H4.out 10 _ rfl)
      simp only [execOp]
      go_simp
      exact ⟨hC, Below.refl _ _, (by show V 50 _ _; rw [HV.out]; exact rfl)⟩
    · intro ρ w1 hc hf hg ho hC hV
      have e3 := ho 3 (by decide)
      have q0 := cell_below hC (H3.out 0 _ rfl)
      have q1 := cell_below hC (H3.out 1 _ rfl)
      have q2 := cell_below hC (H3.out 2 _ rfl)
      have q3 := cell_below hC (H3.out 3 _ rfl)
      have q4 := cell_below hC (H3.out 4 _ rfl)
      have q5 := cell_below hC (H3.out 5 _ rfl)
      have q6 := cell_below hC (H3.out 6 _ rfl)
      have q7 := cell_below hC (H3.out 7 _ rfl)
      have q8 := cell_below hC (H3.out 8 _ rfl)
      have q9 := cell_below hC (H3.out 9 _ rfl)
      have q10 := cell_below hC (H3.out 10 _ rfl)
      simp only [execOp]
      go_simp
      exact ⟨hC, Below.refl _ _, (by show V 51 _ _; rw [HV.out]; exact rfl)⟩
    · intro ρ w1 hc hf hg ho hC hV
      have e50 : ρ (.tmp 50) = .agg #[.int .i64 11, .string ⟨#[102]⟩, .string ⟨#[]⟩, .string ⟨#[97]⟩, .int .i64 0, .int .i64 3, .int .i64 2, .int .i64 E, .slice none 0 0, .int .i64 E, .int .i64 0] := by have h := hV 50 (by decide) (by decide); rw [HV.out] at h; exact h
      have e51 : ρ (.tmp 51) = .agg #[.int .i64 11, .string ⟨#[102]⟩, .string ⟨#[]⟩, .string ⟨#[97]⟩, .int .i64 0, .int .i64 2, .int .i64 1, .int .i64 E, .slice none 0 0, .int .i64 E, .int .i64 0] := by have h := hV 51 (by decide) (by decide); rw [HV.out] at h; exact h
      simp only [execOp]
      go_simp
      exact ⟨below_alloc hC _, below_alloc (Below.refl _ _) _, (by show V 52 _ _; rw [HV.out]; exact ⟨_, rfl, rowOf_new' _ [bS E, aS E] _ _ rfl rfl⟩)⟩
    · intro ρ w1 hc hf hg ho hC hV
      have e52 : Spec.holds (.row [bS E, aS E]) (ρ (.tmp 52)) w1 := by have h := hV 52 (by decide) (by decide); rw [HV.out] at h; exact h
      obtain ⟨g52, e52, r52⟩ := e52
      simp only [execOp]
      go_simp
      exact ⟨hC, Below.refl _ _, (by show V 53 _ _; rw [HV.out]; exact ⟨_, _, rfl, r52⟩)⟩
    · intro ρ w1 hc hf hg ho hC hV
      have e3 := ho 3 (by decide)
      have q0 := cell_below hC (H3.out 0 _ rfl)
      have q1 := cell_below hC (H3.out 1 _ rfl)
      have q2 := cell_below hC (H3.out 2 _ rfl)
      have q3 := cell_below hC (H3.out 3 _ rfl)
      have q4 := cell_below hC (H3.out 4 _ rfl)
      have q5 := cell_below hC (H3.out 5 _ rfl)
      have q6 := cell_below hC (H3.out 6 _ rfl)
      have q7 := cell_below hC (H3.out 7 _ rfl)
      have q8 := cell_below hC (H3.out 8 _ rfl)
      have q9 := cell_below hC (H3.out 9 _ rfl)
      have q10 := cell_below hC (H3.out 10 _ rfl)
      simp only [execOp]
      go_simp
      exact ⟨hC, Below.refl _ _, (by show V 54 _ _; rw [HV.out]; exact rfl)⟩
    · intro ρ w1 hc hf hg ho hC hV
      have e4 := ho 4 (by decide)
      have q0 := cell_below hC (H4.out 0 _ rfl)
      have q1 := cell_below hC (H4.out 1 _ rfl)
      have q2 := cell_below hC (H4.out 2 _ rfl)
      have q3 := cell_below hC (H4.out 3 _ rfl)
      have q4 := cell_below hC (H4.out 4 _ rfl)
      have q5 := cell_below hC (H4.out 5 _ rfl)
      have q6 := cell_below hC (H4.out 6 _ rfl)
      have q7 := cell_below hC (H4.out 7 _ rfl)
      have q8 := cell_below hC (H4.out 8 _ rfl)
      have q9 := cell_below hC (H4.out 9 _ rfl)
      have q10 := cell_below hC (H4.out 10 _ rfl)
      simp only [execOp]
      go_simp
      exact ⟨hC, Below.refl _ _, (by show V 55 _ _; rw [HV.out]; exact rfl)⟩
    · intro ρ w1 hc hf hg ho hC hV
      have e3 := ho 3 (by decide)
      have q0 := cell_below hC (H3.out 0 _ rfl)
      have q1 := cell_below hC (H3.out 1 _ rfl)
      have q2 := cell_below hC (H3.out 2 _ rfl)
      have q3 := cell_below hC (H3.out 3 _ rfl)
      have q4 := cell_below hC (H3.out 4 _ rfl)
      have q5 := cell_below hC (H3.out 5 _ rfl)
      have q6 := cell_below hC (H3.out 6 _ rfl)
      have q7 := cell_below hC (H3.out 7 _ rfl)
      have q8 := cell_below hC (H3.out 8 _ rfl)
      have q9 := cell_below hC (H3.out 9 _ rfl)
      have q10 := cell_below hC (H3.out 10 _ rfl)
      simp only [execOp]
      go_simp
      exact ⟨hC, Below.refl _ _, (by show V 56 _ _; rw [HV.out]; exact rfl)⟩
    · intro ρ w1 hc hf hg ho hC hV
      have e54 : ρ (.tmp 54) = .agg #[.int .i64 11, .string ⟨#[102]⟩, .string ⟨#[]⟩, .string ⟨#[97]⟩, .int .i64 0, .int .i64 2, .int .i64 1, .int .i64 E, .slice none 0 0, .int .i64 E, .int .i64 0] := by have h := hV 54 (by decide) (by decide); rw [HV.out] at h; exact h
      have e55 : ρ (.tmp 55) = .agg #[.int .i64 11, .string ⟨#[102]⟩, .string ⟨#[]⟩, .string ⟨#[97]⟩, .int .i64 0, .int .i64 3, .int .i64 2, .int .i64 E, .slice none 0 0, .int .i64 E, .int .i64 0] := by have h := hV 55 (by decide) (by decide); rw [HV.out] at h; exact h
      have e56 : ρ (.tmp 56) = .agg #[.int .i64 11, .string ⟨#[102]⟩, .string ⟨#[]⟩, .string ⟨#[97]⟩, .int .i64 0, .int .i64 2, .int .i64 1, .int .i64 E, .slice none 0 0, .int .i64 E, .int .i64 0] := by have h := hV 56 (by decide) (by decide); rw [HV.out] at h; exact h
      simp only [execOp]
      go_simp
      exact ⟨below_alloc hC _, below_alloc (Below.refl _ _) _, (by show V 57 _ _; rw [HV.out]; exact ⟨_, rfl, rowOf_new' _ [aS E, bS E, aS E] _ _ rfl rfl⟩)⟩
    · intro ρ w1 hc hf hg ho hC hV
      have e57 : Spec.holds (.row [aS E, bS E, aS E]) (ρ (.tmp 57)) w1 := by have h := hV 57 (by decide) (by decide); rw [HV.out] at h; exact h
      obtain ⟨g57, e57, r57⟩ := e57
      simp only [execOp]
      go_simp
      exact ⟨hC, Below.refl _ _, (by show V 58 _ _; rw [HV.out]; exact ⟨_, _, rfl, r57⟩)⟩
    · intro ρ w1 hc hf hg ho hC hV
      have e3 := ho 3 (by decide)
      have q0 := cell_below hC (H3.out 0 _ rfl)
      have q1 := cell_below hC (H3.out 1 _ rfl)
      have q2 := cell_below hC (H3.out 2 _ rfl)
      have q3 := cell_below hC (H3.out 3 _ rfl)
      have q4 := cell_below hC (H3.out 4 _ rfl)
      have q5 := cell_below hC (H3.out 5 _ rfl)
      have q6 := cell_below hC (H3.out 6 _ rfl)
      have q7 := cell_below hC (H3.out 7 _ rfl)
      have q8 := cell_below hC (H3.out 8 _ rfl)
      have q9 := cell_below hC (H3.out 9 _ rfl)
      have q10 := cell_below hC (H3.out 10 _ rfl)
      simp only [execOp]
      go_simp
      exact ⟨hC, Below.refl _ _, (by show V 59 _ _; rw [HV.out]; exact rfl)⟩
    · intro ρ w1 hc hf hg ho hC hV
      have e4 := ho 4 (by decide)
      have q0 := cell_below hC (H4.out 0 _ rfl)
      have q1 := cell_below hC (H4.out 1 _ rfl)
      have q2 := cell_below hC (H4.out 2 _ rfl)
      have q3 := cell_below hC (H4.out 3 _ rfl)
      have q4 := cell_below hC (H4.out 4 _ rfl)
      have q5 := cell_below hC (H4.out 5 _ rfl)
      have q6 := cell_below hC (H4.out 6 _ rfl)
      have q7 := cell_below hC (H4.out 7 _ rfl)
      have q8 := cell_below hC (H4.out 8 _ rfl)
      have q9 := cell_below hC (H4.out 9 _ rfl)
      have q10 := cell_below hC (H4.out 10 _ rfl)
      simp only [execOp]
      go_simp
      exact ⟨hC, Below.refl _ _, (by show V 60 _ _; rw [HV.out]; exact rfl)⟩
    · intro ρ w1 hc hf hg ho hC hV
      have e7 := ho 7 (by decide)
      have q0 := cell_below hC (H7.out 0 _ rfl)
      have q1 := cell_below hC (H7.out 1 _ rfl)
      have q2 := cell_below hC (H7.out 2 _ rfl)
      have q3 := cell_below hC (H7.out 3 _ rfl)
      have q4 := cell_below hC (H7.out 4 _ rfl)
      have q5 := cell_below hC (H7.out 5 _ rfl)
      have q6 := cell_below hC (H7.out 6 _ rfl)
      have q7 := cell_below hC (H7.out 7 _ rfl)
      have q8 := cell_below hC (H7.out 8 _ rfl)
      have q9 := cell_below hC (H7.out 9 _ rfl)
      have q10 := cell_below hC (H7.out 10 _ rfl)
      simp only [execOp]
      go_simp
      exact ⟨hC, Below.refl _ _, (by show V 61 _ _; rw [HV.out]; exact rfl)⟩
    · intro ρ w1 hc hf hg ho hC hV
      have e59 : ρ (.tmp 59) = .agg #[.int .i64 11, .string ⟨#[102]⟩, .string ⟨#[]⟩, .string ⟨#[97]⟩, .int .i64 0, .int .i64 2, .int .i64 1, .int .i64 E, .slice none 0 0, .int .i64 E, .int .i64 0] := by have h := hV 59 (by decide) (by decide); rw [HV.out] at h; exact h
      have e60 : ρ (.tmp 60) = .agg #[.int .i64 11, .string ⟨#[102]⟩, .string ⟨#[]⟩, .string ⟨#[97]⟩, .int .i64 0, .int .i64 3, .int .i64 2, .int .i64 E, .slice none 0 0, .int .i64 E, .int .i64 0] := by have h := hV 60 (by decide) (by decide); rw [HV.out] at h; exact h
      have e61 : ρ (.tmp 61) = .agg #[.int .i64 11, .string ⟨#[102]⟩, .string ⟨#[]⟩, .string ⟨#[97]⟩, .int .i64 0, .int .i64 4, .int .i64 2, .int .i64 (E + 1), .slice none 0 0, .int .i64 (E + 1), .int .i64 0] := by have h := hV 61 (by decide) (by decide); rw [HV.out] at h; exact h
      simp only [execOp]
      go_simp
      exact ⟨below_alloc hC _, below_alloc (Below.refl _ _) _, (by show V 62 _ _; rw [HV.out]; exact ⟨_, rfl, rowOf_new' _ [aS E, bS E, oS (E + 1)] _ _ rfl rfl⟩)⟩
    · intro ρ w1 hc hf hg ho hC hV
      have e62 : Spec.holds (.row [aS E, bS E, oS (E + 1)]) (ρ (.tmp 62)) w1 := by have h := hV 62 (by decide) (by decide); rw [HV.out] at h; exact h
      obtain ⟨g62, e62, r62⟩ := e62
      simp only [execOp]
      go_simp
      exact ⟨hC, Below.refl _ _, (by show V 63 _ _; rw [HV.out]; exact ⟨_, _, rfl, r62⟩)⟩
    · intro ρ w1 hc hf hg ho hC hV
      have e5 := ho 5 (by decide)
      have q0 := cell_below hC (H5.out 0 _ rfl)
      have q1 := cell_below hC (H5.out 1 _ rfl)
      have q2 := cell_below hC (H5.out 2 _ rfl)
      have q3 := cell_below hC (H5.out 3 _ rfl)
      have q4 := cell_below hC (H5.out 4 _ rfl)
      have q5 := cell_below hC (H5.out 5 _ rfl)
      have q6 := cell_below hC (H5.out 6 _ rfl)
      have q7 := cell_below hC (H5.out 7 _ rfl)
      have q8 := cell_below hC (H5.out 8 _ rfl)
      have q9 := cell_below hC (H5.out 9 _ rfl)
      have q10 := cell_below hC (H5.out 10 _ rfl)
      simp only [execOp]
      go_simp
      exact ⟨hC, Below.refl _ _, (by show V 64 _ _; rw [HV.out]; exact rfl)⟩
    · intro ρ w1 hc hf hg ho hC hV
      have e8 := ho 8 (by decide)
      have q0 := cell_below hC (H8.out 0 _ rfl)
      have q1 := cell_below hC (H8.out 1 _ rfl)
      have q2 := cell_below hC (H8.out 2 _ rfl)
      have q3 := cell_below hC (H8.out 3 _ rfl)
      have q4 := cell_below hC (H8.out 4 _ rfl)
      have q5 := cell_below hC (H8.out 5 _ rfl)
      have q6 := cell_below hC (H8.out 6 _ rfl)
      have q7 := cell_below hC (H8.out 7 _ rfl)
      have q8 := cell_below hC (H8.out 8 _ rfl)
      have q9 := cell_below hC (H8.out 9 _ rfl)
      have q10 := cell_below hC (H8.out 10 _ rfl)
      simp only [execOp]
      go_simp
      exact ⟨hC, Below.refl _ _, (by show V 65 _ _; rw [HV.out]; exact rfl)⟩
    · intro ρ w1 hc hf hg ho hC hV
      have e64 : ρ (.tmp 64) = .agg #[.int .i64 11, .string ⟨#[102]⟩, .string ⟨#[]⟩, .string ⟨#[98]⟩, .int .i64 0, .int .i64 6, .int .i64 1, .int .i64 E, .slice none 0 0, .int .i64 E, .int .i64 0] := by have h := hV 64 (by decide) (by decide); rw [HV.out] at h; exact h
      have e65 : ρ (.tmp 65) = .agg #[.int .i64 11, .string ⟨#[102]⟩, .string ⟨#[]⟩, .string ⟨#[98]⟩, .int .i64 0, .int .i64 2, .int .i64 2, .int .i64 E, .slice none 0 0, .int .i64 E, .int .i64 0] := by have h := hV 65 (by decide) (by decide); rw [HV.out] at h; exact h
      simp only [execOp]
      go_simp
      exact ⟨below_alloc hC _, below_alloc (Below.refl _ _) _, (by show V 66 _ _; rw [HV.out]; exact ⟨_, rfl, rowOf_new' _ [cS E, nS E] _ _ rfl rfl⟩)⟩
    · intro ρ w1 hc hf hg ho hC hV
      have e66 : Spec.holds (.row [cS E, nS E]) (ρ (.tmp 66)) w1 := by have h := hV 66 (by decide) (by decide); rw [HV.out] at h; exact h
      obtain ⟨g66, e66, r66⟩ := e66
      simp only [execOp]
      go_simp
      exact ⟨hC, Below.refl _ _, (by show V 67 _ _; rw [HV.out]; exact ⟨_, _, rfl, r66⟩)⟩
    · intro ρ w1 hc hf hg ho hC hV
      simp only [execOp]
      go_simp
      refine (status_lit _ _ _ _ w1).mono ?_
      rintro e w2 ⟨rfl, hb2⟩
      exact ⟨_, rfl, below_step hC hb2, hb2, (by show V 68 _ _; rw [HV.out]; exact rfl)⟩
    · intro ρ w1 hc hf hg ho hC hV
      have e68 : ρ (.tmp 68) = .agg #[.int .i64 11, .string ⟨#[102]⟩, .string ⟨#[]⟩, .string ⟨#[97]⟩, .int .i64 0, .int .i64 1, .int .i64 1, .int .i64 1, .slice none 0 0, .int .i64 1, .int .i64 0] := by have h := hV 68 (by decide) (by decide); rw [HV.out] at h; exact h
      simp only [execOp]
      go_simp
      exact ⟨below_alloc hC _, below_alloc (Below.refl _ _) _, (by show V 69 _ _; rw [HV.out]; exact ⟨_, rfl, rowOf_new' _ [fS] _ _ rfl rfl⟩)⟩
    · intro ρ w1 hc hf hg ho hC hV
      have e69 : Spec.holds (.row [fS]) (ρ (.tmp 69)) w1 := by have h := hV 69 (by decide) (by decide); rw [HV.out] at h; exact h
      obtain ⟨g69, e69, r69⟩ := e69
      simp only [execOp]
      go_simp
      exact ⟨hC, Below.refl _ _, (by show V 70 _ _; rw [HV.out]; exact ⟨_, _, rfl, r69⟩)⟩
    · intro ρ w1 hc hf hg ho hC hV
      simp only [execOp]
      go_simp
      refine (status_lit _ _ _ _ w1).mono ?_
      rintro e w2 ⟨rfl, hb2⟩
      exact ⟨_, rfl, below_step hC hb2, hb2, (by show V 71 _ _; rw [HV.out]; exact rfl)⟩
    · intro ρ w1 hc hf hg ho hC hV
      simp only [execOp]
      go_simp
      refine (status_lit _ _ _ _ w1).mono ?_
      rintro e w2 ⟨rfl, hb2⟩
      exact ⟨_, rfl, below_step hC hb2, hb2, (by show V 72 _ _; rw [HV.out]; exact rfl)⟩
    · intro ρ w1 hc hf hg ho hC hV
      have e71 : ρ (.tmp 71) = .agg #[.int .i64 11, .string ⟨#[102]⟩, .string ⟨#[]⟩, .string ⟨#[97]⟩, .int .i64 0, .int .i64 2, .int .i64 1, .int .i64 1, .slice none 0 0, .int .i64 1, .int .i64 0] := by have h := hV 71 (by decide) (by decide); rw [HV.out] at h; exact h
      have e72 : ρ (.tmp 72) = .agg #[.int .i64 11, .string ⟨#[102]⟩, .string ⟨#[]⟩, .string ⟨#[97]⟩, .int .i64 0, .int .i64 7, .int .i64 2, .int .i64 1, .slice none 0 0, .int .i64 1, .int .i64 0] := by have h := hV 72 (by decide) (by decide); rw [HV.out] at h; exact h
      simp only [execOp]
      go_simp
      exact ⟨below_alloc hC _, below_alloc (Below.refl _ _) _, (by show V 73 _ _; rw [HV.out]; exact ⟨_, rfl, rowOf_new' _ [hS, iS] _ _ rfl rfl⟩)⟩
    · intro ρ w1 hc hf hg ho hC hV
      have e73 : Spec.holds (.row [hS, iS]) (ρ (.tmp 73)) w1 := by have h := hV 73 (by decide) (by decide); rw [HV.out] at h; exact h
      obtain ⟨g73, e73, r73⟩ := e73
      simp only [execOp]
      go_simp
      exact ⟨hC, Below.refl _ _, (by show V 74 _ _; rw [HV.out]; exact ⟨_, _, rfl, r73⟩)⟩
    · intro ρ w1 hc hf hg ho hC hV
      have e29 : ρ (.tmp 29) = .agg #[.slice none 0 0, .bool true] := by have h := hV 29 (by decide) (by decide); rw [HV.out] at h; exact h
      have e32 : Spec.holds (.ent [aS E] true) (ρ (.tmp 32)) w1 := by have h := hV 32 (by decide) (by decide); rw [HV.out] at h; exact h
      obtain ⟨A32, c32, e32, r32⟩ := e32
      have e39 : Spec.holds (.ent [aS E, aS E, bS E, cS E, bS E] true) (ρ (.tmp 39)) w1 := by have h := hV 39 (by decide) (by decide); rw [HV.out] at h; exact h
      obtain ⟨A39, c39, e39, r39⟩ := e39
      have e46 : Spec.holds (.ent [aS E, cS E, bS E, gS (E + 1), gS (E + 1)] true) (ρ (.tmp 46)) w1 := by have h := hV 46 (by decide) (by decide); rw [HV.out] at h; exact h
      obtain ⟨A46, c46, e46, r46⟩ := e46
      have e49 : Spec.holds (.ent [bS E] false) (ρ (.tmp 49)) w1 := by have h := hV 49 (by decide) (by decide); rw [HV.out] at h; exact h
      obtain ⟨A49, c49, e49, r49⟩ := e49
      have e53 : Spec.holds (.ent [bS E, aS E] false) (ρ (.tmp 53)) w1 := by have h := hV 53 (by decide) (by decide); rw [HV.out] at h; exact h
      obtain ⟨A53, c53, e53, r53⟩ := e53
      have e58 : Spec.holds (.ent [aS E, bS E, aS E] false) (ρ (.tmp 58)) w1 := by have h := hV 58 (by decide) (by decide); rw [HV.out] at h; exact h
      obtain ⟨A58, c58, e58, r58⟩ := e58
      have e63 : Spec.holds (.ent [aS E, bS E, oS (E + 1)] false) (ρ (.tmp 63)) w1 := by have h := hV 63 (by decide) (by decide); rw [HV.out] at h; exact h
      obtain ⟨A63, c63, e63, r63⟩ := e63
      have e67 : Spec.holds (.ent [cS E, nS E] false) (ρ (.tmp 67)) w1 := by have h := hV 67 (by decide) (by decide); rw [HV.out] at h; exact h
      obtain ⟨A67, c67, e67, r67⟩ := e67
      have e70 : Spec.holds (.ent [fS] false) (ρ (.tmp 70)) w1 := by have h := hV 70 (by decide) (by decide); rw [HV.out] at h; exact h
      obtain ⟨A70, c70, e70, r70⟩ := e70
      have e74 : Spec.holds (.ent [hS, iS] false) (ρ (.tmp 74)) w1 := by have h := hV 74 (by decide) (by decide); rw [HV.out] at h; exact h
      obtain ⟨A74, c74, e74, r74⟩ := e74
      simp only [execOp]
      go_simp
      refine ⟨below_alloc hC _, below_alloc (Below.refl _ _) _, ?_⟩
      show V 75 _ _
      rw [HV.out]
      refine ⟨_, rfl, ?_⟩
      refine ⟨⟨_, _, by rw [cell_new]; rfl, by rw [cell_new]; rfl, RowOf.nil _ _ _ _⟩, ?_⟩
      refine ⟨⟨_, _, by rw [cell_new]; rfl, by rw [cell_new]; rfl, r32.below (below_alloc (Below.refl _ _) _)⟩, ?_⟩
      refine ⟨⟨_, _, by rw [cell_new]; rfl, by rw [cell_new]; rfl, r39.below (below_alloc (Below.refl _ _) _)⟩, ?_⟩
      refine ⟨⟨_, _, by rw [cell_new]; rfl, by rw [cell_new]; rfl, r46.below (below_alloc (Below.refl _ _) _)⟩, ?_⟩
      refine ⟨⟨_, _, by rw [cell_new]; rfl, by rw [cell_new]; rfl, r49.below (below_alloc (Below.refl _ _) _)⟩, ?_⟩
      refine ⟨⟨_, _, by rw [cell_new]; rfl, by rw [cell_new]; rfl, r53.below (below_alloc (Below.refl _ _) _)⟩, ?_⟩
      refine ⟨⟨_, _, by rw [cell_new]; rfl, by rw [cell_new]; rfl, r58.below (below_alloc (Below.refl _ _) _)⟩, ?_⟩
      refine ⟨⟨_, _, by rw [cell_new]; rfl, by rw [cell_new]; rfl, r63.below (below_alloc (Below.refl _ _) _)⟩, ?_⟩
      refine ⟨⟨_, _, by rw [cell_new]; rfl, by rw [cell_new]; rfl, r67.below (below_alloc (Below.refl _ _) _)⟩, ?_⟩
      refine ⟨⟨_, _, by rw [cell_new]; rfl, by rw [cell_new]; rfl, r70.below (below_alloc (Below.refl _ _) _)⟩, ?_⟩
      refine ⟨⟨_, _, by rw [cell_new]; rfl, by rw [cell_new]; rfl, r74.below (below_alloc (Below.refl _ _) _)⟩, ?_⟩
      exact trivial
    · intro ρ w1 hc hf hg ho hC hV
      have e75 : Spec.holds (.tab (tabT E)) (ρ (.tmp 75)) w1 := by have h := hV 75 (by decide) (by decide); rw [HV.out] at h; exact h
      obtain ⟨g75, e75, t75⟩ := e75
      simp only [execOp]
      go_simp
      exact ⟨hC, Below.refl _ _, (by show V 76 _ _; rw [HV.out]; exact rfl)⟩
    · intro ρ w1 hc hf hg ho hC hV
      simp only [execOp]
      go_simp
      exact ⟨hC, Below.refl _ _, (by show V 77 _ _; rw [HV.out]; exact rfl)⟩
  · intro σ w1 hC hV
    have v75 : Spec.holds (.tab (tabT E)) (σ 75) w1 := by have h := hV 75 (by decide); rw [HV.out] at h; exact h
    have v76 : σ 76 = .int .i64 11 := by have h := hV 76 (by decide); rw [HV.out] at h; exact h
    have v77 : σ 77 = .int .i64 0 := by have h := hV 77 (by decide); rw [HV.out] at h; exact h
    clear hV HV V
    dsimp only [dsts, List.filterMap, putAll, Act.put]
    obtain ⟨g75, e75, t75⟩ := v75
    have e75' : σ 75 = .slice (some ⟨g75, 0, none⟩) 11 11 := e75
    have HT := Lib.hid t75
    clear e75 t75
    replace H3 : Hid (AtS w1 w3.heap.size (aS E)) := H3.out.below hC
    replace H4 : Hid (AtS w1 (w3.heap.size + 1) (bS E)) := H4.out.below hC
    replace H5 : Hid (AtS w1 (w3.heap.size + 1 + 1) (cS E)) := H5.out.below hC
    replace hbw : Below w.heap.size w w1 := below_step hbw hC
    clear hC H6 H7 H8
    go_simp
    go_wp2
    go_loopw [77] (fun i wr => FormsRel w1 i wr) (fun i _ => 11 - (intOf i).toNat)
    case atStart => exact ⟨0, by omega, rfl, Below.refl _ _⟩
    case round =>
      obtain ⟨k, hk, rfl, hb⟩ := hrel
      by_cases hlt : k < 11
      · obtain ⟨p, hp⟩ : ∃ p, (tabT E)[k]? = some p := ⟨_, List.getElem?_eq_getElem (show k < (tabT E).length by exact hlt)⟩
        obtain ⟨A, cL, z0, z1, hrow⟩ := HT.out.get (tabT E) 0 k p hp
        have hpm := List.mem_of_getElem? hp
        have hLb : Hid (streamsB p.1 = p.2) := by
          have := List.all_eq_true.1 (tabT_ok E) p hpm
          show streamsB p.1 = p.2
          simpa using this
        have hLn : p.1.length ≤ 1000 := by
          have := List.all_eq_true.1 (tabT_len E) p hpm
          simpa using this
        have hLw : Hid (∀ x ∈ p.1, (Lit.int .i64 x.m.u).wf = true ∧ (Lit.int .i64 x.m.s).wf = true) := by
          intro x hx
          have := List.all_eq_true.1 (tabT_wf E) p hpm
          have := List.all_eq_true.1 this x hx
          simpa using this
        clear hp hpm
        obtain ⟨L, b⟩ := p
        rw [Nat.zero_add] at z0 z1
        replace z0 := cell_below hb z0
        replace z1 := cell_below hb z1
        replace hrow := Lib.hid (hrow.below hb)
        simp only [] at z0 z1 hrow hLb hLn hLw
        go_wp2
        generalize hW2 : wr.alloc _ = W2
        have hb2 : Below wr.heap.size wr W2 := by rw [← hW2]; exact below_alloc (Below.refl _ _) _
        have p0 : W2.cell? ⟨wr.heap.size, 0, none⟩ = some (.slice A L.length cL) := by rw [← hW2, cell_new]; rfl
        have p1 : W2.cell? ⟨wr.heap.size, 1, none⟩ = some (.bool b) := by rw [← hW2, cell_new]; rfl
        clear hW2 z0 z1
        replace hrow : Hid (RowOf Said.cells 11 W2 A L) := hrow.out.below hb2
        replace hb : Below w1.heap.size w1 W2 := below_step hb hb2
        clear hb2 H3 H4 H5 HT hbw
        obtain ⟨V, HV⟩ : ∃ V : Tmp → Value → World → Prop, Hid (V = fun sl_ v_ w_ => match sl_ with | 81 => v_ = .pointer (some ⟨wr.heap.size, 0, none⟩) | 82 => v_ = .slice A L.length cL | 83 => v_ = .bool b | 84 => v_ = .pointer (some ⟨wr.heap.size, 1, none⟩) | 85 => v_ = .bool b | 86 => v_ = .bool false | _ => True) := ⟨_, rfl⟩
        refine wp_region_loose (Below W2.heap.size W2 ·) (fun _ _ => True) V (by kernel_rfl) (by kernel_rfl) (by kernel_rfl) (Below.refl _ _).drew (fun _ => trivial) ?_ ?_ ?_
        · intro t v w w' hC hR h
          rw [HV.out] at h ⊢
          exact h
        · go_light
          simp only [List.forall_mem_cons]
          refine ⟨?_, ?_, ?_, ?_, ?_, ?_, fun _ h => by cases h⟩
          · intro ρ w1 hc hf hg ho hC hV
            have e10 := ho 10 (by decide)
            simp only [execOp]
            go_simp
            exact ⟨hC, trivial, (by show V 81 _ _; rw [HV.out]; exact rfl)⟩
          · intro ρ w1 hc hf hg ho hC hV
            have e81 : ρ (.tmp 81) = .pointer (some ⟨wr.heap.size, 0, none⟩) := by have h := hV 81 (by decide) (by decide); rw [HV.out] at h; exact h
            have p0' := cell_below hC p0
            simp only [execOp]
            go_simp
            exact ⟨hC, trivial, (by show V 82 _ _; rw [HV.out]; exact rfl)⟩
          · intro ρ w1 hc hf hg ho hC hV
            have e82 : ρ (.tmp 82) = .slice A L.length cL := by have h := hV 82 (by decide) (by decide); rw [HV.out] at h; exact h
            simp only [execOp]
            go_simp
            refine (streams_at A cL L.length L b rfl hLb.out hLn (fun x hx => hLw.out x hx) w1 (hrow.out.below hC)).mono ?_
            rintro e w2 ⟨rfl, hb2⟩
            exact ⟨_, rfl, below_step hC hb2, trivial, (by show V 83 _ _; rw [HV.out]; exact rfl)⟩
          · intro ρ w1 hc hf hg ho hC hV
            have e10 := ho 10 (by decide)
            simp only [execOp]
            go_simp
            exact ⟨hC, trivial, (by show V 84 _ _; rw [HV.out]; exact rfl)⟩
          · intro ρ w1 hc hf hg ho hC hV
            have e84 : ρ (.tmp 84) = .pointer (some ⟨wr.heap.size, 1, none⟩) := by have h := hV 84 (by decide) (by decide); rw [HV.out] at h; exact h
            have p1' := cell_below hC p1
            simp only [execOp]
            go_simp
            exact ⟨hC, trivial, (by show V 85 _ _; rw [HV.out]; exact rfl)⟩
          · intro ρ w1 hc hf hg ho hC hV
            have e83 : ρ (.tmp 83) = .bool b := by have h := hV 83 (by decide) (by decide); rw [HV.out] at h; exact h
            have e85 : ρ (.tmp 85) = .bool b := by have h := hV 85 (by decide) (by decide); rw [HV.out] at h; exact h
            simp only [execOp]
            go_simp
            exact ⟨hC, trivial, (by show V 86 _ _; rw [HV.out]; exact rfl)⟩
        · intro σ w1 hC hV
          have v86 : σ 86 = .bool false := by have h := hV 86 (by decide); rw [HV.out] at h; exact h
          clear hV HV V
          dsimp only [dsts, List.filterMap, putAll, Act.put]
          have hbn := below_step hb hC
          clear hb hC
          go_simp
          go_wp2
          go_roundw
          case rel => exact ⟨k + 1, by omega, by go_num, hbn⟩
          case measure => simp [intOf]; omega
      · have hbw9 : Below w.heap.size w wr := below_step hbw hb
        replace H3 : Hid (AtS wr w3.heap.size (aS E)) := H3.out.below hb
        replace H4 : Hid (AtS wr (w3.heap.size + 1) (bS E)) := H4.out.below hb
        replace H5 : Hid (AtS wr (w3.heap.size + 1 + 1) (cS E)) := H5.out.below hb
        clear hbw hb HT
        have q3_0 := H3.out 0 _ rfl
        have q3_1 := H3.out 1 _ rfl
        have q3_2 := H3.out 2 _ rfl
        have q3_3 := H3.out 3 _ rfl
        have q3_4 := H3.out 4 _ rfl
        have q3_5 := H3.out 5 _ rfl
        have q3_6 := H3.out 6 _ rfl
        have q3_7 := H3.out 7 _ rfl
        have q3_8 := H3.out 8 _ rfl
        have q3_9 := H3.out 9 _ rfl
        have q3_10 := H3.out 10 _ rfl
        have q4_0 := H4.out 0 _ rfl
        have q4_1 := H4.out 1 _ rfl
        have q4_2 := H4.out 2 _ rfl
        have q4_3 := H4.out 3 _ rfl
        have q4_4 := H4.out 4 _ rfl
        have q4_5 := H4.out 5 _ rfl
        have q4_6 := H4.out 6 _ rfl
        have q4_7 := H4.out 7 _ rfl
        have q4_8 := H4.out 8 _ rfl
        have q4_9 := H4.out 9 _ rfl
        have q4_10 := H4.out 10 _ rfl
        have q5_0 := H5.out 0 _ rfl
        have q5_1 := H5.out 1 _ rfl
        have q5_2 := H5.out 2 _ rfl
        have q5_3 := H5.out 3 _ rfl
        have q5_4 := H5.out 4 _ rfl
        have q5_5 := H5.out 5 _ rfl
        have q5_6 := H5.out 6 _ rfl
        have q5_7 := H5.out 7 _ rfl
        have q5_8 := H5.out 8 _ rfl
        have q5_9 := H5.out 9 _ rfl
        have q5_10 := H5.out 10 _ rfl
        go_wp2_with fail
        clear q3_0 q3_1 q3_2 q3_3 q3_4 q3_5 q3_6 q3_7 q3_8 q3_9 q3_10 q4_0 q4_1 q4_2 q4_3 q4_4 q4_5 q4_6 q4_7 q4_8 q4_9 q4_10 q5_0 q5_1 q5_2 q5_3 q5_4 q5_5 q5_6 q5_7 q5_8 q5_9 q5_10 H3 H4 H5
        have hrl := rowOf_new' wr [aS E, cS E, aS E, bS E, bS E, cS E, aS E] _ wr.heap.size rfl rfl
        refine (sent_at _ 7 7 [aS E, cS E, aS E, bS E, bS E, cS E, aS E] _ _ [1, 2, 1] rfl (l_a E) 3 rfl (by omega) _ hrl).mono ?_
        rintro e x1 ⟨A1, c1, rfl, hrow, hx1⟩
        have hrow := Lib.hid hrow
        have hrl1 := Lib.hid (hrl.below hx1)
        have hbx1 : Below w.heap.size w x1 := below_step (below_alloc hbw9 _) hx1
        clear hrl hx1 hbw9
        go_wp2_with fail
        refine (same_at' A1 _ c1 3 3 3 [1, 2, 1] [1, 2, 1] true rfl rfl rfl (by decide) (by decide) _ (RowOf.below hrow.out (below_alloc (Below.refl _ _) _)) (intRow_new' _ [1, 2, 1] _ _ rfl rfl)).mono ?_
        rintro e x2 ⟨rfl, hx2⟩
        have hrl2 := Lib.hid (hrl1.out.below (below_step (below_alloc (Below.refl _ _) _) hx2))
        have hbx2 : Below w.heap.size w x2 := below_step (below_alloc hbx1 _) hx2
        clear hrl1 hx2 hbx1 hrow
        go_wp2_with fail
        refine (sent_at _ 7 7 [aS E, cS E, aS E, bS E, bS E, cS E, aS E] _ _ [1] rfl (l_b E) 1 rfl (by omega) _ hrl2.out).mono ?_
        rintro e x3 ⟨A3, c3, rfl, hrow, hx3⟩
        have hrow := Lib.hid hrow
        have hrl3 := Lib.hid (hrl2.out.below hx3)
        have hbx3 : Below w.heap.size w x3 := below_step hbx2 hx3
        clear hrl2 hx3 hbx2
        go_wp2_with fail
        refine (same_at' A3 _ c3 1 1 1 [1] [1] true rfl rfl rfl (by decide) (by decide) _ (RowOf.below hrow.out (below_alloc (Below.refl _ _) _)) (intRow_new' _ [1] _ _ rfl rfl)).mono ?_
        rintro e x4 ⟨rfl, hx4⟩
        have hrl4 := Lib.hid (hrl3.out.below (below_step (below_alloc (Below.refl _ _) _) hx4))
        have hbx4 : Below w.heap.size w x4 := below_step (below_alloc hbx3 _) hx4
        clear hrl3 hx4 hbx3 hrow
        go_wp2_with fail
        refine (sent_at _ 7 7 [aS E, cS E, aS E, bS E, bS E, cS E, aS E] _ _ [] rfl (l_g E) 0 rfl (by omega) _ hrl4.out).mono ?_
        rintro e x5 ⟨A5, c5, rfl, hrow, hx5⟩
        have hbx5 : Below w.heap.size w x5 := below_step hbx4 hx5
        clear hrl4 hx5 hbx4 hrow
        go_wp2_with fail
        refine (wakes25 _).mono ?_
        rintro e x6 ⟨rfl, hx6⟩
        have hbx6 : Below w.heap.size w x6 := below_step hbx5 hx6
        clear hx6 hbx5
        go_wp2
        go_ret
        exact ⟨rfl, hbx6⟩
end Go.Proofs.Ytbmegoemimfiaaa

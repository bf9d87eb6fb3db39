/-
  hostlerlaw25.WatchLaunches: the walk.
-/
import Derived.Test.YtbmegoemimfiaaaRows
import Derived.Test.YtbmegoemimfiaaaW25i
import Derived.WalkKit
import Derived.WalkSpells
import Derived.WalkLawsBesides
import Derived.Outline
import Derived.Laws.StructEq
import Derived.Deep.Light
import Derived.Deep.QuietTactic
import Derived.BigQuiet
import Derived.Maps.OwnOps
import Derived.Maps.OwnSet
import Derived.Lib.Hide
namespace Go.Proofs.Ytbmegoemimfiaaa
open Go Go.RowKit
set_option maxRecDepth 100000
set_option linter.unusedVariables false
set_option linter.unusedSimpArgs false

attribute [local go_sem] run_store_float run_store_complex
theorem within_at (v n : Int) (h1 : 1 ≤ n) (h2 : n ≤ 1000) (w : World) : Calls Try.prog 11 #[.int .i64 v, .int .i64 n] w fun e w' => e = .returned (.int .i64 (v % n)) ∧ w = w' := within_any v n h1 h2 w
def entC (p : Con × Bool × Nat) : List Value := (p.1.ls p.2.2).x.cells ++ [.bool p.2.1]
theorem entC_len (p : Con × Bool × Nat) : (entC p).length = 12 := rfl
inductive LSpec where
  | any | det (v : Value) | con (c : Con) | ent (c : Con) (b : Bool) | tab (T : List (Con × Bool)) | row (S : List LS)
def LSpec.holds : LSpec → Value → World → Prop
  | .any, _, _ => True
  | .det x, v, _ => v = x
  | .con c, v, w => ∃ g, v = .agg (c.ls g).x.cells.toArray ∧ c.good g w
  | .ent c b, v, w => ∃ g, v = .agg (entC (c, b, g)).toArray ∧ c.good g w
  | .tab T, v, w => ∃ A L, v = .slice A (L : List (Con × Bool × Nat)).length L.length ∧ L.map (fun p => (p.1, p.2.1)) = T ∧ RowOf entC 12 w A L ∧ ∀ p ∈ L, p.1.good p.2.2 w
  | .row S, v, w => ∃ g, v = .slice (some ⟨g, 0, none⟩) S.length S.length ∧ RowOf (fun y : LS => y.x.cells) 11 w (some ⟨g, 0, none⟩) S
theorem LSpec.mono {w w1 : World} (hb : Below w.heap.size w w1) : ∀ (s : LSpec) (v : Value), s.holds v w → s.holds v w1
  | .any, _, _ => trivial
  | .det _, _, h => h
  | .con c, _, ⟨g, h1, h2⟩ => ⟨g, h1, h2.below hb⟩
  | .ent c _, _, ⟨g, h1, h2⟩ => ⟨g, h1, h2.below hb⟩
  | .tab _, _, ⟨A, L, h1, h2, h3, h4⟩ => ⟨A, L, h1, h2, h3.below hb, fun p hp => (h4 p hp).below hb⟩
  | .row _, _, ⟨g, h1, h2⟩ => ⟨g, h1, h2.below hb⟩
theorem all_good {w w1 : World} (hb : Below w.heap.size w w1) {c1 c2 c3 c4 c5 : Con} {b1 b2 b3 b4 b5 : Bool} {n : Int} {g0 g1 g2 g3 g4 g5 : Nat} (h0 : conA.good g0 w) (h1 : c1.good g1 w) (h2 : c2.good g2 w) (h3 : c3.good g3 w) (h4 : c4.good g4 w) (h5 : c5.good g5 w) :
    ∀ p ∈ [(conA, true, g0), (c1, b1, g1), (c2, b2, g2), (c3, b3, g3), (c4, b4, g4), (c5, b5, g5), (.other n, true, 0)], p.1.good p.2.2 w1 := by
  intro p hp
  simp only [List.mem_cons, List.not_mem_nil, or_false] at hp
  rcases hp with rfl | rfl | rfl | rfl | rfl | rfl | rfl
  · exact h0.below hb
  · exact h1.below hb
  · exact h2.below hb
  · exact h3.below hb
  · exact h4.below hb
  · exact h5.below hb
  · trivial
theorem ls_row (w : World) (L : List LS) (cs : Array Value) (g : Nat) (hcs : cs = (L.flatMap (fun y : LS => y.x.cells)).toArray) (hg : g = w.heap.size) : RowOf (fun y : LS => y.x.cells) 11 (w.alloc (.cells cs 67)) (some ⟨g, 0, none⟩) L :=
  row_new (cells := fun y : LS => y.x.cells) (size := 11) (fun _ => rfl) w L cs g 67 hcs hg
def OkIf (y : LS) (w : World) : Prop := y.isL = true → y.ok w
theorem OkIf.below2 {w w1 : World} {y : LS} (h : OkIf y w) (hb : Below w.heap.size w w1) : OkIf y w1 := fun hl => (h hl).below hb
theorem oks {w : World} {g0 : Nat} {y : LS} {S : List LS} (h0 : conA.good g0 w) (hy : OkIf y w) (hS : ∀ q ∈ S, q = conA.ls g0 ∨ q = y) : ∀ q ∈ S, q.isL = true → q.ok w := by
  intro q hq hl
  rcases hS q hq with rfl | rfl
  · exact Con.good.ok conA g0 h0 hl
  · exact hy hl
def LawRel (W : World) (i : Value) (wr : World) : Prop := ∃ k : Nat, k ≤ 7 ∧ i = .int .i64 k ∧ Below W.heap.size W wr
set_option maxHeartbeats 16000000 in
theorem watchLaunches_walk (v : Int) (w : World) : Calls Try.prog 9 #[.int .i64 v] w fun e w' => e = .returned (.bool true) ∧ Below w.heap.size w w' := by
  have hm0 : 0 ≤ v % 20 := Int.emod_nonneg v (by omega)
  have hm1 : v % 20 < 20 := Int.emod_lt_of_pos v (by omega)
  go_enter Try.func9, Try.ntmps9
  go_wp2_with fail
  refine (within_any v 20 (by omega) (by omega) _).mono ?_
  rintro e w1 ⟨rfl, rfl⟩
  generalize v % 20 = m at hm0 hm1 ⊢
  go_wp2_with fail
  generalize hE : 2 + m = N
  have hN0 : 2 ≤ N := by omega
  have hN1 : N ≤ 21 := by omega
  clear hE hm0 hm1
  refine (says _ _ _ _ _ _ _).mono ?_
  rintro e u1 ⟨g0, rfl, hi0, hb1⟩
  have HI0 := Lib.hid hi0
  clear hi0
  go_wp2_with fail
  generalize hW : u1.alloc _ = W
  have hbW : Below u1.heap.size u1 W := by rw [← hW]; exact below_alloc (Below.refl _ _) _
  have m0 : W.cell? ⟨u1.heap.size, 0, none⟩ = some (.int .i64 14) := by rw [← hW, cell_new]; rfl
  have m1 : W.cell? ⟨u1.heap.size, 1, none⟩ = some (.string ⟨#[102]⟩) := by rw [← hW, cell_new]; rfl
  have m2 : W.cell? ⟨u1.heap.size, 2, none⟩ = some (.string ⟨#[120]⟩) := by rw [← hW, cell_new]; rfl
  have m3 : W.cell? ⟨u1.heap.size, 3, none⟩ = some (.string ⟨#[]⟩) := by rw [← hW, cell_new]; rfl
  have m4 : W.cell? ⟨u1.heap.size, 4, none⟩ = some (.int .i64 1) := by rw [← hW, cell_new]; rfl
  have m5 : W.cell? ⟨u1.heap.size, 5, none⟩ = some (.int .i64 0) := by rw [← hW, cell_new]; rfl
  have m6 : W.cell? ⟨u1.heap.size, 6, none⟩ = some (.int .i64 0) := by rw [← hW, cell_new]; rfl
  have m7 : W.cell? ⟨u1.heap.size, 7, none⟩ = some (.int .i64 0) := by rw [← hW, cell_new]; rfl
  have m8 : W.cell? ⟨u1.heap.size, 8, none⟩ = some (.slice (some ⟨g0, 0, none⟩) 1 1) := by rw [← hW, cell_new]; rfl
  have m9 : W.cell? ⟨u1.heap.size, 9, none⟩ = some (.int .i64 1) := by rw [← hW, cell_new]; rfl
  have m10 : W.cell? ⟨u1.heap.size, 10, none⟩ = some (.int .i64 0) := by rw [← hW, cell_new]; rfl
  clear hW
  have hbw : Below w.heap.size w W := below_step hb1 hbW
  have hG : Hid (conA.good g0 W) := ItAt.below HI0.out hbW
  clear hb1 hbW HI0
  obtain ⟨V, HV⟩ : ∃ V : Tmp → Value → World → Prop, Hid (V = fun sl_ v_ w_ => LSpec.holds (match sl_ with | 12 => .det (.agg #[.int .i64 14, .string ⟨#[102]⟩, .string ⟨#[120]⟩, .string ⟨#[]⟩, .int .i64 1, .int .i64 0, .int .i64 0, .int .i64 0, .slice (some ⟨g0, 0, none⟩) 1 1, .int .i64 1, .int .i64 0]) | 13 => .det (.agg #[.int .i64 14, .string ⟨#[102]⟩, .string ⟨#[120]⟩, .string ⟨#[]⟩, .int .i64 1, .int .i64 0, .int .i64 0, .int .i64 0, .slice (some ⟨g0, 0, none⟩) 1 1, .int .i64 1, .int .i64 0, .bool true]) | 14 => .det (.func (.func 42) #[] #[]) | 15 => .det (.int .i64 N) | 16 => .con (.ask ⟨#[102]⟩ ⟨#[120]⟩ ⟨#[97]⟩ N 4607182418800017408 (0)) | 17 => .ent (.ask ⟨#[102]⟩ ⟨#[120]⟩ ⟨#[97]⟩ N 4607182418800017408 (0)) false | 18 => .det (.func (.func 42) #[] #[]) | 19 => .con (.ask ⟨#[102]⟩ ⟨#[121]⟩ ⟨#[97]⟩ 1 4607182418800017408 (0)) | 20 => .ent (.ask ⟨#[102]⟩ ⟨#[121]⟩ ⟨#[97]⟩ 1 4607182418800017408 (0)) false | 21 => .det (.func (.func 42) #[] #[]) | 22 => .det (.int .i64 N) | 23 => .det (.float .f64 (floatOfInt .f64 N)) | 24 => .det (.complex .f64 4607182418800017408 (floatOfInt .f64 N)) | 25 => .con (.ask ⟨#[102]⟩ ⟨#[120]⟩ ⟨#[97]⟩ 1 4607182418800017408 (floatOfInt .f64 N)) | 26 => .ent (.ask ⟨#[102]⟩ ⟨#[120]⟩ ⟨#[97]⟩ 1 4607182418800017408 (floatOfInt .f64 N)) false | 27 => .det (.func (.func 42) #[] #[]) | 28 => .det (.int .i64 N) | 29 => .con (.ask ⟨#[102]⟩ ⟨#[120]⟩ ⟨#[98]⟩ N 4611686018427387904 (0)) | 30 => .ent (.ask ⟨#[102]⟩ ⟨#[120]⟩ ⟨#[98]⟩ N 4611686018427387904 (0)) true | 31 => .det (.func (.func 42) #[] #[]) | 32 => .det (.int .i64 N) | 33 => .con (.ask ⟨#[103]⟩ ⟨#[120]⟩ ⟨#[97]⟩ N 4611686018427387904 (0)) | 34 => .ent (.ask ⟨#[103]⟩ ⟨#[120]⟩ ⟨#[97]⟩ N 4611686018427387904 (0)) true | 35 => .det (.int .i64 N) | 36 => .det (.agg #[.int .i64 15, .string ⟨#[102]⟩, .string ⟨#[120]⟩, .string ⟨#[97]⟩, .int .i64 N, .int .i64 0, .int .i64 0, .int .i64 0, .slice none 0 0]) | 37 => .det (.agg #[.int .i64 15, .string ⟨#[102]⟩, .string ⟨#[120]⟩, .string ⟨#[97]⟩, .int .i64 N, .int .i64 0, .int .i64 0, .int .i64 0, .slice none 0 0, .int .i64 0, .int .i64 0]) | 38 => .det (.agg #[.int .i64 15, .string ⟨#[102]⟩, .string ⟨#[120]⟩, .string ⟨#[97]⟩, .int .i64 N, .int .i64 0, .int .i64 0, .int .i64 0, .slice none 0 0, .int .i64 0, .int .i64 0, .bool true]) | 39 => .tab (tabL N) | 40 => .det (.int .i64 7) | 41 => .det (.int .i64 0) | _ => .any) v_ w_) := ⟨_, rfl⟩
  refine wp_region_loose (Below W.heap.size W ·) (fun w_ w_2 => Below w_.heap.size w_ w_2) V (by kernel_rfl) (by kernel_rfl) (by kernel_rfl) (Below.refl _ _).drew (fun w_ => Below.refl _ _) ?_ ?_ ?_
  · intro t v w w' hC hR h
    rw [HV.out] at h ⊢
    exact LSpec.mono hR _ _ h
  · go_light
    simp only [List.forall_mem_cons]
    refine ⟨?_, ?_, ?_, ?_, ?_, ?_, ?_, ?_, ?_, ?_, ?_, ?_, ?_, ?_, ?_, ?_, ?_, ?_, ?_, ?_, ?_, ?_, ?_, ?_, ?_, ?_, ?_, ?_, ?_, ?_, fun _ h => by cases h⟩
    · intro ρ w1 hc hf hg ho hC hV
      have e4 := ho 4 (by decide)
      have m0' := cell_below hC m0
      have m1' := cell_below hC m1
      have m2' := cell_below hC m2
      have m3' := cell_below hC m3
      have m4' := cell_below hC m4
      have m5' := cell_below hC m5
      have m6' := cell_below hC m6
      have m7' := cell_below hC m7
      have m8' := cell_below hC m8
      have m9' := cell_below hC m9
      have m10' := cell_below hC m10
      simp only [execOp]
      go_simp
      exact ⟨hC, Below.refl _ _, (by show V 12 _ _; rw [HV.out]; exact rfl)⟩
    · intro ρ w1 hc hf hg ho hC hV
      have e12 : ρ (.tmp 12) = .agg #[.int .i64 14, .string ⟨#[102]⟩, .string ⟨#[120]⟩, .string ⟨#[]⟩, .int .i64 1, .int .i64 0, .int .i64 0, .int .i64 0, .slice (some ⟨g0, 0, none⟩) 1 1, .int .i64 1, .int .i64 0] := by have h := hV 12 (by decide) (by decide); rw [HV.out] at h; exact h
      simp only [execOp]
      go_simp
      exact ⟨hC, Below.refl _ _, (by show V 13 _ _; rw [HV.out]; exact rfl)⟩
    · intro ρ w1 hc hf hg ho hC hV
      have e3 := ho 3 (by decide)
      simp only [execOp]
      go_simp
      exact ⟨hC, Below.refl _ _, (by show V 14 _ _; rw [HV.out]; exact rfl)⟩
    · intro ρ w1 hc hf hg ho hC hV
      have e0 := ho 0 (by decide)
      simp only [execOp]
      go_simp
      exact ⟨hC, Below.refl _ _, (by show V 15 _ _; rw [HV.out]; exact rfl)⟩
    · intro ρ w1 hc hf hg ho hC hV
      have e14 : ρ (.tmp 14) = .func (.func 42) #[] #[] := by have h := hV 14 (by decide) (by decide); rw [HV.out] at h; exact h
      have e15 : ρ (.tmp 15) = .int .i64 N := by have h := hV 15 (by decide) (by decide); rw [HV.out] at h; exact h
      simp only [execOp]
      go_simp
      refine (says _ _ _ _ _ _ w1).mono ?_
      rintro e w2 ⟨g2, rfl, hi2, hb2⟩
      exact ⟨_, rfl, below_step hC hb2, hb2, (by show V 16 _ _; rw [HV.out]; exact ⟨g2, rfl, hi2⟩)⟩
    · intro ρ w1 hc hf hg ho hC hV
      have e16 : LSpec.holds (.con (.ask ⟨#[102]⟩ ⟨#[120]⟩ ⟨#[97]⟩ N 4607182418800017408 (0))) (ρ (.tmp 16)) w1 := by have h := hV 16 (by decide) (by decide); rw [HV.out] at h; exact h
      obtain ⟨g16, e16, q16⟩ := e16
      replace e16 : ρ (.tmp 16) = .agg #[.int .i64 14, .string ⟨#[102]⟩, .string ⟨#[120]⟩, .string ⟨#[]⟩, .int .i64 N, .int .i64 0, .int .i64 0, .int .i64 0, .slice (some ⟨g16, 0, none⟩) 1 1, .int .i64 N, .int .i64 0] := e16
      simp only [execOp]
      go_simp
      exact ⟨hC, Below.refl _ _, (by show V 17 _ _; rw [HV.out]; exact ⟨_, rfl, q16⟩)⟩
    · intro ρ w1 hc hf hg ho hC hV
      have e3 := ho 3 (by decide)
      simp only [execOp]
      go_simp
      exact ⟨hC, Below.refl _ _, (by show V 18 _ _; rw [HV.out]; exact rfl)⟩
    · intro ρ w1 hc hf hg ho hC hV
      have e18 : ρ (.tmp 18) = .func (.func 42) #[] #[] := by have h := hV 18 (by decide) (by decide); rw [HV.out] at h; exact h
      simp only [execOp]
      go_simp
      refine (says _ _ _ _ _ _ w1).mono ?_
      rintro e w2 ⟨g2, rfl, hi2, hb2⟩
      exact ⟨_, rfl, below_step hC hb2, hb2, (by show V 19 _ _; rw [HV.out]; exact ⟨g2, rfl, hi2⟩)⟩
    · intro ρ w1 hc hf hg ho hC hV
      have e19 : LSpec.holds (.con (.ask ⟨#[102]⟩ ⟨#[121]⟩ ⟨#[97]⟩ 1 4607182418800017408 (0))) (ρ (.tmp 19)) w1 := by have h := hV 19 (by decide) (by decide); rw [HV.out] at h; exact h
      obtain ⟨g19, e19, q19⟩ := e19
      replace e19 : ρ (.tmp 19) = .agg #[.int .i64 14, .string ⟨#[102]⟩, .string ⟨#[121]⟩, .string ⟨#[]⟩, .int .i64 1, .int .i64 0, .int .i64 0, .int .i64 0, .slice (some ⟨g19, 0, none⟩) 1 1, .int .i64 1, .int .i64 0] := e19
      simp only [execOp]
      go_simp
      exact ⟨hC, Below.refl _ _, (by show V 20 _ _; rw [HV.out]; exact ⟨_, rfl, q19⟩)⟩
    · intro ρ w1 hc hf hg ho hC hV
      have e3 := ho 3 (by decide)
      simp only [execOp]
      go_simp
      exact ⟨hC, Below.refl _ _, (by show V 21 _ _; rw [HV.out]; exact rfl)⟩
    · intro ρ w1 hc hf hg ho hC hV
      have e0 := ho 0 (by decide)
      simp only [execOp]
      go_simp
      exact ⟨hC, Below.refl _ _, (by show V 22 _ _; rw [HV.out]; exact rfl)⟩
    · intro ρ w1 hc hf hg ho hC hV
      have e22 : ρ (.tmp 22) = .int .i64 N := by have h := hV 22 (by decide) (by decide); rw [HV.out] at h; exact h
      simp only [execOp]
      go_simp
      exact ⟨hC, Below.refl _ _, (by show V 23 _ _; rw [HV.out]; exact rfl)⟩
    · intro ρ w1 hc hf hg ho hC hV
      have e23 : ρ (.tmp 23) = .float .f64 (floatOfInt .f64 N) := by have h := hV 23 (by decide) (by decide); rw [HV.out] at h; exact h
      simp only [execOp]
      go_simp
      exact ⟨hC, Below.refl _ _, (by show V 24 _ _; rw [HV.out]; exact rfl)⟩
    · intro ρ w1 hc hf hg ho hC hV
      have e21 : ρ (.tmp 21) = .func (.func 42) #[] #[] := by have h := hV 21 (by decide) (by decide); rw [HV.out] at h; exact h
      have e24 : ρ (.tmp 24) = .complex .f64 4607182418800017408 (floatOfInt .f64 N) := by have h := hV 24 (by decide) (by decide); rw [HV.out] at h; exact h
      simp only [execOp]
      go_simp
      refine (says _ _ _ _ _ _ w1).mono ?_
      rintro e w2 ⟨g2, rfl, hi2, hb2⟩
      exact ⟨_, rfl, below_step hC hb2, hb2, (by show V 25 _ _; rw [HV.out]; exact ⟨g2, rfl, hi2⟩)⟩
    · intro ρ w1 hc hf hg ho hC hV
      have e25 : LSpec.holds (.con (.ask ⟨#[102]⟩ ⟨#[120]⟩ ⟨#[97]⟩ 1 4607182418800017408 (floatOfInt .f64 N))) (ρ (.tmp 25)) w1 := by have h := hV 25 (by decide) (by decide); rw [HV.out] at h; exact h
      obtain ⟨g25, e25, q25⟩ := e25
      replace e25 : ρ (.tmp 25) = .agg #[.int .i64 14, .string ⟨#[102]⟩, .string ⟨#[120]⟩, .string ⟨#[]⟩, .int .i64 1, .int .i64 0, .int .i64 0, .int .i64 0, .slice (some ⟨g25, 0, none⟩) 1 1, .int .i64 1, .int .i64 0] := e25
      simp only [execOp]
      go_simp
      exact ⟨hC, Below.refl _ _, (by show V 26 _ _; rw [HV.out]; exact ⟨_, rfl, q25⟩)⟩
    · intro ρ w1 hc hf hg ho hC hV
      have e3 := ho 3 (by decide)
      simp only [execOp]
      go_simp
      exact ⟨hC, Below.refl _ _, (by show V 27 _ _; rw [HV.out]; exact rfl)⟩
    · intro ρ w1 hc hf hg ho hC hV
      have e0 := ho 0 (by decide)
      simp only [execOp]
      go_simp
      exact ⟨hC, Below.refl _ _, (by show V 28 _ _; rw [HV.out]; exact rfl)⟩
    · intro ρ w1 hc hf hg ho hC hV
      have e27 : ρ (.tmp 27) = .func (.func 42) #[] #[] := by have h := hV 27 (by decide) (by decide); rw [HV.out] at h; exact h
      have e28 : ρ (.tmp 28) = .int .i64 N := by have h := hV 28 (by decide) (by decide); rw [HV.out] at h; exact h
      simp only [execOp]
      go_simp
      refine (says _ _ _ _ _ _ w1).mono ?_
      rintro e w2 ⟨g2, rfl, hi2, hb2⟩
      exact ⟨_, rfl, below_step hC hb2, hb2, (by show V 29 _ _; rw [HV.out]; exact ⟨g2, rfl, hi2⟩)⟩
    · intro ρ w1 hc hf hg ho hC hV
      have e29 : LSpec.holds (.con (.ask ⟨#[102]⟩ ⟨#[120]⟩ ⟨#[98]⟩ N 4611686018427387904 (0))) (ρ (.tmp 29)) w1 := by have h := hV 29 (by decide) (by decide); rw [HV.out] at h; exact h
      obtain ⟨g29, e29, q29⟩ := e29
      replace e29 : ρ (.tmp 29) = .agg #[.int .i64 14, .string ⟨#[102]⟩, .string ⟨#[120]⟩, .string ⟨#[]⟩, .int .i64 N, .int .i64 0, .int .i64 0, .int .i64 0, .slice (some ⟨g29, 0, none⟩) 1 1, .int .i64 N, .int .i64 0] := e29
      simp only [execOp]
      go_simp
      exact ⟨hC, Below.refl _ _, (by show V 30 _ _; rw [HV.out]; exact ⟨_, rfl, q29⟩)⟩
    · intro ρ w1 hc hf hg ho hC hV
      have e3 := ho 3 (by decide)
      simp only [execOp]
      go_simp
      exact ⟨hC, Below.refl _ _, (by show V 31 _ _; rw [HV.out]; exact rfl)⟩
    · intro ρ w1 hc hf hg ho hC hV
      have e0 := ho 0 (by decide)
      simp only [execOp]
      go_simp
      exact ⟨hC, Below.refl _ _, (by show V 32 _ _; rw [HV.out]; exact rfl)⟩
    · intro ρ w1 hc hf hg ho hC hV
      have e31 : ρ (.tmp 31) = .func (.func 42) #[] #[] := by have h := hV 31 (by decide) (by decide); rw [HV.out] at h; exact h
      have e32 : ρ (.tmp 32) = .int .i64 N := by have h := hV 32 (by decide) (by decide); rw [HV.out] at h; exact h
      simp only [execOp]
      go_simp
      refine (says _ _ _ _ _ _ w1).mono ?_
      rintro e w2 ⟨g2, rfl, hi2, hb2⟩
      exact ⟨_, rfl, below_step hC hb2, hb2, (by show V 33 _ _; rw [HV.out]; exact ⟨g2, rfl, hi2⟩)⟩
    · intro ρ w1 hc hf hg ho hC hV
      have e33 : LSpec.holds (.con (.ask ⟨#[103]⟩ ⟨#[120]⟩ ⟨#[97]⟩ N 4611686018427387904 (0))) (ρ (.tmp 33)) w1 := by have h := hV 33 (by decide) (by decide); rw [HV.out] at h; exact h
      obtain ⟨g33, e33, q33⟩ := e33
      replace e33 : ρ (.tmp 33) = .agg #[.int .i64 14, .string ⟨#[103]⟩, .string ⟨#[120]⟩, .string ⟨#[]⟩, .int .i64 N, .int .i64 0, .int .i64 0, .int .i64 0, .slice (some ⟨g33, 0, none⟩) 1 1, .int .i64 N, .int .i64 0] := e33
      simp only [execOp]
      go_simp
      exact ⟨hC, Below.refl _ _, (by show V 34 _ _; rw [HV.out]; exact ⟨_, rfl, q33⟩)⟩
    · intro ρ w1 hc hf hg ho hC hV
      have e0 := ho 0 (by decide)
      simp only [execOp]
      go_simp
      exact ⟨hC, Below.refl _ _, (by show V 35 _ _; rw [HV.out]; exact rfl)⟩
    · intro ρ w1 hc hf hg ho hC hV
      have e35 : ρ (.tmp 35) = .int .i64 N := by have h := hV 35 (by decide) (by decide); rw [HV.out] at h; exact h
      simp only [execOp]
      go_simp
      exact ⟨hC, Below.refl _ _, (by show V 36 _ _; rw [HV.out]; exact rfl)⟩
    · intro ρ w1 hc hf hg ho hC hV
      have e36 : ρ (.tmp 36) = .agg #[.int .i64 15, .string ⟨#[102]⟩, .string ⟨#[120]⟩, .string ⟨#[97]⟩, .int .i64 N, .int .i64 0, .int .i64 0, .int .i64 0, .slice none 0 0] := by have h := hV 36 (by decide) (by decide); rw [HV.out] at h; exact h
      simp only [execOp]
      go_simp
      exact ⟨hC, Below.refl _ _, (by show V 37 _ _; rw [HV.out]; exact rfl)⟩
    · intro ρ w1 hc hf hg ho hC hV
      have e37 : ρ (.tmp 37) = .agg #[.int .i64 15, .string ⟨#[102]⟩, .string ⟨#[120]⟩, .string ⟨#[97]⟩, .int .i64 N, .int .i64 0, .int .i64 0, .int .i64 0, .slice none 0 0, .int .i64 0, .int .i64 0] := by have h := hV 37 (by decide) (by decide); rw [HV.out] at h; exact h
      simp only [execOp]
      go_simp
      exact ⟨hC, Below.refl _ _, (by show V 38 _ _; rw [HV.out]; exact rfl)⟩
    · intro ρ w1 hc hf hg ho hC hV
      have e13 : ρ (.tmp 13) = .agg #[.int .i64 14, .string ⟨#[102]⟩, .string ⟨#[120]⟩, .string ⟨#[]⟩, .int .i64 1, .int .i64 0, .int .i64 0, .int .i64 0, .slice (some ⟨g0, 0, none⟩) 1 1, .int .i64 1, .int .i64 0, .bool true] := by have h := hV 13 (by decide) (by decide); rw [HV.out] at h; exact h
      have e17 : LSpec.holds (.ent (.ask ⟨#[102]⟩ ⟨#[120]⟩ ⟨#[97]⟩ N 4607182418800017408 (0)) false) (ρ (.tmp 17)) w1 := by have h := hV 17 (by decide) (by decide); rw [HV.out] at h; exact h
      obtain ⟨g17, e17, q17⟩ := e17
      have e20 : LSpec.holds (.ent (.ask ⟨#[102]⟩ ⟨#[121]⟩ ⟨#[97]⟩ 1 4607182418800017408 (0)) false) (ρ (.tmp 20)) w1 := by have h := hV 20 (by decide) (by decide); rw [HV.out] at h; exact h
      obtain ⟨g20, e20, q20⟩ := e20
      have e26 : LSpec.holds (.ent (.ask ⟨#[102]⟩ ⟨#[120]⟩ ⟨#[97]⟩ 1 4607182418800017408 (floatOfInt .f64 N)) false) (ρ (.tmp 26)) w1 := by have h := hV 26 (by decide) (by decide); rw [HV.out] at h; exact h
      obtain ⟨g26, e26, q26⟩ := e26
      have e30 : LSpec.holds (.ent (.ask ⟨#[102]⟩ ⟨#[120]⟩ ⟨#[98]⟩ N 4611686018427387904 (0)) true) (ρ (.tmp 30)) w1 := by have h := hV 30 (by decide) (by decide); rw [HV.out] at h; exact h
      obtain ⟨g30, e30, q30⟩ := e30
      have e34 : LSpec.holds (.ent (.ask ⟨#[103]⟩ ⟨#[120]⟩ ⟨#[97]⟩ N 4611686018427387904 (0)) true) (ρ (.tmp 34)) w1 := by have h := hV 34 (by decide) (by decide); rw [HV.out] at h; exact h
      obtain ⟨g34, e34, q34⟩ := e34
      have e38 : ρ (.tmp 38) = .agg #[.int .i64 15, .string ⟨#[102]⟩, .string ⟨#[120]⟩, .string ⟨#[97]⟩, .int .i64 N, .int .i64 0, .int .i64 0, .int .i64 0, .slice none 0 0, .int .i64 0, .int .i64 0, .bool true] := by have h := hV 38 (by decide) (by decide); rw [HV.out] at h; exact h
      replace e17 : ρ (.tmp 17) = .agg #[.int .i64 14, .string ⟨#[102]⟩, .string ⟨#[120]⟩, .string ⟨#[]⟩, .int .i64 N, .int .i64 0, .int .i64 0, .int .i64 0, .slice (some ⟨g17, 0, none⟩) 1 1, .int .i64 N, .int .i64 0, .bool false] := e17
      replace e20 : ρ (.tmp 20) = .agg #[.int .i64 14, .string ⟨#[102]⟩, .string ⟨#[121]⟩, .string ⟨#[]⟩, .int .i64 1, .int .i64 0, .int .i64 0, .int .i64 0, .slice (some ⟨g20, 0, none⟩) 1 1, .int .i64 1, .int .i64 0, .bool false] := e20
      replace e26 : ρ (.tmp 26) = .agg #[.int .i64 14, .string ⟨#[102]⟩, .string ⟨#[120]⟩, .string ⟨#[]⟩, .int .i64 1, .int .i64 0, .int .i64 0, .int .i64 0, .slice (some ⟨g26, 0, none⟩) 1 1, .int .i64 1, .int .i64 0, .bool false] := e26
      replace e30 : ρ (.tmp 30) = .agg #[.int .i64 14, .string ⟨#[102]⟩, .string ⟨#[120]⟩, .string ⟨#[]⟩, .int .i64 N, .int .i64 0, .int .i64 0, .int .i64 0, .slice (some ⟨g30, 0, none⟩) 1 1, .int .i64 N, .int .i64 0, .bool true] := e30
      replace e34 : ρ (.tmp 34) = .agg #[.int .i64 14, .string ⟨#[103]⟩, .string ⟨#[120]⟩, .string ⟨#[]⟩, .int .i64 N, .int .i64 0, .int .i64 0, .int .i64 0, .slice (some ⟨g34, 0, none⟩) 1 1, .int .i64 N, .int .i64 0, .bool true] := e34
      simp only [execOp]
      go_simp
      refine ⟨below_alloc hC _, below_alloc (Below.refl _ _) _, (by show V 39 _ _; rw [HV.out]; refine ⟨_, [(conA, true, g0), ((.ask ⟨#[102]⟩ ⟨#[120]⟩ ⟨#[97]⟩ N 4607182418800017408 (0)), false, g17), ((.ask ⟨#[102]⟩ ⟨#[121]⟩ ⟨#[97]⟩ 1 4607182418800017408 (0)), false, g20), ((.ask ⟨#[102]⟩ ⟨#[120]⟩ ⟨#[97]⟩ 1 4607182418800017408 (floatOfInt .f64 N)), false, g26), ((.ask ⟨#[102]⟩ ⟨#[120]⟩ ⟨#[98]⟩ N 4611686018427387904 (0)), true, g30), ((.ask ⟨#[103]⟩ ⟨#[120]⟩ ⟨#[97]⟩ N 4611686018427387904 (0)), true, g34), (.other N, true, 0)], rfl, rfl, row_new entC_len _ _ _ _ _ rfl (by simp), ?_⟩; exact all_good (below_alloc (Below.refl _ _) _) (hG.out.below hC) q17 q20 q26 q30 q34)⟩
    · intro ρ w1 hc hf hg ho hC hV
      have e39 : LSpec.holds (.tab (tabL N)) (ρ (.tmp 39)) w1 := by have h := hV 39 (by decide) (by decide); rw [HV.out] at h; exact h
      obtain ⟨A39, L39, e39, hL39, r39, q39⟩ := e39
      have hl39 : L39.length = 7 := by have h := congrArg List.length hL39; simpa [tabL] using h
      rw [hl39] at e39
      simp only [execOp]
      go_simp
      exact ⟨hC, Below.refl _ _, (by show V 40 _ _; rw [HV.out]; exact rfl)⟩
    · intro ρ w1 hc hf hg ho hC hV
      simp only [execOp]
      go_simp
      exact ⟨hC, Below.refl _ _, (by show V 41 _ _; rw [HV.out]; exact rfl)⟩
  · intro σ w1 hC hV
    have v39 : LSpec.holds (.tab (tabL N)) (σ 39) w1 := by have h := hV 39 (by decide); rw [HV.out] at h; exact h
    have v40 : σ 40 = .int .i64 7 := by have h := hV 40 (by decide); rw [HV.out] at h; exact h
    have v41 : σ 41 = .int .i64 0 := by have h := hV 41 (by decide); rw [HV.out] at h; exact h
    clear hV HV V
    dsimp only [dsts, List.filterMap, putAll, Act.put]
    obtain ⟨AT, LT, v39, hLT, rT, qT⟩ := v39
    have hl7 : LT.length = 7 := by have h := congrArg List.length hLT; simpa [tabL] using h
    rw [hl7] at v39
    go_simp
    clear v39 v40 v41
    have hb1 : Below w.heap.size w w1 := below_step hbw hC
    replace hG : Hid (conA.good g0 w1) := Con.good.below hC _ _ hG.out
    replace m0 := cell_below hC m0
    replace m1 := cell_below hC m1
    replace m2 := cell_below hC m2
    replace m3 := cell_below hC m3
    replace m4 := cell_below hC m4
    replace m5 := cell_below hC m5
    replace m6 := cell_below hC m6
    replace m7 := cell_below hC m7
    replace m8 := cell_below hC m8
    replace m9 := cell_below hC m9
    replace m10 := cell_below hC m10
    have HLT := Lib.hid hLT
    have RT := Lib.hid rT
    have QT := Lib.hid qT
    have HL7 := Lib.hid hl7
    have HOK := Lib.hid (fun g => tabL_ok N hN0 hN1 g0 g)
    clear hbw hC hLT rT qT hl7
    go_wp2
    go_loopw [41] (fun i wr => LawRel w1 i wr) (fun i _ => 7 - (intOf i).toNat)
    case atStart => exact ⟨0, by omega, rfl, Below.refl _ _⟩
    case round =>
      obtain ⟨k, hk, rfl, hb⟩ := hrel
      by_cases hlt : k < 7
      · obtain ⟨p, hp⟩ : ∃ p, LT[k]? = some p := ⟨_, List.getElem?_eq_getElem (by rw [HL7.out]; exact hlt)⟩
        obtain ⟨bT, oT, hA, hcs⟩ := RT.out (by rw [HL7.out]; omega)
        have hgood := (QT.out p (List.mem_of_getElem? hp)).below hb
        have hmem : (p.1, p.2.1) ∈ tabL N := by
          rw [← HLT.out]
          exact List.mem_map.2 ⟨p, List.mem_of_getElem? hp, rfl⟩
        have hbth := List.all_eq_true.1 (HOK.out p.2.2) _ hmem
        simp only [Bool.and_eq_true, beq_iff_eq] at hbth
        have hc : ∀ (j : Nat) (v : Value), (entC p)[j]? = some v → wr.cell? ⟨bT, oT + k * 12 + j, none⟩ = some v := fun j v h => cell_below hb (hcs k p hp j v h)
        subst hA
        obtain ⟨c, b, g⟩ := p
        simp only at hgood hbth
        obtain ⟨hL1, hL2⟩ := hbth
        have hokY : OkIf (c.ls g) wr := Con.good.ok c g hgood
        have he : entC (c, b, g) = (c.ls g).x.cells ++ [.bool b] := rfl
        rw [he] at hc
        clear hp hcs hgood hmem he
        generalize c.ls g = y at hc hL1 hL2 hokY
        obtain ⟨⟨⟨xk, xf, xe, xt, xn, xs, xu, xp, xA, xil, xic⟩, ep, now⟩, it⟩ := y
        have c0 : wr.cell? ⟨bT, oT + k * 12, none⟩ = some (.int .i64 xk) := hc 0 _ rfl
        have c1 : wr.cell? ⟨bT, oT + k * 12 + 1, none⟩ = some (.string xf) := hc 1 _ rfl
        have c2 : wr.cell? ⟨bT, oT + k * 12 + 2, none⟩ = some (.string xe) := hc 2 _ rfl
        have c3 : wr.cell? ⟨bT, oT + k * 12 + 3, none⟩ = some (.string xt) := hc 3 _ rfl
        have c4 : wr.cell? ⟨bT, oT + k * 12 + 4, none⟩ = some (.int .i64 xn) := hc 4 _ rfl
        have c5 : wr.cell? ⟨bT, oT + k * 12 + 5, none⟩ = some (.int .i64 xs) := hc 5 _ rfl
        have c6 : wr.cell? ⟨bT, oT + k * 12 + 6, none⟩ = some (.int .i64 xu) := hc 6 _ rfl
        have c7 : wr.cell? ⟨bT, oT + k * 12 + 7, none⟩ = some (.int .i64 xp) := hc 7 _ rfl
        have c8 : wr.cell? ⟨bT, oT + k * 12 + 8, none⟩ = some (.slice xA xil xic) := hc 8 _ rfl
        have c9 : wr.cell? ⟨bT, oT + k * 12 + 9, none⟩ = some (.int .i64 ep) := hc 9 _ rfl
        have c10 : wr.cell? ⟨bT, oT + k * 12 + 10, none⟩ = some (.int .i64 now) := hc 10 _ rfl
        have c11 : wr.cell? ⟨bT, oT + k * 12 + 11, none⟩ = some (.bool b) := hc 11 _ rfl
        have HL1 := Lib.hid hL1
        have HL2 := Lib.hid hL2
        clear hc hL1 hL2
        have hkk : (k : Int) < 7 := by omega
        go_wp2
        generalize hW2 : wr.alloc _ = W2
        have hb2 : Below wr.heap.size wr W2 := by rw [← hW2]; exact below_alloc (Below.refl _ _) _
        have p0 : W2.cell? ⟨wr.heap.size, 0, none⟩ = some (.int .i64 xk) := by rw [← hW2, cell_new]; rfl
        have p1 : W2.cell? ⟨wr.heap.size, 1, none⟩ = some (.string xf) := by rw [← hW2, cell_new]; rfl
        have p2 : W2.cell? ⟨wr.heap.size, 2, none⟩ = some (.string xe) := by rw [← hW2, cell_new]; rfl
        have p3 : W2.cell? ⟨wr.heap.size, 3, none⟩ = some (.string xt) := by rw [← hW2, cell_new]; rfl
        have p4 : W2.cell? ⟨wr.heap.size, 4, none⟩ = some (.int .i64 xn) := by rw [← hW2, cell_new]; rfl
        have p5 : W2.cell? ⟨wr.heap.size, 5, none⟩ = some (.int .i64 xs) := by rw [← hW2, cell_new]; rfl
        have p6 : W2.cell? ⟨wr.heap.size, 6, none⟩ = some (.int .i64 xu) := by rw [← hW2, cell_new]; rfl
        have p7 : W2.cell? ⟨wr.heap.size, 7, none⟩ = some (.int .i64 xp) := by rw [← hW2, cell_new]; rfl
        have p8 : W2.cell? ⟨wr.heap.size, 8, none⟩ = some (.slice xA xil xic) := by rw [← hW2, cell_new]; rfl
        have p9 : W2.cell? ⟨wr.heap.size, 9, none⟩ = some (.int .i64 ep) := by rw [← hW2, cell_new]; rfl
        have p10 : W2.cell? ⟨wr.heap.size, 10, none⟩ = some (.int .i64 now) := by rw [← hW2, cell_new]; rfl
        have p11 : W2.cell? ⟨wr.heap.size, 11, none⟩ = some (.bool b) := by rw [← hW2, cell_new]; rfl
        clear hW2 c0 c1 c2 c3 c4 c5 c6 c7 c8 c9 c10 c11
        replace hokY : Hid (OkIf ⟨⟨⟨xk, xf, xe, xt, xn, xs, xu, xp, xA, xil, xic⟩, ep, now⟩, it⟩ W2) := hokY.below2 hb2
        replace hb : Below w1.heap.size w1 W2 := below_step hb hb2
        replace hG : Hid (conA.good g0 W2) := Con.good.below hb _ _ hG.out
        replace m0 := cell_below hb m0
        replace m1 := cell_below hb m1
        replace m2 := cell_below hb m2
        replace m3 := cell_below hb m3
        replace m4 := cell_below hb m4
        replace m5 := cell_below hb m5
        replace m6 := cell_below hb m6
        replace m7 := cell_below hb m7
        replace m8 := cell_below hb m8
        replace m9 := cell_below hb m9
        replace m10 := cell_below hb m10
        clear hb2 RT QT HLT HL7 HOK hb1
        obtain ⟨V, HV⟩ : ∃ V : Tmp → Value → World → Prop, Hid (V = fun sl_ v_ w_ => LSpec.holds (match sl_ with | 45 => .det (.agg #[.int .i64 14, .string ⟨#[102]⟩, .string ⟨#[120]⟩, .string ⟨#[]⟩, .int .i64 1, .int .i64 0, .int .i64 0, .int .i64 0, .slice (some ⟨g0, 0, none⟩) 1 1, .int .i64 1, .int .i64 0]) | 46 => .det (.pointer (some ⟨wr.heap.size, 0, none⟩)) | 47 => .det (.agg #[.int .i64 xk, .string xf, .string xe, .string xt, .int .i64 xn, .int .i64 xs, .int .i64 xu, .int .i64 xp, .slice xA xil xic, .int .i64 ep, .int .i64 now]) | 48 => .row [conA.ls g0, ⟨⟨⟨xk, xf, xe, xt, xn, xs, xu, xp, xA, xil, xic⟩, ep, now⟩, it⟩] | 49 => .det (.bool b) | 50 => .det (.pointer (some ⟨wr.heap.size, 11, none⟩)) | 51 => .det (.bool b) | 52 => .det (.bool false) | 53 => .det (.bool false) | 54 => .det (.pointer (some ⟨wr.heap.size, 0, none⟩)) | 55 => .det (.agg #[.int .i64 xk, .string xf, .string xe, .string xt, .int .i64 xn, .int .i64 xs, .int .i64 xu, .int .i64 xp, .slice xA xil xic, .int .i64 ep, .int .i64 now]) | 56 => .det (.agg #[.int .i64 14, .string ⟨#[102]⟩, .string ⟨#[120]⟩, .string ⟨#[]⟩, .int .i64 1, .int .i64 0, .int .i64 0, .int .i64 0, .slice (some ⟨g0, 0, none⟩) 1 1, .int .i64 1, .int .i64 0]) | 57 => .det (.pointer (some ⟨wr.heap.size, 0, none⟩)) | 58 => .det (.agg #[.int .i64 xk, .string xf, .string xe, .string xt, .int .i64 xn, .int .i64 xs, .int .i64 xu, .int .i64 xp, .slice xA xil xic, .int .i64 ep, .int .i64 now]) | 59 => .row [⟨⟨⟨xk, xf, xe, xt, xn, xs, xu, xp, xA, xil, xic⟩, ep, now⟩, it⟩, conA.ls g0, ⟨⟨⟨xk, xf, xe, xt, xn, xs, xu, xp, xA, xil, xic⟩, ep, now⟩, it⟩] | 60 => .det (.bool b) | 61 => .det (.pointer (some ⟨wr.heap.size, 11, none⟩)) | 62 => .det (.bool b) | 63 => .det (.bool false) | 64 => .det (.bool false) | _ => .any) v_ w_) := ⟨_, rfl⟩
        refine wp_region_loose (Below W2.heap.size W2 ·) (fun w_ w_2 => Below w_.heap.size w_ w_2) V (by kernel_rfl) (by kernel_rfl) (by kernel_rfl) (Below.refl _ _).drew (fun w_ => Below.refl _ _) ?_ ?_ ?_
        · intro t v w w' hC hR h
          rw [HV.out] at h ⊢
          exact LSpec.mono hR _ _ h
        · go_light
          simp only [List.forall_mem_cons]
          refine ⟨?_, ?_, ?_, ?_, ?_, ?_, ?_, ?_, ?_, ?_, ?_, ?_, ?_, ?_, ?_, ?_, ?_, ?_, ?_, ?_, fun _ h => by cases h⟩
          · intro ρ w1 hc hf hg ho hC hV
            have e4 := ho 4 (by decide)
            have m0' := cell_below hC m0
            have m1' := cell_below hC m1
            have m2' := cell_below hC m2
            have m3' := cell_below hC m3
            have m4' := cell_below hC m4
            have m5' := cell_below hC m5
            have m6' := cell_below hC m6
            have m7' := cell_below hC m7
            have m8' := cell_below hC m8
            have m9' := cell_below hC m9
            have m10' := cell_below hC m10
            simp only [execOp]
            go_simp
            exact ⟨hC, Below.refl _ _, (by show V 45 _ _; rw [HV.out]; exact rfl)⟩
          · intro ρ w1 hc hf hg ho hC hV
            have e6 := ho 6 (by decide)
            simp only [execOp]
            go_simp
            exact ⟨hC, Below.refl _ _, (by show V 46 _ _; rw [HV.out]; exact rfl)⟩
          · intro ρ w1 hc hf hg ho hC hV
            have e46 : ρ (.tmp 46) = .pointer (some ⟨wr.heap.size, 0, none⟩) := by have h := hV 46 (by decide) (by decide); rw [HV.out] at h; exact h
            have p0' := cell_below hC p0
            have p1' := cell_below hC p1
            have p2' := cell_below hC p2
            have p3' := cell_below hC p3
            have p4' := cell_below hC p4
            have p5' := cell_below hC p5
            have p6' := cell_below hC p6
            have p7' := cell_below hC p7
            have p8' := cell_below hC p8
            have p9' := cell_below hC p9
            have p10' := cell_below hC p10
            simp only [execOp]
            go_simp
            exact ⟨hC, Below.refl _ _, (by show V 47 _ _; rw [HV.out]; exact rfl)⟩
          · intro ρ w1 hc hf hg ho hC hV
            have e45 : ρ (.tmp 45) = .agg #[.int .i64 14, .string ⟨#[102]⟩, .string ⟨#[120]⟩, .string ⟨#[]⟩, .int .i64 1, .int .i64 0, .int .i64 0, .int .i64 0, .slice (some ⟨g0, 0, none⟩) 1 1, .int .i64 1, .int .i64 0] := by have h := hV 45 (by decide) (by decide); rw [HV.out] at h; exact h
            have e47 : ρ (.tmp 47) = .agg #[.int .i64 xk, .string xf, .string xe, .string xt, .int .i64 xn, .int .i64 xs, .int .i64 xu, .int .i64 xp, .slice xA xil xic, .int .i64 ep, .int .i64 now] := by have h := hV 47 (by decide) (by decide); rw [HV.out] at h; exact h
            simp only [execOp]
            go_simp
            exact ⟨below_alloc hC _, below_alloc (Below.refl _ _) _, (by show V 48 _ _; rw [HV.out]; exact ⟨_, rfl, ls_row _ [conA.ls g0, ⟨⟨⟨xk, xf, xe, xt, xn, xs, xu, xp, xA, xil, xic⟩, ep, now⟩, it⟩] _ _ rfl rfl⟩)⟩
          · intro ρ w1 hc hf hg ho hC hV
            have e48 : LSpec.holds (.row [conA.ls g0, ⟨⟨⟨xk, xf, xe, xt, xn, xs, xu, xp, xA, xil, xic⟩, ep, now⟩, it⟩]) (ρ (.tmp 48)) w1 := by have h := hV 48 (by decide) (by decide); rw [HV.out] at h; exact h
            obtain ⟨g48, e48, r48⟩ := e48
            simp only [execOp]
            go_simp
            refine (launches_at _ _ 2 [conA.ls g0, ⟨⟨⟨xk, xf, xe, xt, xn, xs, xu, xp, xA, xil, xic⟩, ep, now⟩, it⟩] b rfl HL1.out (by omega) w1 r48 (oks (S := [conA.ls g0, ⟨⟨⟨xk, xf, xe, xt, xn, xs, xu, xp, xA, xil, xic⟩, ep, now⟩, it⟩]) (hG.out.below hC) (hokY.out.below2 hC) (by intro q hq; simp only [List.mem_cons, List.not_mem_nil, or_false] at hq; exact hq))).mono ?_
            rintro e w2 ⟨rfl, hb2⟩
            exact ⟨_, rfl, below_step hC hb2, hb2, (by show V 49 _ _; rw [HV.out]; exact rfl)⟩
          · intro ρ w1 hc hf hg ho hC hV
            have e6 := ho 6 (by decide)
            simp only [execOp]
            go_simp
            exact ⟨hC, Below.refl _ _, (by show V 50 _ _; rw [HV.out]; exact rfl)⟩
          · intro ρ w1 hc hf hg ho hC hV
            have e50 : ρ (.tmp 50) = .pointer (some ⟨wr.heap.size, 11, none⟩) := by have h := hV 50 (by decide) (by decide); rw [HV.out] at h; exact h
            have p11' := cell_below hC p11
            simp only [execOp]
            go_simp
            exact ⟨hC, Below.refl _ _, (by show V 51 _ _; rw [HV.out]; exact rfl)⟩
          · intro ρ w1 hc hf hg ho hC hV
            have e49 : ρ (.tmp 49) = .bool b := by have h := hV 49 (by decide) (by decide); rw [HV.out] at h; exact h
            have e51 : ρ (.tmp 51) = .bool b := by have h := hV 51 (by decide) (by decide); rw [HV.out] at h; exact h
            simp only [execOp]
            cases b <;> go_simp <;> exact ⟨hC, Below.refl _ _, (by show V 52 _ _; rw [HV.out]; exact rfl)⟩
          · intro ρ w1 hc hf hg ho hC hV
            have e52 : ρ (.tmp 52) = .bool false := by have h := hV 52 (by decide) (by decide); rw [HV.out] at h; exact h
            simp only [execOp]
            go_simp
            exact ⟨hC, Below.refl _ _, (by show V 53 _ _; rw [HV.out]; exact rfl)⟩
          · intro ρ w1 hc hf hg ho hC hV
            refine ⟨53, _, rfl, by have h := hV 53 (by decide) (by decide); rw [HV.out] at h; exact h, ?_⟩
            rw [if_pos rfl]
            have e6 := ho 6 (by decide)
            simp only [execOp]
            go_simp
            exact ⟨hC, Below.refl _ _, (by show V 54 _ _; rw [HV.out]; exact rfl)⟩
          · intro ρ w1 hc hf hg ho hC hV
            refine ⟨53, _, rfl, by have h := hV 53 (by decide) (by decide); rw [HV.out] at h; exact h, ?_⟩
            rw [if_pos rfl]
            have e54 : ρ (.tmp 54) = .pointer (some ⟨wr.heap.size, 0, none⟩) := by have h := hV 54 (by decide) (by decide); rw [HV.out] at h; exact h
            have p0' := cell_below hC p0
            have p1' := cell_below hC p1
            have p2' := cell_below hC p2
            have p3' := cell_below hC p3
            have p4' := cell_below hC p4
            have p5' := cell_below hC p5
            have p6' := cell_below hC p6
            have p7' := cell_below hC p7
            have p8' := cell_below hC p8
            have p9' := cell_below hC p9
            have p10' := cell_below hC p10
            simp only [execOp]
            go_simp
            exact ⟨hC, Below.refl _ _, (by show V 55 _ _; rw [HV.out]; exact rfl)⟩
          · intro ρ w1 hc hf hg ho hC hV
            refine ⟨53, _, rfl, by have h := hV 53 (by decide) (by decide); rw [HV.out] at h; exact h, ?_⟩
            rw [if_pos rfl]
            have e4 := ho 4 (by decide)
            have m0' := cell_below hC m0
            have m1' := cell_below hC m1
            have m2' := cell_below hC m2
            have m3' := cell_below hC m3
            have m4' := cell_below hC m4
            have m5' := cell_below hC m5
            have m6' := cell_below hC m6
            have m7' := cell_below hC m7
            have m8' := cell_below hC m8
            have m9' := cell_below hC m9
            have m10' := cell_below hC m10
            simp only [execOp]
            go_simp
            exact ⟨hC, Below.refl _ _, (by show V 56 _ _; rw [HV.out]; exact rfl)⟩
          · intro ρ w1 hc hf hg ho hC hV
            refine ⟨53, _, rfl, by have h := hV 53 (by decide) (by decide); rw [HV.out] at h; exact h, ?_⟩
            rw [if_pos rfl]
            have e6 := ho 6 (by decide)
            simp only [execOp]
            go_simp
            exact ⟨hC, Below.refl _ _, (by show V 57 _ _; rw [HV.out]; exact rfl)⟩
          · intro ρ w1 hc hf hg ho hC hV
            refine ⟨53, _, rfl, by have h := hV 53 (by decide) (by decide); rw [HV.out] at h; exact h, ?_⟩
            rw [if_pos rfl]
            have e57 : ρ (.tmp 57) = .pointer (some ⟨wr.heap.size, 0, none⟩) := by have h := hV 57 (by decide) (by decide); rw [HV.out] at h; exact h
            have p0' := cell_below hC p0
            have p1' := cell_below hC p1
            have p2' := cell_below hC p2
            have p3' := cell_below hC p3
            have p4' := cell_below hC p4
            have p5' := cell_below hC p5
            have p6' := cell_below hC p6
            have p7' := cell_below hC p7
            have p8' := cell_below hC p8
            have p9' := cell_below hC p9
            have p10' := cell_below hC p10
            simp only [execOp]
            go_simp
            exact ⟨hC, Below.refl _ _, (by show V 58 _ _; rw [HV.out]; exact rfl)⟩
          · intro ρ w1 hc hf hg ho hC hV
            refine ⟨53, _, rfl, by have h := hV 53 (by decide) (by decide); rw [HV.out] at h; exact h, ?_⟩
            rw [if_pos rfl]
            have e55 : ρ (.tmp 55) = .agg #[.int .i64 xk, .string xf, .string xe, .string xt, .int .i64 xn, .int .i64 xs, .int .i64 xu, .int .i64 xp, .slice xA xil xic, .int .i64 ep, .int .i64 now] := by have h := hV 55 (by decide) (by decide); rw [HV.out] at h; exact h
            have e56 : ρ (.tmp 56) = .agg #[.int .i64 14, .string ⟨#[102]⟩, .string ⟨#[120]⟩, .string ⟨#[]⟩, .int .i64 1, .int .i64 0, .int .i64 0, .int .i64 0, .slice (some ⟨g0, 0, none⟩) 1 1, .int .i64 1, .int .i64 0] := by have h := hV 56 (by decide) (by decide); rw [HV.out] at h; exact h
            have e58 : ρ (.tmp 58) = .agg #[.int .i64 xk, .string xf, .string xe, .string xt, .int .i64 xn, .int .i64 xs, .int .i64 xu, .int .i64 xp, .slice xA xil xic, .int .i64 ep, .int .i64 now] := by have h := hV 58 (by decide) (by decide); rw [HV.out] at h; exact h
            simp only [execOp]
            go_simp
            exact ⟨below_alloc hC _, below_alloc (Below.refl _ _) _, (by show V 59 _ _; rw [HV.out]; exact ⟨_, rfl, ls_row _ [⟨⟨⟨xk, xf, xe, xt, xn, xs, xu, xp, xA, xil, xic⟩, ep, now⟩, it⟩, conA.ls g0, ⟨⟨⟨xk, xf, xe, xt, xn, xs, xu, xp, xA, xil, xic⟩, ep, now⟩, it⟩] _ _ rfl rfl⟩)⟩
          · intro ρ w1 hc hf hg ho hC hV
            refine ⟨53, _, rfl, by have h := hV 53 (by decide) (by decide); rw [HV.out] at h; exact h, ?_⟩
            rw [if_pos rfl]
            have e59 : LSpec.holds (.row [⟨⟨⟨xk, xf, xe, xt, xn, xs, xu, xp, xA, xil, xic⟩, ep, now⟩, it⟩, conA.ls g0, ⟨⟨⟨xk, xf, xe, xt, xn, xs, xu, xp, xA, xil, xic⟩, ep, now⟩, it⟩]) (ρ (.tmp 59)) w1 := by have h := hV 59 (by decide) (by decide); rw [HV.out] at h; exact h
            obtain ⟨g59, e59, r59⟩ := e59
            simp only [execOp]
            go_simp
            refine (launches_at _ _ 3 [⟨⟨⟨xk, xf, xe, xt, xn, xs, xu, xp, xA, xil, xic⟩, ep, now⟩, it⟩, conA.ls g0, ⟨⟨⟨xk, xf, xe, xt, xn, xs, xu, xp, xA, xil, xic⟩, ep, now⟩, it⟩] b rfl HL2.out (by omega) w1 r59 (oks (S := [⟨⟨⟨xk, xf, xe, xt, xn, xs, xu, xp, xA, xil, xic⟩, ep, now⟩, it⟩, conA.ls g0, ⟨⟨⟨xk, xf, xe, xt, xn, xs, xu, xp, xA, xil, xic⟩, ep, now⟩, it⟩]) (hG.out.below hC) (hokY.out.below2 hC) (by intro q hq; simp only [List.mem_cons, List.not_mem_nil, or_false] at hq; rcases hq with h | h | h; exact .inr h; exact .inl h; exact .inr h))).mono ?_
            rintro e w2 ⟨rfl, hb2⟩
            exact ⟨_, rfl, below_step hC hb2, hb2, (by show V 60 _ _; rw [HV.out]; exact rfl)⟩
          · intro ρ w1 hc hf hg ho hC hV
            refine ⟨53, _, rfl, by have h := hV 53 (by decide) (by decide); rw [HV.out] at h; exact h, ?_⟩
            rw [if_pos rfl]
            have e6 := ho 6 (by decide)
            simp only [execOp]
            go_simp
            exact ⟨hC, Below.refl _ _, (by show V 61 _ _; rw [HV.out]; exact rfl)⟩
          · intro ρ w1 hc hf hg ho hC hV
            refine ⟨53, _, rfl, by have h := hV 53 (by decide) (by decide); rw [HV.out] at h; exact h, ?_⟩
            rw [if_pos rfl]
            have e61 : ρ (.tmp 61) = .pointer (some ⟨wr.heap.size, 11, none⟩) := by have h := hV 61 (by decide) (by decide); rw [HV.out] at h; exact h
            have p11' := cell_below hC p11
            simp only [execOp]
            go_simp
            exact ⟨hC, Below.refl _ _, (by show V 62 _ _; rw [HV.out]; exact rfl)⟩
          · intro ρ w1 hc hf hg ho hC hV
            refine ⟨53, _, rfl, by have h := hV 53 (by decide) (by decide); rw [HV.out] at h; exact h, ?_⟩
            rw [if_pos rfl]
            have e60 : ρ (.tmp 60) = .bool b := by have h := hV 60 (by decide) (by decide); rw [HV.out] at h; exact h
            have e62 : ρ (.tmp 62) = .bool b := by have h := hV 62 (by decide) (by decide); rw [HV.out] at h; exact h
            simp only [execOp]
            cases b <;> go_simp <;> exact ⟨hC, Below.refl _ _, (by show V 63 _ _; rw [HV.out]; exact rfl)⟩
          · intro ρ w1 hc hf hg ho hC hV
            have e53 : ρ (.tmp 53) = .bool false := by have h := hV 53 (by decide) (by decide); rw [HV.out] at h; exact h
            have e63 : ρ (.tmp 63) = .bool false := by have h := hV 63 (by decide) (by decide); rw [HV.out] at h; exact h
            simp only [execOp]
            go_simp
            exact ⟨hC, Below.refl _ _, (by show V 64 _ _; rw [HV.out]; exact rfl)⟩
        · intro σ w1 hC hV
          have v64 : σ 64 = .bool false := by have h := hV 64 (by decide); rw [HV.out] at h; exact h
          clear hV HV V
          dsimp only [dsts, List.filterMap, putAll, Act.put]
          have hbn := below_step hb hC
          clear hb hC
          go_simp
          go_wp2
          go_roundw
          case rel => exact ⟨k + 1, by omega, by go_num, hbn⟩
          case measure => simp [intOf]; omega
      · have hb9 : Below w.heap.size w wr := below_step hb1 hb
        clear hb1 hb RT QT HLT HL7 HOK hG
        go_wp2_with fail
        refine (launches_at none 0 0 [] true rfl rfl (by omega) _ (RowOf.nil _ _ _ _) (fun y hy => by cases hy)).mono ?_
        rintro e x1 ⟨rfl, hx1⟩
        have hbx1 := below_step hb9 hx1
        clear hx1 hb9
        go_wp2_with fail
        refine (wakes25 _).mono ?_
        rintro e x2 ⟨rfl, hx2⟩
        have hbx2 := below_step hbx1 hx2
        clear hx2 hbx1
        go_wp2
        go_ret
        exact ⟨rfl, hbx2⟩
end Go.Proofs.Ytbmegoemimfiaaa

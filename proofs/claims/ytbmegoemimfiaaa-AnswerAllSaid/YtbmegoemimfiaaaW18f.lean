/-
  AnswerAll: the walk.
-/
import Derived.Test.YtbmegoemimfiaaaRows
import Derived.Test.YtbmegoemimfiaaaW18e
import Derived.WalkKit
import Derived.WalkSpells
import Derived.WalkLawsBesides
import Derived.Outline
import Derived.Laws.StructEq
import Derived.Deep.Light
import Derived.Deep.QuietTactic
import Derived.BigQuiet
import Derived.Maps.OwnOps
import Derived.Maps.OwnSet
import Derived.Lib.Hide
namespace Go.Proofs.Ytbmegoemimfiaaa
open Go Go.RowKit
set_option maxRecDepth 100000
set_option linter.unusedVariables false
set_option linter.unusedSimpArgs false

attribute [local go_sem] run_store_float run_store_complex
theorem ba0 (b : UInt8) (h : 0 < (⟨#[b]⟩ : ByteArray).size) : (⟨#[b]⟩ : ByteArray)[0]'h = b := rfl
attribute [local go_sem] ba0
theorem lt_byte (j : Nat) (hj : j < 8) : ∃ b : UInt8, lt j = ⟨#[b]⟩ ∧ ((b.toNat : Int) - 97) % 256 = (j : Int) := by
  refine ⟨UInt8.ofNat (97 + j), rfl, ?_⟩
  have : j = 0 ∨ j = 1 ∨ j = 2 ∨ j = 3 ∨ j = 4 ∨ j = 5 ∨ j = 6 ∨ j = 7 := by omega
  rcases this with rfl | rfl | rfl | rfl | rfl | rfl | rfl | rfl <;> decide
theorem want_cases (m j : Nat) (wt : Int) (h : wt = want m j) : (¬ (j : Int) < (m : Int) ∧ wt = 6) ∨ ((j : Int) < (m : Int) ∧ (((j : Int) % 2 == 1) = false) ∧ wt = 6) ∨ ((j : Int) < (m : Int) ∧ (((j : Int) % 2 == 1) = true) ∧ wt = 1 + (j : Int)) := by
  subst h
  by_cases h1 : j < m
  · by_cases h2 : j % 2 = 1
    · right; right
      refine ⟨by omega, by rw [beq_iff_eq]; omega, by simp [want, h1, h2]⟩
    · right; left
      refine ⟨by omega, by rw [beq_eq_false_iff_ne]; omega, by simp [want, h2]⟩
  · left
    exact ⟨by omega, by simp [want, h1]⟩
def sufK (k : Nat) : ByteArray := ⟨#[97, 98, 99, 100, 101, 102].extract k 6⟩
def IntsAt (w : World) (A : Option Addr) (zs : List Int) : Prop := 0 < zs.length → ∃ b o, A = some ⟨b, o, none⟩ ∧ ∀ j, j < zs.length → w.cell? ⟨b, o + j, none⟩ = some (.int .i64 (zs.getD j 0))
def LayRel (w : World) (m : Nat) (v i : Value) (wr : World) : Prop := ∃ (k : Nat) (G : List Nat), k ≤ m ∧ G.length = k ∧ i = .int .i64 k ∧ Below w.heap.size w wr ∧ wr.ownsRow w.heap.size 52 4 v k ((ents G).flatMap Entry.cells) ∧ LaidAt wr G
def CkRel (w : World) (h : Nat) (i : Value) (wr : World) : Prop := ∃ k : Nat, k ≤ h ∧ i = .int .i64 k ∧ Below w.heap.size w wr
theorem within8 (v : Int) (w : World) : Calls Try.prog 11 #[.int .i64 v, .int .i64 8] w fun e w' => (e = .returned (.int .i64 0) ∨ e = .returned (.int .i64 1) ∨ e = .returned (.int .i64 2) ∨ e = .returned (.int .i64 3) ∨ e = .returned (.int .i64 4) ∨ e = .returned (.int .i64 5) ∨ e = .returned (.int .i64 6) ∨ e = .returned (.int .i64 7)) ∧ w = w' := by
  refine (within18 v 8 (by omega) (by omega) w).mono fun e w' h => ?_
  obtain ⟨rfl, rfl⟩ := h
  have hv : v % 8 = 0 ∨ v % 8 = 1 ∨ v % 8 = 2 ∨ v % 8 = 3 ∨ v % 8 = 4 ∨ v % 8 = 5 ∨ v % 8 = 6 ∨ v % 8 = 7 := by omega
  refine ⟨?_, rfl⟩
  rcases hv with h | h | h | h | h | h | h | h <;> rw [h] <;> simp
def QRel (w : World) (n : Nat) (v i : Value) (wr : World) : Prop := ∃ (k : Nat) (J : List Nat), J.length = k ∧ k ≤ 4 ∧ k ≤ n ∧ (∀ j ∈ J, j < 8) ∧ i = .int .i64 k ∧ Below w.heap.size w wr ∧ wr.ownsRow w.heap.size 50 2 v k ((J.map qI).flatMap Item.cells)
theorem QRel.snoc {w wr : World} {n k : Nat} {v i : Value} {J : List Nat} (q : Nat) (hl : J.length = k) (h4 : k + 1 ≤ 4) (hn : k + 1 ≤ n) (hk : k ≤ n) (h8 : ∀ j ∈ J, j < 8) (hq : q < 8) (hb : Below w.heap.size w wr) (ho : wr.ownsRow w.heap.size 50 2 v (k + 1) ((J.map qI).flatMap Item.cells ++ [.string (lt q), .complex .f64 0 0])) (hi : i = .int .i64 ((k + 1 : Nat) : Int)) : QRel w n v i wr := by
  refine ⟨k + 1, J ++ [q], by simp [hl], h4, hn, ?_, hi, hb, ?_⟩
  · intro j hj
    rcases List.mem_append.1 hj with h | h
    · exact h8 j h
    · obtain rfl : j = q := by simpa using h
      exact hq
  · rw [List.map_append, List.flatMap_append]; exact ho
set_option maxHeartbeats 100000000 in
theorem answerAll_walk (v : Int) (A : Option Addr) (c : Nat) (zs : List Int) (w : World) (hz : IntsAt w A zs) : Calls Try.prog 5 #[.int .i64 v, .slice A zs.length c] w fun e w' => e = .returned (.bool true) ∧ Below w.heap.size w w' := by
  have hm0 : 0 ≤ v % 6 := Int.emod_nonneg v (by omega)
  have hm1 : v % 6 < 6 := Int.emod_lt_of_pos v (by omega)
  have HZ := Lib.hid hz
  clear hz
  go_enter Try.func5, Try.ntmps5
  go_wp2_with fail
  refine (within18 v 6 (by omega) (by omega) _).mono ?_
  rintro e w1 ⟨rfl, rfl⟩
  obtain ⟨m, hm⟩ : ∃ m : Nat, v % 6 = (m : Int) := ⟨(v % 6).toNat, by omega⟩
  rw [hm]
  have hm5 : m ≤ 5 := by omega
  clear hm hm0 hm1
  go_wp2_with fail
  go_loopw [5, 6] (fun v i wr => LayRel w m v i wr) (fun _ i _ => m - (intOf i).toNat)
  case atStart => exact ⟨0, [], Nat.zero_le _, rfl, rfl, Below.refl _ _, World.ownsRow_nil _ _ _ _, LaidAt.nil _⟩
  case round =>
    obtain ⟨k, G, hk, hGl, rfl, hb, hown, hlaid⟩ := hrel
    obtain ⟨A2, cp2, hv2⟩ := own_slice hown
    subst hv2
    have hownH := Lib.hid hown
    have hlaidH := Lib.hid hlaid
    have hGlH := Lib.hid hGl
    clear hown hlaid hGl
    by_cases hlt : k < m
    · have hk5 : k = 0 ∨ k = 1 ∨ k = 2 ∨ k = 3 ∨ k = 4 := by omega
      go_wp2_with fail
      obtain ⟨V, HV⟩ : ∃ V : Tmp → Value → World → Prop, Hid (V = fun sl_ v_ w_ => QSpec.holds (match sl_ with | 25 => .det (.slice A2 k cp2) | 26 => .row 2 9 [.string ⟨#[102]⟩, .string ⟨#[103]⟩] | 27 => .det (.int .i64 k) | 28 => .det (.int .i64 (k % 2 : Nat)) | 29 => .ptr (k % 2) 9 [.string ⟨#[102]⟩, .string ⟨#[103]⟩] | 30 => .det (.string (fg k)) | 31 => .det (.int .i64 k) | 32 => .det (.int .i64 k) | 33 => .det (.string (sufK k)) | 34 => .det (.string (lt k)) | 35 => .det (.agg #[.string (lt k), .complex .f64 4607182418800017408 0]) | 36 => .row 1 50 [.string (lt k), .complex .f64 4607182418800017408 0] | 37 => .with (.row 1 50 [.string (lt k), .complex .f64 4607182418800017408 0]) (fun u => .agg #[.string (fg k), .string ⟨#[120]⟩, .int .i64 k, u]) | 38 => .rowOf 1 52 (.row 1 50 [.string (lt k), .complex .f64 4607182418800017408 0]) (fun u => [.string (fg k), .string ⟨#[120]⟩, .int .i64 k, u]) | _ => .any) v_ w_) := ⟨_, rfl⟩
      refine wp_region_tail 14 (Below wr.heap.size wr ·) (fun w_ w_2 => Below w_.heap.size w_ w_2) V (by kernel_rfl) (by kernel_rfl) (by kernel_rfl) (Below.refl _ _).drew (fun w_ => Below.refl _ _) ?_ ?_ ?_
      · intro t v w w' hC hR h
        rw [HV.out] at h ⊢
        exact QSpec.mono hR _ _ h
      · go_light
        dsimp only [List.take]
        simp only [List.forall_mem_cons]
        refine ⟨?_, ?_, ?_, ?_, ?_, ?_, ?_, ?_, ?_, ?_, ?_, ?_, ?_, ?_, fun _ h => by cases h⟩
        · intro ρ w1 hc hf hg ho hC hV
          have e5 := ho 5 (by decide)
          simp only [execOp]
          go_simp
          exact ⟨hC, Below.refl _ _, (by show V 25 _ _; rw [HV.out]; exact rfl)⟩
        · intro ρ w1 hc hf hg ho hC hV
          simp only [execOp]
          go_simp
          exact ⟨below_alloc hC _, below_alloc (Below.refl _ _) _, (by show V 26 _ _; rw [HV.out]; exact ⟨_, rfl, blk_new _ _⟩)⟩
        · intro ρ w1 hc hf hg ho hC hV
          have e6 := ho 6 (by decide)
          simp only [execOp]
          go_simp
          exact ⟨hC, Below.refl _ _, (by show V 27 _ _; rw [HV.out]; exact rfl)⟩
        · intro ρ w1 hc hf hg ho hC hV
          have e27 : ρ (.tmp 27) = .int .i64 k := by have h := hV 27 (by decide) (by decide); rw [HV.out] at h; exact h
          rcases hk5 with rfl | rfl | rfl | rfl | rfl
          · simp only [execOp]; go_simp; exact ⟨hC, Below.refl _ _, (by show V 28 _ _; rw [HV.out]; exact rfl)⟩
          · simp only [execOp]; go_simp; exact ⟨hC, Below.refl _ _, (by show V 28 _ _; rw [HV.out]; exact rfl)⟩
          · simp only [execOp]; go_simp; exact ⟨hC, Below.refl _ _, (by show V 28 _ _; rw [HV.out]; exact rfl)⟩
          · simp only [execOp]; go_simp; exact ⟨hC, Below.refl _ _, (by show V 28 _ _; rw [HV.out]; exact rfl)⟩
          · simp only [execOp]; go_simp; exact ⟨hC, Below.refl _ _, (by show V 28 _ _; rw [HV.out]; exact rfl)⟩
        · intro ρ w1 hc hf hg ho hC hV
          have e26 : QSpec.holds (.row 2 9 [.string ⟨#[102]⟩, .string ⟨#[103]⟩]) (ρ (.tmp 26)) w1 := by have h := hV 26 (by decide) (by decide); rw [HV.out] at h; exact h
          obtain ⟨g26, e26, h26⟩ := e26
          have e28 : ρ (.tmp 28) = .int .i64 (k % 2 : Nat) := by have h := hV 28 (by decide) (by decide); rw [HV.out] at h; exact h
          rcases hk5 with rfl | rfl | rfl | rfl | rfl
          · simp only [execOp]; rw [e26]; go_simp; exact ⟨hC, Below.refl _ _, (by show V 29 _ _; rw [HV.out]; exact ⟨_, rfl, h26⟩)⟩
          · simp only [execOp]; rw [e26]; go_simp; exact ⟨hC, Below.refl _ _, (by show V 29 _ _; rw [HV.out]; exact ⟨_, rfl, h26⟩)⟩
          · simp only [execOp]; rw [e26]; go_simp; exact ⟨hC, Below.refl _ _, (by show V 29 _ _; rw [HV.out]; exact ⟨_, rfl, h26⟩)⟩
          · simp only [execOp]; rw [e26]; go_simp; exact ⟨hC, Below.refl _ _, (by show V 29 _ _; rw [HV.out]; exact ⟨_, rfl, h26⟩)⟩
          · simp only [execOp]; rw [e26]; go_simp; exact ⟨hC, Below.refl _ _, (by show V 29 _ _; rw [HV.out]; exact ⟨_, rfl, h26⟩)⟩
        · intro ρ w1 hc hf hg ho hC hV
          have e29 : QSpec.holds (.ptr (k % 2) 9 [.string ⟨#[102]⟩, .string ⟨#[103]⟩]) (ρ (.tmp 29)) w1 := by have h := hV 29 (by decide) (by decide); rw [HV.out] at h; exact h
          obtain ⟨g29, e29, h29⟩ := e29
          have q0 : w1.cell? ⟨g29, 0, none⟩ = some (.string ⟨#[102]⟩) := by rw [blk_cell h29]; rfl
          have q1 : w1.cell? ⟨g29, 1, none⟩ = some (.string ⟨#[103]⟩) := by rw [blk_cell h29]; rfl
          rcases hk5 with rfl | rfl | rfl | rfl | rfl
          · simp only [execOp]; rw [e29]; go_simp; exact ⟨hC, Below.refl _ _, (by show V 30 _ _; rw [HV.out]; exact rfl)⟩
          · simp only [execOp]; rw [e29]; go_simp; exact ⟨hC, Below.refl _ _, (by show V 30 _ _; rw [HV.out]; exact rfl)⟩
          · simp only [execOp]; rw [e29]; go_simp; exact ⟨hC, Below.refl _ _, (by show V 30 _ _; rw [HV.out]; exact rfl)⟩
          · simp only [execOp]; rw [e29]; go_simp; exact ⟨hC, Below.refl _ _, (by show V 30 _ _; rw [HV.out]; exact rfl)⟩
          · simp only [execOp]; rw [e29]; go_simp; exact ⟨hC, Below.refl _ _, (by show V 30 _ _; rw [HV.out]; exact rfl)⟩
        · intro ρ w1 hc hf hg ho hC hV
          have e6 := ho 6 (by decide)
          simp only [execOp]
          go_simp
          exact ⟨hC, Below.refl _ _, (by show V 31 _ _; rw [HV.out]; exact rfl)⟩
        · intro ρ w1 hc hf hg ho hC hV
          have e6 := ho 6 (by decide)
          simp only [execOp]
          go_simp
          exact ⟨hC, Below.refl _ _, (by show V 32 _ _; rw [HV.out]; exact rfl)⟩
        · intro ρ w1 hc hf hg ho hC hV
          have e32 : ρ (.tmp 32) = .int .i64 k := by have h := hV 32 (by decide) (by decide); rw [HV.out] at h; exact h
          rcases hk5 with rfl | rfl | rfl | rfl | rfl
          · simp only [execOp]; go_simp; exact ⟨hC, Below.refl _ _, (by show V 33 _ _; rw [HV.out]; exact rfl)⟩
          · simp only [execOp]; go_simp; exact ⟨hC, Below.refl _ _, (by show V 33 _ _; rw [HV.out]; exact rfl)⟩
          · simp only [execOp]; go_simp; exact ⟨hC, Below.refl _ _, (by show V 33 _ _; rw [HV.out]; exact rfl)⟩
          · simp only [execOp]; go_simp; exact ⟨hC, Below.refl _ _, (by show V 33 _ _; rw [HV.out]; exact rfl)⟩
          · simp only [execOp]; go_simp; exact ⟨hC, Below.refl _ _, (by show V 33 _ _; rw [HV.out]; exact rfl)⟩
        · intro ρ w1 hc hf hg ho hC hV
          have e33 : ρ (.tmp 33) = .string (sufK k) := by have h := hV 33 (by decide) (by decide); rw [HV.out] at h; exact h
          rcases hk5 with rfl | rfl | rfl | rfl | rfl
          · simp only [execOp]; rw [e33]; simp only [sufK]; go_simp; exact ⟨hC, Below.refl _ _, (by show V 34 _ _; rw [HV.out]; exact rfl)⟩
          · simp only [execOp]; rw [e33]; simp only [sufK]; go_simp; exact ⟨hC, Below.refl _ _, (by show V 34 _ _; rw [HV.out]; exact rfl)⟩
          · simp only [execOp]; rw [e33]; simp only [sufK]; go_simp; exact ⟨hC, Below.refl _ _, (by show V 34 _ _; rw [HV.out]; exact rfl)⟩
          · simp only [execOp]; rw [e33]; simp only [sufK]; go_simp; exact ⟨hC, Below.refl _ _, (by show V 34 _ _; rw [HV.out]; exact rfl)⟩
          · simp only [execOp]; rw [e33]; simp only [sufK]; go_simp; exact ⟨hC, Below.refl _ _, (by show V 34 _ _; rw [HV.out]; exact rfl)⟩
        · intro ρ w1 hc hf hg ho hC hV
          have e34 : ρ (.tmp 34) = .string (lt k) := by have h := hV 34 (by decide) (by decide); rw [HV.out] at h; exact h
          simp only [execOp]
          go_simp
          exact ⟨hC, Below.refl _ _, (by show V 35 _ _; rw [HV.out]; exact rfl)⟩
        · intro ρ w1 hc hf hg ho hC hV
          have e35 : ρ (.tmp 35) = .agg #[.string (lt k), .complex .f64 4607182418800017408 0] := by have h := hV 35 (by decide) (by decide); rw [HV.out] at h; exact h
          simp only [execOp]
          go_simp
          exact ⟨below_alloc hC _, below_alloc (Below.refl _ _) _, (by show V 36 _ _; rw [HV.out]; exact ⟨_, rfl, blk_new _ _⟩)⟩
        · intro ρ w1 hc hf hg ho hC hV
          have e30 : ρ (.tmp 30) = .string (fg k) := by have h := hV 30 (by decide) (by decide); rw [HV.out] at h; exact h
          have e31 : ρ (.tmp 31) = .int .i64 k := by have h := hV 31 (by decide) (by decide); rw [HV.out] at h; exact h
          have e36 : QSpec.holds (.row 1 50 [.string (lt k), .complex .f64 4607182418800017408 0]) (ρ (.tmp 36)) w1 := by have h := hV 36 (by decide) (by decide); rw [HV.out] at h; exact h
          obtain ⟨g36, e36, h36⟩ := e36
          simp only [execOp]
          go_simp
          exact ⟨hC, Below.refl _ _, (by show V 37 _ _; rw [HV.out]; exact ⟨_, rfl, _, rfl, h36⟩)⟩
        · intro ρ w1 hc hf hg ho hC hV
          have e37 : QSpec.holds (.with (.row 1 50 [.string (lt k), .complex .f64 4607182418800017408 0]) (fun u => .agg #[.string (fg k), .string ⟨#[120]⟩, .int .i64 k, u])) (ρ (.tmp 37)) w1 := by have h := hV 37 (by decide) (by decide); rw [HV.out] at h; exact h
          obtain ⟨u37, e37, g37, eu37, h37⟩ := e37
          subst eu37
          dsimp only at e37
          simp only [execOp]
          go_simp
          exact ⟨below_alloc hC _, below_alloc (Below.refl _ _) _, (by show V 38 _ _; rw [HV.out]; exact ⟨_, _, rfl, blk_new _ _, _, rfl, blk_below h37 (below_alloc (Below.refl _ _) _)⟩)⟩
      · intro σ w1 hC hV
        have v25 : σ 25 = .slice A2 k cp2 := by have h := hV 25 (by decide); rw [HV.out] at h; exact h
        have v38 : QSpec.holds (.rowOf 1 52 (.row 1 50 [.string (lt k), .complex .f64 4607182418800017408 0]) (fun u => [.string (fg k), .string ⟨#[120]⟩, .int .i64 k, u])) (σ 38) w1 := by have h := hV 38 (by decide); rw [HV.out] at h; exact h
        clear hV HV V
        dsimp only [headDsts, List.take, List.drop, List.filterMap, putAll, Act.put]
        obtain ⟨g38, u38, v38, h38, g39, eu38, h39⟩ := v38
        subst eu38
        have hb3 := below_step hb hC
        have hown3 := Lib.hid (own_below hownH.out hC)
        have hlaid3 := Lib.hid (hlaidH.out.below hC)
        have h38H := Lib.hid h38
        have h39H := Lib.hid h39
        clear hC hownH hlaidH hb h38 h39 hk5
        rw [v25, v38]
        clear v25 v38
        go_simp
        go_wp2_with (at_builtin; refine app_far (w0 := w) (W := w1) w.heap.size rfl _ _ 46 52 (.agg #[.string ⟨#[]⟩, .string ⟨#[]⟩, .int .i64 0, .slice none 0 0]) 4 64 rfl Try.underlying46 info52 rfl (by decide) (by decide) (.slice A2 k cp2) k ((ents G).flatMap Entry.cells) [.string (fg k), .string ⟨#[120]⟩, .int .i64 k, .slice (some ⟨g39, 0, none⟩) 1 1] (by rfl) g38 (by rfl) h38H.out rfl (by simp [Value.oneCell']) hown3.out hb3 (below_size hb3) (by omega) ?_; intro v1 w5 hown5 hb5 hg5 hat5)
        go_roundw
        case rel =>
          refine ⟨k + 1, G ++ [g39], by omega, by simp [hGlH.out], by go_num, hb5, ?_, ?_⟩
          · rw [ents_snoc, flat_snoc, hGlH.out]; exact hown5
          · refine LaidAt.snoc (fun i g hg => blk_grown (hlaid3.out i g hg) hown3.out (by decide) hg5) ?_
            rw [hGlH.out]; exact blk_grown h39H.out hown3.out (by decide) hg5
        case measure => simp [intOf]; omega
    · have hkm : k = m := by omega
      subst hkm
      have hGm := hGlH.out
      obtain ⟨cells_, hrow⟩ := own_rowOf (cells := Entry.cells) (fun _ => rfl) (by decide) hownH.out
      have hent : Hid (EntriesAt wr (A2) (ents G)) := ⟨hrow, hlaidH.out.items⟩
      clear hrow cells_ hownH hlaidH hlt hk
      subst hGm
      clear hGlH
      go_wp2_with fail
      have hOA := of_all A2 cp2 0 (ents G) (by rw [ents_length]; omega) _ (rows_ents G hm5) (by rw [List.length_map, List.length_range]; omega) ⟨#[102]⟩ 27 okL st27 call27 tells27 (rows_ok _ hm5) wr hent.out
      rw [ents_length] at hOA
      refine hOA.mono ?_
      clear hOA
      rintro e w1 ⟨v1, rfl, hown, hb1⟩
      rw [ofAll_rows _ hm5] at hown
      obtain ⟨AM, cM, hvM⟩ := own_slice hown
      subst hvM
      have hrowM := Lib.hid (own_rowOf (cells := Msg.cells) (fun _ => rfl) (by decide) hown).2
      have hent1 := Lib.hid (hent.out.below hb1)
      have hbw := below_step hb hb1
      clear hown hent hb hb1
      obtain ⟨m, hm⟩ : ∃ m, m = G.length := ⟨_, rfl⟩
      have hmG := Lib.hid hm
      rw [← hm] at hm5 hrowM ⊢
      obtain ⟨h, hh⟩ : ∃ h, h = (m + 1) / 2 := ⟨_, rfl⟩
      rw [← hh] at hrowM ⊢
      simp only [List.length_map, List.length_range]
      have hq : ((h : Int) != ((m : Int) + 1) / 2) = false := by
        have : m = 0 ∨ m = 1 ∨ m = 2 ∨ m = 3 ∨ m = 4 ∨ m = 5 := by omega
        subst hh
        rcases this with rfl | rfl | rfl | rfl | rfl | rfl <;> rfl
      have hh3 : h ≤ 3 := by omega
      clear hm hh
      go_wp2_with fail
      go_loopw [51] (fun i wr => CkRel w1 h i wr) (fun i _ => h - (intOf i).toNat)
      case atStart => exact ⟨0, Nat.zero_le _, rfl, Below.refl _ _⟩
      case round =>
        clear hq
        obtain ⟨k, hk, rfl, hb2⟩ := hrel
        by_cases hlt : k < h
        · have hx : ((List.range h).map saidI)[k]? = some (saidI k) := by rw [List.getElem?_map, List.getElem?_range hlt]; rfl
          obtain ⟨b, o, hA0, hcs⟩ := hrowM.out (by rw [List.length_map, List.length_range]; omega)
          subst hA0
          have hc : ∀ (j : Nat) (u : Value), (saidI k).cells[j]? = some u → wr.cell? ⟨b, o + k * 9 + j, none⟩ = some u := fun j u hu => cell_below hb2 (hcs k _ hx j u hu)
          clear hx hcs
          have hk3 : k = 0 ∨ k = 1 ∨ k = 2 := by omega
          rcases hk3 with rfl | rfl | rfl
          · have c0 : wr.cell? ⟨b, o, none⟩ = some (.int .i64 12) := hc 0 _ rfl
            have c1 : wr.cell? ⟨b, o + 1, none⟩ = some (.string ⟨#[102]⟩) := hc 1 _ rfl
            have c2 : wr.cell? ⟨b, o + 2, none⟩ = some (.string ⟨#[]⟩) := hc 2 _ rfl
            have c3 : wr.cell? ⟨b, o + 3, none⟩ = some (.string ⟨#[97]⟩) := hc 3 _ rfl
            have c4 : wr.cell? ⟨b, o + 4, none⟩ = some (.int .i64 0) := hc 4 _ rfl
            have c5 : wr.cell? ⟨b, o + 5, none⟩ = some (.int .i64 1) := hc 5 _ rfl
            have c6 : wr.cell? ⟨b, o + 6, none⟩ = some (.int .i64 0) := hc 6 _ rfl
            have c7 : wr.cell? ⟨b, o + 7, none⟩ = some (.int .i64 0) := hc 7 _ rfl
            have c8 : wr.cell? ⟨b, o + 8, none⟩ = some (.slice none 0 0) := hc 8 _ rfl
            clear hc
            go_wp2_with fail
            generalize hW2 : wr.alloc _ = W2
            have p0 : W2.cell? ⟨wr.heap.size, 0, none⟩ = some (.int .i64 12) := by rw [← hW2, cell_new]; rfl
            have p1 : W2.cell? ⟨wr.heap.size, 1, none⟩ = some (.string ⟨#[102]⟩) := by rw [← hW2, cell_new]; rfl
            have p2 : W2.cell? ⟨wr.heap.size, 2, none⟩ = some (.string ⟨#[]⟩) := by rw [← hW2, cell_new]; rfl
            have p3 : W2.cell? ⟨wr.heap.size, 3, none⟩ = some (.string ⟨#[97]⟩) := by rw [← hW2, cell_new]; rfl
            have p5 : W2.cell? ⟨wr.heap.size, 5, none⟩ = some (.int .i64 1) := by rw [← hW2, cell_new]; rfl
            have p6 : W2.cell? ⟨wr.heap.size, 6, none⟩ = some (.int .i64 0) := by rw [← hW2, cell_new]; rfl
            have hb3 : Below w1.heap.size w1 W2 := by rw [← hW2]; exact below_alloc hb2 _
            clear hW2 c0 c1 c2 c3 c4 c5 c6 c7 c8 hb2
            obtain ⟨V, HV⟩ : ∃ V : Tmp → Value → World → Prop, Hid (V = fun sl_ v_ w_ => match sl_ with | 56 => v_ = .pointer (some ⟨wr.heap.size, 0, none⟩) | 57 => v_ = .int .i64 12 | 58 => v_ = .bool false | 59 => v_ = .bool false | 60 => v_ = .pointer (some ⟨wr.heap.size, 1, none⟩) | 61 => v_ = .string ⟨#[102]⟩ | 62 => v_ = .bool false | 63 => v_ = .bool false | 64 => v_ = .bool false | 65 => v_ = .pointer (some ⟨wr.heap.size, 3, none⟩) | 66 => v_ = .string ⟨#[97]⟩ | 67 => v_ = .int .i64 0 | 68 => v_ = .int .i64 0 | 69 => v_ = .string ⟨#[97, 98, 99, 100, 101, 102]⟩ | 70 => v_ = .string ⟨#[97]⟩ | 71 => v_ = .bool false | 72 => v_ = .bool false | 73 => v_ = .bool false | 74 => v_ = .pointer (some ⟨wr.heap.size, 5, none⟩) | 75 => v_ = .int .i64 1 | 76 => v_ = .int .i64 0 | 77 => v_ = .int .i64 0 | 78 => v_ = .int .i64 1 | 79 => v_ = .bool false | 80 => v_ = .bool false | 81 => v_ = .bool false | 82 => v_ = .pointer (some ⟨wr.heap.size, 2, none⟩) | 83 => v_ = .string ⟨#[]⟩ | 84 => v_ = .bool false | 85 => v_ = .bool false | 86 => v_ = .bool false | 87 => v_ = .pointer (some ⟨wr.heap.size, 6, none⟩) | 88 => v_ = .int .i64 0 | 89 => v_ = .bool false | 90 => v_ = .bool false | _ => True) := ⟨_, rfl⟩
            refine wp_region_loose (Below W2.heap.size W2 ·) (fun _ _ => True) V (by kernel_rfl) (by kernel_rfl) (by kernel_rfl) (Below.refl _ _).drew (fun _ => trivial) ?_ ?_ ?_
            · intro t v w w' hC hR h
              rw [HV.out] at h ⊢
              exact h
            · go_light
              simp only [List.forall_mem_cons]
              refine ⟨?_, ?_, ?_, ?_, ?_, ?_, ?_, ?_, ?_, ?_, ?_, ?_, ?_, ?_, ?_, ?_, ?_, ?_, ?_, ?_, ?_, ?_, ?_, ?_, ?_, ?_, ?_, ?_, ?_, ?_, ?_, ?_, ?_, ?_, ?_, fun _ h => by cases h⟩
              · intro ρ w1 hc hf hg ho hC hV
                have e10 := ho 10 (by decide)
                simp only [execOp]
                go_simp
                exact ⟨hC, trivial, (by show V 56 _ _; rw [HV.out]; exact rfl)⟩
              · intro ρ w1 hc hf hg ho hC hV
                have e56 : ρ (.tmp 56) = .pointer (some ⟨wr.heap.size, 0, none⟩) := by have h := hV 56 (by decide) (by decide); rw [HV.out] at h; exact h
                have p0' := cell_below hC p0
                simp only [execOp]
                go_simp
                exact ⟨hC, trivial, (by show V 57 _ _; rw [HV.out]; exact rfl)⟩
              · intro ρ w1 hc hf hg ho hC hV
                have e57 : ρ (.tmp 57) = .int .i64 12 := by have h := hV 57 (by decide) (by decide); rw [HV.out] at h; exact h
                simp only [execOp]
                go_simp
                exact ⟨hC, trivial, (by show V 58 _ _; rw [HV.out]; exact rfl)⟩
              · intro ρ w1 hc hf hg ho hC hV
                have e58 : ρ (.tmp 58) = .bool false := by have h := hV 58 (by decide) (by decide); rw [HV.out] at h; exact h
                simp only [execOp]
                go_simp
                exact ⟨hC, trivial, (by show V 59 _ _; rw [HV.out]; exact rfl)⟩
              · intro ρ w1 hc hf hg ho hC hV
                refine ⟨59, _, rfl, by have h := hV 59 (by decide) (by decide); rw [HV.out] at h; exact h, ?_⟩
                rw [if_pos rfl]
                have e10 := ho 10 (by decide)
                simp only [execOp]
                go_simp
                exact ⟨hC, trivial, (by show V 60 _ _; rw [HV.out]; exact rfl)⟩
              · intro ρ w1 hc hf hg ho hC hV
                refine ⟨59, _, rfl, by have h := hV 59 (by decide) (by decide); rw [HV.out] at h; exact h, ?_⟩
                rw [if_pos rfl]
                have e60 : ρ (.tmp 60) = .pointer (some ⟨wr.heap.size, 1, none⟩) := by have h := hV 60 (by decide) (by decide); rw [HV.out] at h; exact h
                have p1' := cell_below hC p1
                simp only [execOp]
                go_simp
                exact ⟨hC, trivial, (by show V 61 _ _; rw [HV.out]; exact rfl)⟩
              · intro ρ w1 hc hf hg ho hC hV
                refine ⟨59, _, rfl, by have h := hV 59 (by decide) (by decide); rw [HV.out] at h; exact h, ?_⟩
                rw [if_pos rfl]
                have e61 : ρ (.tmp 61) = .string ⟨#[102]⟩ := by have h := hV 61 (by decide) (by decide); rw [HV.out] at h; exact h
                simp only [execOp]
                go_simp
                exact ⟨hC, trivial, (by show V 62 _ _; rw [HV.out]; exact rfl)⟩
              · intro ρ w1 hc hf hg ho hC hV
                have e59 : ρ (.tmp 59) = .bool false := by have h := hV 59 (by decide) (by decide); rw [HV.out] at h; exact h
                have e62 : ρ (.tmp 62) = .bool false := by have h := hV 62 (by decide) (by decide); rw [HV.out] at h; exact h
                simp only [execOp]
                go_simp
                exact ⟨hC, trivial, (by show V 63 _ _; rw [HV.out]; exact rfl)⟩
              · intro ρ w1 hc hf hg ho hC hV
                have e63 : ρ (.tmp 63) = .bool false := by have h := hV 63 (by decide) (by decide); rw [HV.out] at h; exact h
                simp only [execOp]
                go_simp
                exact ⟨hC, trivial, (by show V 64 _ _; rw [HV.out]; exact rfl)⟩
              · intro ρ w1 hc hf hg ho hC hV
                refine ⟨64, _, rfl, by have h := hV 64 (by decide) (by decide); rw [HV.out] at h; exact h, ?_⟩
                rw [if_pos rfl]
                have e10 := ho 10 (by decide)
                simp only [execOp]
                go_simp
                exact ⟨hC, trivial, (by show V 65 _ _; rw [HV.out]; exact rfl)⟩
              · intro ρ w1 hc hf hg ho hC hV
                refine ⟨64, _, rfl, by have h := hV 64 (by decide) (by decide); rw [HV.out] at h; exact h, ?_⟩
                rw [if_pos rfl]
                have e65 : ρ (.tmp 65) = .pointer (some ⟨wr.heap.size, 3, none⟩) := by have h := hV 65 (by decide) (by decide); rw [HV.out] at h; exact h
                have p3' := cell_below hC p3
                simp only [execOp]
                go_simp
                exact ⟨hC, trivial, (by show V 66 _ _; rw [HV.out]; exact rfl)⟩
              · intro ρ w1 hc hf hg ho hC hV
                refine ⟨64, _, rfl, by have h := hV 64 (by decide) (by decide); rw [HV.out] at h; exact h, ?_⟩
                rw [if_pos rfl]
                have e9 := ho 9 (by decide)
                simp only [execOp]
                go_simp
                exact ⟨hC, trivial, (by show V 67 _ _; rw [HV.out]; exact rfl)⟩
              · intro ρ w1 hc hf hg ho hC hV
                refine ⟨64, _, rfl, by have h := hV 64 (by decide) (by decide); rw [HV.out] at h; exact h, ?_⟩
                rw [if_pos rfl]
                have e67 : ρ (.tmp 67) = .int .i64 0 := by have h := hV 67 (by decide) (by decide); rw [HV.out] at h; exact h
                simp only [execOp]
                go_simp
                exact ⟨hC, trivial, (by show V 68 _ _; rw [HV.out]; exact rfl)⟩
              · intro ρ w1 hc hf hg ho hC hV
                refine ⟨64, _, rfl, by have h := hV 64 (by decide) (by decide); rw [HV.out] at h; exact h, ?_⟩
                rw [if_pos rfl]
                have e68 : ρ (.tmp 68) = .int .i64 0 := by have h := hV 68 (by decide) (by decide); rw [HV.out] at h; exact h
                simp only [execOp]
                go_simp
                exact ⟨hC, trivial, (by show V 69 _ _; rw [HV.out]; exact rfl)⟩
              · intro ρ w1 hc hf hg ho hC hV
                refine ⟨64, _, rfl, by have h := hV 64 (by decide) (by decide); rw [HV.out] at h; exact h, ?_⟩
                rw [if_pos rfl]
                have e69 : ρ (.tmp 69) = .string ⟨#[97, 98, 99, 100, 101, 102]⟩ := by have h := hV 69 (by decide) (by decide); rw [HV.out] at h; exact h
                simp only [execOp]
                go_simp
                exact ⟨hC, trivial, (by show V 70 _ _; rw [HV.out]; exact rfl)⟩
              · intro ρ w1 hc hf hg ho hC hV
                refine ⟨64, _, rfl, by have h := hV 64 (by decide) (by decide); rw [HV.out] at h; exact h, ?_⟩
                rw [if_pos rfl]
                have e66 : ρ (.tmp 66) = .string ⟨#[97]⟩ := by have h := hV 66 (by decide) (by decide); rw [HV.out] at h; exact h
                have e70 : ρ (.tmp 70) = .string ⟨#[97]⟩ := by have h := hV 70 (by decide) (by decide); rw [HV.out] at h; exact h
                simp only [execOp]
                go_simp
                exact ⟨hC, trivial, (by show V 71 _ _; rw [HV.out]; exact rfl)⟩
              · intro ρ w1 hc hf hg ho hC hV
                have e64 : ρ (.tmp 64) = .bool false := by have h := hV 64 (by decide) (by decide); rw [HV.out] at h; exact h
                have e71 : ρ (.tmp 71) = .bool false := by have h := hV 71 (by decide) (by decide); rw [HV.out] at h; exact h
                simp only [execOp]
                go_simp
                exact ⟨hC, trivial, (by show V 72 _ _; rw [HV.out]; exact rfl)⟩
              · intro ρ w1 hc hf hg ho hC hV
                have e72 : ρ (.tmp 72) = .bool false := by have h := hV 72 (by decide) (by decide); rw [HV.out] at h; exact h
                simp only [execOp]
                go_simp
                exact ⟨hC, trivial, (by show V 73 _ _; rw [HV.out]; exact rfl)⟩
              · intro ρ w1 hc hf hg ho hC hV
                refine ⟨73, _, rfl, by have h := hV 73 (by decide) (by decide); rw [HV.out] at h; exact h, ?_⟩
                rw [if_pos rfl]
                have e10 := ho 10 (by decide)
                simp only [execOp]
                go_simp
                exact ⟨hC, trivial, (by show V 74 _ _; rw [HV.out]; exact rfl)⟩
              · intro ρ w1 hc hf hg ho hC hV
                refine ⟨73, _, rfl, by have h := hV 73 (by decide) (by decide); rw [HV.out] at h; exact h, ?_⟩
                rw [if_pos rfl]
                have e74 : ρ (.tmp 74) = .pointer (some ⟨wr.heap.size, 5, none⟩) := by have h := hV 74 (by decide) (by decide); rw [HV.out] at h; exact h
                have p5' := cell_below hC p5
                simp only [execOp]
                go_simp
                exact ⟨hC, trivial, (by show V 75 _ _; rw [HV.out]; exact rfl)⟩
              · intro ρ w1 hc hf hg ho hC hV
                refine ⟨73, _, rfl, by have h := hV 73 (by decide) (by decide); rw [HV.out] at h; exact h, ?_⟩
                rw [if_pos rfl]
                have e9 := ho 9 (by decide)
                simp only [execOp]
                go_simp
                exact ⟨hC, trivial, (by show V 76 _ _; rw [HV.out]; exact rfl)⟩
              · intro ρ w1 hc hf hg ho hC hV
                refine ⟨73, _, rfl, by have h := hV 73 (by decide) (by decide); rw [HV.out] at h; exact h, ?_⟩
                rw [if_pos rfl]
                have e76 : ρ (.tmp 76) = .int .i64 0 := by have h := hV 76 (by decide) (by decide); rw [HV.out] at h; exact h
                simp only [execOp]
                go_simp
                exact ⟨hC, trivial, (by show V 77 _ _; rw [HV.out]; exact rfl)⟩
              · intro ρ w1 hc hf hg ho hC hV
                refine ⟨73, _, rfl, by have h := hV 73 (by decide) (by decide); rw [HV.out] at h; exact h, ?_⟩
                rw [if_pos rfl]
                have e77 : ρ (.tmp 77) = .int .i64 0 := by have h := hV 77 (by decide) (by decide); rw [HV.out] at h; exact h
                simp only [execOp]
                go_simp
                exact ⟨hC, trivial, (by show V 78 _ _; rw [HV.out]; exact rfl)⟩
              · intro ρ w1 hc hf hg ho hC hV
                refine ⟨73, _, rfl, by have h := hV 73 (by decide) (by decide); rw [HV.out] at h; exact h, ?_⟩
                rw [if_pos rfl]
                have e75 : ρ (.tmp 75) = .int .i64 1 := by have h := hV 75 (by decide) (by decide); rw [HV.out] at h; exact h
                have e78 : ρ (.tmp 78) = .int .i64 1 := by have h := hV 78 (by decide) (by decide); rw [HV.out] at h; exact h
                simp only [execOp]
                go_simp
                exact ⟨hC, trivial, (by show V 79 _ _; rw [HV.out]; exact rfl)⟩
              · intro ρ w1 hc hf hg ho hC hV
                have e73 : ρ (.tmp 73) = .bool false := by have h := hV 73 (by decide) (by decide); rw [HV.out] at h; exact h
                have e79 : ρ (.tmp 79) = .bool false := by have h := hV 79 (by decide) (by decide); rw [HV.out] at h; exact h
                simp only [execOp]
                go_simp
                exact ⟨hC, trivial, (by show V 80 _ _; rw [HV.out]; exact rfl)⟩
              · intro ρ w1 hc hf hg ho hC hV
                have e80 : ρ (.tmp 80) = .bool false := by have h := hV 80 (by decide) (by decide); rw [HV.out] at h; exact h
                simp only [execOp]
                go_simp
                exact ⟨hC, trivial, (by show V 81 _ _; rw [HV.out]; exact rfl)⟩
              · intro ρ w1 hc hf hg ho hC hV
                refine ⟨81, _, rfl, by have h := hV 81 (by decide) (by decide); rw [HV.out] at h; exact h, ?_⟩
                rw [if_pos rfl]
                have e10 := ho 10 (by decide)
                simp only [execOp]
                go_simp
                exact ⟨hC, trivial, (by show V 82 _ _; rw [HV.out]; exact rfl)⟩
              · intro ρ w1 hc hf hg ho hC hV
                refine ⟨81, _, rfl, by have h := hV 81 (by decide) (by decide); rw [HV.out] at h; exact h, ?_⟩
                rw [if_pos rfl]
                have e82 : ρ (.tmp 82) = .pointer (some ⟨wr.heap.size, 2, none⟩) := by have h := hV 82 (by decide) (by decide); rw [HV.out] at h; exact h
                have p2' := cell_below hC p2
                simp only [execOp]
                go_simp
                exact ⟨hC, trivial, (by show V 83 _ _; rw [HV.out]; exact rfl)⟩
              · intro ρ w1 hc hf hg ho hC hV
                refine ⟨81, _, rfl, by have h := hV 81 (by decide) (by decide); rw [HV.out] at h; exact h, ?_⟩
                rw [if_pos rfl]
                have e83 : ρ (.tmp 83) = .string ⟨#[]⟩ := by have h := hV 83 (by decide) (by decide); rw [HV.out] at h; exact h
                simp only [execOp]
                go_simp
                exact ⟨hC, trivial, (by show V 84 _ _; rw [HV.out]; exact rfl)⟩
              · intro ρ w1 hc hf hg ho hC hV
                have e81 : ρ (.tmp 81) = .bool false := by have h := hV 81 (by decide) (by decide); rw [HV.out] at h; exact h
                have e84 : ρ (.tmp 84) = .bool false := by have h := hV 84 (by decide) (by decide); rw [HV.out] at h; exact h
                simp only [execOp]
                go_simp
                exact ⟨hC, trivial, (by show V 85 _ _; rw [HV.out]; exact rfl)⟩
              · intro ρ w1 hc hf hg ho hC hV
                have e85 : ρ (.tmp 85) = .bool false := by have h := hV 85 (by decide) (by decide); rw [HV.out] at h; exact h
                simp only [execOp]
                go_simp
                exact ⟨hC, trivial, (by show V 86 _ _; rw [HV.out]; exact rfl)⟩
              · intro ρ w1 hc hf hg ho hC hV
                refine ⟨86, _, rfl, by have h := hV 86 (by decide) (by decide); rw [HV.out] at h; exact h, ?_⟩
                rw [if_pos rfl]
                have e10 := ho 10 (by decide)
                simp only [execOp]
                go_simp
                exact ⟨hC, trivial, (by show V 87 _ _; rw [HV.out]; exact rfl)⟩
              · intro ρ w1 hc hf hg ho hC hV
                refine ⟨86, _, rfl, by have h := hV 86 (by decide) (by decide); rw [HV.out] at h; exact h, ?_⟩
                rw [if_pos rfl]
                have e87 : ρ (.tmp 87) = .pointer (some ⟨wr.heap.size, 6, none⟩) := by have h := hV 87 (by decide) (by decide); rw [HV.out] at h; exact h
                have p6' := cell_below hC p6
                simp only [execOp]
                go_simp
                exact ⟨hC, trivial, (by show V 88 _ _; rw [HV.out]; exact rfl)⟩
              · intro ρ w1 hc hf hg ho hC hV
                refine ⟨86, _, rfl, by have h := hV 86 (by decide) (by decide); rw [HV.out] at h; exact h, ?_⟩
                rw [if_pos rfl]
                have e88 : ρ (.tmp 88) = .int .i64 0 := by have h := hV 88 (by decide) (by decide); rw [HV.out] at h; exact h
                simp only [execOp]
                go_simp
                exact ⟨hC, trivial, (by show V 89 _ _; rw [HV.out]; exact rfl)⟩
              · intro ρ w1 hc hf hg ho hC hV
                have e86 : ρ (.tmp 86) = .bool false := by have h := hV 86 (by decide) (by decide); rw [HV.out] at h; exact h
                have e89 : ρ (.tmp 89) = .bool false := by have h := hV 89 (by decide) (by decide); rw [HV.out] at h; exact h
                simp only [execOp]
                go_simp
                exact ⟨hC, trivial, (by show V 90 _ _; rw [HV.out]; exact rfl)⟩
            · intro σ w1 hC hV
              have v56 : σ 56 = .pointer (some ⟨wr.heap.size, 0, none⟩) := by have h := hV 56 (by decide); rw [HV.out] at h; exact h
              have v57 : σ 57 = .int .i64 12 := by have h := hV 57 (by decide); rw [HV.out] at h; exact h
              have v58 : σ 58 = .bool false := by have h := hV 58 (by decide); rw [HV.out] at h; exact h
              have v59 : σ 59 = .bool false := by have h := hV 59 (by decide); rw [HV.out] at h; exact h
              have v60 : σ 60 = .pointer (some ⟨wr.heap.size, 1, none⟩) := by have h := hV 60 (by decide); rw [HV.out] at h; exact h
              have v61 : σ 61 = .string ⟨#[102]⟩ := by have h := hV 61 (by decide); rw [HV.out] at h; exact h
              have v62 : σ 62 = .bool false := by have h := hV 62 (by decide); rw [HV.out] at h; exact h
              have v63 : σ 63 = .bool false := by have h := hV 63 (by decide); rw [HV.out] at h; exact h
              have v64 : σ 64 = .bool false := by have h := hV 64 (by decide); rw [HV.out] at h; exact h
              have v65 : σ 65 = .pointer (some ⟨wr.heap.size, 3, none⟩) := by have h := hV 65 (by decide); rw [HV.out] at h; exact h
              have v66 : σ 66 = .string ⟨#[97]⟩ := by have h := hV 66 (by decide); rw [HV.out] at h; exact h
              have v67 : σ 67 = .int .i64 0 := by have h := hV 67 (by decide); rw [HV.out] at h; exact h
              have v68 : σ 68 = .int .i64 0 := by have h := hV 68 (by decide); rw [HV.out] at h; exact h
              have v69 : σ 69 = .string ⟨#[97, 98, 99, 100, 101, 102]⟩ := by have h := hV 69 (by decide); rw [HV.out] at h; exact h
              have v70 : σ 70 = .string ⟨#[97]⟩ := by have h := hV 70 (by decide); rw [HV.out] at h; exact h
              have v71 : σ 71 = .bool false := by have h := hV 71 (by decide); rw [HV.out] at h; exact h
              have v72 : σ 72 = .bool false := by have h := hV 72 (by decide); rw [HV.out] at h; exact h
              have v73 : σ 73 = .bool false := by have h := hV 73 (by decide); rw [HV.out] at h; exact h
              have v74 : σ 74 = .pointer (some ⟨wr.heap.size, 5, none⟩) := by have h := hV 74 (by decide); rw [HV.out] at h; exact h
              have v75 : σ 75 = .int .i64 1 := by have h := hV 75 (by decide); rw [HV.out] at h; exact h
              have v76 : σ 76 = .int .i64 0 := by have h := hV 76 (by decide); rw [HV.out] at h; exact h
              have v77 : σ 77 = .int .i64 0 := by have h := hV 77 (by decide); rw [HV.out] at h; exact h
              have v78 : σ 78 = .int .i64 1 := by have h := hV 78 (by decide); rw [HV.out] at h; exact h
              have v79 : σ 79 = .bool false := by have h := hV 79 (by decide); rw [HV.out] at h; exact h
              have v80 : σ 80 = .bool false := by have h := hV 80 (by decide); rw [HV.out] at h; exact h
              have v81 : σ 81 = .bool false := by have h := hV 81 (by decide); rw [HV.out] at h; exact h
              have v82 : σ 82 = .pointer (some ⟨wr.heap.size, 2, none⟩) := by have h := hV 82 (by decide); rw [HV.out] at h; exact h
              have v83 : σ 83 = .string ⟨#[]⟩ := by have h := hV 83 (by decide); rw [HV.out] at h; exact h
              have v84 : σ 84 = .bool false := by have h := hV 84 (by decide); rw [HV.out] at h; exact h
              have v85 : σ 85 = .bool false := by have h := hV 85 (by decide); rw [HV.out] at h; exact h
              have v86 : σ 86 = .bool false := by have h := hV 86 (by decide); rw [HV.out] at h; exact h
              have v87 : σ 87 = .pointer (some ⟨wr.heap.size, 6, none⟩) := by have h := hV 87 (by decide); rw [HV.out] at h; exact h
              have v88 : σ 88 = .int .i64 0 := by have h := hV 88 (by decide); rw [HV.out] at h; exact h
              have v89 : σ 89 = .bool false := by have h := hV 89 (by decide); rw [HV.out] at h; exact h
              have v90 : σ 90 = .bool false := by have h := hV 90 (by decide); rw [HV.out] at h; exact h
              clear hV HV V
              dsimp only [dsts, List.filterMap, putAll, Act.put]
              have hb4 := below_step hb3 hC
              clear hC p0 p1 p2 p3 p5 p6 hb3
              rw [v56, v57, v58, v59, v60, v61, v62, v63, v64, v65, v66, v67, v68, v69, v70, v71, v72, v73, v74, v75, v76, v77, v78, v79, v80, v81, v82, v83, v84, v85, v86, v87, v88, v89, v90]
              clear v56 v57 v58 v59 v60 v61 v62 v63 v64 v65 v66 v67 v68 v69 v70 v71 v72 v73 v74 v75 v76 v77 v78 v79 v80 v81 v82 v83 v84 v85 v86 v87 v88 v89 v90
              go_simp
              go_wp2
              go_roundw
              case rel => exact ⟨0 + 1, by omega, by go_num, hb4⟩
              case measure => simp [intOf]; omega
          · have c0 : wr.cell? ⟨b, o + 9, none⟩ = some (.int .i64 12) := hc 0 _ rfl
            have c1 : wr.cell? ⟨b, o + 10, none⟩ = some (.string ⟨#[102]⟩) := hc 1 _ rfl
            have c2 : wr.cell? ⟨b, o + 11, none⟩ = some (.string ⟨#[]⟩) := hc 2 _ rfl
            have c3 : wr.cell? ⟨b, o + 12, none⟩ = some (.string ⟨#[99]⟩) := hc 3 _ rfl
            have c4 : wr.cell? ⟨b, o + 13, none⟩ = some (.int .i64 0) := hc 4 _ rfl
            have c5 : wr.cell? ⟨b, o + 14, none⟩ = some (.int .i64 3) := hc 5 _ rfl
            have c6 : wr.cell? ⟨b, o + 15, none⟩ = some (.int .i64 0) := hc 6 _ rfl
            have c7 : wr.cell? ⟨b, o + 16, none⟩ = some (.int .i64 0) := hc 7 _ rfl
            have c8 : wr.cell? ⟨b, o + 17, none⟩ = some (.slice none 0 0) := hc 8 _ rfl
            clear hc
            go_wp2_with fail
            generalize hW2 : wr.alloc _ = W2
            have p0 : W2.cell? ⟨wr.heap.size, 0, none⟩ = some (.int .i64 12) := by rw [← hW2, cell_new]; rfl
            have p1 : W2.cell? ⟨wr.heap.size, 1, none⟩ = some (.string ⟨#[102]⟩) := by rw [← hW2, cell_new]; rfl
            have p2 : W2.cell? ⟨wr.heap.size, 2, none⟩ = some (.string ⟨#[]⟩) := by rw [← hW2, cell_new]; rfl
            have p3 : W2.cell? ⟨wr.heap.size, 3, none⟩ = some (.string ⟨#[99]⟩) := by rw [← hW2, cell_new]; rfl
            have p5 : W2.cell? ⟨wr.heap.size, 5, none⟩ = some (.int .i64 3) := by rw [← hW2, cell_new]; rfl
            have p6 : W2.cell? ⟨wr.heap.size, 6, none⟩ = some (.int .i64 0) := by rw [← hW2, cell_new]; rfl
            have hb3 : Below w1.heap.size w1 W2 := by rw [← hW2]; exact below_alloc hb2 _
            clear hW2 c0 c1 c2 c3 c4 c5 c6 c7 c8 hb2
            obtain ⟨V, HV⟩ : ∃ V : Tmp → Value → World → Prop, Hid (V = fun sl_ v_ w_ => match sl_ with | 56 => v_ = .pointer (some ⟨wr.heap.size, 0, none⟩) | 57 => v_ = .int .i64 12 | 58 => v_ = .bool false | 59 => v_ = .bool false | 60 => v_ = .pointer (some ⟨wr.heap.size, 1, none⟩) | 61 => v_ = .string ⟨#[102]⟩ | 62 => v_ = .bool false | 63 => v_ = .bool false | 64 => v_ = .bool false | 65 => v_ = .pointer (some ⟨wr.heap.size, 3, none⟩) | 66 => v_ = .string ⟨#[99]⟩ | 67 => v_ = .int .i64 1 | 68 => v_ = .int .i64 2 | 69 => v_ = .string ⟨#[99, 100, 101, 102]⟩ | 70 => v_ = .string ⟨#[99]⟩ | 71 => v_ = .bool false | 72 => v_ = .bool false | 73 => v_ = .bool false | 74 => v_ = .pointer (some ⟨wr.heap.size, 5, none⟩) | 75 => v_ = .int .i64 3 | 76 => v_ = .int .i64 1 | 77 => v_ = .int .i64 2 | 78 => v_ = .int .i64 3 | 79 => v_ = .bool false | 80 => v_ = .bool false | 81 => v_ = .bool false | 82 => v_ = .pointer (some ⟨wr.heap.size, 2, none⟩) | 83 => v_ = .string ⟨#[]⟩ | 84 => v_ = .bool false | 85 => v_ = .bool false | 86 => v_ = .bool false | 87 => v_ = .pointer (some ⟨wr.heap.size, 6, none⟩) | 88 => v_ = .int .i64 0 | 89 => v_ = .bool false | 90 => v_ = .bool false | _ => True) := ⟨_, rfl⟩
            refine wp_region_loose (Below W2.heap.size W2 ·) (fun _ _ => True) V (by kernel_rfl) (by kernel_rfl) (by kernel_rfl) (Below.refl _ _).drew (fun _ => trivial) ?_ ?_ ?_
            · intro t v w w' hC hR h
              rw [HV.out] at h ⊢
              exact h
            · go_light
              simp only [List.forall_mem_cons]
              refine ⟨?_, ?_, ?_, ?_, ?_, ?_, ?_, ?_, ?_, ?_, ?_, ?_, ?_, ?_, ?_, ?_, ?_, ?_, ?_, ?_, ?_, ?_, ?_, ?_, ?_, ?_, ?_, ?_, ?_, ?_, ?_, ?_, ?_, ?_, ?_, fun _ h => by cases h⟩
              · intro ρ w1 hc hf hg ho hC hV
                have e10 := ho 10 (by decide)
                simp only [execOp]
                go_simp
                exact ⟨hC, trivial, (by show V 56 _ _; rw [HV.out]; exact rfl)⟩
              · intro ρ w1 hc hf hg ho hC hV
                have e56 : ρ (.tmp 56) = .pointer (some ⟨wr.heap.size, 0, none⟩) := by have h := hV 56 (by decide) (by decide); rw [HV.out] at h; exact h
                have p0' := cell_below hC p0
                simp only [execOp]
                go_simp
                exact ⟨hC, trivial, (by show V 57 _ _; rw [HV.out]; exact rfl)⟩
              · intro ρ w1 hc hf hg ho hC hV
                have e57 : ρ (.tmp 57) = .int .i64 12 := by have h := hV 57 (by decide) (by decide); rw [HV.out] at h; exact h
                simp only [execOp]
                go_simp
                exact ⟨hC, trivial, (by show V 58 _ _; rw [HV.out]; exact rfl)⟩
              · intro ρ w1 hc hf hg ho hC hV
                have e58 : ρ (.tmp 58) = .bool false := by have h := hV 58 (by decide) (by decide); rw [HV.out] at h; exact h
                simp only [execOp]
                go_simp
                exact ⟨hC, trivial, (by show V 59 _ _; rw [HV.out]; exact rfl)⟩
              · intro ρ w1 hc hf hg ho hC hV
                refine ⟨59, _, rfl, by have h := hV 59 (by decide) (by decide); rw [HV.out] at h; exact h, ?_⟩
                rw [if_pos rfl]
                have e10 := ho 10 (by decide)
                simp only [execOp]
                go_simp
                exact ⟨hC, trivial, (by show V 60 _ _; rw [HV.out]; exact rfl)⟩
              · intro ρ w1 hc hf hg ho hC hV
                refine ⟨59, _, rfl, by have h := hV 59 (by decide) (by decide); rw [HV.out] at h; exact h, ?_⟩
                rw [if_pos rfl]
                have e60 : ρ (.tmp 60) = .pointer (some ⟨wr.heap.size, 1, none⟩) := by have h := hV 60 (by decide) (by decide); rw [HV.out] at h; exact h
                have p1' := cell_below hC p1
                simp only [execOp]
                go_simp
                exact ⟨hC, trivial, (by show V 61 _ _; rw [HV.out]; exact rfl)⟩
              · intro ρ w1 hc hf hg ho hC hV
                refine ⟨59, _, rfl, by have h := hV 59 (by decide) (by decide); rw [HV.out] at h; exact h, ?_⟩
                rw [if_pos rfl]
                have e61 : ρ (.tmp 61) = .string ⟨#[102]⟩ := by have h := hV 61 (by decide) (by decide); rw [HV.out] at h; exact h
                simp only [execOp]
                go_simp
                exact ⟨hC, trivial, (by show V 62 _ _; rw [HV.out]; exact rfl)⟩
              · intro ρ w1 hc hf hg ho hC hV
                have e59 : ρ (.tmp 59) = .bool false := by have h := hV 59 (by decide) (by decide); rw [HV.out] at h; exact h
                have e62 : ρ (.tmp 62) = .bool false := by have h := hV 62 (by decide) (by decide); rw [HV.out] at h; exact h
                simp only [execOp]
                go_simp
                exact ⟨hC, trivial, (by show V 63 _ _; rw [HV.out]; exact rfl)⟩
              · intro ρ w1 hc hf hg ho hC hV
                have e63 : ρ (.tmp 63) = .bool false := by have h := hV 63 (by decide) (by decide); rw [HV.out] at h; exact h
                simp only [execOp]
                go_simp
                exact ⟨hC, trivial, (by show V 64 _ _; rw [HV.out]; exact rfl)⟩
              · intro ρ w1 hc hf hg ho hC hV
                refine ⟨64, _, rfl, by have h := hV 64 (by decide) (by decide); rw [HV.out] at h; exact h, ?_⟩
                rw [if_pos rfl]
                have e10 := ho 10 (by decide)
                simp only [execOp]
                go_simp
                exact ⟨hC, trivial, (by show V 65 _ _; rw [HV.out]; exact rfl)⟩
              · intro ρ w1 hc hf hg ho hC hV
                refine ⟨64, _, rfl, by have h := hV 64 (by decide) (by decide); rw [HV.out] at h; exact h, ?_⟩
                rw [if_pos rfl]
                have e65 : ρ (.tmp 65) = .pointer (some ⟨wr.heap.size, 3, none⟩) := by have h := hV 65 (by decide) (by decide); rw [HV.out] at h; exact h
                have p3' := cell_below hC p3
                simp only [execOp]
                go_simp
                exact ⟨hC, trivial, (by show V 66 _ _; rw [HV.out]; exact rfl)⟩
              · intro ρ w1 hc hf hg ho hC hV
                refine ⟨64, _, rfl, by have h := hV 64 (by decide) (by decide); rw [HV.out] at h; exact h, ?_⟩
                rw [if_pos rfl]
                have e9 := ho 9 (by decide)
                simp only [execOp]
                go_simp
                exact ⟨hC, trivial, (by show V 67 _ _; rw [HV.out]; exact rfl)⟩
              · intro ρ w1 hc hf hg ho hC hV
                refine ⟨64, _, rfl, by have h := hV 64 (by decide) (by decide); rw [HV.out] at h; exact h, ?_⟩
                rw [if_pos rfl]
                have e67 : ρ (.tmp 67) = .int .i64 1 := by have h := hV 67 (by decide) (by decide); rw [HV.out] at h; exact h
                simp only [execOp]
                go_simp
                exact ⟨hC, trivial, (by show V 68 _ _; rw [HV.out]; exact rfl)⟩
              · intro ρ w1 hc hf hg ho hC hV
                refine ⟨64, _, rfl, by have h := hV 64 (by decide) (by decide); rw [HV.out] at h; exact h, ?_⟩
                rw [if_pos rfl]
                have e68 : ρ (.tmp 68) = .int .i64 2 := by have h := hV 68 (by decide) (by decide); rw [HV.out] at h; exact h
                simp only [execOp]
                go_simp
                exact ⟨hC, trivial, (by show V 69 _ _; rw [HV.out]; exact rfl)⟩
              · intro ρ w1 hc hf hg ho hC hV
                refine ⟨64, _, rfl, by have h := hV 64 (by decide) (by decide); rw [HV.out] at h; exact h, ?_⟩
                rw [if_pos rfl]
                have e69 : ρ (.tmp 69) = .string ⟨#[99, 100, 101, 102]⟩ := by have h := hV 69 (by decide) (by decide); rw [HV.out] at h; exact h
                simp only [execOp]
                go_simp
                exact ⟨hC, trivial, (by show V 70 _ _; rw [HV.out]; exact rfl)⟩
              · intro ρ w1 hc hf hg ho hC hV
                refine ⟨64, _, rfl, by have h := hV 64 (by decide) (by decide); rw [HV.out] at h; exact h, ?_⟩
                rw [if_pos rfl]
                have e66 : ρ (.tmp 66) = .string ⟨#[99]⟩ := by have h := hV 66 (by decide) (by decide); rw [HV.out] at h; exact h
                have e70 : ρ (.tmp 70) = .string ⟨#[99]⟩ := by have h := hV 70 (by decide) (by decide); rw [HV.out] at h; exact h
                simp only [execOp]
                go_simp
                exact ⟨hC, trivial, (by show V 71 _ _; rw [HV.out]; exact rfl)⟩
              · intro ρ w1 hc hf hg ho hC hV
                have e64 : ρ (.tmp 64) = .bool false := by have h := hV 64 (by decide) (by decide); rw [HV.out] at h; exact h
                have e71 : ρ (.tmp 71) = .bool false := by have h := hV 71 (by decide) (by decide); rw [HV.out] at h; exact h
                simp only [execOp]
                go_simp
                exact ⟨hC, trivial, (by show V 72 _ _; rw [HV.out]; exact rfl)⟩
              · intro ρ w1 hc hf hg ho hC hV
                have e72 : ρ (.tmp 72) = .bool false := by have h := hV 72 (by decide) (by decide); rw [HV.out] at h; exact h
                simp only [execOp]
                go_simp
                exact ⟨hC, trivial, (by show V 73 _ _; rw [HV.out]; exact rfl)⟩
              · intro ρ w1 hc hf hg ho hC hV
                refine ⟨73, _, rfl, by have h := hV 73 (by decide) (by decide); rw [HV.out] at h; exact h, ?_⟩
                rw [if_pos rfl]
                have e10 := ho 10 (by decide)
                simp only [execOp]
                go_simp
                exact ⟨hC, trivial, (by show V 74 _ _; rw [HV.out]; exact rfl)⟩
              · intro ρ w1 hc hf hg ho hC hV
                refine ⟨73, _, rfl, by have h := hV 73 (by decide) (by decide); rw [HV.out] at h; exact h, ?_⟩
                rw [if_pos rfl]
                have e74 : ρ (.tmp 74) = .pointer (some ⟨wr.heap.size, 5, none⟩) := by have h := hV 74 (by decide) (by decide); rw [HV.out] at h; exact h
                have p5' := cell_below hC p5
                simp only [execOp]
                go_simp
                exact ⟨hC, trivial, (by show V 75 _ _; rw [HV.out]; exact rfl)⟩
              · intro ρ w1 hc hf hg ho hC hV
                refine ⟨73, _, rfl, by have h := hV 73 (by decide) (by decide); rw [HV.out] at h; exact h, ?_⟩
                rw [if_pos rfl]
                have e9 := ho 9 (by decide)
                simp only [execOp]
                go_simp
                exact ⟨hC, trivial, (by show V 76 _ _; rw [HV.out]; exact rfl)⟩
              · intro ρ w1 hc hf hg ho hC hV
                refine ⟨73, _, rfl, by have h := hV 73 (by decide) (by decide); rw [HV.out] at h; exact h, ?_⟩
                rw [if_pos rfl]
                have e76 : ρ (.tmp 76) = .int .i64 1 := by have h := hV 76 (by decide) (by decide); rw [HV.out] at h; exact h
                simp only [execOp]
                go_simp
                exact ⟨hC, trivial, (by show V 77 _ _; rw [HV.out]; exact rfl)⟩
              · intro ρ w1 hc hf hg ho hC hV
                refine ⟨73, _, rfl, by have h := hV 73 (by decide) (by decide); rw [HV.out] at h; exact h, ?_⟩
                rw [if_pos rfl]
                have e77 : ρ (.tmp 77) = .int .i64 2 := by have h := hV 77 (by decide) (by decide); rw [HV.out] at h; exact h
                simp only [execOp]
                go_simp
                exact ⟨hC, trivial, (by show V 78 _ _; rw [HV.out]; exact rfl)⟩
              · intro ρ w1 hc hf hg ho hC hV
                refine ⟨73, _, rfl, by have h := hV 73 (by decide) (by decide); rw [HV.out] at h; exact h, ?_⟩
                rw [if_pos rfl]
                have e75 : ρ (.tmp 75) = .int .i64 3 := by have h := hV 75 (by decide) (by decide); rw [HV.out] at h; exact h
                have e78 : ρ (.tmp 78) = .int .i64 3 := by have h := hV 78 (by decide) (by decide); rw [HV.out] at h; exact h
                simp only [execOp]
                go_simp
                exact ⟨hC, trivial, (by show V 79 _ _; rw [HV.out]; exact rfl)⟩
              · intro ρ w1 hc hf hg ho hC hV
                have e73 : ρ (.tmp 73) = .bool false := by have h := hV 73 (by decide) (by decide); rw [HV.out] at h; exact h
                have e79 : ρ (.tmp 79) = .bool false := by have h := hV 79 (by decide) (by decide); rw [HV.out] at h; exact h
                simp only [execOp]
                go_simp
                exact ⟨hC, trivial, (by show V 80 _ _; rw [HV.out]; exact rfl)⟩
              · intro ρ w1 hc hf hg ho hC hV
                have e80 : ρ (.tmp 80) = .bool false := by have h := hV 80 (by decide) (by decide); rw [HV.out] at h; exact h
                simp only [execOp]
                go_simp
                exact ⟨hC, trivial, (by show V 81 _ _; rw [HV.out]; exact rfl)⟩
              · intro ρ w1 hc hf hg ho hC hV
                refine ⟨81, _, rfl, by have h := hV 81 (by decide) (by decide); rw [HV.out] at h; exact h, ?_⟩
                rw [if_pos rfl]
                have e10 := ho 10 (by decide)
                simp only [execOp]
                go_simp
                exact ⟨hC, trivial, (by show V 82 _ _; rw [HV.out]; exact rfl)⟩
              · intro ρ w1 hc hf hg ho hC hV
                refine ⟨81, _, rfl, by have h := hV 81 (by decide) (by decide); rw [HV.out] at h; exact h, ?_⟩
                rw [if_pos rfl]
                have e82 : ρ (.tmp 82) = .pointer (some ⟨wr.heap.size, 2, none⟩) := by have h := hV 82 (by decide) (by decide); rw [HV.out] at h; exact h
                have p2' := cell_below hC p2
                simp only [execOp]
                go_simp
                exact ⟨hC, trivial, (by show V 83 _ _; rw [HV.out]; exact rfl)⟩
              · intro ρ w1 hc hf hg ho hC hV
                refine ⟨81, _, rfl, by have h := hV 81 (by decide) (by decide); rw [HV.out] at h; exact h, ?_⟩
                rw [if_pos rfl]
                have e83 : ρ (.tmp 83) = .string ⟨#[]⟩ := by have h := hV 83 (by decide) (by decide); rw [HV.out] at h; exact h
                simp only [execOp]
                go_simp
                exact ⟨hC, trivial, (by show V 84 _ _; rw [HV.out]; exact rfl)⟩
              · intro ρ w1 hc hf hg ho hC hV
                have e81 : ρ (.tmp 81) = .bool false := by have h := hV 81 (by decide) (by decide); rw [HV.out] at h; exact h
                have e84 : ρ (.tmp 84) = .bool false := by have h := hV 84 (by decide) (by decide); rw [HV.out] at h; exact h
                simp only [execOp]
                go_simp
                exact ⟨hC, trivial, (by show V 85 _ _; rw [HV.out]; exact rfl)⟩
              · intro ρ w1 hc hf hg ho hC hV
                have e85 : ρ (.tmp 85) = .bool false := by have h := hV 85 (by decide) (by decide); rw [HV.out] at h; exact h
                simp only [execOp]
                go_simp
                exact ⟨hC, trivial, (by show V 86 _ _; rw [HV.out]; exact rfl)⟩
              · intro ρ w1 hc hf hg ho hC hV
                refine ⟨86, _, rfl, by have h := hV 86 (by decide) (by decide); rw [HV.out] at h; exact h, ?_⟩
                rw [if_pos rfl]
                have e10 := ho 10 (by decide)
                simp only [execOp]
                go_simp
                exact ⟨hC, trivial, (by show V 87 _ _; rw [HV.out]; exact rfl)⟩
              · intro ρ w1 hc hf hg ho hC hV
                refine ⟨86, _, rfl, by have h := hV 86 (by decide) (by decide); rw [HV.out] at h; exact h, ?_⟩
                rw [if_pos rfl]
                have e87 : ρ (.tmp 87) = .pointer (some ⟨wr.heap.size, 6, none⟩) := by have h := hV 87 (by decide) (by decide); rw [HV.out] at h; exact h
                have p6' := cell_below hC p6
                simp only [execOp]
                go_simp
                exact ⟨hC, trivial, (by show V 88 _ _; rw [HV.out]; exact rfl)⟩
              · intro ρ w1 hc hf hg ho hC hV
                refine ⟨86, _, rfl, by have h := hV 86 (by decide) (by decide); rw [HV.out] at h; exact h, ?_⟩
                rw [if_pos rfl]
                have e88 : ρ (.tmp 88) = .int .i64 0 := by have h := hV 88 (by decide) (by decide); rw [HV.out] at h; exact h
                simp only [execOp]
                go_simp
                exact ⟨hC, trivial, (by show V 89 _ _; rw [HV.out]; exact rfl)⟩
              · intro ρ w1 hc hf hg ho hC hV
                have e86 : ρ (.tmp 86) = .bool false := by have h := hV 86 (by decide) (by decide); rw [HV.out] at h; exact h
                have e89 : ρ (.tmp 89) = .bool false := by have h := hV 89 (by decide) (by decide); rw [HV.out] at h; exact h
                simp only [execOp]
                go_simp
                exact ⟨hC, trivial, (by show V 90 _ _; rw [HV.out]; exact rfl)⟩
            · intro σ w1 hC hV
              have v56 : σ 56 = .pointer (some ⟨wr.heap.size, 0, none⟩) := by have h := hV 56 (by decide); rw [HV.out] at h; exact h
              have v57 : σ 57 = .int .i64 12 := by have h := hV 57 (by decide); rw [HV.out] at h; exact h
              have v58 : σ 58 = .bool false := by have h := hV 58 (by decide); rw [HV.out] at h; exact h
              have v59 : σ 59 = .bool false := by have h := hV 59 (by decide); rw [HV.out] at h; exact h
              have v60 : σ 60 = .pointer (some ⟨wr.heap.size, 1, none⟩) := by have h := hV 60 (by decide); rw [HV.out] at h; exact h
              have v61 : σ 61 = .string ⟨#[102]⟩ := by have h := hV 61 (by decide); rw [HV.out] at h; exact h
              have v62 : σ 62 = .bool false := by have h := hV 62 (by decide); rw [HV.out] at h; exact h
              have v63 : σ 63 = .bool false := by have h := hV 63 (by decide); rw [HV.out] at h; exact h
              have v64 : σ 64 = .bool false := by have h := hV 64 (by decide); rw [HV.out] at h; exact h
              have v65 : σ 65 = .pointer (some ⟨wr.heap.size, 3, none⟩) := by have h := hV 65 (by decide); rw [HV.out] at h; exact h
              have v66 : σ 66 = .string ⟨#[99]⟩ := by have h := hV 66 (by decide); rw [HV.out] at h; exact h
              have v67 : σ 67 = .int .i64 1 := by have h := hV 67 (by decide); rw [HV.out] at h; exact h
              have v68 : σ 68 = .int .i64 2 := by have h := hV 68 (by decide); rw [HV.out] at h; exact h
              have v69 : σ 69 = .string ⟨#[99, 100, 101, 102]⟩ := by have h := hV 69 (by decide); rw [HV.out] at h; exact h
              have v70 : σ 70 = .string ⟨#[99]⟩ := by have h := hV 70 (by decide); rw [HV.out] at h; exact h
              have v71 : σ 71 = .bool false := by have h := hV 71 (by decide); rw [HV.out] at h; exact h
              have v72 : σ 72 = .bool false := by have h := hV 72 (by decide); rw [HV.out] at h; exact h
              have v73 : σ 73 = .bool false := by have h := hV 73 (by decide); rw [HV.out] at h; exact h
              have v74 : σ 74 = .pointer (some ⟨wr.heap.size, 5, none⟩) := by have h := hV 74 (by decide); rw [HV.out] at h; exact h
              have v75 : σ 75 = .int .i64 3 := by have h := hV 75 (by decide); rw [HV.out] at h; exact h
              have v76 : σ 76 = .int .i64 1 := by have h := hV 76 (by decide); rw [HV.out] at h; exact h
              have v77 : σ 77 = .int .i64 2 := by have h := hV 77 (by decide); rw [HV.out] at h; exact h
              have v78 : σ 78 = .int .i64 3 := by have h := hV 78 (by decide); rw [HV.out] at h; exact h
              have v79 : σ 79 = .bool false := by have h := hV 79 (by decide); rw [HV.out] at h; exact h
              have v80 : σ 80 = .bool false := by have h := hV 80 (by decide); rw [HV.out] at h; exact h
              have v81 : σ 81 = .bool false := by have h := hV 81 (by decide); rw [HV.out] at h; exact h
              have v82 : σ 82 = .pointer (some ⟨wr.heap.size, 2, none⟩) := by have h := hV 82 (by decide); rw [HV.out] at h; exact h
              have v83 : σ 83 = .string ⟨#[]⟩ := by have h := hV 83 (by decide); rw [HV.out] at h; exact h
              have v84 : σ 84 = .bool false := by have h := hV 84 (by decide); rw [HV.out] at h; exact h
              have v85 : σ 85 = .bool false := by have h := hV 85 (by decide); rw [HV.out] at h; exact h
              have v86 : σ 86 = .bool false := by have h := hV 86 (by decide); rw [HV.out] at h; exact h
              have v87 : σ 87 = .pointer (some ⟨wr.heap.size, 6, none⟩) := by have h := hV 87 (by decide); rw [HV.out] at h; exact h
              have v88 : σ 88 = .int .i64 0 := by have h := hV 88 (by decide); rw [HV.out] at h; exact h
              have v89 : σ 89 = .bool false := by have h := hV 89 (by decide); rw [HV.out] at h; exact h
              have v90 : σ 90 = .bool false := by have h := hV 90 (by decide); rw [HV.out] at h; exact h
              clear hV HV V
              dsimp only [dsts, List.filterMap, putAll, Act.put]
              have hb4 := below_step hb3 hC
              clear hC p0 p1 p2 p3 p5 p6 hb3
              rw [v56, v57, v58, v59, v60, v61, v62, v63, v64, v65, v66, v67, v68, v69, v70, v71, v72, v73, v74, v75, v76, v77, v78, v79, v80, v81, v82, v83, v84, v85, v86, v87, v88, v89, v90]
              clear v56 v57 v58 v59 v60 v61 v62 v63 v64 v65 v66 v67 v68 v69 v70 v71 v72 v73 v74 v75 v76 v77 v78 v79 v80 v81 v82 v83 v84 v85 v86 v87 v88 v89 v90
              go_simp
              go_wp2
              go_roundw
              case rel => exact ⟨1 + 1, by omega, by go_num, hb4⟩
              case measure => simp [intOf]; omega
          · have c0 : wr.cell? ⟨b, o + 18, none⟩ = some (.int .i64 12) := hc 0 _ rfl
            have c1 : wr.cell? ⟨b, o + 19, none⟩ = some (.string ⟨#[102]⟩) := hc 1 _ rfl
            have c2 : wr.cell? ⟨b, o + 20, none⟩ = some (.string ⟨#[]⟩) := hc 2 _ rfl
            have c3 : wr.cell? ⟨b, o + 21, none⟩ = some (.string ⟨#[101]⟩) := hc 3 _ rfl
            have c4 : wr.cell? ⟨b, o + 22, none⟩ = some (.int .i64 0) := hc 4 _ rfl
            have c5 : wr.cell? ⟨b, o + 23, none⟩ = some (.int .i64 5) := hc 5 _ rfl
            have c6 : wr.cell? ⟨b, o + 24, none⟩ = some (.int .i64 0) := hc 6 _ rfl
            have c7 : wr.cell? ⟨b, o + 25, none⟩ = some (.int .i64 0) := hc 7 _ rfl
            have c8 : wr.cell? ⟨b, o + 26, none⟩ = some (.slice none 0 0) := hc 8 _ rfl
            clear hc
            go_wp2_with fail
            generalize hW2 : wr.alloc _ = W2
            have p0 : W2.cell? ⟨wr.heap.size, 0, none⟩ = some (.int .i64 12) := by rw [← hW2, cell_new]; rfl
            have p1 : W2.cell? ⟨wr.heap.size, 1, none⟩ = some (.string ⟨#[102]⟩) := by rw [← hW2, cell_new]; rfl
            have p2 : W2.cell? ⟨wr.heap.size, 2, none⟩ = some (.string ⟨#[]⟩) := by rw [← hW2, cell_new]; rfl
            have p3 : W2.cell? ⟨wr.heap.size, 3, none⟩ = some (.string ⟨#[101]⟩) := by rw [← hW2, cell_new]; rfl
            have p5 : W2.cell? ⟨wr.heap.size, 5, none⟩ = some (.int .i64 5) := by rw [← hW2, cell_new]; rfl
            have p6 : W2.cell? ⟨wr.heap.size, 6, none⟩ = some (.int .i64 0) := by rw [← hW2, cell_new]; rfl
            have hb3 : Below w1.heap.size w1 W2 := by rw [← hW2]; exact below_alloc hb2 _
            clear hW2 c0 c1 c2 c3 c4 c5 c6 c7 c8 hb2
            obtain ⟨V, HV⟩ : ∃ V : Tmp → Value → World → Prop, Hid (V = fun sl_ v_ w_ => match sl_ with | 56 => v_ = .pointer (some ⟨wr.heap.size, 0, none⟩) | 57 => v_ = .int .i64 12 | 58 => v_ = .bool false | 59 => v_ = .bool false | 60 => v_ = .pointer (some ⟨wr.heap.size, 1, none⟩) | 61 => v_ = .string ⟨#[102]⟩ | 62 => v_ = .bool false | 63 => v_ = .bool false | 64 => v_ = .bool false | 65 => v_ = .pointer (some ⟨wr.heap.size, 3, none⟩) | 66 => v_ = .string ⟨#[101]⟩ | 67 => v_ = .int .i64 2 | 68 => v_ = .int .i64 4 | 69 => v_ = .string ⟨#[101, 102]⟩ | 70 => v_ = .string ⟨#[101]⟩ | 71 => v_ = .bool false | 72 => v_ = .bool false | 73 => v_ = .bool false | 74 => v_ = .pointer (some ⟨wr.heap.size, 5, none⟩) | 75 => v_ = .int .i64 5 | 76 => v_ = .int .i64 2 | 77 => v_ = .int .i64 4 | 78 => v_ = .int .i64 5 | 79 => v_ = .bool false | 80 => v_ = .bool false | 81 => v_ = .bool false | 82 => v_ = .pointer (some ⟨wr.heap.size, 2, none⟩) | 83 => v_ = .string ⟨#[]⟩ | 84 => v_ = .bool false | 85 => v_ = .bool false | 86 => v_ = .bool false | 87 => v_ = .pointer (some ⟨wr.heap.size, 6, none⟩) | 88 => v_ = .int .i64 0 | 89 => v_ = .bool false | 90 => v_ = .bool false | _ => True) := ⟨_, rfl⟩
            refine wp_region_loose (Below W2.heap.size W2 ·) (fun _ _ => True) V (by kernel_rfl) (by kernel_rfl) (by kernel_rfl) (Below.refl _ _).drew (fun _ => trivial) ?_ ?_ ?_
            · intro t v w w' hC hR h
              rw [HV.out] at h ⊢
              exact h
            · go_light
              simp only [List.forall_mem_cons]
              refine ⟨?_, ?_, ?_, ?_, ?_, ?_, ?_, ?_, ?_, ?_, ?_, ?_, ?_, ?_, ?_, ?_, ?_, ?_, ?_, ?_, ?_, ?_, ?_, ?_, ?_, ?_, ?_, ?_, ?_, ?_, ?_, ?_, ?_, ?_, ?_, fun _ h => by cases h⟩
              · intro ρ w1 hc hf hg ho hC hV
                have e10 := ho 10 (by decide)
                simp only [execOp]
                go_simp
                exact ⟨hC, trivial, (by show V 56 _ _; rw [HV.out]; exact rfl)⟩
              · intro ρ w1 hc hf hg ho hC hV
                have e56 : ρ (.tmp 56) = .pointer (some ⟨wr.heap.size, 0, none⟩) := by have h := hV 56 (by decide) (by decide); rw [HV.out] at h; exact h
                have p0' := cell_below hC p0
                simp only [execOp]
                go_simp
                exact ⟨hC, trivial, (by show V 57 _ _; rw [HV.out]; exact rfl)⟩
              · intro ρ w1 hc hf hg ho hC hV
                have e57 : ρ (.tmp 57) = .int .i64 12 := by have h := hV 57 (by decide) (by decide); rw [HV.out] at h; exact h
                simp only [execOp]
                go_simp
                exact ⟨hC, trivial, (by show V 58 _ _; rw [HV.out]; exact rfl)⟩
              · intro ρ w1 hc hf hg ho hC hV
                have e58 : ρ (.tmp 58) = .bool false := by have h := hV 58 (by decide) (by decide); rw [HV.out] at h; exact h
                simp only [execOp]
                go_simp
                exact ⟨hC, trivial, (by show V 59 _ _; rw [HV.out]; exact rfl)⟩
              · intro ρ w1 hc hf hg ho hC hV
                refine ⟨59, _, rfl, by have h := hV 59 (by decide) (by decide); rw [HV.out] at h; exact h, ?_⟩
                rw [if_pos rfl]
                have e10 := ho 10 (by decide)
                simp only [execOp]
                go_simp
                exact ⟨hC, trivial, (by show V 60 _ _; rw [HV.out]; exact rfl)⟩
              · intro ρ w1 hc hf hg ho hC hV
                refine ⟨59, _, rfl, by have h := hV 59 (by decide) (by decide); rw [HV.out] at h; exact h, ?_⟩
                rw [if_pos rfl]
                have e60 : ρ (.tmp 60) = .pointer (some ⟨wr.heap.size, 1, none⟩) := by have h := hV 60 (by decide) (by decide); rw [HV.out] at h; exact h
                have p1' := cell_below hC p1
                simp only [execOp]
                go_simp
                exact ⟨hC, trivial, (by show V 61 _ _; rw [HV.out]; exact rfl)⟩
              · intro ρ w1 hc hf hg ho hC hV
                refine ⟨59, _, rfl, by have h := hV 59 (by decide) (by decide); rw [HV.out] at h; exact h, ?_⟩
                rw [if_pos rfl]
                have e61 : ρ (.tmp 61) = .string ⟨#[102]⟩ := by have h := hV 61 (by decide) (by decide); rw [HV.out] at h; exact h
                simp only [execOp]
                go_simp
                exact ⟨hC, trivial, (by show V 62 _ _; rw [HV.out]; exact rfl)⟩
              · intro ρ w1 hc hf hg ho hC hV
                have e59 : ρ (.tmp 59) = .bool false := by have h := hV 59 (by decide) (by decide); rw [HV.out] at h; exact h
                have e62 : ρ (.tmp 62) = .bool false := by have h := hV 62 (by decide) (by decide); rw [HV.out] at h; exact h
                simp only [execOp]
                go_simp
                exact ⟨hC, trivial, (by show V 63 _ _; rw [HV.out]; exact rfl)⟩
              · intro ρ w1 hc hf hg ho hC hV
                have e63 : ρ (.tmp 63) = .bool false := by have h := hV 63 (by decide) (by decide); rw [HV.out] at h; exact h
                simp only [execOp]
                go_simp
                exact ⟨hC, trivial, (by show V 64 _ _; rw [HV.out]; exact rfl)⟩
              · intro ρ w1 hc hf hg ho hC hV
                refine ⟨64, _, rfl, by have h := hV 64 (by decide) (by decide); rw [HV.out] at h; exact h, ?_⟩
                rw [if_pos rfl]
                have e10 := ho 10 (by decide)
                simp only [execOp]
                go_simp
                exact ⟨hC, trivial, (by show V 65 _ _; rw [HV.out]; exact rfl)⟩
              · intro ρ w1 hc hf hg ho hC hV
                refine ⟨64, _, rfl, by have h := hV 64 (by decide) (by decide); rw [HV.out] at h; exact h, ?_⟩
                rw [if_pos rfl]
                have e65 : ρ (.tmp 65) = .pointer (some ⟨wr.heap.size, 3, none⟩) := by have h := hV 65 (by decide) (by decide); rw [HV.out] at h; exact h
                have p3' := cell_below hC p3
                simp only [execOp]
                go_simp
                exact ⟨hC, trivial, (by show V 66 _ _; rw [HV.out]; exact rfl)⟩
              · intro ρ w1 hc hf hg ho hC hV
                refine ⟨64, _, rfl, by have h := hV 64 (by decide) (by decide); rw [HV.out] at h; exact h, ?_⟩
                rw [if_pos rfl]
                have e9 := ho 9 (by decide)
                simp only [execOp]
                go_simp
                exact ⟨hC, trivial, (by show V 67 _ _; rw [HV.out]; exact rfl)⟩
              · intro ρ w1 hc hf hg ho hC hV
                refine ⟨64, _, rfl, by have h := hV 64 (by decide) (by decide); rw [HV.out] at h; exact h, ?_⟩
                rw [if_pos rfl]
                have e67 : ρ (.tmp 67) = .int .i64 2 := by have h := hV 67 (by decide) (by decide); rw [HV.out] at h; exact h
                simp only [execOp]
                go_simp
                exact ⟨hC, trivial, (by show V 68 _ _; rw [HV.out]; exact rfl)⟩
              · intro ρ w1 hc hf hg ho hC hV
                refine ⟨64, _, rfl, by have h := hV 64 (by decide) (by decide); rw [HV.out] at h; exact h, ?_⟩
                rw [if_pos rfl]
                have e68 : ρ (.tmp 68) = .int .i64 4 := by have h := hV 68 (by decide) (by decide); rw [HV.out] at h; exact h
                simp only [execOp]
                go_simp
                exact ⟨hC, trivial, (by show V 69 _ _; rw [HV.out]; exact rfl)⟩
              · intro ρ w1 hc hf hg ho hC hV
                refine ⟨64, _, rfl, by have h := hV 64 (by decide) (by decide); rw [HV.out] at h; exact h, ?_⟩
                rw [if_pos rfl]
                have e69 : ρ (.tmp 69) = .string ⟨#[101, 102]⟩ := by have h := hV 69 (by decide) (by decide); rw [HV.out] at h; exact h
                simp only [execOp]
                go_simp
                exact ⟨hC, trivial, (by show V 70 _ _; rw [HV.out]; exact rfl)⟩
              · intro ρ w1 hc hf hg ho hC hV
                refine ⟨64, _, rfl, by have h := hV 64 (by decide) (by decide); rw [HV.out] at h; exact h, ?_⟩
                rw [if_pos rfl]
                have e66 : ρ (.tmp 66) = .string ⟨#[101]⟩ := by have h := hV 66 (by decide) (by decide); rw [HV.out] at h; exact h
                have e70 : ρ (.tmp 70) = .string ⟨#[101]⟩ := by have h := hV 70 (by decide) (by decide); rw [HV.out] at h; exact h
                simp only [execOp]
                go_simp
                exact ⟨hC, trivial, (by show V 71 _ _; rw [HV.out]; exact rfl)⟩
              · intro ρ w1 hc hf hg ho hC hV
                have e64 : ρ (.tmp 64) = .bool false := by have h := hV 64 (by decide) (by decide); rw [HV.out] at h; exact h
                have e71 : ρ (.tmp 71) = .bool false := by have h := hV 71 (by decide) (by decide); rw [HV.out] at h; exact h
                simp only [execOp]
                go_simp
                exact ⟨hC, trivial, (by show V 72 _ _; rw [HV.out]; exact rfl)⟩
              · intro ρ w1 hc hf hg ho hC hV
                have e72 : ρ (.tmp 72) = .bool false := by have h := hV 72 (by decide) (by decide); rw [HV.out] at h; exact h
                simp only [execOp]
                go_simp
                exact ⟨hC, trivial, (by show V 73 _ _; rw [HV.out]; exact rfl)⟩
              · intro ρ w1 hc hf hg ho hC hV
                refine ⟨73, _, rfl, by have h := hV 73 (by decide) (by decide); rw [HV.out] at h; exact h, ?_⟩
                rw [if_pos rfl]
                have e10 := ho 10 (by decide)
                simp only [execOp]
                go_simp
                exact ⟨hC, trivial, (by show V 74 _ _; rw [HV.out]; exact rfl)⟩
              · intro ρ w1 hc hf hg ho hC hV
                refine ⟨73, _, rfl, by have h := hV 73 (by decide) (by decide); rw [HV.out] at h; exact h, ?_⟩
                rw [if_pos rfl]
                have e74 : ρ (.tmp 74) = .pointer (some ⟨wr.heap.size, 5, none⟩) := by have h := hV 74 (by decide) (by decide); rw [HV.out] at h; exact h
                have p5' := cell_below hC p5
                simp only [execOp]
                go_simp
                exact ⟨hC, trivial, (by show V 75 _ _; rw [HV.out]; exact rfl)⟩
              · intro ρ w1 hc hf hg ho hC hV
                refine ⟨73, _, rfl, by have h := hV 73 (by decide) (by decide); rw [HV.out] at h; exact h, ?_⟩
                rw [if_pos rfl]
                have e9 := ho 9 (by decide)
                simp only [execOp]
                go_simp
                exact ⟨hC, trivial, (by show V 76 _ _; rw [HV.out]; exact rfl)⟩
              · intro ρ w1 hc hf hg ho hC hV
                refine ⟨73, _, rfl, by have h := hV 73 (by decide) (by decide); rw [HV.out] at h; exact h, ?_⟩
                rw [if_pos rfl]
                have e76 : ρ (.tmp 76) = .int .i64 2 := by have h := hV 76 (by decide) (by decide); rw [HV.out] at h; exact h
                simp only [execOp]
                go_simp
                exact ⟨hC, trivial, (by show V 77 _ _; rw [HV.out]; exact rfl)⟩
              · intro ρ w1 hc hf hg ho hC hV
                refine ⟨73, _, rfl, by have h := hV 73 (by decide) (by decide); rw [HV.out] at h; exact h, ?_⟩
                rw [if_pos rfl]
                have e77 : ρ (.tmp 77) = .int .i64 4 := by have h := hV 77 (by decide) (by decide); rw [HV.out] at h; exact h
                simp only [execOp]
                go_simp
                exact ⟨hC, trivial, (by show V 78 _ _; rw [HV.out]; exact rfl)⟩
              · intro ρ w1 hc hf hg ho hC hV
                refine ⟨73, _, rfl, by have h := hV 73 (by decide) (by decide); rw [HV.out] at h; exact h, ?_⟩
                rw [if_pos rfl]
                have e75 : ρ (.tmp 75) = .int .i64 5 := by have h := hV 75 (by decide) (by decide); rw [HV.out] at h; exact h
                have e78 : ρ (.tmp 78) = .int .i64 5 := by have h := hV 78 (by decide) (by decide); rw [HV.out] at h; exact h
                simp only [execOp]
                go_simp
                exact ⟨hC, trivial, (by show V 79 _ _; rw [HV.out]; exact rfl)⟩
              · intro ρ w1 hc hf hg ho hC hV
                have e73 : ρ (.tmp 73) = .bool false := by have h := hV 73 (by decide) (by decide); rw [HV.out] at h; exact h
                have e79 : ρ (.tmp 79) = .bool false := by have h := hV 79 (by decide) (by decide); rw [HV.out] at h; exact h
                simp only [execOp]
                go_simp
                exact ⟨hC, trivial, (by show V 80 _ _; rw [HV.out]; exact rfl)⟩
              · intro ρ w1 hc hf hg ho hC hV
                have e80 : ρ (.tmp 80) = .bool false := by have h := hV 80 (by decide) (by decide); rw [HV.out] at h; exact h
                simp only [execOp]
                go_simp
                exact ⟨hC, trivial, (by show V 81 _ _; rw [HV.out]; exact rfl)⟩
              · intro ρ w1 hc hf hg ho hC hV
                refine ⟨81, _, rfl, by have h := hV 81 (by decide) (by decide); rw [HV.out] at h; exact h, ?_⟩
                rw [if_pos rfl]
                have e10 := ho 10 (by decide)
                simp only [execOp]
                go_simp
                exact ⟨hC, trivial, (by show V 82 _ _; rw [HV.out]; exact rfl)⟩
              · intro ρ w1 hc hf hg ho hC hV
                refine ⟨81, _, rfl, by have h := hV 81 (by decide) (by decide); rw [HV.out] at h; exact h, ?_⟩
                rw [if_pos rfl]
                have e82 : ρ (.tmp 82) = .pointer (some ⟨wr.heap.size, 2, none⟩) := by have h := hV 82 (by decide) (by decide); rw [HV.out] at h; exact h
                have p2' := cell_below hC p2
                simp only [execOp]
                go_simp
                exact ⟨hC, trivial, (by show V 83 _ _; rw [HV.out]; exact rfl)⟩
              · intro ρ w1 hc hf hg ho hC hV
                refine ⟨81, _, rfl, by have h := hV 81 (by decide) (by decide); rw [HV.out] at h; exact h, ?_⟩
                rw [if_pos rfl]
                have e83 : ρ (.tmp 83) = .string ⟨#[]⟩ := by have h := hV 83 (by decide) (by decide); rw [HV.out] at h; exact h
                simp only [execOp]
                go_simp
                exact ⟨hC, trivial, (by show V 84 _ _; rw [HV.out]; exact rfl)⟩
              · intro ρ w1 hc hf hg ho hC hV
                have e81 : ρ (.tmp 81) = .bool false := by have h := hV 81 (by decide) (by decide); rw [HV.out] at h; exact h
                have e84 : ρ (.tmp 84) = .bool false := by have h := hV 84 (by decide) (by decide); rw [HV.out] at h; exact h
                simp only [execOp]
                go_simp
                exact ⟨hC, trivial, (by show V 85 _ _; rw [HV.out]; exact rfl)⟩
              · intro ρ w1 hc hf hg ho hC hV
                have e85 : ρ (.tmp 85) = .bool false := by have h := hV 85 (by decide) (by decide); rw [HV.out] at h; exact h
                simp only [execOp]
                go_simp
                exact ⟨hC, trivial, (by show V 86 _ _; rw [HV.out]; exact rfl)⟩
              · intro ρ w1 hc hf hg ho hC hV
                refine ⟨86, _, rfl, by have h := hV 86 (by decide) (by decide); rw [HV.out] at h; exact h, ?_⟩
                rw [if_pos rfl]
                have e10 := ho 10 (by decide)
                simp only [execOp]
                go_simp
                exact ⟨hC, trivial, (by show V 87 _ _; rw [HV.out]; exact rfl)⟩
              · intro ρ w1 hc hf hg ho hC hV
                refine ⟨86, _, rfl, by have h := hV 86 (by decide) (by decide); rw [HV.out] at h; exact h, ?_⟩
                rw [if_pos rfl]
                have e87 : ρ (.tmp 87) = .pointer (some ⟨wr.heap.size, 6, none⟩) := by have h := hV 87 (by decide) (by decide); rw [HV.out] at h; exact h
                have p6' := cell_below hC p6
                simp only [execOp]
                go_simp
                exact ⟨hC, trivial, (by show V 88 _ _; rw [HV.out]; exact rfl)⟩
              · intro ρ w1 hc hf hg ho hC hV
                refine ⟨86, _, rfl, by have h := hV 86 (by decide) (by decide); rw [HV.out] at h; exact h, ?_⟩
                rw [if_pos rfl]
                have e88 : ρ (.tmp 88) = .int .i64 0 := by have h := hV 88 (by decide) (by decide); rw [HV.out] at h; exact h
                simp only [execOp]
                go_simp
                exact ⟨hC, trivial, (by show V 89 _ _; rw [HV.out]; exact rfl)⟩
              · intro ρ w1 hc hf hg ho hC hV
                have e86 : ρ (.tmp 86) = .bool false := by have h := hV 86 (by decide) (by decide); rw [HV.out] at h; exact h
                have e89 : ρ (.tmp 89) = .bool false := by have h := hV 89 (by decide) (by decide); rw [HV.out] at h; exact h
                simp only [execOp]
                go_simp
                exact ⟨hC, trivial, (by show V 90 _ _; rw [HV.out]; exact rfl)⟩
            · intro σ w1 hC hV
              have v56 : σ 56 = .pointer (some ⟨wr.heap.size, 0, none⟩) := by have h := hV 56 (by decide); rw [HV.out] at h; exact h
              have v57 : σ 57 = .int .i64 12 := by have h := hV 57 (by decide); rw [HV.out] at h; exact h
              have v58 : σ 58 = .bool false := by have h := hV 58 (by decide); rw [HV.out] at h; exact h
              have v59 : σ 59 = .bool false := by have h := hV 59 (by decide); rw [HV.out] at h; exact h
              have v60 : σ 60 = .pointer (some ⟨wr.heap.size, 1, none⟩) := by have h := hV 60 (by decide); rw [HV.out] at h; exact h
              have v61 : σ 61 = .string ⟨#[102]⟩ := by have h := hV 61 (by decide); rw [HV.out] at h; exact h
              have v62 : σ 62 = .bool false := by have h := hV 62 (by decide); rw [HV.out] at h; exact h
              have v63 : σ 63 = .bool false := by have h := hV 63 (by decide); rw [HV.out] at h; exact h
              have v64 : σ 64 = .bool false := by have h := hV 64 (by decide); rw [HV.out] at h; exact h
              have v65 : σ 65 = .pointer (some ⟨wr.heap.size, 3, none⟩) := by have h := hV 65 (by decide); rw [HV.out] at h; exact h
              have v66 : σ 66 = .string ⟨#[101]⟩ := by have h := hV 66 (by decide); rw [HV.out] at h; exact h
              have v67 : σ 67 = .int .i64 2 := by have h := hV 67 (by decide); rw [HV.out] at h; exact h
              have v68 : σ 68 = .int .i64 4 := by have h := hV 68 (by decide); rw [HV.out] at h; exact h
              have v69 : σ 69 = .string ⟨#[101, 102]⟩ := by have h := hV 69 (by decide); rw [HV.out] at h; exact h
              have v70 : σ 70 = .string ⟨#[101]⟩ := by have h := hV 70 (by decide); rw [HV.out] at h; exact h
              have v71 : σ 71 = .bool false := by have h := hV 71 (by decide); rw [HV.out] at h; exact h
              have v72 : σ 72 = .bool false := by have h := hV 72 (by decide); rw [HV.out] at h; exact h
              have v73 : σ 73 = .bool false := by have h := hV 73 (by decide); rw [HV.out] at h; exact h
              have v74 : σ 74 = .pointer (some ⟨wr.heap.size, 5, none⟩) := by have h := hV 74 (by decide); rw [HV.out] at h; exact h
              have v75 : σ 75 = .int .i64 5 := by have h := hV 75 (by decide); rw [HV.out] at h; exact h
              have v76 : σ 76 = .int .i64 2 := by have h := hV 76 (by decide); rw [HV.out] at h; exact h
              have v77 : σ 77 = .int .i64 4 := by have h := hV 77 (by decide); rw [HV.out] at h; exact h
              have v78 : σ 78 = .int .i64 5 := by have h := hV 78 (by decide); rw [HV.out] at h; exact h
              have v79 : σ 79 = .bool false := by have h := hV 79 (by decide); rw [HV.out] at h; exact h
              have v80 : σ 80 = .bool false := by have h := hV 80 (by decide); rw [HV.out] at h; exact h
              have v81 : σ 81 = .bool false := by have h := hV 81 (by decide); rw [HV.out] at h; exact h
              have v82 : σ 82 = .pointer (some ⟨wr.heap.size, 2, none⟩) := by have h := hV 82 (by decide); rw [HV.out] at h; exact h
              have v83 : σ 83 = .string ⟨#[]⟩ := by have h := hV 83 (by decide); rw [HV.out] at h; exact h
              have v84 : σ 84 = .bool false := by have h := hV 84 (by decide); rw [HV.out] at h; exact h
              have v85 : σ 85 = .bool false := by have h := hV 85 (by decide); rw [HV.out] at h; exact h
              have v86 : σ 86 = .bool false := by have h := hV 86 (by decide); rw [HV.out] at h; exact h
              have v87 : σ 87 = .pointer (some ⟨wr.heap.size, 6, none⟩) := by have h := hV 87 (by decide); rw [HV.out] at h; exact h
              have v88 : σ 88 = .int .i64 0 := by have h := hV 88 (by decide); rw [HV.out] at h; exact h
              have v89 : σ 89 = .bool false := by have h := hV 89 (by decide); rw [HV.out] at h; exact h
              have v90 : σ 90 = .bool false := by have h := hV 90 (by decide); rw [HV.out] at h; exact h
              clear hV HV V
              dsimp only [dsts, List.filterMap, putAll, Act.put]
              have hb4 := below_step hb3 hC
              clear hC p0 p1 p2 p3 p5 p6 hb3
              rw [v56, v57, v58, v59, v60, v61, v62, v63, v64, v65, v66, v67, v68, v69, v70, v71, v72, v73, v74, v75, v76, v77, v78, v79, v80, v81, v82, v83, v84, v85, v86, v87, v88, v89, v90]
              clear v56 v57 v58 v59 v60 v61 v62 v63 v64 v65 v66 v67 v68 v69 v70 v71 v72 v73 v74 v75 v76 v77 v78 v79 v80 v81 v82 v83 v84 v85 v86 v87 v88 v89 v90
              go_simp
              go_wp2
              go_roundw
              case rel => exact ⟨2 + 1, by omega, by go_num, hb4⟩
              case measure => simp [intOf]; omega
        · have hkh : k = h := by omega
          subst hkh
          clear hlt hk
          go_wp2_with fail
          have hbw3 := below_step hbw hb2
          have hent3 := Lib.hid (hent1.out.below hb2)
          generalize hW3 : wr = W3 at hbw3 hent3 ⊢
          clear hW3 hb2 hbw hent1 hrowM
          go_loopw [11, 12] (fun v i wr => QRel W3 zs.length v i wr) (fun _ i _ => 4 - (intOf i).toNat)
          case atStart => exact ⟨0, [], rfl, by omega, Nat.zero_le _, (fun j hj => by cases hj), rfl, Below.refl _ _, World.ownsRow_nil _ _ _ _⟩
          case round =>
            obtain ⟨k, J, hJl, hk4, hkz, hJ8, rfl, hb5, hown⟩ := hrel
            obtain ⟨A3, cp3, hv3⟩ := own_slice hown
            subst hv3
            have hownH := Lib.hid hown
            have hJH := Lib.hid hJ8
            have hJlH := Lib.hid hJl
            clear hown hJ8 hJl
            by_cases hin : k < zs.length ∧ k < 4
            · obtain ⟨hz1, hz4⟩ := hin
              obtain ⟨b, o, hA0, hcs⟩ := HZ.out (by omega)
              subst hA0
              obtain ⟨z, c0⟩ : ∃ z, wr.cell? ⟨b, o + k, none⟩ = some (.int .i64 z) := ⟨_, cell_below (below_step hbw3 hb5) (hcs k hz1)⟩
              clear hcs
              go_wp2_with fail
              refine (within8 z _).mono ?_
              rintro e wr2 ⟨rfl | rfl | rfl | rfl | rfl | rfl | rfl | rfl, rfl⟩
              · go_wp2_with (at_builtin; refine app_at (w0 := W3) (wr.heap.size) rfl W3.heap.size rfl _ _ 33 50 (.agg #[.string ⟨#[]⟩, .complex .f64 0 0]) 2 32 rfl Try.underlying33 info50 rfl (by decide) (by decide) (.slice A3 k cp3) k ((J.map qI).flatMap Item.cells) [.string ⟨#[97]⟩, .complex .f64 0 0] (by rfl) (by rfl) rfl (by simp [Value.oneCell']) hownH.out hb5 (below_size hb5) (by omega) ?_; intro v1 w5 hown5 hb6 hg5 hat5)
                go_roundw
                case rel => exact QRel.snoc 0 hJlH.out (by omega) (by omega) (by omega) hJH.out (by decide) hb6 hown5 (by go_num)
                case measure => simp [intOf]; omega
              · go_wp2_with (at_builtin; refine app_at (w0 := W3) (wr.heap.size) rfl W3.heap.size rfl _ _ 33 50 (.agg #[.string ⟨#[]⟩, .complex .f64 0 0]) 2 32 rfl Try.underlying33 info50 rfl (by decide) (by decide) (.slice A3 k cp3) k ((J.map qI).flatMap Item.cells) [.string ⟨#[98]⟩, .complex .f64 0 0] (by rfl) (by rfl) rfl (by simp [Value.oneCell']) hownH.out hb5 (below_size hb5) (by omega) ?_; intro v1 w5 hown5 hb6 hg5 hat5)
                go_roundw
                case rel => exact QRel.snoc 1 hJlH.out (by omega) (by omega) (by omega) hJH.out (by decide) hb6 hown5 (by go_num)
                case measure => simp [intOf]; omega
              · go_wp2_with (at_builtin; refine app_at (w0 := W3) (wr.heap.size) rfl W3.heap.size rfl _ _ 33 50 (.agg #[.string ⟨#[]⟩, .complex .f64 0 0]) 2 32 rfl Try.underlying33 info50 rfl (by decide) (by decide) (.slice A3 k cp3) k ((J.map qI).flatMap Item.cells) [.string ⟨#[99]⟩, .complex .f64 0 0] (by rfl) (by rfl) rfl (by simp [Value.oneCell']) hownH.out hb5 (below_size hb5) (by omega) ?_; intro v1 w5 hown5 hb6 hg5 hat5)
                go_roundw
                case rel => exact QRel.snoc 2 hJlH.out (by omega) (by omega) (by omega) hJH.out (by decide) hb6 hown5 (by go_num)
                case measure => simp [intOf]; omega
              · go_wp2_with (at_builtin; refine app_at (w0 := W3) (wr.heap.size) rfl W3.heap.size rfl _ _ 33 50 (.agg #[.string ⟨#[]⟩, .complex .f64 0 0]) 2 32 rfl Try.underlying33 info50 rfl (by decide) (by decide) (.slice A3 k cp3) k ((J.map qI).flatMap Item.cells) [.string ⟨#[100]⟩, .complex .f64 0 0] (by rfl) (by rfl) rfl (by simp [Value.oneCell']) hownH.out hb5 (below_size hb5) (by omega) ?_; intro v1 w5 hown5 hb6 hg5 hat5)
                go_roundw
                case rel => exact QRel.snoc 3 hJlH.out (by omega) (by omega) (by omega) hJH.out (by decide) hb6 hown5 (by go_num)
                case measure => simp [intOf]; omega
              · go_wp2_with (at_builtin; refine app_at (w0 := W3) (wr.heap.size) rfl W3.heap.size rfl _ _ 33 50 (.agg #[.string ⟨#[]⟩, .complex .f64 0 0]) 2 32 rfl Try.underlying33 info50 rfl (by decide) (by decide) (.slice A3 k cp3) k ((J.map qI).flatMap Item.cells) [.string ⟨#[101]⟩, .complex .f64 0 0] (by rfl) (by rfl) rfl (by simp [Value.oneCell']) hownH.out hb5 (below_size hb5) (by omega) ?_; intro v1 w5 hown5 hb6 hg5 hat5)
                go_roundw
                case rel => exact QRel.snoc 4 hJlH.out (by omega) (by omega) (by omega) hJH.out (by decide) hb6 hown5 (by go_num)
                case measure => simp [intOf]; omega
              · go_wp2_with (at_builtin; refine app_at (w0 := W3) (wr.heap.size) rfl W3.heap.size rfl _ _ 33 50 (.agg #[.string ⟨#[]⟩, .complex .f64 0 0]) 2 32 rfl Try.underlying33 info50 rfl (by decide) (by decide) (.slice A3 k cp3) k ((J.map qI).flatMap Item.cells) [.string ⟨#[102]⟩, .complex .f64 0 0] (by rfl) (by rfl) rfl (by simp [Value.oneCell']) hownH.out hb5 (below_size hb5) (by omega) ?_; intro v1 w5 hown5 hb6 hg5 hat5)
                go_roundw
                case rel => exact QRel.snoc 5 hJlH.out (by omega) (by omega) (by omega) hJH.out (by decide) hb6 hown5 (by go_num)
                case measure => simp [intOf]; omega
              · go_wp2_with (at_builtin; refine app_at (w0 := W3) (wr.heap.size) rfl W3.heap.size rfl _ _ 33 50 (.agg #[.string ⟨#[]⟩, .complex .f64 0 0]) 2 32 rfl Try.underlying33 info50 rfl (by decide) (by decide) (.slice A3 k cp3) k ((J.map qI).flatMap Item.cells) [.string ⟨#[103]⟩, .complex .f64 0 0] (by rfl) (by rfl) rfl (by simp [Value.oneCell']) hownH.out hb5 (below_size hb5) (by omega) ?_; intro v1 w5 hown5 hb6 hg5 hat5)
                go_roundw
                case rel => exact QRel.snoc 6 hJlH.out (by omega) (by omega) (by omega) hJH.out (by decide) hb6 hown5 (by go_num)
                case measure => simp [intOf]; omega
              · go_wp2_with (at_builtin; refine app_at (w0 := W3) (wr.heap.size) rfl W3.heap.size rfl _ _ 33 50 (.agg #[.string ⟨#[]⟩, .complex .f64 0 0]) 2 32 rfl Try.underlying33 info50 rfl (by decide) (by decide) (.slice A3 k cp3) k ((J.map qI).flatMap Item.cells) [.string ⟨#[104]⟩, .complex .f64 0 0] (by rfl) (by rfl) rfl (by simp [Value.oneCell']) hownH.out hb5 (below_size hb5) (by omega) ?_; intro v1 w5 hown5 hb6 hg5 hat5)
                go_roundw
                case rel => exact QRel.snoc 7 hJlH.out (by omega) (by omega) (by omega) hJH.out (by decide) hb6 hown5 (by go_num)
                case measure => simp [intOf]; omega
            · by_cases hz1 : k < zs.length
              · have hk4' : ¬ k < 4 := fun h => hin ⟨hz1, h⟩
                have hk0 : 0 < k := by omega
                clear hin
                have hkb : ((k : Int) == 0) = false := by rw [beq_eq_false_iff_ne]; omega
                go_wp2_with fail
                have hJl := hJlH.out
                have hk1 : 0 < (J.map qI).length := by rw [List.length_map]; omega
                obtain ⟨b3, o3, hA3, hcs3⟩ := (own_rowOf (cells := Item.cells) (fun _ => rfl) (by decide) hownH.out).2 hk1
                subst hA3
                have hX : ItemsAt wr (some ⟨b3, o3, none⟩) (J.map qI) := fun _ => ⟨b3, o3, rfl, hcs3⟩
                have hOI := of_items A2 cp2 (ents G) (by rw [ents_length]; have := hmG.out; omega) (items_le G) ⟨#[103]⟩ b3 o3 cp3 (J.map qI) hk1 (by rw [List.length_map]; omega) 27 okL st27 call27 tells27 (qs_ok J hJH.out) wr (hent3.out.below hb5) hX
                rw [tell_qs G (by have := hmG.out; omega) J hJH.out, ents_length, ← hmG.out, List.length_map, hJl] at hOI
                refine hOI.mono ?_
                clear hOI hX
                rintro e w6 ⟨v6, rfl, hown6, hb6⟩
                obtain ⟨A6, cp6, hv6⟩ := own_slice hown6
                subst hv6
                have hrow6 := Lib.hid (own_rowOf (cells := Msg.cells) (fun _ => rfl) (by decide) hown6).2
                have hcq : Hid (∀ (i : Nat) (x : Item), (J.map qI)[i]? = some x → ∀ (j : Nat) (v : Value), x.cells[j]? = some v → w6.cell? ⟨b3, o3 + i * 2 + j, none⟩ = some v) := fun i x hx j v hv => cell_below hb6 (hcs3 i x hx j v hv)
                have hbw6 := below_step (below_step hbw3 hb5) hb6
                clear hcs3 hown6 hb6 hb5 hownH hbw3 hent3 hk1 hkb
                go_wp2_with fail
                go_loopw [128] (fun i wr => CkRel w6 k i wr) (fun i _ => k - (intOf i).toNat)
                case atStart => exact ⟨0, Nat.zero_le _, rfl, Below.refl _ _⟩
                case round =>
                  obtain ⟨i, hi, rfl, hb7⟩ := hrel
                  by_cases hlt7 : i < k
                  · obtain ⟨j, hj⟩ : ∃ j, J[i]? = some j := ⟨_, List.getElem?_eq_getElem (by omega)⟩
                    have hj8 := hJH.out j (List.mem_of_getElem? hj)
                    obtain ⟨b6, o6, hA6, hcs6⟩ := hrow6.out (by rw [List.length_map]; omega)
                    subst hA6
                    have hc : ∀ (q : Nat) (u : Value), (toldOf ⟨#[103]⟩ (lt j) (want m j)).cells[q]? = some u → wr.cell? ⟨b6, o6 + i * 9 + q, none⟩ = some u := fun q u hu => cell_below hb7 (hcs6 i _ (by rw [List.getElem?_map, hj]; rfl) q u hu)
                    have hs : wr.cell? ⟨b3, o3 + i * 2, none⟩ = some (.string (lt j)) := cell_below hb7 (hcq.out i (qI j) (by rw [List.getElem?_map, hj]; rfl) 0 _ rfl)
                    obtain ⟨wt, hwt⟩ : ∃ wt, wt = want m j := ⟨_, rfl⟩
                    rw [← hwt] at hc
                    clear hj hcs6
                    obtain ⟨bb, hlj, hbj⟩ := lt_byte j hj8
                    rw [hlj] at hs hc
                    have c0 : wr.cell? ⟨b6, o6 + i * 9, none⟩ = some (.int .i64 12) := hc 0 _ rfl
                    have c1 : wr.cell? ⟨b6, o6 + i * 9 + 1, none⟩ = some (.string ⟨#[103]⟩) := hc 1 _ rfl
                    have c2 : wr.cell? ⟨b6, o6 + i * 9 + 2, none⟩ = some (.string ⟨#[]⟩) := hc 2 _ rfl
                    have c3 : wr.cell? ⟨b6, o6 + i * 9 + 3, none⟩ = some (.string ⟨#[bb]⟩) := hc 3 _ rfl
                    have c4 : wr.cell? ⟨b6, o6 + i * 9 + 4, none⟩ = some (.int .i64 0) := hc 4 _ rfl
                    have c5 : wr.cell? ⟨b6, o6 + i * 9 + 5, none⟩ = some (.int .i64 wt) := hc 5 _ rfl
                    have c6 : wr.cell? ⟨b6, o6 + i * 9 + 6, none⟩ = some (.int .i64 0) := hc 6 _ rfl
                    have c7 : wr.cell? ⟨b6, o6 + i * 9 + 7, none⟩ = some (.int .i64 0) := hc 7 _ rfl
                    have c8 : wr.cell? ⟨b6, o6 + i * 9 + 8, none⟩ = some (.slice none 0 0) := hc 8 _ rfl
                    have hs2 : (wr.alloc (.cells #[.int .i64 12, .string ⟨#[103]⟩, .string ⟨#[]⟩, .string ⟨#[bb]⟩, .int .i64 0, .int .i64 wt, .int .i64 0, .int .i64 0, .slice none 0 0] 35)).cell? ⟨b3, o3 + i * 2, none⟩ = some (.string ⟨#[bb]⟩) := cell_below (below_alloc (Below.refl _ _) _) hs
                    clear hc hlj
                    rcases want_cases m j wt hwt with ⟨hjd, rfl⟩ | ⟨hjd, hjp, rfl⟩ | ⟨hjd, hjp, rfl⟩
                    · clear hwt
                      go_wp2_with fail
                      generalize hW2 : wr.alloc _ = W2 at hs2 ⊢
                      have p0 : W2.cell? ⟨wr.heap.size, 0, none⟩ = some (.int .i64 12) := by rw [← hW2, cell_new]; rfl
                      have p1 : W2.cell? ⟨wr.heap.size, 1, none⟩ = some (.string ⟨#[103]⟩) := by rw [← hW2, cell_new]; rfl
                      have p3 : W2.cell? ⟨wr.heap.size, 3, none⟩ = some (.string ⟨#[bb]⟩) := by rw [← hW2, cell_new]; rfl
                      have p5 : W2.cell? ⟨wr.heap.size, 5, none⟩ = some (.int .i64 (6)) := by rw [← hW2, cell_new]; rfl
                      have hb9 : Below w6.heap.size w6 W2 := by rw [← hW2]; exact below_alloc hb7 _
                      clear hW2 c0 c1 c2 c3 c4 c5 c6 c7 c8 hs hb7
                      obtain ⟨V, HV⟩ : ∃ V : Tmp → Value → World → Prop, Hid (V = fun sl_ v_ w_ => match sl_ with | 151 => v_ = .pointer (some ⟨wr.heap.size, 0, none⟩) | 152 => v_ = .int .i64 12 | 153 => v_ = .bool false | 154 => v_ = .bool false | 155 => v_ = .pointer (some ⟨wr.heap.size, 1, none⟩) | 156 => v_ = .string ⟨#[103]⟩ | 157 => v_ = .bool false | 158 => v_ = .bool false | 159 => v_ = .bool false | 160 => v_ = .pointer (some ⟨wr.heap.size, 3, none⟩) | 161 => v_ = .string ⟨#[bb]⟩ | 162 => v_ = .slice (some ⟨b3, o3, none⟩) k cp3 | 163 => v_ = .int .i64 i | 164 => v_ = .pointer (some ⟨b3, o3 + i * 2, none⟩) | 165 => v_ = .pointer (some ⟨b3, o3 + i * 2, none⟩) | 166 => v_ = .string ⟨#[bb]⟩ | 167 => v_ = .bool false | 168 => v_ = .bool false | 169 => v_ = .bool false | 170 => v_ = .pointer (some ⟨wr.heap.size, 5, none⟩) | 171 => v_ = .int .i64 6 | 172 => v_ = .int .i64 6 | 173 => v_ = .bool false | 174 => v_ = .bool false | _ => True) := ⟨_, rfl⟩
                      refine wp_region_loose (Below W2.heap.size W2 ·) (fun _ _ => True) V (by kernel_rfl) (by kernel_rfl) (by kernel_rfl) (Below.refl _ _).drew (fun _ => trivial) ?_ ?_ ?_
                      · intro t v w w' hC hR h
                        rw [HV.out] at h ⊢
                        exact h
                      · go_light
                        simp only [List.forall_mem_cons]
                        refine ⟨?_, ?_, ?_, ?_, ?_, ?_, ?_, ?_, ?_, ?_, ?_, ?_, ?_, ?_, ?_, ?_, ?_, ?_, ?_, ?_, ?_, ?_, ?_, ?_, fun _ h => by cases h⟩
                        · intro ρ w1 hc hf hg ho hC hV
                          have e15 := ho 15 (by decide)
                          simp only [execOp]
                          go_simp
                          exact ⟨hC, trivial, (by show V 151 _ _; rw [HV.out]; exact rfl)⟩
                        · intro ρ w1 hc hf hg ho hC hV
                          have e151 : ρ (.tmp 151) = .pointer (some ⟨wr.heap.size, 0, none⟩) := by have h := hV 151 (by decide) (by decide); rw [HV.out] at h; exact h
                          have p0' := cell_below hC p0
                          simp only [execOp]
                          go_simp
                          exact ⟨hC, trivial, (by show V 152 _ _; rw [HV.out]; exact rfl)⟩
                        · intro ρ w1 hc hf hg ho hC hV
                          have e152 : ρ (.tmp 152) = .int .i64 12 := by have h := hV 152 (by decide) (by decide); rw [HV.out] at h; exact h
                          simp only [execOp]
                          go_simp
                          exact ⟨hC, trivial, (by show V 153 _ _; rw [HV.out]; exact rfl)⟩
                        · intro ρ w1 hc hf hg ho hC hV
                          have e153 : ρ (.tmp 153) = .bool false := by have h := hV 153 (by decide) (by decide); rw [HV.out] at h; exact h
                          simp only [execOp]
                          go_simp
                          exact ⟨hC, trivial, (by show V 154 _ _; rw [HV.out]; exact rfl)⟩
                        · intro ρ w1 hc hf hg ho hC hV
                          refine ⟨154, _, rfl, by have h := hV 154 (by decide) (by decide); rw [HV.out] at h; exact h, ?_⟩
                          rw [if_pos rfl]
                          have e15 := ho 15 (by decide)
                          simp only [execOp]
                          go_simp
                          exact ⟨hC, trivial, (by show V 155 _ _; rw [HV.out]; exact rfl)⟩
                        · intro ρ w1 hc hf hg ho hC hV
                          refine ⟨154, _, rfl, by have h := hV 154 (by decide) (by decide); rw [HV.out] at h; exact h, ?_⟩
                          rw [if_pos rfl]
                          have e155 : ρ (.tmp 155) = .pointer (some ⟨wr.heap.size, 1, none⟩) := by have h := hV 155 (by decide) (by decide); rw [HV.out] at h; exact h
                          have p1' := cell_below hC p1
                          simp only [execOp]
                          go_simp
                          exact ⟨hC, trivial, (by show V 156 _ _; rw [HV.out]; exact rfl)⟩
                        · intro ρ w1 hc hf hg ho hC hV
                          refine ⟨154, _, rfl, by have h := hV 154 (by decide) (by decide); rw [HV.out] at h; exact h, ?_⟩
                          rw [if_pos rfl]
                          have e156 : ρ (.tmp 156) = .string ⟨#[103]⟩ := by have h := hV 156 (by decide) (by decide); rw [HV.out] at h; exact h
                          simp only [execOp]
                          go_simp
                          exact ⟨hC, trivial, (by show V 157 _ _; rw [HV.out]; exact rfl)⟩
                        · intro ρ w1 hc hf hg ho hC hV
                          have e154 : ρ (.tmp 154) = .bool false := by have h := hV 154 (by decide) (by decide); rw [HV.out] at h; exact h
                          have e157 : ρ (.tmp 157) = .bool false := by have h := hV 157 (by decide) (by decide); rw [HV.out] at h; exact h
                          simp only [execOp]
                          go_simp
                          exact ⟨hC, trivial, (by show V 158 _ _; rw [HV.out]; exact rfl)⟩
                        · intro ρ w1 hc hf hg ho hC hV
                          have e158 : ρ (.tmp 158) = .bool false := by have h := hV 158 (by decide) (by decide); rw [HV.out] at h; exact h
                          simp only [execOp]
                          go_simp
                          exact ⟨hC, trivial, (by show V 159 _ _; rw [HV.out]; exact rfl)⟩
                        · intro ρ w1 hc hf hg ho hC hV
                          refine ⟨159, _, rfl, by have h := hV 159 (by decide) (by decide); rw [HV.out] at h; exact h, ?_⟩
                          rw [if_pos rfl]
                          have e15 := ho 15 (by decide)
                          simp only [execOp]
                          go_simp
                          exact ⟨hC, trivial, (by show V 160 _ _; rw [HV.out]; exact rfl)⟩
                        · intro ρ w1 hc hf hg ho hC hV
                          refine ⟨159, _, rfl, by have h := hV 159 (by decide) (by decide); rw [HV.out] at h; exact h, ?_⟩
                          rw [if_pos rfl]
                          have e160 : ρ (.tmp 160) = .pointer (some ⟨wr.heap.size, 3, none⟩) := by have h := hV 160 (by decide) (by decide); rw [HV.out] at h; exact h
                          have p3' := cell_below hC p3
                          simp only [execOp]
                          go_simp
                          exact ⟨hC, trivial, (by show V 161 _ _; rw [HV.out]; exact rfl)⟩
                        · intro ρ w1 hc hf hg ho hC hV
                          refine ⟨159, _, rfl, by have h := hV 159 (by decide) (by decide); rw [HV.out] at h; exact h, ?_⟩
                          rw [if_pos rfl]
                          have e11 := ho 11 (by decide)
                          simp only [execOp]
                          go_simp
                          exact ⟨hC, trivial, (by show V 162 _ _; rw [HV.out]; exact rfl)⟩
                        · intro ρ w1 hc hf hg ho hC hV
                          refine ⟨159, _, rfl, by have h := hV 159 (by decide) (by decide); rw [HV.out] at h; exact h, ?_⟩
                          rw [if_pos rfl]
                          have e14 := ho 14 (by decide)
                          simp only [execOp]
                          go_simp
                          exact ⟨hC, trivial, (by show V 163 _ _; rw [HV.out]; exact rfl)⟩
                        · intro ρ w1 hc hf hg ho hC hV
                          refine ⟨159, _, rfl, by have h := hV 159 (by decide) (by decide); rw [HV.out] at h; exact h, ?_⟩
                          rw [if_pos rfl]
                          have e162 : ρ (.tmp 162) = .slice (some ⟨b3, o3, none⟩) k cp3 := by have h := hV 162 (by decide) (by decide); rw [HV.out] at h; exact h
                          have e163 : ρ (.tmp 163) = .int .i64 i := by have h := hV 163 (by decide) (by decide); rw [HV.out] at h; exact h
                          simp only [execOp]
                          go_simp
                          exact ⟨hC, trivial, (by show V 164 _ _; rw [HV.out]; exact rfl)⟩
                        · intro ρ w1 hc hf hg ho hC hV
                          refine ⟨159, _, rfl, by have h := hV 159 (by decide) (by decide); rw [HV.out] at h; exact h, ?_⟩
                          rw [if_pos rfl]
                          have e164 : ρ (.tmp 164) = .pointer (some ⟨b3, o3 + i * 2, none⟩) := by have h := hV 164 (by decide) (by decide); rw [HV.out] at h; exact h
                          simp only [execOp]
                          go_simp
                          exact ⟨hC, trivial, (by show V 165 _ _; rw [HV.out]; exact rfl)⟩
                        · intro ρ w1 hc hf hg ho hC hV
                          refine ⟨159, _, rfl, by have h := hV 159 (by decide) (by decide); rw [HV.out] at h; exact h, ?_⟩
                          rw [if_pos rfl]
                          have e165 : ρ (.tmp 165) = .pointer (some ⟨b3, o3 + i * 2, none⟩) := by have h := hV 165 (by decide) (by decide); rw [HV.out] at h; exact h
                          have hs2' := cell_below hC hs2
                          simp only [execOp]
                          go_simp
                          exact ⟨hC, trivial, (by show V 166 _ _; rw [HV.out]; exact rfl)⟩
                        · intro ρ w1 hc hf hg ho hC hV
                          refine ⟨159, _, rfl, by have h := hV 159 (by decide) (by decide); rw [HV.out] at h; exact h, ?_⟩
                          rw [if_pos rfl]
                          have e161 : ρ (.tmp 161) = .string ⟨#[bb]⟩ := by have h := hV 161 (by decide) (by decide); rw [HV.out] at h; exact h
                          have e166 : ρ (.tmp 166) = .string ⟨#[bb]⟩ := by have h := hV 166 (by decide) (by decide); rw [HV.out] at h; exact h
                          simp only [execOp]
                          go_simp
                          exact ⟨hC, trivial, (by show V 167 _ _; rw [HV.out]; exact rfl)⟩
                        · intro ρ w1 hc hf hg ho hC hV
                          have e159 : ρ (.tmp 159) = .bool false := by have h := hV 159 (by decide) (by decide); rw [HV.out] at h; exact h
                          have e167 : ρ (.tmp 167) = .bool false := by have h := hV 167 (by decide) (by decide); rw [HV.out] at h; exact h
                          simp only [execOp]
                          go_simp
                          exact ⟨hC, trivial, (by show V 168 _ _; rw [HV.out]; exact rfl)⟩
                        · intro ρ w1 hc hf hg ho hC hV
                          have e168 : ρ (.tmp 168) = .bool false := by have h := hV 168 (by decide) (by decide); rw [HV.out] at h; exact h
                          simp only [execOp]
                          go_simp
                          exact ⟨hC, trivial, (by show V 169 _ _; rw [HV.out]; exact rfl)⟩
                        · intro ρ w1 hc hf hg ho hC hV
                          refine ⟨169, _, rfl, by have h := hV 169 (by decide) (by decide); rw [HV.out] at h; exact h, ?_⟩
                          rw [if_pos rfl]
                          have e15 := ho 15 (by decide)
                          have p5' := cell_below hC p5
                          simp only [execOp]
                          go_simp
                          exact ⟨hC, trivial, (by show V 170 _ _; rw [HV.out]; exact rfl)⟩
                        · intro ρ w1 hc hf hg ho hC hV
                          refine ⟨169, _, rfl, by have h := hV 169 (by decide) (by decide); rw [HV.out] at h; exact h, ?_⟩
                          rw [if_pos rfl]
                          have e170 : ρ (.tmp 170) = .pointer (some ⟨wr.heap.size, 5, none⟩) := by have h := hV 170 (by decide) (by decide); rw [HV.out] at h; exact h
                          have p5' := cell_below hC p5
                          simp only [execOp]
                          go_simp
                          exact ⟨hC, trivial, (by show V 171 _ _; rw [HV.out]; exact rfl)⟩
                        · intro ρ w1 hc hf hg ho hC hV
                          refine ⟨169, _, rfl, by have h := hV 169 (by decide) (by decide); rw [HV.out] at h; exact h, ?_⟩
                          rw [if_pos rfl]
                          have e17 := ho 17 (by decide)
                          simp only [execOp]
                          go_simp
                          exact ⟨hC, trivial, (by show V 172 _ _; rw [HV.out]; exact rfl)⟩
                        · intro ρ w1 hc hf hg ho hC hV
                          refine ⟨169, _, rfl, by have h := hV 169 (by decide) (by decide); rw [HV.out] at h; exact h, ?_⟩
                          rw [if_pos rfl]
                          have e171 : ρ (.tmp 171) = .int .i64 6 := by have h := hV 171 (by decide) (by decide); rw [HV.out] at h; exact h
                          have e172 : ρ (.tmp 172) = .int .i64 6 := by have h := hV 172 (by decide) (by decide); rw [HV.out] at h; exact h
                          simp only [execOp]
                          go_simp
                          exact ⟨hC, trivial, (by show V 173 _ _; rw [HV.out]; exact rfl)⟩
                        · intro ρ w1 hc hf hg ho hC hV
                          have e169 : ρ (.tmp 169) = .bool false := by have h := hV 169 (by decide) (by decide); rw [HV.out] at h; exact h
                          have e173 : ρ (.tmp 173) = .bool false := by have h := hV 173 (by decide) (by decide); rw [HV.out] at h; exact h
                          simp only [execOp]
                          go_simp
                          exact ⟨hC, trivial, (by show V 174 _ _; rw [HV.out]; exact rfl)⟩
                      · intro σ w1 hC hV
                        have v151 : σ 151 = .pointer (some ⟨wr.heap.size, 0, none⟩) := by have h := hV 151 (by decide); rw [HV.out] at h; exact h
                        have v152 : σ 152 = .int .i64 12 := by have h := hV 152 (by decide); rw [HV.out] at h; exact h
                        have v153 : σ 153 = .bool false := by have h := hV 153 (by decide); rw [HV.out] at h; exact h
                        have v154 : σ 154 = .bool false := by have h := hV 154 (by decide); rw [HV.out] at h; exact h
                        have v155 : σ 155 = .pointer (some ⟨wr.heap.size, 1, none⟩) := by have h := hV 155 (by decide); rw [HV.out] at h; exact h
                        have v156 : σ 156 = .string ⟨#[103]⟩ := by have h := hV 156 (by decide); rw [HV.out] at h; exact h
                        have v157 : σ 157 = .bool false := by have h := hV 157 (by decide); rw [HV.out] at h; exact h
                        have v158 : σ 158 = .bool false := by have h := hV 158 (by decide); rw [HV.out] at h; exact h
                        have v159 : σ 159 = .bool false := by have h := hV 159 (by decide); rw [HV.out] at h; exact h
                        have v160 : σ 160 = .pointer (some ⟨wr.heap.size, 3, none⟩) := by have h := hV 160 (by decide); rw [HV.out] at h; exact h
                        have v161 : σ 161 = .string ⟨#[bb]⟩ := by have h := hV 161 (by decide); rw [HV.out] at h; exact h
                        have v162 : σ 162 = .slice (some ⟨b3, o3, none⟩) k cp3 := by have h := hV 162 (by decide); rw [HV.out] at h; exact h
                        have v163 : σ 163 = .int .i64 i := by have h := hV 163 (by decide); rw [HV.out] at h; exact h
                        have v164 : σ 164 = .pointer (some ⟨b3, o3 + i * 2, none⟩) := by have h := hV 164 (by decide); rw [HV.out] at h; exact h
                        have v165 : σ 165 = .pointer (some ⟨b3, o3 + i * 2, none⟩) := by have h := hV 165 (by decide); rw [HV.out] at h; exact h
                        have v166 : σ 166 = .string ⟨#[bb]⟩ := by have h := hV 166 (by decide); rw [HV.out] at h; exact h
                        have v167 : σ 167 = .bool false := by have h := hV 167 (by decide); rw [HV.out] at h; exact h
                        have v168 : σ 168 = .bool false := by have h := hV 168 (by decide); rw [HV.out] at h; exact h
                        have v169 : σ 169 = .bool false := by have h := hV 169 (by decide); rw [HV.out] at h; exact h
                        have v170 : σ 170 = .pointer (some ⟨wr.heap.size, 5, none⟩) := by have h := hV 170 (by decide); rw [HV.out] at h; exact h
                        have v171 : σ 171 = .int .i64 6 := by have h := hV 171 (by decide); rw [HV.out] at h; exact h
                        have v172 : σ 172 = .int .i64 6 := by have h := hV 172 (by decide); rw [HV.out] at h; exact h
                        have v173 : σ 173 = .bool false := by have h := hV 173 (by decide); rw [HV.out] at h; exact h
                        have v174 : σ 174 = .bool false := by have h := hV 174 (by decide); rw [HV.out] at h; exact h
                        clear hV HV V
                        dsimp only [dsts, List.filterMap, putAll, Act.put]
                        have hb10 := below_step hb9 hC
                        clear hC p0 p1 p3 p5 hs2 hb9
                        rw [v151, v152, v153, v154, v155, v156, v157, v158, v159, v160, v161, v162, v163, v164, v165, v166, v167, v168, v169, v170, v171, v172, v173, v174]
                        clear v151 v152 v153 v154 v155 v156 v157 v158 v159 v160 v161 v162 v163 v164 v165 v166 v167 v168 v169 v170 v171 v172 v173 v174
                        go_simp
                        go_wp2
                        go_roundw
                        case rel => exact ⟨i + 1, by omega, by go_num, hb10⟩
                        case measure => simp [intOf]; omega
                    · clear hwt
                      go_wp2_with fail
                      generalize hW2 : wr.alloc _ = W2 at hs2 ⊢
                      have p0 : W2.cell? ⟨wr.heap.size, 0, none⟩ = some (.int .i64 12) := by rw [← hW2, cell_new]; rfl
                      have p1 : W2.cell? ⟨wr.heap.size, 1, none⟩ = some (.string ⟨#[103]⟩) := by rw [← hW2, cell_new]; rfl
                      have p3 : W2.cell? ⟨wr.heap.size, 3, none⟩ = some (.string ⟨#[bb]⟩) := by rw [← hW2, cell_new]; rfl
                      have p5 : W2.cell? ⟨wr.heap.size, 5, none⟩ = some (.int .i64 (6)) := by rw [← hW2, cell_new]; rfl
                      have hb9 : Below w6.heap.size w6 W2 := by rw [← hW2]; exact below_alloc hb7 _
                      clear hW2 c0 c1 c2 c3 c4 c5 c6 c7 c8 hs hb7
                      obtain ⟨V, HV⟩ : ∃ V : Tmp → Value → World → Prop, Hid (V = fun sl_ v_ w_ => match sl_ with | 151 => v_ = .pointer (some ⟨wr.heap.size, 0, none⟩) | 152 => v_ = .int .i64 12 | 153 => v_ = .bool false | 154 => v_ = .bool false | 155 => v_ = .pointer (some ⟨wr.heap.size, 1, none⟩) | 156 => v_ = .string ⟨#[103]⟩ | 157 => v_ = .bool false | 158 => v_ = .bool false | 159 => v_ = .bool false | 160 => v_ = .pointer (some ⟨wr.heap.size, 3, none⟩) | 161 => v_ = .string ⟨#[bb]⟩ | 162 => v_ = .slice (some ⟨b3, o3, none⟩) k cp3 | 163 => v_ = .int .i64 i | 164 => v_ = .pointer (some ⟨b3, o3 + i * 2, none⟩) | 165 => v_ = .pointer (some ⟨b3, o3 + i * 2, none⟩) | 166 => v_ = .string ⟨#[bb]⟩ | 167 => v_ = .bool false | 168 => v_ = .bool false | 169 => v_ = .bool false | 170 => v_ = .pointer (some ⟨wr.heap.size, 5, none⟩) | 171 => v_ = .int .i64 6 | 172 => v_ = .int .i64 6 | 173 => v_ = .bool false | 174 => v_ = .bool false | _ => True) := ⟨_, rfl⟩
                      refine wp_region_loose (Below W2.heap.size W2 ·) (fun _ _ => True) V (by kernel_rfl) (by kernel_rfl) (by kernel_rfl) (Below.refl _ _).drew (fun _ => trivial) ?_ ?_ ?_
                      · intro t v w w' hC hR h
                        rw [HV.out] at h ⊢
                        exact h
                      · go_light
                        simp only [List.forall_mem_cons]
                        refine ⟨?_, ?_, ?_, ?_, ?_, ?_, ?_, ?_, ?_, ?_, ?_, ?_, ?_, ?_, ?_, ?_, ?_, ?_, ?_, ?_, ?_, ?_, ?_, ?_, fun _ h => by cases h⟩
                        · intro ρ w1 hc hf hg ho hC hV
                          have e15 := ho 15 (by decide)
                          simp only [execOp]
                          go_simp
                          exact ⟨hC, trivial, (by show V 151 _ _; rw [HV.out]; exact rfl)⟩
                        · intro ρ w1 hc hf hg ho hC hV
                          have e151 : ρ (.tmp 151) = .pointer (some ⟨wr.heap.size, 0, none⟩) := by have h := hV 151 (by decide) (by decide); rw [HV.out] at h; exact h
                          have p0' := cell_below hC p0
                          simp only [execOp]
                          go_simp
                          exact ⟨hC, trivial, (by show V 152 _ _; rw [HV.out]; exact rfl)⟩
                        · intro ρ w1 hc hf hg ho hC hV
                          have e152 : ρ (.tmp 152) = .int .i64 12 := by have h := hV 152 (by decide) (by decide); rw [HV.out] at h; exact h
                          simp only [execOp]
                          go_simp
                          exact ⟨hC, trivial, (by show V 153 _ _; rw [HV.out]; exact rfl)⟩
                        · intro ρ w1 hc hf hg ho hC hV
                          have e153 : ρ (.tmp 153) = .bool false := by have h := hV 153 (by decide) (by decide); rw [HV.out] at h; exact h
                          simp only [execOp]
                          go_simp
                          exact ⟨hC, trivial, (by show V 154 _ _; rw [HV.out]; exact rfl)⟩
                        · intro ρ w1 hc hf hg ho hC hV
                          refine ⟨154, _, rfl, by have h := hV 154 (by decide) (by decide); rw [HV.out] at h; exact h, ?_⟩
                          rw [if_pos rfl]
                          have e15 := ho 15 (by decide)
                          simp only [execOp]
                          go_simp
                          exact ⟨hC, trivial, (by show V 155 _ _; rw [HV.out]; exact rfl)⟩
                        · intro ρ w1 hc hf hg ho hC hV
                          refine ⟨154, _, rfl, by have h := hV 154 (by decide) (by decide); rw [HV.out] at h; exact h, ?_⟩
                          rw [if_pos rfl]
                          have e155 : ρ (.tmp 155) = .pointer (some ⟨wr.heap.size, 1, none⟩) := by have h := hV 155 (by decide) (by decide); rw [HV.out] at h; exact h
                          have p1' := cell_below hC p1
                          simp only [execOp]
                          go_simp
                          exact ⟨hC, trivial, (by show V 156 _ _; rw [HV.out]; exact rfl)⟩
                        · intro ρ w1 hc hf hg ho hC hV
                          refine ⟨154, _, rfl, by have h := hV 154 (by decide) (by decide); rw [HV.out] at h; exact h, ?_⟩
                          rw [if_pos rfl]
                          have e156 : ρ (.tmp 156) = .string ⟨#[103]⟩ := by have h := hV 156 (by decide) (by decide); rw [HV.out] at h; exact h
                          simp only [execOp]
                          go_simp
                          exact ⟨hC, trivial, (by show V 157 _ _; rw [HV.out]; exact rfl)⟩
                        · intro ρ w1 hc hf hg ho hC hV
                          have e154 : ρ (.tmp 154) = .bool false := by have h := hV 154 (by decide) (by decide); rw [HV.out] at h; exact h
                          have e157 : ρ (.tmp 157) = .bool false := by have h := hV 157 (by decide) (by decide); rw [HV.out] at h; exact h
                          simp only [execOp]
                          go_simp
                          exact ⟨hC, trivial, (by show V 158 _ _; rw [HV.out]; exact rfl)⟩
                        · intro ρ w1 hc hf hg ho hC hV
                          have e158 : ρ (.tmp 158) = .bool false := by have h := hV 158 (by decide) (by decide); rw [HV.out] at h; exact h
                          simp only [execOp]
                          go_simp
                          exact ⟨hC, trivial, (by show V 159 _ _; rw [HV.out]; exact rfl)⟩
                        · intro ρ w1 hc hf hg ho hC hV
                          refine ⟨159, _, rfl, by have h := hV 159 (by decide) (by decide); rw [HV.out] at h; exact h, ?_⟩
                          rw [if_pos rfl]
                          have e15 := ho 15 (by decide)
                          simp only [execOp]
                          go_simp
                          exact ⟨hC, trivial, (by show V 160 _ _; rw [HV.out]; exact rfl)⟩
                        · intro ρ w1 hc hf hg ho hC hV
                          refine ⟨159, _, rfl, by have h := hV 159 (by decide) (by decide); rw [HV.out] at h; exact h, ?_⟩
                          rw [if_pos rfl]
                          have e160 : ρ (.tmp 160) = .pointer (some ⟨wr.heap.size, 3, none⟩) := by have h := hV 160 (by decide) (by decide); rw [HV.out] at h; exact h
                          have p3' := cell_below hC p3
                          simp only [execOp]
                          go_simp
                          exact ⟨hC, trivial, (by show V 161 _ _; rw [HV.out]; exact rfl)⟩
                        · intro ρ w1 hc hf hg ho hC hV
                          refine ⟨159, _, rfl, by have h := hV 159 (by decide) (by decide); rw [HV.out] at h; exact h, ?_⟩
                          rw [if_pos rfl]
                          have e11 := ho 11 (by decide)
                          simp only [execOp]
                          go_simp
                          exact ⟨hC, trivial, (by show V 162 _ _; rw [HV.out]; exact rfl)⟩
                        · intro ρ w1 hc hf hg ho hC hV
                          refine ⟨159, _, rfl, by have h := hV 159 (by decide) (by decide); rw [HV.out] at h; exact h, ?_⟩
                          rw [if_pos rfl]
                          have e14 := ho 14 (by decide)
                          simp only [execOp]
                          go_simp
                          exact ⟨hC, trivial, (by show V 163 _ _; rw [HV.out]; exact rfl)⟩
                        · intro ρ w1 hc hf hg ho hC hV
                          refine ⟨159, _, rfl, by have h := hV 159 (by decide) (by decide); rw [HV.out] at h; exact h, ?_⟩
                          rw [if_pos rfl]
                          have e162 : ρ (.tmp 162) = .slice (some ⟨b3, o3, none⟩) k cp3 := by have h := hV 162 (by decide) (by decide); rw [HV.out] at h; exact h
                          have e163 : ρ (.tmp 163) = .int .i64 i := by have h := hV 163 (by decide) (by decide); rw [HV.out] at h; exact h
                          simp only [execOp]
                          go_simp
                          exact ⟨hC, trivial, (by show V 164 _ _; rw [HV.out]; exact rfl)⟩
                        · intro ρ w1 hc hf hg ho hC hV
                          refine ⟨159, _, rfl, by have h := hV 159 (by decide) (by decide); rw [HV.out] at h; exact h, ?_⟩
                          rw [if_pos rfl]
                          have e164 : ρ (.tmp 164) = .pointer (some ⟨b3, o3 + i * 2, none⟩) := by have h := hV 164 (by decide) (by decide); rw [HV.out] at h; exact h
                          simp only [execOp]
                          go_simp
                          exact ⟨hC, trivial, (by show V 165 _ _; rw [HV.out]; exact rfl)⟩
                        · intro ρ w1 hc hf hg ho hC hV
                          refine ⟨159, _, rfl, by have h := hV 159 (by decide) (by decide); rw [HV.out] at h; exact h, ?_⟩
                          rw [if_pos rfl]
                          have e165 : ρ (.tmp 165) = .pointer (some ⟨b3, o3 + i * 2, none⟩) := by have h := hV 165 (by decide) (by decide); rw [HV.out] at h; exact h
                          have hs2' := cell_below hC hs2
                          simp only [execOp]
                          go_simp
                          exact ⟨hC, trivial, (by show V 166 _ _; rw [HV.out]; exact rfl)⟩
                        · intro ρ w1 hc hf hg ho hC hV
                          refine ⟨159, _, rfl, by have h := hV 159 (by decide) (by decide); rw [HV.out] at h; exact h, ?_⟩
                          rw [if_pos rfl]
                          have e161 : ρ (.tmp 161) = .string ⟨#[bb]⟩ := by have h := hV 161 (by decide) (by decide); rw [HV.out] at h; exact h
                          have e166 : ρ (.tmp 166) = .string ⟨#[bb]⟩ := by have h := hV 166 (by decide) (by decide); rw [HV.out] at h; exact h
                          simp only [execOp]
                          go_simp
                          exact ⟨hC, trivial, (by show V 167 _ _; rw [HV.out]; exact rfl)⟩
                        · intro ρ w1 hc hf hg ho hC hV
                          have e159 : ρ (.tmp 159) = .bool false := by have h := hV 159 (by decide) (by decide); rw [HV.out] at h; exact h
                          have e167 : ρ (.tmp 167) = .bool false := by have h := hV 167 (by decide) (by decide); rw [HV.out] at h; exact h
                          simp only [execOp]
                          go_simp
                          exact ⟨hC, trivial, (by show V 168 _ _; rw [HV.out]; exact rfl)⟩
                        · intro ρ w1 hc hf hg ho hC hV
                          have e168 : ρ (.tmp 168) = .bool false := by have h := hV 168 (by decide) (by decide); rw [HV.out] at h; exact h
                          simp only [execOp]
                          go_simp
                          exact ⟨hC, trivial, (by show V 169 _ _; rw [HV.out]; exact rfl)⟩
                        · intro ρ w1 hc hf hg ho hC hV
                          refine ⟨169, _, rfl, by have h := hV 169 (by decide) (by decide); rw [HV.out] at h; exact h, ?_⟩
                          rw [if_pos rfl]
                          have e15 := ho 15 (by decide)
                          have p5' := cell_below hC p5
                          simp only [execOp]
                          go_simp
                          exact ⟨hC, trivial, (by show V 170 _ _; rw [HV.out]; exact rfl)⟩
                        · intro ρ w1 hc hf hg ho hC hV
                          refine ⟨169, _, rfl, by have h := hV 169 (by decide) (by decide); rw [HV.out] at h; exact h, ?_⟩
                          rw [if_pos rfl]
                          have e170 : ρ (.tmp 170) = .pointer (some ⟨wr.heap.size, 5, none⟩) := by have h := hV 170 (by decide) (by decide); rw [HV.out] at h; exact h
                          have p5' := cell_below hC p5
                          simp only [execOp]
                          go_simp
                          exact ⟨hC, trivial, (by show V 171 _ _; rw [HV.out]; exact rfl)⟩
                        · intro ρ w1 hc hf hg ho hC hV
                          refine ⟨169, _, rfl, by have h := hV 169 (by decide) (by decide); rw [HV.out] at h; exact h, ?_⟩
                          rw [if_pos rfl]
                          have e17 := ho 17 (by decide)
                          simp only [execOp]
                          go_simp
                          exact ⟨hC, trivial, (by show V 172 _ _; rw [HV.out]; exact rfl)⟩
                        · intro ρ w1 hc hf hg ho hC hV
                          refine ⟨169, _, rfl, by have h := hV 169 (by decide) (by decide); rw [HV.out] at h; exact h, ?_⟩
                          rw [if_pos rfl]
                          have e171 : ρ (.tmp 171) = .int .i64 6 := by have h := hV 171 (by decide) (by decide); rw [HV.out] at h; exact h
                          have e172 : ρ (.tmp 172) = .int .i64 6 := by have h := hV 172 (by decide) (by decide); rw [HV.out] at h; exact h
                          simp only [execOp]
                          go_simp
                          exact ⟨hC, trivial, (by show V 173 _ _; rw [HV.out]; exact rfl)⟩
                        · intro ρ w1 hc hf hg ho hC hV
                          have e169 : ρ (.tmp 169) = .bool false := by have h := hV 169 (by decide) (by decide); rw [HV.out] at h; exact h
                          have e173 : ρ (.tmp 173) = .bool false := by have h := hV 173 (by decide) (by decide); rw [HV.out] at h; exact h
                          simp only [execOp]
                          go_simp
                          exact ⟨hC, trivial, (by show V 174 _ _; rw [HV.out]; exact rfl)⟩
                      · intro σ w1 hC hV
                        have v151 : σ 151 = .pointer (some ⟨wr.heap.size, 0, none⟩) := by have h := hV 151 (by decide); rw [HV.out] at h; exact h
                        have v152 : σ 152 = .int .i64 12 := by have h := hV 152 (by decide); rw [HV.out] at h; exact h
                        have v153 : σ 153 = .bool false := by have h := hV 153 (by decide); rw [HV.out] at h; exact h
                        have v154 : σ 154 = .bool false := by have h := hV 154 (by decide); rw [HV.out] at h; exact h
                        have v155 : σ 155 = .pointer (some ⟨wr.heap.size, 1, none⟩) := by have h := hV 155 (by decide); rw [HV.out] at h; exact h
                        have v156 : σ 156 = .string ⟨#[103]⟩ := by have h := hV 156 (by decide); rw [HV.out] at h; exact h
                        have v157 : σ 157 = .bool false := by have h := hV 157 (by decide); rw [HV.out] at h; exact h
                        have v158 : σ 158 = .bool false := by have h := hV 158 (by decide); rw [HV.out] at h; exact h
                        have v159 : σ 159 = .bool false := by have h := hV 159 (by decide); rw [HV.out] at h; exact h
                        have v160 : σ 160 = .pointer (some ⟨wr.heap.size, 3, none⟩) := by have h := hV 160 (by decide); rw [HV.out] at h; exact h
                        have v161 : σ 161 = .string ⟨#[bb]⟩ := by have h := hV 161 (by decide); rw [HV.out] at h; exact h
                        have v162 : σ 162 = .slice (some ⟨b3, o3, none⟩) k cp3 := by have h := hV 162 (by decide); rw [HV.out] at h; exact h
                        have v163 : σ 163 = .int .i64 i := by have h := hV 163 (by decide); rw [HV.out] at h; exact h
                        have v164 : σ 164 = .pointer (some ⟨b3, o3 + i * 2, none⟩) := by have h := hV 164 (by decide); rw [HV.out] at h; exact h
                        have v165 : σ 165 = .pointer (some ⟨b3, o3 + i * 2, none⟩) := by have h := hV 165 (by decide); rw [HV.out] at h; exact h
                        have v166 : σ 166 = .string ⟨#[bb]⟩ := by have h := hV 166 (by decide); rw [HV.out] at h; exact h
                        have v167 : σ 167 = .bool false := by have h := hV 167 (by decide); rw [HV.out] at h; exact h
                        have v168 : σ 168 = .bool false := by have h := hV 168 (by decide); rw [HV.out] at h; exact h
                        have v169 : σ 169 = .bool false := by have h := hV 169 (by decide); rw [HV.out] at h; exact h
                        have v170 : σ 170 = .pointer (some ⟨wr.heap.size, 5, none⟩) := by have h := hV 170 (by decide); rw [HV.out] at h; exact h
                        have v171 : σ 171 = .int .i64 6 := by have h := hV 171 (by decide); rw [HV.out] at h; exact h
                        have v172 : σ 172 = .int .i64 6 := by have h := hV 172 (by decide); rw [HV.out] at h; exact h
                        have v173 : σ 173 = .bool false := by have h := hV 173 (by decide); rw [HV.out] at h; exact h
                        have v174 : σ 174 = .bool false := by have h := hV 174 (by decide); rw [HV.out] at h; exact h
                        clear hV HV V
                        dsimp only [dsts, List.filterMap, putAll, Act.put]
                        have hb10 := below_step hb9 hC
                        clear hC p0 p1 p3 p5 hs2 hb9
                        rw [v151, v152, v153, v154, v155, v156, v157, v158, v159, v160, v161, v162, v163, v164, v165, v166, v167, v168, v169, v170, v171, v172, v173, v174]
                        clear v151 v152 v153 v154 v155 v156 v157 v158 v159 v160 v161 v162 v163 v164 v165 v166 v167 v168 v169 v170 v171 v172 v173 v174
                        go_simp
                        go_wp2
                        go_roundw
                        case rel => exact ⟨i + 1, by omega, by go_num, hb10⟩
                        case measure => simp [intOf]; omega
                    · clear hwt
                      go_wp2_with fail
                      generalize hW2 : wr.alloc _ = W2 at hs2 ⊢
                      have p0 : W2.cell? ⟨wr.heap.size, 0, none⟩ = some (.int .i64 12) := by rw [← hW2, cell_new]; rfl
                      have p1 : W2.cell? ⟨wr.heap.size, 1, none⟩ = some (.string ⟨#[103]⟩) := by rw [← hW2, cell_new]; rfl
                      have p3 : W2.cell? ⟨wr.heap.size, 3, none⟩ = some (.string ⟨#[bb]⟩) := by rw [← hW2, cell_new]; rfl
                      have p5 : W2.cell? ⟨wr.heap.size, 5, none⟩ = some (.int .i64 (1 + (j : Int))) := by rw [← hW2, cell_new]; rfl
                      have hb9 : Below w6.heap.size w6 W2 := by rw [← hW2]; exact below_alloc hb7 _
                      clear hW2 c0 c1 c2 c3 c4 c5 c6 c7 c8 hs hb7
                      obtain ⟨V, HV⟩ : ∃ V : Tmp → Value → World → Prop, Hid (V = fun sl_ v_ w_ => match sl_ with | 151 => v_ = .pointer (some ⟨wr.heap.size, 0, none⟩) | 152 => v_ = .int .i64 12 | 153 => v_ = .bool false | 154 => v_ = .bool false | 155 => v_ = .pointer (some ⟨wr.heap.size, 1, none⟩) | 156 => v_ = .string ⟨#[103]⟩ | 157 => v_ = .bool false | 158 => v_ = .bool false | 159 => v_ = .bool false | 160 => v_ = .pointer (some ⟨wr.heap.size, 3, none⟩) | 161 => v_ = .string ⟨#[bb]⟩ | 162 => v_ = .slice (some ⟨b3, o3, none⟩) k cp3 | 163 => v_ = .int .i64 i | 164 => v_ = .pointer (some ⟨b3, o3 + i * 2, none⟩) | 165 => v_ = .pointer (some ⟨b3, o3 + i * 2, none⟩) | 166 => v_ = .string ⟨#[bb]⟩ | 167 => v_ = .bool false | 168 => v_ = .bool false | 169 => v_ = .bool false | 170 => v_ = .pointer (some ⟨wr.heap.size, 5, none⟩) | 171 => v_ = .int .i64 (1 + (j : Int)) | 172 => v_ = .int .i64 (1 + (j : Int)) | 173 => v_ = .bool false | 174 => v_ = .bool false | _ => True) := ⟨_, rfl⟩
                      refine wp_region_loose (Below W2.heap.size W2 ·) (fun _ _ => True) V (by kernel_rfl) (by kernel_rfl) (by kernel_rfl) (Below.refl _ _).drew (fun _ => trivial) ?_ ?_ ?_
                      · intro t v w w' hC hR h
                        rw [HV.out] at h ⊢
                        exact h
                      · go_light
                        simp only [List.forall_mem_cons]
                        refine ⟨?_, ?_, ?_, ?_, ?_, ?_, ?_, ?_, ?_, ?_, ?_, ?_, ?_, ?_, ?_, ?_, ?_, ?_, ?_, ?_, ?_, ?_, ?_, ?_, fun _ h => by cases h⟩
                        · intro ρ w1 hc hf hg ho hC hV
                          have e15 := ho 15 (by decide)
                          simp only [execOp]
                          go_simp
                          exact ⟨hC, trivial, (by show V 151 _ _; rw [HV.out]; exact rfl)⟩
                        · intro ρ w1 hc hf hg ho hC hV
                          have e151 : ρ (.tmp 151) = .pointer (some ⟨wr.heap.size, 0, none⟩) := by have h := hV 151 (by decide) (by decide); rw [HV.out] at h; exact h
                          have p0' := cell_below hC p0
                          simp only [execOp]
                          go_simp
                          exact ⟨hC, trivial, (by show V 152 _ _; rw [HV.out]; exact rfl)⟩
                        · intro ρ w1 hc hf hg ho hC hV
                          have e152 : ρ (.tmp 152) = .int .i64 12 := by have h := hV 152 (by decide) (by decide); rw [HV.out] at h; exact h
                          simp only [execOp]
                          go_simp
                          exact ⟨hC, trivial, (by show V 153 _ _; rw [HV.out]; exact rfl)⟩
                        · intro ρ w1 hc hf hg ho hC hV
                          have e153 : ρ (.tmp 153) = .bool false := by have h := hV 153 (by decide) (by decide); rw [HV.out] at h; exact h
                          simp only [execOp]
                          go_simp
                          exact ⟨hC, trivial, (by show V 154 _ _; rw [HV.out]; exact rfl)⟩
                        · intro ρ w1 hc hf hg ho hC hV
                          refine ⟨154, _, rfl, by have h := hV 154 (by decide) (by decide); rw [HV.out] at h; exact h, ?_⟩
                          rw [if_pos rfl]
                          have e15 := ho 15 (by decide)
                          simp only [execOp]
                          go_simp
                          exact ⟨hC, trivial, (by show V 155 _ _; rw [HV.out]; exact rfl)⟩
                        · intro ρ w1 hc hf hg ho hC hV
                          refine ⟨154, _, rfl, by have h := hV 154 (by decide) (by decide); rw [HV.out] at h; exact h, ?_⟩
                          rw [if_pos rfl]
                          have e155 : ρ (.tmp 155) = .pointer (some ⟨wr.heap.size, 1, none⟩) := by have h := hV 155 (by decide) (by decide); rw [HV.out] at h; exact h
                          have p1' := cell_below hC p1
                          simp only [execOp]
                          go_simp
                          exact ⟨hC, trivial, (by show V 156 _ _; rw [HV.out]; exact rfl)⟩
                        · intro ρ w1 hc hf hg ho hC hV
                          refine ⟨154, _, rfl, by have h := hV 154 (by decide) (by decide); rw [HV.out] at h; exact h, ?_⟩
                          rw [if_pos rfl]
                          have e156 : ρ (.tmp 156) = .string ⟨#[103]⟩ := by have h := hV 156 (by decide) (by decide); rw [HV.out] at h; exact h
                          simp only [execOp]
                          go_simp
                          exact ⟨hC, trivial, (by show V 157 _ _; rw [HV.out]; exact rfl)⟩
                        · intro ρ w1 hc hf hg ho hC hV
                          have e154 : ρ (.tmp 154) = .bool false := by have h := hV 154 (by decide) (by decide); rw [HV.out] at h; exact h
                          have e157 : ρ (.tmp 157) = .bool false := by have h := hV 157 (by decide) (by decide); rw [HV.out] at h; exact h
                          simp only [execOp]
                          go_simp
                          exact ⟨hC, trivial, (by show V 158 _ _; rw [HV.out]; exact rfl)⟩
                        · intro ρ w1 hc hf hg ho hC hV
                          have e158 : ρ (.tmp 158) = .bool false := by have h := hV 158 (by decide) (by decide); rw [HV.out] at h; exact h
                          simp only [execOp]
                          go_simp
                          exact ⟨hC, trivial, (by show V 159 _ _; rw [HV.out]; exact rfl)⟩
                        · intro ρ w1 hc hf hg ho hC hV
                          refine ⟨159, _, rfl, by have h := hV 159 (by decide) (by decide); rw [HV.out] at h; exact h, ?_⟩
                          rw [if_pos rfl]
                          have e15 := ho 15 (by decide)
                          simp only [execOp]
                          go_simp
                          exact ⟨hC, trivial, (by show V 160 _ _; rw [HV.out]; exact rfl)⟩
                        · intro ρ w1 hc hf hg ho hC hV
                          refine ⟨159, _, rfl, by have h := hV 159 (by decide) (by decide); rw [HV.out] at h; exact h, ?_⟩
                          rw [if_pos rfl]
                          have e160 : ρ (.tmp 160) = .pointer (some ⟨wr.heap.size, 3, none⟩) := by have h := hV 160 (by decide) (by decide); rw [HV.out] at h; exact h
                          have p3' := cell_below hC p3
                          simp only [execOp]
                          go_simp
                          exact ⟨hC, trivial, (by show V 161 _ _; rw [HV.out]; exact rfl)⟩
                        · intro ρ w1 hc hf hg ho hC hV
                          refine ⟨159, _, rfl, by have h := hV 159 (by decide) (by decide); rw [HV.out] at h; exact h, ?_⟩
                          rw [if_pos rfl]
                          have e11 := ho 11 (by decide)
                          simp only [execOp]
                          go_simp
                          exact ⟨hC, trivial, (by show V 162 _ _; rw [HV.out]; exact rfl)⟩
                        · intro ρ w1 hc hf hg ho hC hV
                          refine ⟨159, _, rfl, by have h := hV 159 (by decide) (by decide); rw [HV.out] at h; exact h, ?_⟩
                          rw [if_pos rfl]
                          have e14 := ho 14 (by decide)
                          simp only [execOp]
                          go_simp
                          exact ⟨hC, trivial, (by show V 163 _ _; rw [HV.out]; exact rfl)⟩
                        · intro ρ w1 hc hf hg ho hC hV
                          refine ⟨159, _, rfl, by have h := hV 159 (by decide) (by decide); rw [HV.out] at h; exact h, ?_⟩
                          rw [if_pos rfl]
                          have e162 : ρ (.tmp 162) = .slice (some ⟨b3, o3, none⟩) k cp3 := by have h := hV 162 (by decide) (by decide); rw [HV.out] at h; exact h
                          have e163 : ρ (.tmp 163) = .int .i64 i := by have h := hV 163 (by decide) (by decide); rw [HV.out] at h; exact h
                          simp only [execOp]
                          go_simp
                          exact ⟨hC, trivial, (by show V 164 _ _; rw [HV.out]; exact rfl)⟩
                        · intro ρ w1 hc hf hg ho hC hV
                          refine ⟨159, _, rfl, by have h := hV 159 (by decide) (by decide); rw [HV.out] at h; exact h, ?_⟩
                          rw [if_pos rfl]
                          have e164 : ρ (.tmp 164) = .pointer (some ⟨b3, o3 + i * 2, none⟩) := by have h := hV 164 (by decide) (by decide); rw [HV.out] at h; exact h
                          simp only [execOp]
                          go_simp
                          exact ⟨hC, trivial, (by show V 165 _ _; rw [HV.out]; exact rfl)⟩
                        · intro ρ w1 hc hf hg ho hC hV
                          refine ⟨159, _, rfl, by have h := hV 159 (by decide) (by decide); rw [HV.out] at h; exact h, ?_⟩
                          rw [if_pos rfl]
                          have e165 : ρ (.tmp 165) = .pointer (some ⟨b3, o3 + i * 2, none⟩) := by have h := hV 165 (by decide) (by decide); rw [HV.out] at h; exact h
                          have hs2' := cell_below hC hs2
                          simp only [execOp]
                          go_simp
                          exact ⟨hC, trivial, (by show V 166 _ _; rw [HV.out]; exact rfl)⟩
                        · intro ρ w1 hc hf hg ho hC hV
                          refine ⟨159, _, rfl, by have h := hV 159 (by decide) (by decide); rw [HV.out] at h; exact h, ?_⟩
                          rw [if_pos rfl]
                          have e161 : ρ (.tmp 161) = .string ⟨#[bb]⟩ := by have h := hV 161 (by decide) (by decide); rw [HV.out] at h; exact h
                          have e166 : ρ (.tmp 166) = .string ⟨#[bb]⟩ := by have h := hV 166 (by decide) (by decide); rw [HV.out] at h; exact h
                          simp only [execOp]
                          go_simp
                          exact ⟨hC, trivial, (by show V 167 _ _; rw [HV.out]; exact rfl)⟩
                        · intro ρ w1 hc hf hg ho hC hV
                          have e159 : ρ (.tmp 159) = .bool false := by have h := hV 159 (by decide) (by decide); rw [HV.out] at h; exact h
                          have e167 : ρ (.tmp 167) = .bool false := by have h := hV 167 (by decide) (by decide); rw [HV.out] at h; exact h
                          simp only [execOp]
                          go_simp
                          exact ⟨hC, trivial, (by show V 168 _ _; rw [HV.out]; exact rfl)⟩
                        · intro ρ w1 hc hf hg ho hC hV
                          have e168 : ρ (.tmp 168) = .bool false := by have h := hV 168 (by decide) (by decide); rw [HV.out] at h; exact h
                          simp only [execOp]
                          go_simp
                          exact ⟨hC, trivial, (by show V 169 _ _; rw [HV.out]; exact rfl)⟩
                        · intro ρ w1 hc hf hg ho hC hV
                          refine ⟨169, _, rfl, by have h := hV 169 (by decide) (by decide); rw [HV.out] at h; exact h, ?_⟩
                          rw [if_pos rfl]
                          have e15 := ho 15 (by decide)
                          have p5' := cell_below hC p5
                          simp only [execOp]
                          go_simp
                          exact ⟨hC, trivial, (by show V 170 _ _; rw [HV.out]; exact rfl)⟩
                        · intro ρ w1 hc hf hg ho hC hV
                          refine ⟨169, _, rfl, by have h := hV 169 (by decide) (by decide); rw [HV.out] at h; exact h, ?_⟩
                          rw [if_pos rfl]
                          have e170 : ρ (.tmp 170) = .pointer (some ⟨wr.heap.size, 5, none⟩) := by have h := hV 170 (by decide) (by decide); rw [HV.out] at h; exact h
                          have p5' := cell_below hC p5
                          simp only [execOp]
                          go_simp
                          exact ⟨hC, trivial, (by show V 171 _ _; rw [HV.out]; exact rfl)⟩
                        · intro ρ w1 hc hf hg ho hC hV
                          refine ⟨169, _, rfl, by have h := hV 169 (by decide) (by decide); rw [HV.out] at h; exact h, ?_⟩
                          rw [if_pos rfl]
                          have e17 := ho 17 (by decide)
                          simp only [execOp]
                          go_simp
                          exact ⟨hC, trivial, (by show V 172 _ _; rw [HV.out]; exact rfl)⟩
                        · intro ρ w1 hc hf hg ho hC hV
                          refine ⟨169, _, rfl, by have h := hV 169 (by decide) (by decide); rw [HV.out] at h; exact h, ?_⟩
                          rw [if_pos rfl]
                          have e171 : ρ (.tmp 171) = .int .i64 (1 + (j : Int)) := by have h := hV 171 (by decide) (by decide); rw [HV.out] at h; exact h
                          have e172 : ρ (.tmp 172) = .int .i64 (1 + (j : Int)) := by have h := hV 172 (by decide) (by decide); rw [HV.out] at h; exact h
                          simp only [execOp]
                          go_simp
                          exact ⟨hC, trivial, (by show V 173 _ _; rw [HV.out]; exact rfl)⟩
                        · intro ρ w1 hc hf hg ho hC hV
                          have e169 : ρ (.tmp 169) = .bool false := by have h := hV 169 (by decide) (by decide); rw [HV.out] at h; exact h
                          have e173 : ρ (.tmp 173) = .bool false := by have h := hV 173 (by decide) (by decide); rw [HV.out] at h; exact h
                          simp only [execOp]
                          go_simp
                          exact ⟨hC, trivial, (by show V 174 _ _; rw [HV.out]; exact rfl)⟩
                      · intro σ w1 hC hV
                        have v151 : σ 151 = .pointer (some ⟨wr.heap.size, 0, none⟩) := by have h := hV 151 (by decide); rw [HV.out] at h; exact h
                        have v152 : σ 152 = .int .i64 12 := by have h := hV 152 (by decide); rw [HV.out] at h; exact h
                        have v153 : σ 153 = .bool false := by have h := hV 153 (by decide); rw [HV.out] at h; exact h
                        have v154 : σ 154 = .bool false := by have h := hV 154 (by decide); rw [HV.out] at h; exact h
                        have v155 : σ 155 = .pointer (some ⟨wr.heap.size, 1, none⟩) := by have h := hV 155 (by decide); rw [HV.out] at h; exact h
                        have v156 : σ 156 = .string ⟨#[103]⟩ := by have h := hV 156 (by decide); rw [HV.out] at h; exact h
                        have v157 : σ 157 = .bool false := by have h := hV 157 (by decide); rw [HV.out] at h; exact h
                        have v158 : σ 158 = .bool false := by have h := hV 158 (by decide); rw [HV.out] at h; exact h
                        have v159 : σ 159 = .bool false := by have h := hV 159 (by decide); rw [HV.out] at h; exact h
                        have v160 : σ 160 = .pointer (some ⟨wr.heap.size, 3, none⟩) := by have h := hV 160 (by decide); rw [HV.out] at h; exact h
                        have v161 : σ 161 = .string ⟨#[bb]⟩ := by have h := hV 161 (by decide); rw [HV.out] at h; exact h
                        have v162 : σ 162 = .slice (some ⟨b3, o3, none⟩) k cp3 := by have h := hV 162 (by decide); rw [HV.out] at h; exact h
                        have v163 : σ 163 = .int .i64 i := by have h := hV 163 (by decide); rw [HV.out] at h; exact h
                        have v164 : σ 164 = .pointer (some ⟨b3, o3 + i * 2, none⟩) := by have h := hV 164 (by decide); rw [HV.out] at h; exact h
                        have v165 : σ 165 = .pointer (some ⟨b3, o3 + i * 2, none⟩) := by have h := hV 165 (by decide); rw [HV.out] at h; exact h
                        have v166 : σ 166 = .string ⟨#[bb]⟩ := by have h := hV 166 (by decide); rw [HV.out] at h; exact h
                        have v167 : σ 167 = .bool false := by have h := hV 167 (by decide); rw [HV.out] at h; exact h
                        have v168 : σ 168 = .bool false := by have h := hV 168 (by decide); rw [HV.out] at h; exact h
                        have v169 : σ 169 = .bool false := by have h := hV 169 (by decide); rw [HV.out] at h; exact h
                        have v170 : σ 170 = .pointer (some ⟨wr.heap.size, 5, none⟩) := by have h := hV 170 (by decide); rw [HV.out] at h; exact h
                        have v171 : σ 171 = .int .i64 (1 + (j : Int)) := by have h := hV 171 (by decide); rw [HV.out] at h; exact h
                        have v172 : σ 172 = .int .i64 (1 + (j : Int)) := by have h := hV 172 (by decide); rw [HV.out] at h; exact h
                        have v173 : σ 173 = .bool false := by have h := hV 173 (by decide); rw [HV.out] at h; exact h
                        have v174 : σ 174 = .bool false := by have h := hV 174 (by decide); rw [HV.out] at h; exact h
                        clear hV HV V
                        dsimp only [dsts, List.filterMap, putAll, Act.put]
                        have hb10 := below_step hb9 hC
                        clear hC p0 p1 p3 p5 hs2 hb9
                        rw [v151, v152, v153, v154, v155, v156, v157, v158, v159, v160, v161, v162, v163, v164, v165, v166, v167, v168, v169, v170, v171, v172, v173, v174]
                        clear v151 v152 v153 v154 v155 v156 v157 v158 v159 v160 v161 v162 v163 v164 v165 v166 v167 v168 v169 v170 v171 v172 v173 v174
                        go_simp
                        go_wp2
                        go_roundw
                        case rel => exact ⟨i + 1, by omega, by go_num, hb10⟩
                        case measure => simp [intOf]; omega
                  · have hik : i = k := by omega
                    subst hik
                    clear hlt7 hi
                    go_wp2_with fail
                    refine (wakes18 _).mono ?_
                    rintro e w8 ⟨rfl, hb8⟩
                    go_wp2
                    go_ret
                    exact ⟨rfl, below_step (below_step hbw6 hb7) hb8⟩
              · clear hin
                by_cases hk0 : k = 0
                · subst hk0
                  go_wp2_with fail
                  refine (wakes18 _).mono ?_
                  rintro e w8 ⟨rfl, hb8⟩
                  go_wp2
                  go_ret
                  exact ⟨rfl, below_step (below_step hbw3 hb5) hb8⟩
                · have hk00 : 0 < k := by omega
                  have hkb : ((k : Int) == 0) = false := by rw [beq_eq_false_iff_ne]; omega
                  go_wp2_with fail
                  have hJl := hJlH.out
                  have hk1 : 0 < (J.map qI).length := by rw [List.length_map]; omega
                  obtain ⟨b3, o3, hA3, hcs3⟩ := (own_rowOf (cells := Item.cells) (fun _ => rfl) (by decide) hownH.out).2 hk1
                  subst hA3
                  have hX : ItemsAt wr (some ⟨b3, o3, none⟩) (J.map qI) := fun _ => ⟨b3, o3, rfl, hcs3⟩
                  have hOI := of_items A2 cp2 (ents G) (by rw [ents_length]; have := hmG.out; omega) (items_le G) ⟨#[103]⟩ b3 o3 cp3 (J.map qI) hk1 (by rw [List.length_map]; omega) 27 okL st27 call27 tells27 (qs_ok J hJH.out) wr (hent3.out.below hb5) hX
                  rw [tell_qs G (by have := hmG.out; omega) J hJH.out, ents_length, ← hmG.out, List.length_map, hJl] at hOI
                  refine hOI.mono ?_
                  clear hOI hX
                  rintro e w6 ⟨v6, rfl, hown6, hb6⟩
                  obtain ⟨A6, cp6, hv6⟩ := own_slice hown6
                  subst hv6
                  have hrow6 := Lib.hid (own_rowOf (cells := Msg.cells) (fun _ => rfl) (by decide) hown6).2
                  have hcq : Hid (∀ (i : Nat) (x : Item), (J.map qI)[i]? = some x → ∀ (j : Nat) (v : Value), x.cells[j]? = some v → w6.cell? ⟨b3, o3 + i * 2 + j, none⟩ = some v) := fun i x hx j v hv => cell_below hb6 (hcs3 i x hx j v hv)
                  have hbw6 := below_step (below_step hbw3 hb5) hb6
                  clear hcs3 hown6 hb6 hb5 hownH hbw3 hent3 hk1 hkb
                  go_wp2_with fail
                  go_loopw [128] (fun i wr => CkRel w6 k i wr) (fun i _ => k - (intOf i).toNat)
                  case atStart => exact ⟨0, Nat.zero_le _, rfl, Below.refl _ _⟩
                  case round =>
                    obtain ⟨i, hi, rfl, hb7⟩ := hrel
                    by_cases hlt7 : i < k
                    · obtain ⟨j, hj⟩ : ∃ j, J[i]? = some j := ⟨_, List.getElem?_eq_getElem (by omega)⟩
                      have hj8 := hJH.out j (List.mem_of_getElem? hj)
                      obtain ⟨b6, o6, hA6, hcs6⟩ := hrow6.out (by rw [List.length_map]; omega)
                      subst hA6
                      have hc : ∀ (q : Nat) (u : Value), (toldOf ⟨#[103]⟩ (lt j) (want m j)).cells[q]? = some u → wr.cell? ⟨b6, o6 + i * 9 + q, none⟩ = some u := fun q u hu => cell_below hb7 (hcs6 i _ (by rw [List.getElem?_map, hj]; rfl) q u hu)
                      have hs : wr.cell? ⟨b3, o3 + i * 2, none⟩ = some (.string (lt j)) := cell_below hb7 (hcq.out i (qI j) (by rw [List.getElem?_map, hj]; rfl) 0 _ rfl)
                      obtain ⟨wt, hwt⟩ : ∃ wt, wt = want m j := ⟨_, rfl⟩
                      rw [← hwt] at hc
                      clear hj hcs6
                      obtain ⟨bb, hlj, hbj⟩ := lt_byte j hj8
                      rw [hlj] at hs hc
                      have c0 : wr.cell? ⟨b6, o6 + i * 9, none⟩ = some (.int .i64 12) := hc 0 _ rfl
                      have c1 : wr.cell? ⟨b6, o6 + i * 9 + 1, none⟩ = some (.string ⟨#[103]⟩) := hc 1 _ rfl
                      have c2 : wr.cell? ⟨b6, o6 + i * 9 + 2, none⟩ = some (.string ⟨#[]⟩) := hc 2 _ rfl
                      have c3 : wr.cell? ⟨b6, o6 + i * 9 + 3, none⟩ = some (.string ⟨#[bb]⟩) := hc 3 _ rfl
                      have c4 : wr.cell? ⟨b6, o6 + i * 9 + 4, none⟩ = some (.int .i64 0) := hc 4 _ rfl
                      have c5 : wr.cell? ⟨b6, o6 + i * 9 + 5, none⟩ = some (.int .i64 wt) := hc 5 _ rfl
                      have c6 : wr.cell? ⟨b6, o6 + i * 9 + 6, none⟩ = some (.int .i64 0) := hc 6 _ rfl
                      have c7 : wr.cell? ⟨b6, o6 + i * 9 + 7, none⟩ = some (.int .i64 0) := hc 7 _ rfl
                      have c8 : wr.cell? ⟨b6, o6 + i * 9 + 8, none⟩ = some (.slice none 0 0) := hc 8 _ rfl
                      have hs2 : (wr.alloc (.cells #[.int .i64 12, .string ⟨#[103]⟩, .string ⟨#[]⟩, .string ⟨#[bb]⟩, .int .i64 0, .int .i64 wt, .int .i64 0, .int .i64 0, .slice none 0 0] 35)).cell? ⟨b3, o3 + i * 2, none⟩ = some (.string ⟨#[bb]⟩) := cell_below (below_alloc (Below.refl _ _) _) hs
                      clear hc hlj
                      rcases want_cases m j wt hwt with ⟨hjd, rfl⟩ | ⟨hjd, hjp, rfl⟩ | ⟨hjd, hjp, rfl⟩
                      · clear hwt
                        go_wp2_with fail
                        generalize hW2 : wr.alloc _ = W2 at hs2 ⊢
                        have p0 : W2.cell? ⟨wr.heap.size, 0, none⟩ = some (.int .i64 12) := by rw [← hW2, cell_new]; rfl
                        have p1 : W2.cell? ⟨wr.heap.size, 1, none⟩ = some (.string ⟨#[103]⟩) := by rw [← hW2, cell_new]; rfl
                        have p3 : W2.cell? ⟨wr.heap.size, 3, none⟩ = some (.string ⟨#[bb]⟩) := by rw [← hW2, cell_new]; rfl
                        have p5 : W2.cell? ⟨wr.heap.size, 5, none⟩ = some (.int .i64 (6)) := by rw [← hW2, cell_new]; rfl
                        have hb9 : Below w6.heap.size w6 W2 := by rw [← hW2]; exact below_alloc hb7 _
                        clear hW2 c0 c1 c2 c3 c4 c5 c6 c7 c8 hs hb7
                        obtain ⟨V, HV⟩ : ∃ V : Tmp → Value → World → Prop, Hid (V = fun sl_ v_ w_ => match sl_ with | 151 => v_ = .pointer (some ⟨wr.heap.size, 0, none⟩) | 152 => v_ = .int .i64 12 | 153 => v_ = .bool false | 154 => v_ = .bool false | 155 => v_ = .pointer (some ⟨wr.heap.size, 1, none⟩) | 156 => v_ = .string ⟨#[103]⟩ | 157 => v_ = .bool false | 158 => v_ = .bool false | 159 => v_ = .bool false | 160 => v_ = .pointer (some ⟨wr.heap.size, 3, none⟩) | 161 => v_ = .string ⟨#[bb]⟩ | 162 => v_ = .slice (some ⟨b3, o3, none⟩) k cp3 | 163 => v_ = .int .i64 i | 164 => v_ = .pointer (some ⟨b3, o3 + i * 2, none⟩) | 165 => v_ = .pointer (some ⟨b3, o3 + i * 2, none⟩) | 166 => v_ = .string ⟨#[bb]⟩ | 167 => v_ = .bool false | 168 => v_ = .bool false | 169 => v_ = .bool false | 170 => v_ = .pointer (some ⟨wr.heap.size, 5, none⟩) | 171 => v_ = .int .i64 6 | 172 => v_ = .int .i64 6 | 173 => v_ = .bool false | 174 => v_ = .bool false | _ => True) := ⟨_, rfl⟩
                        refine wp_region_loose (Below W2.heap.size W2 ·) (fun _ _ => True) V (by kernel_rfl) (by kernel_rfl) (by kernel_rfl) (Below.refl _ _).drew (fun _ => trivial) ?_ ?_ ?_
                        · intro t v w w' hC hR h
                          rw [HV.out] at h ⊢
                          exact h
                        · go_light
                          simp only [List.forall_mem_cons]
                          refine ⟨?_, ?_, ?_, ?_, ?_, ?_, ?_, ?_, ?_, ?_, ?_, ?_, ?_, ?_, ?_, ?_, ?_, ?_, ?_, ?_, ?_, ?_, ?_, ?_, fun _ h => by cases h⟩
                          · intro ρ w1 hc hf hg ho hC hV
                            have e15 := ho 15 (by decide)
                            simp only [execOp]
                            go_simp
                            exact ⟨hC, trivial, (by show V 151 _ _; rw [HV.out]; exact rfl)⟩
                          · intro ρ w1 hc hf hg ho hC hV
                            have e151 : ρ (.tmp 151) = .pointer (some ⟨wr.heap.size, 0, none⟩) := by have h := hV 151 (by decide) (by decide); rw [HV.out] at h; exact h
                            have p0' := cell_below hC p0
                            simp only [execOp]
                            go_simp
                            exact ⟨hC, trivial, (by show V 152 _ _; rw [HV.out]; exact rfl)⟩
                          · intro ρ w1 hc hf hg ho hC hV
                            have e152 : ρ (.tmp 152) = .int .i64 12 := by have h := hV 152 (by decide) (by decide); rw [HV.out] at h; exact h
                            simp only [execOp]
                            go_simp
                            exact ⟨hC, trivial, (by show V 153 _ _; rw [HV.out]; exact rfl)⟩
                          · intro ρ w1 hc hf hg ho hC hV
                            have e153 : ρ (.tmp 153) = .bool false := by have h := hV 153 (by decide) (by decide); rw [HV.out] at h; exact h
                            simp only [execOp]
                            go_simp
                            exact ⟨hC, trivial, (by show V 154 _ _; rw [HV.out]; exact rfl)⟩
                          · intro ρ w1 hc hf hg ho hC hV
                            refine ⟨154, _, rfl, by have h := hV 154 (by decide) (by decide); rw [HV.out] at h; exact h, ?_⟩
                            rw [if_pos rfl]
                            have e15 := ho 15 (by decide)
                            simp only [execOp]
                            go_simp
                            exact ⟨hC, trivial, (by show V 155 _ _; rw [HV.out]; exact rfl)⟩
                          · intro ρ w1 hc hf hg ho hC hV
                            refine ⟨154, _, rfl, by have h := hV 154 (by decide) (by decide); rw [HV.out] at h; exact h, ?_⟩
                            rw [if_pos rfl]
                            have e155 : ρ (.tmp 155) = .pointer (some ⟨wr.heap.size, 1, none⟩) := by have h := hV 155 (by decide) (by decide); rw [HV.out] at h; exact h
                            have p1' := cell_below hC p1
                            simp only [execOp]
                            go_simp
                            exact ⟨hC, trivial, (by show V 156 _ _; rw [HV.out]; exact rfl)⟩
                          · intro ρ w1 hc hf hg ho hC hV
                            refine ⟨154, _, rfl, by have h := hV 154 (by decide) (by decide); rw [HV.out] at h; exact h, ?_⟩
                            rw [if_pos rfl]
                            have e156 : ρ (.tmp 156) = .string ⟨#[103]⟩ := by have h := hV 156 (by decide) (by decide); rw [HV.out] at h; exact h
                            simp only [execOp]
                            go_simp
                            exact ⟨hC, trivial, (by show V 157 _ _; rw [HV.out]; exact rfl)⟩
                          · intro ρ w1 hc hf hg ho hC hV
                            have e154 : ρ (.tmp 154) = .bool false := by have h := hV 154 (by decide) (by decide); rw [HV.out] at h; exact h
                            have e157 : ρ (.tmp 157) = .bool false := by have h := hV 157 (by decide) (by decide); rw [HV.out] at h; exact h
                            simp only [execOp]
                            go_simp
                            exact ⟨hC, trivial, (by show V 158 _ _; rw [HV.out]; exact rfl)⟩
                          · intro ρ w1 hc hf hg ho hC hV
                            have e158 : ρ (.tmp 158) = .bool false := by have h := hV 158 (by decide) (by decide); rw [HV.out] at h; exact h
                            simp only [execOp]
                            go_simp
                            exact ⟨hC, trivial, (by show V 159 _ _; rw [HV.out]; exact rfl)⟩
                          · intro ρ w1 hc hf hg ho hC hV
                            refine ⟨159, _, rfl, by have h := hV 159 (by decide) (by decide); rw [HV.out] at h; exact h, ?_⟩
                            rw [if_pos rfl]
                            have e15 := ho 15 (by decide)
                            simp only [execOp]
                            go_simp
                            exact ⟨hC, trivial, (by show V 160 _ _; rw [HV.out]; exact rfl)⟩
                          · intro ρ w1 hc hf hg ho hC hV
                            refine ⟨159, _, rfl, by have h := hV 159 (by decide) (by decide); rw [HV.out] at h; exact h, ?_⟩
                            rw [if_pos rfl]
                            have e160 : ρ (.tmp 160) = .pointer (some ⟨wr.heap.size, 3, none⟩) := by have h := hV 160 (by decide) (by decide); rw [HV.out] at h; exact h
                            have p3' := cell_below hC p3
                            simp only [execOp]
                            go_simp
                            exact ⟨hC, trivial, (by show V 161 _ _; rw [HV.out]; exact rfl)⟩
                          · intro ρ w1 hc hf hg ho hC hV
                            refine ⟨159, _, rfl, by have h := hV 159 (by decide) (by decide); rw [HV.out] at h; exact h, ?_⟩
                            rw [if_pos rfl]
                            have e11 := ho 11 (by decide)
                            simp only [execOp]
                            go_simp
                            exact ⟨hC, trivial, (by show V 162 _ _; rw [HV.out]; exact rfl)⟩
                          · intro ρ w1 hc hf hg ho hC hV
                            refine ⟨159, _, rfl, by have h := hV 159 (by decide) (by decide); rw [HV.out] at h; exact h, ?_⟩
                            rw [if_pos rfl]
                            have e14 := ho 14 (by decide)
                            simp only [execOp]
                            go_simp
                            exact ⟨hC, trivial, (by show V 163 _ _; rw [HV.out]; exact rfl)⟩
                          · intro ρ w1 hc hf hg ho hC hV
                            refine ⟨159, _, rfl, by have h := hV 159 (by decide) (by decide); rw [HV.out] at h; exact h, ?_⟩
                            rw [if_pos rfl]
                            have e162 : ρ (.tmp 162) = .slice (some ⟨b3, o3, none⟩) k cp3 := by have h := hV 162 (by decide) (by decide); rw [HV.out] at h; exact h
                            have e163 : ρ (.tmp 163) = .int .i64 i := by have h := hV 163 (by decide) (by decide); rw [HV.out] at h; exact h
                            simp only [execOp]
                            go_simp
                            exact ⟨hC, trivial, (by show V 164 _ _; rw [HV.out]; exact rfl)⟩
                          · intro ρ w1 hc hf hg ho hC hV
                            refine ⟨159, _, rfl, by have h := hV 159 (by decide) (by decide); rw [HV.out] at h; exact h, ?_⟩
                            rw [if_pos rfl]
                            have e164 : ρ (.tmp 164) = .pointer (some ⟨b3, o3 + i * 2, none⟩) := by have h := hV 164 (by decide) (by decide); rw [HV.out] at h; exact h
                            simp only [execOp]
                            go_simp
                            exact ⟨hC, trivial, (by show V 165 _ _; rw [HV.out]; exact rfl)⟩
                          · intro ρ w1 hc hf hg ho hC hV
                            refine ⟨159, _, rfl, by have h := hV 159 (by decide) (by decide); rw [HV.out] at h; exact h, ?_⟩
                            rw [if_pos rfl]
                            have e165 : ρ (.tmp 165) = .pointer (some ⟨b3, o3 + i * 2, none⟩) := by have h := hV 165 (by decide) (by decide); rw [HV.out] at h; exact h
                            have hs2' := cell_below hC hs2
                            simp only [execOp]
                            go_simp
                            exact ⟨hC, trivial, (by show V 166 _ _; rw [HV.out]; exact rfl)⟩
                          · intro ρ w1 hc hf hg ho hC hV
                            refine ⟨159, _, rfl, by have h := hV 159 (by decide) (by decide); rw [HV.out] at h; exact h, ?_⟩
                            rw [if_pos rfl]
                            have e161 : ρ (.tmp 161) = .string ⟨#[bb]⟩ := by have h := hV 161 (by decide) (by decide); rw [HV.out] at h; exact h
                            have e166 : ρ (.tmp 166) = .string ⟨#[bb]⟩ := by have h := hV 166 (by decide) (by decide); rw [HV.out] at h; exact h
                            simp only [execOp]
                            go_simp
                            exact ⟨hC, trivial, (by show V 167 _ _; rw [HV.out]; exact rfl)⟩
                          · intro ρ w1 hc hf hg ho hC hV
                            have e159 : ρ (.tmp 159) = .bool false := by have h := hV 159 (by decide) (by decide); rw [HV.out] at h; exact h
                            have e167 : ρ (.tmp 167) = .bool false := by have h := hV 167 (by decide) (by decide); rw [HV.out] at h; exact h
                            simp only [execOp]
                            go_simp
                            exact ⟨hC, trivial, (by show V 168 _ _; rw [HV.out]; exact rfl)⟩
                          · intro ρ w1 hc hf hg ho hC hV
                            have e168 : ρ (.tmp 168) = .bool false := by have h := hV 168 (by decide) (by decide); rw [HV.out] at h; exact h
                            simp only [execOp]
                            go_simp
                            exact ⟨hC, trivial, (by show V 169 _ _; rw [HV.out]; exact rfl)⟩
                          · intro ρ w1 hc hf hg ho hC hV
                            refine ⟨169, _, rfl, by have h := hV 169 (by decide) (by decide); rw [HV.out] at h; exact h, ?_⟩
                            rw [if_pos rfl]
                            have e15 := ho 15 (by decide)
                            have p5' := cell_below hC p5
                            simp only [execOp]
                            go_simp
                            exact ⟨hC, trivial, (by show V 170 _ _; rw [HV.out]; exact rfl)⟩
                          · intro ρ w1 hc hf hg ho hC hV
                            refine ⟨169, _, rfl, by have h := hV 169 (by decide) (by decide); rw [HV.out] at h; exact h, ?_⟩
                            rw [if_pos rfl]
                            have e170 : ρ (.tmp 170) = .pointer (some ⟨wr.heap.size, 5, none⟩) := by have h := hV 170 (by decide) (by decide); rw [HV.out] at h; exact h
                            have p5' := cell_below hC p5
                            simp only [execOp]
                            go_simp
                            exact ⟨hC, trivial, (by show V 171 _ _; rw [HV.out]; exact rfl)⟩
                          · intro ρ w1 hc hf hg ho hC hV
                            refine ⟨169, _, rfl, by have h := hV 169 (by decide) (by decide); rw [HV.out] at h; exact h, ?_⟩
                            rw [if_pos rfl]
                            have e17 := ho 17 (by decide)
                            simp only [execOp]
                            go_simp
                            exact ⟨hC, trivial, (by show V 172 _ _; rw [HV.out]; exact rfl)⟩
                          · intro ρ w1 hc hf hg ho hC hV
                            refine ⟨169, _, rfl, by have h := hV 169 (by decide) (by decide); rw [HV.out] at h; exact h, ?_⟩
                            rw [if_pos rfl]
                            have e171 : ρ (.tmp 171) = .int .i64 6 := by have h := hV 171 (by decide) (by decide); rw [HV.out] at h; exact h
                            have e172 : ρ (.tmp 172) = .int .i64 6 := by have h := hV 172 (by decide) (by decide); rw [HV.out] at h; exact h
                            simp only [execOp]
                            go_simp
                            exact ⟨hC, trivial, (by show V 173 _ _; rw [HV.out]; exact rfl)⟩
                          · intro ρ w1 hc hf hg ho hC hV
                            have e169 : ρ (.tmp 169) = .bool false := by have h := hV 169 (by decide) (by decide); rw [HV.out] at h; exact h
                            have e173 : ρ (.tmp 173) = .bool false := by have h := hV 173 (by decide) (by decide); rw [HV.out] at h; exact h
                            simp only [execOp]
                            go_simp
                            exact ⟨hC, trivial, (by show V 174 _ _; rw [HV.out]; exact rfl)⟩
                        · intro σ w1 hC hV
                          have v151 : σ 151 = .pointer (some ⟨wr.heap.size, 0, none⟩) := by have h := hV 151 (by decide); rw [HV.out] at h; exact h
                          have v152 : σ 152 = .int .i64 12 := by have h := hV 152 (by decide); rw [HV.out] at h; exact h
                          have v153 : σ 153 = .bool false := by have h := hV 153 (by decide); rw [HV.out] at h; exact h
                          have v154 : σ 154 = .bool false := by have h := hV 154 (by decide); rw [HV.out] at h; exact h
                          have v155 : σ 155 = .pointer (some ⟨wr.heap.size, 1, none⟩) := by have h := hV 155 (by decide); rw [HV.out] at h; exact h
                          have v156 : σ 156 = .string ⟨#[103]⟩ := by have h := hV 156 (by decide); rw [HV.out] at h; exact h
                          have v157 : σ 157 = .bool false := by have h := hV 157 (by decide); rw [HV.out] at h; exact h
                          have v158 : σ 158 = .bool false := by have h := hV 158 (by decide); rw [HV.out] at h; exact h
                          have v159 : σ 159 = .bool false := by have h := hV 159 (by decide); rw [HV.out] at h; exact h
                          have v160 : σ 160 = .pointer (some ⟨wr.heap.size, 3, none⟩) := by have h := hV 160 (by decide); rw [HV.out] at h; exact h
                          have v161 : σ 161 = .string ⟨#[bb]⟩ := by have h := hV 161 (by decide); rw [HV.out] at h; exact h
                          have v162 : σ 162 = .slice (some ⟨b3, o3, none⟩) k cp3 := by have h := hV 162 (by decide); rw [HV.out] at h; exact h
                          have v163 : σ 163 = .int .i64 i := by have h := hV 163 (by decide); rw [HV.out] at h; exact h
                          have v164 : σ 164 = .pointer (some ⟨b3, o3 + i * 2, none⟩) := by have h := hV 164 (by decide); rw [HV.out] at h; exact h
                          have v165 : σ 165 = .pointer (some ⟨b3, o3 + i * 2, none⟩) := by have h := hV 165 (by decide); rw [HV.out] at h; exact h
                          have v166 : σ 166 = .string ⟨#[bb]⟩ := by have h := hV 166 (by decide); rw [HV.out] at h; exact h
                          have v167 : σ 167 = .bool false := by have h := hV 167 (by decide); rw [HV.out] at h; exact h
                          have v168 : σ 168 = .bool false := by have h := hV 168 (by decide); rw [HV.out] at h; exact h
                          have v169 : σ 169 = .bool false := by have h := hV 169 (by decide); rw [HV.out] at h; exact h
                          have v170 : σ 170 = .pointer (some ⟨wr.heap.size, 5, none⟩) := by have h := hV 170 (by decide); rw [HV.out] at h; exact h
                          have v171 : σ 171 = .int .i64 6 := by have h := hV 171 (by decide); rw [HV.out] at h; exact h
                          have v172 : σ 172 = .int .i64 6 := by have h := hV 172 (by decide); rw [HV.out] at h; exact h
                          have v173 : σ 173 = .bool false := by have h := hV 173 (by decide); rw [HV.out] at h; exact h
                          have v174 : σ 174 = .bool false := by have h := hV 174 (by decide); rw [HV.out] at h; exact h
                          clear hV HV V
                          dsimp only [dsts, List.filterMap, putAll, Act.put]
                          have hb10 := below_step hb9 hC
                          clear hC p0 p1 p3 p5 hs2 hb9
                          rw [v151, v152, v153, v154, v155, v156, v157, v158, v159, v160, v161, v162, v163, v164, v165, v166, v167, v168, v169, v170, v171, v172, v173, v174]
                          clear v151 v152 v153 v154 v155 v156 v157 v158 v159 v160 v161 v162 v163 v164 v165 v166 v167 v168 v169 v170 v171 v172 v173 v174
                          go_simp
                          go_wp2
                          go_roundw
                          case rel => exact ⟨i + 1, by omega, by go_num, hb10⟩
                          case measure => simp [intOf]; omega
                      · clear hwt
                        go_wp2_with fail
                        generalize hW2 : wr.alloc _ = W2 at hs2 ⊢
                        have p0 : W2.cell? ⟨wr.heap.size, 0, none⟩ = some (.int .i64 12) := by rw [← hW2, cell_new]; rfl
                        have p1 : W2.cell? ⟨wr.heap.size, 1, none⟩ = some (.string ⟨#[103]⟩) := by rw [← hW2, cell_new]; rfl
                        have p3 : W2.cell? ⟨wr.heap.size, 3, none⟩ = some (.string ⟨#[bb]⟩) := by rw [← hW2, cell_new]; rfl
                        have p5 : W2.cell? ⟨wr.heap.size, 5, none⟩ = some (.int .i64 (6)) := by rw [← hW2, cell_new]; rfl
                        have hb9 : Below w6.heap.size w6 W2 := by rw [← hW2]; exact below_alloc hb7 _
                        clear hW2 c0 c1 c2 c3 c4 c5 c6 c7 c8 hs hb7
                        obtain ⟨V, HV⟩ : ∃ V : Tmp → Value → World → Prop, Hid (V = fun sl_ v_ w_ => match sl_ with | 151 => v_ = .pointer (some ⟨wr.heap.size, 0, none⟩) | 152 => v_ = .int .i64 12 | 153 => v_ = .bool false | 154 => v_ = .bool false | 155 => v_ = .pointer (some ⟨wr.heap.size, 1, none⟩) | 156 => v_ = .string ⟨#[103]⟩ | 157 => v_ = .bool false | 158 => v_ = .bool false | 159 => v_ = .bool false | 160 => v_ = .pointer (some ⟨wr.heap.size, 3, none⟩) | 161 => v_ = .string ⟨#[bb]⟩ | 162 => v_ = .slice (some ⟨b3, o3, none⟩) k cp3 | 163 => v_ = .int .i64 i | 164 => v_ = .pointer (some ⟨b3, o3 + i * 2, none⟩) | 165 => v_ = .pointer (some ⟨b3, o3 + i * 2, none⟩) | 166 => v_ = .string ⟨#[bb]⟩ | 167 => v_ = .bool false | 168 => v_ = .bool false | 169 => v_ = .bool false | 170 => v_ = .pointer (some ⟨wr.heap.size, 5, none⟩) | 171 => v_ = .int .i64 6 | 172 => v_ = .int .i64 6 | 173 => v_ = .bool false | 174 => v_ = .bool false | _ => True) := ⟨_, rfl⟩
                        refine wp_region_loose (Below W2.heap.size W2 ·) (fun _ _ => True) V (by kernel_rfl) (by kernel_rfl) (by kernel_rfl) (Below.refl _ _).drew (fun _ => trivial) ?_ ?_ ?_
                        · intro t v w w' hC hR h
                          rw [HV.out] at h ⊢
                          exact h
                        · go_light
                          simp only [List.forall_mem_cons]
                          refine ⟨?_, ?_, ?_, ?_, ?_, ?_, ?_, ?_, ?_, ?_, ?_, ?_, ?_, ?_, ?_, ?_, ?_, ?_, ?_, ?_, ?_, ?_, ?_, ?_, fun _ h => by cases h⟩
                          · intro ρ w1 hc hf hg ho hC hV
                            have e15 := ho 15 (by decide)
                            simp only [execOp]
                            go_simp
                            exact ⟨hC, trivial, (by show V 151 _ _; rw [HV.out]; exact rfl)⟩
                          · intro ρ w1 hc hf hg ho hC hV
                            have e151 : ρ (.tmp 151) = .pointer (some ⟨wr.heap.size, 0, none⟩) := by have h := hV 151 (by decide) (by decide); rw [HV.out] at h; exact h
                            have p0' := cell_below hC p0
                            simp only [execOp]
                            go_simp
                            exact ⟨hC, trivial, (by show V 152 _ _; rw [HV.out]; exact rfl)⟩
                          · intro ρ w1 hc hf hg ho hC hV
                            have e152 : ρ (.tmp 152) = .int .i64 12 := by have h := hV 152 (by decide) (by decide); rw [HV.out] at h; exact h
                            simp only [execOp]
                            go_simp
                            exact ⟨hC, trivial, (by show V 153 _ _; rw [HV.out]; exact rfl)⟩
                          · intro ρ w1 hc hf hg ho hC hV
                            have e153 : ρ (.tmp 153) = .bool false := by have h := hV 153 (by decide) (by decide); rw [HV.out] at h; exact h
                            simp only [execOp]
                            go_simp
                            exact ⟨hC, trivial, (by show V 154 _ _; rw [HV.out]; exact rfl)⟩
                          · intro ρ w1 hc hf hg ho hC hV
                            refine ⟨154, _, rfl, by have h := hV 154 (by decide) (by decide); rw [HV.out] at h; exact h, ?_⟩
                            rw [if_pos rfl]
                            have e15 := ho 15 (by decide)
                            simp only [execOp]
                            go_simp
                            exact ⟨hC, trivial, (by show V 155 _ _; rw [HV.out]; exact rfl)⟩
                          · intro ρ w1 hc hf hg ho hC hV
                            refine ⟨154, _, rfl, by have h := hV 154 (by decide) (by decide); rw [HV.out] at h; exact h, ?_⟩
                            rw [if_pos rfl]
                            have e155 : ρ (.tmp 155) = .pointer (some ⟨wr.heap.size, 1, none⟩) := by have h := hV 155 (by decide) (by decide); rw [HV.out] at h; exact h
                            have p1' := cell_below hC p1
                            simp only [execOp]
                            go_simp
                            exact ⟨hC, trivial, (by show V 156 _ _; rw [HV.out]; exact rfl)⟩
                          · intro ρ w1 hc hf hg ho hC hV
                            refine ⟨154, _, rfl, by have h := hV 154 (by decide) (by decide); rw [HV.out] at h; exact h, ?_⟩
                            rw [if_pos rfl]
                            have e156 : ρ (.tmp 156) = .string ⟨#[103]⟩ := by have h := hV 156 (by decide) (by decide); rw [HV.out] at h; exact h
                            simp only [execOp]
                            go_simp
                            exact ⟨hC, trivial, (by show V 157 _ _; rw [HV.out]; exact rfl)⟩
                          · intro ρ w1 hc hf hg ho hC hV
                            have e154 : ρ (.tmp 154) = .bool false := by have h := hV 154 (by decide) (by decide); rw [HV.out] at h; exact h
                            have e157 : ρ (.tmp 157) = .bool false := by have h := hV 157 (by decide) (by decide); rw [HV.out] at h; exact h
                            simp only [execOp]
                            go_simp
                            exact ⟨hC, trivial, (by show V 158 _ _; rw [HV.out]; exact rfl)⟩
                          · intro ρ w1 hc hf hg ho hC hV
                            have e158 : ρ (.tmp 158) = .bool false := by have h := hV 158 (by decide) (by decide); rw [HV.out] at h; exact h
                            simp only [execOp]
                            go_simp
                            exact ⟨hC, trivial, (by show V 159 _ _; rw [HV.out]; exact rfl)⟩
                          · intro ρ w1 hc hf hg ho hC hV
                            refine ⟨159, _, rfl, by have h := hV 159 (by decide) (by decide); rw [HV.out] at h; exact h, ?_⟩
                            rw [if_pos rfl]
                            have e15 := ho 15 (by decide)
                            simp only [execOp]
                            go_simp
                            exact ⟨hC, trivial, (by show V 160 _ _; rw [HV.out]; exact rfl)⟩
                          · intro ρ w1 hc hf hg ho hC hV
                            refine ⟨159, _, rfl, by have h := hV 159 (by decide) (by decide); rw [HV.out] at h; exact h, ?_⟩
                            rw [if_pos rfl]
                            have e160 : ρ (.tmp 160) = .pointer (some ⟨wr.heap.size, 3, none⟩) := by have h := hV 160 (by decide) (by decide); rw [HV.out] at h; exact h
                            have p3' := cell_below hC p3
                            simp only [execOp]
                            go_simp
                            exact ⟨hC, trivial, (by show V 161 _ _; rw [HV.out]; exact rfl)⟩
                          · intro ρ w1 hc hf hg ho hC hV
                            refine ⟨159, _, rfl, by have h := hV 159 (by decide) (by decide); rw [HV.out] at h; exact h, ?_⟩
                            rw [if_pos rfl]
                            have e11 := ho 11 (by decide)
                            simp only [execOp]
                            go_simp
                            exact ⟨hC, trivial, (by show V 162 _ _; rw [HV.out]; exact rfl)⟩
                          · intro ρ w1 hc hf hg ho hC hV
                            refine ⟨159, _, rfl, by have h := hV 159 (by decide) (by decide); rw [HV.out] at h; exact h, ?_⟩
                            rw [if_pos rfl]
                            have e14 := ho 14 (by decide)
                            simp only [execOp]
                            go_simp
                            exact ⟨hC, trivial, (by show V 163 _ _; rw [HV.out]; exact rfl)⟩
                          · intro ρ w1 hc hf hg ho hC hV
                            refine ⟨159, _, rfl, by have h := hV 159 (by decide) (by decide); rw [HV.out] at h; exact h, ?_⟩
                            rw [if_pos rfl]
                            have e162 : ρ (.tmp 162) = .slice (some ⟨b3, o3, none⟩) k cp3 := by have h := hV 162 (by decide) (by decide); rw [HV.out] at h; exact h
                            have e163 : ρ (.tmp 163) = .int .i64 i := by have h := hV 163 (by decide) (by decide); rw [HV.out] at h; exact h
                            simp only [execOp]
                            go_simp
                            exact ⟨hC, trivial, (by show V 164 _ _; rw [HV.out]; exact rfl)⟩
                          · intro ρ w1 hc hf hg ho hC hV
                            refine ⟨159, _, rfl, by have h := hV 159 (by decide) (by decide); rw [HV.out] at h; exact h, ?_⟩
                            rw [if_pos rfl]
                            have e164 : ρ (.tmp 164) = .pointer (some ⟨b3, o3 + i * 2, none⟩) := by have h := hV 164 (by decide) (by decide); rw [HV.out] at h; exact h
                            simp only [execOp]
                            go_simp
                            exact ⟨hC, trivial, (by show V 165 _ _; rw [HV.out]; exact rfl)⟩
                          · intro ρ w1 hc hf hg ho hC hV
                            refine ⟨159, _, rfl, by have h := hV 159 (by decide) (by decide); rw [HV.out] at h; exact h, ?_⟩
                            rw [if_pos rfl]
                            have e165 : ρ (.tmp 165) = .pointer (some ⟨b3, o3 + i * 2, none⟩) := by have h := hV 165 (by decide) (by decide); rw [HV.out] at h; exact h
                            have hs2' := cell_below hC hs2
                            simp only [execOp]
                            go_simp
                            exact ⟨hC, trivial, (by show V 166 _ _; rw [HV.out]; exact rfl)⟩
                          · intro ρ w1 hc hf hg ho hC hV
                            refine ⟨159, _, rfl, by have h := hV 159 (by decide) (by decide); rw [HV.out] at h; exact h, ?_⟩
                            rw [if_pos rfl]
                            have e161 : ρ (.tmp 161) = .string ⟨#[bb]⟩ := by have h := hV 161 (by decide) (by decide); rw [HV.out] at h; exact h
                            have e166 : ρ (.tmp 166) = .string ⟨#[bb]⟩ := by have h := hV 166 (by decide) (by decide); rw [HV.out] at h; exact h
                            simp only [execOp]
                            go_simp
                            exact ⟨hC, trivial, (by show V 167 _ _; rw [HV.out]; exact rfl)⟩
                          · intro ρ w1 hc hf hg ho hC hV
                            have e159 : ρ (.tmp 159) = .bool false := by have h := hV 159 (by decide) (by decide); rw [HV.out] at h; exact h
                            have e167 : ρ (.tmp 167) = .bool false := by have h := hV 167 (by decide) (by decide); rw [HV.out] at h; exact h
                            simp only [execOp]
                            go_simp
                            exact ⟨hC, trivial, (by show V 168 _ _; rw [HV.out]; exact rfl)⟩
                          · intro ρ w1 hc hf hg ho hC hV
                            have e168 : ρ (.tmp 168) = .bool false := by have h := hV 168 (by decide) (by decide); rw [HV.out] at h; exact h
                            simp only [execOp]
                            go_simp
                            exact ⟨hC, trivial, (by show V 169 _ _; rw [HV.out]; exact rfl)⟩
                          · intro ρ w1 hc hf hg ho hC hV
                            refine ⟨169, _, rfl, by have h := hV 169 (by decide) (by decide); rw [HV.out] at h; exact h, ?_⟩
                            rw [if_pos rfl]
                            have e15 := ho 15 (by decide)
                            have p5' := cell_below hC p5
                            simp only [execOp]
                            go_simp
                            exact ⟨hC, trivial, (by show V 170 _ _; rw [HV.out]; exact rfl)⟩
                          · intro ρ w1 hc hf hg ho hC hV
                            refine ⟨169, _, rfl, by have h := hV 169 (by decide) (by decide); rw [HV.out] at h; exact h, ?_⟩
                            rw [if_pos rfl]
                            have e170 : ρ (.tmp 170) = .pointer (some ⟨wr.heap.size, 5, none⟩) := by have h := hV 170 (by decide) (by decide); rw [HV.out] at h; exact h
                            have p5' := cell_below hC p5
                            simp only [execOp]
                            go_simp
                            exact ⟨hC, trivial, (by show V 171 _ _; rw [HV.out]; exact rfl)⟩
                          · intro ρ w1 hc hf hg ho hC hV
                            refine ⟨169, _, rfl, by have h := hV 169 (by decide) (by decide); rw [HV.out] at h; exact h, ?_⟩
                            rw [if_pos rfl]
                            have e17 := ho 17 (by decide)
                            simp only [execOp]
                            go_simp
                            exact ⟨hC, trivial, (by show V 172 _ _; rw [HV.out]; exact rfl)⟩
                          · intro ρ w1 hc hf hg ho hC hV
                            refine ⟨169, _, rfl, by have h := hV 169 (by decide) (by decide); rw [HV.out] at h; exact h, ?_⟩
                            rw [if_pos rfl]
                            have e171 : ρ (.tmp 171) = .int .i64 6 := by have h := hV 171 (by decide) (by decide); rw [HV.out] at h; exact h
                            have e172 : ρ (.tmp 172) = .int .i64 6 := by have h := hV 172 (by decide) (by decide); rw [HV.out] at h; exact h
                            simp only [execOp]
                            go_simp
                            exact ⟨hC, trivial, (by show V 173 _ _; rw [HV.out]; exact rfl)⟩
                          · intro ρ w1 hc hf hg ho hC hV
                            have e169 : ρ (.tmp 169) = .bool false := by have h := hV 169 (by decide) (by decide); rw [HV.out] at h; exact h
                            have e173 : ρ (.tmp 173) = .bool false := by have h := hV 173 (by decide) (by decide); rw [HV.out] at h; exact h
                            simp only [execOp]
                            go_simp
                            exact ⟨hC, trivial, (by show V 174 _ _; rw [HV.out]; exact rfl)⟩
                        · intro σ w1 hC hV
                          have v151 : σ 151 = .pointer (some ⟨wr.heap.size, 0, none⟩) := by have h := hV 151 (by decide); rw [HV.out] at h; exact h
                          have v152 : σ 152 = .int .i64 12 := by have h := hV 152 (by decide); rw [HV.out] at h; exact h
                          have v153 : σ 153 = .bool false := by have h := hV 153 (by decide); rw [HV.out] at h; exact h
                          have v154 : σ 154 = .bool false := by have h := hV 154 (by decide); rw [HV.out] at h; exact h
                          have v155 : σ 155 = .pointer (some ⟨wr.heap.size, 1, none⟩) := by have h := hV 155 (by decide); rw [HV.out] at h; exact h
                          have v156 : σ 156 = .string ⟨#[103]⟩ := by have h := hV 156 (by decide); rw [HV.out] at h; exact h
                          have v157 : σ 157 = .bool false := by have h := hV 157 (by decide); rw [HV.out] at h; exact h
                          have v158 : σ 158 = .bool false := by have h := hV 158 (by decide); rw [HV.out] at h; exact h
                          have v159 : σ 159 = .bool false := by have h := hV 159 (by decide); rw [HV.out] at h; exact h
                          have v160 : σ 160 = .pointer (some ⟨wr.heap.size, 3, none⟩) := by have h := hV 160 (by decide); rw [HV.out] at h; exact h
                          have v161 : σ 161 = .string ⟨#[bb]⟩ := by have h := hV 161 (by decide); rw [HV.out] at h; exact h
                          have v162 : σ 162 = .slice (some ⟨b3, o3, none⟩) k cp3 := by have h := hV 162 (by decide); rw [HV.out] at h; exact h
                          have v163 : σ 163 = .int .i64 i := by have h := hV 163 (by decide); rw [HV.out] at h; exact h
                          have v164 : σ 164 = .pointer (some ⟨b3, o3 + i * 2, none⟩) := by have h := hV 164 (by decide); rw [HV.out] at h; exact h
                          have v165 : σ 165 = .pointer (some ⟨b3, o3 + i * 2, none⟩) := by have h := hV 165 (by decide); rw [HV.out] at h; exact h
                          have v166 : σ 166 = .string ⟨#[bb]⟩ := by have h := hV 166 (by decide); rw [HV.out] at h; exact h
                          have v167 : σ 167 = .bool false := by have h := hV 167 (by decide); rw [HV.out] at h; exact h
                          have v168 : σ 168 = .bool false := by have h := hV 168 (by decide); rw [HV.out] at h; exact h
                          have v169 : σ 169 = .bool false := by have h := hV 169 (by decide); rw [HV.out] at h; exact h
                          have v170 : σ 170 = .pointer (some ⟨wr.heap.size, 5, none⟩) := by have h := hV 170 (by decide); rw [HV.out] at h; exact h
                          have v171 : σ 171 = .int .i64 6 := by have h := hV 171 (by decide); rw [HV.out] at h; exact h
                          have v172 : σ 172 = .int .i64 6 := by have h := hV 172 (by decide); rw [HV.out] at h; exact h
                          have v173 : σ 173 = .bool false := by have h := hV 173 (by decide); rw [HV.out] at h; exact h
                          have v174 : σ 174 = .bool false := by have h := hV 174 (by decide); rw [HV.out] at h; exact h
                          clear hV HV V
                          dsimp only [dsts, List.filterMap, putAll, Act.put]
                          have hb10 := below_step hb9 hC
                          clear hC p0 p1 p3 p5 hs2 hb9
                          rw [v151, v152, v153, v154, v155, v156, v157, v158, v159, v160, v161, v162, v163, v164, v165, v166, v167, v168, v169, v170, v171, v172, v173, v174]
                          clear v151 v152 v153 v154 v155 v156 v157 v158 v159 v160 v161 v162 v163 v164 v165 v166 v167 v168 v169 v170 v171 v172 v173 v174
                          go_simp
                          go_wp2
                          go_roundw
                          case rel => exact ⟨i + 1, by omega, by go_num, hb10⟩
                          case measure => simp [intOf]; omega
                      · clear hwt
                        go_wp2_with fail
                        generalize hW2 : wr.alloc _ = W2 at hs2 ⊢
                        have p0 : W2.cell? ⟨wr.heap.size, 0, none⟩ = some (.int .i64 12) := by rw [← hW2, cell_new]; rfl
                        have p1 : W2.cell? ⟨wr.heap.size, 1, none⟩ = some (.string ⟨#[103]⟩) := by rw [← hW2, cell_new]; rfl
                        have p3 : W2.cell? ⟨wr.heap.size, 3, none⟩ = some (.string ⟨#[bb]⟩) := by rw [← hW2, cell_new]; rfl
                        have p5 : W2.cell? ⟨wr.heap.size, 5, none⟩ = some (.int .i64 (1 + (j : Int))) := by rw [← hW2, cell_new]; rfl
                        have hb9 : Below w6.heap.size w6 W2 := by rw [← hW2]; exact below_alloc hb7 _
                        clear hW2 c0 c1 c2 c3 c4 c5 c6 c7 c8 hs hb7
                        obtain ⟨V, HV⟩ : ∃ V : Tmp → Value → World → Prop, Hid (V = fun sl_ v_ w_ => match sl_ with | 151 => v_ = .pointer (some ⟨wr.heap.size, 0, none⟩) | 152 => v_ = .int .i64 12 | 153 => v_ = .bool false | 154 => v_ = .bool false | 155 => v_ = .pointer (some ⟨wr.heap.size, 1, none⟩) | 156 => v_ = .string ⟨#[103]⟩ | 157 => v_ = .bool false | 158 => v_ = .bool false | 159 => v_ = .bool false | 160 => v_ = .pointer (some ⟨wr.heap.size, 3, none⟩) | 161 => v_ = .string ⟨#[bb]⟩ | 162 => v_ = .slice (some ⟨b3, o3, none⟩) k cp3 | 163 => v_ = .int .i64 i | 164 => v_ = .pointer (some ⟨b3, o3 + i * 2, none⟩) | 165 => v_ = .pointer (some ⟨b3, o3 + i * 2, none⟩) | 166 => v_ = .string ⟨#[bb]⟩ | 167 => v_ = .bool false | 168 => v_ = .bool false | 169 => v_ = .bool false | 170 => v_ = .pointer (some ⟨wr.heap.size, 5, none⟩) | 171 => v_ = .int .i64 (1 + (j : Int)) | 172 => v_ = .int .i64 (1 + (j : Int)) | 173 => v_ = .bool false | 174 => v_ = .bool false | _ => True) := ⟨_, rfl⟩
                        refine wp_region_loose (Below W2.heap.size W2 ·) (fun _ _ => True) V (by kernel_rfl) (by kernel_rfl) (by kernel_rfl) (Below.refl _ _).drew (fun _ => trivial) ?_ ?_ ?_
                        · intro t v w w' hC hR h
                          rw [HV.out] at h ⊢
                          exact h
                        · go_light
                          simp only [List.forall_mem_cons]
                          refine ⟨?_, ?_, ?_, ?_, ?_, ?_, ?_, ?_, ?_, ?_, ?_, ?_, ?_, ?_, ?_, ?_, ?_, ?_, ?_, ?_, ?_, ?_, ?_, ?_, fun _ h => by cases h⟩
                          · intro ρ w1 hc hf hg ho hC hV
                            have e15 := ho 15 (by decide)
                            simp only [execOp]
                            go_simp
                            exact ⟨hC, trivial, (by show V 151 _ _; rw [HV.out]; exact rfl)⟩
                          · intro ρ w1 hc hf hg ho hC hV
                            have e151 : ρ (.tmp 151) = .pointer (some ⟨wr.heap.size, 0, none⟩) := by have h := hV 151 (by decide) (by decide); rw [HV.out] at h; exact h
                            have p0' := cell_below hC p0
                            simp only [execOp]
                            go_simp
                            exact ⟨hC, trivial, (by show V 152 _ _; rw [HV.out]; exact rfl)⟩
                          · intro ρ w1 hc hf hg ho hC hV
                            have e152 : ρ (.tmp 152) = .int .i64 12 := by have h := hV 152 (by decide) (by decide); rw [HV.out] at h; exact h
                            simp only [execOp]
                            go_simp
                            exact ⟨hC, trivial, (by show V 153 _ _; rw [HV.out]; exact rfl)⟩
                          · intro ρ w1 hc hf hg ho hC hV
                            have e153 : ρ (.tmp 153) = .bool false := by have h := hV 153 (by decide) (by decide); rw [HV.out] at h; exact h
                            simp only [execOp]
                            go_simp
                            exact ⟨hC, trivial, (by show V 154 _ _; rw [HV.out]; exact rfl)⟩
                          · intro ρ w1 hc hf hg ho hC hV
                            refine ⟨154, _, rfl, by have h := hV 154 (by decide) (by decide); rw [HV.out] at h; exact h, ?_⟩
                            rw [if_pos rfl]
                            have e15 := ho 15 (by decide)
                            simp only [execOp]
                            go_simp
                            exact ⟨hC, trivial, (by show V 155 _ _; rw [HV.out]; exact rfl)⟩
                          · intro ρ w1 hc hf hg ho hC hV
                            refine ⟨154, _, rfl, by have h := hV 154 (by decide) (by decide); rw [HV.out] at h; exact h, ?_⟩
                            rw [if_pos rfl]
                            have e155 : ρ (.tmp 155) = .pointer (some ⟨wr.heap.size, 1, none⟩) := by have h := hV 155 (by decide) (by decide); rw [HV.out] at h; exact h
                            have p1' := cell_below hC p1
                            simp only [execOp]
                            go_simp
                            exact ⟨hC, trivial, (by show V 156 _ _; rw [HV.out]; exact rfl)⟩
                          · intro ρ w1 hc hf hg ho hC hV
                            refine ⟨154, _, rfl, by have h := hV 154 (by decide) (by decide); rw [HV.out] at h; exact h, ?_⟩
                            rw [if_pos rfl]
                            have e156 : ρ (.tmp 156) = .string ⟨#[103]⟩ := by have h := hV 156 (by decide) (by decide); rw [HV.out] at h; exact h
                            simp only [execOp]
                            go_simp
                            exact ⟨hC, trivial, (by show V 157 _ _; rw [HV.out]; exact rfl)⟩
                          · intro ρ w1 hc hf hg ho hC hV
                            have e154 : ρ (.tmp 154) = .bool false := by have h := hV 154 (by decide) (by decide); rw [HV.out] at h; exact h
                            have e157 : ρ (.tmp 157) = .bool false := by have h := hV 157 (by decide) (by decide); rw [HV.out] at h; exact h
                            simp only [execOp]
                            go_simp
                            exact ⟨hC, trivial, (by show V 158 _ _; rw [HV.out]; exact rfl)⟩
                          · intro ρ w1 hc hf hg ho hC hV
                            have e158 : ρ (.tmp 158) = .bool false := by have h := hV 158 (by decide) (by decide); rw [HV.out] at h; exact h
                            simp only [execOp]
                            go_simp
                            exact ⟨hC, trivial, (by show V 159 _ _; rw [HV.out]; exact rfl)⟩
                          · intro ρ w1 hc hf hg ho hC hV
                            refine ⟨159, _, rfl, by have h := hV 159 (by decide) (by decide); rw [HV.out] at h; exact h, ?_⟩
                            rw [if_pos rfl]
                            have e15 := ho 15 (by decide)
                            simp only [execOp]
                            go_simp
                            exact ⟨hC, trivial, (by show V 160 _ _; rw [HV.out]; exact rfl)⟩
                          · intro ρ w1 hc hf hg ho hC hV
                            refine ⟨159, _, rfl, by have h := hV 159 (by decide) (by decide); rw [HV.out] at h; exact h, ?_⟩
                            rw [if_pos rfl]
                            have e160 : ρ (.tmp 160) = .pointer (some ⟨wr.heap.size, 3, none⟩) := by have h := hV 160 (by decide) (by decide); rw [HV.out] at h; exact h
                            have p3' := cell_below hC p3
                            simp only [execOp]
                            go_simp
                            exact ⟨hC, trivial, (by show V 161 _ _; rw [HV.out]; exact rfl)⟩
                          · intro ρ w1 hc hf hg ho hC hV
                            refine ⟨159, _, rfl, by have h := hV 159 (by decide) (by decide); rw [HV.out] at h; exact h, ?_⟩
                            rw [if_pos rfl]
                            have e11 := ho 11 (by decide)
                            simp only [execOp]
                            go_simp
                            exact ⟨hC, trivial, (by show V 162 _ _; rw [HV.out]; exact rfl)⟩
                          · intro ρ w1 hc hf hg ho hC hV
                            refine ⟨159, _, rfl, by have h := hV 159 (by decide) (by decide); rw [HV.out] at h; exact h, ?_⟩
                            rw [if_pos rfl]
                            have e14 := ho 14 (by decide)
                            simp only [execOp]
                            go_simp
                            exact ⟨hC, trivial, (by show V 163 _ _; rw [HV.out]; exact rfl)⟩
                          · intro ρ w1 hc hf hg ho hC hV
                            refine ⟨159, _, rfl, by have h := hV 159 (by decide) (by decide); rw [HV.out] at h; exact h, ?_⟩
                            rw [if_pos rfl]
                            have e162 : ρ (.tmp 162) = .slice (some ⟨b3, o3, none⟩) k cp3 := by have h := hV 162 (by decide) (by decide); rw [HV.out] at h; exact h
                            have e163 : ρ (.tmp 163) = .int .i64 i := by have h := hV 163 (by decide) (by decide); rw [HV.out] at h; exact h
                            simp only [execOp]
                            go_simp
                            exact ⟨hC, trivial, (by show V 164 _ _; rw [HV.out]; exact rfl)⟩
                          · intro ρ w1 hc hf hg ho hC hV
                            refine ⟨159, _, rfl, by have h := hV 159 (by decide) (by decide); rw [HV.out] at h; exact h, ?_⟩
                            rw [if_pos rfl]
                            have e164 : ρ (.tmp 164) = .pointer (some ⟨b3, o3 + i * 2, none⟩) := by have h := hV 164 (by decide) (by decide); rw [HV.out] at h; exact h
                            simp only [execOp]
                            go_simp
                            exact ⟨hC, trivial, (by show V 165 _ _; rw [HV.out]; exact rfl)⟩
                          · intro ρ w1 hc hf hg ho hC hV
                            refine ⟨159, _, rfl, by have h := hV 159 (by decide) (by decide); rw [HV.out] at h; exact h, ?_⟩
                            rw [if_pos rfl]
                            have e165 : ρ (.tmp 165) = .pointer (some ⟨b3, o3 + i * 2, none⟩) := by have h := hV 165 (by decide) (by decide); rw [HV.out] at h; exact h
                            have hs2' := cell_below hC hs2
                            simp only [execOp]
                            go_simp
                            exact ⟨hC, trivial, (by show V 166 _ _; rw [HV.out]; exact rfl)⟩
                          · intro ρ w1 hc hf hg ho hC hV
                            refine ⟨159, _, rfl, by have h := hV 159 (by decide) (by decide); rw [HV.out] at h; exact h, ?_⟩
                            rw [if_pos rfl]
                            have e161 : ρ (.tmp 161) = .string ⟨#[bb]⟩ := by have h := hV 161 (by decide) (by decide); rw [HV.out] at h; exact h
                            have e166 : ρ (.tmp 166) = .string ⟨#[bb]⟩ := by have h := hV 166 (by decide) (by decide); rw [HV.out] at h; exact h
                            simp only [execOp]
                            go_simp
                            exact ⟨hC, trivial, (by show V 167 _ _; rw [HV.out]; exact rfl)⟩
                          · intro ρ w1 hc hf hg ho hC hV
                            have e159 : ρ (.tmp 159) = .bool false := by have h := hV 159 (by decide) (by decide); rw [HV.out] at h; exact h
                            have e167 : ρ (.tmp 167) = .bool false := by have h := hV 167 (by decide) (by decide); rw [HV.out] at h; exact h
                            simp only [execOp]
                            go_simp
                            exact ⟨hC, trivial, (by show V 168 _ _; rw [HV.out]; exact rfl)⟩
                          · intro ρ w1 hc hf hg ho hC hV
                            have e168 : ρ (.tmp 168) = .bool false := by have h := hV 168 (by decide) (by decide); rw [HV.out] at h; exact h
                            simp only [execOp]
                            go_simp
                            exact ⟨hC, trivial, (by show V 169 _ _; rw [HV.out]; exact rfl)⟩
                          · intro ρ w1 hc hf hg ho hC hV
                            refine ⟨169, _, rfl, by have h := hV 169 (by decide) (by decide); rw [HV.out] at h; exact h, ?_⟩
                            rw [if_pos rfl]
                            have e15 := ho 15 (by decide)
                            have p5' := cell_below hC p5
                            simp only [execOp]
                            go_simp
                            exact ⟨hC, trivial, (by show V 170 _ _; rw [HV.out]; exact rfl)⟩
                          · intro ρ w1 hc hf hg ho hC hV
                            refine ⟨169, _, rfl, by have h := hV 169 (by decide) (by decide); rw [HV.out] at h; exact h, ?_⟩
                            rw [if_pos rfl]
                            have e170 : ρ (.tmp 170) = .pointer (some ⟨wr.heap.size, 5, none⟩) := by have h := hV 170 (by decide) (by decide); rw [HV.out] at h; exact h
                            have p5' := cell_below hC p5
                            simp only [execOp]
                            go_simp
                            exact ⟨hC, trivial, (by show V 171 _ _; rw [HV.out]; exact rfl)⟩
                          · intro ρ w1 hc hf hg ho hC hV
                            refine ⟨169, _, rfl, by have h := hV 169 (by decide) (by decide); rw [HV.out] at h; exact h, ?_⟩
                            rw [if_pos rfl]
                            have e17 := ho 17 (by decide)
                            simp only [execOp]
                            go_simp
                            exact ⟨hC, trivial, (by show V 172 _ _; rw [HV.out]; exact rfl)⟩
                          · intro ρ w1 hc hf hg ho hC hV
                            refine ⟨169, _, rfl, by have h := hV 169 (by decide) (by decide); rw [HV.out] at h; exact h, ?_⟩
                            rw [if_pos rfl]
                            have e171 : ρ (.tmp 171) = .int .i64 (1 + (j : Int)) := by have h := hV 171 (by decide) (by decide); rw [HV.out] at h; exact h
                            have e172 : ρ (.tmp 172) = .int .i64 (1 + (j : Int)) := by have h := hV 172 (by decide) (by decide); rw [HV.out] at h; exact h
                            simp only [execOp]
                            go_simp
                            exact ⟨hC, trivial, (by show V 173 _ _; rw [HV.out]; exact rfl)⟩
                          · intro ρ w1 hc hf hg ho hC hV
                            have e169 : ρ (.tmp 169) = .bool false := by have h := hV 169 (by decide) (by decide); rw [HV.out] at h; exact h
                            have e173 : ρ (.tmp 173) = .bool false := by have h := hV 173 (by decide) (by decide); rw [HV.out] at h; exact h
                            simp only [execOp]
                            go_simp
                            exact ⟨hC, trivial, (by show V 174 _ _; rw [HV.out]; exact rfl)⟩
                        · intro σ w1 hC hV
                          have v151 : σ 151 = .pointer (some ⟨wr.heap.size, 0, none⟩) := by have h := hV 151 (by decide); rw [HV.out] at h; exact h
                          have v152 : σ 152 = .int .i64 12 := by have h := hV 152 (by decide); rw [HV.out] at h; exact h
                          have v153 : σ 153 = .bool false := by have h := hV 153 (by decide); rw [HV.out] at h; exact h
                          have v154 : σ 154 = .bool false := by have h := hV 154 (by decide); rw [HV.out] at h; exact h
                          have v155 : σ 155 = .pointer (some ⟨wr.heap.size, 1, none⟩) := by have h := hV 155 (by decide); rw [HV.out] at h; exact h
                          have v156 : σ 156 = .string ⟨#[103]⟩ := by have h := hV 156 (by decide); rw [HV.out] at h; exact h
                          have v157 : σ 157 = .bool false := by have h := hV 157 (by decide); rw [HV.out] at h; exact h
                          have v158 : σ 158 = .bool false := by have h := hV 158 (by decide); rw [HV.out] at h; exact h
                          have v159 : σ 159 = .bool false := by have h := hV 159 (by decide); rw [HV.out] at h; exact h
                          have v160 : σ 160 = .pointer (some ⟨wr.heap.size, 3, none⟩) := by have h := hV 160 (by decide); rw [HV.out] at h; exact h
                          have v161 : σ 161 = .string ⟨#[bb]⟩ := by have h := hV 161 (by decide); rw [HV.out] at h; exact h
                          have v162 : σ 162 = .slice (some ⟨b3, o3, none⟩) k cp3 := by have h := hV 162 (by decide); rw [HV.out] at h; exact h
                          have v163 : σ 163 = .int .i64 i := by have h := hV 163 (by decide); rw [HV.out] at h; exact h
                          have v164 : σ 164 = .pointer (some ⟨b3, o3 + i * 2, none⟩) := by have h := hV 164 (by decide); rw [HV.out] at h; exact h
                          have v165 : σ 165 = .pointer (some ⟨b3, o3 + i * 2, none⟩) := by have h := hV 165 (by decide); rw [HV.out] at h; exact h
                          have v166 : σ 166 = .string ⟨#[bb]⟩ := by have h := hV 166 (by decide); rw [HV.out] at h; exact h
                          have v167 : σ 167 = .bool false := by have h := hV 167 (by decide); rw [HV.out] at h; exact h
                          have v168 : σ 168 = .bool false := by have h := hV 168 (by decide); rw [HV.out] at h; exact h
                          have v169 : σ 169 = .bool false := by have h := hV 169 (by decide); rw [HV.out] at h; exact h
                          have v170 : σ 170 = .pointer (some ⟨wr.heap.size, 5, none⟩) := by have h := hV 170 (by decide); rw [HV.out] at h; exact h
                          have v171 : σ 171 = .int .i64 (1 + (j : Int)) := by have h := hV 171 (by decide); rw [HV.out] at h; exact h
                          have v172 : σ 172 = .int .i64 (1 + (j : Int)) := by have h := hV 172 (by decide); rw [HV.out] at h; exact h
                          have v173 : σ 173 = .bool false := by have h := hV 173 (by decide); rw [HV.out] at h; exact h
                          have v174 : σ 174 = .bool false := by have h := hV 174 (by decide); rw [HV.out] at h; exact h
                          clear hV HV V
                          dsimp only [dsts, List.filterMap, putAll, Act.put]
                          have hb10 := below_step hb9 hC
                          clear hC p0 p1 p3 p5 hs2 hb9
                          rw [v151, v152, v153, v154, v155, v156, v157, v158, v159, v160, v161, v162, v163, v164, v165, v166, v167, v168, v169, v170, v171, v172, v173, v174]
                          clear v151 v152 v153 v154 v155 v156 v157 v158 v159 v160 v161 v162 v163 v164 v165 v166 v167 v168 v169 v170 v171 v172 v173 v174
                          go_simp
                          go_wp2
                          go_roundw
                          case rel => exact ⟨i + 1, by omega, by go_num, hb10⟩
                          case measure => simp [intOf]; omega
                    · have hik : i = k := by omega
                      subst hik
                      clear hlt7 hi
                      go_wp2_with fail
                      refine (wakes18 _).mono ?_
                      rintro e w8 ⟨rfl, hb8⟩
                      go_wp2
                      go_ret
                      exact ⟨rfl, below_step (below_step hbw6 hb7) hb8⟩
end Go.Proofs.Ytbmegoemimfiaaa

/-
  TasksOrder: the walk.
-/
import Derived.Test.YtbmegoemimfiaaaRows
import Derived.Test.YtbmegoemimfiaaaW17h
import Derived.Test.YtbmegoemimfiaaaInts
import Derived.WalkKit
import Derived.WalkSpells
import Derived.WalkLawsBesides
import Derived.Outline
import Derived.Laws.StructEq
import Derived.Deep.Light
import Derived.Deep.QuietTactic
import Derived.BigQuiet
import Derived.Maps.OwnOps
import Derived.Maps.OwnSet
import Derived.Lib.Hide
namespace Go.Proofs.Ytbmegoemimfiaaa
open Go Go.RowKit
set_option maxRecDepth 100000
set_option linter.unusedVariables false
set_option linter.unusedSimpArgs false

attribute [local go_sem] run_store_float run_store_complex
theorem ba0 (b : UInt8) (h : 0 < (⟨#[b]⟩ : ByteArray).size) : (⟨#[b]⟩ : ByteArray)[0]'h = b := rfl
attribute [local go_sem] ba0
def sufO (k : Nat) : ByteArray := ⟨#[97, 98, 99, 100, 101, 102].extract k 6⟩
def sufJ (j : Nat) : ByteArray := ⟨#[48, 49].extract j 2⟩
def dg (j : Nat) : ByteArray := ⟨#[UInt8.ofNat (48 + j)]⟩
theorem lt_dg (k j : Nat) : lt k ++ dg j = tn k j := by
  apply ByteArray.ext
  rw [ByteArray.data_append]
  rfl
def OrdRel (w : World) (zs : List Int) (v5 v6 i : Value) (wr : World) : Prop := ∃ (k : Nat) (G : List (Nat × Nat)), k ≤ zs.length ∧ k ≤ 6 ∧ G.length = k ∧ i = .int .i64 k ∧ Below w.heap.size w wr ∧ wr.ownsRow w.heap.size 52 4 v5 k ((entsO zs G).flatMap Entry.cells) ∧ LaidO wr w.heap.size G ∧ wr.ownsRow w.heap.size 62 5 v6 (2 * k) ((rowsO zs k).flatMap RowT.cells)
def InO (w : World) (zs : List Int) (G : List (Nat × Nat)) (k ge : Nat) (v5 v6 v9 : Value) (wr : World) : Prop := ∃ (j : Nat) (A : Option Addr) (cp : Nat), j ≤ 2 ∧ v9 = .int .i64 j ∧ Below w.heap.size w wr ∧ wr.heap[ge]? = some (.cells #[.string (fg k), .string ⟨#[120]⟩, .int .i64 (runO zs k), .slice A j cp] 52 (0, 0)) ∧
  wr.ownsRow (ge + 1) 50 2 (.slice A j cp) j (((List.range j).map (itO k)).flatMap Item.cells) ∧ wr.ownsRow w.heap.size 52 4 v5 k ((entsO zs G).flatMap Entry.cells) ∧ LaidO wr w.heap.size G ∧ wr.ownsRow w.heap.size 62 5 v6 (2 * k + j) ((rowsO zs k ++ (List.range j).map (rowO zs k)).flatMap RowT.cells)
set_option maxHeartbeats 100000000 in
theorem tasksOrder_walk (A : Option Addr) (c : Nat) (zs : List Int) (v : Int) (w : World) (hz : IntsIn w A zs) : Calls Try.prog 6 #[.slice A zs.length c, .int .i64 v] w fun e w' => e = .returned (.bool true) ∧ Below w.heap.size w w' := by
  have HZ := Lib.hid hz
  clear hz
  go_enter Try.func6, Try.ntmps6
  go_wp2_with fail
  go_loopw [5, 6, 7] (fun v5 v6 i wr => OrdRel w zs v5 v6 i wr) (fun _ _ i _ => 6 - (intOf i).toNat)
  case atStart => exact ⟨0, [], Nat.zero_le _, Nat.zero_le _, rfl, rfl, Below.refl _ _, World.ownsRow_nil _ _ _ _, LaidO.nil _ _, World.ownsRow_nil _ _ _ _⟩
  case round =>
    obtain ⟨k, G, hk, hk6', hGl, rfl, hb, hownL, hlaid, hownW⟩ := hrel
    obtain ⟨A5, c5, hv5⟩ := own_slice hownL
    subst hv5
    obtain ⟨A6, c6, hv6⟩ := own_slice hownW
    subst hv6
    have hownLH := Lib.hid hownL
    have hownWH := Lib.hid hownW
    have hlaidH := Lib.hid hlaid
    have hGlH := Lib.hid hGl
    clear hownL hownW hlaid hGl
    by_cases hlt : k < zs.length ∧ k < 6
    · obtain ⟨hlt, hlt6⟩ := hlt
      have hk6 : k = 0 ∨ k = 1 ∨ k = 2 ∨ k = 3 ∨ k = 4 ∨ k = 5 := by omega
      obtain ⟨b0, o0, hA0, hcz⟩ := HZ.out (by omega)
      subst hA0
      have cz := cell_below hb (hcz k hlt)
      obtain ⟨z, hz⟩ : ∃ z, z = zs.getD k 0 := ⟨_, rfl⟩
      have hzH : Hid (runO zs k = z % 4) := by show zs.getD k 0 % 4 = z % 4; rw [hz]
      rw [← hz] at cz
      clear hcz hz
      go_wp2_with fail
      obtain ⟨V, HV⟩ : ∃ V : Tmp → Value → World → Prop, Hid (V = fun sl_ v_ w_ => QSpec.holds (match sl_ with | 8 => .new wr.heap.size 52 [.string ⟨#[]⟩, .string ⟨#[]⟩, .int .i64 0, .slice none 0 0] | 31 => .row 2 9 [.string ⟨#[102]⟩, .string ⟨#[103]⟩] | 32 => .det (.int .i64 k) | 33 => .det (.int .i64 (k % 2 : Nat)) | 34 => .ptr (k % 2) 9 [.string ⟨#[102]⟩, .string ⟨#[103]⟩] | 35 => .det (.string (fg k)) | 36 => .det (.slice (some ⟨b0, o0, none⟩) zs.length c) | 37 => .det (.int .i64 k) | 38 => .det (.pointer (some ⟨b0, o0 + k, none⟩)) | 39 => .det (.int .i64 z) | 40 => .det (.int .i64 (z % 4)) | 41 => .det (.agg #[.string (fg k), .string ⟨#[120]⟩, .int .i64 (z % 4), .slice none 0 0]) | _ => .any) v_ w_) := ⟨_, rfl⟩
      refine wp_region_tail 12 (Below wr.heap.size wr ·) (fun w_ w_2 => Below w_.heap.size w_ w_2) V (by kernel_rfl) (by kernel_rfl) (by kernel_rfl) (Below.refl _ _).drew (fun w_ => Below.refl _ _) ?_ ?_ ?_
      · intro t v w w' hC hR h
        rw [HV.out] at h ⊢
        exact QSpec.mono hR _ _ h
      · go_light
        dsimp only [List.take]
        simp only [List.forall_mem_cons]
        refine ⟨?_, ?_, ?_, ?_, ?_, ?_, ?_, ?_, ?_, ?_, ?_, ?_, fun _ h => by cases h⟩
        · intro ρ w1 hc hf hg ho hC hV
          simp only [execOp]
          go_simp
          exact ⟨below_alloc hC _, below_alloc (Below.refl _ _) _, (by show V 31 _ _; rw [HV.out]; exact ⟨_, rfl, blk_new _ _⟩)⟩
        · intro ρ w1 hc hf hg ho hC hV
          have e7 := ho 7 (by decide)
          simp only [execOp]
          go_simp
          exact ⟨hC, Below.refl _ _, (by show V 32 _ _; rw [HV.out]; exact rfl)⟩
        · intro ρ w1 hc hf hg ho hC hV
          have e32 : ρ (.tmp 32) = .int .i64 k := by have h := hV 32 (by decide) (by decide); rw [HV.out] at h; exact h
          rcases hk6 with rfl | rfl | rfl | rfl | rfl | rfl
          · simp only [execOp]; go_simp; exact ⟨hC, Below.refl _ _, (by show V 33 _ _; rw [HV.out]; exact rfl)⟩
          · simp only [execOp]; go_simp; exact ⟨hC, Below.refl _ _, (by show V 33 _ _; rw [HV.out]; exact rfl)⟩
          · simp only [execOp]; go_simp; exact ⟨hC, Below.refl _ _, (by show V 33 _ _; rw [HV.out]; exact rfl)⟩
          · simp only [execOp]; go_simp; exact ⟨hC, Below.refl _ _, (by show V 33 _ _; rw [HV.out]; exact rfl)⟩
          · simp only [execOp]; go_simp; exact ⟨hC, Below.refl _ _, (by show V 33 _ _; rw [HV.out]; exact rfl)⟩
          · simp only [execOp]; go_simp; exact ⟨hC, Below.refl _ _, (by show V 33 _ _; rw [HV.out]; exact rfl)⟩
        · intro ρ w1 hc hf hg ho hC hV
          have e31 : QSpec.holds (.row 2 9 [.string ⟨#[102]⟩, .string ⟨#[103]⟩]) (ρ (.tmp 31)) w1 := by have h := hV 31 (by decide) (by decide); rw [HV.out] at h; exact h
          obtain ⟨g31, e31, h31⟩ := e31
          have e33 : ρ (.tmp 33) = .int .i64 (k % 2 : Nat) := by have h := hV 33 (by decide) (by decide); rw [HV.out] at h; exact h
          rcases hk6 with rfl | rfl | rfl | rfl | rfl | rfl
          · simp only [execOp]; rw [e31]; go_simp; exact ⟨hC, Below.refl _ _, (by show V 34 _ _; rw [HV.out]; exact ⟨_, rfl, h31⟩)⟩
          · simp only [execOp]; rw [e31]; go_simp; exact ⟨hC, Below.refl _ _, (by show V 34 _ _; rw [HV.out]; exact ⟨_, rfl, h31⟩)⟩
          · simp only [execOp]; rw [e31]; go_simp; exact ⟨hC, Below.refl _ _, (by show V 34 _ _; rw [HV.out]; exact ⟨_, rfl, h31⟩)⟩
          · simp only [execOp]; rw [e31]; go_simp; exact ⟨hC, Below.refl _ _, (by show V 34 _ _; rw [HV.out]; exact ⟨_, rfl, h31⟩)⟩
          · simp only [execOp]; rw [e31]; go_simp; exact ⟨hC, Below.refl _ _, (by show V 34 _ _; rw [HV.out]; exact ⟨_, rfl, h31⟩)⟩
          · simp only [execOp]; rw [e31]; go_simp; exact ⟨hC, Below.refl _ _, (by show V 34 _ _; rw [HV.out]; exact ⟨_, rfl, h31⟩)⟩
        · intro ρ w1 hc hf hg ho hC hV
          have e34 : QSpec.holds (.ptr (k % 2) 9 [.string ⟨#[102]⟩, .string ⟨#[103]⟩]) (ρ (.tmp 34)) w1 := by have h := hV 34 (by decide) (by decide); rw [HV.out] at h; exact h
          obtain ⟨g34, e34, h34⟩ := e34
          have q0 : w1.cell? ⟨g34, 0, none⟩ = some (.string ⟨#[102]⟩) := by rw [blk_cell h34]; rfl
          have q1 : w1.cell? ⟨g34, 1, none⟩ = some (.string ⟨#[103]⟩) := by rw [blk_cell h34]; rfl
          rcases hk6 with rfl | rfl | rfl | rfl | rfl | rfl
          · simp only [execOp]; rw [e34]; go_simp; exact ⟨hC, Below.refl _ _, (by show V 35 _ _; rw [HV.out]; exact rfl)⟩
          · simp only [execOp]; rw [e34]; go_simp; exact ⟨hC, Below.refl _ _, (by show V 35 _ _; rw [HV.out]; exact rfl)⟩
          · simp only [execOp]; rw [e34]; go_simp; exact ⟨hC, Below.refl _ _, (by show V 35 _ _; rw [HV.out]; exact rfl)⟩
          · simp only [execOp]; rw [e34]; go_simp; exact ⟨hC, Below.refl _ _, (by show V 35 _ _; rw [HV.out]; exact rfl)⟩
          · simp only [execOp]; rw [e34]; go_simp; exact ⟨hC, Below.refl _ _, (by show V 35 _ _; rw [HV.out]; exact rfl)⟩
          · simp only [execOp]; rw [e34]; go_simp; exact ⟨hC, Below.refl _ _, (by show V 35 _ _; rw [HV.out]; exact rfl)⟩
        · intro ρ w1 hc hf hg ho hC hV
          have e0 := ho 0 (by decide)
          simp only [execOp]
          go_simp
          exact ⟨hC, Below.refl _ _, (by show V 36 _ _; rw [HV.out]; exact rfl)⟩
        · intro ρ w1 hc hf hg ho hC hV
          have e7 := ho 7 (by decide)
          simp only [execOp]
          go_simp
          exact ⟨hC, Below.refl _ _, (by show V 37 _ _; rw [HV.out]; exact rfl)⟩
        · intro ρ w1 hc hf hg ho hC hV
          have e36 : ρ (.tmp 36) = .slice (some ⟨b0, o0, none⟩) zs.length c := by have h := hV 36 (by decide) (by decide); rw [HV.out] at h; exact h
          have e37 : ρ (.tmp 37) = .int .i64 k := by have h := hV 37 (by decide) (by decide); rw [HV.out] at h; exact h
          simp only [execOp]
          go_simp
          exact ⟨hC, Below.refl _ _, (by show V 38 _ _; rw [HV.out]; exact rfl)⟩
        · intro ρ w1 hc hf hg ho hC hV
          have e38 : ρ (.tmp 38) = .pointer (some ⟨b0, o0 + k, none⟩) := by have h := hV 38 (by decide) (by decide); rw [HV.out] at h; exact h
          have cz' := cell_below hC cz
          simp only [execOp]
          go_simp
          exact ⟨hC, Below.refl _ _, (by show V 39 _ _; rw [HV.out]; exact rfl)⟩
        · intro ρ w1 hc hf hg ho hC hV
          have e39 : ρ (.tmp 39) = .int .i64 z := by have h := hV 39 (by decide) (by decide); rw [HV.out] at h; exact h
          simp only [execOp]
          go_simp
          refine (within18 z 4 (by omega) (by omega) w1).mono ?_
          rintro e w2 ⟨rfl, rfl⟩
          exact ⟨_, rfl, hC, Below.refl _ _, (by show V 40 _ _; rw [HV.out]; exact rfl)⟩
        · intro ρ w1 hc hf hg ho hC hV
          have e35 : ρ (.tmp 35) = .string (fg k) := by have h := hV 35 (by decide) (by decide); rw [HV.out] at h; exact h
          have e40 : ρ (.tmp 40) = .int .i64 (z % 4) := by have h := hV 40 (by decide) (by decide); rw [HV.out] at h; exact h
          simp only [execOp]
          go_simp
          exact ⟨hC, Below.refl _ _, (by show V 41 _ _; rw [HV.out]; exact rfl)⟩
        · intro ρ w1 hc hf hg ho hC hV
          simp only [execOp]
          go_simp
          exact ⟨below_alloc hC _, below_alloc (Below.refl _ _) _, (by show V 8 _ _; rw [HV.out]; exact ⟨_, rfl, hC.size, blk_new _ _⟩)⟩
      · intro σ w1 hC hV
        have v8 : QSpec.holds (.new wr.heap.size 52 [.string ⟨#[]⟩, .string ⟨#[]⟩, .int .i64 0, .slice none 0 0]) (σ 8) w1 := by have h := hV 8 (by decide); rw [HV.out] at h; exact h
        have v41 : σ 41 = .agg #[.string (fg k), .string ⟨#[120]⟩, .int .i64 (z % 4), .slice none 0 0] := by have h := hV 41 (by decide); rw [HV.out] at h; exact h
        clear hV HV V
        dsimp only [headDsts, List.take, List.drop, List.filterMap, putAll, Act.put]
        obtain ⟨ge, v8, hge, h8⟩ := v8
        have p0 : w1.cell? ⟨ge, 0, none⟩ = some (.string ⟨#[]⟩) := by rw [blk_cell h8]; rfl
        have p1 : w1.cell? ⟨ge, 1, none⟩ = some (.string ⟨#[]⟩) := by rw [blk_cell h8]; rfl
        have p2 : w1.cell? ⟨ge, 2, none⟩ = some (.int .i64 0) := by rw [blk_cell h8]; rfl
        have p3 : w1.cell? ⟨ge, 3, none⟩ = some (.slice none 0 0) := by rw [blk_cell h8]; rfl
        have f0 : w1.frozen? ⟨ge, 0, none⟩ = false := blk_free h8
        have f1 : w1.frozen? ⟨ge, 1, none⟩ = false := blk_free h8
        have f2 : w1.frozen? ⟨ge, 2, none⟩ = false := blk_free h8
        have f3 : w1.frozen? ⟨ge, 3, none⟩ = false := blk_free h8
        have h8H := Lib.hid h8
        clear h8 cz hk6
        rw [v8, v41]
        clear v8 v41
        go_simp
        go_wp2_with fail
        generalize hW : (((w1.setCell _ _).setCell _ _).setCell _ _).setCell _ _ = W1
        have hblk : Hid (W1.heap[ge]? = some (.cells #[.string (fg k), .string ⟨#[120]⟩, .int .i64 (runO zs k), .slice none 0 0] 52 (0, 0))) := by
          show _ = _
          rw [hzH.out, ← hW]
          exact blk_setCell (blk_setCell (blk_setCell (blk_setCell h8H.out _) _) _) _
        have hb1 : Below wr.heap.size wr W1 := by
          rw [← hW]
          exact (((hC.setCell hge _).setCell hge _).setCell hge _).setCell hge _
        rw [← hzH.out]
        have hGe : Hid (∀ p ∈ G, p.1 < ge) := fun p hp => Nat.lt_of_lt_of_le (hlaidH.out.lt p hp) hge
        have hLe : Hid (∀ q, (Value.slice A5 k c5).ownBlock = some q → q < ge) := fun q hq => Nat.lt_of_lt_of_le (hownLH.out.lt q hq).2 hge
        have hwge : w.heap.size ≤ ge := Nat.le_trans hb.size hge
        have hbw := below_step hb hb1
        have hownL1 := Lib.hid (own_below hownLH.out hb1)
        have hownW1 := Lib.hid (own_below hownWH.out hb1)
        have hlaid1 := Lib.hid (hlaidH.out.below hlaidH.out.lt hb1)
        clear hW p0 p1 p2 p3 f0 f1 f2 f3 hC hb hb1 hownLH hownWH hlaidH h8H hge
        go_loopw [6, 9] (fun v6 v9 wr => InO w zs G k ge (.slice A5 k c5) v6 v9 wr) (fun _ j _ => 2 - (intOf j).toNat)
        case atStart => exact ⟨0, none, 0, by omega, rfl, hbw, hblk.out, World.ownsRow_nil _ _ _ _, hownL1.out, hlaid1.out, by simpa using hownW1.out⟩
        case round =>
          clear hbw hblk hownL1 hownW1 hlaid1
          obtain ⟨j, A7, c7, hj, rfl, hb2, hblk2, hitems, hownL2, hlaid2, hownW2⟩ := hrel
          obtain ⟨A62, c62, hv⟩ := own_slice hownW2
          subst hv
          have hgewr := blk_lt hblk2
          have hblk2H := Lib.hid hblk2
          have hitemsH := Lib.hid hitems
          have hownL2H := Lib.hid hownL2
          have hownW2H := Lib.hid hownW2
          have hlaid2H := Lib.hid hlaid2
          clear hblk2 hitems hownL2 hownW2 hlaid2
          by_cases hlt2 : j < 2
          · have hj2 : j = 0 ∨ j = 1 := by omega
            have hk6 : k = 0 ∨ k = 1 ∨ k = 2 ∨ k = 3 ∨ k = 4 ∨ k = 5 := by omega
            go_wp2_with fail
            obtain ⟨V, HV⟩ : ∃ V : Tmp → Value → World → Prop, Hid (V = fun sl_ v_ w_ => QSpec.holds (match sl_ with | 10 => .new wr.heap.size 50 [.string ⟨#[]⟩, .complex .f64 0 0] | 46 => .det (.int .i64 k) | 47 => .det (.string (sufO k)) | 48 => .det (.string (lt k)) | 49 => .det (.int .i64 j) | 50 => .det (.string (sufJ j)) | 51 => .det (.string (dg j)) | 52 => .det (.string (tn k j)) | 53 => .det (.int .i64 k) | 54 => .det (.float .f64 (fl k)) | 55 => .det (.int .i64 j) | 56 => .det (.int .i64 (j + 1 : Nat)) | 57 => .det (.float .f64 (fl (j + 1))) | 58 => .det (.complex .f64 (fl k) (fl (j + 1))) | 59 => .det (.agg #[.string (tn k j), .complex .f64 (fl k) (fl (j + 1))]) | _ => .any) v_ w_) := ⟨_, rfl⟩
            refine wp_region_tail 15 (Below wr.heap.size wr ·) (fun w_ w_2 => Below w_.heap.size w_ w_2) V (by kernel_rfl) (by kernel_rfl) (by kernel_rfl) (Below.refl _ _).drew (fun w_ => Below.refl _ _) ?_ ?_ ?_
            · intro t v w w' hC hR h
              rw [HV.out] at h ⊢
              exact QSpec.mono hR _ _ h
            · go_light
              dsimp only [List.take]
              simp only [List.forall_mem_cons]
              refine ⟨?_, ?_, ?_, ?_, ?_, ?_, ?_, ?_, ?_, ?_, ?_, ?_, ?_, ?_, ?_, fun _ h => by cases h⟩
              · intro ρ w1_1 hc hf hg ho hC hV
                have e7 := ho 7 (by decide)
                simp only [execOp]
                go_simp
                exact ⟨hC, Below.refl _ _, (by show V 46 _ _; rw [HV.out]; exact rfl)⟩
              · intro ρ w1_1 hc hf hg ho hC hV
                have e46 : ρ (.tmp 46) = .int .i64 k := by have h := hV 46 (by decide) (by decide); rw [HV.out] at h; exact h
                rcases hk6 with rfl | rfl | rfl | rfl | rfl | rfl
                · simp only [execOp]; go_simp; exact ⟨hC, Below.refl _ _, (by show V 47 _ _; rw [HV.out]; exact rfl)⟩
                · simp only [execOp]; go_simp; exact ⟨hC, Below.refl _ _, (by show V 47 _ _; rw [HV.out]; exact rfl)⟩
                · simp only [execOp]; go_simp; exact ⟨hC, Below.refl _ _, (by show V 47 _ _; rw [HV.out]; exact rfl)⟩
                · simp only [execOp]; go_simp; exact ⟨hC, Below.refl _ _, (by show V 47 _ _; rw [HV.out]; exact rfl)⟩
                · simp only [execOp]; go_simp; exact ⟨hC, Below.refl _ _, (by show V 47 _ _; rw [HV.out]; exact rfl)⟩
                · simp only [execOp]; go_simp; exact ⟨hC, Below.refl _ _, (by show V 47 _ _; rw [HV.out]; exact rfl)⟩
              · intro ρ w1_1 hc hf hg ho hC hV
                have e47 : ρ (.tmp 47) = .string (sufO k) := by have h := hV 47 (by decide) (by decide); rw [HV.out] at h; exact h
                rcases hk6 with rfl | rfl | rfl | rfl | rfl | rfl
                · simp only [execOp]; rw [e47]; simp only [sufO]; go_simp; exact ⟨hC, Below.refl _ _, (by show V 48 _ _; rw [HV.out]; exact rfl)⟩
                · simp only [execOp]; rw [e47]; simp only [sufO]; go_simp; exact ⟨hC, Below.refl _ _, (by show V 48 _ _; rw [HV.out]; exact rfl)⟩
                · simp only [execOp]; rw [e47]; simp only [sufO]; go_simp; exact ⟨hC, Below.refl _ _, (by show V 48 _ _; rw [HV.out]; exact rfl)⟩
                · simp only [execOp]; rw [e47]; simp only [sufO]; go_simp; exact ⟨hC, Below.refl _ _, (by show V 48 _ _; rw [HV.out]; exact rfl)⟩
                · simp only [execOp]; rw [e47]; simp only [sufO]; go_simp; exact ⟨hC, Below.refl _ _, (by show V 48 _ _; rw [HV.out]; exact rfl)⟩
                · simp only [execOp]; rw [e47]; simp only [sufO]; go_simp; exact ⟨hC, Below.refl _ _, (by show V 48 _ _; rw [HV.out]; exact rfl)⟩
              · intro ρ w1_1 hc hf hg ho hC hV
                have e9 := ho 9 (by decide)
                simp only [execOp]
                go_simp
                exact ⟨hC, Below.refl _ _, (by show V 49 _ _; rw [HV.out]; exact rfl)⟩
              · intro ρ w1_1 hc hf hg ho hC hV
                have e49 : ρ (.tmp 49) = .int .i64 j := by have h := hV 49 (by decide) (by decide); rw [HV.out] at h; exact h
                rcases hj2 with rfl | rfl
                · simp only [execOp]; go_simp; exact ⟨hC, Below.refl _ _, (by show V 50 _ _; rw [HV.out]; exact rfl)⟩
                · simp only [execOp]; go_simp; exact ⟨hC, Below.refl _ _, (by show V 50 _ _; rw [HV.out]; exact rfl)⟩
              · intro ρ w1_1 hc hf hg ho hC hV
                have e50 : ρ (.tmp 50) = .string (sufJ j) := by have h := hV 50 (by decide) (by decide); rw [HV.out] at h; exact h
                rcases hj2 with rfl | rfl
                · simp only [execOp]; rw [e50]; simp only [sufJ]; go_simp; exact ⟨hC, Below.refl _ _, (by show V 51 _ _; rw [HV.out]; exact rfl)⟩
                · simp only [execOp]; rw [e50]; simp only [sufJ]; go_simp; exact ⟨hC, Below.refl _ _, (by show V 51 _ _; rw [HV.out]; exact rfl)⟩
              · intro ρ w1_1 hc hf hg ho hC hV
                have e48 : ρ (.tmp 48) = .string (lt k) := by have h := hV 48 (by decide) (by decide); rw [HV.out] at h; exact h
                have e51 : ρ (.tmp 51) = .string (dg j) := by have h := hV 51 (by decide) (by decide); rw [HV.out] at h; exact h
                simp only [execOp]
                go_simp
                exact ⟨hC, Below.refl _ _, (by show V 52 _ _; rw [HV.out]; exact congrArg Value.string (lt_dg k j))⟩
              · intro ρ w1_1 hc hf hg ho hC hV
                have e7 := ho 7 (by decide)
                simp only [execOp]
                go_simp
                exact ⟨hC, Below.refl _ _, (by show V 53 _ _; rw [HV.out]; exact rfl)⟩
              · intro ρ w1_1 hc hf hg ho hC hV
                have e53 : ρ (.tmp 53) = .int .i64 k := by have h := hV 53 (by decide) (by decide); rw [HV.out] at h; exact h
                simp only [execOp]
                go_simp
                exact ⟨hC, Below.refl _ _, (by show V 54 _ _; rw [HV.out]; exact rfl)⟩
              · intro ρ w1_1 hc hf hg ho hC hV
                have e9 := ho 9 (by decide)
                simp only [execOp]
                go_simp
                exact ⟨hC, Below.refl _ _, (by show V 55 _ _; rw [HV.out]; exact rfl)⟩
              · intro ρ w1_1 hc hf hg ho hC hV
                have e55 : ρ (.tmp 55) = .int .i64 j := by have h := hV 55 (by decide) (by decide); rw [HV.out] at h; exact h
                rcases hj2 with rfl | rfl
                · simp only [execOp]; go_simp; exact ⟨hC, Below.refl _ _, (by show V 56 _ _; rw [HV.out]; exact rfl)⟩
                · simp only [execOp]; go_simp; exact ⟨hC, Below.refl _ _, (by show V 56 _ _; rw [HV.out]; exact rfl)⟩
              · intro ρ w1_1 hc hf hg ho hC hV
                have e56 : ρ (.tmp 56) = .int .i64 (j + 1 : Nat) := by have h := hV 56 (by decide) (by decide); rw [HV.out] at h; exact h
                simp only [execOp]
                rw [e56]
                go_simp
                exact ⟨hC, Below.refl _ _, (by show V 57 _ _; rw [HV.out]; exact congrArg (Value.float .f64) (by unfold fl; congr 1))⟩
              · intro ρ w1_1 hc hf hg ho hC hV
                have e54 : ρ (.tmp 54) = .float .f64 (fl k) := by have h := hV 54 (by decide) (by decide); rw [HV.out] at h; exact h
                have e57 : ρ (.tmp 57) = .float .f64 (fl (j + 1)) := by have h := hV 57 (by decide) (by decide); rw [HV.out] at h; exact h
                simp only [execOp]
                go_simp
                exact ⟨hC, Below.refl _ _, (by show V 58 _ _; rw [HV.out]; exact rfl)⟩
              · intro ρ w1_1 hc hf hg ho hC hV
                have e52 : ρ (.tmp 52) = .string (tn k j) := by have h := hV 52 (by decide) (by decide); rw [HV.out] at h; exact h
                have e58 : ρ (.tmp 58) = .complex .f64 (fl k) (fl (j + 1)) := by have h := hV 58 (by decide) (by decide); rw [HV.out] at h; exact h
                simp only [execOp]
                go_simp
                exact ⟨hC, Below.refl _ _, (by show V 59 _ _; rw [HV.out]; exact rfl)⟩
              · intro ρ w1_1 hc hf hg ho hC hV
                simp only [execOp]
                go_simp
                exact ⟨below_alloc hC _, below_alloc (Below.refl _ _) _, (by show V 10 _ _; rw [HV.out]; exact ⟨_, rfl, hC.size, blk_new _ _⟩)⟩
            · intro σ w1_1 hC hV
              have v10 : QSpec.holds (.new wr.heap.size 50 [.string ⟨#[]⟩, .complex .f64 0 0]) (σ 10) w1_1 := by have h := hV 10 (by decide); rw [HV.out] at h; exact h
              have v59 : σ 59 = .agg #[.string (tn k j), .complex .f64 (fl k) (fl (j + 1))] := by have h := hV 59 (by decide); rw [HV.out] at h; exact h
              clear hV HV V
              dsimp only [headDsts, List.take, List.drop, List.filterMap, putAll, Act.put]
              obtain ⟨gi, v10, hgi, h10⟩ := v10
              have p0 : w1_1.cell? ⟨gi, 0, none⟩ = some (.string ⟨#[]⟩) := by rw [blk_cell h10]; rfl
              have p1 : w1_1.cell? ⟨gi, 1, none⟩ = some (.complex .f64 0 0) := by rw [blk_cell h10]; rfl
              have f0 : w1_1.frozen? ⟨gi, 0, none⟩ = false := blk_free h10
              have f1 : w1_1.frozen? ⟨gi, 1, none⟩ = false := blk_free h10
              have h10H := Lib.hid h10
              clear h10 hk6 hj2
              rw [v10, v59]
              clear v10 v59
              go_simp
              go_upto_region 11 with (fail)
              generalize hW : (w1_1.setCell _ _).setCell _ _ = W2
              have hit : Hid (W2.heap[gi]? = some (.cells #[.string (tn k j), .complex .f64 (fl k) (fl (j + 1))] 50 (0, 0))) := by
                show _ = _
                rw [← hW]
                exact blk_setCell (blk_setCell h10H.out _) _
              have hb3 : Below wr.heap.size wr W2 := by
                rw [← hW]
                exact (hC.setCell hgi _).setCell hgi _
              have hne : gi ≠ ge := by omega
              have hbw3 := below_step hb2 hb3
              have hblk3 := Lib.hid (blk_below hblk2H.out hb3)
              have hown3 : Hid (∀ q, (Value.slice A7 j c7).ownBlock = some q → q ≠ gi) := fun q hq => by have := (hitemsH.out.lt q hq).2; omega
              have hitems3 := Lib.hid (own_below hitemsH.out hb3)
              have hownL3 := Lib.hid (own_below hownL2H.out hb3)
              have hownW3 := Lib.hid (own_below hownW2H.out hb3)
              have hlaid3 := Lib.hid (hlaid2H.out.below hlaid2H.out.lt hb3)
              have hge3 : ge + 1 ≤ W2.heap.size := blk_lt hblk3.out
              have hgi3 : gi < W2.heap.size := blk_lt hit.out
              have p0 : W2.cell? ⟨ge, 0, none⟩ = some (.string (fg k)) := by rw [blk_cell hblk3.out]; rfl
              have p1 : W2.cell? ⟨ge, 1, none⟩ = some (.string ⟨#[120]⟩) := by rw [blk_cell hblk3.out]; rfl
              have p2 : W2.cell? ⟨ge, 2, none⟩ = some (.int .i64 (runO zs k)) := by rw [blk_cell hblk3.out]; rfl
              have p3 : W2.cell? ⟨ge, 3, none⟩ = some (.slice A7 j c7) := by rw [blk_cell hblk3.out]; rfl
              have i0 : W2.cell? ⟨gi, 0, none⟩ = some (.string (tn k j)) := by rw [blk_cell hit.out]; rfl
              have i1 : W2.cell? ⟨gi, 1, none⟩ = some (.complex .f64 (fl k) (fl (j + 1))) := by rw [blk_cell hit.out]; rfl
              clear hW f0 f1 hC hb2 hb3 h10H hblk2H hitemsH hownL2H hownW2H hlaid2H
              go_upto_region 12 with (at_builtin; refine app_at (w0 := W2) W2.heap.size rfl (ge + 1) rfl _ _ 33 50 (.agg #[.string ⟨#[]⟩, .complex .f64 0 0]) 2 32 rfl Try.underlying33 info50 rfl (by decide) (by decide) (.slice A7 j c7) j (((List.range j).map (itO k)).flatMap Item.cells) [.string (tn k j), .complex .f64 (fl k) (fl (j + 1))] (by rfl) (by rfl) rfl (by simp [Value.oneCell']) hitems3.out (Below.refl _ _) hge3 (by omega) ?_; intro v1 w3 hown4 hb4 hg4 hat4; obtain ⟨A8, c8, hv8⟩ := own_slice hown4; subst hv8; have hblk4 : w3.heap[ge]? = some (.cells #[.string (fg k), .string ⟨#[120]⟩, .int .i64 (runO zs k), .slice A7 j c7] 52 (0, 0)) := (hb4.block ge (by omega)).trans hblk3.out; have hblk4H := Lib.hid hblk4; have r3 : w3.cell? ⟨ge, 3, none⟩ = some (.slice A7 j c7) := (by rw [blk_cell hblk4]; rfl); have g3 : w3.frozen? ⟨ge, 3, none⟩ = false := blk_free hblk4; clear hblk4)
              generalize hW : w3.setCell _ _ = W4
              have hblk5 : Hid (W4.heap[ge]? = some (.cells #[.string (fg k), .string ⟨#[120]⟩, .int .i64 (runO zs k), .slice A8 (j + 1) c8] 52 (0, 0))) := by
                show _ = _
                rw [← hW]
                exact blk_setCell hblk4H.out _
              have hit5 : Hid (W4.heap[gi]? = some (.cells #[.string (tn k j), .complex .f64 (fl k) (fl (j + 1))] 50 (0, 0))) := by
                show _ = _
                rw [← hW]
                exact blk_setCell_ne ((hg4.block gi hgi3 (fun he => hown3.out gi he.symm rfl)).trans hit.out) hne _
              have hitems5 : Hid (W4.ownsRow (ge + 1) 50 2 (.slice A8 (j + 1) c8) (j + 1) (((List.range (j + 1)).map (itO k)).flatMap Item.cells)) := by
                show World.ownsRow _ _ _ _ _ _ _
                rw [← hW, List.range_succ, List.map_append, List.flatMap_append]
                exact own_setCell hown4 hblk4H.out (by decide) _ _
              have hownL4 : w3.ownsRow w.heap.size 52 4 (.slice A5 k c5) k ((entsO zs G).flatMap Entry.cells) := hownL3.out.kept hg4 (own_apart' hownL3.out hitems3.out (by decide))
              have hownL5 : Hid (W4.ownsRow w.heap.size 52 4 (.slice A5 k c5) k ((entsO zs G).flatMap Entry.cells)) := by
                show World.ownsRow _ _ _ _ _ _ _
                rw [← hW]
                exact own_keep hownL4 fun q hq => Below.heap_setCell _ _ _ _ (by have := hLe.out q hq; show q ≠ ge; omega)
              have hownW4 : w3.ownsRow w.heap.size 62 5 (.slice A62 (2 * k + j) c62) (2 * k + j) ((rowsO zs k ++ (List.range j).map (rowO zs k)).flatMap RowT.cells) := hownW3.out.kept hg4 (own_apart' hownW3.out hitems3.out (by decide))
              have hownW5 : Hid (W4.ownsRow w.heap.size 62 5 (.slice A62 (2 * k + j) c62) (2 * k + j) ((rowsO zs k ++ (List.range j).map (rowO zs k)).flatMap RowT.cells)) := by
                show World.ownsRow _ _ _ _ _ _ _
                rw [← hW]
                exact own_setCell hownW4 hblk4H.out (by decide) _ _
              have hlaid5 : Hid (LaidO W4 w.heap.size G) := by
                show LaidO _ _ _
                have h4 := hlaid3.out.below (B := ge + 1) (fun p hp => by have := hGe.out p hp; omega) hb4
                rw [← hW]
                exact h4.of_heap fun p hp => Below.heap_setCell _ _ _ _ (by have := hGe.out p hp; show p.1 ≠ ge; omega)
              have hbw5 : Below w.heap.size w W4 := by
                rw [← hW]
                exact (hbw3.trans (hb4.mono (by omega))).setCell hwge _
              have hw5 : w.heap.size ≤ W4.heap.size := below_size hbw5
              clear hW r3 g3 hblk4H hown4 hb4 hg4 hat4 hownL4 hownW4 p0 p1 p2 p3 i0 i1 hitems3 hownL3 hownW3 hlaid3 hblk3 hit hown3 hge3 hgi3 hbw3
              have p0 : W4.cell? ⟨ge, 0, none⟩ = some (.string (fg k)) := by rw [blk_cell hblk5.out]; rfl
              have p1 : W4.cell? ⟨ge, 1, none⟩ = some (.string ⟨#[120]⟩) := by rw [blk_cell hblk5.out]; rfl
              have p2 : W4.cell? ⟨ge, 2, none⟩ = some (.int .i64 (runO zs k)) := by rw [blk_cell hblk5.out]; rfl
              have p3 : W4.cell? ⟨ge, 3, none⟩ = some (.slice A8 (j + 1) c8) := by rw [blk_cell hblk5.out]; rfl
              have i0 : W4.cell? ⟨gi, 0, none⟩ = some (.string (tn k j)) := by rw [blk_cell hit5.out]; rfl
              have i1 : W4.cell? ⟨gi, 1, none⟩ = some (.complex .f64 (fl k) (fl (j + 1))) := by rw [blk_cell hit5.out]; rfl
              go_wp2_with (at_builtin; refine app_at (w0 := w) W4.heap.size rfl w.heap.size rfl _ _ 53 62 (.agg #[.string ⟨#[]⟩, .string ⟨#[]⟩, .string ⟨#[]⟩, .int .i64 0, .complex .f64 0 0]) 5 72 rfl Try.underlying53 info62 rfl (by decide) (by decide) (.slice A62 (2 * k + j) c62) (2 * k + j) ((rowsO zs k ++ (List.range j).map (rowO zs k)).flatMap RowT.cells) [.string (fg k), .string (tn k j), .string ⟨#[120]⟩, .int .i64 (runO zs k), .complex .f64 (fl k) (fl (j + 1))] (by rfl) (by rfl) rfl (by simp [Value.oneCell']) hownW5.out hbw5 hw5 (by omega) ?_; intro v1 w6 hown6 hb6 hg6 hat6)
              go_roundw
              case rel =>
                refine ⟨j + 1, A8, c8, by omega, by go_num, hb6, blk_grown hblk5.out hownW5.out (by decide) hg6, hitems5.out.kept hg6 (own_apart' hitems5.out hownW5.out (by decide)), hownL5.out.kept hg6 (own_apart' hownL5.out hownW5.out (by decide)), hlaid5.out.grown hownW5.out (by decide) hg6, ?_⟩
                rw [List.range_succ, List.map_append, ← List.append_assoc, List.flatMap_append]
                exact hown6
              case measure => simp [intOf]; omega
          · have hje : j = 2 := by omega
            subst hje
            have hrow2 : ∃ g7, A7 = some ⟨g7, 0, none⟩ := by
              rcases hitemsH.out.2 with ⟨hv, _⟩ | ⟨g7, cap, cur, hv, _⟩
              · cases hv
              · injection hv with hA _ _
                exact ⟨g7, hA⟩
            obtain ⟨g7, hA7⟩ := hrow2
            subst hA7
            have p0 : wr.cell? ⟨ge, 0, none⟩ = some (.string (fg k)) := by rw [blk_cell hblk2H.out]; rfl
            have p1 : wr.cell? ⟨ge, 1, none⟩ = some (.string ⟨#[120]⟩) := by rw [blk_cell hblk2H.out]; rfl
            have p2 : wr.cell? ⟨ge, 2, none⟩ = some (.int .i64 (runO zs k)) := by rw [blk_cell hblk2H.out]; rfl
            have p3 : wr.cell? ⟨ge, 3, none⟩ = some (.slice (some ⟨g7, 0, none⟩) 2 c7) := by rw [blk_cell hblk2H.out]; rfl
            have hgk := Lib.hid hGlH.out
            have hw5 : w.heap.size ≤ wr.heap.size := below_size hb2
            go_wp2_with (at_builtin; refine app_at (w0 := w) wr.heap.size rfl w.heap.size rfl _ _ 46 52 (.agg #[.string ⟨#[]⟩, .string ⟨#[]⟩, .int .i64 0, .slice none 0 0]) 4 64 rfl Try.underlying46 info52 rfl (by decide) (by decide) (.slice A5 k c5) k ((entsO zs G).flatMap Entry.cells) [.string (fg k), .string ⟨#[120]⟩, .int .i64 (runO zs k), .slice (some ⟨g7, 0, none⟩) 2 c7] (by rfl) (by rfl) rfl (by simp [Value.oneCell']) hownL2H.out hb2 hw5 (by omega) ?_; intro v1 w6 hown6 hb6 hg6 hat6)
            go_roundw
            case rel =>
              refine ⟨k + 1, G ++ [(g7, c7)], by omega, by omega, by simp [hGlH.out], by go_num, hb6, ?_, ?_, ?_⟩
              · rw [entsO_snoc, flat_snoc, hGlH.out]; exact hown6
              · refine LaidO.snoc (hlaid2H.out.grown hownL2H.out (by decide) hg6) ?_
                rw [hGlH.out]
                exact own_lower (hitemsH.out.kept hg6 (own_apart' hitemsH.out hownL2H.out (by decide))) (by omega)
              · have h := hownW2H.out.kept hg6 (own_apart' hownW2H.out hownL2H.out (by decide))
                rw [rowsO_succ]
                exact h
            case measure => simp [intOf]; omega
    · obtain ⟨wo, rfl⟩ : ∃ wo : World, wo = wr := ⟨_, rfl⟩
      have hent : Hid (EntriesAt wo A5 (entsO zs G)) := ⟨(own_rowOf (cells := Entry.cells) (fun _ => rfl) (by decide) hownLH.out).2, hlaidH.out.items⟩
      clear hownLH hlaidH
      by_cases hx : k < zs.length
      · have hx6 : ¬ k < 6 := fun h => hlt ⟨hx, h⟩
        clear hlt
        go_wp2_with fail
        refine (rowsK A5 c5 zs G k hGlH.out hk6' wo hent.out).mono ?_
        rintro e w1 ⟨v11, rfl, hown11, hb1⟩
        obtain ⟨A11, c11, hv11⟩ := own_slice hown11
        subst hv11
        have hown11H := Lib.hid hown11
        have hw1 := hb1.size
        have hownW1 := Lib.hid (own_below hownWH.out hb1)
        clear hown11
        go_wp2_with fail
        refine (sameK A11 A6 c11 c6 zs k hk6' w1 (own_rowOf (cells := RowT.cells) (fun _ => rfl) (by decide) hown11H.out).2 (own_rowOf (cells := RowT.cells) (fun _ => rfl) (by decide) hownW1.out).2).mono ?_
        rintro e w2 ⟨rfl, hb2⟩
        have hm0 : 0 ≤ v % 3 := Int.emod_nonneg v (by omega)
        have hm1 : v % 3 < 3 := Int.emod_lt_of_pos v (by omega)
        go_wp2_with fail
        refine (within18 v 3 (by omega) (by omega) w2).mono ?_
        rintro e w3 ⟨rfl, rfl⟩
        generalize v % 3 = m3 at hm0 hm1 ⊢
        obtain ⟨w3, hw3⟩ : ∃ w3, w3 = w2 := ⟨_, rfl⟩
        rw [← hw3]
        have hb13 := below_step hb1 hb2
        have hown11b := Lib.hid (own_below hown11H.out hb2)
        have hownWb := Lib.hid (own_below hownW1.out hb2)
        rw [← hw3] at hb13 hown11b hownWb
        clear hw3 hb1 hb2 hown11H hownW1 hw1
        go_wp2_with fail
        generalize hE : 1 + m3 = R
        clear hE hm0 hm1
        go_loopw [13, 14, 94] (fun v13 v14 i wr4 => SelRel w3 (rowsO zs k) R v13 v14 i wr4) (fun _ _ i _ => 2 * k - (intOf i).toNat)
        case atStart => exact ⟨0, [], [], Nat.zero_le _, rfl, rfl, rfl, Nat.zero_le _, Nat.zero_le _, Below.refl _ _, World.ownsRow_nil _ _ _ _, World.ownsRow_nil _ _ _ _, fun q hq => by simp [Value.ownBlock] at hq⟩
        case round =>
          obtain ⟨j, M, N, hj, rfl, hM, hN, hMj, hNj, hb4, hown13, hown14, hap⟩ := hrel
          rw [rowsO_length] at hj
          obtain ⟨A13, c13, hv⟩ := own_slice hown13
          subst hv
          obtain ⟨A14, c14, hv⟩ := own_slice hown14
          subst hv
          have hMH := Lib.hid hM
          have hNH := Lib.hid hN
          have own13H := Lib.hid hown13
          have own14H := Lib.hid hown14
          have hapH := Lib.hid hap
          clear hM hN hown13 hown14 hap
          by_cases hltj : j < 2 * k
          · obtain ⟨x, hx2⟩ : ∃ x, (rowsO zs k)[j]? = some x := ⟨_, List.getElem?_eq_getElem (by rw [rowsO_length]; exact hltj)⟩
            obtain ⟨b6, o6, hA6, hcs⟩ := (own_rowOf (cells := RowT.cells) (fun _ => rfl) (by decide) hownWb.out).2 (by rw [rowsO_length]; omega)
            subst hA6
            have htsz : x.t.size = 2 := by
              obtain ⟨i_, j_, _, _, hx3⟩ := mem_rowsO (List.mem_of_getElem? hx2)
              rw [hx3]
              exact tn_size i_ j_
            have hfm := Lib.hid (filter_snoc2 (ofB R) (rowsO zs k) j x hx2)
            have hfo := Lib.hid (filter_snoc2 opB (rowsO zs k) j x hx2)
            have hc : ∀ (q : Nat) (u : Value), x.cells[q]? = some u → wr.cell? ⟨b6, o6 + j * 5 + q, none⟩ = some u := fun q u h => cell_below hb4 (hcs j x hx2 q u h)
            obtain ⟨xf, xt, xe, xrun, xre, xim⟩ := x
            have c0 : wr.cell? ⟨b6, o6 + j * 5, none⟩ = some (.string xf) := hc 0 _ rfl
            have c1 : wr.cell? ⟨b6, o6 + j * 5 + 1, none⟩ = some (.string xt) := hc 1 _ rfl
            have c2 : wr.cell? ⟨b6, o6 + j * 5 + 2, none⟩ = some (.string xe) := hc 2 _ rfl
            have c3 : wr.cell? ⟨b6, o6 + j * 5 + 3, none⟩ = some (.int .i64 xrun) := hc 3 _ rfl
            have c4 : wr.cell? ⟨b6, o6 + j * 5 + 4, none⟩ = some (.complex .f64 xre xim) := hc 4 _ rfl
            simp only [] at htsz
            have e4 := one1_spell xt htsz
            have e1 := eqS_g xf
            clear hc hcs hx2
            have hwr4 := below_size hb4
            rcases hq1 : eqS xf ⟨#[103]⟩ with _ | _
            · rw [hq1] at e1
              have hM2 : Hid (M = ((rowsO zs k).take (j + 1)).filter (ofB R)) := by
                show _ = _
                rw [hfm.out, ← hMH.out]
                simp [ofB, hq1]
              clear hfm hq1
              go_upto_region 24 with (fail)
              generalize hW : wr.alloc _ = Wb
              have hbB : Below w3.heap.size w3 Wb := by rw [← hW]; exact below_alloc hb4 _
              have hr : Hid (Wb.heap[wr.heap.size]? = some (.cells #[.string xf, .string xt, .string xe, .int .i64 xrun, .complex .f64 xre xim] 62 (0, 0))) := by rw [← hW]; exact heap_alloc_new wr _
              have own13 : Hid (Wb.ownsRow w3.heap.size 62 5 (.slice A13 M.length c13) M.length (M.flatMap RowT.cells)) := by rw [← hW]; exact own13H.out.alloc _
              have own14 : Hid (Wb.ownsRow w3.heap.size 62 5 (.slice A14 N.length c14) N.length (N.flatMap RowT.cells)) := by rw [← hW]; exact own14H.out.alloc _
              have hap := Lib.hid hapH.out
              clear hW own13H own14H hapH c0 c1 c2 c3 c4 hb4
              have r0 : Wb.cell? ⟨wr.heap.size, 0, none⟩ = some (.string xf) := by rw [blk_cell hr.out]; rfl
              have r1 : Wb.cell? ⟨wr.heap.size, 1, none⟩ = some (.string xt) := by rw [blk_cell hr.out]; rfl
              have r2 : Wb.cell? ⟨wr.heap.size, 2, none⟩ = some (.string xe) := by rw [blk_cell hr.out]; rfl
              have r3 : Wb.cell? ⟨wr.heap.size, 3, none⟩ = some (.int .i64 xrun) := by rw [blk_cell hr.out]; rfl
              have r4 : Wb.cell? ⟨wr.heap.size, 4, none⟩ = some (.complex .f64 xre xim) := by rw [blk_cell hr.out]; rfl
              have hjl : Hid (j + 1 ≤ (rowsO zs k).length) := by show _ ≤ _; rw [rowsO_length]; omega
              have hml : (M).length ≤ j + 1 := by first | omega | (rw [List.length_append, List.length_singleton]; omega)
              rcases hq3 : (xrun != 0) with _ | _
              · have hN2 : Hid (N = ((rowsO zs k).take (j + 1)).filter opB) := by
                  show _ = _
                  rw [hfo.out, ← hNH.out]
                  simp [opB, hq3]
                clear hfo
                go_wp2
                go_roundw
                case rel =>
                  refine ⟨j + 1, M, N, hjl.out, by go_num, hM2.out, hN2.out, hml, by omega, hbB, own13.out, own14.out, hap.out⟩
                case measure => simp [intOf]; omega
              · rcases hq4 : one1 xt with _ | _
                · rw [hq4] at e4
                  have hN2 : Hid (N = ((rowsO zs k).take (j + 1)).filter opB) := by
                    show _ = _
                    rw [hfo.out, ← hNH.out]
                    simp [opB, hq3, hq4]
                  clear hfo
                  go_wp2
                  go_roundw
                  case rel =>
                    refine ⟨j + 1, M, N, hjl.out, by go_num, hM2.out, hN2.out, hml, by omega, hbB, own13.out, own14.out, hap.out⟩
                  case measure => simp [intOf]; omega
                · rw [hq4] at e4
                  have hN2 : Hid (N ++ [⟨xf, xt, xe, xrun, xre, xim⟩] = ((rowsO zs k).take (j + 1)).filter opB) := by
                    show _ = _
                    rw [hfo.out, ← hNH.out]
                    simp [opB, hq3, hq4]
                  clear hfo
                  have hw5 : w3.heap.size ≤ Wb.heap.size := below_size hbB
                  go_wp2_with (at_builtin; refine app_at (w0 := w3) Wb.heap.size rfl w3.heap.size rfl _ _ 53 62 (.agg #[.string ⟨#[]⟩, .string ⟨#[]⟩, .string ⟨#[]⟩, .int .i64 0, .complex .f64 0 0]) 5 72 rfl Try.underlying53 info62 rfl (by decide) (by decide) (.slice A14 N.length c14) N.length (N.flatMap RowT.cells) [.string xf, .string xt, .string xe, .int .i64 xrun, .complex .f64 xre xim] (by rfl) (by rfl) rfl (by simp [Value.oneCell']) own14.out hbB hw5 (by omega) ?_; intro v14n w7 hown7 hb7 hg7 hat7)
                  go_roundw
                  case rel =>
                    refine ⟨j + 1, M, N ++ [⟨xf, xt, xe, xrun, xre, xim⟩], hjl.out, by go_num, hM2.out, hN2.out, hml, by rw [List.length_append, List.length_singleton]; omega, hb7, own13.out.kept hg7 (apart_or' hap.out), by rw [List.length_append, flat_snoc]; exact hown7, apart_new hap.out own13.out hat7⟩
                  case measure => simp [intOf]; omega
            · rcases hq2 : (xrun == R) with _ | _
              · rw [hq1] at e1
                have hM2 : Hid (M = ((rowsO zs k).take (j + 1)).filter (ofB R)) := by
                  show _ = _
                  rw [hfm.out, ← hMH.out]
                  simp [ofB, hq1, hq2]
                clear hfm hq1
                go_upto_region 24 with (fail)
                generalize hW : wr.alloc _ = Wb
                have hbB : Below w3.heap.size w3 Wb := by rw [← hW]; exact below_alloc hb4 _
                have hr : Hid (Wb.heap[wr.heap.size]? = some (.cells #[.string xf, .string xt, .string xe, .int .i64 xrun, .complex .f64 xre xim] 62 (0, 0))) := by rw [← hW]; exact heap_alloc_new wr _
                have own13 : Hid (Wb.ownsRow w3.heap.size 62 5 (.slice A13 M.length c13) M.length (M.flatMap RowT.cells)) := by rw [← hW]; exact own13H.out.alloc _
                have own14 : Hid (Wb.ownsRow w3.heap.size 62 5 (.slice A14 N.length c14) N.length (N.flatMap RowT.cells)) := by rw [← hW]; exact own14H.out.alloc _
                have hap := Lib.hid hapH.out
                clear hW own13H own14H hapH c0 c1 c2 c3 c4 hb4
                have r0 : Wb.cell? ⟨wr.heap.size, 0, none⟩ = some (.string xf) := by rw [blk_cell hr.out]; rfl
                have r1 : Wb.cell? ⟨wr.heap.size, 1, none⟩ = some (.string xt) := by rw [blk_cell hr.out]; rfl
                have r2 : Wb.cell? ⟨wr.heap.size, 2, none⟩ = some (.string xe) := by rw [blk_cell hr.out]; rfl
                have r3 : Wb.cell? ⟨wr.heap.size, 3, none⟩ = some (.int .i64 xrun) := by rw [blk_cell hr.out]; rfl
                have r4 : Wb.cell? ⟨wr.heap.size, 4, none⟩ = some (.complex .f64 xre xim) := by rw [blk_cell hr.out]; rfl
                have hjl : Hid (j + 1 ≤ (rowsO zs k).length) := by show _ ≤ _; rw [rowsO_length]; omega
                have hml : (M).length ≤ j + 1 := by first | omega | (rw [List.length_append, List.length_singleton]; omega)
                rcases hq3 : (xrun != 0) with _ | _
                · have hN2 : Hid (N = ((rowsO zs k).take (j + 1)).filter opB) := by
                    show _ = _
                    rw [hfo.out, ← hNH.out]
                    simp [opB, hq3]
                  clear hfo
                  go_wp2
                  go_roundw
                  case rel =>
                    refine ⟨j + 1, M, N, hjl.out, by go_num, hM2.out, hN2.out, hml, by omega, hbB, own13.out, own14.out, hap.out⟩
                  case measure => simp [intOf]; omega
                · rcases hq4 : one1 xt with _ | _
                  · rw [hq4] at e4
                    have hN2 : Hid (N = ((rowsO zs k).take (j + 1)).filter opB) := by
                      show _ = _
                      rw [hfo.out, ← hNH.out]
                      simp [opB, hq3, hq4]
                    clear hfo
                    go_wp2
                    go_roundw
                    case rel =>
                      refine ⟨j + 1, M, N, hjl.out, by go_num, hM2.out, hN2.out, hml, by omega, hbB, own13.out, own14.out, hap.out⟩
                    case measure => simp [intOf]; omega
                  · rw [hq4] at e4
                    have hN2 : Hid (N ++ [⟨xf, xt, xe, xrun, xre, xim⟩] = ((rowsO zs k).take (j + 1)).filter opB) := by
                      show _ = _
                      rw [hfo.out, ← hNH.out]
                      simp [opB, hq3, hq4]
                    clear hfo
                    have hw5 : w3.heap.size ≤ Wb.heap.size := below_size hbB
                    go_wp2_with (at_builtin; refine app_at (w0 := w3) Wb.heap.size rfl w3.heap.size rfl _ _ 53 62 (.agg #[.string ⟨#[]⟩, .string ⟨#[]⟩, .string ⟨#[]⟩, .int .i64 0, .complex .f64 0 0]) 5 72 rfl Try.underlying53 info62 rfl (by decide) (by decide) (.slice A14 N.length c14) N.length (N.flatMap RowT.cells) [.string xf, .string xt, .string xe, .int .i64 xrun, .complex .f64 xre xim] (by rfl) (by rfl) rfl (by simp [Value.oneCell']) own14.out hbB hw5 (by omega) ?_; intro v14n w7 hown7 hb7 hg7 hat7)
                    go_roundw
                    case rel =>
                      refine ⟨j + 1, M, N ++ [⟨xf, xt, xe, xrun, xre, xim⟩], hjl.out, by go_num, hM2.out, hN2.out, hml, by rw [List.length_append, List.length_singleton]; omega, hb7, own13.out.kept hg7 (apart_or' hap.out), by rw [List.length_append, flat_snoc]; exact hown7, apart_new hap.out own13.out hat7⟩
                    case measure => simp [intOf]; omega
              · rw [hq1] at e1
                have hM2 : Hid (M ++ [⟨xf, xt, xe, xrun, xre, xim⟩] = ((rowsO zs k).take (j + 1)).filter (ofB R)) := by
                  show _ = _
                  rw [hfm.out, ← hMH.out]
                  simp [ofB, hq1, hq2]
                clear hfm hq1
                go_upto_region 24 with (at_builtin; refine app_at (w0 := w3) (wr.heap.size + 1) (by simp) w3.heap.size rfl _ _ 53 62 (.agg #[.string ⟨#[]⟩, .string ⟨#[]⟩, .string ⟨#[]⟩, .int .i64 0, .complex .f64 0 0]) 5 72 rfl Try.underlying53 info62 rfl (by decide) (by decide) (.slice A13 M.length c13) M.length (M.flatMap RowT.cells) [.string xf, .string xt, .string xe, .int .i64 xrun, .complex .f64 xre xim] (by rfl) (by rfl) rfl (by simp [Value.oneCell']) (own13H.out.alloc _) (below_alloc hb4 _) (below_size (below_alloc hb4 _)) (by omega) ?_; intro v13n Wb hown5 hbB hg5 hat5)
                have hr : Hid (Wb.heap[wr.heap.size]? = some (.cells #[.string xf, .string xt, .string xe, .int .i64 xrun, .complex .f64 xre xim] 62 (0, 0))) :=
                  (hg5.block wr.heap.size (by simp) (fun he => by have := (own13H.out.lt _ he.symm).2; omega)).trans (heap_alloc_new wr _)
                have own13n : Hid (Wb.ownsRow w3.heap.size 62 5 v13n (M ++ [(⟨xf, xt, xe, xrun, xre, xim⟩ : RowT)]).length ((M ++ [(⟨xf, xt, xe, xrun, xre, xim⟩ : RowT)]).flatMap RowT.cells)) := by
                  show World.ownsRow _ _ _ _ _ _ _
                  rw [List.length_append, flat_snoc]
                  exact hown5
                have own14 : Hid (Wb.ownsRow w3.heap.size 62 5 (.slice A14 N.length c14) N.length (N.flatMap RowT.cells)) := (own14H.out.alloc _).kept hg5 (apart_or hapH.out)
                have hap : Hid (∀ q, v13n.ownBlock = some q → (Value.slice A14 N.length c14).ownBlock ≠ some q) := apart_app hapH.out own14H.out hat5
                clear hown5 hg5 hat5 own13H own14H hapH c0 c1 c2 c3 c4 hb4
                have r0 : Wb.cell? ⟨wr.heap.size, 0, none⟩ = some (.string xf) := by rw [blk_cell hr.out]; rfl
                have r1 : Wb.cell? ⟨wr.heap.size, 1, none⟩ = some (.string xt) := by rw [blk_cell hr.out]; rfl
                have r2 : Wb.cell? ⟨wr.heap.size, 2, none⟩ = some (.string xe) := by rw [blk_cell hr.out]; rfl
                have r3 : Wb.cell? ⟨wr.heap.size, 3, none⟩ = some (.int .i64 xrun) := by rw [blk_cell hr.out]; rfl
                have r4 : Wb.cell? ⟨wr.heap.size, 4, none⟩ = some (.complex .f64 xre xim) := by rw [blk_cell hr.out]; rfl
                have hjl : Hid (j + 1 ≤ (rowsO zs k).length) := by show _ ≤ _; rw [rowsO_length]; omega
                have hml : (M ++ [(⟨xf, xt, xe, xrun, xre, xim⟩ : RowT)]).length ≤ j + 1 := by first | omega | (rw [List.length_append, List.length_singleton]; omega)
                rcases hq3 : (xrun != 0) with _ | _
                · have hN2 : Hid (N = ((rowsO zs k).take (j + 1)).filter opB) := by
                    show _ = _
                    rw [hfo.out, ← hNH.out]
                    simp [opB, hq3]
                  clear hfo
                  go_wp2
                  go_roundw
                  case rel =>
                    refine ⟨j + 1, M ++ [(⟨xf, xt, xe, xrun, xre, xim⟩ : RowT)], N, hjl.out, by go_num, hM2.out, hN2.out, hml, by omega, hbB, own13n.out, own14.out, hap.out⟩
                  case measure => simp [intOf]; omega
                · rcases hq4 : one1 xt with _ | _
                  · rw [hq4] at e4
                    have hN2 : Hid (N = ((rowsO zs k).take (j + 1)).filter opB) := by
                      show _ = _
                      rw [hfo.out, ← hNH.out]
                      simp [opB, hq3, hq4]
                    clear hfo
                    go_wp2
                    go_roundw
                    case rel =>
                      refine ⟨j + 1, M ++ [(⟨xf, xt, xe, xrun, xre, xim⟩ : RowT)], N, hjl.out, by go_num, hM2.out, hN2.out, hml, by omega, hbB, own13n.out, own14.out, hap.out⟩
                    case measure => simp [intOf]; omega
                  · rw [hq4] at e4
                    have hN2 : Hid (N ++ [⟨xf, xt, xe, xrun, xre, xim⟩] = ((rowsO zs k).take (j + 1)).filter opB) := by
                      show _ = _
                      rw [hfo.out, ← hNH.out]
                      simp [opB, hq3, hq4]
                    clear hfo
                    have hw5 : w3.heap.size ≤ Wb.heap.size := below_size hbB
                    go_wp2_with (at_builtin; refine app_at (w0 := w3) Wb.heap.size rfl w3.heap.size rfl _ _ 53 62 (.agg #[.string ⟨#[]⟩, .string ⟨#[]⟩, .string ⟨#[]⟩, .int .i64 0, .complex .f64 0 0]) 5 72 rfl Try.underlying53 info62 rfl (by decide) (by decide) (.slice A14 N.length c14) N.length (N.flatMap RowT.cells) [.string xf, .string xt, .string xe, .int .i64 xrun, .complex .f64 xre xim] (by rfl) (by rfl) rfl (by simp [Value.oneCell']) own14.out hbB hw5 (by omega) ?_; intro v14n w7 hown7 hb7 hg7 hat7)
                    go_roundw
                    case rel =>
                      refine ⟨j + 1, M ++ [(⟨xf, xt, xe, xrun, xre, xim⟩ : RowT)], N ++ [⟨xf, xt, xe, xrun, xre, xim⟩], hjl.out, by go_num, hM2.out, hN2.out, hml, by rw [List.length_append, List.length_singleton]; omega, hb7, own13n.out.kept hg7 (apart_or' hap.out), by rw [List.length_append, flat_snoc]; exact hown7, apart_new hap.out own13n.out hat7⟩
                    case measure => simp [intOf]; omega
          · have hjk : j = 2 * k := by omega
            subst hjk
            have hMK : Hid (M = (rowsO zs k).filter (ofB R)) := by
              show _ = _
              rw [hMH.out, List.take_of_length_le (by rw [rowsO_length]; omega)]
            have hNK : Hid (N = (rowsO zs k).filter opB) := by
              show _ = _
              rw [hNH.out, List.take_of_length_le (by rw [rowsO_length]; omega)]
            clear hMH hNH
            obtain ⟨w4, rfl⟩ : ∃ w4 : World, w4 = wr := ⟨_, rfl⟩
            have hb5 := below_step hb13 hb4
            have h11lt : Hid (∀ q, (Value.slice A11 (2 * k) c11).ownBlock = some q → wo.heap.size ≤ q ∧ q < w3.heap.size) := fun q hq => hown11b.out.lt q hq
            have hz34 := hb4.size
            have own11 := Lib.hid (own_below hown11b.out hb4)
            clear hown11b hownWb hb4 hb13
            go_wp2_with fail
            refine (ofK A5 c5 zs G k hGlH.out hk6' ⟨#[103]⟩ ⟨#[120]⟩ R w4 (hent.out.below hb5)).mono ?_
            rintro e w5 ⟨v18, rfl, hown18, hb6⟩
            rw [filter_of, ← hMK.out] at hown18
            obtain ⟨A18, c18, hv⟩ := own_slice hown18
            subst hv
            have own18 := Lib.hid hown18
            have own13 := Lib.hid (own_below own13H.out hb6)
            have own14 := Lib.hid (own_below own14H.out hb6)
            have own11' := Lib.hid (own_below own11.out hb6)
            have hb7 := below_step hb5 hb6
            have hz45 := hb6.size
            clear hown18 own13H own14H own11 hb5 hb6 hapH
            go_wp2_with fail
            refine (openK A11 c11 zs k hk6' w5 (own_rowOf (cells := RowT.cells) (fun _ => rfl) (by decide) own11'.out).2).mono ?_
            rintro e w6 ⟨v19, rfl, hown19, hb8⟩
            rw [← hNK.out] at hown19
            obtain ⟨A19, c19, hv⟩ := own_slice hown19
            subst hv
            have own19 := Lib.hid hown19
            have own18' := Lib.hid (own_below own18.out hb8)
            have own13' := Lib.hid (own_below own13.out hb8)
            have own14' := Lib.hid (own_below own14.out hb8)
            have own11 := own_below own11'.out hb8
            have hb9 := below_step hb7 hb8
            have hz56 := hb8.size
            have hst : Hid (0 < 2 * k → ∃ g cap cur, A11 = some ⟨g, 0, none⟩ ∧ w6.heap[g]? = some (.cells cur 62 (0, 0)) ∧ 2 * k ≤ cap ∧ cur.size = cap * 5) := by
              intro h0
              obtain ⟨_, g, cap, cur, hv, _, h2, h3, _, h5, _⟩ := at_of_own own11 (by rw [rowsO_length]; exact h0)
              injection hv with hA _ _
              exact ⟨g, cap, cur, hA, h2, h3, h5⟩
            clear hown19 own18 own13 own14 own11' own11 hb7 hb8
            go_wp2_with fail
            go_loopw [135] (fun i wr => FinRel w6 A11 (2 * k) c11 i wr) (fun i _ => 2 * k - (intOf i).toNat)
            case atStart => exact ⟨0, Nat.zero_le _, rfl, grown_of_below (Below.refl _ _) _, hst.out⟩
            case round =>
              clear hst
              obtain ⟨i, hi, rfl, hg, hblk⟩ := hrel
              by_cases hlti : i < 2 * k
              · obtain ⟨g, cap, cur, hA, hcb, hncap, hcs⟩ := hblk (by omega)
                subst hA
                have hin : i * 5 + 3 < cur.size := by omega
                have q3 : wr.cell? ⟨g, i * 5 + 3, none⟩ = some (cur[i * 5 + 3]'hin) := by rw [blk_cell hcb, Array.getElem?_eq_getElem]
                have f3 : wr.frozen? ⟨g, i * 5 + 3, none⟩ = false := blk_free hcb
                generalize cur[i * 5 + 3]'hin = u3 at q3
                have hcbH := Lib.hid hcb
                have hcsH := Lib.hid hcs
                clear hcb hcs hblk hin
                go_wp2
                go_roundw
                case rel => exact FinRel.step (by omega) hg rfl cap cur hcbH.out hncap hcsH.out
                case measure => simp [intOf]; omega
              · have own13 := Lib.hid (own_past own13'.out hg fun q hq => (h11lt.out q hq).2)
                have own14 := Lib.hid (own_past own14'.out hg fun q hq => (h11lt.out q hq).2)
                have own18 := Lib.hid (own_past own18'.out hg fun q hq => by have := (h11lt.out q hq).2; omega)
                have own19' := Lib.hid (own_past own19.out hg fun q hq => by have := (h11lt.out q hq).2; omega)
                have hb10 : Below wo.heap.size wo wr := hb9.grown hg hb9.size fun q hq => (h11lt.out q hq).1
                have ownW2 := Lib.hid (own_below hownWH.out hb10)
                have hM1 : M.length ≤ 1000 := by omega
                have hN1 : N.length ≤ 1000 := by omega
                clear own13' own14' own18' own19 hb9 hblk hg hownWH hi
                go_wp2_with fail
                refine (sameR_any A18 A13 c18 c13 M hM1 (fun x hx => by rw [hMK.out] at hx; exact rowsO_own zs k hk6' x (List.mem_filter.1 hx).1) wr (own_rowOf (cells := RowT.cells) (fun _ => rfl) (by decide) own18.out).2 (own_rowOf (cells := RowT.cells) (fun _ => rfl) (by decide) own13.out).2).mono ?_
                rintro e x1 ⟨rfl, hx1⟩
                have own19 := Lib.hid (own_below own19'.out hx1)
                have own14' := Lib.hid (own_below own14.out hx1)
                have hb11 := below_step hb10 hx1
                have ownW3 := Lib.hid (own_below ownW2.out hx1)
                clear own13 own18 own19' own14 hb10 ownW2 hx1
                go_wp2_with fail
                refine (sameR_any A19 A14 c19 c14 N hN1 (fun x hx => by rw [hNK.out] at hx; exact rowsO_own zs k hk6' x (List.mem_filter.1 hx).1) x1 (own_rowOf (cells := RowT.cells) (fun _ => rfl) (by decide) own19.out).2 (own_rowOf (cells := RowT.cells) (fun _ => rfl) (by decide) own14'.out).2).mono ?_
                rintro e x2 ⟨rfl, hx2⟩
                have hb12 := below_step hb11 hx2
                have ownW4 := Lib.hid (own_below ownW3.out hx2)
                clear own19 own14' hb11 ownW3 hx2
                go_wp2_with fail
                refine (rowsK A5 c5 zs G k hGlH.out hk6' x2 (hent.out.below hb12)).mono ?_
                rintro e x3 ⟨v20, rfl, hown20, hx3⟩
                obtain ⟨A20, c20, hv⟩ := own_slice hown20
                subst hv
                have own20 := Lib.hid hown20
                have hb13 := below_step hb12 hx3
                have ownW5 := Lib.hid (own_below ownW4.out hx3)
                clear hown20 ownW4 hb12 hx3
                go_wp2_with fail
                refine (sameK A20 A6 c20 c6 zs k hk6' x3 (own_rowOf (cells := RowT.cells) (fun _ => rfl) (by decide) own20.out).2 (own_rowOf (cells := RowT.cells) (fun _ => rfl) (by decide) ownW5.out).2).mono ?_
                rintro e x4 ⟨rfl, hx4⟩
                have hb14 := below_step hb13 hx4
                clear own20 ownW5 hb13 hx4
                go_wp2_with fail
                refine (ofK A5 c5 zs G k hGlH.out hk6' ⟨#[103]⟩ ⟨#[121]⟩ R x4 (hent.out.below hb14)).mono ?_
                rintro e x5 ⟨v21, rfl, hown21, hx5⟩
                rw [filter_none_of] at hown21
                obtain ⟨A21, c21, hv⟩ := own_slice hown21
                subst hv
                have hb15 := below_step hb14 hx5
                clear hown21 hb14 hx5
                simp only [List.length_nil]
                go_wp2_with fail
                refine (wakes17 x5).mono ?_
                rintro e x6 ⟨rfl, hx6⟩
                have hb16 := below_step hb (below_step hb15 hx6)
                clear hb15 hx6
                go_wp2
                go_ret
                exact ⟨rfl, hb16⟩

      · clear hlt
        go_wp2_with fail
        refine (rowsK A5 c5 zs G k hGlH.out hk6' wo hent.out).mono ?_
        rintro e w1 ⟨v11, rfl, hown11, hb1⟩
        obtain ⟨A11, c11, hv11⟩ := own_slice hown11
        subst hv11
        have hown11H := Lib.hid hown11
        have hw1 := hb1.size
        have hownW1 := Lib.hid (own_below hownWH.out hb1)
        clear hown11
        go_wp2_with fail
        refine (sameK A11 A6 c11 c6 zs k hk6' w1 (own_rowOf (cells := RowT.cells) (fun _ => rfl) (by decide) hown11H.out).2 (own_rowOf (cells := RowT.cells) (fun _ => rfl) (by decide) hownW1.out).2).mono ?_
        rintro e w2 ⟨rfl, hb2⟩
        have hm0 : 0 ≤ v % 3 := Int.emod_nonneg v (by omega)
        have hm1 : v % 3 < 3 := Int.emod_lt_of_pos v (by omega)
        go_wp2_with fail
        refine (within18 v 3 (by omega) (by omega) w2).mono ?_
        rintro e w3 ⟨rfl, rfl⟩
        generalize v % 3 = m3 at hm0 hm1 ⊢
        obtain ⟨w3, hw3⟩ : ∃ w3, w3 = w2 := ⟨_, rfl⟩
        rw [← hw3]
        have hb13 := below_step hb1 hb2
        have hown11b := Lib.hid (own_below hown11H.out hb2)
        have hownWb := Lib.hid (own_below hownW1.out hb2)
        rw [← hw3] at hb13 hown11b hownWb
        clear hw3 hb1 hb2 hown11H hownW1 hw1
        go_wp2_with fail
        generalize hE : 1 + m3 = R
        clear hE hm0 hm1
        go_loopw [13, 14, 94] (fun v13 v14 i wr4 => SelRel w3 (rowsO zs k) R v13 v14 i wr4) (fun _ _ i _ => 2 * k - (intOf i).toNat)
        case atStart => exact ⟨0, [], [], Nat.zero_le _, rfl, rfl, rfl, Nat.zero_le _, Nat.zero_le _, Below.refl _ _, World.ownsRow_nil _ _ _ _, World.ownsRow_nil _ _ _ _, fun q hq => by simp [Value.ownBlock] at hq⟩
        case round =>
          obtain ⟨j, M, N, hj, rfl, hM, hN, hMj, hNj, hb4, hown13, hown14, hap⟩ := hrel
          rw [rowsO_length] at hj
          obtain ⟨A13, c13, hv⟩ := own_slice hown13
          subst hv
          obtain ⟨A14, c14, hv⟩ := own_slice hown14
          subst hv
          have hMH := Lib.hid hM
          have hNH := Lib.hid hN
          have own13H := Lib.hid hown13
          have own14H := Lib.hid hown14
          have hapH := Lib.hid hap
          clear hM hN hown13 hown14 hap
          by_cases hltj : j < 2 * k
          · obtain ⟨x, hx2⟩ : ∃ x, (rowsO zs k)[j]? = some x := ⟨_, List.getElem?_eq_getElem (by rw [rowsO_length]; exact hltj)⟩
            obtain ⟨b6, o6, hA6, hcs⟩ := (own_rowOf (cells := RowT.cells) (fun _ => rfl) (by decide) hownWb.out).2 (by rw [rowsO_length]; omega)
            subst hA6
            have htsz : x.t.size = 2 := by
              obtain ⟨i_, j_, _, _, hx3⟩ := mem_rowsO (List.mem_of_getElem? hx2)
              rw [hx3]
              exact tn_size i_ j_
            have hfm := Lib.hid (filter_snoc2 (ofB R) (rowsO zs k) j x hx2)
            have hfo := Lib.hid (filter_snoc2 opB (rowsO zs k) j x hx2)
            have hc : ∀ (q : Nat) (u : Value), x.cells[q]? = some u → wr.cell? ⟨b6, o6 + j * 5 + q, none⟩ = some u := fun q u h => cell_below hb4 (hcs j x hx2 q u h)
            obtain ⟨xf, xt, xe, xrun, xre, xim⟩ := x
            have c0 : wr.cell? ⟨b6, o6 + j * 5, none⟩ = some (.string xf) := hc 0 _ rfl
            have c1 : wr.cell? ⟨b6, o6 + j * 5 + 1, none⟩ = some (.string xt) := hc 1 _ rfl
            have c2 : wr.cell? ⟨b6, o6 + j * 5 + 2, none⟩ = some (.string xe) := hc 2 _ rfl
            have c3 : wr.cell? ⟨b6, o6 + j * 5 + 3, none⟩ = some (.int .i64 xrun) := hc 3 _ rfl
            have c4 : wr.cell? ⟨b6, o6 + j * 5 + 4, none⟩ = some (.complex .f64 xre xim) := hc 4 _ rfl
            simp only [] at htsz
            have e4 := one1_spell xt htsz
            have e1 := eqS_g xf
            clear hc hcs hx2
            have hwr4 := below_size hb4
            rcases hq1 : eqS xf ⟨#[103]⟩ with _ | _
            · rw [hq1] at e1
              have hM2 : Hid (M = ((rowsO zs k).take (j + 1)).filter (ofB R)) := by
                show _ = _
                rw [hfm.out, ← hMH.out]
                simp [ofB, hq1]
              clear hfm hq1
              go_upto_region 24 with (fail)
              generalize hW : wr.alloc _ = Wb
              have hbB : Below w3.heap.size w3 Wb := by rw [← hW]; exact below_alloc hb4 _
              have hr : Hid (Wb.heap[wr.heap.size]? = some (.cells #[.string xf, .string xt, .string xe, .int .i64 xrun, .complex .f64 xre xim] 62 (0, 0))) := by rw [← hW]; exact heap_alloc_new wr _
              have own13 : Hid (Wb.ownsRow w3.heap.size 62 5 (.slice A13 M.length c13) M.length (M.flatMap RowT.cells)) := by rw [← hW]; exact own13H.out.alloc _
              have own14 : Hid (Wb.ownsRow w3.heap.size 62 5 (.slice A14 N.length c14) N.length (N.flatMap RowT.cells)) := by rw [← hW]; exact own14H.out.alloc _
              have hap := Lib.hid hapH.out
              clear hW own13H own14H hapH c0 c1 c2 c3 c4 hb4
              have r0 : Wb.cell? ⟨wr.heap.size, 0, none⟩ = some (.string xf) := by rw [blk_cell hr.out]; rfl
              have r1 : Wb.cell? ⟨wr.heap.size, 1, none⟩ = some (.string xt) := by rw [blk_cell hr.out]; rfl
              have r2 : Wb.cell? ⟨wr.heap.size, 2, none⟩ = some (.string xe) := by rw [blk_cell hr.out]; rfl
              have r3 : Wb.cell? ⟨wr.heap.size, 3, none⟩ = some (.int .i64 xrun) := by rw [blk_cell hr.out]; rfl
              have r4 : Wb.cell? ⟨wr.heap.size, 4, none⟩ = some (.complex .f64 xre xim) := by rw [blk_cell hr.out]; rfl
              have hjl : Hid (j + 1 ≤ (rowsO zs k).length) := by show _ ≤ _; rw [rowsO_length]; omega
              have hml : (M).length ≤ j + 1 := by first | omega | (rw [List.length_append, List.length_singleton]; omega)
              rcases hq3 : (xrun != 0) with _ | _
              · have hN2 : Hid (N = ((rowsO zs k).take (j + 1)).filter opB) := by
                  show _ = _
                  rw [hfo.out, ← hNH.out]
                  simp [opB, hq3]
                clear hfo
                go_wp2
                go_roundw
                case rel =>
                  refine ⟨j + 1, M, N, hjl.out, by go_num, hM2.out, hN2.out, hml, by omega, hbB, own13.out, own14.out, hap.out⟩
                case measure => simp [intOf]; omega
              · rcases hq4 : one1 xt with _ | _
                · rw [hq4] at e4
                  have hN2 : Hid (N = ((rowsO zs k).take (j + 1)).filter opB) := by
                    show _ = _
                    rw [hfo.out, ← hNH.out]
                    simp [opB, hq3, hq4]
                  clear hfo
                  go_wp2
                  go_roundw
                  case rel =>
                    refine ⟨j + 1, M, N, hjl.out, by go_num, hM2.out, hN2.out, hml, by omega, hbB, own13.out, own14.out, hap.out⟩
                  case measure => simp [intOf]; omega
                · rw [hq4] at e4
                  have hN2 : Hid (N ++ [⟨xf, xt, xe, xrun, xre, xim⟩] = ((rowsO zs k).take (j + 1)).filter opB) := by
                    show _ = _
                    rw [hfo.out, ← hNH.out]
                    simp [opB, hq3, hq4]
                  clear hfo
                  have hw5 : w3.heap.size ≤ Wb.heap.size := below_size hbB
                  go_wp2_with (at_builtin; refine app_at (w0 := w3) Wb.heap.size rfl w3.heap.size rfl _ _ 53 62 (.agg #[.string ⟨#[]⟩, .string ⟨#[]⟩, .string ⟨#[]⟩, .int .i64 0, .complex .f64 0 0]) 5 72 rfl Try.underlying53 info62 rfl (by decide) (by decide) (.slice A14 N.length c14) N.length (N.flatMap RowT.cells) [.string xf, .string xt, .string xe, .int .i64 xrun, .complex .f64 xre xim] (by rfl) (by rfl) rfl (by simp [Value.oneCell']) own14.out hbB hw5 (by omega) ?_; intro v14n w7 hown7 hb7 hg7 hat7)
                  go_roundw
                  case rel =>
                    refine ⟨j + 1, M, N ++ [⟨xf, xt, xe, xrun, xre, xim⟩], hjl.out, by go_num, hM2.out, hN2.out, hml, by rw [List.length_append, List.length_singleton]; omega, hb7, own13.out.kept hg7 (apart_or' hap.out), by rw [List.length_append, flat_snoc]; exact hown7, apart_new hap.out own13.out hat7⟩
                  case measure => simp [intOf]; omega
            · rcases hq2 : (xrun == R) with _ | _
              · rw [hq1] at e1
                have hM2 : Hid (M = ((rowsO zs k).take (j + 1)).filter (ofB R)) := by
                  show _ = _
                  rw [hfm.out, ← hMH.out]
                  simp [ofB, hq1, hq2]
                clear hfm hq1
                go_upto_region 24 with (fail)
                generalize hW : wr.alloc _ = Wb
                have hbB : Below w3.heap.size w3 Wb := by rw [← hW]; exact below_alloc hb4 _
                have hr : Hid (Wb.heap[wr.heap.size]? = some (.cells #[.string xf, .string xt, .string xe, .int .i64 xrun, .complex .f64 xre xim] 62 (0, 0))) := by rw [← hW]; exact heap_alloc_new wr _
                have own13 : Hid (Wb.ownsRow w3.heap.size 62 5 (.slice A13 M.length c13) M.length (M.flatMap RowT.cells)) := by rw [← hW]; exact own13H.out.alloc _
                have own14 : Hid (Wb.ownsRow w3.heap.size 62 5 (.slice A14 N.length c14) N.length (N.flatMap RowT.cells)) := by rw [← hW]; exact own14H.out.alloc _
                have hap := Lib.hid hapH.out
                clear hW own13H own14H hapH c0 c1 c2 c3 c4 hb4
                have r0 : Wb.cell? ⟨wr.heap.size, 0, none⟩ = some (.string xf) := by rw [blk_cell hr.out]; rfl
                have r1 : Wb.cell? ⟨wr.heap.size, 1, none⟩ = some (.string xt) := by rw [blk_cell hr.out]; rfl
                have r2 : Wb.cell? ⟨wr.heap.size, 2, none⟩ = some (.string xe) := by rw [blk_cell hr.out]; rfl
                have r3 : Wb.cell? ⟨wr.heap.size, 3, none⟩ = some (.int .i64 xrun) := by rw [blk_cell hr.out]; rfl
                have r4 : Wb.cell? ⟨wr.heap.size, 4, none⟩ = some (.complex .f64 xre xim) := by rw [blk_cell hr.out]; rfl
                have hjl : Hid (j + 1 ≤ (rowsO zs k).length) := by show _ ≤ _; rw [rowsO_length]; omega
                have hml : (M).length ≤ j + 1 := by first | omega | (rw [List.length_append, List.length_singleton]; omega)
                rcases hq3 : (xrun != 0) with _ | _
                · have hN2 : Hid (N = ((rowsO zs k).take (j + 1)).filter opB) := by
                    show _ = _
                    rw [hfo.out, ← hNH.out]
                    simp [opB, hq3]
                  clear hfo
                  go_wp2
                  go_roundw
                  case rel =>
                    refine ⟨j + 1, M, N, hjl.out, by go_num, hM2.out, hN2.out, hml, by omega, hbB, own13.out, own14.out, hap.out⟩
                  case measure => simp [intOf]; omega
                · rcases hq4 : one1 xt with _ | _
                  · rw [hq4] at e4
                    have hN2 : Hid (N = ((rowsO zs k).take (j + 1)).filter opB) := by
                      show _ = _
                      rw [hfo.out, ← hNH.out]
                      simp [opB, hq3, hq4]
                    clear hfo
                    go_wp2
                    go_roundw
                    case rel =>
                      refine ⟨j + 1, M, N, hjl.out, by go_num, hM2.out, hN2.out, hml, by omega, hbB, own13.out, own14.out, hap.out⟩
                    case measure => simp [intOf]; omega
                  · rw [hq4] at e4
                    have hN2 : Hid (N ++ [⟨xf, xt, xe, xrun, xre, xim⟩] = ((rowsO zs k).take (j + 1)).filter opB) := by
                      show _ = _
                      rw [hfo.out, ← hNH.out]
                      simp [opB, hq3, hq4]
                    clear hfo
                    have hw5 : w3.heap.size ≤ Wb.heap.size := below_size hbB
                    go_wp2_with (at_builtin; refine app_at (w0 := w3) Wb.heap.size rfl w3.heap.size rfl _ _ 53 62 (.agg #[.string ⟨#[]⟩, .string ⟨#[]⟩, .string ⟨#[]⟩, .int .i64 0, .complex .f64 0 0]) 5 72 rfl Try.underlying53 info62 rfl (by decide) (by decide) (.slice A14 N.length c14) N.length (N.flatMap RowT.cells) [.string xf, .string xt, .string xe, .int .i64 xrun, .complex .f64 xre xim] (by rfl) (by rfl) rfl (by simp [Value.oneCell']) own14.out hbB hw5 (by omega) ?_; intro v14n w7 hown7 hb7 hg7 hat7)
                    go_roundw
                    case rel =>
                      refine ⟨j + 1, M, N ++ [⟨xf, xt, xe, xrun, xre, xim⟩], hjl.out, by go_num, hM2.out, hN2.out, hml, by rw [List.length_append, List.length_singleton]; omega, hb7, own13.out.kept hg7 (apart_or' hap.out), by rw [List.length_append, flat_snoc]; exact hown7, apart_new hap.out own13.out hat7⟩
                    case measure => simp [intOf]; omega
              · rw [hq1] at e1
                have hM2 : Hid (M ++ [⟨xf, xt, xe, xrun, xre, xim⟩] = ((rowsO zs k).take (j + 1)).filter (ofB R)) := by
                  show _ = _
                  rw [hfm.out, ← hMH.out]
                  simp [ofB, hq1, hq2]
                clear hfm hq1
                go_upto_region 24 with (at_builtin; refine app_at (w0 := w3) (wr.heap.size + 1) (by simp) w3.heap.size rfl _ _ 53 62 (.agg #[.string ⟨#[]⟩, .string ⟨#[]⟩, .string ⟨#[]⟩, .int .i64 0, .complex .f64 0 0]) 5 72 rfl Try.underlying53 info62 rfl (by decide) (by decide) (.slice A13 M.length c13) M.length (M.flatMap RowT.cells) [.string xf, .string xt, .string xe, .int .i64 xrun, .complex .f64 xre xim] (by rfl) (by rfl) rfl (by simp [Value.oneCell']) (own13H.out.alloc _) (below_alloc hb4 _) (below_size (below_alloc hb4 _)) (by omega) ?_; intro v13n Wb hown5 hbB hg5 hat5)
                have hr : Hid (Wb.heap[wr.heap.size]? = some (.cells #[.string xf, .string xt, .string xe, .int .i64 xrun, .complex .f64 xre xim] 62 (0, 0))) :=
                  (hg5.block wr.heap.size (by simp) (fun he => by have := (own13H.out.lt _ he.symm).2; omega)).trans (heap_alloc_new wr _)
                have own13n : Hid (Wb.ownsRow w3.heap.size 62 5 v13n (M ++ [(⟨xf, xt, xe, xrun, xre, xim⟩ : RowT)]).length ((M ++ [(⟨xf, xt, xe, xrun, xre, xim⟩ : RowT)]).flatMap RowT.cells)) := by
                  show World.ownsRow _ _ _ _ _ _ _
                  rw [List.length_append, flat_snoc]
                  exact hown5
                have own14 : Hid (Wb.ownsRow w3.heap.size 62 5 (.slice A14 N.length c14) N.length (N.flatMap RowT.cells)) := (own14H.out.alloc _).kept hg5 (apart_or hapH.out)
                have hap : Hid (∀ q, v13n.ownBlock = some q → (Value.slice A14 N.length c14).ownBlock ≠ some q) := apart_app hapH.out own14H.out hat5
                clear hown5 hg5 hat5 own13H own14H hapH c0 c1 c2 c3 c4 hb4
                have r0 : Wb.cell? ⟨wr.heap.size, 0, none⟩ = some (.string xf) := by rw [blk_cell hr.out]; rfl
                have r1 : Wb.cell? ⟨wr.heap.size, 1, none⟩ = some (.string xt) := by rw [blk_cell hr.out]; rfl
                have r2 : Wb.cell? ⟨wr.heap.size, 2, none⟩ = some (.string xe) := by rw [blk_cell hr.out]; rfl
                have r3 : Wb.cell? ⟨wr.heap.size, 3, none⟩ = some (.int .i64 xrun) := by rw [blk_cell hr.out]; rfl
                have r4 : Wb.cell? ⟨wr.heap.size, 4, none⟩ = some (.complex .f64 xre xim) := by rw [blk_cell hr.out]; rfl
                have hjl : Hid (j + 1 ≤ (rowsO zs k).length) := by show _ ≤ _; rw [rowsO_length]; omega
                have hml : (M ++ [(⟨xf, xt, xe, xrun, xre, xim⟩ : RowT)]).length ≤ j + 1 := by first | omega | (rw [List.length_append, List.length_singleton]; omega)
                rcases hq3 : (xrun != 0) with _ | _
                · have hN2 : Hid (N = ((rowsO zs k).take (j + 1)).filter opB) := by
                    show _ = _
                    rw [hfo.out, ← hNH.out]
                    simp [opB, hq3]
                  clear hfo
                  go_wp2
                  go_roundw
                  case rel =>
                    refine ⟨j + 1, M ++ [(⟨xf, xt, xe, xrun, xre, xim⟩ : RowT)], N, hjl.out, by go_num, hM2.out, hN2.out, hml, by omega, hbB, own13n.out, own14.out, hap.out⟩
                  case measure => simp [intOf]; omega
                · rcases hq4 : one1 xt with _ | _
                  · rw [hq4] at e4
                    have hN2 : Hid (N = ((rowsO zs k).take (j + 1)).filter opB) := by
                      show _ = _
                      rw [hfo.out, ← hNH.out]
                      simp [opB, hq3, hq4]
                    clear hfo
                    go_wp2
                    go_roundw
                    case rel =>
                      refine ⟨j + 1, M ++ [(⟨xf, xt, xe, xrun, xre, xim⟩ : RowT)], N, hjl.out, by go_num, hM2.out, hN2.out, hml, by omega, hbB, own13n.out, own14.out, hap.out⟩
                    case measure => simp [intOf]; omega
                  · rw [hq4] at e4
                    have hN2 : Hid (N ++ [⟨xf, xt, xe, xrun, xre, xim⟩] = ((rowsO zs k).take (j + 1)).filter opB) := by
                      show _ = _
                      rw [hfo.out, ← hNH.out]
                      simp [opB, hq3, hq4]
                    clear hfo
                    have hw5 : w3.heap.size ≤ Wb.heap.size := below_size hbB
                    go_wp2_with (at_builtin; refine app_at (w0 := w3) Wb.heap.size rfl w3.heap.size rfl _ _ 53 62 (.agg #[.string ⟨#[]⟩, .string ⟨#[]⟩, .string ⟨#[]⟩, .int .i64 0, .complex .f64 0 0]) 5 72 rfl Try.underlying53 info62 rfl (by decide) (by decide) (.slice A14 N.length c14) N.length (N.flatMap RowT.cells) [.string xf, .string xt, .string xe, .int .i64 xrun, .complex .f64 xre xim] (by rfl) (by rfl) rfl (by simp [Value.oneCell']) own14.out hbB hw5 (by omega) ?_; intro v14n w7 hown7 hb7 hg7 hat7)
                    go_roundw
                    case rel =>
                      refine ⟨j + 1, M ++ [(⟨xf, xt, xe, xrun, xre, xim⟩ : RowT)], N ++ [⟨xf, xt, xe, xrun, xre, xim⟩], hjl.out, by go_num, hM2.out, hN2.out, hml, by rw [List.length_append, List.length_singleton]; omega, hb7, own13n.out.kept hg7 (apart_or' hap.out), by rw [List.length_append, flat_snoc]; exact hown7, apart_new hap.out own13n.out hat7⟩
                    case measure => simp [intOf]; omega
          · have hjk : j = 2 * k := by omega
            subst hjk
            have hMK : Hid (M = (rowsO zs k).filter (ofB R)) := by
              show _ = _
              rw [hMH.out, List.take_of_length_le (by rw [rowsO_length]; omega)]
            have hNK : Hid (N = (rowsO zs k).filter opB) := by
              show _ = _
              rw [hNH.out, List.take_of_length_le (by rw [rowsO_length]; omega)]
            clear hMH hNH
            obtain ⟨w4, rfl⟩ : ∃ w4 : World, w4 = wr := ⟨_, rfl⟩
            have hb5 := below_step hb13 hb4
            have h11lt : Hid (∀ q, (Value.slice A11 (2 * k) c11).ownBlock = some q → wo.heap.size ≤ q ∧ q < w3.heap.size) := fun q hq => hown11b.out.lt q hq
            have hz34 := hb4.size
            have own11 := Lib.hid (own_below hown11b.out hb4)
            clear hown11b hownWb hb4 hb13
            go_wp2_with fail
            refine (ofK A5 c5 zs G k hGlH.out hk6' ⟨#[103]⟩ ⟨#[120]⟩ R w4 (hent.out.below hb5)).mono ?_
            rintro e w5 ⟨v18, rfl, hown18, hb6⟩
            rw [filter_of, ← hMK.out] at hown18
            obtain ⟨A18, c18, hv⟩ := own_slice hown18
            subst hv
            have own18 := Lib.hid hown18
            have own13 := Lib.hid (own_below own13H.out hb6)
            have own14 := Lib.hid (own_below own14H.out hb6)
            have own11' := Lib.hid (own_below own11.out hb6)
            have hb7 := below_step hb5 hb6
            have hz45 := hb6.size
            clear hown18 own13H own14H own11 hb5 hb6 hapH
            go_wp2_with fail
            refine (openK A11 c11 zs k hk6' w5 (own_rowOf (cells := RowT.cells) (fun _ => rfl) (by decide) own11'.out).2).mono ?_
            rintro e w6 ⟨v19, rfl, hown19, hb8⟩
            rw [← hNK.out] at hown19
            obtain ⟨A19, c19, hv⟩ := own_slice hown19
            subst hv
            have own19 := Lib.hid hown19
            have own18' := Lib.hid (own_below own18.out hb8)
            have own13' := Lib.hid (own_below own13.out hb8)
            have own14' := Lib.hid (own_below own14.out hb8)
            have own11 := own_below own11'.out hb8
            have hb9 := below_step hb7 hb8
            have hz56 := hb8.size
            have hst : Hid (0 < 2 * k → ∃ g cap cur, A11 = some ⟨g, 0, none⟩ ∧ w6.heap[g]? = some (.cells cur 62 (0, 0)) ∧ 2 * k ≤ cap ∧ cur.size = cap * 5) := by
              intro h0
              obtain ⟨_, g, cap, cur, hv, _, h2, h3, _, h5, _⟩ := at_of_own own11 (by rw [rowsO_length]; exact h0)
              injection hv with hA _ _
              exact ⟨g, cap, cur, hA, h2, h3, h5⟩
            clear hown19 own18 own13 own14 own11' own11 hb7 hb8
            go_wp2_with fail
            go_loopw [135] (fun i wr => FinRel w6 A11 (2 * k) c11 i wr) (fun i _ => 2 * k - (intOf i).toNat)
            case atStart => exact ⟨0, Nat.zero_le _, rfl, grown_of_below (Below.refl _ _) _, hst.out⟩
            case round =>
              clear hst
              obtain ⟨i, hi, rfl, hg, hblk⟩ := hrel
              by_cases hlti : i < 2 * k
              · obtain ⟨g, cap, cur, hA, hcb, hncap, hcs⟩ := hblk (by omega)
                subst hA
                have hin : i * 5 + 3 < cur.size := by omega
                have q3 : wr.cell? ⟨g, i * 5 + 3, none⟩ = some (cur[i * 5 + 3]'hin) := by rw [blk_cell hcb, Array.getElem?_eq_getElem]
                have f3 : wr.frozen? ⟨g, i * 5 + 3, none⟩ = false := blk_free hcb
                generalize cur[i * 5 + 3]'hin = u3 at q3
                have hcbH := Lib.hid hcb
                have hcsH := Lib.hid hcs
                clear hcb hcs hblk hin
                go_wp2
                go_roundw
                case rel => exact FinRel.step (by omega) hg rfl cap cur hcbH.out hncap hcsH.out
                case measure => simp [intOf]; omega
              · have own13 := Lib.hid (own_past own13'.out hg fun q hq => (h11lt.out q hq).2)
                have own14 := Lib.hid (own_past own14'.out hg fun q hq => (h11lt.out q hq).2)
                have own18 := Lib.hid (own_past own18'.out hg fun q hq => by have := (h11lt.out q hq).2; omega)
                have own19' := Lib.hid (own_past own19.out hg fun q hq => by have := (h11lt.out q hq).2; omega)
                have hb10 : Below wo.heap.size wo wr := hb9.grown hg hb9.size fun q hq => (h11lt.out q hq).1
                have ownW2 := Lib.hid (own_below hownWH.out hb10)
                have hM1 : M.length ≤ 1000 := by omega
                have hN1 : N.length ≤ 1000 := by omega
                clear own13' own14' own18' own19 hb9 hblk hg hownWH hi
                go_wp2_with fail
                refine (sameR_any A18 A13 c18 c13 M hM1 (fun x hx => by rw [hMK.out] at hx; exact rowsO_own zs k hk6' x (List.mem_filter.1 hx).1) wr (own_rowOf (cells := RowT.cells) (fun _ => rfl) (by decide) own18.out).2 (own_rowOf (cells := RowT.cells) (fun _ => rfl) (by decide) own13.out).2).mono ?_
                rintro e x1 ⟨rfl, hx1⟩
                have own19 := Lib.hid (own_below own19'.out hx1)
                have own14' := Lib.hid (own_below own14.out hx1)
                have hb11 := below_step hb10 hx1
                have ownW3 := Lib.hid (own_below ownW2.out hx1)
                clear own13 own18 own19' own14 hb10 ownW2 hx1
                go_wp2_with fail
                refine (sameR_any A19 A14 c19 c14 N hN1 (fun x hx => by rw [hNK.out] at hx; exact rowsO_own zs k hk6' x (List.mem_filter.1 hx).1) x1 (own_rowOf (cells := RowT.cells) (fun _ => rfl) (by decide) own19.out).2 (own_rowOf (cells := RowT.cells) (fun _ => rfl) (by decide) own14'.out).2).mono ?_
                rintro e x2 ⟨rfl, hx2⟩
                have hb12 := below_step hb11 hx2
                have ownW4 := Lib.hid (own_below ownW3.out hx2)
                clear own19 own14' hb11 ownW3 hx2
                go_wp2_with fail
                refine (rowsK A5 c5 zs G k hGlH.out hk6' x2 (hent.out.below hb12)).mono ?_
                rintro e x3 ⟨v20, rfl, hown20, hx3⟩
                obtain ⟨A20, c20, hv⟩ := own_slice hown20
                subst hv
                have own20 := Lib.hid hown20
                have hb13 := below_step hb12 hx3
                have ownW5 := Lib.hid (own_below ownW4.out hx3)
                clear hown20 ownW4 hb12 hx3
                go_wp2_with fail
                refine (sameK A20 A6 c20 c6 zs k hk6' x3 (own_rowOf (cells := RowT.cells) (fun _ => rfl) (by decide) own20.out).2 (own_rowOf (cells := RowT.cells) (fun _ => rfl) (by decide) ownW5.out).2).mono ?_
                rintro e x4 ⟨rfl, hx4⟩
                have hb14 := below_step hb13 hx4
                clear own20 ownW5 hb13 hx4
                go_wp2_with fail
                refine (ofK A5 c5 zs G k hGlH.out hk6' ⟨#[103]⟩ ⟨#[121]⟩ R x4 (hent.out.below hb14)).mono ?_
                rintro e x5 ⟨v21, rfl, hown21, hx5⟩
                rw [filter_none_of] at hown21
                obtain ⟨A21, c21, hv⟩ := own_slice hown21
                subst hv
                have hb15 := below_step hb14 hx5
                clear hown21 hb14 hx5
                simp only [List.length_nil]
                go_wp2_with fail
                refine (wakes17 x5).mono ?_
                rintro e x6 ⟨rfl, hx6⟩
                have hb16 := below_step hb (below_step hb15 hx6)
                clear hb15 hx6
                go_wp2
                go_ret
                exact ⟨rfl, hb16⟩

end Go.Proofs.Ytbmegoemimfiaaa

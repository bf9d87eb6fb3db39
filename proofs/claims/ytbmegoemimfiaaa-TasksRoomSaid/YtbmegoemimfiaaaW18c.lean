/-
  answer.Of for no want: the walk.
-/
import Derived.Test.YtbmegoemimfiaaaRows
import Derived.Test.YtbmegoemimfiaaaW18b
import Derived.Test.YtbmegoemimfiaaaDataC
import Derived.WalkKit
import Derived.WalkSpells
import Derived.WalkLawsBesides
import Derived.Outline
import Derived.Laws.StructEq
import Derived.Deep.Light
import Derived.Deep.QuietTactic
import Derived.BigQuiet
import Derived.Maps.OwnOps
import Derived.Maps.OwnSet
import Derived.Lib.Hide
namespace Go.Proofs.Ytbmegoemimfiaaa
open Go Go.RowKit
set_option maxRecDepth 100000
set_option linter.unusedVariables false
set_option linter.unusedSimpArgs false

attribute [local go_sem] run_store_float run_store_complex
def tellR (st : ByteArray → Int) (r : RowT) : Msg := toldOf r.f r.t (st r.t)
def ofAll (st : ByteArray → Int) (f : ByteArray) (R : List RowT) : List Msg := (R.filter fun r => eqS r.f f).map (tellR st)
theorem ofAll_hit (st : ByteArray → Int) (f : ByteArray) (R : List RowT) (k : Nat) (r : RowT) (hr : R[k]? = some r) (h : eqS r.f f = true) : ofAll st f (R.take (k + 1)) = ofAll st f (R.take k) ++ [tellR st r] := by
  unfold ofAll; rw [take_snoc' R k r hr, List.filter_append]; simp [h]
theorem ofAll_miss (st : ByteArray → Int) (f : ByteArray) (R : List RowT) (k : Nat) (r : RowT) (hr : R[k]? = some r) (h : eqS r.f f = false) : ofAll st f (R.take (k + 1)) = ofAll st f (R.take k) := by
  unfold ofAll; rw [take_snoc' R k r hr, List.filter_append]; simp [h]
theorem ofAll_le (st : ByteArray → Int) (f : ByteArray) (R : List RowT) (k : Nat) : (ofAll st f (R.take k)).length ≤ k := by
  unfold ofAll; rw [List.length_map]; exact Nat.le_trans (List.length_filter_le _ _) (by simp; omega)
def OfARel (w : World) (st : ByteArray → Int) (f : ByteArray) (R : List RowT) (v i : Value) (wr : World) : Prop := ∃ (k : Nat) (M : List Msg), k ≤ R.length ∧ M = ofAll st f (R.take k) ∧ i = .int .i64 k ∧ Below w.heap.size w wr ∧ wr.ownsRow w.heap.size 35 9 v M.length (M.flatMap Msg.cells)
set_option maxHeartbeats 8000000 in
theorem of_all (A : Option Addr) (c c2 : Nat) (L : List Entry) (hn : L.length ≤ 1000) (R : List RowT) (hRo : rowsOf L = R) (hr : R.length ≤ 1000) (f : ByteArray)
    (g : Nat) (ok : ByteArray → Prop) (st : ByteArray → Int) (hC : ∀ (args : Array Value) (w : World), (callFunc g args).run Try.prog w = .ok (.enter g args) w) (hF : TellsOn g ok st) (hok : ∀ x ∈ R, ok x.t) (w : World) (hL : EntriesAt w A L) :
    Calls Try.prog 28 #[.slice A L.length c, .string f, .slice none 0 c2, .func (.func g) #[] #[]] w fun e w' => ∃ v, e = .returned v ∧ w'.ownsRow w.heap.size 35 9 v (ofAll st f R).length ((ofAll st f R).flatMap Msg.cells) ∧ Below w.heap.size w w' := by
  have HL := Lib.hid hL
  have HF := Lib.hid hF
  have HC := Lib.hid hC
  have HO := Lib.hid hok
  have HR := Lib.hid hRo
  clear hL hF hC hok hRo
  go_enter Try.func28, Try.ntmps28
  go_wp2
  go_loopw [9, 21] (fun v i wr => v = .slice none 0 0 ∧ i = .int .i64 0 ∧ w = wr) (fun _ _ _ => 0)
  case atStart => exact ⟨rfl, rfl, rfl⟩
  case round =>
    obtain ⟨rfl, rfl, rfl⟩ := hrel
    go_wp2_with fail
    refine (rows_any A c L hn (by rw [HR.out]; exact hr) _ HL.out).mono ?_
    rintro e wB ⟨v, rfl, hown, hb⟩
    rw [HR.out] at hown
    obtain ⟨AR, cR, hv⟩ := own_slice hown
    subst hv
    have hR := Lib.hid (own_rowOf (cells := RowT.cells) (fun _ => rfl) (by decide) hown).2
    have HOr := Lib.hid HO.out
    clear hown HO HL HR
    go_wp2
    go_loopw [9, 54] (fun v i wr => OfARel wB st f R v i wr) (fun _ i _ => R.length - (intOf i).toNat)
    case atStart => exact ⟨0, [], Nat.zero_le _, rfl, rfl, Below.refl _ _, World.ownsRow_nil _ _ _ _⟩
    case round =>
      obtain ⟨k, M, hk, hM, rfl, hbR, hown⟩ := hrel
      obtain ⟨A2, cp2, hv2⟩ := own_slice hown
      subst hv2
      have hMk : M.length ≤ k := by rw [hM]; exact ofAll_le st f R k
      have hownH := Lib.hid hown
      have hMH := Lib.hid hM
      clear hown hM
      by_cases hlt : k < R.length
      · obtain ⟨x, hx⟩ : ∃ x, R[k]? = some x := ⟨_, List.getElem?_eq_getElem hlt⟩
        obtain ⟨b, o, hA0, hcs⟩ := hR.out (by omega)
        subst hA0
        have hokx := Lib.hid (HOr.out x (List.mem_of_getElem? hx))
        have hhit := Lib.hid (ofAll_hit st f R k x hx)
        have hmiss := Lib.hid (ofAll_miss st f R k x hx)
        have hc : ∀ (j : Nat) (v : Value), x.cells[j]? = some v → wr.cell? ⟨b, o + k * 5 + j, none⟩ = some v := fun j v h => cell_below hbR (hcs k x hx j v h)
        clear hx hcs
        obtain ⟨xf, xt, xe, xrun, xre, xim⟩ := x
        simp only [] at hokx hhit hmiss
        have c0 : wr.cell? ⟨b, o + k * 5, none⟩ = some (.string xf) := hc 0 _ rfl
        have c1 : wr.cell? ⟨b, o + k * 5 + 1, none⟩ = some (.string xt) := hc 1 _ rfl
        have c2 : wr.cell? ⟨b, o + k * 5 + 2, none⟩ = some (.string xe) := hc 2 _ rfl
        have c3 : wr.cell? ⟨b, o + k * 5 + 3, none⟩ = some (.int .i64 xrun) := hc 3 _ rfl
        have c4 : wr.cell? ⟨b, o + k * 5 + 4, none⟩ = some (.complex .f64 xre xim) := hc 4 _ rfl
        clear hc
        obtain ⟨bq, hbq⟩ : ∃ q, (xf.toList == f.toList) = q := ⟨_, rfl⟩
        have hQ : Hid (eqS xf f = bq) := by rw [← hbq, eqS_toList]; rfl
        by_cases hqb : bq = true
        · subst hqb
          go_wp2
          generalize hW : wr.alloc _ = wr2
          obtain ⟨g5, hg5⟩ : ∃ g, g = wr.heap.size := ⟨_, rfl⟩
          rw [← hg5]
          have d0 : wr2.cell? ⟨g5, 0, none⟩ = some (.string xf) := by rw [← hW, hg5, cell_new]; rfl
          have d1 : wr2.cell? ⟨g5, 1, none⟩ = some (.string xt) := by rw [← hW, hg5, cell_new]; rfl
          have hbR2 : Below wB.heap.size wB wr2 := by rw [← hW]; exact below_alloc hbR _
          have hown2 : Hid (wr2.ownsRow wB.heap.size 35 9 (.slice A2 M.length cp2) M.length (M.flatMap Msg.cells)) := by rw [← hW]; exact hownH.out.alloc _
          clear hW hg5 hbR hownH c0 c1 c2 c3 c4 hbq
          obtain ⟨V, HV⟩ : ∃ V : Tmp → Value → World → Prop, Hid (V = fun sl_ v_ w_ => QSpec.holds (match sl_ with | 63 => .det (.slice A2 M.length cp2) | 64 => .det (.pointer (some ⟨g5, 0, none⟩)) | 65 => .det (.agg #[.string xf, .string xt]) | 66 => .det (.func (.func g) #[] #[]) | 67 => .det (.pointer (some ⟨g5, 0, none⟩)) | 68 => .det (.agg #[.string xf, .string xt]) | 69 => .det (.int .i64 (st xt)) | 70 => .det (.agg #[.int .i64 12, .string xf, .string ⟨#[]⟩, .string xt, .int .i64 0, .int .i64 (st xt), .int .i64 0, .int .i64 0, .slice none 0 0]) | 71 => .row 1 35 [.int .i64 12, .string xf, .string ⟨#[]⟩, .string xt, .int .i64 0, .int .i64 (st xt), .int .i64 0, .int .i64 0, .slice none 0 0] | _ => .any) v_ w_) := ⟨_, rfl⟩
          refine wp_region_tail 9 (Below wr2.heap.size wr2 ·) (fun w_ w_2 => Below w_.heap.size w_ w_2) V (by kernel_rfl) (by kernel_rfl) (by kernel_rfl) (Below.refl _ _).drew (fun w_ => Below.refl _ _) ?_ ?_ ?_
          · intro t v w w' hC hR h
            rw [HV.out] at h ⊢
            exact QSpec.mono hR _ _ h
          · go_light
            dsimp only [List.take]
            simp only [List.forall_mem_cons]
            refine ⟨?_, ?_, ?_, ?_, ?_, ?_, ?_, ?_, ?_, fun _ h => by cases h⟩
            · intro ρ w1 hc hf hg ho hC hV
              have e9 := ho 9 (by decide)
              simp only [execOp]
              go_simp
              exact ⟨hC, Below.refl _ _, (by show V 63 _ _; rw [HV.out]; exact rfl)⟩
            · intro ρ w1 hc hf hg ho hC hV
              have e18 := ho 18 (by decide)
              simp only [execOp]
              go_simp
              exact ⟨hC, Below.refl _ _, (by show V 64 _ _; rw [HV.out]; exact rfl)⟩
            · intro ρ w1 hc hf hg ho hC hV
              have e64 : ρ (.tmp 64) = .pointer (some ⟨g5, 0, none⟩) := by have h := hV 64 (by decide) (by decide); rw [HV.out] at h; exact h
              have d0' := cell_below hC d0
              have d1' := cell_below hC d1
              simp only [execOp]
              go_simp
              exact ⟨hC, Below.refl _ _, (by show V 65 _ _; rw [HV.out]; exact rfl)⟩
            · intro ρ w1 hc hf hg ho hC hV
              have e3 := ho 3 (by decide)
              simp only [execOp]
              go_simp
              exact ⟨hC, Below.refl _ _, (by show V 66 _ _; rw [HV.out]; exact rfl)⟩
            · intro ρ w1 hc hf hg ho hC hV
              have e18 := ho 18 (by decide)
              simp only [execOp]
              go_simp
              exact ⟨hC, Below.refl _ _, (by show V 67 _ _; rw [HV.out]; exact rfl)⟩
            · intro ρ w1 hc hf hg ho hC hV
              have e67 : ρ (.tmp 67) = .pointer (some ⟨g5, 0, none⟩) := by have h := hV 67 (by decide) (by decide); rw [HV.out] at h; exact h
              have d0' := cell_below hC d0
              have d1' := cell_below hC d1
              simp only [execOp]
              go_simp
              exact ⟨hC, Below.refl _ _, (by show V 68 _ _; rw [HV.out]; exact rfl)⟩
            · intro ρ w1 hc hf hg ho hC hV
              have e66 : ρ (.tmp 66) = .func (.func g) #[] #[] := by have h := hV 66 (by decide) (by decide); rw [HV.out] at h; exact h
              have e68 : ρ (.tmp 68) = .agg #[.string xf, .string xt] := by have h := hV 68 (by decide) (by decide); rw [HV.out] at h; exact h
              simp only [execOp]
              go_simp
              rw [HC.out]
              refine (HF.out _ xf xt hokx.out).mono ?_
              rintro e w2 ⟨rfl, hb2⟩
              exact ⟨_, rfl, below_step hC hb2, hb2, (by show V 69 _ _; rw [HV.out]; exact rfl)⟩
            · intro ρ w1 hc hf hg ho hC hV
              have e65 : ρ (.tmp 65) = .agg #[.string xf, .string xt] := by have h := hV 65 (by decide) (by decide); rw [HV.out] at h; exact h
              have e69 : ρ (.tmp 69) = .int .i64 (st xt) := by have h := hV 69 (by decide) (by decide); rw [HV.out] at h; exact h
              simp only [execOp]
              go_simp
              refine (told_any xf xt (st xt) w1).mono ?_
              rintro e w2 ⟨rfl, hb2⟩
              exact ⟨_, rfl, below_step hC hb2, hb2, (by show V 70 _ _; rw [HV.out]; exact rfl)⟩
            · intro ρ w1 hc hf hg ho hC hV
              have e70 : ρ (.tmp 70) = .agg #[.int .i64 12, .string xf, .string ⟨#[]⟩, .string xt, .int .i64 0, .int .i64 (st xt), .int .i64 0, .int .i64 0, .slice none 0 0] := by have h := hV 70 (by decide) (by decide); rw [HV.out] at h; exact h
              simp only [execOp]
              go_simp
              exact ⟨below_alloc hC _, below_alloc (Below.refl _ _) _, (by show V 71 _ _; rw [HV.out]; exact ⟨_, rfl, blk_new _ _⟩)⟩
          · intro σ w1 hC hV
            have v63 : σ 63 = .slice A2 M.length cp2 := by have h := hV 63 (by decide); rw [HV.out] at h; exact h
            have v64 : σ 64 = .pointer (some ⟨g5, 0, none⟩) := by have h := hV 64 (by decide); rw [HV.out] at h; exact h
            have v65 : σ 65 = .agg #[.string xf, .string xt] := by have h := hV 65 (by decide); rw [HV.out] at h; exact h
            have v66 : σ 66 = .func (.func g) #[] #[] := by have h := hV 66 (by decide); rw [HV.out] at h; exact h
            have v67 : σ 67 = .pointer (some ⟨g5, 0, none⟩) := by have h := hV 67 (by decide); rw [HV.out] at h; exact h
            have v68 : σ 68 = .agg #[.string xf, .string xt] := by have h := hV 68 (by decide); rw [HV.out] at h; exact h
            have v69 : σ 69 = .int .i64 (st xt) := by have h := hV 69 (by decide); rw [HV.out] at h; exact h
            have v70 : σ 70 = .agg #[.int .i64 12, .string xf, .string ⟨#[]⟩, .string xt, .int .i64 0, .int .i64 (st xt), .int .i64 0, .int .i64 0, .slice none 0 0] := by have h := hV 70 (by decide); rw [HV.out] at h; exact h
            have v71 : QSpec.holds (.row 1 35 [.int .i64 12, .string xf, .string ⟨#[]⟩, .string xt, .int .i64 0, .int .i64 (st xt), .int .i64 0, .int .i64 0, .slice none 0 0]) (σ 71) w1 := by have h := hV 71 (by decide); rw [HV.out] at h; exact h
            clear hV HV V
            dsimp only [headDsts, List.take, List.drop, List.filterMap, putAll, Act.put]
            have hbR3 := below_step hbR2 hC
            have hown3 := Lib.hid (own_below hown2.out hC)
            obtain ⟨g6, v71, hg6⟩ := v71
            have hg6H := Lib.hid hg6
            clear hC hown2 hbR2 d0 d1 hg6
            rw [v63, v64, v65, v66, v67, v68, v69, v70, v71]
            clear v63 v64 v65 v66 v67 v68 v69 v70 v71
            go_simp
            go_wp2_with (at_builtin; refine app_far (w0 := wB) (W := w1) wB.heap.size rfl _ _ 37 35 (.agg #[.int .i64 0, .string ⟨#[]⟩, .string ⟨#[]⟩, .string ⟨#[]⟩, .int .i64 0, .int .i64 0, .int .i64 0, .int .i64 0, .slice none 0 0]) 9 112 rfl Try.underlying37 info35 rfl (by decide) (by decide) (.slice A2 M.length cp2) M.length (M.flatMap Msg.cells) (toldOf xf xt (st xt)).cells (by rfl) g6 (by rfl) hg6H.out rfl (by simp [Value.oneCell', toldOf, Msg.cells]) hown3.out hbR3 (below_size hbR3) (by omega) ?_; intro v1 w5 hown5 hb5 hg5 hat5)
            go_roundw
            case rel =>
              refine ⟨k + 1, M ++ [toldOf xf xt (st xt)], by omega, ?_, by go_num, hb5, ?_⟩
              · rw [hMH.out]; exact (hhit.out hQ.out).symm
              · rw [flat_snoc, List.length_append, List.length_singleton]; exact hown5
            case measure => simp [intOf]; omega
        · have hqf : bq = false := by simpa using hqb
          subst hqf
          go_wp2
          go_roundw
          case rel =>
            refine ⟨k + 1, M, by omega, ?_, by go_num, below_alloc hbR _, hownH.out.alloc _⟩
            rw [hMH.out]; exact (hmiss.out hQ.out).symm
          case measure => simp [intOf]; omega
      · have hke : k = R.length := by omega
        subst hke
        have hfin : Hid (M = ofAll st f R) := by
          have h2 := hMH.out
          rw [List.take_length] at h2
          exact h2
        go_wp2
        go_ret
        refine ⟨_, rfl, ?_, below_step hb hbR⟩
        rw [← hfin.out]
        exact own_lower hownH.out hb.size
end Go.Proofs.Ytbmegoemimfiaaa

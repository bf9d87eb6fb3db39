/-
  watch.key, status, Sent: the walks.
-/
import Derived.Test.YtbmegoemimfiaaaRows
import Derived.Test.YtbmegoemimfiaaaPure25
import Derived.WalkKit
import Derived.WalkSpells
import Derived.WalkLawsBesides
import Derived.Outline
import Derived.Laws.StructEq
import Derived.Deep.Light
import Derived.Deep.QuietTactic
import Derived.BigQuiet
import Derived.Maps.OwnOps
import Derived.Maps.OwnSet
import Derived.Lib.Hide
namespace Go.Proofs.Ytbmegoemimfiaaa
open Go Go.RowKit
set_option maxRecDepth 100000
set_option linter.unusedVariables false
set_option linter.unusedSimpArgs false

theorem info3 : (Try.prog.info? 3).map (fun i => (i.zero, i.size, i.bytes)) = some (some (.int .i64 0), 1, 8) := by kernel_rfl
set_option maxHeartbeats 400000 in
theorem key_any (m : Msg) (w : World) :
    Calls Try.prog 56 #[.agg m.cells.toArray] w fun e w' => e = .returned (.agg #[.string m.f, .string m.t]) ∧ Below w.heap.size w w' := by
  obtain ⟨k, f, e, t, n, s, u, p, A, il, ic⟩ := m
  simp only [Msg.cells]
  go_enter Try.func56, Try.ntmps56
  go_wp2
  exact bodyPost_ret (v := .agg #[.string f, .string t]) (by simp [results, Try.results56, go_sem]) rfl ⟨rfl, ((Below.refl _ _).alloc (Nat.le_refl _) _).alloc (by simp) _⟩

def statusOf (t : ByteArray) (n s ep : Int) : Said := ⟨⟨11, ⟨#[102]⟩, ⟨#[]⟩, t, 0, s, n, ep, none, 0, 0⟩, ep, 0⟩
set_option maxHeartbeats 400000 in
theorem status_any (t : ByteArray) (n s ep : Int) (w : World) :
    Calls Try.prog 33 #[.string t, .int .i64 n, .int .i64 s, .int .i64 ep] w fun e w' => e = .returned (.agg (statusOf t n s ep).cells.toArray) ∧ Below w.heap.size w w' := by
  go_enter Try.func33, Try.ntmps33
  go_wp2
  exact bodyPost_ret (v := .agg (statusOf t n s ep).cells.toArray) (by simp [results, Try.results33, go_sem, statusOf, Said.cells, Msg.cells]) rfl ⟨rfl, (Below.refl _ _).alloc (Nat.le_refl _) _⟩

set_option maxHeartbeats 8000000 in
theorem sent_any (A0 : Option Addr) (c : Nat) (S : List Said) (hn : S.length ≤ 1000) (f t : ByteArray) (w : World) (hS : RowOf Said.cells 11 w A0 S) :
    Calls Try.prog 35 #[.slice A0 S.length c, .agg #[.string f, .string t]] w fun e w' =>
      ∃ v, e = .returned v ∧ w'.ownsRow w.heap.size 3 1 v (sent f t S).length ((sent f t S).map (Value.int .i64)) ∧ Below w.heap.size w w' := by
  have HS := Lib.hid hS
  clear hS
  go_enter Try.func35, Try.ntmps35
  go_wp2
  generalize hW0 : w.alloc _ = W0
  have d0 : W0.cell? ⟨w.heap.size, 0, none⟩ = some (.string f) := by rw [← hW0, cell_new]; rfl
  have d1 : W0.cell? ⟨w.heap.size, 1, none⟩ = some (.string t) := by rw [← hW0, cell_new]; rfl
  have hb0 : Below w.heap.size w W0 := by rw [← hW0]; exact (Below.refl _ _).alloc (Nat.le_refl _) _
  have hz0 : w.heap.size < W0.heap.size := by rw [← hW0]; simp
  clear hW0
  go_loopw [5, 11] (fun v i wr => ∃ k : Nat, k ≤ S.length ∧ i = .int .i64 k ∧ Below W0.heap.size W0 wr ∧ wr.ownsRow W0.heap.size 3 1 v (sent f t (S.take k)).length ((sent f t (S.take k)).map (Value.int .i64))) (fun _ i _ => S.length - (intOf i).toNat)
  case atStart => exact ⟨0, Nat.zero_le _, rfl, Below.refl _ _, World.ownsRow_nil _ _ _ _⟩
  case round =>
    obtain ⟨k, hk, rfl, hb, hown⟩ := hrel
    by_cases hlt : k < S.length
    · obtain ⟨x, hx⟩ : ∃ x, S[k]? = some x := ⟨_, List.getElem?_eq_getElem hlt⟩
      have hsucc := Lib.hid (sent_succ f t S k x hx)
      have hlen : (sent f t (S.take k)).length ≤ k := Nat.le_trans (sent_len f t _) (List.length_take_le _ _)
      obtain ⟨b, o, hA0, hcs⟩ := HS.out (by omega)
      have hc : ∀ (j : Nat) (v : Value), (Said.cells x)[j]? = some v → wr.cell? ⟨b, o + k * 11 + j, none⟩ = some v := fun j v h => cell_below hb (cell_below hb0 (hcs k x hx j v h))
      clear hx hcs
      generalize hacc : sent f t (S.take k) = acc at hown hsucc hlen
      clear hacc
      obtain ⟨A, cp, rfl⟩ := own_slice hown
      obtain ⟨⟨xk, xf, xe, xt, xn, xs, xu, xp, xA, xil, xic⟩, ep, now⟩ := x
      have hownH := Lib.hid hown
      clear hown
      have c0 : wr.cell? ⟨b, o + k * 11, none⟩ = some (.int .i64 xk) := hc 0 _ rfl
      have c1 : wr.cell? ⟨b, o + k * 11 + 1, none⟩ = some (.string xf) := hc 1 _ rfl
      have c2 : wr.cell? ⟨b, o + k * 11 + 2, none⟩ = some (.string xe) := hc 2 _ rfl
      have c3 : wr.cell? ⟨b, o + k * 11 + 3, none⟩ = some (.string xt) := hc 3 _ rfl
      have c4 : wr.cell? ⟨b, o + k * 11 + 4, none⟩ = some (.int .i64 xn) := hc 4 _ rfl
      have c5 : wr.cell? ⟨b, o + k * 11 + 5, none⟩ = some (.int .i64 xs) := hc 5 _ rfl
      have c6 : wr.cell? ⟨b, o + k * 11 + 6, none⟩ = some (.int .i64 xu) := hc 6 _ rfl
      have c7 : wr.cell? ⟨b, o + k * 11 + 7, none⟩ = some (.int .i64 xp) := hc 7 _ rfl
      have c8 : wr.cell? ⟨b, o + k * 11 + 8, none⟩ = some (.slice xA xil xic) := hc 8 _ rfl
      have c9 : wr.cell? ⟨b, o + k * 11 + 9, none⟩ = some (.int .i64 ep) := hc 9 _ rfl
      have c10 : wr.cell? ⟨b, o + k * 11 + 10, none⟩ = some (.int .i64 now) := hc 10 _ rfl
      clear hc
      go_wp2
      clear hA0
      generalize hW : ((wr.alloc _).alloc _) = W
      have hbW : Below wr.heap.size wr W := by rw [← hW]; exact ((Below.refl _ _).alloc (Nat.le_refl _) _).alloc (by simp) _
      have m0 : W.cell? ⟨wr.heap.size + 1, 0, none⟩ = some (.int .i64 xk) := by rw [← hW, cell_new1]; rfl
      have m1 : W.cell? ⟨wr.heap.size + 1, 1, none⟩ = some (.string xf) := by rw [← hW, cell_new1]; rfl
      have m2 : W.cell? ⟨wr.heap.size + 1, 2, none⟩ = some (.string xe) := by rw [← hW, cell_new1]; rfl
      have m3 : W.cell? ⟨wr.heap.size + 1, 3, none⟩ = some (.string xt) := by rw [← hW, cell_new1]; rfl
      have m4 : W.cell? ⟨wr.heap.size + 1, 4, none⟩ = some (.int .i64 xn) := by rw [← hW, cell_new1]; rfl
      have m5 : W.cell? ⟨wr.heap.size + 1, 5, none⟩ = some (.int .i64 xs) := by rw [← hW, cell_new1]; rfl
      have m6 : W.cell? ⟨wr.heap.size + 1, 6, none⟩ = some (.int .i64 xu) := by rw [← hW, cell_new1]; rfl
      have m7 : W.cell? ⟨wr.heap.size + 1, 7, none⟩ = some (.int .i64 xp) := by rw [← hW, cell_new1]; rfl
      have m8 : W.cell? ⟨wr.heap.size + 1, 8, none⟩ = some (.slice xA xil xic) := by rw [← hW, cell_new1]; rfl
      clear hW c0 c1 c2 c3 c4 c5 c6 c7 c8 c9 c10
      replace d0 := cell_below hbW (cell_below hb d0)
      replace d1 := cell_below hbW (cell_below hb d1)
      obtain ⟨bf, hbf⟩ : ∃ bf, (xf.toList == f.toList) = bf := ⟨_, rfl⟩
      obtain ⟨bt, hbt⟩ : ∃ bf, (xt.toList == t.toList) = bf := ⟨_, rfl⟩
      obtain ⟨V, HV⟩ : ∃ V : Tmp → Value → World → Prop, Hid (V = fun sl_ v_ w_ => match sl_ with | 17 => v_ = .pointer (some ⟨wr.heap.size + 1, 0, none⟩) | 18 => v_ = .int .i64 xk | 19 => v_ = .bool (xk != 11) | 20 => v_ = .bool (xk != 11) | 21 => xk = 11 → v_ = .agg #[.int .i64 xk, .string xf, .string xe, .string xt, .int .i64 xn, .int .i64 xs, .int .i64 xu, .int .i64 xp, .slice xA xil xic] | 22 => xk = 11 → v_ = .agg #[.string xf, .string xt] | 23 => xk = 11 → v_ = .agg #[.string f, .string t] | 24 => xk = 11 → v_ = .bool (!(bf && bt)) | 25 => v_ = .bool (xk != 11 || !(bf && bt)) | _ => True) := ⟨_, rfl⟩
      refine wp_region_loose (Below W.heap.size W ·) (fun _ _ => True) V (by kernel_rfl) (by kernel_rfl) (by kernel_rfl) (Below.refl _ _).drew (fun _ => trivial) ?_ ?_ ?_
      · intro t v w w' hC hR h
        rw [HV.out] at h ⊢
        exact h
      · go_light
        simp only [List.forall_mem_cons]
        refine ⟨?_, ?_, ?_, ?_, ?_, ?_, ?_, ?_, ?_, fun _ h => by cases h⟩
        · intro ρ w1 hc hf hg ho hC hV
          have e8 := ho 8 (by decide)
          simp only [execOp]
          go_simp
          exact ⟨hC, trivial, (by show V 17 _ _; rw [HV.out]; exact rfl)⟩
        · intro ρ w1 hc hf hg ho hC hV
          have e17 : ρ (.tmp 17) = .pointer (some ⟨wr.heap.size + 1, 0, none⟩) := by have h := hV 17 (by decide) (by decide); rw [HV.out] at h; exact h
          have m0' := cell_below hC m0
          simp only [execOp]
          go_simp
          exact ⟨hC, trivial, (by show V 18 _ _; rw [HV.out]; exact rfl)⟩
        · intro ρ w1 hc hf hg ho hC hV
          have e18 : ρ (.tmp 18) = .int .i64 xk := by have h := hV 18 (by decide) (by decide); rw [HV.out] at h; exact h
          simp only [execOp]
          go_simp
          exact ⟨hC, trivial, (by show V 19 _ _; rw [HV.out]; exact rfl)⟩
        · intro ρ w1 hc hf hg ho hC hV
          have e19 : ρ (.tmp 19) = .bool (xk != 11) := by have h := hV 19 (by decide) (by decide); rw [HV.out] at h; exact h
          simp only [execOp]
          go_simp
          exact ⟨hC, trivial, (by show V 20 _ _; rw [HV.out]; exact rfl)⟩
        · intro ρ w1 hc hf hg ho hC hV
          refine ⟨20, _, rfl, by have h := hV 20 (by decide) (by decide); rw [HV.out] at h; exact h, ?_⟩
          split
          · rename_i hn
            have hcond : xk = 11 := by simpa using hn
            clear hn
            have e8 := ho 8 (by decide)
            have m0' := cell_below hC m0
            have m1' := cell_below hC m1
            have m2' := cell_below hC m2
            have m3' := cell_below hC m3
            have m4' := cell_below hC m4
            have m5' := cell_below hC m5
            have m6' := cell_below hC m6
            have m7' := cell_below hC m7
            have m8' := cell_below hC m8
            clear hcond
            simp only [execOp]
            go_simp
            exact ⟨hC, trivial, (by show V 21 _ _; rw [HV.out]; exact fun _ => rfl)⟩
          · rename_i hn
            show V 21 _ _; rw [HV.out]; exact fun h => absurd h (by intro h'; apply hn; simp_all)
        · intro ρ w1 hc hf hg ho hC hV
          refine ⟨20, _, rfl, by have h := hV 20 (by decide) (by decide); rw [HV.out] at h; exact h, ?_⟩
          split
          · rename_i hn
            have hcond : xk = 11 := by simpa using hn
            clear hn
            have e21 : ρ (.tmp 21) = .agg #[.int .i64 xk, .string xf, .string xe, .string xt, .int .i64 xn, .int .i64 xs, .int .i64 xu, .int .i64 xp, .slice xA xil xic] := by have h := hV 21 (by decide) (by decide); rw [HV.out] at h; exact h (by assumption)
            clear hcond
            simp only [execOp]
            go_simp
            refine (key_any ⟨xk, xf, xe, xt, xn, xs, xu, xp, xA, xil, xic⟩ w1).mono ?_
            rintro e w2 ⟨rfl, hb2⟩
            exact ⟨_, rfl, below_step hC hb2, trivial, (by show V 22 _ _; rw [HV.out]; exact fun _ => rfl)⟩
          · rename_i hn
            show V 22 _ _; rw [HV.out]; exact fun h => absurd h (by intro h'; apply hn; simp_all)
        · intro ρ w1 hc hf hg ho hC hV
          refine ⟨20, _, rfl, by have h := hV 20 (by decide) (by decide); rw [HV.out] at h; exact h, ?_⟩
          split
          · rename_i hn
            have hcond : xk = 11 := by simpa using hn
            clear hn
            have e3 := ho 3 (by decide)
            have d0' := cell_below hC d0
            have d1' := cell_below hC d1
            clear hcond
            simp only [execOp]
            go_simp
            exact ⟨hC, trivial, (by show V 23 _ _; rw [HV.out]; exact fun _ => rfl)⟩
          · rename_i hn
            show V 23 _ _; rw [HV.out]; exact fun h => absurd h (by intro h'; apply hn; simp_all)
        · intro ρ w1 hc hf hg ho hC hV
          refine ⟨20, _, rfl, by have h := hV 20 (by decide) (by decide); rw [HV.out] at h; exact h, ?_⟩
          split
          · rename_i hn
            have hcond : xk = 11 := by simpa using hn
            clear hn
            have e22 : ρ (.tmp 22) = .agg #[.string xf, .string xt] := by have h := hV 22 (by decide) (by decide); rw [HV.out] at h; exact h (by assumption)
            have e23 : ρ (.tmp 23) = .agg #[.string f, .string t] := by have h := hV 23 (by decide) (by decide); rw [HV.out] at h; exact h (by assumption)
            clear hcond
            simp only [execOp]
            cases bf <;> cases bt <;> go_simp <;> exact ⟨hC, trivial, (by show V 24 _ _; rw [HV.out]; exact fun _ => rfl)⟩
          · rename_i hn
            show V 24 _ _; rw [HV.out]; exact fun h => absurd h (by intro h'; apply hn; simp_all)
        · intro ρ w1 hc hf hg ho hC hV
          have e20 : ρ (.tmp 20) = .bool (xk != 11) := by have h := hV 20 (by decide) (by decide); rw [HV.out] at h; exact h
          by_cases h11 : xk = 11
          · have e24 : ρ (.tmp 24) = .bool (!(bf && bt)) := by have h := hV 24 (by decide) (by decide); rw [HV.out] at h; exact h h11
            have hb0 : (xk != 11) = false := by simpa using h11
            clear h11
            simp only [execOp]
            go_simp
            exact ⟨hC, trivial, (by show V 25 _ _; rw [HV.out]; show _ = Value.bool (xk != 11 || !(bf && bt)); rw [hb0]; simp)⟩
          · have hb : (xk != 11) = true := by simpa using h11
            clear h11
            simp only [execOp]
            go_simp
            exact ⟨hC, trivial, (by show V 25 _ _; rw [HV.out]; show _ = Value.bool (xk != 11 || !(bf && bt)); rw [hb]; rfl)⟩
      · intro σ w1 hC hV
        have v25 : σ 25 = .bool (xk != 11 || !(bf && bt)) := by have h := hV 25 (by decide); rw [HV.out] at h; exact h
        clear hV HV V
        dsimp only [dsts, List.filterMap, putAll, Act.put]
        have hit_is : Hid (hit f t ⟨⟨xk, xf, xe, xt, xn, xs, xu, xp, xA, xil, xic⟩, ep, now⟩ = !(xk != 11 || !(bf && bt))) := by
          unfold hit Hid
          have hbf2 := hbf
          have hbt2 := hbt
          rw [ByteArray.toList_eq, ByteArray.toList_eq] at hbf2 hbt2
          rw [hbf2, hbt2]
          simp [bne]
        have hbr : Below W0.heap.size W0 w1 := below_step hb (below_step hbW hC)
        have hownw : Hid (w1.ownsRow W0.heap.size 3 1 (.slice A acc.length cp) acc.length (acc.map (Value.int .i64))) := own_below (own_below hownH.out hbW) hC
        replace m6 := cell_below hC m6
        clear hownH hbW d0 d1 m0 m1 m2 m3 m4 m5 m7 m8 hC hbf hbt
        by_cases hbh : (xk != 11 || !(bf && bt)) = true
        · rw [hbh] at v25 hit_is
          clear hbh
          go_simp
          go_wp2
          go_roundw
          case rel =>
            refine ⟨k + 1, by omega, by go_num, hbr, ?_⟩
            rw [hsucc.out, sentStep, if_neg (by rw [hit_is.out]; decide)]
            exact hownw.out
          case measure => simp [intOf]; omega
        · rw [Bool.not_eq_true] at hbh
          rw [hbh] at v25 hit_is
          have hitT : Hid (hit f t ⟨⟨xk, xf, xe, xt, xn, xs, xu, xp, xA, xil, xic⟩, ep, now⟩ = true) := hit_is.out
          clear hbh
          go_simp
          rcases Nat.eq_zero_or_pos acc.length with hl0 | hl0
          · have hnil : Hid (acc = []) := List.eq_nil_of_length_eq_zero hl0
            go_wp2
            go_quiet (fail)
            generalize hw2 : w1.drewN nq = w2
            have hbr2 : Below W0.heap.size W0 w2 := by rw [← hw2]; exact below_drewN hbr nq
            have hown2 : Hid (w2.ownsRow W0.heap.size 3 1 (.slice A acc.length cp) acc.length (acc.map (Value.int .i64))) := by rw [← hw2]; exact hownw.out
            have m6' : w2.cell? ⟨wr.heap.size + 1, 6, none⟩ = some (.int .i64 xu) := by rw [← hw2]; exact m6
            clear hw2 hownw m6
            go_wp2_with (at_builtin; refine app_one (w0 := W0) W0.heap.size rfl _ _ 22 3 (.int .i64 0) 1 8 rfl Try.underlying22 info3 rfl (by decide) (by decide) (.slice A acc.length cp) acc.length (acc.map (Value.int .i64)) [.int .i64 xu] (by rfl) (by rfl) rfl (by simp [Value.oneCell']) hown2.out hbr2 hbr2.size (by omega) ?_; intro v1 w3 hown1 hb1 hg1 hat1)
            go_roundw
            case rel =>
              refine ⟨k + 1, by omega, by go_num, hb1, ?_⟩
              rw [hsucc.out, sentStep, if_pos hitT.out, if_neg (by rw [hnil.out]; simp)]
              rw [hnil.out] at hown1 ⊢; simpa using hown1
            case measure => simp [intOf]; omega
          · obtain ⟨m, hm⟩ : ∃ m, acc.length = m + 1 := ⟨acc.length - 1, by omega⟩
            have hmlt : m < acc.length := by omega
            obtain ⟨last, hlast⟩ : ∃ last, acc[m]? = some last := ⟨_, List.getElem?_eq_getElem hmlt⟩
            have hgl : Hid (acc.getLast? = some last) := by
              unfold Hid
              rw [List.getLast?_eq_getElem?, hm]
              exact hlast
            obtain ⟨g, cap', hv, _, _⟩ := hownw.out.form (by omega)
            have hcl : w1.cell? ⟨g, m, none⟩ = some (.int .i64 last) := by
              have h := hownw.out.cells (g := g) (by rw [hv]; rfl) m (.int .i64 last) (by simp [hlast])
              have e : (⟨g, 0, none⟩ : Addr).add m = ⟨g, m, none⟩ := by unfold Addr.add; split <;> simp_all
              rwa [e] at h
            have hA : A = some ⟨g, 0, none⟩ := by injection hv
            have hm1 : m ≤ 1000 := by omega
            have hn0 : (((m : Int) + 1) == 0) = false := by rw [beq_eq_false_iff_ne]; omega
            have hp1 : IntKind.i64.wrap ((m : Int) + 1 - 1) = (m : Int) := by rw [IntKind.wrap_i64]; omega
            clear hlast hmlt hl0 hv
            by_cases hlu : last = xu
            · have hlu1 : (last != xu) = false := by simpa using hlu
              have hluH := Lib.hid hlu
              clear hlu
              go_wp2
              go_quiet (fail)
              trace "Q"
              generalize hw2 : w1.drewN nq = w2
              have hbr2 : Below W0.heap.size W0 w2 := by rw [← hw2]; exact below_drewN hbr nq
              have hown2 : Hid (w2.ownsRow W0.heap.size 3 1 (.slice A acc.length cp) acc.length (acc.map (Value.int .i64))) := by rw [← hw2]; exact hownw.out
              clear hw2 hownw hcl m6 hlu1 hp1 hn0
              go_wp2
              go_roundw
              case rel =>
                refine ⟨k + 1, by omega, by go_num, hbr2, ?_⟩
                rw [hsucc.out, sentStep, if_pos hitT.out, if_pos (by rw [hgl.out, hluH.out])]
                exact hown2.out
              case measure => simp [intOf]; omega
            · have hlu1 : (last != xu) = true := by simpa using hlu
              have hluH := Lib.hid hlu
              clear hlu
              go_wp2
              go_quiet (fail)
              trace "Q"
              generalize hw2 : w1.drewN nq = w2
              have hbr2 : Below W0.heap.size W0 w2 := by rw [← hw2]; exact below_drewN hbr nq
              have hown2 : Hid (w2.ownsRow W0.heap.size 3 1 (.slice A acc.length cp) acc.length (acc.map (Value.int .i64))) := by rw [← hw2]; exact hownw.out
              have m6' : w2.cell? ⟨wr.heap.size + 1, 6, none⟩ = some (.int .i64 xu) := by rw [← hw2]; exact m6
              clear hw2 hownw hcl m6 hlu1 hp1 hn0
              go_wp2_with (at_builtin; refine app_one (w0 := W0) W0.heap.size rfl _ _ 22 3 (.int .i64 0) 1 8 rfl Try.underlying22 info3 rfl (by decide) (by decide) (.slice A acc.length cp) acc.length (acc.map (Value.int .i64)) [.int .i64 xu] (by rfl) (by rfl) rfl (by simp [Value.oneCell']) hown2.out hbr2 hbr2.size (by omega) ?_; intro v1 w3 hown1 hb1 hg1 hat1)
              go_roundw
              case rel =>
                refine ⟨k + 1, by omega, by go_num, hb1, ?_⟩
                rw [hsucc.out, sentStep, if_pos hitT.out, if_neg (by rw [hgl.out]; intro h; exact hluH.out (Option.some.inj h))]
                simpa using hown1
              case measure => simp [intOf]; omega
    · have hke : k = S.length := by omega
      have hrow := Lib.hid hown
      have hkH := Lib.hid hke
      clear hke hown d0 d1
      go_wp2
      go_ret
      refine ⟨_, rfl, ?_, below_step hb0 (hb.mono (Nat.le_refl _))⟩
      have h := hrow.out
      rw [hkH.out, List.take_of_length_le (Nat.le_refl _)] at h
      exact own_lower h (by omega)
end Go.Proofs.Ytbmegoemimfiaaa

/-
  life.Over, life.May, life.Of; watch.states: the walks.
-/
import Derived.Test.YtbmegoemimfiaaaRows
import Derived.Test.YtbmegoemimfiaaaW25a
import Derived.WalkKit
import Derived.WalkSpells
import Derived.WalkLawsBesides
import Derived.Outline
import Derived.Laws.StructEq
import Derived.Deep.Light
import Derived.Deep.QuietTactic
import Derived.BigQuiet
import Derived.Maps.OwnOps
import Derived.Maps.OwnSet
import Derived.Lib.Hide
namespace Go.Proofs.Ytbmegoemimfiaaa
open Go Go.RowKit
set_option maxRecDepth 100000
set_option linter.unusedVariables false
set_option linter.unusedSimpArgs false

set_option maxHeartbeats 400000 in
theorem over_any (s : Int) (w : World) : Calls Try.prog 49 #[.int .i64 s] w fun e w' => e = .returned (.bool (overB s)) ∧ w = w' := by
  unfold overB
  by_cases h1 : 3 ≤ s
  · have h1b : decide (3 ≤ s) = true := decide_eq_true h1
    by_cases h2 : s ≤ 7
    · have h2b : decide (s ≤ 7) = true := decide_eq_true h2
      go_enter Try.func49, Try.ntmps49
      go_wp2
      go_ret
      exact ⟨by simp [h1b, h2b], rfl⟩
    · have h2b : decide (s ≤ 7) = false := decide_eq_false h2
      go_enter Try.func49, Try.ntmps49
      go_wp2
      go_ret
      exact ⟨by simp [h1b, h2b], rfl⟩
  · have h1b : decide (3 ≤ s) = false := decide_eq_false h1
    go_enter Try.func49, Try.ntmps49
    go_wp2
    go_ret
    exact ⟨by simp [h1b], rfl⟩

set_option maxHeartbeats 1000000 in
theorem may_any (f t : Int) (w : World) : Calls Try.prog 78 #[.int .i64 f, .int .i64 t] w fun e w' => e = .returned (.bool (mayB f t)) ∧ w = w' := by
  by_cases h1 : f = 1
  · have hm : Hid (mayB f t = (t == 2 || overB t)) := by unfold Hid mayB; rw [if_pos h1]
    have h1b : (f == 1) = true := by simpa using h1
    clear h1
    by_cases h2 : t = 2
    · have h2b : (t == 2) = true := by simpa using h2
      clear h2
      go_enter Try.func78, Try.ntmps78
      go_wp2
      go_ret
      exact ⟨by rw [hm.out, h2b]; rfl, rfl⟩
    · have h2b : (t == 2) = false := by simpa using h2
      clear h2
      go_enter Try.func78, Try.ntmps78
      go_wp2_with (go_at_call 49; refine (over_any _ _).mono ?_; rintro e w' ⟨rfl, rfl⟩)
      go_ret
      exact ⟨by rw [hm.out, h2b]; rfl, rfl⟩
  · have h1b : (f == 1) = false := by simpa using h1
    by_cases h3 : f = 2
    · have hm : Hid (mayB f t = (overB t && t != 7)) := by unfold Hid mayB; rw [if_neg h1, if_pos h3]
      have h3b : (f == 2) = true := by simpa using h3
      clear h1 h3
      by_cases h4 : overB t = true
      · go_enter Try.func78, Try.ntmps78
        go_wp2_with (go_at_call 49; refine (over_any _ _).mono ?_; rintro e w' ⟨rfl, rfl⟩)
        go_ret
        exact ⟨by rw [hm.out, h4]; rfl, rfl⟩
      · have h4b : overB t = false := by simpa using h4
        clear h4
        go_enter Try.func78, Try.ntmps78
        go_wp2_with (go_at_call 49; refine (over_any _ _).mono ?_; rintro e w' ⟨rfl, rfl⟩)
        go_ret
        exact ⟨by rw [hm.out, h4b]; rfl, rfl⟩
    · have hm : Hid (mayB f t = false) := by unfold Hid mayB; rw [if_neg h1, if_neg h3]
      have h3b : (f == 2) = false := by simpa using h3
      clear h1 h3
      go_enter Try.func78, Try.ntmps78
      go_wp2
      go_ret
      rw [hm.out]; exact ⟨rfl, rfl⟩

def IntRow (w : World) (A : Option Addr) (xs : List Int) : Prop := RowOf (fun x : Int => [Value.int .i64 x]) 1 w A xs
theorem IntRow.at_ {w : World} {A : Option Addr} {xs : List Int} (h : IntRow w A xs) {k : Nat} (hk : k < xs.length) : ∃ b o, A = some ⟨b, o, none⟩ ∧ w.cell? ⟨b, o + k, none⟩ = some (.int .i64 (xs.getD k 0)) := by
  obtain ⟨b, o, hA, hc⟩ := h (by omega)
  refine ⟨b, o, hA, ?_⟩
  have := hc k (xs.getD k 0) (by simp [List.getD_eq_getElem?_getD, List.getElem?_eq_getElem hk]) 0 _ rfl
  simpa using this
theorem own_introw {w : World} {base n c : Nat} {e : TypeId} {A : Option Addr} {xs : List Int} (h : w.ownsRow base e 1 (.slice A n c) n (xs.map (Value.int .i64))) : n = xs.length ∧ IntRow w A xs := by
  have hl : xs.length = n := by have := h.1; simp at this; exact this
  refine ⟨hl.symm, fun h0 => ?_⟩
  obtain ⟨g, cap, hv, _, _⟩ := h.form (by omega)
  have hA : A = some ⟨g, 0, none⟩ := by injection hv
  refine ⟨g, 0, hA, fun i x hx j v hv' => ?_⟩
  cases j with
  | zero =>
    simp at hv'
    subst hv'
    have hc := h.cells (g := g) (by rw [hA]; rfl) i (.int .i64 x) (by simp [hx])
    have e : (⟨g, 0, none⟩ : Addr).add i = ⟨g, 0 + i * 1 + 0, none⟩ := by unfold Addr.add; split <;> simp_all
    rwa [e] at hc
  | succ j => simp at hv'

def LifeRel (xs : List Int) (now i : Value) : Prop := ∃ (k : Nat) (nw : Int), k ≤ xs.length ∧ i = .int .i64 k ∧ now = .int .i64 nw ∧ Hid (lifeGo nw (xs.drop k) = lifeOf xs)
set_option maxHeartbeats 2000000 in
theorem lifeOf_some (b o : Nat) (c : Nat) (xs : List Int) (hn : xs.length ≤ 1000) (w : World) (hr : ∀ k, k < xs.length → w.cell? ⟨b, o + k, none⟩ = some (.int .i64 (xs.getD k 0))) :
    Calls Try.prog 69 #[.slice (some ⟨b, o, none⟩) xs.length c] w fun e w' => e = .returned (.int .i64 (lifeOf xs)) ∧ w = w' := by
  have HR := Lib.hid hr
  clear hr
  go_enter Try.func69, Try.ntmps69
  go_wp2
  go_loopw [3, 8] (fun now i wr => LifeRel xs now i ∧ w = wr) (fun _ i _ => xs.length - (intOf i).toNat)
  case atStart => exact ⟨⟨0, 1, Nat.zero_le _, rfl, rfl, rfl⟩, rfl⟩
  case round =>
    obtain ⟨⟨k, nw, hk, rfl, rfl, hgo⟩, rfl⟩ := hrel
    by_cases hlt : k < xs.length
    · have hc := HR.out k hlt
      have hd : Hid (xs.drop k = xs.getD k 0 :: xs.drop (k + 1)) := by
        unfold Hid
        rw [List.drop_eq_getElem_cons hlt]
        simp [List.getD_eq_getElem?_getD, List.getElem?_eq_getElem hlt]
      generalize xs.getD k 0 = x at hc hd
      by_cases hm : mayB nw x = true
      · go_wp2_with (go_at_call 78; refine (may_any _ _ _).mono ?_; rintro e w' ⟨rfl, rfl⟩)
        go_roundw
        case rel => exact ⟨⟨k + 1, x, by omega, by go_num, rfl, by
          have h := hgo.out
          rw [hd.out, lifeGo, if_pos hm] at h
          exact h⟩, by first | exact trivial | exact rfl⟩
        case measure => simp [intOf]; omega
      · have hm' : mayB nw x = false := by simpa using hm
        have hfin : Hid (lifeOf xs = 0) := by
          have h := hgo.out
          rw [hd.out, lifeGo, if_neg hm] at h
          exact h.symm
        clear hm
        go_wp2_with (go_at_call 78; refine (may_any _ _ _).mono ?_; rintro e w' ⟨rfl, rfl⟩)
        go_ret
        rw [hfin.out]; exact ⟨rfl, rfl⟩
    · have hfin : Hid (lifeOf xs = nw) := by
        have h := hgo.out
        rw [List.drop_of_length_le (by omega)] at h
        exact h.symm
      go_wp2
      go_ret
      rw [hfin.out]; exact ⟨rfl, rfl⟩
set_option maxHeartbeats 2000000 in
theorem lifeOf_nil (A : Option Addr) (c : Nat) (w : World) :
    Calls Try.prog 69 #[.slice A 0 c] w fun e w' => e = .returned (.int .i64 1) ∧ w = w' := by
  go_enter Try.func69, Try.ntmps69
  go_wp2
  go_loopw [3, 8] (fun now i wr => now = .int .i64 1 ∧ i = .int .i64 0 ∧ w = wr) (fun _ _ _ => 0)
  case atStart => exact ⟨rfl, rfl, rfl⟩
  case round =>
    obtain ⟨rfl, rfl, rfl⟩ := hrel
    go_wp2
    go_ret
    exact ⟨rfl, rfl⟩
theorem lifeOf_any (A : Option Addr) (c : Nat) (xs : List Int) (hn : xs.length ≤ 1000) (w : World) (hr : IntRow w A xs) :
    Calls Try.prog 69 #[.slice A xs.length c] w fun e w' => e = .returned (.int .i64 (lifeOf xs)) ∧ w = w' := by
  rcases Nat.eq_zero_or_pos xs.length with h0 | h0
  · obtain rfl := List.eq_nil_of_length_eq_zero h0
    exact lifeOf_nil A c w
  · obtain ⟨b, o, rfl, _⟩ := hr h0
    refine lifeOf_some b o c xs hn w fun k hk => ?_
    obtain ⟨b', o', he, hc⟩ := hr.at_ hk
    cases he
    exact hc

open Go.Maps
theorem law3 : Keyed Try.prog 3 := int_keyed Try.underlying3
theorem zero3 (w : World) : (zeroValue 3).run Try.prog w = .ok (.int .i64 0) w := by kernel_rfl
/-- What the map at block b holds, key by key. -/
def MapInt (w : World) (b n : Nat) (st : List (Int × Int)) : Prop := ∃ D : DataW Unit, w.ownsMap Try.prog 3 (plainElem Try.prog 3) b n D ∧ IsMap D ∧
  ∀ u : Int, (Lit.int .i64 u).wf = true → Maps.has D (.int .i64 u) = (look st u).isSome ∧ D.atKey (.int .i64 u) (.lit (.int .i64 0)) = .lit (.int .i64 ((look st u).getD 0))
theorem look_cons (st : List (Int × Int)) (u s v : Int) : look ((u, s) :: st) v = if u = v then some s else look st v := by
  unfold look
  by_cases h : u = v <;> simp [List.find?_cons, h]
theorem MapInt.put {w w' : World} {b n : Nat} {st : List (Int × Int)} {D : DataW Unit} (hm : IsMap D)
    (hl : ∀ u : Int, (Lit.int .i64 u).wf = true → Maps.has D (.int .i64 u) = (look st u).isSome ∧ D.atKey (.int .i64 u) (.lit (.int .i64 0)) = .lit (.int .i64 ((look st u).getD 0)))
    {u s : Int} (h : w'.ownsMap Try.prog 3 (plainElem Try.prog 3) b n (D.put (.int .i64 u) (.lit (.int .i64 s)))) : MapInt w' b n ((u, s) :: st) := by
  refine ⟨_, h, hm.put _ _, fun v hv => ?_⟩
  rw [look_cons]
  by_cases e : u = v
  · subst e
    rw [has_put_same hm (by trivial), atKey_put_same hm (by trivial)]
    simp
  · have hne : (Lit.int .i64 v) ≠ (Lit.int .i64 u) := by intro h; injection h with _ h; exact e h.symm
    rw [has_put_other hne, atKey_put_other hne, if_neg e]
    exact hl v hv
theorem MapInt.below {w w' : World} {b n : Nat} {st : List (Int × Int)} (h : MapInt w b n st) (hb : Below w.heap.size w w') : MapInt w' b n st := by
  obtain ⟨D, h1, h2, h3⟩ := h
  exact ⟨D, h1.kept (grown_of_below hb none) (by simp), h2, h3⟩
theorem MapInt.lt {w : World} {b n : Nat} {st : List (Int × Int)} (h : MapInt w b n st) : b < w.heap.size := by
  obtain ⟨D, h1, _⟩ := h
  exact h1.lt

def StatesPost (w : World) (f t : ByteArray) (S : List Said) (e : Ending) (w' : World) : Prop :=
  (match statesOf f t S with | none => e = .returned (.tuple #[.map none, .bool false]) | some st => ∃ b n, e = .returned (.tuple #[.map (some b), .bool true]) ∧ w.heap.size ≤ b ∧ MapInt w' b n st) ∧ Below w.heap.size w w'
set_option maxHeartbeats 8000000 in
theorem states_any (A0 : Option Addr) (c : Nat) (S : List Said) (hn : S.length ≤ 1000) (hwf : ∀ x ∈ S, (Lit.int .i64 x.m.u).wf = true ∧ (Lit.int .i64 x.m.s).wf = true) (f t : ByteArray) (w : World) (hS : RowOf Said.cells 11 w A0 S) :
    Calls Try.prog 68 #[.slice A0 S.length c, .agg #[.string f, .string t]] w (StatesPost w f t S) := by
  have HS := Lib.hid hS
  have HWF := Lib.hid hwf
  clear hS hwf
  have hmm := @run_makeMap Try.prog
  go_enter Try.func68, Try.ntmps68
  go_wp2
  clear hmm
  generalize hW0 : (w.alloc _).alloc _ = W0
  have d0 : W0.cell? ⟨w.heap.size, 0, none⟩ = some (.string f) := by rw [← hW0, World.cell?_alloc_lt _ _ _ (by simp), cell_new]; rfl
  have d1 : W0.cell? ⟨w.heap.size, 1, none⟩ = some (.string t) := by rw [← hW0, World.cell?_alloc_lt _ _ _ (by simp), cell_new]; rfl
  have hb0 : Below w.heap.size w W0 := by rw [← hW0]; exact ((Below.refl _ _).alloc (Nat.le_refl _) _).alloc (by simp) _
  have hz0 : w.heap.size + 1 < W0.heap.size := by rw [← hW0]; simp
  have hM0 : Hid (MapInt W0 (w.heap.size + 1) 0 []) := by
    have h := World.ownsMap_made (H := Unit) (w.alloc (.cells #[.string f, .string t] 40)) Try.prog 3 (plainElem Try.prog 3)
    rw [hW0] at h
    have e : (w.alloc (.cells #[.string f, .string t] 40)).heap.size = w.heap.size + 1 := by simp
    rw [e] at h
    exact ⟨_, h, isMap_empty, fun u _ => ⟨rfl, rfl⟩⟩
  clear hW0
  go_loopw [15] (fun i wr => ∃ (k : Nat) (st : List (Int × Int)), k ≤ S.length ∧ i = .int .i64 k ∧ Below (w.heap.size + 1) W0 wr ∧ W0.heap.size ≤ wr.heap.size ∧ Hid (statesOf f t (S.take k) = some st) ∧ Hid (MapInt wr (w.heap.size + 1) k st)) (fun i _ => S.length - (intOf i).toNat)
  case atStart => exact ⟨0, [], Nat.zero_le _, rfl, Below.refl _ _, Nat.le_refl _, rfl, hM0⟩
  case round =>
    clear hM0
    obtain ⟨k, st, hk, rfl, hb, hws, hst, hM⟩ := hrel
    by_cases hlt : k < S.length
    · obtain ⟨x, hx⟩ : ∃ x, S[k]? = some x := ⟨_, List.getElem?_eq_getElem hlt⟩
      have hsucc := Lib.hid (statesOf_succ f t S k x hx)
      have hwfx := Lib.hid (HWF.out x (List.mem_of_getElem? hx))
      obtain ⟨b, o, hA0, hcs⟩ := HS.out (by omega)
      have hbold : b < w.heap.size := by
        have h := hcs k x hx 0 _ rfl
        exact World.block_lt_of_cell? w _ h
      have hc : ∀ (j : Nat) (v : Value), (Said.cells x)[j]? = some v → wr.cell? ⟨b, o + k * 11 + j, none⟩ = some v := fun j v h => (hb.cell (p := ⟨b, o + k * 11 + j, none⟩) (by show b < _; omega)).trans (cell_below hb0 (hcs k x hx j v h))
      replace d0 := (hb.cell (p := ⟨w.heap.size, 0, none⟩) (by show w.heap.size < _; omega)).trans d0
      replace d1 := (hb.cell (p := ⟨w.heap.size, 1, none⟩) (by show w.heap.size < _; omega)).trans d1
      clear hx hcs hbold
      subst hA0
      obtain ⟨⟨xk, xf, xe, xt, xn, xs, xu, xp, xA, xil, xic⟩, ep, now⟩ := x
      have c0 : wr.cell? ⟨b, o + k * 11, none⟩ = some (.int .i64 xk) := hc 0 _ rfl
      have c1 : wr.cell? ⟨b, o + k * 11 + 1, none⟩ = some (.string xf) := hc 1 _ rfl
      have c2 : wr.cell? ⟨b, o + k * 11 + 2, none⟩ = some (.string xe) := hc 2 _ rfl
      have c3 : wr.cell? ⟨b, o + k * 11 + 3, none⟩ = some (.string xt) := hc 3 _ rfl
      have c4 : wr.cell? ⟨b, o + k * 11 + 4, none⟩ = some (.int .i64 xn) := hc 4 _ rfl
      have c5 : wr.cell? ⟨b, o + k * 11 + 5, none⟩ = some (.int .i64 xs) := hc 5 _ rfl
      have c6 : wr.cell? ⟨b, o + k * 11 + 6, none⟩ = some (.int .i64 xu) := hc 6 _ rfl
      have c7 : wr.cell? ⟨b, o + k * 11 + 7, none⟩ = some (.int .i64 xp) := hc 7 _ rfl
      have c8 : wr.cell? ⟨b, o + k * 11 + 8, none⟩ = some (.slice xA xil xic) := hc 8 _ rfl
      have c9 : wr.cell? ⟨b, o + k * 11 + 9, none⟩ = some (.int .i64 ep) := hc 9 _ rfl
      have c10 : wr.cell? ⟨b, o + k * 11 + 10, none⟩ = some (.int .i64 now) := hc 10 _ rfl
      clear hc
      go_wp2
      generalize hW : ((wr.alloc _).alloc _) = W
      have hbW : Below wr.heap.size wr W := by rw [← hW]; exact ((Below.refl _ _).alloc (Nat.le_refl _) _).alloc (by simp) _
      have m0 : W.cell? ⟨wr.heap.size + 1, 0, none⟩ = some (.int .i64 xk) := by rw [← hW, cell_new1]; rfl
      have m1 : W.cell? ⟨wr.heap.size + 1, 1, none⟩ = some (.string xf) := by rw [← hW, cell_new1]; rfl
      have m2 : W.cell? ⟨wr.heap.size + 1, 2, none⟩ = some (.string xe) := by rw [← hW, cell_new1]; rfl
      have m3 : W.cell? ⟨wr.heap.size + 1, 3, none⟩ = some (.string xt) := by rw [← hW, cell_new1]; rfl
      have m4 : W.cell? ⟨wr.heap.size + 1, 4, none⟩ = some (.int .i64 xn) := by rw [← hW, cell_new1]; rfl
      have m5 : W.cell? ⟨wr.heap.size + 1, 5, none⟩ = some (.int .i64 xs) := by rw [← hW, cell_new1]; rfl
      have m6 : W.cell? ⟨wr.heap.size + 1, 6, none⟩ = some (.int .i64 xu) := by rw [← hW, cell_new1]; rfl
      have m7 : W.cell? ⟨wr.heap.size + 1, 7, none⟩ = some (.int .i64 xp) := by rw [← hW, cell_new1]; rfl
      have m8 : W.cell? ⟨wr.heap.size + 1, 8, none⟩ = some (.slice xA xil xic) := by rw [← hW, cell_new1]; rfl
      clear hW c0 c1 c2 c3 c4 c5 c6 c7 c8 c9 c10
      replace d0 := cell_below hbW d0
      replace d1 := cell_below hbW d1
      obtain ⟨bf, hbf⟩ : ∃ bf, (xf.toList == f.toList) = bf := ⟨_, rfl⟩
      obtain ⟨bt, hbt⟩ : ∃ bf, (xt.toList == t.toList) = bf := ⟨_, rfl⟩
      obtain ⟨V, HV⟩ : ∃ V : Tmp → Value → World → Prop, Hid (V = fun sl_ v_ w_ => match sl_ with | 21 => v_ = .pointer (some ⟨wr.heap.size + 1, 0, none⟩) | 22 => v_ = .int .i64 xk | 23 => v_ = .bool (xk != 11) | 24 => v_ = .bool (xk != 11) | 25 => xk = 11 → v_ = .agg #[.int .i64 xk, .string xf, .string xe, .string xt, .int .i64 xn, .int .i64 xs, .int .i64 xu, .int .i64 xp, .slice xA xil xic] | 26 => xk = 11 → v_ = .agg #[.string xf, .string xt] | 27 => xk = 11 → v_ = .agg #[.string f, .string t] | 28 => xk = 11 → v_ = .bool (!(bf && bt)) | 29 => v_ = .bool (xk != 11 || !(bf && bt)) | _ => True) := ⟨_, rfl⟩
      refine wp_region_loose (Below W.heap.size W ·) (fun _ _ => True) V (by kernel_rfl) (by kernel_rfl) (by kernel_rfl) (Below.refl _ _).drew (fun _ => trivial) ?_ ?_ ?_
      · intro t v w w' hC hR h
        rw [HV.out] at h ⊢
        exact h
      · go_light
        simp only [List.forall_mem_cons]
        refine ⟨?_, ?_, ?_, ?_, ?_, ?_, ?_, ?_, ?_, fun _ h => by cases h⟩
        · intro ρ w1 hc hf hg ho hC hV
          have e9 := ho 9 (by decide)
          simp only [execOp]
          go_simp
          exact ⟨hC, trivial, (by show V 21 _ _; rw [HV.out]; exact rfl)⟩
        · intro ρ w1 hc hf hg ho hC hV
          have e21 : ρ (.tmp 21) = .pointer (some ⟨wr.heap.size + 1, 0, none⟩) := by have h := hV 21 (by decide) (by decide); rw [HV.out] at h; exact h
          have m0' := cell_below hC m0
          simp only [execOp]
          go_simp
          exact ⟨hC, trivial, (by show V 22 _ _; rw [HV.out]; exact rfl)⟩
        · intro ρ w1 hc hf hg ho hC hV
          have e22 : ρ (.tmp 22) = .int .i64 xk := by have h := hV 22 (by decide) (by decide); rw [HV.out] at h; exact h
          simp only [execOp]
          go_simp
          exact ⟨hC, trivial, (by show V 23 _ _; rw [HV.out]; exact rfl)⟩
        · intro ρ w1 hc hf hg ho hC hV
          have e23 : ρ (.tmp 23) = .bool (xk != 11) := by have h := hV 23 (by decide) (by decide); rw [HV.out] at h; exact h
          simp only [execOp]
          go_simp
          exact ⟨hC, trivial, (by show V 24 _ _; rw [HV.out]; exact rfl)⟩
        · intro ρ w1 hc hf hg ho hC hV
          refine ⟨24, _, rfl, by have h := hV 24 (by decide) (by decide); rw [HV.out] at h; exact h, ?_⟩
          split
          · rename_i hn
            have hcond : xk = 11 := by simpa using hn
            clear hn
            have e9 := ho 9 (by decide)
            have m0' := cell_below hC m0
            have m1' := cell_below hC m1
            have m2' := cell_below hC m2
            have m3' := cell_below hC m3
            have m4' := cell_below hC m4
            have m5' := cell_below hC m5
            have m6' := cell_below hC m6
            have m7' := cell_below hC m7
            have m8' := cell_below hC m8
            clear hcond
            simp only [execOp]
            go_simp
            exact ⟨hC, trivial, (by show V 25 _ _; rw [HV.out]; exact fun _ => rfl)⟩
          · rename_i hn
            show V 25 _ _; rw [HV.out]; exact fun h => absurd h (by intro h'; apply hn; simp_all)
        · intro ρ w1 hc hf hg ho hC hV
          refine ⟨24, _, rfl, by have h := hV 24 (by decide) (by decide); rw [HV.out] at h; exact h, ?_⟩
          split
          · rename_i hn
            have hcond : xk = 11 := by simpa using hn
            clear hn
            have e25 : ρ (.tmp 25) = .agg #[.int .i64 xk, .string xf, .string xe, .string xt, .int .i64 xn, .int .i64 xs, .int .i64 xu, .int .i64 xp, .slice xA xil xic] := by have h := hV 25 (by decide) (by decide); rw [HV.out] at h; exact h (by assumption)
            clear hcond
            simp only [execOp]
            go_simp
            refine (key_any ⟨xk, xf, xe, xt, xn, xs, xu, xp, xA, xil, xic⟩ w1).mono ?_
            rintro e w2 ⟨rfl, hb2⟩
            exact ⟨_, rfl, below_step hC hb2, trivial, (by show V 26 _ _; rw [HV.out]; exact fun _ => rfl)⟩
          · rename_i hn
            show V 26 _ _; rw [HV.out]; exact fun h => absurd h (by intro h'; apply hn; simp_all)
        · intro ρ w1 hc hf hg ho hC hV
          refine ⟨24, _, rfl, by have h := hV 24 (by decide) (by decide); rw [HV.out] at h; exact h, ?_⟩
          split
          · rename_i hn
            have hcond : xk = 11 := by simpa using hn
            clear hn
            have e3 := ho 3 (by decide)
            have d0' := cell_below hC d0
            have d1' := cell_below hC d1
            clear hcond
            simp only [execOp]
            go_simp
            exact ⟨hC, trivial, (by show V 27 _ _; rw [HV.out]; exact fun _ => rfl)⟩
          · rename_i hn
            show V 27 _ _; rw [HV.out]; exact fun h => absurd h (by intro h'; apply hn; simp_all)
        · intro ρ w1 hc hf hg ho hC hV
          refine ⟨24, _, rfl, by have h := hV 24 (by decide) (by decide); rw [HV.out] at h; exact h, ?_⟩
          split
          · rename_i hn
            have hcond : xk = 11 := by simpa using hn
            clear hn
            have e26 : ρ (.tmp 26) = .agg #[.string xf, .string xt] := by have h := hV 26 (by decide) (by decide); rw [HV.out] at h; exact h (by assumption)
            have e27 : ρ (.tmp 27) = .agg #[.string f, .string t] := by have h := hV 27 (by decide) (by decide); rw [HV.out] at h; exact h (by assumption)
            clear hcond
            simp only [execOp]
            cases bf <;> cases bt <;> go_simp <;> exact ⟨hC, trivial, (by show V 28 _ _; rw [HV.out]; exact fun _ => rfl)⟩
          · rename_i hn
            show V 28 _ _; rw [HV.out]; exact fun h => absurd h (by intro h'; apply hn; simp_all)
        · intro ρ w1 hc hf hg ho hC hV
          have e24 : ρ (.tmp 24) = .bool (xk != 11) := by have h := hV 24 (by decide) (by decide); rw [HV.out] at h; exact h
          by_cases h11 : xk = 11
          · have e28 : ρ (.tmp 28) = .bool (!(bf && bt)) := by have h := hV 28 (by decide) (by decide); rw [HV.out] at h; exact h h11
            have hb0 : (xk != 11) = false := by simpa using h11
            clear h11
            simp only [execOp]
            go_simp
            exact ⟨hC, trivial, (by show V 29 _ _; rw [HV.out]; show _ = Value.bool (xk != 11 || !(bf && bt)); rw [hb0]; simp)⟩
          · have hb : (xk != 11) = true := by simpa using h11
            clear h11
            simp only [execOp]
            go_simp
            exact ⟨hC, trivial, (by show V 29 _ _; rw [HV.out]; show _ = Value.bool (xk != 11 || !(bf && bt)); rw [hb]; rfl)⟩
      · intro σ w1 hC hV
        have v29 : σ 29 = .bool (xk != 11 || !(bf && bt)) := by have h := hV 29 (by decide); rw [HV.out] at h; exact h
        clear hV HV V
        dsimp only [dsts, List.filterMap, putAll, Act.put]
        have hit_is : Hid (hit f t ⟨⟨xk, xf, xe, xt, xn, xs, xu, xp, xA, xil, xic⟩, ep, now⟩ = !(xk != 11 || !(bf && bt))) := by
          unfold hit Hid
          have hbf2 := hbf
          have hbt2 := hbt
          rw [ByteArray.toList_eq, ByteArray.toList_eq] at hbf2 hbt2
          rw [hbf2, hbt2]
          simp [bne]
        have hbr : Below (w.heap.size + 1) W0 w1 := (hb.trans (hbW.mono (by omega))).trans (hC.mono (by have := hbW.size; omega))
        have hws1 : W0.heap.size ≤ w1.heap.size := Nat.le_trans hws (Nat.le_trans hbW.size hC.size)
        have hM1 : Hid (MapInt w1 (w.heap.size + 1) k st) := (hM.out.below hbW).below hC
        replace m5 := cell_below hC m5
        replace m6 := cell_below hC m6
        clear hM hbW d0 d1 m0 m1 m2 m3 m4 m7 m8 hC hbf hbt
        by_cases hbh : (xk != 11 || !(bf && bt)) = true
        · rw [hbh] at v29 hit_is
          clear hbh
          go_simp
          go_wp2
          go_roundw
          case rel =>
            refine ⟨k + 1, st, by omega, by go_num, hbr, hws1, ?_, ?_⟩
            · show statesOf f t (S.take (k + 1)) = some st
              rw [hsucc.out, hst.out, Option.bind_some, stStep, if_neg (by rw [hit_is.out]; decide)]
            · obtain ⟨D, h1, h2, h3⟩ := hM1.out
              exact ⟨D, h1.mono (Nat.le_succ _), h2, h3⟩
          case measure => simp [intOf]; omega
        · rw [Bool.not_eq_true] at hbh
          rw [hbh] at v29 hit_is
          have hitT : Hid (hit f t ⟨⟨xk, xf, xe, xt, xn, xs, xu, xp, xA, xil, xic⟩, ep, now⟩ = true) := hit_is.out
          clear hbh hit_is
          obtain ⟨D, hown, hmap, hall⟩ := hM1.out
          obtain ⟨hwu, hwsx⟩ := hwfx.out
          obtain ⟨hhas, hatk⟩ := hall xu hwu
          have hownH := Lib.hid hown
          have hmapH := Lib.hid hmap
          have hallH := Lib.hid hall
          have hwuH := Lib.hid hwu
          have hwsH := Lib.hid hwsx
          clear hM1 hown hmap hall hwu hwsx hwfx
          cases hl : look st xu with
          | none =>
            have hlH := Lib.hid hl
            rw [hl] at hhas
            have hhas' : Maps.has D (.int .i64 xu) = false := hhas
            clear hl hhas hatk
            go_simp
            go_wp2_with (first
              | (at_lookup; refine wpList_lookup_own_ok_int _ rfl _ _ 120 rfl 3 3 .i64 law3 Try.underlying120 Try.underlying3 (zero3 _) (w.heap.size + 1) k D rfl hownH.out (.int .i64 xu) _ (by rfl) (keyOf_int_mk Try.underlying3 hwuH.out) ?_; intro c0 hat hwc; clear hat hwc)
              | (at_mapUpdate; refine wpList_mapUpdate_own _ rfl _ _ _ 120 rfl 3 3 law3 Try.underlying120 _ (w.heap.size + 1) k D rfl hownH.out (by unfold maxLen; omega) (.int .i64 xu) (.int .i64 xs) _ (by rfl) (by rfl) (keyOf_int_mk Try.underlying3 hwuH.out) _ [] (plainElem_int Try.underlying3 hwsH.out) ?_; intro w2 hown1 hgrow1))
            go_roundw
            case rel =>
              refine ⟨k + 1, (xu, xs) :: st, by omega, by go_num, hbr.trans ⟨hgrow1.os, hgrow1.tape, hgrow1.output, hgrow1.size, fun i hi => hgrow1.block i (by omega) (fun e => by injection e; omega)⟩, Nat.le_trans hws1 hgrow1.size, ?_, MapInt.put (w := w2) hmapH.out hallH.out hown1⟩
              show statesOf f t (S.take (k + 1)) = some _
              rw [hsucc.out, hst.out, Option.bind_some, stStep, if_pos hitT.out, hlH.out]
              rfl
            case measure => simp [intOf]; omega
          | some s0 =>
            have hlH := Lib.hid hl
            rw [hl] at hhas hatk
            have hhas' : Maps.has D (.int .i64 xu) = true := hhas
            have hatH : Hid (D.atKey (.int .i64 xu) (.lit (.int .i64 0)) = .lit (.int .i64 s0)) := hatk
            clear hl hhas hatk
            by_cases hss : s0 = xs
            · have hsb : (s0 != xs) = false := by simpa using hss
              have hssH := Lib.hid hss
              clear hss
              go_simp
              go_wp2_with (first
                | (at_lookup; refine wpList_lookup_own_ok_int _ rfl _ _ 120 rfl 3 3 .i64 law3 Try.underlying120 Try.underlying3 (zero3 _) (w.heap.size + 1) k D rfl hownH.out (.int .i64 xu) _ (by rfl) (keyOf_int_mk Try.underlying3 hwuH.out) ?_; intro c0 hat hwc; have hc0 : c0 = s0 := (by have h := hat.symm.trans hatH.out; injection h with h; injection h); clear hat hwc)
                | (at_mapUpdate; refine wpList_mapUpdate_own _ rfl _ _ _ 120 rfl 3 3 law3 Try.underlying120 _ (w.heap.size + 1) k D rfl hownH.out (by unfold maxLen; omega) (.int .i64 xu) (.int .i64 xs) _ (by rfl) (by rfl) (keyOf_int_mk Try.underlying3 hwuH.out) _ [] (plainElem_int Try.underlying3 hwsH.out) ?_; intro w2 hown1 hgrow1))
              go_roundw
              case rel =>
                refine ⟨k + 1, (xu, xs) :: st, by omega, by go_num, hbr.trans ⟨hgrow1.os, hgrow1.tape, hgrow1.output, hgrow1.size, fun i hi => hgrow1.block i (by omega) (fun e => by injection e; omega)⟩, Nat.le_trans hws1 hgrow1.size, ?_, MapInt.put (w := w2) hmapH.out hallH.out hown1⟩
                show statesOf f t (S.take (k + 1)) = some _
                rw [hsucc.out, hst.out, Option.bind_some, stStep, if_pos hitT.out, hlH.out, hssH.out]
                simp
              case measure => simp [intOf]; omega
            · have hsb : (s0 != xs) = true := by simpa using hss
              have hnone : Hid (statesOf f t S = none) := by
                refine statesOf_none f t S (k + 1) ?_
                rw [hsucc.out, hst.out, Option.bind_some, stStep, if_pos hitT.out, hlH.out]
                simpa using hss
              clear hss
              go_simp
              go_wp2_with (at_lookup; refine wpList_lookup_own_ok_int _ rfl _ _ 120 rfl 3 3 .i64 law3 Try.underlying120 Try.underlying3 (zero3 _) (w.heap.size + 1) k D rfl hownH.out (.int .i64 xu) _ (by rfl) (keyOf_int_mk Try.underlying3 hwuH.out) ?_; intro c0 hat hwc; have hc0 : c0 = s0 := (by have h := hat.symm.trans hatH.out; injection h with h; injection h); clear hat hwc)
              go_ret2
              unfold StatesPost
              simp only [hnone.out]
              exact ⟨rfl, hb0.trans (hbr.mono (by omega))⟩
    · have hke : k = S.length := by omega
      have hfin : Hid (statesOf f t S = some st) := by
        have h := hst.out
        rw [hke, List.take_of_length_le (Nat.le_refl _)] at h
        exact h
      clear hke d0 d1
      go_wp2
      go_ret2
      unfold StatesPost
      simp only [hfin.out]
      exact ⟨⟨_, _, rfl, by omega, hM.out⟩, hb0.trans (hb.mono (by omega))⟩
end Go.Proofs.Ytbmegoemimfiaaa

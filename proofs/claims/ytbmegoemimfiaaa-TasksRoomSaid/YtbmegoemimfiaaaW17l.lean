/-
  TasksRoom: the walk.
-/
import Derived.Test.YtbmegoemimfiaaaRows
import Derived.Test.YtbmegoemimfiaaaW17k
import Derived.Test.YtbmegoemimfiaaaW17g
import Derived.IntWalk
import Derived.WalkKit
import Derived.WalkSpells
import Derived.WalkLawsBesides
import Derived.Outline
import Derived.Laws.StructEq
import Derived.Deep.Light
import Derived.Deep.QuietTactic
import Derived.BigQuiet
import Derived.Maps.OwnOps
import Derived.Maps.OwnSet
import Derived.Lib.Hide
namespace Go.Proofs.Ytbmegoemimfiaaa
open Go Go.RowKit
set_option maxRecDepth 100000
set_option linter.unusedVariables false
set_option linter.unusedSimpArgs false

attribute [local go_sem] run_store_float run_store_complex
def QSpec.sl (n : Nat) : QSpec := ⟨fun v _ => ∃ A c, v = .slice A n c, fun _ _ _ _ h => h⟩
def kaL (xs : List Int) (m : Nat) : List Int := (List.range m).map fun i => (kx xs i : Int)
def kbL (ys : List Int) (m : Nat) : List Int := (List.range m).map fun i => (ky ys i : Int)
theorem kaL_succ (xs : List Int) (m : Nat) : kaL xs (m + 1) = kaL xs m ++ [(kx xs m : Int)] := by simp [kaL, List.range_succ]
theorem kbL_succ (ys : List Int) (m : Nat) : kbL ys (m + 1) = kbL ys m ++ [(ky ys m : Int)] := by simp [kbL, List.range_succ]
theorem kaL_get (xs : List Int) (m j : Nat) (h : j < m) : (kaL xs m)[j]? = some (kx xs j : Int) := by simp [kaL, h]
theorem kbL_get (ys : List Int) (m j : Nat) (h : j < m) : (kbL ys m)[j]? = some (ky ys j : Int) := by simp [kbL, h]
theorem apart_gen {v v' v'' : Value} {H N : Nat} (h : ∀ q, v.ownBlock = some q → v'.ownBlock ≠ some q) (hlt : ∀ q, v'.ownBlock = some q → q < H) (hN : H ≤ N) (hat : v''.ownBlock = v.ownBlock ∨ v''.ownBlock = some N) : ∀ q, v''.ownBlock = some q → v'.ownBlock ≠ some q := by
  intro q hq he
  rcases hat with hat | hat
  · rw [hat] at hq
    exact h q hq he
  · rw [hat] at hq
    injection hq with hq
    have := hlt q he
    omega
theorem apart_symm {v v' : Value} (h : ∀ q, v.ownBlock = some q → v'.ownBlock ≠ some q) : ∀ q, v'.ownBlock = some q → v.ownBlock ≠ some q := fun q h1 h2 => h q h2 h1
theorem apart_or2 {v v' : Value} (h : ∀ q, v.ownBlock = some q → v'.ownBlock ≠ some q) : v'.ownBlock = none ∨ v'.ownBlock ≠ v.ownBlock := by
  rcases hv : v'.ownBlock with _ | q
  · exact .inl rfl
  · right
    intro he
    exact h q he.symm hv
def RoomRel (w : World) (xs ys : List Int) (v7 v8 v9 v10 v11 i : Value) (wr : World) : Prop := ∃ (k : Nat) (G : List Nat), k ≤ xs.length ∧ k ≤ ys.length ∧ k ≤ 8 ∧ G.length = k ∧ i = .int .i64 k ∧ v8 = .int .i64 (sm (kx xs) k : Nat) ∧ v9 = .int .i64 (sm (ky ys) k : Nat) ∧ Below w.heap.size w wr ∧
  wr.ownsRow w.heap.size 52 4 v7 k ((entsR xs ys G).flatMap Entry.cells) ∧ LaidR wr xs ys G ∧ wr.ownsRow w.heap.size 3 1 v10 k ((kaL xs k).map (Value.int .i64)) ∧ wr.ownsRow w.heap.size 3 1 v11 k ((kbL ys k).map (Value.int .i64)) ∧ ∀ q, v10.ownBlock = some q → v11.ownBlock ≠ some q
theorem rowsKR (A : Option Addr) (c : Nat) (xs ys : List Int) (G : List Nat) (k : Nat) (hG : G.length = k) (hk : k ≤ 8) (w : World) (hL : EntriesAt w A (entsR xs ys G)) :
    Calls Try.prog 20 #[.slice A k c] w fun e w' => ∃ v, e = .returned v ∧ w'.ownsRow w.heap.size 62 5 v k ((rowsR xs ys k).flatMap RowT.cells) ∧ Below w.heap.size w w' := by
  have h := rows_any A c (entsR xs ys G) (by rw [entsR_length]; omega) (by rw [rows_entsR, rowsR_length]; omega) w hL
  rw [rows_entsR, rowsR_length, entsR_length, hG] at h
  exact h
theorem usedAll (A : Option Addr) (c : Nat) (xs ys : List Int) (k : Nat) (hk : k ≤ 8) (w : World) (hL : RowOf RowT.cells 5 w A (rowsR xs ys k)) :
    Calls Try.prog 21 #[.slice A k c, .func (.func 22) #[] #[]] w fun e w' => e = .returned (.complex .f64 (fz (sm (kx xs) k : Nat)) (fz (sm (ky ys) k : Nat))) ∧ Below w.heap.size w w' := by
  have h := used_any A c (rowsR xs ys k) (rowsR xs ys k) (by rw [rowsR_length]; omega) 22 #[] _ _ _ tells22 (fun _ _ => trivial) (filter_all xs ys k) _ (sum_rows xs ys (List.range k) (by rw [List.length_range]; exact hk)) w trivial hL
  rw [rowsR_length] at h
  exact h
theorem usedBut (A : Option Addr) (c : Nat) (xs ys : List Int) (k kk gk : Nat) (hk : k ≤ 8) (hkk : kk < k) (w : World) (hJ : w.cell? ⟨gk, 0, none⟩ = some (.int .i64 kk)) (hL : RowOf RowT.cells 5 w A (rowsR xs ys k)) :
    Calls Try.prog 21 #[.slice A k c, .func (.func 24) #[] #[.pointer (some ⟨gk, 0, none⟩)]] w fun e w' => e = .returned (.complex .f64 (fz ((((but k kk).map (kx xs)).sum : Nat) : Int)) (fz ((((but k kk).map (ky ys)).sum : Nat) : Int))) ∧ Below w.heap.size w w' := by
  have h := used_any A c (rowsR xs ys k) ((but k kk).map (rowR xs ys)) (by rw [rowsR_length]; omega) 24 #[.pointer (some ⟨gk, 0, none⟩)] _ _ _ (tells24 gk kk (by omega)) (fun _ _ => trivial) (filter_but xs ys k kk hk hkk) _ (sum_rows xs ys (but k kk) (by rw [but_length k kk hkk]; omega)) w hJ hL
  rw [rowsR_length] at h
  exact h
theorem openR (A : Option Addr) (c : Nat) (xs ys : List Int) (k kk gk : Nat) (hk : k ≤ 8) (hkk : kk < k) (w : World) (hJ : w.cell? ⟨gk, 0, none⟩ = some (.int .i64 kk)) (hL : RowOf RowT.cells 5 w A (rowsR xs ys k)) :
    Calls Try.prog 26 #[.slice A k c, .func (.func 24) #[] #[.pointer (some ⟨gk, 0, none⟩)]] w fun e w' => ∃ A2 c2, e = .returned (.slice A2 (k - 1) c2) ∧ Below w.heap.size w w' := by
  have h := open_any A c (rowsR xs ys k) (by rw [rowsR_length]; omega) 24 #[.pointer (some ⟨gk, 0, none⟩)] _ _ _ (tells24 gk kk (by omega)) (fun _ _ => trivial) w hJ hL
  rw [rowsR_length, ← filter_but xs ys k kk hk hkk] at h
  refine h.mono ?_
  rintro e w' ⟨v, rfl, hown, hb⟩
  obtain ⟨A2, c2, hv⟩ := own_slice hown
  subst hv
  rw [List.length_map, but_length k kk hkk]
  exact ⟨A2, c2, rfl, hb⟩
theorem le0 : (leB 0 0 && leB 0 0) = true := by kernel_rfl
set_option maxHeartbeats 100000000 in
theorem tasksRoom_walk (A1 : Option Addr) (c1 : Nat) (xs : List Int) (A2 : Option Addr) (c2 : Nat) (ys : List Int) (v : Int) (w : World) (hz1 : IntsIn w A1 xs) (hz2 : IntsIn w A2 ys) :
    Calls Try.prog 4 #[.slice A1 xs.length c1, .slice A2 ys.length c2, .int .i64 v] w fun e w' => e = .returned (.bool true) ∧ Below w.heap.size w w' := by
  have HZ1 := Lib.hid hz1
  have HZ2 := Lib.hid hz2
  clear hz1 hz2
  go_enter Try.func4, Try.ntmps4
  go_wp2_with fail
  go_loopw [7, 8, 9, 10, 11, 12] (fun v7 v8 v9 v10 v11 i wr => RoomRel w xs ys v7 v8 v9 v10 v11 i wr) (fun _ _ _ _ _ i _ => 8 - (intOf i).toNat)
  case atStart => exact ⟨0, [], Nat.zero_le _, Nat.zero_le _, Nat.zero_le _, rfl, rfl, rfl, rfl, Below.refl _ _, World.ownsRow_nil _ _ _ _, LaidR.nil _ _ _, World.ownsRow_nil _ _ _ _, World.ownsRow_nil _ _ _ _, fun q hq => by simp [Value.ownBlock] at hq⟩
  case round =>
    obtain ⟨k, G, hk1, hk2, hk8, hGl, rfl, rfl, rfl, hb, hown7, hlaid, hown10, hown11, hap⟩ := hrel
    obtain ⟨A7, c7, hv⟩ := own_slice hown7
    subst hv
    obtain ⟨A10, c10, hv⟩ := own_slice hown10
    subst hv
    obtain ⟨A11, c11, hv⟩ := own_slice hown11
    subst hv
    have own7 := Lib.hid hown7
    have own10 := Lib.hid hown10
    have own11 := Lib.hid hown11
    have hlaidH := Lib.hid hlaid
    have hGlH := Lib.hid hGl
    have hapH := Lib.hid hap
    clear hown7 hown10 hown11 hlaid hGl hap
    have hSb := sm_le (kx xs) 100 (fun i => by have := kx_lt xs i; omega) k
    have hTb := sm_le (ky ys) 100 (fun i => (ky_lt ys i).2) k
    obtain ⟨S, hS⟩ : ∃ S, S = sm (kx xs) k := ⟨_, rfl⟩
    obtain ⟨T, hT⟩ : ∃ T, T = sm (ky ys) k := ⟨_, rfl⟩
    rw [← hS] at hSb ⊢
    rw [← hT] at hTb ⊢
    have hSH := Lib.hid hS
    have hTH := Lib.hid hT
    clear hS hT
    by_cases hlt : k < xs.length ∧ k < ys.length ∧ k < 8
    · obtain ⟨hlt1, hlt2, hlt3⟩ := hlt
      obtain ⟨b1, o1, hA1, hc1⟩ := HZ1.out (by omega)
      obtain ⟨b2, o2, hA2, hc2⟩ := HZ2.out (by omega)
      subst hA1
      subst hA2
      have cz1 := cell_below hb (hc1 k hlt1)
      have cz2 := cell_below hb (hc2 k hlt2)
      have hXb := kx_lt xs k
      have hYb := ky_lt ys k
      obtain ⟨X, hX'⟩ : ∃ X, X = kx xs k := ⟨_, rfl⟩
      obtain ⟨Y, hY'⟩ : ∃ Y, Y = ky ys k := ⟨_, rfl⟩
      obtain ⟨z1, hz1⟩ : ∃ z1, z1 = xs.getD k 0 := ⟨_, rfl⟩
      obtain ⟨z2, hz2⟩ : ∃ z2, z2 = ys.getD k 0 := ⟨_, rfl⟩
      have hX : Hid ((X : Int) = z1 % 100) := by show (X : Int) = _; rw [hX', hz1]; exact kx_int xs k
      have hY : Hid ((Y : Int) = 1 + z2 % 100) := by show (Y : Int) = _; rw [hY', hz2]; exact ky_int ys k
      rw [← hX'] at hXb
      rw [← hY'] at hYb
      rw [← hz1] at cz1
      rw [← hz2] at cz2
      have hXH := Lib.hid hX'
      have hYH := Lib.hid hY'
      have hm0 : 0 ≤ z2 % 100 := Int.emod_nonneg z2 (by omega)
      have hm1 : z2 % 100 < 100 := Int.emod_lt_of_pos z2 (by omega)
      have hwr : Hid (IntKind.i64.wrap (1 + z2 % 100) = 1 + z2 % 100) := IntWalk.i64_in _ (by omega)
      obtain ⟨hY1, hY2⟩ := hYb
      clear hX' hY' hz1 hz2 hc1 hc2
      go_wp2_with fail
      obtain ⟨V, HV⟩ : ∃ V : Tmp → Value → World → Prop, Hid (V = fun sl_ v_ w_ => match sl_ with | 13 => v_ = .int .i64 X | 14 => v_ = .int .i64 Y | 37 => v_ = .slice (some ⟨b1, o1, none⟩) xs.length c1 | 38 => v_ = .int .i64 k | 39 => v_ = .pointer (some ⟨b1, o1 + k, none⟩) | 40 => v_ = .int .i64 z1 | 41 => v_ = .int .i64 X | 42 => v_ = .slice (some ⟨b2, o2, none⟩) ys.length c2 | 43 => v_ = .int .i64 k | 44 => v_ = .pointer (some ⟨b2, o2 + k, none⟩) | 45 => v_ = .int .i64 z2 | 46 => v_ = .int .i64 (z2 % 100) | 47 => v_ = .int .i64 Y | _ => True) := ⟨_, rfl⟩
      refine wp_region_loose (Below wr.heap.size wr ·) (fun w_ w_2 => Below w_.heap.size w_ w_2) V (by kernel_rfl) (by kernel_rfl) (by kernel_rfl) (Below.refl _ _).drew (fun w_ => Below.refl _ _) ?_ ?_ ?_
      · intro t v w w' hC hR h
        rw [HV.out] at h ⊢
        exact h
      · go_light
        simp only [List.forall_mem_cons]
        refine ⟨?_, ?_, ?_, ?_, ?_, ?_, ?_, ?_, ?_, ?_, ?_, ?_, ?_, fun _ h => by cases h⟩
        · intro ρ w1 hc hf hg ho hC hV
          have e0 := ho 0 (by decide)
          simp only [execOp]
          go_simp
          exact ⟨hC, Below.refl _ _, (by show V 37 _ _; rw [HV.out]; exact rfl)⟩
        · intro ρ w1 hc hf hg ho hC hV
          have e12 := ho 12 (by decide)
          simp only [execOp]
          go_simp
          exact ⟨hC, Below.refl _ _, (by show V 38 _ _; rw [HV.out]; exact rfl)⟩
        · intro ρ w1 hc hf hg ho hC hV
          have e37 : ρ (.tmp 37) = .slice (some ⟨b1, o1, none⟩) xs.length c1 := by have h := hV 37 (by decide) (by decide); rw [HV.out] at h; exact h
          have e38 : ρ (.tmp 38) = .int .i64 k := by have h := hV 38 (by decide) (by decide); rw [HV.out] at h; exact h
          simp only [execOp]
          go_simp
          exact ⟨hC, Below.refl _ _, (by show V 39 _ _; rw [HV.out]; exact rfl)⟩
        · intro ρ w1 hc hf hg ho hC hV
          have e39 : ρ (.tmp 39) = .pointer (some ⟨b1, o1 + k, none⟩) := by have h := hV 39 (by decide) (by decide); rw [HV.out] at h; exact h
          have cz1' := cell_below hC cz1
          simp only [execOp]
          go_simp
          exact ⟨hC, Below.refl _ _, (by show V 40 _ _; rw [HV.out]; exact rfl)⟩
        · intro ρ w1 hc hf hg ho hC hV
          have e40 : ρ (.tmp 40) = .int .i64 z1 := by have h := hV 40 (by decide) (by decide); rw [HV.out] at h; exact h
          simp only [execOp]
          go_simp
          refine (within18 z1 100 (by omega) (by omega) w1).mono ?_
          rintro e w2 ⟨rfl, rfl⟩
          exact ⟨_, rfl, hC, Below.refl _ _, (by show V 41 _ _; rw [HV.out]; exact congrArg (Value.int .i64) hX.out.symm)⟩
        · intro ρ w1 hc hf hg ho hC hV
          have e1 := ho 1 (by decide)
          simp only [execOp]
          go_simp
          exact ⟨hC, Below.refl _ _, (by show V 42 _ _; rw [HV.out]; exact rfl)⟩
        · intro ρ w1 hc hf hg ho hC hV
          have e12 := ho 12 (by decide)
          simp only [execOp]
          go_simp
          exact ⟨hC, Below.refl _ _, (by show V 43 _ _; rw [HV.out]; exact rfl)⟩
        · intro ρ w1 hc hf hg ho hC hV
          have e42 : ρ (.tmp 42) = .slice (some ⟨b2, o2, none⟩) ys.length c2 := by have h := hV 42 (by decide) (by decide); rw [HV.out] at h; exact h
          have e43 : ρ (.tmp 43) = .int .i64 k := by have h := hV 43 (by decide) (by decide); rw [HV.out] at h; exact h
          simp only [execOp]
          go_simp
          exact ⟨hC, Below.refl _ _, (by show V 44 _ _; rw [HV.out]; exact rfl)⟩
        · intro ρ w1 hc hf hg ho hC hV
          have e44 : ρ (.tmp 44) = .pointer (some ⟨b2, o2 + k, none⟩) := by have h := hV 44 (by decide) (by decide); rw [HV.out] at h; exact h
          have cz2' := cell_below hC cz2
          simp only [execOp]
          go_simp
          exact ⟨hC, Below.refl _ _, (by show V 45 _ _; rw [HV.out]; exact rfl)⟩
        · intro ρ w1 hc hf hg ho hC hV
          have e45 : ρ (.tmp 45) = .int .i64 z2 := by have h := hV 45 (by decide) (by decide); rw [HV.out] at h; exact h
          simp only [execOp]
          go_simp
          refine (within18 z2 100 (by omega) (by omega) w1).mono ?_
          rintro e w2 ⟨rfl, rfl⟩
          exact ⟨_, rfl, hC, Below.refl _ _, (by show V 46 _ _; rw [HV.out]; exact rfl)⟩
        · intro ρ w1 hc hf hg ho hC hV
          have e46 : ρ (.tmp 46) = .int .i64 (z2 % 100) := by have h := hV 46 (by decide) (by decide); rw [HV.out] at h; exact h
          simp only [execOp]
          go_simp
          exact ⟨hC, Below.refl _ _, (by show V 47 _ _; rw [HV.out]; exact congrArg (Value.int .i64) (hwr.out.trans hY.out.symm))⟩
        · intro ρ w1 hc hf hg ho hC hV
          have e41 : ρ (.tmp 41) = .int .i64 X := by have h := hV 41 (by decide) (by decide); rw [HV.out] at h; exact h
          simp only [execOp]
          go_simp
          exact ⟨hC, Below.refl _ _, (by show V 13 _ _; rw [HV.out]; exact rfl)⟩
        · intro ρ w1 hc hf hg ho hC hV
          have e47 : ρ (.tmp 47) = .int .i64 Y := by have h := hV 47 (by decide) (by decide); rw [HV.out] at h; exact h
          simp only [execOp]
          go_simp
          exact ⟨hC, Below.refl _ _, (by show V 14 _ _; rw [HV.out]; exact rfl)⟩
      · intro σ w1 hC hV
        have v13 : σ 13 = .int .i64 X := by have h := hV 13 (by decide); rw [HV.out] at h; exact h
        have v14 : σ 14 = .int .i64 Y := by have h := hV 14 (by decide); rw [HV.out] at h; exact h
        clear hV HV V
        dsimp only [dsts, List.filterMap, putAll, Act.put]
        have hb1 := below_step hb hC
        have own7a := Lib.hid (own_below own7.out hC)
        have own10a := Lib.hid (own_below own10.out hC)
        have own11a := Lib.hid (own_below own11.out hC)
        have hlaida := Lib.hid (hlaidH.out.below hC)
        have hw1 : w.heap.size ≤ w1.heap.size := below_size hb1
        clear hC hb own7 own10 own11 hlaidH cz1 cz2 hm0 hm1
        rw [v13, v14]
        clear v13 v14
        go_simp
        go_upto_region 10 with (first | (at_builtin; refine app_at (w0 := w) w1.heap.size rfl w.heap.size rfl (.tmp 48) (.tmp 50) 22 3 (.int .i64 0) 1 8 rfl Try.underlying22 info3 rfl (by decide) (by decide) (.slice A10 k c10) k ((kaL xs k).map (Value.int .i64)) [.int .i64 X] (by rfl) (by rfl) rfl (by simp [Value.oneCell']) own10a.out hb1 hw1 (by omega) ?_; intro v10n w5 hown5 hb5 hg5 hat5; have own11b := Lib.hid (own11a.out.kept hg5 (apart_or2 hapH.out)); have hw5 : w.heap.size ≤ w5.heap.size := below_size hb5; have hg5H := Lib.hid hg5; have hat5H := Lib.hid hat5; have hown5H := Lib.hid hown5; clear hg5 hat5 hown5) | (at_builtin; refine app_at (w0 := w) w5.heap.size rfl w.heap.size rfl (.tmp 52) (.tmp 54) 22 3 (.int .i64 0) 1 8 rfl Try.underlying22 info3 rfl (by decide) (by decide) (.slice A11 k c11) k ((kbL ys k).map (Value.int .i64)) [.int .i64 Y] (by rfl) (by rfl) rfl (by simp [Value.oneCell']) own11b.out hb5 hw5 (by omega) ?_; intro v11n w6 hown6 hb6 hg6 hat6; have hg6H := Lib.hid hg6; have hat6H := Lib.hid hat6; have hown6H := Lib.hid hown6; clear hg6 hat6 hown6))
        have hap1 := apart_gen hapH.out (H := w1.heap.size) (N := w1.heap.size + 1) (fun q hq => (own11a.out.lt q hq).2) (by omega) hat5H.out
        have own10c : Hid (w6.ownsRow w.heap.size 3 1 v10n (k + 1) ( ((kaL xs k).map (Value.int .i64)) ++ [.int .i64 X])) := hown5H.out.kept hg6H.out (apart_or2 (apart_symm hap1))
        have hap2 : Hid (∀ q, v10n.ownBlock = some q → v11n.ownBlock ≠ some q) := apart_symm (apart_gen (apart_symm hap1) (H := w5.heap.size) (N := w5.heap.size + 1) (fun q hq => (hown5H.out.lt q hq).2) (by omega) hat6H.out)
        have own7b : w5.ownsRow w.heap.size 52 4 (.slice A7 k c7) k ((entsR xs ys G).flatMap Entry.cells) := own7a.out.kept hg5H.out (own_apart' own7a.out own10a.out (by decide))
        have own7c : Hid (w6.ownsRow w.heap.size 52 4 (.slice A7 k c7) k ((entsR xs ys G).flatMap Entry.cells)) := own7b.kept hg6H.out (own_apart' own7b own11b.out (by decide))
        have hlaidc : Hid (LaidR w6 xs ys G) := fun i g hg => blk_grown (blk_grown (hlaida.out i g hg) own10a.out (by decide) hg5H.out) own11b.out (by decide) hg6H.out
        have hw6 : w.heap.size ≤ w6.heap.size := below_size hb6
        clear own7a own10a own11a hlaida hb1 hw1 own11b hw5 hg5H hat5H hown5H hg6H hat6H hap1 own7b hb5 hapH
        go_wp2_with (at_builtin; refine app_at (w0 := w) (w6.heap.size + 1) (by simp) w.heap.size rfl _ _ 46 52 (.agg #[.string ⟨#[]⟩, .string ⟨#[]⟩, .int .i64 0, .slice none 0 0]) 4 64 rfl Try.underlying46 info52 rfl (by decide) (by decide) (.slice A7 k c7) k ((entsR xs ys G).flatMap Entry.cells) [.string ⟨#[102]⟩, .string ⟨#[120]⟩, .int .i64 (1 + (k : Int) % 2), .slice (some ⟨w6.heap.size, 0, none⟩) 1 1] (by rfl) (by rfl) rfl (by simp [Value.oneCell']) (own7c.out.alloc _) (below_alloc hb6 _) (below_size (below_alloc hb6 _)) (by omega) ?_; intro v7n w9 hown9 hb9 hg9 hat9)
        go_roundw
        case rel =>
          have hold : ∀ (g : Nat) (ob : Array Value), w6.heap[g]? = some (.cells ob 50 (0, 0)) → w9.heap[g]? = some (.cells ob 50 (0, 0)) := fun g ob hg => blk_grown (blk_below hg (below_alloc (Below.refl _ _) _)) (own7c.out.alloc _) (by decide) hg9
          have hnew := blk_grown (heap_alloc_new w6 _) (own7c.out.alloc _) (by decide) hg9
          have own10d := (own10c.out.alloc _).kept hg9 (own_apart' own10c.out own7c.out (by decide))
          have own11d := (hown6H.out.alloc _).kept hg9 (own_apart' hown6H.out own7c.out (by decide))
          refine ⟨k + 1, G ++ [w6.heap.size], by omega, by omega, by omega, by simp [hGlH.out], by go_num, ?_, ?_, hb9, ?_, ?_, ?_, ?_, hap2.out⟩
          · rw [sm_succ, ← hSH.out, ← hXH.out]; go_num
          · rw [sm_succ, ← hTH.out, ← hYH.out]; go_num
          · rw [entsR_snoc, flat_snoc, hGlH.out]; exact hown9
          · refine LaidR.snoc (fun i g hg => hold g _ (hlaidc.out i g hg)) ?_
            rw [hGlH.out]
            unfold itR
            rw [← hXH.out, ← hYH.out, ← oneR_lt k hlt3]
            exact hnew
          · rw [kaL_succ, List.map_append, ← hXH.out]; exact own10d
          · rw [kbL_succ, List.map_append, ← hYH.out]; exact own11d
        case measure => simp [intOf]; omega
    · obtain ⟨wo, rfl⟩ : ∃ wo : World, wo = wr := ⟨_, rfl⟩
      have hent : Hid (EntriesAt wo A7 (entsR xs ys G)) := ⟨(own_rowOf (cells := Entry.cells) (fun _ => rfl) (by decide) own7.out).2, hlaidH.out.items⟩
      clear own7 hlaidH hapH
      by_cases hx : k < xs.length
      · by_cases hy : k < ys.length
        · have h8 : ¬ k < 8 := fun h => hlt ⟨hx, hy, h⟩
          clear hlt
          go_wp2_with fail
          refine (rowsKR A7 c7 xs ys G k hGlH.out hk8 wo hent.out).mono ?_
          rintro e x1 ⟨v15, rfl, hown15, hx1⟩
          obtain ⟨A15, c15, hv⟩ := own_slice hown15
          subst hv
          have hrow15 := Lib.hid (own_rowOf (cells := RowT.cells) (fun _ => rfl) (by decide) hown15).2
          have own10a := Lib.hid (own_below own10.out hx1)
          have own11a := Lib.hid (own_below own11.out hx1)
          have hbx1 := below_step hb hx1
          clear hown15 own10 own11 hb hent hx1
          have qs : Hid ((FloatKind.f64.format.order (fz S) (fz S) == some .eq) = true) := selfEq_fz S (by omega)
          have qt : Hid ((FloatKind.f64.format.order (fz T) (fz T) == some .eq) = true) := selfEq_fz T (by omega)
          have hU := Lib.hid (usedAll A15 c15 xs ys k hk8 x1 hrow15.out)
          rw [← hSH.out, ← hTH.out] at hU
          go_wp2_with fail
          refine hU.out.mono ?_
          clear hU
          rintro e x2 ⟨rfl, hx2⟩
          have hbx2 := below_step hbx1 hx2
          have hrow15a := Lib.hid (hrow15.out.below hx2)
          have own10b := Lib.hid (own_below own10a.out hx2)
          have own11b := Lib.hid (own_below own11a.out hx2)
          clear hbx1 hx2 hrow15 own10a own11a
          have f1 : floatOfInt .f64 (S : Int) = fz S := rfl
          have f2 : floatOfInt .f64 (T : Int) = fz T := rfl
          have qs' := qs.out
          have qt' := qt.out
          by_cases hk0 : k = 0
          · subst hk0
            go_wp2_with fail
            refine (wakes17 x2).mono ?_
            rintro e x3 ⟨rfl, hx3⟩
            go_wp2
            go_ret
            exact ⟨rfl, below_step hbx2 hx3⟩
          · have hk0' : ((k : Int) == 0) = false := by rw [beq_eq_false_iff_ne]; omega
            clear hk0
            have hkp : 1 ≤ k := by
              have := beq_eq_false_iff_ne.1 hk0'
              omega
            have hm0 : 0 ≤ v % (k : Int) := Int.emod_nonneg v (by omega)
            have hm1 : v % (k : Int) < k := Int.emod_lt_of_pos v (by omega)
            go_wp2_with fail
            refine (within18 v k (by omega) (by omega) x2).mono ?_
            rintro e x3 ⟨rfl, rfl⟩
            obtain ⟨kk, hkk'⟩ : ∃ kk : Nat, v % (k : Int) = (kk : Int) := ⟨(v % (k : Int)).toNat, by omega⟩
            rw [hkk']
            have hkk : kk < k := by omega
            clear hkk' hm0 hm1 qs' qt' f1 f2
            obtain ⟨x2, hx2⟩ : ∃ x, x = x2 := ⟨_, rfl⟩
            rw [← hx2]
            rw [← hx2] at hbx2 hrow15a own10b own11b
            clear hx2
            go_upto_region 18 with (fail)
            generalize hW : x2.alloc _ = x3
            have ck : x3.cell? ⟨x2.heap.size, 0, none⟩ = some (.int .i64 kk) := by rw [← hW, cell_new]; rfl
            have hx3 : Below x2.heap.size x2 x3 := by rw [← hW]; exact below_alloc (Below.refl _ _) _
            have hbx3 := below_step hbx2 hx3
            have hrow15 := Lib.hid (hrow15a.out.below hx3)
            have own10c := Lib.hid (own_below own10b.out hx3)
            have own11c := Lib.hid (own_below own11b.out hx3)
            clear hW hbx2 hx3 hrow15a own10b own11b
            obtain ⟨gk, hgk⟩ : ∃ g, g = x2.heap.size := ⟨_, rfl⟩
            rw [← hgk] at ck ⊢
            clear hgk
            have hU := Lib.hid (usedBut A15 c15 xs ys k kk gk hk8 hkk x3 ck hrow15.out)
            have hs1 := but_sum (kx xs) k kk
            have ht1 := but_sum (ky ys) k kk
            rw [if_pos hkk, ← hSH.out] at hs1
            rw [if_pos hkk, ← hTH.out] at ht1
            obtain ⟨S1, hS1'⟩ : ∃ S1, S1 = ((but k kk).map (kx xs)).sum := ⟨_, rfl⟩
            obtain ⟨T1, hT1'⟩ : ∃ T1, T1 = ((but k kk).map (ky ys)).sum := ⟨_, rfl⟩
            rw [← hS1'] at hU hs1
            rw [← hT1'] at hU ht1
            have hXb := kx_lt xs kk
            have hYb := ky_lt ys kk
            obtain ⟨X, hX'⟩ : ∃ X, X = kx xs kk := ⟨_, rfl⟩
            obtain ⟨Y, hY'⟩ : ∃ Y, Y = ky ys kk := ⟨_, rfl⟩
            rw [← hX'] at hXb hs1
            rw [← hY'] at hYb ht1
            have hgetA := kaL_get xs k kk hkk
            have hgetB := kbL_get ys k kk hkk
            rw [← hX'] at hgetA
            rw [← hY'] at hgetB
            obtain ⟨hla, hra⟩ := own_introw own10c.out
            obtain ⟨hlb, hrb⟩ := own_introw own11c.out
            obtain ⟨ga, oa, hAa, hca⟩ := hra (by omega)
            obtain ⟨gb, ob, hAb, hcb⟩ := hrb (by omega)
            subst hAa
            subst hAb
            have ca : x3.cell? ⟨ga, oa + kk, none⟩ = some (.int .i64 X) := by have := hca kk _ hgetA 0 _ rfl; simpa using this
            have cb : x3.cell? ⟨gb, ob + kk, none⟩ = some (.int .i64 Y) := by have := hcb kk _ hgetB 0 _ rfl; simpa using this
            have hS1 : Hid (IntKind.i64.wrap ((S : Int) - X) = (S1 : Int)) := by
              show _ = _
              rw [IntWalk.i64_in _ (by omega)]
              omega
            have hT1 : Hid (IntKind.i64.wrap ((T : Int) - Y) = (T1 : Int)) := by
              show _ = _
              rw [IntWalk.i64_in _ (by omega)]
              omega
            have hk1w : Hid (IntKind.i64.wrap ((k : Int) - 1) = ((k - 1 : Nat) : Int)) := by
              show _ = _
              rw [IntWalk.i64_in _ (by omega)]
              omega
            have hfit : Hid (sumGo (0, 0) ((fz S1, fz T1) :: [(⟨⟨#[122]⟩, fz X, fz Y⟩ : Item)].map Item.cx) = some (fz S, fz T)) := by
              have h := fit_sum S1 T1 X Y (by omega) (by omega) ⟨#[122]⟩
              rw [show S1 + X = S by omega, show T1 + Y = T by omega] at h
              exact h
            obtain ⟨S9, hS9⟩ : ∃ S9, S9 = S - 1 := ⟨_, rfl⟩
            obtain ⟨T9, hT9⟩ : ∃ T9, T9 = T - 1 := ⟨_, rfl⟩
            have le1 : Hid ((leB (fz S) (fz S) && leB (fz T) (fz T)) = true) := by
              show _ = _
              rw [leB_fz _ _ (by omega) (by omega), leB_fz _ _ (by omega) (by omega)]
              simp
            have le2 : Hid ((leB (fz S) (fz S) && leB (fz T) (fz T9)) = false) := by
              show _ = _
              rw [leB_fz _ _ (by omega) (by omega), leB_fz T T9 (by omega) (by omega), decide_eq_false (show ¬ T ≤ T9 by omega)]
              simp
            have hsub1 : Hid (∀ w, (binOp .sub 47 (.complex .f64 (fz S) (fz T)) (.complex .f64 0 4607182418800017408)).run Try.prog w = .ok (.complex .f64 (fz S) (fz T9)) w) := by
              intro w
              have h := sub_fz S T 0 1 (by omega) (by omega) (by omega) (by omega)
              rw [show ((0 : Nat) : Int) = 0 from rfl, show ((1 : Nat) : Int) = 1 from rfl, fz_zero, fz_one, Nat.sub_zero, ← hT9] at h
              exact run_complex_sum w .sub (.inr rfl) 47 .f64 _ _ _ _ _ _ h
            obtain ⟨hYb1, hYb2⟩ := hYb
            have hS9H := Lib.hid hS9
            have hS1b : S1 ≤ S := by omega
            have hT1b : T1 ≤ T := by omega
            clear hS9 hT9 hs1 ht1 own10c own11c hra hrb hca hcb hgetA hgetB hS1' hT1' hX' hY' hla hlb
            go_wp2_with fail
            refine hU.out.mono ?_
            clear hU
            rintro e x4 ⟨rfl, hx4⟩
            have hbx4 := below_step hbx3 hx4
            replace ck := cell_below hx4 ck
            replace ca := cell_below hx4 ca
            replace cb := cell_below hx4 cb
            have hrow15b := Lib.hid (hrow15.out.below hx4)
            clear hbx3 hx4 hrow15
            go_wp2_with fail
            obtain ⟨x5, hx5⟩ : ∃ x, x = x4 := ⟨_, rfl⟩
            rw [← hx5]
            rw [← hx5] at hbx4 ck ca cb hrow15b
            clear hx5
            obtain ⟨V, HV⟩ : ∃ V : Tmp → Value → World → Prop, Hid (V = fun sl_ v_ w_ => QSpec.holds (match sl_ with | 19 => .row 1 50 [.string ⟨#[122]⟩, .complex .f64 (fz X) (fz Y)] | 108 => .det (.slice (some ⟨ga, oa, none⟩) k c10) | 109 => .det (.int .i64 kk) | 110 => .det (.pointer (some ⟨ga, oa + kk, none⟩)) | 111 => .det (.int .i64 X) | 112 => .det (.float .f64 (fz X)) | 113 => .det (.slice (some ⟨gb, ob, none⟩) k c11) | 114 => .det (.int .i64 kk) | 115 => .det (.pointer (some ⟨gb, ob + kk, none⟩)) | 116 => .det (.int .i64 Y) | 117 => .det (.float .f64 (fz Y)) | 118 => .det (.complex .f64 (fz X) (fz Y)) | 119 => .det (.agg #[.string ⟨#[122]⟩, .complex .f64 (fz X) (fz Y)]) | 120 => .row 1 50 [.string ⟨#[122]⟩, .complex .f64 (fz X) (fz Y)] | _ => .any) v_ w_) := ⟨_, rfl⟩
            refine wp_region_loose (Below x5.heap.size x5 ·) (fun w_ w_2 => Below w_.heap.size w_ w_2) V (by kernel_rfl) (by kernel_rfl) (by kernel_rfl) (Below.refl _ _).drew (fun w_ => Below.refl _ _) ?_ ?_ ?_
            · intro t v w w' hC hR h
              rw [HV.out] at h ⊢
              exact QSpec.mono hR _ _ h
            · go_light
              simp only [List.forall_mem_cons]
              refine ⟨?_, ?_, ?_, ?_, ?_, ?_, ?_, ?_, ?_, ?_, ?_, ?_, ?_, ?_, fun _ h => by cases h⟩
              · intro ρ w1 hc hf hg ho hC hV
                have e10 := ho 10 (by decide)
                simp only [execOp]
                go_simp
                exact ⟨hC, Below.refl _ _, (by show V 108 _ _; rw [HV.out]; exact rfl)⟩
              · intro ρ w1 hc hf hg ho hC hV
                have e16 := ho 16 (by decide)
                have ck' := cell_below hC ck
                simp only [execOp]
                go_simp
                exact ⟨hC, Below.refl _ _, (by show V 109 _ _; rw [HV.out]; exact rfl)⟩
              · intro ρ w1 hc hf hg ho hC hV
                have e108 : ρ (.tmp 108) = .slice (some ⟨ga, oa, none⟩) k c10 := by have h := hV 108 (by decide) (by decide); rw [HV.out] at h; exact h
                have e109 : ρ (.tmp 109) = .int .i64 kk := by have h := hV 109 (by decide) (by decide); rw [HV.out] at h; exact h
                simp only [execOp]
                go_simp
                exact ⟨hC, Below.refl _ _, (by show V 110 _ _; rw [HV.out]; exact rfl)⟩
              · intro ρ w1 hc hf hg ho hC hV
                have e110 : ρ (.tmp 110) = .pointer (some ⟨ga, oa + kk, none⟩) := by have h := hV 110 (by decide) (by decide); rw [HV.out] at h; exact h
                have ca' := cell_below hC ca
                simp only [execOp]
                go_simp
                exact ⟨hC, Below.refl _ _, (by show V 111 _ _; rw [HV.out]; exact rfl)⟩
              · intro ρ w1 hc hf hg ho hC hV
                have e111 : ρ (.tmp 111) = .int .i64 X := by have h := hV 111 (by decide) (by decide); rw [HV.out] at h; exact h
                simp only [execOp]
                go_simp
                exact ⟨hC, Below.refl _ _, (by show V 112 _ _; rw [HV.out]; exact rfl)⟩
              · intro ρ w1 hc hf hg ho hC hV
                have e11 := ho 11 (by decide)
                simp only [execOp]
                go_simp
                exact ⟨hC, Below.refl _ _, (by show V 113 _ _; rw [HV.out]; exact rfl)⟩
              · intro ρ w1 hc hf hg ho hC hV
                have e16 := ho 16 (by decide)
                have ck' := cell_below hC ck
                simp only [execOp]
                go_simp
                exact ⟨hC, Below.refl _ _, (by show V 114 _ _; rw [HV.out]; exact rfl)⟩
              · intro ρ w1 hc hf hg ho hC hV
                have e113 : ρ (.tmp 113) = .slice (some ⟨gb, ob, none⟩) k c11 := by have h := hV 113 (by decide) (by decide); rw [HV.out] at h; exact h
                have e114 : ρ (.tmp 114) = .int .i64 kk := by have h := hV 114 (by decide) (by decide); rw [HV.out] at h; exact h
                simp only [execOp]
                go_simp
                exact ⟨hC, Below.refl _ _, (by show V 115 _ _; rw [HV.out]; exact rfl)⟩
              · intro ρ w1 hc hf hg ho hC hV
                have e115 : ρ (.tmp 115) = .pointer (some ⟨gb, ob + kk, none⟩) := by have h := hV 115 (by decide) (by decide); rw [HV.out] at h; exact h
                have cb' := cell_below hC cb
                simp only [execOp]
                go_simp
                exact ⟨hC, Below.refl _ _, (by show V 116 _ _; rw [HV.out]; exact rfl)⟩
              · intro ρ w1 hc hf hg ho hC hV
                have e116 : ρ (.tmp 116) = .int .i64 Y := by have h := hV 116 (by decide) (by decide); rw [HV.out] at h; exact h
                simp only [execOp]
                go_simp
                exact ⟨hC, Below.refl _ _, (by show V 117 _ _; rw [HV.out]; exact rfl)⟩
              · intro ρ w1 hc hf hg ho hC hV
                have e112 : ρ (.tmp 112) = .float .f64 (fz X) := by have h := hV 112 (by decide) (by decide); rw [HV.out] at h; exact h
                have e117 : ρ (.tmp 117) = .float .f64 (fz Y) := by have h := hV 117 (by decide) (by decide); rw [HV.out] at h; exact h
                simp only [execOp]
                go_simp
                exact ⟨hC, Below.refl _ _, (by show V 118 _ _; rw [HV.out]; exact rfl)⟩
              · intro ρ w1 hc hf hg ho hC hV
                have e118 : ρ (.tmp 118) = .complex .f64 (fz X) (fz Y) := by have h := hV 118 (by decide) (by decide); rw [HV.out] at h; exact h
                simp only [execOp]
                go_simp
                exact ⟨hC, Below.refl _ _, (by show V 119 _ _; rw [HV.out]; exact rfl)⟩
              · intro ρ w1 hc hf hg ho hC hV
                have e119 : ρ (.tmp 119) = .agg #[.string ⟨#[122]⟩, .complex .f64 (fz X) (fz Y)] := by have h := hV 119 (by decide) (by decide); rw [HV.out] at h; exact h
                simp only [execOp]
                go_simp
                exact ⟨below_alloc hC _, below_alloc (Below.refl _ _) _, (by show V 120 _ _; rw [HV.out]; exact ⟨_, rfl, blk_new _ _⟩)⟩
              · intro ρ w1 hc hf hg ho hC hV
                have e120 : QSpec.holds (.row 1 50 [.string ⟨#[122]⟩, .complex .f64 (fz X) (fz Y)]) (ρ (.tmp 120)) w1 := by have h := hV 120 (by decide) (by decide); rw [HV.out] at h; exact h
                obtain ⟨g120, e120, h120⟩ := e120
                simp only [execOp]
                rw [e120]
                go_simp
                exact ⟨hC, Below.refl _ _, (by show V 19 _ _; rw [HV.out]; exact ⟨_, rfl, h120⟩)⟩
            · intro σ w1 hC hV
              have v19 : QSpec.holds (.row 1 50 [.string ⟨#[122]⟩, .complex .f64 (fz X) (fz Y)]) (σ 19) w1 := by have h := hV 19 (by decide); rw [HV.out] at h; exact h
              clear hV HV V
              dsimp only [dsts, List.filterMap, putAll, Act.put]
              obtain ⟨g19, v19, h19⟩ := v19
              have h19H := Lib.hid h19
              have hbx5 := below_step hbx4 hC
              replace ck := cell_below hC ck
              replace ca := cell_below hC ca
              replace cb := cell_below hC cb
              have hrow15c := Lib.hid (hrow15b.out.below hC)
              clear hC h19 hbx4 hrow15b
              rw [v19]
              clear v19
              go_simp
              go_wp2_with fail
              obtain ⟨x6, hx6⟩ : ∃ x, x = w1 := ⟨_, rfl⟩
              rw [← hx6]
              rw [← hx6] at hbx5 ck ca cb hrow15c h19H
              clear hx6
              rw [show floatOfInt FloatKind.f64 (S : Int) = fz S from rfl, show floatOfInt FloatKind.f64 (T : Int) = fz T from rfl]
              have qs1 : Hid ((FloatKind.f64.format.order (fz S1) (fz S1) == some .eq) = true) := selfEq_fz S1 (by omega)
              have qt1 : Hid ((FloatKind.f64.format.order (fz T1) (fz T1) == some .eq) = true) := selfEq_fz T1 (by omega)
              clear qs qt hk0'
              have hrow15 := hrow15c
              have h19 := h19H
              clear hrow15c h19H
              by_cases hSz : S = 0
              · have hz0 : Hid (((S : Int) == 0) = true) := by show _ = _; rw [beq_iff_eq]; omega
                clear hSz
                obtain ⟨V, HV⟩ : ∃ V : Tmp → Value → World → Prop, Hid (V = fun sl_ v_ w_ => QSpec.holds (match sl_ with | 6 => .det (.bool true) | 126 => .det (.complex .f64 (fz S1) (fz T1)) | 127 => .det (.int .i64 S) | 128 => .det (.slice (some ⟨ga, oa, none⟩) k c10) | 129 => .det (.int .i64 kk) | 130 => .det (.pointer (some ⟨ga, oa + kk, none⟩)) | 131 => .det (.int .i64 X) | 132 => .det (.int .i64 S1) | 133 => .det (.float .f64 (fz S1)) | 134 => .det (.int .i64 T) | 135 => .det (.slice (some ⟨gb, ob, none⟩) k c11) | 136 => .det (.int .i64 kk) | 137 => .det (.pointer (some ⟨gb, ob + kk, none⟩)) | 138 => .det (.int .i64 Y) | 139 => .det (.int .i64 T1) | 140 => .det (.float .f64 (fz T1)) | 141 => .det (.complex .f64 (fz S1) (fz T1)) | 142 => .det (.bool true) | 143 => .det (.bool true) | 144 => .det (.complex .f64 (fz S1) (fz T1)) | 145 => .det (.complex .f64 (fz S) (fz T)) | 146 => .det (.slice (some ⟨g19, 0, none⟩) 1 1) | 147 => .det (.bool true) | 148 => .det (.bool true) | 149 => .det (.bool true) | 150 => .det (.complex .f64 (fz S1) (fz T1)) | 151 => .det (.complex .f64 (fz S) (fz T)) | 152 => .det (.complex .f64 (fz S) (fz T9)) | 153 => .det (.slice (some ⟨g19, 0, none⟩) 1 1) | 154 => .det (.bool false) | 155 => .det (.bool true) | 156 => .det (.bool true) | 157 => .det (.bool true) | 158 => .det (.int .i64 S) | 159 => .det (.bool true) | 160 => .det (.bool true) | 167 => .det (.bool true) | 168 => .det (.bool true) | 169 => .det (.bool true) | 170 => .det (.slice A15 k c15) | 171 => .det (.func (.func 24) #[] #[.pointer (some ⟨gk, 0, none⟩)]) | 172 => .sl (k - 1) | 173 => .det (.int .i64 (k - 1 : Nat)) | 174 => .det (.slice A7 k c7) | 175 => .det (.int .i64 k) | 176 => .det (.int .i64 (k - 1 : Nat)) | 177 => .det (.bool true) | 178 => .det (.bool true) | 179 => .det (.bool true) | 180 => .det (.bool true) | 181 => .det (.bool true) | 182 => .det (.bool true) | 183 => .det (.bool true) | 184 => .det (.bool true) | _ => .any) v_ w_) := ⟨_, rfl⟩
                refine wp_region_loose (Below x6.heap.size x6 ·) (fun w_ w_2 => Below w_.heap.size w_ w_2) V (by kernel_rfl) (by kernel_rfl) (by kernel_rfl) (Below.refl _ _).drew (fun w_ => Below.refl _ _) ?_ ?_ ?_
                · intro t v w w' hC hR h
                  rw [HV.out] at h ⊢
                  exact QSpec.mono hR _ _ h
                · go_light
                  simp only [List.forall_mem_cons]
                  refine ⟨?_, ?_, ?_, ?_, ?_, ?_, ?_, ?_, ?_, ?_, ?_, ?_, ?_, ?_, ?_, ?_, ?_, ?_, ?_, ?_, ?_, ?_, ?_, ?_, ?_, ?_, ?_, ?_, ?_, ?_, ?_, ?_, ?_, ?_, ?_, ?_, ?_, ?_, ?_, ?_, ?_, ?_, ?_, ?_, ?_, ?_, ?_, ?_, ?_, ?_, ?_, ?_, ?_, ?_, ?_, ?_, ?_, ?_, ?_, ?_, fun _ h => by cases h⟩
                  · intro ρ w1 hc hf hg ho hC hV
                    have e18 := ho 18 (by decide)
                    simp only [execOp]
                    go_simp
                    exact ⟨hC, Below.refl _ _, (by show V 126 _ _; rw [HV.out]; exact rfl)⟩
                  · intro ρ w1 hc hf hg ho hC hV
                    have e8 := ho 8 (by decide)
                    simp only [execOp]
                    go_simp
                    exact ⟨hC, Below.refl _ _, (by show V 127 _ _; rw [HV.out]; exact rfl)⟩
                  · intro ρ w1 hc hf hg ho hC hV
                    have e10 := ho 10 (by decide)
                    simp only [execOp]
                    go_simp
                    exact ⟨hC, Below.refl _ _, (by show V 128 _ _; rw [HV.out]; exact rfl)⟩
                  · intro ρ w1 hc hf hg ho hC hV
                    have e16 := ho 16 (by decide)
                    have ck' := cell_below hC ck
                    simp only [execOp]
                    go_simp
                    exact ⟨hC, Below.refl _ _, (by show V 129 _ _; rw [HV.out]; exact rfl)⟩
                  · intro ρ w1 hc hf hg ho hC hV
                    have e128 : ρ (.tmp 128) = .slice (some ⟨ga, oa, none⟩) k c10 := by have h := hV 128 (by decide) (by decide); rw [HV.out] at h; exact h
                    have e129 : ρ (.tmp 129) = .int .i64 kk := by have h := hV 129 (by decide) (by decide); rw [HV.out] at h; exact h
                    simp only [execOp]
                    go_simp
                    exact ⟨hC, Below.refl _ _, (by show V 130 _ _; rw [HV.out]; exact rfl)⟩
                  · intro ρ w1 hc hf hg ho hC hV
                    have e130 : ρ (.tmp 130) = .pointer (some ⟨ga, oa + kk, none⟩) := by have h := hV 130 (by decide) (by decide); rw [HV.out] at h; exact h
                    have ca' := cell_below hC ca
                    simp only [execOp]
                    go_simp
                    exact ⟨hC, Below.refl _ _, (by show V 131 _ _; rw [HV.out]; exact rfl)⟩
                  · intro ρ w1 hc hf hg ho hC hV
                    have e127 : ρ (.tmp 127) = .int .i64 S := by have h := hV 127 (by decide) (by decide); rw [HV.out] at h; exact h
                    have e131 : ρ (.tmp 131) = .int .i64 X := by have h := hV 131 (by decide) (by decide); rw [HV.out] at h; exact h
                    simp only [execOp]
                    go_simp
                    exact ⟨hC, Below.refl _ _, (by show V 132 _ _; rw [HV.out]; exact congrArg (Value.int .i64) hS1.out)⟩
                  · intro ρ w1 hc hf hg ho hC hV
                    have e132 : ρ (.tmp 132) = .int .i64 S1 := by have h := hV 132 (by decide) (by decide); rw [HV.out] at h; exact h
                    simp only [execOp]
                    go_simp
                    exact ⟨hC, Below.refl _ _, (by show V 133 _ _; rw [HV.out]; exact rfl)⟩
                  · intro ρ w1 hc hf hg ho hC hV
                    have e9 := ho 9 (by decide)
                    simp only [execOp]
                    go_simp
                    exact ⟨hC, Below.refl _ _, (by show V 134 _ _; rw [HV.out]; exact rfl)⟩
                  · intro ρ w1 hc hf hg ho hC hV
                    have e11 := ho 11 (by decide)
                    simp only [execOp]
                    go_simp
                    exact ⟨hC, Below.refl _ _, (by show V 135 _ _; rw [HV.out]; exact rfl)⟩
                  · intro ρ w1 hc hf hg ho hC hV
                    have e16 := ho 16 (by decide)
                    have ck' := cell_below hC ck
                    simp only [execOp]
                    go_simp
                    exact ⟨hC, Below.refl _ _, (by show V 136 _ _; rw [HV.out]; exact rfl)⟩
                  · intro ρ w1 hc hf hg ho hC hV
                    have e135 : ρ (.tmp 135) = .slice (some ⟨gb, ob, none⟩) k c11 := by have h := hV 135 (by decide) (by decide); rw [HV.out] at h; exact h
                    have e136 : ρ (.tmp 136) = .int .i64 kk := by have h := hV 136 (by decide) (by decide); rw [HV.out] at h; exact h
                    simp only [execOp]
                    go_simp
                    exact ⟨hC, Below.refl _ _, (by show V 137 _ _; rw [HV.out]; exact rfl)⟩
                  · intro ρ w1 hc hf hg ho hC hV
                    have e137 : ρ (.tmp 137) = .pointer (some ⟨gb, ob + kk, none⟩) := by have h := hV 137 (by decide) (by decide); rw [HV.out] at h; exact h
                    have cb' := cell_below hC cb
                    simp only [execOp]
                    go_simp
                    exact ⟨hC, Below.refl _ _, (by show V 138 _ _; rw [HV.out]; exact rfl)⟩
                  · intro ρ w1 hc hf hg ho hC hV
                    have e134 : ρ (.tmp 134) = .int .i64 T := by have h := hV 134 (by decide) (by decide); rw [HV.out] at h; exact h
                    have e138 : ρ (.tmp 138) = .int .i64 Y := by have h := hV 138 (by decide) (by decide); rw [HV.out] at h; exact h
                    simp only [execOp]
                    go_simp
                    exact ⟨hC, Below.refl _ _, (by show V 139 _ _; rw [HV.out]; exact congrArg (Value.int .i64) hT1.out)⟩
                  · intro ρ w1 hc hf hg ho hC hV
                    have e139 : ρ (.tmp 139) = .int .i64 T1 := by have h := hV 139 (by decide) (by decide); rw [HV.out] at h; exact h
                    simp only [execOp]
                    go_simp
                    exact ⟨hC, Below.refl _ _, (by show V 140 _ _; rw [HV.out]; exact rfl)⟩
                  · intro ρ w1 hc hf hg ho hC hV
                    have e133 : ρ (.tmp 133) = .float .f64 (fz S1) := by have h := hV 133 (by decide) (by decide); rw [HV.out] at h; exact h
                    have e140 : ρ (.tmp 140) = .float .f64 (fz T1) := by have h := hV 140 (by decide) (by decide); rw [HV.out] at h; exact h
                    simp only [execOp]
                    go_simp
                    exact ⟨hC, Below.refl _ _, (by show V 141 _ _; rw [HV.out]; exact rfl)⟩
                  · intro ρ w1 hc hf hg ho hC hV
                    have e126 : ρ (.tmp 126) = .complex .f64 (fz S1) (fz T1) := by have h := hV 126 (by decide) (by decide); rw [HV.out] at h; exact h
                    have e141 : ρ (.tmp 141) = .complex .f64 (fz S1) (fz T1) := by have h := hV 141 (by decide) (by decide); rw [HV.out] at h; exact h
                    have q1 := qs1.out
                    have q2 := qt1.out
                    simp only [execOp]
                    go_simp
                    exact ⟨hC, Below.refl _ _, (by show V 142 _ _; rw [HV.out]; exact rfl)⟩
                  · intro ρ w1 hc hf hg ho hC hV
                    have e142 : ρ (.tmp 142) = .bool true := by have h := hV 142 (by decide) (by decide); rw [HV.out] at h; exact h
                    simp only [execOp]
                    go_simp
                    exact ⟨hC, Below.refl _ _, (by show V 143 _ _; rw [HV.out]; exact rfl)⟩
                  · intro ρ w1 hc hf hg ho hC hV
                    refine ⟨143, _, rfl, by have h := hV 143 (by decide) (by decide); rw [HV.out] at h; exact h, ?_⟩
                    rw [if_pos rfl]
                    have e18 := ho 18 (by decide)
                    simp only [execOp]
                    go_simp
                    exact ⟨hC, Below.refl _ _, (by show V 144 _ _; rw [HV.out]; exact rfl)⟩
                  · intro ρ w1 hc hf hg ho hC hV
                    refine ⟨143, _, rfl, by have h := hV 143 (by decide) (by decide); rw [HV.out] at h; exact h, ?_⟩
                    rw [if_pos rfl]
                    have e20 := ho 20 (by decide)
                    simp only [execOp]
                    go_simp
                    exact ⟨hC, Below.refl _ _, (by show V 145 _ _; rw [HV.out]; exact rfl)⟩
                  · intro ρ w1 hc hf hg ho hC hV
                    refine ⟨143, _, rfl, by have h := hV 143 (by decide) (by decide); rw [HV.out] at h; exact h, ?_⟩
                    rw [if_pos rfl]
                    have e19 := ho 19 (by decide)
                    simp only [execOp]
                    go_simp
                    exact ⟨hC, Below.refl _ _, (by show V 146 _ _; rw [HV.out]; exact rfl)⟩
                  · intro ρ w1 hc hf hg ho hC hV
                    refine ⟨143, _, rfl, by have h := hV 143 (by decide) (by decide); rw [HV.out] at h; exact h, ?_⟩
                    rw [if_pos rfl]
                    have e144 : ρ (.tmp 144) = .complex .f64 (fz S1) (fz T1) := by have h := hV 144 (by decide) (by decide); rw [HV.out] at h; exact h
                    have e145 : ρ (.tmp 145) = .complex .f64 (fz S) (fz T) := by have h := hV 145 (by decide) (by decide); rw [HV.out] at h; exact h
                    have e146 : ρ (.tmp 146) = .slice (some ⟨g19, 0, none⟩) 1 1 := by have h := hV 146 (by decide) (by decide); rw [HV.out] at h; exact h
                    simp only [execOp]
                    go_simp
                    refine (fits_any (some ⟨g19, 0, none⟩) 1 [⟨⟨#[122]⟩, fz X, fz Y⟩] (by simp) (fz S1) (fz T1) (fz S) (fz T) (fz S, fz T) hfit.out w1 (RowOf.of_blk (cells := Item.cells) (size := 2) (fun _ => rfl) (blk_below h19.out hC) rfl)).mono ?_
                    rintro e w2 ⟨rfl, hb2⟩
                    rw [le1.out]
                    exact ⟨_, rfl, below_step hC hb2, hb2, (by show V 147 _ _; rw [HV.out]; exact rfl)⟩
                  · intro ρ w1 hc hf hg ho hC hV
                    have e143 : ρ (.tmp 143) = .bool true := by have h := hV 143 (by decide) (by decide); rw [HV.out] at h; exact h
                    have e147 : ρ (.tmp 147) = .bool true := by have h := hV 147 (by decide) (by decide); rw [HV.out] at h; exact h
                    simp only [execOp]
                    go_simp
                    exact ⟨hC, Below.refl _ _, (by show V 148 _ _; rw [HV.out]; exact rfl)⟩
                  · intro ρ w1 hc hf hg ho hC hV
                    have e148 : ρ (.tmp 148) = .bool true := by have h := hV 148 (by decide) (by decide); rw [HV.out] at h; exact h
                    simp only [execOp]
                    go_simp
                    exact ⟨hC, Below.refl _ _, (by show V 149 _ _; rw [HV.out]; exact rfl)⟩
                  · intro ρ w1 hc hf hg ho hC hV
                    refine ⟨149, _, rfl, by have h := hV 149 (by decide) (by decide); rw [HV.out] at h; exact h, ?_⟩
                    rw [if_pos rfl]
                    have e18 := ho 18 (by decide)
                    simp only [execOp]
                    go_simp
                    exact ⟨hC, Below.refl _ _, (by show V 150 _ _; rw [HV.out]; exact rfl)⟩
                  · intro ρ w1 hc hf hg ho hC hV
                    refine ⟨149, _, rfl, by have h := hV 149 (by decide) (by decide); rw [HV.out] at h; exact h, ?_⟩
                    rw [if_pos rfl]
                    have e20 := ho 20 (by decide)
                    simp only [execOp]
                    go_simp
                    exact ⟨hC, Below.refl _ _, (by show V 151 _ _; rw [HV.out]; exact rfl)⟩
                  · intro ρ w1 hc hf hg ho hC hV
                    refine ⟨149, _, rfl, by have h := hV 149 (by decide) (by decide); rw [HV.out] at h; exact h, ?_⟩
                    rw [if_pos rfl]
                    have e151 : ρ (.tmp 151) = .complex .f64 (fz S) (fz T) := by have h := hV 151 (by decide) (by decide); rw [HV.out] at h; exact h
                    have hs1 := hsub1.out
                    simp only [execOp]
                    go_simp
                    exact ⟨hC, Below.refl _ _, (by show V 152 _ _; rw [HV.out]; exact rfl)⟩
                  · intro ρ w1 hc hf hg ho hC hV
                    refine ⟨149, _, rfl, by have h := hV 149 (by decide) (by decide); rw [HV.out] at h; exact h, ?_⟩
                    rw [if_pos rfl]
                    have e19 := ho 19 (by decide)
                    simp only [execOp]
                    go_simp
                    exact ⟨hC, Below.refl _ _, (by show V 153 _ _; rw [HV.out]; exact rfl)⟩
                  · intro ρ w1 hc hf hg ho hC hV
                    refine ⟨149, _, rfl, by have h := hV 149 (by decide) (by decide); rw [HV.out] at h; exact h, ?_⟩
                    rw [if_pos rfl]
                    have e150 : ρ (.tmp 150) = .complex .f64 (fz S1) (fz T1) := by have h := hV 150 (by decide) (by decide); rw [HV.out] at h; exact h
                    have e152 : ρ (.tmp 152) = .complex .f64 (fz S) (fz T9) := by have h := hV 152 (by decide) (by decide); rw [HV.out] at h; exact h
                    have e153 : ρ (.tmp 153) = .slice (some ⟨g19, 0, none⟩) 1 1 := by have h := hV 153 (by decide) (by decide); rw [HV.out] at h; exact h
                    simp only [execOp]
                    go_simp
                    refine (fits_any (some ⟨g19, 0, none⟩) 1 [⟨⟨#[122]⟩, fz X, fz Y⟩] (by simp) (fz S1) (fz T1) (fz S) (fz T9) (fz S, fz T) hfit.out w1 (RowOf.of_blk (cells := Item.cells) (size := 2) (fun _ => rfl) (blk_below h19.out hC) rfl)).mono ?_
                    rintro e w2 ⟨rfl, hb2⟩
                    rw [le2.out]
                    exact ⟨_, rfl, below_step hC hb2, hb2, (by show V 154 _ _; rw [HV.out]; exact rfl)⟩
                  · intro ρ w1 hc hf hg ho hC hV
                    refine ⟨149, _, rfl, by have h := hV 149 (by decide) (by decide); rw [HV.out] at h; exact h, ?_⟩
                    rw [if_pos rfl]
                    have e154 : ρ (.tmp 154) = .bool false := by have h := hV 154 (by decide) (by decide); rw [HV.out] at h; exact h
                    simp only [execOp]
                    go_simp
                    exact ⟨hC, Below.refl _ _, (by show V 155 _ _; rw [HV.out]; exact rfl)⟩
                  · intro ρ w1 hc hf hg ho hC hV
                    have e149 : ρ (.tmp 149) = .bool true := by have h := hV 149 (by decide) (by decide); rw [HV.out] at h; exact h
                    have e155 : ρ (.tmp 155) = .bool true := by have h := hV 155 (by decide) (by decide); rw [HV.out] at h; exact h
                    simp only [execOp]
                    go_simp
                    exact ⟨hC, Below.refl _ _, (by show V 156 _ _; rw [HV.out]; exact rfl)⟩
                  · intro ρ w1 hc hf hg ho hC hV
                    have e156 : ρ (.tmp 156) = .bool true := by have h := hV 156 (by decide) (by decide); rw [HV.out] at h; exact h
                    simp only [execOp]
                    go_simp
                    exact ⟨hC, Below.refl _ _, (by show V 157 _ _; rw [HV.out]; exact rfl)⟩
                  · intro ρ w1 hc hf hg ho hC hV
                    refine ⟨157, _, rfl, by have h := hV 157 (by decide) (by decide); rw [HV.out] at h; exact h, ?_⟩
                    rw [if_pos rfl]
                    have e8 := ho 8 (by decide)
                    simp only [execOp]
                    go_simp
                    exact ⟨hC, Below.refl _ _, (by show V 158 _ _; rw [HV.out]; exact rfl)⟩
                  · intro ρ w1 hc hf hg ho hC hV
                    refine ⟨157, _, rfl, by have h := hV 157 (by decide) (by decide); rw [HV.out] at h; exact h, ?_⟩
                    rw [if_pos rfl]
                    have e158 : ρ (.tmp 158) = .int .i64 S := by have h := hV 158 (by decide) (by decide); rw [HV.out] at h; exact h
                    have hz1 := hz0.out
                    simp only [execOp]
                    go_simp
                    exact ⟨hC, Below.refl _ _, (by show V 159 _ _; rw [HV.out]; exact rfl)⟩
                  · intro ρ w1 hc hf hg ho hC hV
                    refine ⟨157, _, rfl, by have h := hV 157 (by decide) (by decide); rw [HV.out] at h; exact h, ?_⟩
                    rw [if_pos rfl]
                    have e159 : ρ (.tmp 159) = .bool true := by have h := hV 159 (by decide) (by decide); rw [HV.out] at h; exact h
                    simp only [execOp]
                    go_simp
                    exact ⟨hC, Below.refl _ _, (by show V 160 _ _; rw [HV.out]; exact rfl)⟩
                  · intro ρ w1 hc hf hg ho hC hV
                    refine ⟨160, _, rfl, by have h := hV 160 (by decide) (by decide); rw [HV.out] at h; exact h, ?_⟩
                    rw [if_neg (by decide)]
                    show V 161 _ _; rw [HV.out]; exact trivial
                  · intro ρ w1 hc hf hg ho hC hV
                    refine ⟨160, _, rfl, by have h := hV 160 (by decide) (by decide); rw [HV.out] at h; exact h, ?_⟩
                    rw [if_neg (by decide)]
                    show V 162 _ _; rw [HV.out]; exact trivial
                  · intro ρ w1 hc hf hg ho hC hV
                    refine ⟨160, _, rfl, by have h := hV 160 (by decide) (by decide); rw [HV.out] at h; exact h, ?_⟩
                    rw [if_neg (by decide)]
                    show V 163 _ _; rw [HV.out]; exact trivial
                  · intro ρ w1 hc hf hg ho hC hV
                    refine ⟨160, _, rfl, by have h := hV 160 (by decide) (by decide); rw [HV.out] at h; exact h, ?_⟩
                    rw [if_neg (by decide)]
                    show V 164 _ _; rw [HV.out]; exact trivial
                  · intro ρ w1 hc hf hg ho hC hV
                    refine ⟨160, _, rfl, by have h := hV 160 (by decide) (by decide); rw [HV.out] at h; exact h, ?_⟩
                    rw [if_neg (by decide)]
                    show V 165 _ _; rw [HV.out]; exact trivial
                  · intro ρ w1 hc hf hg ho hC hV
                    refine ⟨160, _, rfl, by have h := hV 160 (by decide) (by decide); rw [HV.out] at h; exact h, ?_⟩
                    rw [if_neg (by decide)]
                    show V 166 _ _; rw [HV.out]; exact trivial
                  · intro ρ w1 hc hf hg ho hC hV
                    refine ⟨157, _, rfl, by have h := hV 157 (by decide) (by decide); rw [HV.out] at h; exact h, ?_⟩
                    rw [if_pos rfl]
                    have e160 : ρ (.tmp 160) = .bool true := by have h := hV 160 (by decide) (by decide); rw [HV.out] at h; exact h
                    simp only [execOp]
                    go_simp
                    exact ⟨hC, Below.refl _ _, (by show V 167 _ _; rw [HV.out]; exact rfl)⟩
                  · intro ρ w1 hc hf hg ho hC hV
                    have e157 : ρ (.tmp 157) = .bool true := by have h := hV 157 (by decide) (by decide); rw [HV.out] at h; exact h
                    have e167 : ρ (.tmp 167) = .bool true := by have h := hV 167 (by decide) (by decide); rw [HV.out] at h; exact h
                    simp only [execOp]
                    go_simp
                    exact ⟨hC, Below.refl _ _, (by show V 168 _ _; rw [HV.out]; exact rfl)⟩
                  · intro ρ w1 hc hf hg ho hC hV
                    have e168 : ρ (.tmp 168) = .bool true := by have h := hV 168 (by decide) (by decide); rw [HV.out] at h; exact h
                    simp only [execOp]
                    go_simp
                    exact ⟨hC, Below.refl _ _, (by show V 169 _ _; rw [HV.out]; exact rfl)⟩
                  · intro ρ w1 hc hf hg ho hC hV
                    refine ⟨169, _, rfl, by have h := hV 169 (by decide) (by decide); rw [HV.out] at h; exact h, ?_⟩
                    rw [if_pos rfl]
                    have e15 := ho 15 (by decide)
                    simp only [execOp]
                    go_simp
                    exact ⟨hC, Below.refl _ _, (by show V 170 _ _; rw [HV.out]; exact rfl)⟩
                  · intro ρ w1 hc hf hg ho hC hV
                    refine ⟨169, _, rfl, by have h := hV 169 (by decide) (by decide); rw [HV.out] at h; exact h, ?_⟩
                    rw [if_pos rfl]
                    have e17 := ho 17 (by decide)
                    simp only [execOp]
                    go_simp
                    exact ⟨hC, Below.refl _ _, (by show V 171 _ _; rw [HV.out]; exact rfl)⟩
                  · intro ρ w1 hc hf hg ho hC hV
                    refine ⟨169, _, rfl, by have h := hV 169 (by decide) (by decide); rw [HV.out] at h; exact h, ?_⟩
                    rw [if_pos rfl]
                    have e170 : ρ (.tmp 170) = .slice A15 k c15 := by have h := hV 170 (by decide) (by decide); rw [HV.out] at h; exact h
                    have e171 : ρ (.tmp 171) = .func (.func 24) #[] #[.pointer (some ⟨gk, 0, none⟩)] := by have h := hV 171 (by decide) (by decide); rw [HV.out] at h; exact h
                    simp only [execOp]
                    go_simp
                    refine (openR A15 c15 xs ys k kk gk hk8 hkk w1 (cell_below hC ck) (RowOf.below hrow15.out hC)).mono ?_
                    rintro e w2 ⟨A2_, c2_, rfl, hb2⟩
                    exact ⟨_, rfl, below_step hC hb2, hb2, (by show V 172 _ _; rw [HV.out]; exact ⟨_, _, rfl⟩)⟩
                  · intro ρ w1 hc hf hg ho hC hV
                    refine ⟨169, _, rfl, by have h := hV 169 (by decide) (by decide); rw [HV.out] at h; exact h, ?_⟩
                    rw [if_pos rfl]
                    have e172 : QSpec.holds (.sl (k - 1)) (ρ (.tmp 172)) w1 := by have h := hV 172 (by decide) (by decide); rw [HV.out] at h; exact h
                    obtain ⟨A172, c172, e172⟩ := e172
                    simp only [execOp]
                    go_simp
                    exact ⟨hC, Below.refl _ _, (by show V 173 _ _; rw [HV.out]; exact rfl)⟩
                  · intro ρ w1 hc hf hg ho hC hV
                    refine ⟨169, _, rfl, by have h := hV 169 (by decide) (by decide); rw [HV.out] at h; exact h, ?_⟩
                    rw [if_pos rfl]
                    have e7 := ho 7 (by decide)
                    simp only [execOp]
                    go_simp
                    exact ⟨hC, Below.refl _ _, (by show V 174 _ _; rw [HV.out]; exact rfl)⟩
                  · intro ρ w1 hc hf hg ho hC hV
                    refine ⟨169, _, rfl, by have h := hV 169 (by decide) (by decide); rw [HV.out] at h; exact h, ?_⟩
                    rw [if_pos rfl]
                    have e174 : ρ (.tmp 174) = .slice A7 k c7 := by have h := hV 174 (by decide) (by decide); rw [HV.out] at h; exact h
                    simp only [execOp]
                    go_simp
                    exact ⟨hC, Below.refl _ _, (by show V 175 _ _; rw [HV.out]; exact rfl)⟩
                  · intro ρ w1 hc hf hg ho hC hV
                    refine ⟨169, _, rfl, by have h := hV 169 (by decide) (by decide); rw [HV.out] at h; exact h, ?_⟩
                    rw [if_pos rfl]
                    have e175 : ρ (.tmp 175) = .int .i64 k := by have h := hV 175 (by decide) (by decide); rw [HV.out] at h; exact h
                    simp only [execOp]
                    go_simp
                    exact ⟨hC, Below.refl _ _, (by show V 176 _ _; rw [HV.out]; exact congrArg (Value.int .i64) hk1w.out)⟩
                  · intro ρ w1 hc hf hg ho hC hV
                    refine ⟨169, _, rfl, by have h := hV 169 (by decide) (by decide); rw [HV.out] at h; exact h, ?_⟩
                    rw [if_pos rfl]
                    have e173 : ρ (.tmp 173) = .int .i64 (k - 1 : Nat) := by have h := hV 173 (by decide) (by decide); rw [HV.out] at h; exact h
                    have e176 : ρ (.tmp 176) = .int .i64 (k - 1 : Nat) := by have h := hV 176 (by decide) (by decide); rw [HV.out] at h; exact h
                    have hz1 : (((k - 1 : Nat) : Int) == ((k - 1 : Nat) : Int)) = true := beq_self_eq_true _
                    simp only [execOp]
                    go_simp
                    exact ⟨hC, Below.refl _ _, (by show V 177 _ _; rw [HV.out]; exact rfl)⟩
                  · intro ρ w1 hc hf hg ho hC hV
                    have e169 : ρ (.tmp 169) = .bool true := by have h := hV 169 (by decide) (by decide); rw [HV.out] at h; exact h
                    have e177 : ρ (.tmp 177) = .bool true := by have h := hV 177 (by decide) (by decide); rw [HV.out] at h; exact h
                    simp only [execOp]
                    go_simp
                    exact ⟨hC, Below.refl _ _, (by show V 178 _ _; rw [HV.out]; exact rfl)⟩
                  · intro ρ w1 hc hf hg ho hC hV
                    have e178 : ρ (.tmp 178) = .bool true := by have h := hV 178 (by decide) (by decide); rw [HV.out] at h; exact h
                    simp only [execOp]
                    go_simp
                    exact ⟨hC, Below.refl _ _, (by show V 179 _ _; rw [HV.out]; exact rfl)⟩
                  · intro ρ w1 hc hf hg ho hC hV
                    refine ⟨179, _, rfl, by have h := hV 179 (by decide) (by decide); rw [HV.out] at h; exact h, ?_⟩
                    rw [if_pos rfl]
                    simp only [execOp]
                    go_simp
                    refine (fits_any none 0 [] (by simp) 0 0 0 0 (0, 0) rfl w1 (RowOf.nil _ _ _ _)).mono ?_
                    rintro e w2 ⟨rfl, hb2⟩
                    rw [le0]
                    exact ⟨_, rfl, below_step hC hb2, hb2, (by show V 180 _ _; rw [HV.out]; exact rfl)⟩
                  · intro ρ w1 hc hf hg ho hC hV
                    have e179 : ρ (.tmp 179) = .bool true := by have h := hV 179 (by decide) (by decide); rw [HV.out] at h; exact h
                    have e180 : ρ (.tmp 180) = .bool true := by have h := hV 180 (by decide) (by decide); rw [HV.out] at h; exact h
                    simp only [execOp]
                    go_simp
                    exact ⟨hC, Below.refl _ _, (by show V 181 _ _; rw [HV.out]; exact rfl)⟩
                  · intro ρ w1 hc hf hg ho hC hV
                    have e181 : ρ (.tmp 181) = .bool true := by have h := hV 181 (by decide) (by decide); rw [HV.out] at h; exact h
                    simp only [execOp]
                    go_simp
                    exact ⟨hC, Below.refl _ _, (by show V 182 _ _; rw [HV.out]; exact rfl)⟩
                  · intro ρ w1 hc hf hg ho hC hV
                    refine ⟨182, _, rfl, by have h := hV 182 (by decide) (by decide); rw [HV.out] at h; exact h, ?_⟩
                    rw [if_pos rfl]
                    simp only [execOp]
                    go_simp
                    refine (wakes17 w1).mono ?_
                    rintro e w2 ⟨rfl, hb2⟩
                    exact ⟨_, rfl, below_step hC hb2, hb2, (by show V 183 _ _; rw [HV.out]; exact rfl)⟩
                  · intro ρ w1 hc hf hg ho hC hV
                    have e182 : ρ (.tmp 182) = .bool true := by have h := hV 182 (by decide) (by decide); rw [HV.out] at h; exact h
                    have e183 : ρ (.tmp 183) = .bool true := by have h := hV 183 (by decide) (by decide); rw [HV.out] at h; exact h
                    simp only [execOp]
                    go_simp
                    exact ⟨hC, Below.refl _ _, (by show V 184 _ _; rw [HV.out]; exact rfl)⟩
                  · intro ρ w1 hc hf hg ho hC hV
                    have e184 : ρ (.tmp 184) = .bool true := by have h := hV 184 (by decide) (by decide); rw [HV.out] at h; exact h
                    simp only [execOp]
                    go_simp
                    exact ⟨hC, Below.refl _ _, (by show V 6 _ _; rw [HV.out]; exact rfl)⟩
                · intro σ w1 hC hV
                  have v6 : σ 6 = .bool true := by have h := hV 6 (by decide); rw [HV.out] at h; exact h
                  clear hV HV V
                  dsimp only [dsts, List.filterMap, putAll, Act.put]
                  have hbx7 := below_step hbx5 hC
                  clear hC hbx5 ck ca cb
                  rw [v6]
                  clear v6
                  go_simp
                  go_wp2
                  go_ret
                  exact ⟨rfl, hbx7⟩
              · have hz0 : Hid (((S : Int) == 0) = false) := by show _ = _; rw [beq_eq_false_iff_ne]; omega
                have hS9 := hS9H.out
                have le3 : Hid ((leB (fz S) (fz S9) && leB (fz T) (fz T)) = false) := by
                  show _ = _
                  rw [leB_fz S S9 (by omega) (by omega), decide_eq_false (show ¬ S ≤ S9 by omega)]
                  rfl
                have hsub2 : Hid (∀ w, (binOp .sub 47 (.complex .f64 (fz S) (fz T)) (.complex .f64 4607182418800017408 0)).run Try.prog w = .ok (.complex .f64 (fz S9) (fz T)) w) := by
                  intro w
                  have h := sub_fz S T 1 0 (by omega) (by omega) (by omega) (by omega)
                  rw [show ((0 : Nat) : Int) = 0 from rfl, show ((1 : Nat) : Int) = 1 from rfl, fz_zero, fz_one, Nat.sub_zero, ← hS9] at h
                  exact run_complex_sum w .sub (.inr rfl) 47 .f64 _ _ _ _ _ _ h
                clear hSz hS9
                obtain ⟨V, HV⟩ : ∃ V : Tmp → Value → World → Prop, Hid (V = fun sl_ v_ w_ => QSpec.holds (match sl_ with | 6 => .det (.bool true) | 126 => .det (.complex .f64 (fz S1) (fz T1)) | 127 => .det (.int .i64 S) | 128 => .det (.slice (some ⟨ga, oa, none⟩) k c10) | 129 => .det (.int .i64 kk) | 130 => .det (.pointer (some ⟨ga, oa + kk, none⟩)) | 131 => .det (.int .i64 X) | 132 => .det (.int .i64 S1) | 133 => .det (.float .f64 (fz S1)) | 134 => .det (.int .i64 T) | 135 => .det (.slice (some ⟨gb, ob, none⟩) k c11) | 136 => .det (.int .i64 kk) | 137 => .det (.pointer (some ⟨gb, ob + kk, none⟩)) | 138 => .det (.int .i64 Y) | 139 => .det (.int .i64 T1) | 140 => .det (.float .f64 (fz T1)) | 141 => .det (.complex .f64 (fz S1) (fz T1)) | 142 => .det (.bool true) | 143 => .det (.bool true) | 144 => .det (.complex .f64 (fz S1) (fz T1)) | 145 => .det (.complex .f64 (fz S) (fz T)) | 146 => .det (.slice (some ⟨g19, 0, none⟩) 1 1) | 147 => .det (.bool true) | 148 => .det (.bool true) | 149 => .det (.bool true) | 150 => .det (.complex .f64 (fz S1) (fz T1)) | 151 => .det (.complex .f64 (fz S) (fz T)) | 152 => .det (.complex .f64 (fz S) (fz T9)) | 153 => .det (.slice (some ⟨g19, 0, none⟩) 1 1) | 154 => .det (.bool false) | 155 => .det (.bool true) | 156 => .det (.bool true) | 157 => .det (.bool true) | 158 => .det (.int .i64 S) | 159 => .det (.bool false) | 160 => .det (.bool false) | 161 => .det (.complex .f64 (fz S1) (fz T1)) | 162 => .det (.complex .f64 (fz S) (fz T)) | 163 => .det (.complex .f64 (fz S9) (fz T)) | 164 => .det (.slice (some ⟨g19, 0, none⟩) 1 1) | 165 => .det (.bool false) | 166 => .det (.bool true) | 167 => .det (.bool true) | 168 => .det (.bool true) | 169 => .det (.bool true) | 170 => .det (.slice A15 k c15) | 171 => .det (.func (.func 24) #[] #[.pointer (some ⟨gk, 0, none⟩)]) | 172 => .sl (k - 1) | 173 => .det (.int .i64 (k - 1 : Nat)) | 174 => .det (.slice A7 k c7) | 175 => .det (.int .i64 k) | 176 => .det (.int .i64 (k - 1 : Nat)) | 177 => .det (.bool true) | 178 => .det (.bool true) | 179 => .det (.bool true) | 180 => .det (.bool true) | 181 => .det (.bool true) | 182 => .det (.bool true) | 183 => .det (.bool true) | 184 => .det (.bool true) | _ => .any) v_ w_) := ⟨_, rfl⟩
                refine wp_region_loose (Below x6.heap.size x6 ·) (fun w_ w_2 => Below w_.heap.size w_ w_2) V (by kernel_rfl) (by kernel_rfl) (by kernel_rfl) (Below.refl _ _).drew (fun w_ => Below.refl _ _) ?_ ?_ ?_
                · intro t v w w' hC hR h
                  rw [HV.out] at h ⊢
                  exact QSpec.mono hR _ _ h
                · go_light
                  simp only [List.forall_mem_cons]
                  refine ⟨?_, ?_, ?_, ?_, ?_, ?_, ?_, ?_, ?_, ?_, ?_, ?_, ?_, ?_, ?_, ?_, ?_, ?_, ?_, ?_, ?_, ?_, ?_, ?_, ?_, ?_, ?_, ?_, ?_, ?_, ?_, ?_, ?_, ?_, ?_, ?_, ?_, ?_, ?_, ?_, ?_, ?_, ?_, ?_, ?_, ?_, ?_, ?_, ?_, ?_, ?_, ?_, ?_, ?_, ?_, ?_, ?_, ?_, ?_, ?_, fun _ h => by cases h⟩
                  · intro ρ w1 hc hf hg ho hC hV
                    have e18 := ho 18 (by decide)
                    simp only [execOp]
                    go_simp
                    exact ⟨hC, Below.refl _ _, (by show V 126 _ _; rw [HV.out]; exact rfl)⟩
                  · intro ρ w1 hc hf hg ho hC hV
                    have e8 := ho 8 (by decide)
                    simp only [execOp]
                    go_simp
                    exact ⟨hC, Below.refl _ _, (by show V 127 _ _; rw [HV.out]; exact rfl)⟩
                  · intro ρ w1 hc hf hg ho hC hV
                    have e10 := ho 10 (by decide)
                    simp only [execOp]
                    go_simp
                    exact ⟨hC, Below.refl _ _, (by show V 128 _ _; rw [HV.out]; exact rfl)⟩
                  · intro ρ w1 hc hf hg ho hC hV
                    have e16 := ho 16 (by decide)
                    have ck' := cell_below hC ck
                    simp only [execOp]
                    go_simp
                    exact ⟨hC, Below.refl _ _, (by show V 129 _ _; rw [HV.out]; exact rfl)⟩
                  · intro ρ w1 hc hf hg ho hC hV
                    have e128 : ρ (.tmp 128) = .slice (some ⟨ga, oa, none⟩) k c10 := by have h := hV 128 (by decide) (by decide); rw [HV.out] at h; exact h
                    have e129 : ρ (.tmp 129) = .int .i64 kk := by have h := hV 129 (by decide) (by decide); rw [HV.out] at h; exact h
                    simp only [execOp]
                    go_simp
                    exact ⟨hC, Below.refl _ _, (by show V 130 _ _; rw [HV.out]; exact rfl)⟩
                  · intro ρ w1 hc hf hg ho hC hV
                    have e130 : ρ (.tmp 130) = .pointer (some ⟨ga, oa + kk, none⟩) := by have h := hV 130 (by decide) (by decide); rw [HV.out] at h; exact h
                    have ca' := cell_below hC ca
                    simp only [execOp]
                    go_simp
                    exact ⟨hC, Below.refl _ _, (by show V 131 _ _; rw [HV.out]; exact rfl)⟩
                  · intro ρ w1 hc hf hg ho hC hV
                    have e127 : ρ (.tmp 127) = .int .i64 S := by have h := hV 127 (by decide) (by decide); rw [HV.out] at h; exact h
                    have e131 : ρ (.tmp 131) = .int .i64 X := by have h := hV 131 (by decide) (by decide); rw [HV.out] at h; exact h
                    simp only [execOp]
                    go_simp
                    exact ⟨hC, Below.refl _ _, (by show V 132 _ _; rw [HV.out]; exact congrArg (Value.int .i64) hS1.out)⟩
                  · intro ρ w1 hc hf hg ho hC hV
                    have e132 : ρ (.tmp 132) = .int .i64 S1 := by have h := hV 132 (by decide) (by decide); rw [HV.out] at h; exact h
                    simp only [execOp]
                    go_simp
                    exact ⟨hC, Below.refl _ _, (by show V 133 _ _; rw [HV.out]; exact rfl)⟩
                  · intro ρ w1 hc hf hg ho hC hV
                    have e9 := ho 9 (by decide)
                    simp only [execOp]
                    go_simp
                    exact ⟨hC, Below.refl _ _, (by show V 134 _ _; rw [HV.out]; exact rfl)⟩
                  · intro ρ w1 hc hf hg ho hC hV
                    have e11 := ho 11 (by decide)
                    simp only [execOp]
                    go_simp
                    exact ⟨hC, Below.refl _ _, (by show V 135 _ _; rw [HV.out]; exact rfl)⟩
                  · intro ρ w1 hc hf hg ho hC hV
                    have e16 := ho 16 (by decide)
                    have ck' := cell_below hC ck
                    simp only [execOp]
                    go_simp
                    exact ⟨hC, Below.refl _ _, (by show V 136 _ _; rw [HV.out]; exact rfl)⟩
                  · intro ρ w1 hc hf hg ho hC hV
                    have e135 : ρ (.tmp 135) = .slice (some ⟨gb, ob, none⟩) k c11 := by have h := hV 135 (by decide) (by decide); rw [HV.out] at h; exact h
                    have e136 : ρ (.tmp 136) = .int .i64 kk := by have h := hV 136 (by decide) (by decide); rw [HV.out] at h; exact h
                    simp only [execOp]
                    go_simp
                    exact ⟨hC, Below.refl _ _, (by show V 137 _ _; rw [HV.out]; exact rfl)⟩
                  · intro ρ w1 hc hf hg ho hC hV
                    have e137 : ρ (.tmp 137) = .pointer (some ⟨gb, ob + kk, none⟩) := by have h := hV 137 (by decide) (by decide); rw [HV.out] at h; exact h
                    have cb' := cell_below hC cb
                    simp only [execOp]
                    go_simp
                    exact ⟨hC, Below.refl _ _, (by show V 138 _ _; rw [HV.out]; exact rfl)⟩
                  · intro ρ w1 hc hf hg ho hC hV
                    have e134 : ρ (.tmp 134) = .int .i64 T := by have h := hV 134 (by decide) (by decide); rw [HV.out] at h; exact h
                    have e138 : ρ (.tmp 138) = .int .i64 Y := by have h := hV 138 (by decide) (by decide); rw [HV.out] at h; exact h
                    simp only [execOp]
                    go_simp
                    exact ⟨hC, Below.refl _ _, (by show V 139 _ _; rw [HV.out]; exact congrArg (Value.int .i64) hT1.out)⟩
                  · intro ρ w1 hc hf hg ho hC hV
                    have e139 : ρ (.tmp 139) = .int .i64 T1 := by have h := hV 139 (by decide) (by decide); rw [HV.out] at h; exact h
                    simp only [execOp]
                    go_simp
                    exact ⟨hC, Below.refl _ _, (by show V 140 _ _; rw [HV.out]; exact rfl)⟩
                  · intro ρ w1 hc hf hg ho hC hV
                    have e133 : ρ (.tmp 133) = .float .f64 (fz S1) := by have h := hV 133 (by decide) (by decide); rw [HV.out] at h; exact h
                    have e140 : ρ (.tmp 140) = .float .f64 (fz T1) := by have h := hV 140 (by decide) (by decide); rw [HV.out] at h; exact h
                    simp only [execOp]
                    go_simp
                    exact ⟨hC, Below.refl _ _, (by show V 141 _ _; rw [HV.out]; exact rfl)⟩
                  · intro ρ w1 hc hf hg ho hC hV
                    have e126 : ρ (.tmp 126) = .complex .f64 (fz S1) (fz T1) := by have h := hV 126 (by decide) (by decide); rw [HV.out] at h; exact h
                    have e141 : ρ (.tmp 141) = .complex .f64 (fz S1) (fz T1) := by have h := hV 141 (by decide) (by decide); rw [HV.out] at h; exact h
                    have q1 := qs1.out
                    have q2 := qt1.out
                    simp only [execOp]
                    go_simp
                    exact ⟨hC, Below.refl _ _, (by show V 142 _ _; rw [HV.out]; exact rfl)⟩
                  · intro ρ w1 hc hf hg ho hC hV
                    have e142 : ρ (.tmp 142) = .bool true := by have h := hV 142 (by decide) (by decide); rw [HV.out] at h; exact h
                    simp only [execOp]
                    go_simp
                    exact ⟨hC, Below.refl _ _, (by show V 143 _ _; rw [HV.out]; exact rfl)⟩
                  · intro ρ w1 hc hf hg ho hC hV
                    refine ⟨143, _, rfl, by have h := hV 143 (by decide) (by decide); rw [HV.out] at h; exact h, ?_⟩
                    rw [if_pos rfl]
                    have e18 := ho 18 (by decide)
                    simp only [execOp]
                    go_simp
                    exact ⟨hC, Below.refl _ _, (by show V 144 _ _; rw [HV.out]; exact rfl)⟩
                  · intro ρ w1 hc hf hg ho hC hV
                    refine ⟨143, _, rfl, by have h := hV 143 (by decide) (by decide); rw [HV.out] at h; exact h, ?_⟩
                    rw [if_pos rfl]
                    have e20 := ho 20 (by decide)
                    simp only [execOp]
                    go_simp
                    exact ⟨hC, Below.refl _ _, (by show V 145 _ _; rw [HV.out]; exact rfl)⟩
                  · intro ρ w1 hc hf hg ho hC hV
                    refine ⟨143, _, rfl, by have h := hV 143 (by decide) (by decide); rw [HV.out] at h; exact h, ?_⟩
                    rw [if_pos rfl]
                    have e19 := ho 19 (by decide)
                    simp only [execOp]
                    go_simp
                    exact ⟨hC, Below.refl _ _, (by show V 146 _ _; rw [HV.out]; exact rfl)⟩
                  · intro ρ w1 hc hf hg ho hC hV
                    refine ⟨143, _, rfl, by have h := hV 143 (by decide) (by decide); rw [HV.out] at h; exact h, ?_⟩
                    rw [if_pos rfl]
                    have e144 : ρ (.tmp 144) = .complex .f64 (fz S1) (fz T1) := by have h := hV 144 (by decide) (by decide); rw [HV.out] at h; exact h
                    have e145 : ρ (.tmp 145) = .complex .f64 (fz S) (fz T) := by have h := hV 145 (by decide) (by decide); rw [HV.out] at h; exact h
                    have e146 : ρ (.tmp 146) = .slice (some ⟨g19, 0, none⟩) 1 1 := by have h := hV 146 (by decide) (by decide); rw [HV.out] at h; exact h
                    simp only [execOp]
                    go_simp
                    refine (fits_any (some ⟨g19, 0, none⟩) 1 [⟨⟨#[122]⟩, fz X, fz Y⟩] (by simp) (fz S1) (fz T1) (fz S) (fz T) (fz S, fz T) hfit.out w1 (RowOf.of_blk (cells := Item.cells) (size := 2) (fun _ => rfl) (blk_below h19.out hC) rfl)).mono ?_
                    rintro e w2 ⟨rfl, hb2⟩
                    rw [le1.out]
                    exact ⟨_, rfl, below_step hC hb2, hb2, (by show V 147 _ _; rw [HV.out]; exact rfl)⟩
                  · intro ρ w1 hc hf hg ho hC hV
                    have e143 : ρ (.tmp 143) = .bool true := by have h := hV 143 (by decide) (by decide); rw [HV.out] at h; exact h
                    have e147 : ρ (.tmp 147) = .bool true := by have h := hV 147 (by decide) (by decide); rw [HV.out] at h; exact h
                    simp only [execOp]
                    go_simp
                    exact ⟨hC, Below.refl _ _, (by show V 148 _ _; rw [HV.out]; exact rfl)⟩
                  · intro ρ w1 hc hf hg ho hC hV
                    have e148 : ρ (.tmp 148) = .bool true := by have h := hV 148 (by decide) (by decide); rw [HV.out] at h; exact h
                    simp only [execOp]
                    go_simp
                    exact ⟨hC, Below.refl _ _, (by show V 149 _ _; rw [HV.out]; exact rfl)⟩
                  · intro ρ w1 hc hf hg ho hC hV
                    refine ⟨149, _, rfl, by have h := hV 149 (by decide) (by decide); rw [HV.out] at h; exact h, ?_⟩
                    rw [if_pos rfl]
                    have e18 := ho 18 (by decide)
                    simp only [execOp]
                    go_simp
                    exact ⟨hC, Below.refl _ _, (by show V 150 _ _; rw [HV.out]; exact rfl)⟩
                  · intro ρ w1 hc hf hg ho hC hV
                    refine ⟨149, _, rfl, by have h := hV 149 (by decide) (by decide); rw [HV.out] at h; exact h, ?_⟩
                    rw [if_pos rfl]
                    have e20 := ho 20 (by decide)
                    simp only [execOp]
                    go_simp
                    exact ⟨hC, Below.refl _ _, (by show V 151 _ _; rw [HV.out]; exact rfl)⟩
                  · intro ρ w1 hc hf hg ho hC hV
                    refine ⟨149, _, rfl, by have h := hV 149 (by decide) (by decide); rw [HV.out] at h; exact h, ?_⟩
                    rw [if_pos rfl]
                    have e151 : ρ (.tmp 151) = .complex .f64 (fz S) (fz T) := by have h := hV 151 (by decide) (by decide); rw [HV.out] at h; exact h
                    have hs1 := hsub1.out
                    simp only [execOp]
                    go_simp
                    exact ⟨hC, Below.refl _ _, (by show V 152 _ _; rw [HV.out]; exact rfl)⟩
                  · intro ρ w1 hc hf hg ho hC hV
                    refine ⟨149, _, rfl, by have h := hV 149 (by decide) (by decide); rw [HV.out] at h; exact h, ?_⟩
                    rw [if_pos rfl]
                    have e19 := ho 19 (by decide)
                    simp only [execOp]
                    go_simp
                    exact ⟨hC, Below.refl _ _, (by show V 153 _ _; rw [HV.out]; exact rfl)⟩
                  · intro ρ w1 hc hf hg ho hC hV
                    refine ⟨149, _, rfl, by have h := hV 149 (by decide) (by decide); rw [HV.out] at h; exact h, ?_⟩
                    rw [if_pos rfl]
                    have e150 : ρ (.tmp 150) = .complex .f64 (fz S1) (fz T1) := by have h := hV 150 (by decide) (by decide); rw [HV.out] at h; exact h
                    have e152 : ρ (.tmp 152) = .complex .f64 (fz S) (fz T9) := by have h := hV 152 (by decide) (by decide); rw [HV.out] at h; exact h
                    have e153 : ρ (.tmp 153) = .slice (some ⟨g19, 0, none⟩) 1 1 := by have h := hV 153 (by decide) (by decide); rw [HV.out] at h; exact h
                    simp only [execOp]
                    go_simp
                    refine (fits_any (some ⟨g19, 0, none⟩) 1 [⟨⟨#[122]⟩, fz X, fz Y⟩] (by simp) (fz S1) (fz T1) (fz S) (fz T9) (fz S, fz T) hfit.out w1 (RowOf.of_blk (cells := Item.cells) (size := 2) (fun _ => rfl) (blk_below h19.out hC) rfl)).mono ?_
                    rintro e w2 ⟨rfl, hb2⟩
                    rw [le2.out]
                    exact ⟨_, rfl, below_step hC hb2, hb2, (by show V 154 _ _; rw [HV.out]; exact rfl)⟩
                  · intro ρ w1 hc hf hg ho hC hV
                    refine ⟨149, _, rfl, by have h := hV 149 (by decide) (by decide); rw [HV.out] at h; exact h, ?_⟩
                    rw [if_pos rfl]
                    have e154 : ρ (.tmp 154) = .bool false := by have h := hV 154 (by decide) (by decide); rw [HV.out] at h; exact h
                    simp only [execOp]
                    go_simp
                    exact ⟨hC, Below.refl _ _, (by show V 155 _ _; rw [HV.out]; exact rfl)⟩
                  · intro ρ w1 hc hf hg ho hC hV
                    have e149 : ρ (.tmp 149) = .bool true := by have h := hV 149 (by decide) (by decide); rw [HV.out] at h; exact h
                    have e155 : ρ (.tmp 155) = .bool true := by have h := hV 155 (by decide) (by decide); rw [HV.out] at h; exact h
                    simp only [execOp]
                    go_simp
                    exact ⟨hC, Below.refl _ _, (by show V 156 _ _; rw [HV.out]; exact rfl)⟩
                  · intro ρ w1 hc hf hg ho hC hV
                    have e156 : ρ (.tmp 156) = .bool true := by have h := hV 156 (by decide) (by decide); rw [HV.out] at h; exact h
                    simp only [execOp]
                    go_simp
                    exact ⟨hC, Below.refl _ _, (by show V 157 _ _; rw [HV.out]; exact rfl)⟩
                  · intro ρ w1 hc hf hg ho hC hV
                    refine ⟨157, _, rfl, by have h := hV 157 (by decide) (by decide); rw [HV.out] at h; exact h, ?_⟩
                    rw [if_pos rfl]
                    have e8 := ho 8 (by decide)
                    simp only [execOp]
                    go_simp
                    exact ⟨hC, Below.refl _ _, (by show V 158 _ _; rw [HV.out]; exact rfl)⟩
                  · intro ρ w1 hc hf hg ho hC hV
                    refine ⟨157, _, rfl, by have h := hV 157 (by decide) (by decide); rw [HV.out] at h; exact h, ?_⟩
                    rw [if_pos rfl]
                    have e158 : ρ (.tmp 158) = .int .i64 S := by have h := hV 158 (by decide) (by decide); rw [HV.out] at h; exact h
                    have hz1 := hz0.out
                    simp only [execOp]
                    go_simp
                    exact ⟨hC, Below.refl _ _, (by show V 159 _ _; rw [HV.out]; exact rfl)⟩
                  · intro ρ w1 hc hf hg ho hC hV
                    refine ⟨157, _, rfl, by have h := hV 157 (by decide) (by decide); rw [HV.out] at h; exact h, ?_⟩
                    rw [if_pos rfl]
                    have e159 : ρ (.tmp 159) = .bool false := by have h := hV 159 (by decide) (by decide); rw [HV.out] at h; exact h
                    simp only [execOp]
                    go_simp
                    exact ⟨hC, Below.refl _ _, (by show V 160 _ _; rw [HV.out]; exact rfl)⟩
                  · intro ρ w1 hc hf hg ho hC hV
                    refine ⟨160, _, rfl, by have h := hV 160 (by decide) (by decide); rw [HV.out] at h; exact h, ?_⟩
                    rw [if_pos rfl]
                    have e18 := ho 18 (by decide)
                    simp only [execOp]
                    go_simp
                    exact ⟨hC, Below.refl _ _, (by show V 161 _ _; rw [HV.out]; exact rfl)⟩
                  · intro ρ w1 hc hf hg ho hC hV
                    refine ⟨160, _, rfl, by have h := hV 160 (by decide) (by decide); rw [HV.out] at h; exact h, ?_⟩
                    rw [if_pos rfl]
                    have e20 := ho 20 (by decide)
                    simp only [execOp]
                    go_simp
                    exact ⟨hC, Below.refl _ _, (by show V 162 _ _; rw [HV.out]; exact rfl)⟩
                  · intro ρ w1 hc hf hg ho hC hV
                    refine ⟨160, _, rfl, by have h := hV 160 (by decide) (by decide); rw [HV.out] at h; exact h, ?_⟩
                    rw [if_pos rfl]
                    have e162 : ρ (.tmp 162) = .complex .f64 (fz S) (fz T) := by have h := hV 162 (by decide) (by decide); rw [HV.out] at h; exact h
                    have hs1 := hsub2.out
                    simp only [execOp]
                    go_simp
                    exact ⟨hC, Below.refl _ _, (by show V 163 _ _; rw [HV.out]; exact rfl)⟩
                  · intro ρ w1 hc hf hg ho hC hV
                    refine ⟨160, _, rfl, by have h := hV 160 (by decide) (by decide); rw [HV.out] at h; exact h, ?_⟩
                    rw [if_pos rfl]
                    have e19 := ho 19 (by decide)
                    simp only [execOp]
                    go_simp
                    exact ⟨hC, Below.refl _ _, (by show V 164 _ _; rw [HV.out]; exact rfl)⟩
                  · intro ρ w1 hc hf hg ho hC hV
                    refine ⟨160, _, rfl, by have h := hV 160 (by decide) (by decide); rw [HV.out] at h; exact h, ?_⟩
                    rw [if_pos rfl]
                    have e161 : ρ (.tmp 161) = .complex .f64 (fz S1) (fz T1) := by have h := hV 161 (by decide) (by decide); rw [HV.out] at h; exact h
                    have e163 : ρ (.tmp 163) = .complex .f64 (fz S9) (fz T) := by have h := hV 163 (by decide) (by decide); rw [HV.out] at h; exact h
                    have e164 : ρ (.tmp 164) = .slice (some ⟨g19, 0, none⟩) 1 1 := by have h := hV 164 (by decide) (by decide); rw [HV.out] at h; exact h
                    simp only [execOp]
                    go_simp
                    refine (fits_any (some ⟨g19, 0, none⟩) 1 [⟨⟨#[122]⟩, fz X, fz Y⟩] (by simp) (fz S1) (fz T1) (fz S9) (fz T) (fz S, fz T) hfit.out w1 (RowOf.of_blk (cells := Item.cells) (size := 2) (fun _ => rfl) (blk_below h19.out hC) rfl)).mono ?_
                    rintro e w2 ⟨rfl, hb2⟩
                    rw [le3.out]
                    exact ⟨_, rfl, below_step hC hb2, hb2, (by show V 165 _ _; rw [HV.out]; exact rfl)⟩
                  · intro ρ w1 hc hf hg ho hC hV
                    refine ⟨160, _, rfl, by have h := hV 160 (by decide) (by decide); rw [HV.out] at h; exact h, ?_⟩
                    rw [if_pos rfl]
                    have e165 : ρ (.tmp 165) = .bool false := by have h := hV 165 (by decide) (by decide); rw [HV.out] at h; exact h
                    simp only [execOp]
                    go_simp
                    exact ⟨hC, Below.refl _ _, (by show V 166 _ _; rw [HV.out]; exact rfl)⟩
                  · intro ρ w1 hc hf hg ho hC hV
                    refine ⟨157, _, rfl, by have h := hV 157 (by decide) (by decide); rw [HV.out] at h; exact h, ?_⟩
                    rw [if_pos rfl]
                    have e160 : ρ (.tmp 160) = .bool false := by have h := hV 160 (by decide) (by decide); rw [HV.out] at h; exact h
                    have e166 : ρ (.tmp 166) = .bool true := by have h := hV 166 (by decide) (by decide); rw [HV.out] at h; exact h
                    simp only [execOp]
                    go_simp
                    exact ⟨hC, Below.refl _ _, (by show V 167 _ _; rw [HV.out]; exact rfl)⟩
                  · intro ρ w1 hc hf hg ho hC hV
                    have e157 : ρ (.tmp 157) = .bool true := by have h := hV 157 (by decide) (by decide); rw [HV.out] at h; exact h
                    have e167 : ρ (.tmp 167) = .bool true := by have h := hV 167 (by decide) (by decide); rw [HV.out] at h; exact h
                    simp only [execOp]
                    go_simp
                    exact ⟨hC, Below.refl _ _, (by show V 168 _ _; rw [HV.out]; exact rfl)⟩
                  · intro ρ w1 hc hf hg ho hC hV
                    have e168 : ρ (.tmp 168) = .bool true := by have h := hV 168 (by decide) (by decide); rw [HV.out] at h; exact h
                    simp only [execOp]
                    go_simp
                    exact ⟨hC, Below.refl _ _, (by show V 169 _ _; rw [HV.out]; exact rfl)⟩
                  · intro ρ w1 hc hf hg ho hC hV
                    refine ⟨169, _, rfl, by have h := hV 169 (by decide) (by decide); rw [HV.out] at h; exact h, ?_⟩
                    rw [if_pos rfl]
                    have e15 := ho 15 (by decide)
                    simp only [execOp]
                    go_simp
                    exact ⟨hC, Below.refl _ _, (by show V 170 _ _; rw [HV.out]; exact rfl)⟩
                  · intro ρ w1 hc hf hg ho hC hV
                    refine ⟨169, _, rfl, by have h := hV 169 (by decide) (by decide); rw [HV.out] at h; exact h, ?_⟩
                    rw [if_pos rfl]
                    have e17 := ho 17 (by decide)
                    simp only [execOp]
                    go_simp
                    exact ⟨hC, Below.refl _ _, (by show V 171 _ _; rw [HV.out]; exact rfl)⟩
                  · intro ρ w1 hc hf hg ho hC hV
                    refine ⟨169, _, rfl, by have h := hV 169 (by decide) (by decide); rw [HV.out] at h; exact h, ?_⟩
                    rw [if_pos rfl]
                    have e170 : ρ (.tmp 170) = .slice A15 k c15 := by have h := hV 170 (by decide) (by decide); rw [HV.out] at h; exact h
                    have e171 : ρ (.tmp 171) = .func (.func 24) #[] #[.pointer (some ⟨gk, 0, none⟩)] := by have h := hV 171 (by decide) (by decide); rw [HV.out] at h; exact h
                    simp only [execOp]
                    go_simp
                    refine (openR A15 c15 xs ys k kk gk hk8 hkk w1 (cell_below hC ck) (RowOf.below hrow15.out hC)).mono ?_
                    rintro e w2 ⟨A2_, c2_, rfl, hb2⟩
                    exact ⟨_, rfl, below_step hC hb2, hb2, (by show V 172 _ _; rw [HV.out]; exact ⟨_, _, rfl⟩)⟩
                  · intro ρ w1 hc hf hg ho hC hV
                    refine ⟨169, _, rfl, by have h := hV 169 (by decide) (by decide); rw [HV.out] at h; exact h, ?_⟩
                    rw [if_pos rfl]
                    have e172 : QSpec.holds (.sl (k - 1)) (ρ (.tmp 172)) w1 := by have h := hV 172 (by decide) (by decide); rw [HV.out] at h; exact h
                    obtain ⟨A172, c172, e172⟩ := e172
                    simp only [execOp]
                    go_simp
                    exact ⟨hC, Below.refl _ _, (by show V 173 _ _; rw [HV.out]; exact rfl)⟩
                  · intro ρ w1 hc hf hg ho hC hV
                    refine ⟨169, _, rfl, by have h := hV 169 (by decide) (by decide); rw [HV.out] at h; exact h, ?_⟩
                    rw [if_pos rfl]
                    have e7 := ho 7 (by decide)
                    simp only [execOp]
                    go_simp
                    exact ⟨hC, Below.refl _ _, (by show V 174 _ _; rw [HV.out]; exact rfl)⟩
                  · intro ρ w1 hc hf hg ho hC hV
                    refine ⟨169, _, rfl, by have h := hV 169 (by decide) (by decide); rw [HV.out] at h; exact h, ?_⟩
                    rw [if_pos rfl]
                    have e174 : ρ (.tmp 174) = .slice A7 k c7 := by have h := hV 174 (by decide) (by decide); rw [HV.out] at h; exact h
                    simp only [execOp]
                    go_simp
                    exact ⟨hC, Below.refl _ _, (by show V 175 _ _; rw [HV.out]; exact rfl)⟩
                  · intro ρ w1 hc hf hg ho hC hV
                    refine ⟨169, _, rfl, by have h := hV 169 (by decide) (by decide); rw [HV.out] at h; exact h, ?_⟩
                    rw [if_pos rfl]
                    have e175 : ρ (.tmp 175) = .int .i64 k := by have h := hV 175 (by decide) (by decide); rw [HV.out] at h; exact h
                    simp only [execOp]
                    go_simp
                    exact ⟨hC, Below.refl _ _, (by show V 176 _ _; rw [HV.out]; exact congrArg (Value.int .i64) hk1w.out)⟩
                  · intro ρ w1 hc hf hg ho hC hV
                    refine ⟨169, _, rfl, by have h := hV 169 (by decide) (by decide); rw [HV.out] at h; exact h, ?_⟩
                    rw [if_pos rfl]
                    have e173 : ρ (.tmp 173) = .int .i64 (k - 1 : Nat) := by have h := hV 173 (by decide) (by decide); rw [HV.out] at h; exact h
                    have e176 : ρ (.tmp 176) = .int .i64 (k - 1 : Nat) := by have h := hV 176 (by decide) (by decide); rw [HV.out] at h; exact h
                    have hz1 : (((k - 1 : Nat) : Int) == ((k - 1 : Nat) : Int)) = true := beq_self_eq_true _
                    simp only [execOp]
                    go_simp
                    exact ⟨hC, Below.refl _ _, (by show V 177 _ _; rw [HV.out]; exact rfl)⟩
                  · intro ρ w1 hc hf hg ho hC hV
                    have e169 : ρ (.tmp 169) = .bool true := by have h := hV 169 (by decide) (by decide); rw [HV.out] at h; exact h
                    have e177 : ρ (.tmp 177) = .bool true := by have h := hV 177 (by decide) (by decide); rw [HV.out] at h; exact h
                    simp only [execOp]
                    go_simp
                    exact ⟨hC, Below.refl _ _, (by show V 178 _ _; rw [HV.out]; exact rfl)⟩
                  · intro ρ w1 hc hf hg ho hC hV
                    have e178 : ρ (.tmp 178) = .bool true := by have h := hV 178 (by decide) (by decide); rw [HV.out] at h; exact h
                    simp only [execOp]
                    go_simp
                    exact ⟨hC, Below.refl _ _, (by show V 179 _ _; rw [HV.out]; exact rfl)⟩
                  · intro ρ w1 hc hf hg ho hC hV
                    refine ⟨179, _, rfl, by have h := hV 179 (by decide) (by decide); rw [HV.out] at h; exact h, ?_⟩
                    rw [if_pos rfl]
                    simp only [execOp]
                    go_simp
                    refine (fits_any none 0 [] (by simp) 0 0 0 0 (0, 0) rfl w1 (RowOf.nil _ _ _ _)).mono ?_
                    rintro e w2 ⟨rfl, hb2⟩
                    rw [le0]
                    exact ⟨_, rfl, below_step hC hb2, hb2, (by show V 180 _ _; rw [HV.out]; exact rfl)⟩
                  · intro ρ w1 hc hf hg ho hC hV
                    have e179 : ρ (.tmp 179) = .bool true := by have h := hV 179 (by decide) (by decide); rw [HV.out] at h; exact h
                    have e180 : ρ (.tmp 180) = .bool true := by have h := hV 180 (by decide) (by decide); rw [HV.out] at h; exact h
                    simp only [execOp]
                    go_simp
                    exact ⟨hC, Below.refl _ _, (by show V 181 _ _; rw [HV.out]; exact rfl)⟩
                  · intro ρ w1 hc hf hg ho hC hV
                    have e181 : ρ (.tmp 181) = .bool true := by have h := hV 181 (by decide) (by decide); rw [HV.out] at h; exact h
                    simp only [execOp]
                    go_simp
                    exact ⟨hC, Below.refl _ _, (by show V 182 _ _; rw [HV.out]; exact rfl)⟩
                  · intro ρ w1 hc hf hg ho hC hV
                    refine ⟨182, _, rfl, by have h := hV 182 (by decide) (by decide); rw [HV.out] at h; exact h, ?_⟩
                    rw [if_pos rfl]
                    simp only [execOp]
                    go_simp
                    refine (wakes17 w1).mono ?_
                    rintro e w2 ⟨rfl, hb2⟩
                    exact ⟨_, rfl, below_step hC hb2, hb2, (by show V 183 _ _; rw [HV.out]; exact rfl)⟩
                  · intro ρ w1 hc hf hg ho hC hV
                    have e182 : ρ (.tmp 182) = .bool true := by have h := hV 182 (by decide) (by decide); rw [HV.out] at h; exact h
                    have e183 : ρ (.tmp 183) = .bool true := by have h := hV 183 (by decide) (by decide); rw [HV.out] at h; exact h
                    simp only [execOp]
                    go_simp
                    exact ⟨hC, Below.refl _ _, (by show V 184 _ _; rw [HV.out]; exact rfl)⟩
                  · intro ρ w1 hc hf hg ho hC hV
                    have e184 : ρ (.tmp 184) = .bool true := by have h := hV 184 (by decide) (by decide); rw [HV.out] at h; exact h
                    simp only [execOp]
                    go_simp
                    exact ⟨hC, Below.refl _ _, (by show V 6 _ _; rw [HV.out]; exact rfl)⟩
                · intro σ w1 hC hV
                  have v6 : σ 6 = .bool true := by have h := hV 6 (by decide); rw [HV.out] at h; exact h
                  clear hV HV V
                  dsimp only [dsts, List.filterMap, putAll, Act.put]
                  have hbx7 := below_step hbx5 hC
                  clear hC hbx5 ck ca cb
                  rw [v6]
                  clear v6
                  go_simp
                  go_wp2
                  go_ret
                  exact ⟨rfl, hbx7⟩
        · clear hlt
          go_wp2_with fail
          refine (rowsKR A7 c7 xs ys G k hGlH.out hk8 wo hent.out).mono ?_
          rintro e x1 ⟨v15, rfl, hown15, hx1⟩
          obtain ⟨A15, c15, hv⟩ := own_slice hown15
          subst hv
          have hrow15 := Lib.hid (own_rowOf (cells := RowT.cells) (fun _ => rfl) (by decide) hown15).2
          have own10a := Lib.hid (own_below own10.out hx1)
          have own11a := Lib.hid (own_below own11.out hx1)
          have hbx1 := below_step hb hx1
          clear hown15 own10 own11 hb hent hx1
          have qs : Hid ((FloatKind.f64.format.order (fz S) (fz S) == some .eq) = true) := selfEq_fz S (by omega)
          have qt : Hid ((FloatKind.f64.format.order (fz T) (fz T) == some .eq) = true) := selfEq_fz T (by omega)
          have hU := Lib.hid (usedAll A15 c15 xs ys k hk8 x1 hrow15.out)
          rw [← hSH.out, ← hTH.out] at hU
          go_wp2_with fail
          refine hU.out.mono ?_
          clear hU
          rintro e x2 ⟨rfl, hx2⟩
          have hbx2 := below_step hbx1 hx2
          have hrow15a := Lib.hid (hrow15.out.below hx2)
          have own10b := Lib.hid (own_below own10a.out hx2)
          have own11b := Lib.hid (own_below own11a.out hx2)
          clear hbx1 hx2 hrow15 own10a own11a
          have f1 : floatOfInt .f64 (S : Int) = fz S := rfl
          have f2 : floatOfInt .f64 (T : Int) = fz T := rfl
          have qs' := qs.out
          have qt' := qt.out
          by_cases hk0 : k = 0
          · subst hk0
            go_wp2_with fail
            refine (wakes17 x2).mono ?_
            rintro e x3 ⟨rfl, hx3⟩
            go_wp2
            go_ret
            exact ⟨rfl, below_step hbx2 hx3⟩
          · have hk0' : ((k : Int) == 0) = false := by rw [beq_eq_false_iff_ne]; omega
            clear hk0
            have hkp : 1 ≤ k := by
              have := beq_eq_false_iff_ne.1 hk0'
              omega
            have hm0 : 0 ≤ v % (k : Int) := Int.emod_nonneg v (by omega)
            have hm1 : v % (k : Int) < k := Int.emod_lt_of_pos v (by omega)
            go_wp2_with fail
            refine (within18 v k (by omega) (by omega) x2).mono ?_
            rintro e x3 ⟨rfl, rfl⟩
            obtain ⟨kk, hkk'⟩ : ∃ kk : Nat, v % (k : Int) = (kk : Int) := ⟨(v % (k : Int)).toNat, by omega⟩
            rw [hkk']
            have hkk : kk < k := by omega
            clear hkk' hm0 hm1 qs' qt' f1 f2
            obtain ⟨x2, hx2⟩ : ∃ x, x = x2 := ⟨_, rfl⟩
            rw [← hx2]
            rw [← hx2] at hbx2 hrow15a own10b own11b
            clear hx2
            go_upto_region 18 with (fail)
            generalize hW : x2.alloc _ = x3
            have ck : x3.cell? ⟨x2.heap.size, 0, none⟩ = some (.int .i64 kk) := by rw [← hW, cell_new]; rfl
            have hx3 : Below x2.heap.size x2 x3 := by rw [← hW]; exact below_alloc (Below.refl _ _) _
            have hbx3 := below_step hbx2 hx3
            have hrow15 := Lib.hid (hrow15a.out.below hx3)
            have own10c := Lib.hid (own_below own10b.out hx3)
            have own11c := Lib.hid (own_below own11b.out hx3)
            clear hW hbx2 hx3 hrow15a own10b own11b
            obtain ⟨gk, hgk⟩ : ∃ g, g = x2.heap.size := ⟨_, rfl⟩
            rw [← hgk] at ck ⊢
            clear hgk
            have hU := Lib.hid (usedBut A15 c15 xs ys k kk gk hk8 hkk x3 ck hrow15.out)
            have hs1 := but_sum (kx xs) k kk
            have ht1 := but_sum (ky ys) k kk
            rw [if_pos hkk, ← hSH.out] at hs1
            rw [if_pos hkk, ← hTH.out] at ht1
            obtain ⟨S1, hS1'⟩ : ∃ S1, S1 = ((but k kk).map (kx xs)).sum := ⟨_, rfl⟩
            obtain ⟨T1, hT1'⟩ : ∃ T1, T1 = ((but k kk).map (ky ys)).sum := ⟨_, rfl⟩
            rw [← hS1'] at hU hs1
            rw [← hT1'] at hU ht1
            have hXb := kx_lt xs kk
            have hYb := ky_lt ys kk
            obtain ⟨X, hX'⟩ : ∃ X, X = kx xs kk := ⟨_, rfl⟩
            obtain ⟨Y, hY'⟩ : ∃ Y, Y = ky ys kk := ⟨_, rfl⟩
            rw [← hX'] at hXb hs1
            rw [← hY'] at hYb ht1
            have hgetA := kaL_get xs k kk hkk
            have hgetB := kbL_get ys k kk hkk
            rw [← hX'] at hgetA
            rw [← hY'] at hgetB
            obtain ⟨hla, hra⟩ := own_introw own10c.out
            obtain ⟨hlb, hrb⟩ := own_introw own11c.out
            obtain ⟨ga, oa, hAa, hca⟩ := hra (by omega)
            obtain ⟨gb, ob, hAb, hcb⟩ := hrb (by omega)
            subst hAa
            subst hAb
            have ca : x3.cell? ⟨ga, oa + kk, none⟩ = some (.int .i64 X) := by have := hca kk _ hgetA 0 _ rfl; simpa using this
            have cb : x3.cell? ⟨gb, ob + kk, none⟩ = some (.int .i64 Y) := by have := hcb kk _ hgetB 0 _ rfl; simpa using this
            have hS1 : Hid (IntKind.i64.wrap ((S : Int) - X) = (S1 : Int)) := by
              show _ = _
              rw [IntWalk.i64_in _ (by omega)]
              omega
            have hT1 : Hid (IntKind.i64.wrap ((T : Int) - Y) = (T1 : Int)) := by
              show _ = _
              rw [IntWalk.i64_in _ (by omega)]
              omega
            have hk1w : Hid (IntKind.i64.wrap ((k : Int) - 1) = ((k - 1 : Nat) : Int)) := by
              show _ = _
              rw [IntWalk.i64_in _ (by omega)]
              omega
            have hfit : Hid (sumGo (0, 0) ((fz S1, fz T1) :: [(⟨⟨#[122]⟩, fz X, fz Y⟩ : Item)].map Item.cx) = some (fz S, fz T)) := by
              have h := fit_sum S1 T1 X Y (by omega) (by omega) ⟨#[122]⟩
              rw [show S1 + X = S by omega, show T1 + Y = T by omega] at h
              exact h
            obtain ⟨S9, hS9⟩ : ∃ S9, S9 = S - 1 := ⟨_, rfl⟩
            obtain ⟨T9, hT9⟩ : ∃ T9, T9 = T - 1 := ⟨_, rfl⟩
            have le1 : Hid ((leB (fz S) (fz S) && leB (fz T) (fz T)) = true) := by
              show _ = _
              rw [leB_fz _ _ (by omega) (by omega), leB_fz _ _ (by omega) (by omega)]
              simp
            have le2 : Hid ((leB (fz S) (fz S) && leB (fz T) (fz T9)) = false) := by
              show _ = _
              rw [leB_fz _ _ (by omega) (by omega), leB_fz T T9 (by omega) (by omega), decide_eq_false (show ¬ T ≤ T9 by omega)]
              simp
            have hsub1 : Hid (∀ w, (binOp .sub 47 (.complex .f64 (fz S) (fz T)) (.complex .f64 0 4607182418800017408)).run Try.prog w = .ok (.complex .f64 (fz S) (fz T9)) w) := by
              intro w
              have h := sub_fz S T 0 1 (by omega) (by omega) (by omega) (by omega)
              rw [show ((0 : Nat) : Int) = 0 from rfl, show ((1 : Nat) : Int) = 1 from rfl, fz_zero, fz_one, Nat.sub_zero, ← hT9] at h
              exact run_complex_sum w .sub (.inr rfl) 47 .f64 _ _ _ _ _ _ h
            obtain ⟨hYb1, hYb2⟩ := hYb
            have hS9H := Lib.hid hS9
            have hS1b : S1 ≤ S := by omega
            have hT1b : T1 ≤ T := by omega
            clear hS9 hT9 hs1 ht1 own10c own11c hra hrb hca hcb hgetA hgetB hS1' hT1' hX' hY' hla hlb
            go_wp2_with fail
            refine hU.out.mono ?_
            clear hU
            rintro e x4 ⟨rfl, hx4⟩
            have hbx4 := below_step hbx3 hx4
            replace ck := cell_below hx4 ck
            replace ca := cell_below hx4 ca
            replace cb := cell_below hx4 cb
            have hrow15b := Lib.hid (hrow15.out.below hx4)
            clear hbx3 hx4 hrow15
            go_wp2_with fail
            obtain ⟨x5, hx5⟩ : ∃ x, x = x4 := ⟨_, rfl⟩
            rw [← hx5]
            rw [← hx5] at hbx4 ck ca cb hrow15b
            clear hx5
            obtain ⟨V, HV⟩ : ∃ V : Tmp → Value → World → Prop, Hid (V = fun sl_ v_ w_ => QSpec.holds (match sl_ with | 19 => .row 1 50 [.string ⟨#[122]⟩, .complex .f64 (fz X) (fz Y)] | 108 => .det (.slice (some ⟨ga, oa, none⟩) k c10) | 109 => .det (.int .i64 kk) | 110 => .det (.pointer (some ⟨ga, oa + kk, none⟩)) | 111 => .det (.int .i64 X) | 112 => .det (.float .f64 (fz X)) | 113 => .det (.slice (some ⟨gb, ob, none⟩) k c11) | 114 => .det (.int .i64 kk) | 115 => .det (.pointer (some ⟨gb, ob + kk, none⟩)) | 116 => .det (.int .i64 Y) | 117 => .det (.float .f64 (fz Y)) | 118 => .det (.complex .f64 (fz X) (fz Y)) | 119 => .det (.agg #[.string ⟨#[122]⟩, .complex .f64 (fz X) (fz Y)]) | 120 => .row 1 50 [.string ⟨#[122]⟩, .complex .f64 (fz X) (fz Y)] | _ => .any) v_ w_) := ⟨_, rfl⟩
            refine wp_region_loose (Below x5.heap.size x5 ·) (fun w_ w_2 => Below w_.heap.size w_ w_2) V (by kernel_rfl) (by kernel_rfl) (by kernel_rfl) (Below.refl _ _).drew (fun w_ => Below.refl _ _) ?_ ?_ ?_
            · intro t v w w' hC hR h
              rw [HV.out] at h ⊢
              exact QSpec.mono hR _ _ h
            · go_light
              simp only [List.forall_mem_cons]
              refine ⟨?_, ?_, ?_, ?_, ?_, ?_, ?_, ?_, ?_, ?_, ?_, ?_, ?_, ?_, fun _ h => by cases h⟩
              · intro ρ w1 hc hf hg ho hC hV
                have e10 := ho 10 (by decide)
                simp only [execOp]
                go_simp
                exact ⟨hC, Below.refl _ _, (by show V 108 _ _; rw [HV.out]; exact rfl)⟩
              · intro ρ w1 hc hf hg ho hC hV
                have e16 := ho 16 (by decide)
                have ck' := cell_below hC ck
                simp only [execOp]
                go_simp
                exact ⟨hC, Below.refl _ _, (by show V 109 _ _; rw [HV.out]; exact rfl)⟩
              · intro ρ w1 hc hf hg ho hC hV
                have e108 : ρ (.tmp 108) = .slice (some ⟨ga, oa, none⟩) k c10 := by have h := hV 108 (by decide) (by decide); rw [HV.out] at h; exact h
                have e109 : ρ (.tmp 109) = .int .i64 kk := by have h := hV 109 (by decide) (by decide); rw [HV.out] at h; exact h
                simp only [execOp]
                go_simp
                exact ⟨hC, Below.refl _ _, (by show V 110 _ _; rw [HV.out]; exact rfl)⟩
              · intro ρ w1 hc hf hg ho hC hV
                have e110 : ρ (.tmp 110) = .pointer (some ⟨ga, oa + kk, none⟩) := by have h := hV 110 (by decide) (by decide); rw [HV.out] at h; exact h
                have ca' := cell_below hC ca
                simp only [execOp]
                go_simp
                exact ⟨hC, Below.refl _ _, (by show V 111 _ _; rw [HV.out]; exact rfl)⟩
              · intro ρ w1 hc hf hg ho hC hV
                have e111 : ρ (.tmp 111) = .int .i64 X := by have h := hV 111 (by decide) (by decide); rw [HV.out] at h; exact h
                simp only [execOp]
                go_simp
                exact ⟨hC, Below.refl _ _, (by show V 112 _ _; rw [HV.out]; exact rfl)⟩
              · intro ρ w1 hc hf hg ho hC hV
                have e11 := ho 11 (by decide)
                simp only [execOp]
                go_simp
                exact ⟨hC, Below.refl _ _, (by show V 113 _ _; rw [HV.out]; exact rfl)⟩
              · intro ρ w1 hc hf hg ho hC hV
                have e16 := ho 16 (by decide)
                have ck' := cell_below hC ck
                simp only [execOp]
                go_simp
                exact ⟨hC, Below.refl _ _, (by show V 114 _ _; rw [HV.out]; exact rfl)⟩
              · intro ρ w1 hc hf hg ho hC hV
                have e113 : ρ (.tmp 113) = .slice (some ⟨gb, ob, none⟩) k c11 := by have h := hV 113 (by decide) (by decide); rw [HV.out] at h; exact h
                have e114 : ρ (.tmp 114) = .int .i64 kk := by have h := hV 114 (by decide) (by decide); rw [HV.out] at h; exact h
                simp only [execOp]
                go_simp
                exact ⟨hC, Below.refl _ _, (by show V 115 _ _; rw [HV.out]; exact rfl)⟩
              · intro ρ w1 hc hf hg ho hC hV
                have e115 : ρ (.tmp 115) = .pointer (some ⟨gb, ob + kk, none⟩) := by have h := hV 115 (by decide) (by decide); rw [HV.out] at h; exact h
                have cb' := cell_below hC cb
                simp only [execOp]
                go_simp
                exact ⟨hC, Below.refl _ _, (by show V 116 _ _; rw [HV.out]; exact rfl)⟩
              · intro ρ w1 hc hf hg ho hC hV
                have e116 : ρ (.tmp 116) = .int .i64 Y := by have h := hV 116 (by decide) (by decide); rw [HV.out] at h; exact h
                simp only [execOp]
                go_simp
                exact ⟨hC, Below.refl _ _, (by show V 117 _ _; rw [HV.out]; exact rfl)⟩
              · intro ρ w1 hc hf hg ho hC hV
                have e112 : ρ (.tmp 112) = .float .f64 (fz X) := by have h := hV 112 (by decide) (by decide); rw [HV.out] at h; exact h
                have e117 : ρ (.tmp 117) = .float .f64 (fz Y) := by have h := hV 117 (by decide) (by decide); rw [HV.out] at h; exact h
                simp only [execOp]
                go_simp
                exact ⟨hC, Below.refl _ _, (by show V 118 _ _; rw [HV.out]; exact rfl)⟩
              · intro ρ w1 hc hf hg ho hC hV
                have e118 : ρ (.tmp 118) = .complex .f64 (fz X) (fz Y) := by have h := hV 118 (by decide) (by decide); rw [HV.out] at h; exact h
                simp only [execOp]
                go_simp
                exact ⟨hC, Below.refl _ _, (by show V 119 _ _; rw [HV.out]; exact rfl)⟩
              · intro ρ w1 hc hf hg ho hC hV
                have e119 : ρ (.tmp 119) = .agg #[.string ⟨#[122]⟩, .complex .f64 (fz X) (fz Y)] := by have h := hV 119 (by decide) (by decide); rw [HV.out] at h; exact h
                simp only [execOp]
                go_simp
                exact ⟨below_alloc hC _, below_alloc (Below.refl _ _) _, (by show V 120 _ _; rw [HV.out]; exact ⟨_, rfl, blk_new _ _⟩)⟩
              · intro ρ w1 hc hf hg ho hC hV
                have e120 : QSpec.holds (.row 1 50 [.string ⟨#[122]⟩, .complex .f64 (fz X) (fz Y)]) (ρ (.tmp 120)) w1 := by have h := hV 120 (by decide) (by decide); rw [HV.out] at h; exact h
                obtain ⟨g120, e120, h120⟩ := e120
                simp only [execOp]
                rw [e120]
                go_simp
                exact ⟨hC, Below.refl _ _, (by show V 19 _ _; rw [HV.out]; exact ⟨_, rfl, h120⟩)⟩
            · intro σ w1 hC hV
              have v19 : QSpec.holds (.row 1 50 [.string ⟨#[122]⟩, .complex .f64 (fz X) (fz Y)]) (σ 19) w1 := by have h := hV 19 (by decide); rw [HV.out] at h; exact h
              clear hV HV V
              dsimp only [dsts, List.filterMap, putAll, Act.put]
              obtain ⟨g19, v19, h19⟩ := v19
              have h19H := Lib.hid h19
              have hbx5 := below_step hbx4 hC
              replace ck := cell_below hC ck
              replace ca := cell_below hC ca
              replace cb := cell_below hC cb
              have hrow15c := Lib.hid (hrow15b.out.below hC)
              clear hC h19 hbx4 hrow15b
              rw [v19]
              clear v19
              go_simp
              go_wp2_with fail
              obtain ⟨x6, hx6⟩ : ∃ x, x = w1 := ⟨_, rfl⟩
              rw [← hx6]
              rw [← hx6] at hbx5 ck ca cb hrow15c h19H
              clear hx6
              rw [show floatOfInt FloatKind.f64 (S : Int) = fz S from rfl, show floatOfInt FloatKind.f64 (T : Int) = fz T from rfl]
              have qs1 : Hid ((FloatKind.f64.format.order (fz S1) (fz S1) == some .eq) = true) := selfEq_fz S1 (by omega)
              have qt1 : Hid ((FloatKind.f64.format.order (fz T1) (fz T1) == some .eq) = true) := selfEq_fz T1 (by omega)
              clear qs qt hk0'
              have hrow15 := hrow15c
              have h19 := h19H
              clear hrow15c h19H
              by_cases hSz : S = 0
              · have hz0 : Hid (((S : Int) == 0) = true) := by show _ = _; rw [beq_iff_eq]; omega
                clear hSz
                obtain ⟨V, HV⟩ : ∃ V : Tmp → Value → World → Prop, Hid (V = fun sl_ v_ w_ => QSpec.holds (match sl_ with | 6 => .det (.bool true) | 126 => .det (.complex .f64 (fz S1) (fz T1)) | 127 => .det (.int .i64 S) | 128 => .det (.slice (some ⟨ga, oa, none⟩) k c10) | 129 => .det (.int .i64 kk) | 130 => .det (.pointer (some ⟨ga, oa + kk, none⟩)) | 131 => .det (.int .i64 X) | 132 => .det (.int .i64 S1) | 133 => .det (.float .f64 (fz S1)) | 134 => .det (.int .i64 T) | 135 => .det (.slice (some ⟨gb, ob, none⟩) k c11) | 136 => .det (.int .i64 kk) | 137 => .det (.pointer (some ⟨gb, ob + kk, none⟩)) | 138 => .det (.int .i64 Y) | 139 => .det (.int .i64 T1) | 140 => .det (.float .f64 (fz T1)) | 141 => .det (.complex .f64 (fz S1) (fz T1)) | 142 => .det (.bool true) | 143 => .det (.bool true) | 144 => .det (.complex .f64 (fz S1) (fz T1)) | 145 => .det (.complex .f64 (fz S) (fz T)) | 146 => .det (.slice (some ⟨g19, 0, none⟩) 1 1) | 147 => .det (.bool true) | 148 => .det (.bool true) | 149 => .det (.bool true) | 150 => .det (.complex .f64 (fz S1) (fz T1)) | 151 => .det (.complex .f64 (fz S) (fz T)) | 152 => .det (.complex .f64 (fz S) (fz T9)) | 153 => .det (.slice (some ⟨g19, 0, none⟩) 1 1) | 154 => .det (.bool false) | 155 => .det (.bool true) | 156 => .det (.bool true) | 157 => .det (.bool true) | 158 => .det (.int .i64 S) | 159 => .det (.bool true) | 160 => .det (.bool true) | 167 => .det (.bool true) | 168 => .det (.bool true) | 169 => .det (.bool true) | 170 => .det (.slice A15 k c15) | 171 => .det (.func (.func 24) #[] #[.pointer (some ⟨gk, 0, none⟩)]) | 172 => .sl (k - 1) | 173 => .det (.int .i64 (k - 1 : Nat)) | 174 => .det (.slice A7 k c7) | 175 => .det (.int .i64 k) | 176 => .det (.int .i64 (k - 1 : Nat)) | 177 => .det (.bool true) | 178 => .det (.bool true) | 179 => .det (.bool true) | 180 => .det (.bool true) | 181 => .det (.bool true) | 182 => .det (.bool true) | 183 => .det (.bool true) | 184 => .det (.bool true) | _ => .any) v_ w_) := ⟨_, rfl⟩
                refine wp_region_loose (Below x6.heap.size x6 ·) (fun w_ w_2 => Below w_.heap.size w_ w_2) V (by kernel_rfl) (by kernel_rfl) (by kernel_rfl) (Below.refl _ _).drew (fun w_ => Below.refl _ _) ?_ ?_ ?_
                · intro t v w w' hC hR h
                  rw [HV.out] at h ⊢
                  exact QSpec.mono hR _ _ h
                · go_light
                  simp only [List.forall_mem_cons]
                  refine ⟨?_, ?_, ?_, ?_, ?_, ?_, ?_, ?_, ?_, ?_, ?_, ?_, ?_, ?_, ?_, ?_, ?_, ?_, ?_, ?_, ?_, ?_, ?_, ?_, ?_, ?_, ?_, ?_, ?_, ?_, ?_, ?_, ?_, ?_, ?_, ?_, ?_, ?_, ?_, ?_, ?_, ?_, ?_, ?_, ?_, ?_, ?_, ?_, ?_, ?_, ?_, ?_, ?_, ?_, ?_, ?_, ?_, ?_, ?_, ?_, fun _ h => by cases h⟩
                  · intro ρ w1 hc hf hg ho hC hV
                    have e18 := ho 18 (by decide)
                    simp only [execOp]
                    go_simp
                    exact ⟨hC, Below.refl _ _, (by show V 126 _ _; rw [HV.out]; exact rfl)⟩
                  · intro ρ w1 hc hf hg ho hC hV
                    have e8 := ho 8 (by decide)
                    simp only [execOp]
                    go_simp
                    exact ⟨hC, Below.refl _ _, (by show V 127 _ _; rw [HV.out]; exact rfl)⟩
                  · intro ρ w1 hc hf hg ho hC hV
                    have e10 := ho 10 (by decide)
                    simp only [execOp]
                    go_simp
                    exact ⟨hC, Below.refl _ _, (by show V 128 _ _; rw [HV.out]; exact rfl)⟩
                  · intro ρ w1 hc hf hg ho hC hV
                    have e16 := ho 16 (by decide)
                    have ck' := cell_below hC ck
                    simp only [execOp]
                    go_simp
                    exact ⟨hC, Below.refl _ _, (by show V 129 _ _; rw [HV.out]; exact rfl)⟩
                  · intro ρ w1 hc hf hg ho hC hV
                    have e128 : ρ (.tmp 128) = .slice (some ⟨ga, oa, none⟩) k c10 := by have h := hV 128 (by decide) (by decide); rw [HV.out] at h; exact h
                    have e129 : ρ (.tmp 129) = .int .i64 kk := by have h := hV 129 (by decide) (by decide); rw [HV.out] at h; exact h
                    simp only [execOp]
                    go_simp
                    exact ⟨hC, Below.refl _ _, (by show V 130 _ _; rw [HV.out]; exact rfl)⟩
                  · intro ρ w1 hc hf hg ho hC hV
                    have e130 : ρ (.tmp 130) = .pointer (some ⟨ga, oa + kk, none⟩) := by have h := hV 130 (by decide) (by decide); rw [HV.out] at h; exact h
                    have ca' := cell_below hC ca
                    simp only [execOp]
                    go_simp
                    exact ⟨hC, Below.refl _ _, (by show V 131 _ _; rw [HV.out]; exact rfl)⟩
                  · intro ρ w1 hc hf hg ho hC hV
                    have e127 : ρ (.tmp 127) = .int .i64 S := by have h := hV 127 (by decide) (by decide); rw [HV.out] at h; exact h
                    have e131 : ρ (.tmp 131) = .int .i64 X := by have h := hV 131 (by decide) (by decide); rw [HV.out] at h; exact h
                    simp only [execOp]
                    go_simp
                    exact ⟨hC, Below.refl _ _, (by show V 132 _ _; rw [HV.out]; exact congrArg (Value.int .i64) hS1.out)⟩
                  · intro ρ w1 hc hf hg ho hC hV
                    have e132 : ρ (.tmp 132) = .int .i64 S1 := by have h := hV 132 (by decide) (by decide); rw [HV.out] at h; exact h
                    simp only [execOp]
                    go_simp
                    exact ⟨hC, Below.refl _ _, (by show V 133 _ _; rw [HV.out]; exact rfl)⟩
                  · intro ρ w1 hc hf hg ho hC hV
                    have e9 := ho 9 (by decide)
                    simp only [execOp]
                    go_simp
                    exact ⟨hC, Below.refl _ _, (by show V 134 _ _; rw [HV.out]; exact rfl)⟩
                  · intro ρ w1 hc hf hg ho hC hV
                    have e11 := ho 11 (by decide)
                    simp only [execOp]
                    go_simp
                    exact ⟨hC, Below.refl _ _, (by show V 135 _ _; rw [HV.out]; exact rfl)⟩
                  · intro ρ w1 hc hf hg ho hC hV
                    have e16 := ho 16 (by decide)
                    have ck' := cell_below hC ck
                    simp only [execOp]
                    go_simp
                    exact ⟨hC, Below.refl _ _, (by show V 136 _ _; rw [HV.out]; exact rfl)⟩
                  · intro ρ w1 hc hf hg ho hC hV
                    have e135 : ρ (.tmp 135) = .slice (some ⟨gb, ob, none⟩) k c11 := by have h := hV 135 (by decide) (by decide); rw [HV.out] at h; exact h
                    have e136 : ρ (.tmp 136) = .int .i64 kk := by have h := hV 136 (by decide) (by decide); rw [HV.out] at h; exact h
                    simp only [execOp]
                    go_simp
                    exact ⟨hC, Below.refl _ _, (by show V 137 _ _; rw [HV.out]; exact rfl)⟩
                  · intro ρ w1 hc hf hg ho hC hV
                    have e137 : ρ (.tmp 137) = .pointer (some ⟨gb, ob + kk, none⟩) := by have h := hV 137 (by decide) (by decide); rw [HV.out] at h; exact h
                    have cb' := cell_below hC cb
                    simp only [execOp]
                    go_simp
                    exact ⟨hC, Below.refl _ _, (by show V 138 _ _; rw [HV.out]; exact rfl)⟩
                  · intro ρ w1 hc hf hg ho hC hV
                    have e134 : ρ (.tmp 134) = .int .i64 T := by have h := hV 134 (by decide) (by decide); rw [HV.out] at h; exact h
                    have e138 : ρ (.tmp 138) = .int .i64 Y := by have h := hV 138 (by decide) (by decide); rw [HV.out] at h; exact h
                    simp only [execOp]
                    go_simp
                    exact ⟨hC, Below.refl _ _, (by show V 139 _ _; rw [HV.out]; exact congrArg (Value.int .i64) hT1.out)⟩
                  · intro ρ w1 hc hf hg ho hC hV
                    have e139 : ρ (.tmp 139) = .int .i64 T1 := by have h := hV 139 (by decide) (by decide); rw [HV.out] at h; exact h
                    simp only [execOp]
                    go_simp
                    exact ⟨hC, Below.refl _ _, (by show V 140 _ _; rw [HV.out]; exact rfl)⟩
                  · intro ρ w1 hc hf hg ho hC hV
                    have e133 : ρ (.tmp 133) = .float .f64 (fz S1) := by have h := hV 133 (by decide) (by decide); rw [HV.out] at h; exact h
                    have e140 : ρ (.tmp 140) = .float .f64 (fz T1) := by have h := hV 140 (by decide) (by decide); rw [HV.out] at h; exact h
                    simp only [execOp]
                    go_simp
                    exact ⟨hC, Below.refl _ _, (by show V 141 _ _; rw [HV.out]; exact rfl)⟩
                  · intro ρ w1 hc hf hg ho hC hV
                    have e126 : ρ (.tmp 126) = .complex .f64 (fz S1) (fz T1) := by have h := hV 126 (by decide) (by decide); rw [HV.out] at h; exact h
                    have e141 : ρ (.tmp 141) = .complex .f64 (fz S1) (fz T1) := by have h := hV 141 (by decide) (by decide); rw [HV.out] at h; exact h
                    have q1 := qs1.out
                    have q2 := qt1.out
                    simp only [execOp]
                    go_simp
                    exact ⟨hC, Below.refl _ _, (by show V 142 _ _; rw [HV.out]; exact rfl)⟩
                  · intro ρ w1 hc hf hg ho hC hV
                    have e142 : ρ (.tmp 142) = .bool true := by have h := hV 142 (by decide) (by decide); rw [HV.out] at h; exact h
                    simp only [execOp]
                    go_simp
                    exact ⟨hC, Below.refl _ _, (by show V 143 _ _; rw [HV.out]; exact rfl)⟩
                  · intro ρ w1 hc hf hg ho hC hV
                    refine ⟨143, _, rfl, by have h := hV 143 (by decide) (by decide); rw [HV.out] at h; exact h, ?_⟩
                    rw [if_pos rfl]
                    have e18 := ho 18 (by decide)
                    simp only [execOp]
                    go_simp
                    exact ⟨hC, Below.refl _ _, (by show V 144 _ _; rw [HV.out]; exact rfl)⟩
                  · intro ρ w1 hc hf hg ho hC hV
                    refine ⟨143, _, rfl, by have h := hV 143 (by decide) (by decide); rw [HV.out] at h; exact h, ?_⟩
                    rw [if_pos rfl]
                    have e20 := ho 20 (by decide)
                    simp only [execOp]
                    go_simp
                    exact ⟨hC, Below.refl _ _, (by show V 145 _ _; rw [HV.out]; exact rfl)⟩
                  · intro ρ w1 hc hf hg ho hC hV
                    refine ⟨143, _, rfl, by have h := hV 143 (by decide) (by decide); rw [HV.out] at h; exact h, ?_⟩
                    rw [if_pos rfl]
                    have e19 := ho 19 (by decide)
                    simp only [execOp]
                    go_simp
                    exact ⟨hC, Below.refl _ _, (by show V 146 _ _; rw [HV.out]; exact rfl)⟩
                  · intro ρ w1 hc hf hg ho hC hV
                    refine ⟨143, _, rfl, by have h := hV 143 (by decide) (by decide); rw [HV.out] at h; exact h, ?_⟩
                    rw [if_pos rfl]
                    have e144 : ρ (.tmp 144) = .complex .f64 (fz S1) (fz T1) := by have h := hV 144 (by decide) (by decide); rw [HV.out] at h; exact h
                    have e145 : ρ (.tmp 145) = .complex .f64 (fz S) (fz T) := by have h := hV 145 (by decide) (by decide); rw [HV.out] at h; exact h
                    have e146 : ρ (.tmp 146) = .slice (some ⟨g19, 0, none⟩) 1 1 := by have h := hV 146 (by decide) (by decide); rw [HV.out] at h; exact h
                    simp only [execOp]
                    go_simp
                    refine (fits_any (some ⟨g19, 0, none⟩) 1 [⟨⟨#[122]⟩, fz X, fz Y⟩] (by simp) (fz S1) (fz T1) (fz S) (fz T) (fz S, fz T) hfit.out w1 (RowOf.of_blk (cells := Item.cells) (size := 2) (fun _ => rfl) (blk_below h19.out hC) rfl)).mono ?_
                    rintro e w2 ⟨rfl, hb2⟩
                    rw [le1.out]
                    exact ⟨_, rfl, below_step hC hb2, hb2, (by show V 147 _ _; rw [HV.out]; exact rfl)⟩
                  · intro ρ w1 hc hf hg ho hC hV
                    have e143 : ρ (.tmp 143) = .bool true := by have h := hV 143 (by decide) (by decide); rw [HV.out] at h; exact h
                    have e147 : ρ (.tmp 147) = .bool true := by have h := hV 147 (by decide) (by decide); rw [HV.out] at h; exact h
                    simp only [execOp]
                    go_simp
                    exact ⟨hC, Below.refl _ _, (by show V 148 _ _; rw [HV.out]; exact rfl)⟩
                  · intro ρ w1 hc hf hg ho hC hV
                    have e148 : ρ (.tmp 148) = .bool true := by have h := hV 148 (by decide) (by decide); rw [HV.out] at h; exact h
                    simp only [execOp]
                    go_simp
                    exact ⟨hC, Below.refl _ _, (by show V 149 _ _; rw [HV.out]; exact rfl)⟩
                  · intro ρ w1 hc hf hg ho hC hV
                    refine ⟨149, _, rfl, by have h := hV 149 (by decide) (by decide); rw [HV.out] at h; exact h, ?_⟩
                    rw [if_pos rfl]
                    have e18 := ho 18 (by decide)
                    simp only [execOp]
                    go_simp
                    exact ⟨hC, Below.refl _ _, (by show V 150 _ _; rw [HV.out]; exact rfl)⟩
                  · intro ρ w1 hc hf hg ho hC hV
                    refine ⟨149, _, rfl, by have h := hV 149 (by decide) (by decide); rw [HV.out] at h; exact h, ?_⟩
                    rw [if_pos rfl]
                    have e20 := ho 20 (by decide)
                    simp only [execOp]
                    go_simp
                    exact ⟨hC, Below.refl _ _, (by show V 151 _ _; rw [HV.out]; exact rfl)⟩
                  · intro ρ w1 hc hf hg ho hC hV
                    refine ⟨149, _, rfl, by have h := hV 149 (by decide) (by decide); rw [HV.out] at h; exact h, ?_⟩
                    rw [if_pos rfl]
                    have e151 : ρ (.tmp 151) = .complex .f64 (fz S) (fz T) := by have h := hV 151 (by decide) (by decide); rw [HV.out] at h; exact h
                    have hs1 := hsub1.out
                    simp only [execOp]
                    go_simp
                    exact ⟨hC, Below.refl _ _, (by show V 152 _ _; rw [HV.out]; exact rfl)⟩
                  · intro ρ w1 hc hf hg ho hC hV
                    refine ⟨149, _, rfl, by have h := hV 149 (by decide) (by decide); rw [HV.out] at h; exact h, ?_⟩
                    rw [if_pos rfl]
                    have e19 := ho 19 (by decide)
                    simp only [execOp]
                    go_simp
                    exact ⟨hC, Below.refl _ _, (by show V 153 _ _; rw [HV.out]; exact rfl)⟩
                  · intro ρ w1 hc hf hg ho hC hV
                    refine ⟨149, _, rfl, by have h := hV 149 (by decide) (by decide); rw [HV.out] at h; exact h, ?_⟩
                    rw [if_pos rfl]
                    have e150 : ρ (.tmp 150) = .complex .f64 (fz S1) (fz T1) := by have h := hV 150 (by decide) (by decide); rw [HV.out] at h; exact h
                    have e152 : ρ (.tmp 152) = .complex .f64 (fz S) (fz T9) := by have h := hV 152 (by decide) (by decide); rw [HV.out] at h; exact h
                    have e153 : ρ (.tmp 153) = .slice (some ⟨g19, 0, none⟩) 1 1 := by have h := hV 153 (by decide) (by decide); rw [HV.out] at h; exact h
                    simp only [execOp]
                    go_simp
                    refine (fits_any (some ⟨g19, 0, none⟩) 1 [⟨⟨#[122]⟩, fz X, fz Y⟩] (by simp) (fz S1) (fz T1) (fz S) (fz T9) (fz S, fz T) hfit.out w1 (RowOf.of_blk (cells := Item.cells) (size := 2) (fun _ => rfl) (blk_below h19.out hC) rfl)).mono ?_
                    rintro e w2 ⟨rfl, hb2⟩
                    rw [le2.out]
                    exact ⟨_, rfl, below_step hC hb2, hb2, (by show V 154 _ _; rw [HV.out]; exact rfl)⟩
                  · intro ρ w1 hc hf hg ho hC hV
                    refine ⟨149, _, rfl, by have h := hV 149 (by decide) (by decide); rw [HV.out] at h; exact h, ?_⟩
                    rw [if_pos rfl]
                    have e154 : ρ (.tmp 154) = .bool false := by have h := hV 154 (by decide) (by decide); rw [HV.out] at h; exact h
                    simp only [execOp]
                    go_simp
                    exact ⟨hC, Below.refl _ _, (by show V 155 _ _; rw [HV.out]; exact rfl)⟩
                  · intro ρ w1 hc hf hg ho hC hV
                    have e149 : ρ (.tmp 149) = .bool true := by have h := hV 149 (by decide) (by decide); rw [HV.out] at h; exact h
                    have e155 : ρ (.tmp 155) = .bool true := by have h := hV 155 (by decide) (by decide); rw [HV.out] at h; exact h
                    simp only [execOp]
                    go_simp
                    exact ⟨hC, Below.refl _ _, (by show V 156 _ _; rw [HV.out]; exact rfl)⟩
                  · intro ρ w1 hc hf hg ho hC hV
                    have e156 : ρ (.tmp 156) = .bool true := by have h := hV 156 (by decide) (by decide); rw [HV.out] at h; exact h
                    simp only [execOp]
                    go_simp
                    exact ⟨hC, Below.refl _ _, (by show V 157 _ _; rw [HV.out]; exact rfl)⟩
                  · intro ρ w1 hc hf hg ho hC hV
                    refine ⟨157, _, rfl, by have h := hV 157 (by decide) (by decide); rw [HV.out] at h; exact h, ?_⟩
                    rw [if_pos rfl]
                    have e8 := ho 8 (by decide)
                    simp only [execOp]
                    go_simp
                    exact ⟨hC, Below.refl _ _, (by show V 158 _ _; rw [HV.out]; exact rfl)⟩
                  · intro ρ w1 hc hf hg ho hC hV
                    refine ⟨157, _, rfl, by have h := hV 157 (by decide) (by decide); rw [HV.out] at h; exact h, ?_⟩
                    rw [if_pos rfl]
                    have e158 : ρ (.tmp 158) = .int .i64 S := by have h := hV 158 (by decide) (by decide); rw [HV.out] at h; exact h
                    have hz1 := hz0.out
                    simp only [execOp]
                    go_simp
                    exact ⟨hC, Below.refl _ _, (by show V 159 _ _; rw [HV.out]; exact rfl)⟩
                  · intro ρ w1 hc hf hg ho hC hV
                    refine ⟨157, _, rfl, by have h := hV 157 (by decide) (by decide); rw [HV.out] at h; exact h, ?_⟩
                    rw [if_pos rfl]
                    have e159 : ρ (.tmp 159) = .bool true := by have h := hV 159 (by decide) (by decide); rw [HV.out] at h; exact h
                    simp only [execOp]
                    go_simp
                    exact ⟨hC, Below.refl _ _, (by show V 160 _ _; rw [HV.out]; exact rfl)⟩
                  · intro ρ w1 hc hf hg ho hC hV
                    refine ⟨160, _, rfl, by have h := hV 160 (by decide) (by decide); rw [HV.out] at h; exact h, ?_⟩
                    rw [if_neg (by decide)]
                    show V 161 _ _; rw [HV.out]; exact trivial
                  · intro ρ w1 hc hf hg ho hC hV
                    refine ⟨160, _, rfl, by have h := hV 160 (by decide) (by decide); rw [HV.out] at h; exact h, ?_⟩
                    rw [if_neg (by decide)]
                    show V 162 _ _; rw [HV.out]; exact trivial
                  · intro ρ w1 hc hf hg ho hC hV
                    refine ⟨160, _, rfl, by have h := hV 160 (by decide) (by decide); rw [HV.out] at h; exact h, ?_⟩
                    rw [if_neg (by decide)]
                    show V 163 _ _; rw [HV.out]; exact trivial
                  · intro ρ w1 hc hf hg ho hC hV
                    refine ⟨160, _, rfl, by have h := hV 160 (by decide) (by decide); rw [HV.out] at h; exact h, ?_⟩
                    rw [if_neg (by decide)]
                    show V 164 _ _; rw [HV.out]; exact trivial
                  · intro ρ w1 hc hf hg ho hC hV
                    refine ⟨160, _, rfl, by have h := hV 160 (by decide) (by decide); rw [HV.out] at h; exact h, ?_⟩
                    rw [if_neg (by decide)]
                    show V 165 _ _; rw [HV.out]; exact trivial
                  · intro ρ w1 hc hf hg ho hC hV
                    refine ⟨160, _, rfl, by have h := hV 160 (by decide) (by decide); rw [HV.out] at h; exact h, ?_⟩
                    rw [if_neg (by decide)]
                    show V 166 _ _; rw [HV.out]; exact trivial
                  · intro ρ w1 hc hf hg ho hC hV
                    refine ⟨157, _, rfl, by have h := hV 157 (by decide) (by decide); rw [HV.out] at h; exact h, ?_⟩
                    rw [if_pos rfl]
                    have e160 : ρ (.tmp 160) = .bool true := by have h := hV 160 (by decide) (by decide); rw [HV.out] at h; exact h
                    simp only [execOp]
                    go_simp
                    exact ⟨hC, Below.refl _ _, (by show V 167 _ _; rw [HV.out]; exact rfl)⟩
                  · intro ρ w1 hc hf hg ho hC hV
                    have e157 : ρ (.tmp 157) = .bool true := by have h := hV 157 (by decide) (by decide); rw [HV.out] at h; exact h
                    have e167 : ρ (.tmp 167) = .bool true := by have h := hV 167 (by decide) (by decide); rw [HV.out] at h; exact h
                    simp only [execOp]
                    go_simp
                    exact ⟨hC, Below.refl _ _, (by show V 168 _ _; rw [HV.out]; exact rfl)⟩
                  · intro ρ w1 hc hf hg ho hC hV
                    have e168 : ρ (.tmp 168) = .bool true := by have h := hV 168 (by decide) (by decide); rw [HV.out] at h; exact h
                    simp only [execOp]
                    go_simp
                    exact ⟨hC, Below.refl _ _, (by show V 169 _ _; rw [HV.out]; exact rfl)⟩
                  · intro ρ w1 hc hf hg ho hC hV
                    refine ⟨169, _, rfl, by have h := hV 169 (by decide) (by decide); rw [HV.out] at h; exact h, ?_⟩
                    rw [if_pos rfl]
                    have e15 := ho 15 (by decide)
                    simp only [execOp]
                    go_simp
                    exact ⟨hC, Below.refl _ _, (by show V 170 _ _; rw [HV.out]; exact rfl)⟩
                  · intro ρ w1 hc hf hg ho hC hV
                    refine ⟨169, _, rfl, by have h := hV 169 (by decide) (by decide); rw [HV.out] at h; exact h, ?_⟩
                    rw [if_pos rfl]
                    have e17 := ho 17 (by decide)
                    simp only [execOp]
                    go_simp
                    exact ⟨hC, Below.refl _ _, (by show V 171 _ _; rw [HV.out]; exact rfl)⟩
                  · intro ρ w1 hc hf hg ho hC hV
                    refine ⟨169, _, rfl, by have h := hV 169 (by decide) (by decide); rw [HV.out] at h; exact h, ?_⟩
                    rw [if_pos rfl]
                    have e170 : ρ (.tmp 170) = .slice A15 k c15 := by have h := hV 170 (by decide) (by decide); rw [HV.out] at h; exact h
                    have e171 : ρ (.tmp 171) = .func (.func 24) #[] #[.pointer (some ⟨gk, 0, none⟩)] := by have h := hV 171 (by decide) (by decide); rw [HV.out] at h; exact h
                    simp only [execOp]
                    go_simp
                    refine (openR A15 c15 xs ys k kk gk hk8 hkk w1 (cell_below hC ck) (RowOf.below hrow15.out hC)).mono ?_
                    rintro e w2 ⟨A2_, c2_, rfl, hb2⟩
                    exact ⟨_, rfl, below_step hC hb2, hb2, (by show V 172 _ _; rw [HV.out]; exact ⟨_, _, rfl⟩)⟩
                  · intro ρ w1 hc hf hg ho hC hV
                    refine ⟨169, _, rfl, by have h := hV 169 (by decide) (by decide); rw [HV.out] at h; exact h, ?_⟩
                    rw [if_pos rfl]
                    have e172 : QSpec.holds (.sl (k - 1)) (ρ (.tmp 172)) w1 := by have h := hV 172 (by decide) (by decide); rw [HV.out] at h; exact h
                    obtain ⟨A172, c172, e172⟩ := e172
                    simp only [execOp]
                    go_simp
                    exact ⟨hC, Below.refl _ _, (by show V 173 _ _; rw [HV.out]; exact rfl)⟩
                  · intro ρ w1 hc hf hg ho hC hV
                    refine ⟨169, _, rfl, by have h := hV 169 (by decide) (by decide); rw [HV.out] at h; exact h, ?_⟩
                    rw [if_pos rfl]
                    have e7 := ho 7 (by decide)
                    simp only [execOp]
                    go_simp
                    exact ⟨hC, Below.refl _ _, (by show V 174 _ _; rw [HV.out]; exact rfl)⟩
                  · intro ρ w1 hc hf hg ho hC hV
                    refine ⟨169, _, rfl, by have h := hV 169 (by decide) (by decide); rw [HV.out] at h; exact h, ?_⟩
                    rw [if_pos rfl]
                    have e174 : ρ (.tmp 174) = .slice A7 k c7 := by have h := hV 174 (by decide) (by decide); rw [HV.out] at h; exact h
                    simp only [execOp]
                    go_simp
                    exact ⟨hC, Below.refl _ _, (by show V 175 _ _; rw [HV.out]; exact rfl)⟩
                  · intro ρ w1 hc hf hg ho hC hV
                    refine ⟨169, _, rfl, by have h := hV 169 (by decide) (by decide); rw [HV.out] at h; exact h, ?_⟩
                    rw [if_pos rfl]
                    have e175 : ρ (.tmp 175) = .int .i64 k := by have h := hV 175 (by decide) (by decide); rw [HV.out] at h; exact h
                    simp only [execOp]
                    go_simp
                    exact ⟨hC, Below.refl _ _, (by show V 176 _ _; rw [HV.out]; exact congrArg (Value.int .i64) hk1w.out)⟩
                  · intro ρ w1 hc hf hg ho hC hV
                    refine ⟨169, _, rfl, by have h := hV 169 (by decide) (by decide); rw [HV.out] at h; exact h, ?_⟩
                    rw [if_pos rfl]
                    have e173 : ρ (.tmp 173) = .int .i64 (k - 1 : Nat) := by have h := hV 173 (by decide) (by decide); rw [HV.out] at h; exact h
                    have e176 : ρ (.tmp 176) = .int .i64 (k - 1 : Nat) := by have h := hV 176 (by decide) (by decide); rw [HV.out] at h; exact h
                    have hz1 : (((k - 1 : Nat) : Int) == ((k - 1 : Nat) : Int)) = true := beq_self_eq_true _
                    simp only [execOp]
                    go_simp
                    exact ⟨hC, Below.refl _ _, (by show V 177 _ _; rw [HV.out]; exact rfl)⟩
                  · intro ρ w1 hc hf hg ho hC hV
                    have e169 : ρ (.tmp 169) = .bool true := by have h := hV 169 (by decide) (by decide); rw [HV.out] at h; exact h
                    have e177 : ρ (.tmp 177) = .bool true := by have h := hV 177 (by decide) (by decide); rw [HV.out] at h; exact h
                    simp only [execOp]
                    go_simp
                    exact ⟨hC, Below.refl _ _, (by show V 178 _ _; rw [HV.out]; exact rfl)⟩
                  · intro ρ w1 hc hf hg ho hC hV
                    have e178 : ρ (.tmp 178) = .bool true := by have h := hV 178 (by decide) (by decide); rw [HV.out] at h; exact h
                    simp only [execOp]
                    go_simp
                    exact ⟨hC, Below.refl _ _, (by show V 179 _ _; rw [HV.out]; exact rfl)⟩
                  · intro ρ w1 hc hf hg ho hC hV
                    refine ⟨179, _, rfl, by have h := hV 179 (by decide) (by decide); rw [HV.out] at h; exact h, ?_⟩
                    rw [if_pos rfl]
                    simp only [execOp]
                    go_simp
                    refine (fits_any none 0 [] (by simp) 0 0 0 0 (0, 0) rfl w1 (RowOf.nil _ _ _ _)).mono ?_
                    rintro e w2 ⟨rfl, hb2⟩
                    rw [le0]
                    exact ⟨_, rfl, below_step hC hb2, hb2, (by show V 180 _ _; rw [HV.out]; exact rfl)⟩
                  · intro ρ w1 hc hf hg ho hC hV
                    have e179 : ρ (.tmp 179) = .bool true := by have h := hV 179 (by decide) (by decide); rw [HV.out] at h; exact h
                    have e180 : ρ (.tmp 180) = .bool true := by have h := hV 180 (by decide) (by decide); rw [HV.out] at h; exact h
                    simp only [execOp]
                    go_simp
                    exact ⟨hC, Below.refl _ _, (by show V 181 _ _; rw [HV.out]; exact rfl)⟩
                  · intro ρ w1 hc hf hg ho hC hV
                    have e181 : ρ (.tmp 181) = .bool true := by have h := hV 181 (by decide) (by decide); rw [HV.out] at h; exact h
                    simp only [execOp]
                    go_simp
                    exact ⟨hC, Below.refl _ _, (by show V 182 _ _; rw [HV.out]; exact rfl)⟩
                  · intro ρ w1 hc hf hg ho hC hV
                    refine ⟨182, _, rfl, by have h := hV 182 (by decide) (by decide); rw [HV.out] at h; exact h, ?_⟩
                    rw [if_pos rfl]
                    simp only [execOp]
                    go_simp
                    refine (wakes17 w1).mono ?_
                    rintro e w2 ⟨rfl, hb2⟩
                    exact ⟨_, rfl, below_step hC hb2, hb2, (by show V 183 _ _; rw [HV.out]; exact rfl)⟩
                  · intro ρ w1 hc hf hg ho hC hV
                    have e182 : ρ (.tmp 182) = .bool true := by have h := hV 182 (by decide) (by decide); rw [HV.out] at h; exact h
                    have e183 : ρ (.tmp 183) = .bool true := by have h := hV 183 (by decide) (by decide); rw [HV.out] at h; exact h
                    simp only [execOp]
                    go_simp
                    exact ⟨hC, Below.refl _ _, (by show V 184 _ _; rw [HV.out]; exact rfl)⟩
                  · intro ρ w1 hc hf hg ho hC hV
                    have e184 : ρ (.tmp 184) = .bool true := by have h := hV 184 (by decide) (by decide); rw [HV.out] at h; exact h
                    simp only [execOp]
                    go_simp
                    exact ⟨hC, Below.refl _ _, (by show V 6 _ _; rw [HV.out]; exact rfl)⟩
                · intro σ w1 hC hV
                  have v6 : σ 6 = .bool true := by have h := hV 6 (by decide); rw [HV.out] at h; exact h
                  clear hV HV V
                  dsimp only [dsts, List.filterMap, putAll, Act.put]
                  have hbx7 := below_step hbx5 hC
                  clear hC hbx5 ck ca cb
                  rw [v6]
                  clear v6
                  go_simp
                  go_wp2
                  go_ret
                  exact ⟨rfl, hbx7⟩
              · have hz0 : Hid (((S : Int) == 0) = false) := by show _ = _; rw [beq_eq_false_iff_ne]; omega
                have hS9 := hS9H.out
                have le3 : Hid ((leB (fz S) (fz S9) && leB (fz T) (fz T)) = false) := by
                  show _ = _
                  rw [leB_fz S S9 (by omega) (by omega), decide_eq_false (show ¬ S ≤ S9 by omega)]
                  rfl
                have hsub2 : Hid (∀ w, (binOp .sub 47 (.complex .f64 (fz S) (fz T)) (.complex .f64 4607182418800017408 0)).run Try.prog w = .ok (.complex .f64 (fz S9) (fz T)) w) := by
                  intro w
                  have h := sub_fz S T 1 0 (by omega) (by omega) (by omega) (by omega)
                  rw [show ((0 : Nat) : Int) = 0 from rfl, show ((1 : Nat) : Int) = 1 from rfl, fz_zero, fz_one, Nat.sub_zero, ← hS9] at h
                  exact run_complex_sum w .sub (.inr rfl) 47 .f64 _ _ _ _ _ _ h
                clear hSz hS9
                obtain ⟨V, HV⟩ : ∃ V : Tmp → Value → World → Prop, Hid (V = fun sl_ v_ w_ => QSpec.holds (match sl_ with | 6 => .det (.bool true) | 126 => .det (.complex .f64 (fz S1) (fz T1)) | 127 => .det (.int .i64 S) | 128 => .det (.slice (some ⟨ga, oa, none⟩) k c10) | 129 => .det (.int .i64 kk) | 130 => .det (.pointer (some ⟨ga, oa + kk, none⟩)) | 131 => .det (.int .i64 X) | 132 => .det (.int .i64 S1) | 133 => .det (.float .f64 (fz S1)) | 134 => .det (.int .i64 T) | 135 => .det (.slice (some ⟨gb, ob, none⟩) k c11) | 136 => .det (.int .i64 kk) | 137 => .det (.pointer (some ⟨gb, ob + kk, none⟩)) | 138 => .det (.int .i64 Y) | 139 => .det (.int .i64 T1) | 140 => .det (.float .f64 (fz T1)) | 141 => .det (.complex .f64 (fz S1) (fz T1)) | 142 => .det (.bool true) | 143 => .det (.bool true) | 144 => .det (.complex .f64 (fz S1) (fz T1)) | 145 => .det (.complex .f64 (fz S) (fz T)) | 146 => .det (.slice (some ⟨g19, 0, none⟩) 1 1) | 147 => .det (.bool true) | 148 => .det (.bool true) | 149 => .det (.bool true) | 150 => .det (.complex .f64 (fz S1) (fz T1)) | 151 => .det (.complex .f64 (fz S) (fz T)) | 152 => .det (.complex .f64 (fz S) (fz T9)) | 153 => .det (.slice (some ⟨g19, 0, none⟩) 1 1) | 154 => .det (.bool false) | 155 => .det (.bool true) | 156 => .det (.bool true) | 157 => .det (.bool true) | 158 => .det (.int .i64 S) | 159 => .det (.bool false) | 160 => .det (.bool false) | 161 => .det (.complex .f64 (fz S1) (fz T1)) | 162 => .det (.complex .f64 (fz S) (fz T)) | 163 => .det (.complex .f64 (fz S9) (fz T)) | 164 => .det (.slice (some ⟨g19, 0, none⟩) 1 1) | 165 => .det (.bool false) | 166 => .det (.bool true) | 167 => .det (.bool true) | 168 => .det (.bool true) | 169 => .det (.bool true) | 170 => .det (.slice A15 k c15) | 171 => .det (.func (.func 24) #[] #[.pointer (some ⟨gk, 0, none⟩)]) | 172 => .sl (k - 1) | 173 => .det (.int .i64 (k - 1 : Nat)) | 174 => .det (.slice A7 k c7) | 175 => .det (.int .i64 k) | 176 => .det (.int .i64 (k - 1 : Nat)) | 177 => .det (.bool true) | 178 => .det (.bool true) | 179 => .det (.bool true) | 180 => .det (.bool true) | 181 => .det (.bool true) | 182 => .det (.bool true) | 183 => .det (.bool true) | 184 => .det (.bool true) | _ => .any) v_ w_) := ⟨_, rfl⟩
                refine wp_region_loose (Below x6.heap.size x6 ·) (fun w_ w_2 => Below w_.heap.size w_ w_2) V (by kernel_rfl) (by kernel_rfl) (by kernel_rfl) (Below.refl _ _).drew (fun w_ => Below.refl _ _) ?_ ?_ ?_
                · intro t v w w' hC hR h
                  rw [HV.out] at h ⊢
                  exact QSpec.mono hR _ _ h
                · go_light
                  simp only [List.forall_mem_cons]
                  refine ⟨?_, ?_, ?_, ?_, ?_, ?_, ?_, ?_, ?_, ?_, ?_, ?_, ?_, ?_, ?_, ?_, ?_, ?_, ?_, ?_, ?_, ?_, ?_, ?_, ?_, ?_, ?_, ?_, ?_, ?_, ?_, ?_, ?_, ?_, ?_, ?_, ?_, ?_, ?_, ?_, ?_, ?_, ?_, ?_, ?_, ?_, ?_, ?_, ?_, ?_, ?_, ?_, ?_, ?_, ?_, ?_, ?_, ?_, ?_, ?_, fun _ h => by cases h⟩
                  · intro ρ w1 hc hf hg ho hC hV
                    have e18 := ho 18 (by decide)
                    simp only [execOp]
                    go_simp
                    exact ⟨hC, Below.refl _ _, (by show V 126 _ _; rw [HV.out]; exact rfl)⟩
                  · intro ρ w1 hc hf hg ho hC hV
                    have e8 := ho 8 (by decide)
                    simp only [execOp]
                    go_simp
                    exact ⟨hC, Below.refl _ _, (by show V 127 _ _; rw [HV.out]; exact rfl)⟩
                  · intro ρ w1 hc hf hg ho hC hV
                    have e10 := ho 10 (by decide)
                    simp only [execOp]
                    go_simp
                    exact ⟨hC, Below.refl _ _, (by show V 128 _ _; rw [HV.out]; exact rfl)⟩
                  · intro ρ w1 hc hf hg ho hC hV
                    have e16 := ho 16 (by decide)
                    have ck' := cell_below hC ck
                    simp only [execOp]
                    go_simp
                    exact ⟨hC, Below.refl _ _, (by show V 129 _ _; rw [HV.out]; exact rfl)⟩
                  · intro ρ w1 hc hf hg ho hC hV
                    have e128 : ρ (.tmp 128) = .slice (some ⟨ga, oa, none⟩) k c10 := by have h := hV 128 (by decide) (by decide); rw [HV.out] at h; exact h
                    have e129 : ρ (.tmp 129) = .int .i64 kk := by have h := hV 129 (by decide) (by decide); rw [HV.out] at h; exact h
                    simp only [execOp]
                    go_simp
                    exact ⟨hC, Below.refl _ _, (by show V 130 _ _; rw [HV.out]; exact rfl)⟩
                  · intro ρ w1 hc hf hg ho hC hV
                    have e130 : ρ (.tmp 130) = .pointer (some ⟨ga, oa + kk, none⟩) := by have h := hV 130 (by decide) (by decide); rw [HV.out] at h; exact h
                    have ca' := cell_below hC ca
                    simp only [execOp]
                    go_simp
                    exact ⟨hC, Below.refl _ _, (by show V 131 _ _; rw [HV.out]; exact rfl)⟩
                  · intro ρ w1 hc hf hg ho hC hV
                    have e127 : ρ (.tmp 127) = .int .i64 S := by have h := hV 127 (by decide) (by decide); rw [HV.out] at h; exact h
                    have e131 : ρ (.tmp 131) = .int .i64 X := by have h := hV 131 (by decide) (by decide); rw [HV.out] at h; exact h
                    simp only [execOp]
                    go_simp
                    exact ⟨hC, Below.refl _ _, (by show V 132 _ _; rw [HV.out]; exact congrArg (Value.int .i64) hS1.out)⟩
                  · intro ρ w1 hc hf hg ho hC hV
                    have e132 : ρ (.tmp 132) = .int .i64 S1 := by have h := hV 132 (by decide) (by decide); rw [HV.out] at h; exact h
                    simp only [execOp]
                    go_simp
                    exact ⟨hC, Below.refl _ _, (by show V 133 _ _; rw [HV.out]; exact rfl)⟩
                  · intro ρ w1 hc hf hg ho hC hV
                    have e9 := ho 9 (by decide)
                    simp only [execOp]
                    go_simp
                    exact ⟨hC, Below.refl _ _, (by show V 134 _ _; rw [HV.out]; exact rfl)⟩
                  · intro ρ w1 hc hf hg ho hC hV
                    have e11 := ho 11 (by decide)
                    simp only [execOp]
                    go_simp
                    exact ⟨hC, Below.refl _ _, (by show V 135 _ _; rw [HV.out]; exact rfl)⟩
                  · intro ρ w1 hc hf hg ho hC hV
                    have e16 := ho 16 (by decide)
                    have ck' := cell_below hC ck
                    simp only [execOp]
                    go_simp
                    exact ⟨hC, Below.refl _ _, (by show V 136 _ _; rw [HV.out]; exact rfl)⟩
                  · intro ρ w1 hc hf hg ho hC hV
                    have e135 : ρ (.tmp 135) = .slice (some ⟨gb, ob, none⟩) k c11 := by have h := hV 135 (by decide) (by decide); rw [HV.out] at h; exact h
                    have e136 : ρ (.tmp 136) = .int .i64 kk := by have h := hV 136 (by decide) (by decide); rw [HV.out] at h; exact h
                    simp only [execOp]
                    go_simp
                    exact ⟨hC, Below.refl _ _, (by show V 137 _ _; rw [HV.out]; exact rfl)⟩
                  · intro ρ w1 hc hf hg ho hC hV
                    have e137 : ρ (.tmp 137) = .pointer (some ⟨gb, ob + kk, none⟩) := by have h := hV 137 (by decide) (by decide); rw [HV.out] at h; exact h
                    have cb' := cell_below hC cb
                    simp only [execOp]
                    go_simp
                    exact ⟨hC, Below.refl _ _, (by show V 138 _ _; rw [HV.out]; exact rfl)⟩
                  · intro ρ w1 hc hf hg ho hC hV
                    have e134 : ρ (.tmp 134) = .int .i64 T := by have h := hV 134 (by decide) (by decide); rw [HV.out] at h; exact h
                    have e138 : ρ (.tmp 138) = .int .i64 Y := by have h := hV 138 (by decide) (by decide); rw [HV.out] at h; exact h
                    simp only [execOp]
                    go_simp
                    exact ⟨hC, Below.refl _ _, (by show V 139 _ _; rw [HV.out]; exact congrArg (Value.int .i64) hT1.out)⟩
                  · intro ρ w1 hc hf hg ho hC hV
                    have e139 : ρ (.tmp 139) = .int .i64 T1 := by have h := hV 139 (by decide) (by decide); rw [HV.out] at h; exact h
                    simp only [execOp]
                    go_simp
                    exact ⟨hC, Below.refl _ _, (by show V 140 _ _; rw [HV.out]; exact rfl)⟩
                  · intro ρ w1 hc hf hg ho hC hV
                    have e133 : ρ (.tmp 133) = .float .f64 (fz S1) := by have h := hV 133 (by decide) (by decide); rw [HV.out] at h; exact h
                    have e140 : ρ (.tmp 140) = .float .f64 (fz T1) := by have h := hV 140 (by decide) (by decide); rw [HV.out] at h; exact h
                    simp only [execOp]
                    go_simp
                    exact ⟨hC, Below.refl _ _, (by show V 141 _ _; rw [HV.out]; exact rfl)⟩
                  · intro ρ w1 hc hf hg ho hC hV
                    have e126 : ρ (.tmp 126) = .complex .f64 (fz S1) (fz T1) := by have h := hV 126 (by decide) (by decide); rw [HV.out] at h; exact h
                    have e141 : ρ (.tmp 141) = .complex .f64 (fz S1) (fz T1) := by have h := hV 141 (by decide) (by decide); rw [HV.out] at h; exact h
                    have q1 := qs1.out
                    have q2 := qt1.out
                    simp only [execOp]
                    go_simp
                    exact ⟨hC, Below.refl _ _, (by show V 142 _ _; rw [HV.out]; exact rfl)⟩
                  · intro ρ w1 hc hf hg ho hC hV
                    have e142 : ρ (.tmp 142) = .bool true := by have h := hV 142 (by decide) (by decide); rw [HV.out] at h; exact h
                    simp only [execOp]
                    go_simp
                    exact ⟨hC, Below.refl _ _, (by show V 143 _ _; rw [HV.out]; exact rfl)⟩
                  · intro ρ w1 hc hf hg ho hC hV
                    refine ⟨143, _, rfl, by have h := hV 143 (by decide) (by decide); rw [HV.out] at h; exact h, ?_⟩
                    rw [if_pos rfl]
                    have e18 := ho 18 (by decide)
                    simp only [execOp]
                    go_simp
                    exact ⟨hC, Below.refl _ _, (by show V 144 _ _; rw [HV.out]; exact rfl)⟩
                  · intro ρ w1 hc hf hg ho hC hV
                    refine ⟨143, _, rfl, by have h := hV 143 (by decide) (by decide); rw [HV.out] at h; exact h, ?_⟩
                    rw [if_pos rfl]
                    have e20 := ho 20 (by decide)
                    simp only [execOp]
                    go_simp
                    exact ⟨hC, Below.refl _ _, (by show V 145 _ _; rw [HV.out]; exact rfl)⟩
                  · intro ρ w1 hc hf hg ho hC hV
                    refine ⟨143, _, rfl, by have h := hV 143 (by decide) (by decide); rw [HV.out] at h; exact h, ?_⟩
                    rw [if_pos rfl]
                    have e19 := ho 19 (by decide)
                    simp only [execOp]
                    go_simp
                    exact ⟨hC, Below.refl _ _, (by show V 146 _ _; rw [HV.out]; exact rfl)⟩
                  · intro ρ w1 hc hf hg ho hC hV
                    refine ⟨143, _, rfl, by have h := hV 143 (by decide) (by decide); rw [HV.out] at h; exact h, ?_⟩
                    rw [if_pos rfl]
                    have e144 : ρ (.tmp 144) = .complex .f64 (fz S1) (fz T1) := by have h := hV 144 (by decide) (by decide); rw [HV.out] at h; exact h
                    have e145 : ρ (.tmp 145) = .complex .f64 (fz S) (fz T) := by have h := hV 145 (by decide) (by decide); rw [HV.out] at h; exact h
                    have e146 : ρ (.tmp 146) = .slice (some ⟨g19, 0, none⟩) 1 1 := by have h := hV 146 (by decide) (by decide); rw [HV.out] at h; exact h
                    simp only [execOp]
                    go_simp
                    refine (fits_any (some ⟨g19, 0, none⟩) 1 [⟨⟨#[122]⟩, fz X, fz Y⟩] (by simp) (fz S1) (fz T1) (fz S) (fz T) (fz S, fz T) hfit.out w1 (RowOf.of_blk (cells := Item.cells) (size := 2) (fun _ => rfl) (blk_below h19.out hC) rfl)).mono ?_
                    rintro e w2 ⟨rfl, hb2⟩
                    rw [le1.out]
                    exact ⟨_, rfl, below_step hC hb2, hb2, (by show V 147 _ _; rw [HV.out]; exact rfl)⟩
                  · intro ρ w1 hc hf hg ho hC hV
                    have e143 : ρ (.tmp 143) = .bool true := by have h := hV 143 (by decide) (by decide); rw [HV.out] at h; exact h
                    have e147 : ρ (.tmp 147) = .bool true := by have h := hV 147 (by decide) (by decide); rw [HV.out] at h; exact h
                    simp only [execOp]
                    go_simp
                    exact ⟨hC, Below.refl _ _, (by show V 148 _ _; rw [HV.out]; exact rfl)⟩
                  · intro ρ w1 hc hf hg ho hC hV
                    have e148 : ρ (.tmp 148) = .bool true := by have h := hV 148 (by decide) (by decide); rw [HV.out] at h; exact h
                    simp only [execOp]
                    go_simp
                    exact ⟨hC, Below.refl _ _, (by show V 149 _ _; rw [HV.out]; exact rfl)⟩
                  · intro ρ w1 hc hf hg ho hC hV
                    refine ⟨149, _, rfl, by have h := hV 149 (by decide) (by decide); rw [HV.out] at h; exact h, ?_⟩
                    rw [if_pos rfl]
                    have e18 := ho 18 (by decide)
                    simp only [execOp]
                    go_simp
                    exact ⟨hC, Below.refl _ _, (by show V 150 _ _; rw [HV.out]; exact rfl)⟩
                  · intro ρ w1 hc hf hg ho hC hV
                    refine ⟨149, _, rfl, by have h := hV 149 (by decide) (by decide); rw [HV.out] at h; exact h, ?_⟩
                    rw [if_pos rfl]
                    have e20 := ho 20 (by decide)
                    simp only [execOp]
                    go_simp
                    exact ⟨hC, Below.refl _ _, (by show V 151 _ _; rw [HV.out]; exact rfl)⟩
                  · intro ρ w1 hc hf hg ho hC hV
                    refine ⟨149, _, rfl, by have h := hV 149 (by decide) (by decide); rw [HV.out] at h; exact h, ?_⟩
                    rw [if_pos rfl]
                    have e151 : ρ (.tmp 151) = .complex .f64 (fz S) (fz T) := by have h := hV 151 (by decide) (by decide); rw [HV.out] at h; exact h
                    have hs1 := hsub1.out
                    simp only [execOp]
                    go_simp
                    exact ⟨hC, Below.refl _ _, (by show V 152 _ _; rw [HV.out]; exact rfl)⟩
                  · intro ρ w1 hc hf hg ho hC hV
                    refine ⟨149, _, rfl, by have h := hV 149 (by decide) (by decide); rw [HV.out] at h; exact h, ?_⟩
                    rw [if_pos rfl]
                    have e19 := ho 19 (by decide)
                    simp only [execOp]
                    go_simp
                    exact ⟨hC, Below.refl _ _, (by show V 153 _ _; rw [HV.out]; exact rfl)⟩
                  · intro ρ w1 hc hf hg ho hC hV
                    refine ⟨149, _, rfl, by have h := hV 149 (by decide) (by decide); rw [HV.out] at h; exact h, ?_⟩
                    rw [if_pos rfl]
                    have e150 : ρ (.tmp 150) = .complex .f64 (fz S1) (fz T1) := by have h := hV 150 (by decide) (by decide); rw [HV.out] at h; exact h
                    have e152 : ρ (.tmp 152) = .complex .f64 (fz S) (fz T9) := by have h := hV 152 (by decide) (by decide); rw [HV.out] at h; exact h
                    have e153 : ρ (.tmp 153) = .slice (some ⟨g19, 0, none⟩) 1 1 := by have h := hV 153 (by decide) (by decide); rw [HV.out] at h; exact h
                    simp only [execOp]
                    go_simp
                    refine (fits_any (some ⟨g19, 0, none⟩) 1 [⟨⟨#[122]⟩, fz X, fz Y⟩] (by simp) (fz S1) (fz T1) (fz S) (fz T9) (fz S, fz T) hfit.out w1 (RowOf.of_blk (cells := Item.cells) (size := 2) (fun _ => rfl) (blk_below h19.out hC) rfl)).mono ?_
                    rintro e w2 ⟨rfl, hb2⟩
                    rw [le2.out]
                    exact ⟨_, rfl, below_step hC hb2, hb2, (by show V 154 _ _; rw [HV.out]; exact rfl)⟩
                  · intro ρ w1 hc hf hg ho hC hV
                    refine ⟨149, _, rfl, by have h := hV 149 (by decide) (by decide); rw [HV.out] at h; exact h, ?_⟩
                    rw [if_pos rfl]
                    have e154 : ρ (.tmp 154) = .bool false := by have h := hV 154 (by decide) (by decide); rw [HV.out] at h; exact h
                    simp only [execOp]
                    go_simp
                    exact ⟨hC, Below.refl _ _, (by show V 155 _ _; rw [HV.out]; exact rfl)⟩
                  · intro ρ w1 hc hf hg ho hC hV
                    have e149 : ρ (.tmp 149) = .bool true := by have h := hV 149 (by decide) (by decide); rw [HV.out] at h; exact h
                    have e155 : ρ (.tmp 155) = .bool true := by have h := hV 155 (by decide) (by decide); rw [HV.out] at h; exact h
                    simp only [execOp]
                    go_simp
                    exact ⟨hC, Below.refl _ _, (by show V 156 _ _; rw [HV.out]; exact rfl)⟩
                  · intro ρ w1 hc hf hg ho hC hV
                    have e156 : ρ (.tmp 156) = .bool true := by have h := hV 156 (by decide) (by decide); rw [HV.out] at h; exact h
                    simp only [execOp]
                    go_simp
                    exact ⟨hC, Below.refl _ _, (by show V 157 _ _; rw [HV.out]; exact rfl)⟩
                  · intro ρ w1 hc hf hg ho hC hV
                    refine ⟨157, _, rfl, by have h := hV 157 (by decide) (by decide); rw [HV.out] at h; exact h, ?_⟩
                    rw [if_pos rfl]
                    have e8 := ho 8 (by decide)
                    simp only [execOp]
                    go_simp
                    exact ⟨hC, Below.refl _ _, (by show V 158 _ _; rw [HV.out]; exact rfl)⟩
                  · intro ρ w1 hc hf hg ho hC hV
                    refine ⟨157, _, rfl, by have h := hV 157 (by decide) (by decide); rw [HV.out] at h; exact h, ?_⟩
                    rw [if_pos rfl]
                    have e158 : ρ (.tmp 158) = .int .i64 S := by have h := hV 158 (by decide) (by decide); rw [HV.out] at h; exact h
                    have hz1 := hz0.out
                    simp only [execOp]
                    go_simp
                    exact ⟨hC, Below.refl _ _, (by show V 159 _ _; rw [HV.out]; exact rfl)⟩
                  · intro ρ w1 hc hf hg ho hC hV
                    refine ⟨157, _, rfl, by have h := hV 157 (by decide) (by decide); rw [HV.out] at h; exact h, ?_⟩
                    rw [if_pos rfl]
                    have e159 : ρ (.tmp 159) = .bool false := by have h := hV 159 (by decide) (by decide); rw [HV.out] at h; exact h
                    simp only [execOp]
                    go_simp
                    exact ⟨hC, Below.refl _ _, (by show V 160 _ _; rw [HV.out]; exact rfl)⟩
                  · intro ρ w1 hc hf hg ho hC hV
                    refine ⟨160, _, rfl, by have h := hV 160 (by decide) (by decide); rw [HV.out] at h; exact h, ?_⟩
                    rw [if_pos rfl]
                    have e18 := ho 18 (by decide)
                    simp only [execOp]
                    go_simp
                    exact ⟨hC, Below.refl _ _, (by show V 161 _ _; rw [HV.out]; exact rfl)⟩
                  · intro ρ w1 hc hf hg ho hC hV
                    refine ⟨160, _, rfl, by have h := hV 160 (by decide) (by decide); rw [HV.out] at h; exact h, ?_⟩
                    rw [if_pos rfl]
                    have e20 := ho 20 (by decide)
                    simp only [execOp]
                    go_simp
                    exact ⟨hC, Below.refl _ _, (by show V 162 _ _; rw [HV.out]; exact rfl)⟩
                  · intro ρ w1 hc hf hg ho hC hV
                    refine ⟨160, _, rfl, by have h := hV 160 (by decide) (by decide); rw [HV.out] at h; exact h, ?_⟩
                    rw [if_pos rfl]
                    have e162 : ρ (.tmp 162) = .complex .f64 (fz S) (fz T) := by have h := hV 162 (by decide) (by decide); rw [HV.out] at h; exact h
                    have hs1 := hsub2.out
                    simp only [execOp]
                    go_simp
                    exact ⟨hC, Below.refl _ _, (by show V 163 _ _; rw [HV.out]; exact rfl)⟩
                  · intro ρ w1 hc hf hg ho hC hV
                    refine ⟨160, _, rfl, by have h := hV 160 (by decide) (by decide); rw [HV.out] at h; exact h, ?_⟩
                    rw [if_pos rfl]
                    have e19 := ho 19 (by decide)
                    simp only [execOp]
                    go_simp
                    exact ⟨hC, Below.refl _ _, (by show V 164 _ _; rw [HV.out]; exact rfl)⟩
                  · intro ρ w1 hc hf hg ho hC hV
                    refine ⟨160, _, rfl, by have h := hV 160 (by decide) (by decide); rw [HV.out] at h; exact h, ?_⟩
                    rw [if_pos rfl]
                    have e161 : ρ (.tmp 161) = .complex .f64 (fz S1) (fz T1) := by have h := hV 161 (by decide) (by decide); rw [HV.out] at h; exact h
                    have e163 : ρ (.tmp 163) = .complex .f64 (fz S9) (fz T) := by have h := hV 163 (by decide) (by decide); rw [HV.out] at h; exact h
                    have e164 : ρ (.tmp 164) = .slice (some ⟨g19, 0, none⟩) 1 1 := by have h := hV 164 (by decide) (by decide); rw [HV.out] at h; exact h
                    simp only [execOp]
                    go_simp
                    refine (fits_any (some ⟨g19, 0, none⟩) 1 [⟨⟨#[122]⟩, fz X, fz Y⟩] (by simp) (fz S1) (fz T1) (fz S9) (fz T) (fz S, fz T) hfit.out w1 (RowOf.of_blk (cells := Item.cells) (size := 2) (fun _ => rfl) (blk_below h19.out hC) rfl)).mono ?_
                    rintro e w2 ⟨rfl, hb2⟩
                    rw [le3.out]
                    exact ⟨_, rfl, below_step hC hb2, hb2, (by show V 165 _ _; rw [HV.out]; exact rfl)⟩
                  · intro ρ w1 hc hf hg ho hC hV
                    refine ⟨160, _, rfl, by have h := hV 160 (by decide) (by decide); rw [HV.out] at h; exact h, ?_⟩
                    rw [if_pos rfl]
                    have e165 : ρ (.tmp 165) = .bool false := by have h := hV 165 (by decide) (by decide); rw [HV.out] at h; exact h
                    simp only [execOp]
                    go_simp
                    exact ⟨hC, Below.refl _ _, (by show V 166 _ _; rw [HV.out]; exact rfl)⟩
                  · intro ρ w1 hc hf hg ho hC hV
                    refine ⟨157, _, rfl, by have h := hV 157 (by decide) (by decide); rw [HV.out] at h; exact h, ?_⟩
                    rw [if_pos rfl]
                    have e160 : ρ (.tmp 160) = .bool false := by have h := hV 160 (by decide) (by decide); rw [HV.out] at h; exact h
                    have e166 : ρ (.tmp 166) = .bool true := by have h := hV 166 (by decide) (by decide); rw [HV.out] at h; exact h
                    simp only [execOp]
                    go_simp
                    exact ⟨hC, Below.refl _ _, (by show V 167 _ _; rw [HV.out]; exact rfl)⟩
                  · intro ρ w1 hc hf hg ho hC hV
                    have e157 : ρ (.tmp 157) = .bool true := by have h := hV 157 (by decide) (by decide); rw [HV.out] at h; exact h
                    have e167 : ρ (.tmp 167) = .bool true := by have h := hV 167 (by decide) (by decide); rw [HV.out] at h; exact h
                    simp only [execOp]
                    go_simp
                    exact ⟨hC, Below.refl _ _, (by show V 168 _ _; rw [HV.out]; exact rfl)⟩
                  · intro ρ w1 hc hf hg ho hC hV
                    have e168 : ρ (.tmp 168) = .bool true := by have h := hV 168 (by decide) (by decide); rw [HV.out] at h; exact h
                    simp only [execOp]
                    go_simp
                    exact ⟨hC, Below.refl _ _, (by show V 169 _ _; rw [HV.out]; exact rfl)⟩
                  · intro ρ w1 hc hf hg ho hC hV
                    refine ⟨169, _, rfl, by have h := hV 169 (by decide) (by decide); rw [HV.out] at h; exact h, ?_⟩
                    rw [if_pos rfl]
                    have e15 := ho 15 (by decide)
                    simp only [execOp]
                    go_simp
                    exact ⟨hC, Below.refl _ _, (by show V 170 _ _; rw [HV.out]; exact rfl)⟩
                  · intro ρ w1 hc hf hg ho hC hV
                    refine ⟨169, _, rfl, by have h := hV 169 (by decide) (by decide); rw [HV.out] at h; exact h, ?_⟩
                    rw [if_pos rfl]
                    have e17 := ho 17 (by decide)
                    simp only [execOp]
                    go_simp
                    exact ⟨hC, Below.refl _ _, (by show V 171 _ _; rw [HV.out]; exact rfl)⟩
                  · intro ρ w1 hc hf hg ho hC hV
                    refine ⟨169, _, rfl, by have h := hV 169 (by decide) (by decide); rw [HV.out] at h; exact h, ?_⟩
                    rw [if_pos rfl]
                    have e170 : ρ (.tmp 170) = .slice A15 k c15 := by have h := hV 170 (by decide) (by decide); rw [HV.out] at h; exact h
                    have e171 : ρ (.tmp 171) = .func (.func 24) #[] #[.pointer (some ⟨gk, 0, none⟩)] := by have h := hV 171 (by decide) (by decide); rw [HV.out] at h; exact h
                    simp only [execOp]
                    go_simp
                    refine (openR A15 c15 xs ys k kk gk hk8 hkk w1 (cell_below hC ck) (RowOf.below hrow15.out hC)).mono ?_
                    rintro e w2 ⟨A2_, c2_, rfl, hb2⟩
                    exact ⟨_, rfl, below_step hC hb2, hb2, (by show V 172 _ _; rw [HV.out]; exact ⟨_, _, rfl⟩)⟩
                  · intro ρ w1 hc hf hg ho hC hV
                    refine ⟨169, _, rfl, by have h := hV 169 (by decide) (by decide); rw [HV.out] at h; exact h, ?_⟩
                    rw [if_pos rfl]
                    have e172 : QSpec.holds (.sl (k - 1)) (ρ (.tmp 172)) w1 := by have h := hV 172 (by decide) (by decide); rw [HV.out] at h; exact h
                    obtain ⟨A172, c172, e172⟩ := e172
                    simp only [execOp]
                    go_simp
                    exact ⟨hC, Below.refl _ _, (by show V 173 _ _; rw [HV.out]; exact rfl)⟩
                  · intro ρ w1 hc hf hg ho hC hV
                    refine ⟨169, _, rfl, by have h := hV 169 (by decide) (by decide); rw [HV.out] at h; exact h, ?_⟩
                    rw [if_pos rfl]
                    have e7 := ho 7 (by decide)
                    simp only [execOp]
                    go_simp
                    exact ⟨hC, Below.refl _ _, (by show V 174 _ _; rw [HV.out]; exact rfl)⟩
                  · intro ρ w1 hc hf hg ho hC hV
                    refine ⟨169, _, rfl, by have h := hV 169 (by decide) (by decide); rw [HV.out] at h; exact h, ?_⟩
                    rw [if_pos rfl]
                    have e174 : ρ (.tmp 174) = .slice A7 k c7 := by have h := hV 174 (by decide) (by decide); rw [HV.out] at h; exact h
                    simp only [execOp]
                    go_simp
                    exact ⟨hC, Below.refl _ _, (by show V 175 _ _; rw [HV.out]; exact rfl)⟩
                  · intro ρ w1 hc hf hg ho hC hV
                    refine ⟨169, _, rfl, by have h := hV 169 (by decide) (by decide); rw [HV.out] at h; exact h, ?_⟩
                    rw [if_pos rfl]
                    have e175 : ρ (.tmp 175) = .int .i64 k := by have h := hV 175 (by decide) (by decide); rw [HV.out] at h; exact h
                    simp only [execOp]
                    go_simp
                    exact ⟨hC, Below.refl _ _, (by show V 176 _ _; rw [HV.out]; exact congrArg (Value.int .i64) hk1w.out)⟩
                  · intro ρ w1 hc hf hg ho hC hV
                    refine ⟨169, _, rfl, by have h := hV 169 (by decide) (by decide); rw [HV.out] at h; exact h, ?_⟩
                    rw [if_pos rfl]
                    have e173 : ρ (.tmp 173) = .int .i64 (k - 1 : Nat) := by have h := hV 173 (by decide) (by decide); rw [HV.out] at h; exact h
                    have e176 : ρ (.tmp 176) = .int .i64 (k - 1 : Nat) := by have h := hV 176 (by decide) (by decide); rw [HV.out] at h; exact h
                    have hz1 : (((k - 1 : Nat) : Int) == ((k - 1 : Nat) : Int)) = true := beq_self_eq_true _
                    simp only [execOp]
                    go_simp
                    exact ⟨hC, Below.refl _ _, (by show V 177 _ _; rw [HV.out]; exact rfl)⟩
                  · intro ρ w1 hc hf hg ho hC hV
                    have e169 : ρ (.tmp 169) = .bool true := by have h := hV 169 (by decide) (by decide); rw [HV.out] at h; exact h
                    have e177 : ρ (.tmp 177) = .bool true := by have h := hV 177 (by decide) (by decide); rw [HV.out] at h; exact h
                    simp only [execOp]
                    go_simp
                    exact ⟨hC, Below.refl _ _, (by show V 178 _ _; rw [HV.out]; exact rfl)⟩
                  · intro ρ w1 hc hf hg ho hC hV
                    have e178 : ρ (.tmp 178) = .bool true := by have h := hV 178 (by decide) (by decide); rw [HV.out] at h; exact h
                    simp only [execOp]
                    go_simp
                    exact ⟨hC, Below.refl _ _, (by show V 179 _ _; rw [HV.out]; exact rfl)⟩
                  · intro ρ w1 hc hf hg ho hC hV
                    refine ⟨179, _, rfl, by have h := hV 179 (by decide) (by decide); rw [HV.out] at h; exact h, ?_⟩
                    rw [if_pos rfl]
                    simp only [execOp]
                    go_simp
                    refine (fits_any none 0 [] (by simp) 0 0 0 0 (0, 0) rfl w1 (RowOf.nil _ _ _ _)).mono ?_
                    rintro e w2 ⟨rfl, hb2⟩
                    rw [le0]
                    exact ⟨_, rfl, below_step hC hb2, hb2, (by show V 180 _ _; rw [HV.out]; exact rfl)⟩
                  · intro ρ w1 hc hf hg ho hC hV
                    have e179 : ρ (.tmp 179) = .bool true := by have h := hV 179 (by decide) (by decide); rw [HV.out] at h; exact h
                    have e180 : ρ (.tmp 180) = .bool true := by have h := hV 180 (by decide) (by decide); rw [HV.out] at h; exact h
                    simp only [execOp]
                    go_simp
                    exact ⟨hC, Below.refl _ _, (by show V 181 _ _; rw [HV.out]; exact rfl)⟩
                  · intro ρ w1 hc hf hg ho hC hV
                    have e181 : ρ (.tmp 181) = .bool true := by have h := hV 181 (by decide) (by decide); rw [HV.out] at h; exact h
                    simp only [execOp]
                    go_simp
                    exact ⟨hC, Below.refl _ _, (by show V 182 _ _; rw [HV.out]; exact rfl)⟩
                  · intro ρ w1 hc hf hg ho hC hV
                    refine ⟨182, _, rfl, by have h := hV 182 (by decide) (by decide); rw [HV.out] at h; exact h, ?_⟩
                    rw [if_pos rfl]
                    simp only [execOp]
                    go_simp
                    refine (wakes17 w1).mono ?_
                    rintro e w2 ⟨rfl, hb2⟩
                    exact ⟨_, rfl, below_step hC hb2, hb2, (by show V 183 _ _; rw [HV.out]; exact rfl)⟩
                  · intro ρ w1 hc hf hg ho hC hV
                    have e182 : ρ (.tmp 182) = .bool true := by have h := hV 182 (by decide) (by decide); rw [HV.out] at h; exact h
                    have e183 : ρ (.tmp 183) = .bool true := by have h := hV 183 (by decide) (by decide); rw [HV.out] at h; exact h
                    simp only [execOp]
                    go_simp
                    exact ⟨hC, Below.refl _ _, (by show V 184 _ _; rw [HV.out]; exact rfl)⟩
                  · intro ρ w1 hc hf hg ho hC hV
                    have e184 : ρ (.tmp 184) = .bool true := by have h := hV 184 (by decide) (by decide); rw [HV.out] at h; exact h
                    simp only [execOp]
                    go_simp
                    exact ⟨hC, Below.refl _ _, (by show V 6 _ _; rw [HV.out]; exact rfl)⟩
                · intro σ w1 hC hV
                  have v6 : σ 6 = .bool true := by have h := hV 6 (by decide); rw [HV.out] at h; exact h
                  clear hV HV V
                  dsimp only [dsts, List.filterMap, putAll, Act.put]
                  have hbx7 := below_step hbx5 hC
                  clear hC hbx5 ck ca cb
                  rw [v6]
                  clear v6
                  go_simp
                  go_wp2
                  go_ret
                  exact ⟨rfl, hbx7⟩
      · clear hlt
        go_wp2_with fail
        refine (rowsKR A7 c7 xs ys G k hGlH.out hk8 wo hent.out).mono ?_
        rintro e x1 ⟨v15, rfl, hown15, hx1⟩
        obtain ⟨A15, c15, hv⟩ := own_slice hown15
        subst hv
        have hrow15 := Lib.hid (own_rowOf (cells := RowT.cells) (fun _ => rfl) (by decide) hown15).2
        have own10a := Lib.hid (own_below own10.out hx1)
        have own11a := Lib.hid (own_below own11.out hx1)
        have hbx1 := below_step hb hx1
        clear hown15 own10 own11 hb hent hx1
        have qs : Hid ((FloatKind.f64.format.order (fz S) (fz S) == some .eq) = true) := selfEq_fz S (by omega)
        have qt : Hid ((FloatKind.f64.format.order (fz T) (fz T) == some .eq) = true) := selfEq_fz T (by omega)
        have hU := Lib.hid (usedAll A15 c15 xs ys k hk8 x1 hrow15.out)
        rw [← hSH.out, ← hTH.out] at hU
        go_wp2_with fail
        refine hU.out.mono ?_
        clear hU
        rintro e x2 ⟨rfl, hx2⟩
        have hbx2 := below_step hbx1 hx2
        have hrow15a := Lib.hid (hrow15.out.below hx2)
        have own10b := Lib.hid (own_below own10a.out hx2)
        have own11b := Lib.hid (own_below own11a.out hx2)
        clear hbx1 hx2 hrow15 own10a own11a
        have f1 : floatOfInt .f64 (S : Int) = fz S := rfl
        have f2 : floatOfInt .f64 (T : Int) = fz T := rfl
        have qs' := qs.out
        have qt' := qt.out
        by_cases hk0 : k = 0
        · subst hk0
          go_wp2_with fail
          refine (wakes17 x2).mono ?_
          rintro e x3 ⟨rfl, hx3⟩
          go_wp2
          go_ret
          exact ⟨rfl, below_step hbx2 hx3⟩
        · have hk0' : ((k : Int) == 0) = false := by rw [beq_eq_false_iff_ne]; omega
          clear hk0
          have hkp : 1 ≤ k := by
            have := beq_eq_false_iff_ne.1 hk0'
            omega
          have hm0 : 0 ≤ v % (k : Int) := Int.emod_nonneg v (by omega)
          have hm1 : v % (k : Int) < k := Int.emod_lt_of_pos v (by omega)
          go_wp2_with fail
          refine (within18 v k (by omega) (by omega) x2).mono ?_
          rintro e x3 ⟨rfl, rfl⟩
          obtain ⟨kk, hkk'⟩ : ∃ kk : Nat, v % (k : Int) = (kk : Int) := ⟨(v % (k : Int)).toNat, by omega⟩
          rw [hkk']
          have hkk : kk < k := by omega
          clear hkk' hm0 hm1 qs' qt' f1 f2
          obtain ⟨x2, hx2⟩ : ∃ x, x = x2 := ⟨_, rfl⟩
          rw [← hx2]
          rw [← hx2] at hbx2 hrow15a own10b own11b
          clear hx2
          go_upto_region 18 with (fail)
          generalize hW : x2.alloc _ = x3
          have ck : x3.cell? ⟨x2.heap.size, 0, none⟩ = some (.int .i64 kk) := by rw [← hW, cell_new]; rfl
          have hx3 : Below x2.heap.size x2 x3 := by rw [← hW]; exact below_alloc (Below.refl _ _) _
          have hbx3 := below_step hbx2 hx3
          have hrow15 := Lib.hid (hrow15a.out.below hx3)
          have own10c := Lib.hid (own_below own10b.out hx3)
          have own11c := Lib.hid (own_below own11b.out hx3)
          clear hW hbx2 hx3 hrow15a own10b own11b
          obtain ⟨gk, hgk⟩ : ∃ g, g = x2.heap.size := ⟨_, rfl⟩
          rw [← hgk] at ck ⊢
          clear hgk
          have hU := Lib.hid (usedBut A15 c15 xs ys k kk gk hk8 hkk x3 ck hrow15.out)
          have hs1 := but_sum (kx xs) k kk
          have ht1 := but_sum (ky ys) k kk
          rw [if_pos hkk, ← hSH.out] at hs1
          rw [if_pos hkk, ← hTH.out] at ht1
          obtain ⟨S1, hS1'⟩ : ∃ S1, S1 = ((but k kk).map (kx xs)).sum := ⟨_, rfl⟩
          obtain ⟨T1, hT1'⟩ : ∃ T1, T1 = ((but k kk).map (ky ys)).sum := ⟨_, rfl⟩
          rw [← hS1'] at hU hs1
          rw [← hT1'] at hU ht1
          have hXb := kx_lt xs kk
          have hYb := ky_lt ys kk
          obtain ⟨X, hX'⟩ : ∃ X, X = kx xs kk := ⟨_, rfl⟩
          obtain ⟨Y, hY'⟩ : ∃ Y, Y = ky ys kk := ⟨_, rfl⟩
          rw [← hX'] at hXb hs1
          rw [← hY'] at hYb ht1
          have hgetA := kaL_get xs k kk hkk
          have hgetB := kbL_get ys k kk hkk
          rw [← hX'] at hgetA
          rw [← hY'] at hgetB
          obtain ⟨hla, hra⟩ := own_introw own10c.out
          obtain ⟨hlb, hrb⟩ := own_introw own11c.out
          obtain ⟨ga, oa, hAa, hca⟩ := hra (by omega)
          obtain ⟨gb, ob, hAb, hcb⟩ := hrb (by omega)
          subst hAa
          subst hAb
          have ca : x3.cell? ⟨ga, oa + kk, none⟩ = some (.int .i64 X) := by have := hca kk _ hgetA 0 _ rfl; simpa using this
          have cb : x3.cell? ⟨gb, ob + kk, none⟩ = some (.int .i64 Y) := by have := hcb kk _ hgetB 0 _ rfl; simpa using this
          have hS1 : Hid (IntKind.i64.wrap ((S : Int) - X) = (S1 : Int)) := by
            show _ = _
            rw [IntWalk.i64_in _ (by omega)]
            omega
          have hT1 : Hid (IntKind.i64.wrap ((T : Int) - Y) = (T1 : Int)) := by
            show _ = _
            rw [IntWalk.i64_in _ (by omega)]
            omega
          have hk1w : Hid (IntKind.i64.wrap ((k : Int) - 1) = ((k - 1 : Nat) : Int)) := by
            show _ = _
            rw [IntWalk.i64_in _ (by omega)]
            omega
          have hfit : Hid (sumGo (0, 0) ((fz S1, fz T1) :: [(⟨⟨#[122]⟩, fz X, fz Y⟩ : Item)].map Item.cx) = some (fz S, fz T)) := by
            have h := fit_sum S1 T1 X Y (by omega) (by omega) ⟨#[122]⟩
            rw [show S1 + X = S by omega, show T1 + Y = T by omega] at h
            exact h
          obtain ⟨S9, hS9⟩ : ∃ S9, S9 = S - 1 := ⟨_, rfl⟩
          obtain ⟨T9, hT9⟩ : ∃ T9, T9 = T - 1 := ⟨_, rfl⟩
          have le1 : Hid ((leB (fz S) (fz S) && leB (fz T) (fz T)) = true) := by
            show _ = _
            rw [leB_fz _ _ (by omega) (by omega), leB_fz _ _ (by omega) (by omega)]
            simp
          have le2 : Hid ((leB (fz S) (fz S) && leB (fz T) (fz T9)) = false) := by
            show _ = _
            rw [leB_fz _ _ (by omega) (by omega), leB_fz T T9 (by omega) (by omega), decide_eq_false (show ¬ T ≤ T9 by omega)]
            simp
          have hsub1 : Hid (∀ w, (binOp .sub 47 (.complex .f64 (fz S) (fz T)) (.complex .f64 0 4607182418800017408)).run Try.prog w = .ok (.complex .f64 (fz S) (fz T9)) w) := by
            intro w
            have h := sub_fz S T 0 1 (by omega) (by omega) (by omega) (by omega)
            rw [show ((0 : Nat) : Int) = 0 from rfl, show ((1 : Nat) : Int) = 1 from rfl, fz_zero, fz_one, Nat.sub_zero, ← hT9] at h
            exact run_complex_sum w .sub (.inr rfl) 47 .f64 _ _ _ _ _ _ h
          obtain ⟨hYb1, hYb2⟩ := hYb
          have hS9H := Lib.hid hS9
          have hS1b : S1 ≤ S := by omega
          have hT1b : T1 ≤ T := by omega
          clear hS9 hT9 hs1 ht1 own10c own11c hra hrb hca hcb hgetA hgetB hS1' hT1' hX' hY' hla hlb
          go_wp2_with fail
          refine hU.out.mono ?_
          clear hU
          rintro e x4 ⟨rfl, hx4⟩
          have hbx4 := below_step hbx3 hx4
          replace ck := cell_below hx4 ck
          replace ca := cell_below hx4 ca
          replace cb := cell_below hx4 cb
          have hrow15b := Lib.hid (hrow15.out.below hx4)
          clear hbx3 hx4 hrow15
          go_wp2_with fail
          obtain ⟨x5, hx5⟩ : ∃ x, x = x4 := ⟨_, rfl⟩
          rw [← hx5]
          rw [← hx5] at hbx4 ck ca cb hrow15b
          clear hx5
          obtain ⟨V, HV⟩ : ∃ V : Tmp → Value → World → Prop, Hid (V = fun sl_ v_ w_ => QSpec.holds (match sl_ with | 19 => .row 1 50 [.string ⟨#[122]⟩, .complex .f64 (fz X) (fz Y)] | 108 => .det (.slice (some ⟨ga, oa, none⟩) k c10) | 109 => .det (.int .i64 kk) | 110 => .det (.pointer (some ⟨ga, oa + kk, none⟩)) | 111 => .det (.int .i64 X) | 112 => .det (.float .f64 (fz X)) | 113 => .det (.slice (some ⟨gb, ob, none⟩) k c11) | 114 => .det (.int .i64 kk) | 115 => .det (.pointer (some ⟨gb, ob + kk, none⟩)) | 116 => .det (.int .i64 Y) | 117 => .det (.float .f64 (fz Y)) | 118 => .det (.complex .f64 (fz X) (fz Y)) | 119 => .det (.agg #[.string ⟨#[122]⟩, .complex .f64 (fz X) (fz Y)]) | 120 => .row 1 50 [.string ⟨#[122]⟩, .complex .f64 (fz X) (fz Y)] | _ => .any) v_ w_) := ⟨_, rfl⟩
          refine wp_region_loose (Below x5.heap.size x5 ·) (fun w_ w_2 => Below w_.heap.size w_ w_2) V (by kernel_rfl) (by kernel_rfl) (by kernel_rfl) (Below.refl _ _).drew (fun w_ => Below.refl _ _) ?_ ?_ ?_
          · intro t v w w' hC hR h
            rw [HV.out] at h ⊢
            exact QSpec.mono hR _ _ h
          · go_light
            simp only [List.forall_mem_cons]
            refine ⟨?_, ?_, ?_, ?_, ?_, ?_, ?_, ?_, ?_, ?_, ?_, ?_, ?_, ?_, fun _ h => by cases h⟩
            · intro ρ w1 hc hf hg ho hC hV
              have e10 := ho 10 (by decide)
              simp only [execOp]
              go_simp
              exact ⟨hC, Below.refl _ _, (by show V 108 _ _; rw [HV.out]; exact rfl)⟩
            · intro ρ w1 hc hf hg ho hC hV
              have e16 := ho 16 (by decide)
              have ck' := cell_below hC ck
              simp only [execOp]
              go_simp
              exact ⟨hC, Below.refl _ _, (by show V 109 _ _; rw [HV.out]; exact rfl)⟩
            · intro ρ w1 hc hf hg ho hC hV
              have e108 : ρ (.tmp 108) = .slice (some ⟨ga, oa, none⟩) k c10 := by have h := hV 108 (by decide) (by decide); rw [HV.out] at h; exact h
              have e109 : ρ (.tmp 109) = .int .i64 kk := by have h := hV 109 (by decide) (by decide); rw [HV.out] at h; exact h
              simp only [execOp]
              go_simp
              exact ⟨hC, Below.refl _ _, (by show V 110 _ _; rw [HV.out]; exact rfl)⟩
            · intro ρ w1 hc hf hg ho hC hV
              have e110 : ρ (.tmp 110) = .pointer (some ⟨ga, oa + kk, none⟩) := by have h := hV 110 (by decide) (by decide); rw [HV.out] at h; exact h
              have ca' := cell_below hC ca
              simp only [execOp]
              go_simp
              exact ⟨hC, Below.refl _ _, (by show V 111 _ _; rw [HV.out]; exact rfl)⟩
            · intro ρ w1 hc hf hg ho hC hV
              have e111 : ρ (.tmp 111) = .int .i64 X := by have h := hV 111 (by decide) (by decide); rw [HV.out] at h; exact h
              simp only [execOp]
              go_simp
              exact ⟨hC, Below.refl _ _, (by show V 112 _ _; rw [HV.out]; exact rfl)⟩
            · intro ρ w1 hc hf hg ho hC hV
              have e11 := ho 11 (by decide)
              simp only [execOp]
              go_simp
              exact ⟨hC, Below.refl _ _, (by show V 113 _ _; rw [HV.out]; exact rfl)⟩
            · intro ρ w1 hc hf hg ho hC hV
              have e16 := ho 16 (by decide)
              have ck' := cell_below hC ck
              simp only [execOp]
              go_simp
              exact ⟨hC, Below.refl _ _, (by show V 114 _ _; rw [HV.out]; exact rfl)⟩
            · intro ρ w1 hc hf hg ho hC hV
              have e113 : ρ (.tmp 113) = .slice (some ⟨gb, ob, none⟩) k c11 := by have h := hV 113 (by decide) (by decide); rw [HV.out] at h; exact h
              have e114 : ρ (.tmp 114) = .int .i64 kk := by have h := hV 114 (by decide) (by decide); rw [HV.out] at h; exact h
              simp only [execOp]
              go_simp
              exact ⟨hC, Below.refl _ _, (by show V 115 _ _; rw [HV.out]; exact rfl)⟩
            · intro ρ w1 hc hf hg ho hC hV
              have e115 : ρ (.tmp 115) = .pointer (some ⟨gb, ob + kk, none⟩) := by have h := hV 115 (by decide) (by decide); rw [HV.out] at h; exact h
              have cb' := cell_below hC cb
              simp only [execOp]
              go_simp
              exact ⟨hC, Below.refl _ _, (by show V 116 _ _; rw [HV.out]; exact rfl)⟩
            · intro ρ w1 hc hf hg ho hC hV
              have e116 : ρ (.tmp 116) = .int .i64 Y := by have h := hV 116 (by decide) (by decide); rw [HV.out] at h; exact h
              simp only [execOp]
              go_simp
              exact ⟨hC, Below.refl _ _, (by show V 117 _ _; rw [HV.out]; exact rfl)⟩
            · intro ρ w1 hc hf hg ho hC hV
              have e112 : ρ (.tmp 112) = .float .f64 (fz X) := by have h := hV 112 (by decide) (by decide); rw [HV.out] at h; exact h
              have e117 : ρ (.tmp 117) = .float .f64 (fz Y) := by have h := hV 117 (by decide) (by decide); rw [HV.out] at h; exact h
              simp only [execOp]
              go_simp
              exact ⟨hC, Below.refl _ _, (by show V 118 _ _; rw [HV.out]; exact rfl)⟩
            · intro ρ w1 hc hf hg ho hC hV
              have e118 : ρ (.tmp 118) = .complex .f64 (fz X) (fz Y) := by have h := hV 118 (by decide) (by decide); rw [HV.out] at h; exact h
              simp only [execOp]
              go_simp
              exact ⟨hC, Below.refl _ _, (by show V 119 _ _; rw [HV.out]; exact rfl)⟩
            · intro ρ w1 hc hf hg ho hC hV
              have e119 : ρ (.tmp 119) = .agg #[.string ⟨#[122]⟩, .complex .f64 (fz X) (fz Y)] := by have h := hV 119 (by decide) (by decide); rw [HV.out] at h; exact h
              simp only [execOp]
              go_simp
              exact ⟨below_alloc hC _, below_alloc (Below.refl _ _) _, (by show V 120 _ _; rw [HV.out]; exact ⟨_, rfl, blk_new _ _⟩)⟩
            · intro ρ w1 hc hf hg ho hC hV
              have e120 : QSpec.holds (.row 1 50 [.string ⟨#[122]⟩, .complex .f64 (fz X) (fz Y)]) (ρ (.tmp 120)) w1 := by have h := hV 120 (by decide) (by decide); rw [HV.out] at h; exact h
              obtain ⟨g120, e120, h120⟩ := e120
              simp only [execOp]
              rw [e120]
              go_simp
              exact ⟨hC, Below.refl _ _, (by show V 19 _ _; rw [HV.out]; exact ⟨_, rfl, h120⟩)⟩
          · intro σ w1 hC hV
            have v19 : QSpec.holds (.row 1 50 [.string ⟨#[122]⟩, .complex .f64 (fz X) (fz Y)]) (σ 19) w1 := by have h := hV 19 (by decide); rw [HV.out] at h; exact h
            clear hV HV V
            dsimp only [dsts, List.filterMap, putAll, Act.put]
            obtain ⟨g19, v19, h19⟩ := v19
            have h19H := Lib.hid h19
            have hbx5 := below_step hbx4 hC
            replace ck := cell_below hC ck
            replace ca := cell_below hC ca
            replace cb := cell_below hC cb
            have hrow15c := Lib.hid (hrow15b.out.below hC)
            clear hC h19 hbx4 hrow15b
            rw [v19]
            clear v19
            go_simp
            go_wp2_with fail
            obtain ⟨x6, hx6⟩ : ∃ x, x = w1 := ⟨_, rfl⟩
            rw [← hx6]
            rw [← hx6] at hbx5 ck ca cb hrow15c h19H
            clear hx6
            rw [show floatOfInt FloatKind.f64 (S : Int) = fz S from rfl, show floatOfInt FloatKind.f64 (T : Int) = fz T from rfl]
            have qs1 : Hid ((FloatKind.f64.format.order (fz S1) (fz S1) == some .eq) = true) := selfEq_fz S1 (by omega)
            have qt1 : Hid ((FloatKind.f64.format.order (fz T1) (fz T1) == some .eq) = true) := selfEq_fz T1 (by omega)
            clear qs qt hk0'
            have hrow15 := hrow15c
            have h19 := h19H
            clear hrow15c h19H
            by_cases hSz : S = 0
            · have hz0 : Hid (((S : Int) == 0) = true) := by show _ = _; rw [beq_iff_eq]; omega
              clear hSz
              obtain ⟨V, HV⟩ : ∃ V : Tmp → Value → World → Prop, Hid (V = fun sl_ v_ w_ => QSpec.holds (match sl_ with | 6 => .det (.bool true) | 126 => .det (.complex .f64 (fz S1) (fz T1)) | 127 => .det (.int .i64 S) | 128 => .det (.slice (some ⟨ga, oa, none⟩) k c10) | 129 => .det (.int .i64 kk) | 130 => .det (.pointer (some ⟨ga, oa + kk, none⟩)) | 131 => .det (.int .i64 X) | 132 => .det (.int .i64 S1) | 133 => .det (.float .f64 (fz S1)) | 134 => .det (.int .i64 T) | 135 => .det (.slice (some ⟨gb, ob, none⟩) k c11) | 136 => .det (.int .i64 kk) | 137 => .det (.pointer (some ⟨gb, ob + kk, none⟩)) | 138 => .det (.int .i64 Y) | 139 => .det (.int .i64 T1) | 140 => .det (.float .f64 (fz T1)) | 141 => .det (.complex .f64 (fz S1) (fz T1)) | 142 => .det (.bool true) | 143 => .det (.bool true) | 144 => .det (.complex .f64 (fz S1) (fz T1)) | 145 => .det (.complex .f64 (fz S) (fz T)) | 146 => .det (.slice (some ⟨g19, 0, none⟩) 1 1) | 147 => .det (.bool true) | 148 => .det (.bool true) | 149 => .det (.bool true) | 150 => .det (.complex .f64 (fz S1) (fz T1)) | 151 => .det (.complex .f64 (fz S) (fz T)) | 152 => .det (.complex .f64 (fz S) (fz T9)) | 153 => .det (.slice (some ⟨g19, 0, none⟩) 1 1) | 154 => .det (.bool false) | 155 => .det (.bool true) | 156 => .det (.bool true) | 157 => .det (.bool true) | 158 => .det (.int .i64 S) | 159 => .det (.bool true) | 160 => .det (.bool true) | 167 => .det (.bool true) | 168 => .det (.bool true) | 169 => .det (.bool true) | 170 => .det (.slice A15 k c15) | 171 => .det (.func (.func 24) #[] #[.pointer (some ⟨gk, 0, none⟩)]) | 172 => .sl (k - 1) | 173 => .det (.int .i64 (k - 1 : Nat)) | 174 => .det (.slice A7 k c7) | 175 => .det (.int .i64 k) | 176 => .det (.int .i64 (k - 1 : Nat)) | 177 => .det (.bool true) | 178 => .det (.bool true) | 179 => .det (.bool true) | 180 => .det (.bool true) | 181 => .det (.bool true) | 182 => .det (.bool true) | 183 => .det (.bool true) | 184 => .det (.bool true) | _ => .any) v_ w_) := ⟨_, rfl⟩
              refine wp_region_loose (Below x6.heap.size x6 ·) (fun w_ w_2 => Below w_.heap.size w_ w_2) V (by kernel_rfl) (by kernel_rfl) (by kernel_rfl) (Below.refl _ _).drew (fun w_ => Below.refl _ _) ?_ ?_ ?_
              · intro t v w w' hC hR h
                rw [HV.out] at h ⊢
                exact QSpec.mono hR _ _ h
              · go_light
                simp only [List.forall_mem_cons]
                refine ⟨?_, ?_, ?_, ?_, ?_, ?_, ?_, ?_, ?_, ?_, ?_, ?_, ?_, ?_, ?_, ?_, ?_, ?_, ?_, ?_, ?_, ?_, ?_, ?_, ?_, ?_, ?_, ?_, ?_, ?_, ?_, ?_, ?_, ?_, ?_, ?_, ?_, ?_, ?_, ?_, ?_, ?_, ?_, ?_, ?_, ?_, ?_, ?_, ?_, ?_, ?_, ?_, ?_, ?_, ?_, ?_, ?_, ?_, ?_, ?_, fun _ h => by cases h⟩
                · intro ρ w1 hc hf hg ho hC hV
                  have e18 := ho 18 (by decide)
                  simp only [execOp]
                  go_simp
                  exact ⟨hC, Below.refl _ _, (by show V 126 _ _; rw [HV.out]; exact rfl)⟩
                · intro ρ w1 hc hf hg ho hC hV
                  have e8 := ho 8 (by decide)
                  simp only [execOp]
                  go_simp
                  exact ⟨hC, Below.refl _ _, (by show V 127 _ _; rw [HV.out]; exact rfl)⟩
                · intro ρ w1 hc hf hg ho hC hV
                  have e10 := ho 10 (by decide)
                  simp only [execOp]
                  go_simp
                  exact ⟨hC, Below.refl _ _, (by show V 128 _ _; rw [HV.out]; exact rfl)⟩
                · intro ρ w1 hc hf hg ho hC hV
                  have e16 := ho 16 (by decide)
                  have ck' := cell_below hC ck
                  simp only [execOp]
                  go_simp
                  exact ⟨hC, Below.refl _ _, (by show V 129 _ _; rw [HV.out]; exact rfl)⟩
                · intro ρ w1 hc hf hg ho hC hV
                  have e128 : ρ (.tmp 128) = .slice (some ⟨ga, oa, none⟩) k c10 := by have h := hV 128 (by decide) (by decide); rw [HV.out] at h; exact h
                  have e129 : ρ (.tmp 129) = .int .i64 kk := by have h := hV 129 (by decide) (by decide); rw [HV.out] at h; exact h
                  simp only [execOp]
                  go_simp
                  exact ⟨hC, Below.refl _ _, (by show V 130 _ _; rw [HV.out]; exact rfl)⟩
                · intro ρ w1 hc hf hg ho hC hV
                  have e130 : ρ (.tmp 130) = .pointer (some ⟨ga, oa + kk, none⟩) := by have h := hV 130 (by decide) (by decide); rw [HV.out] at h; exact h
                  have ca' := cell_below hC ca
                  simp only [execOp]
                  go_simp
                  exact ⟨hC, Below.refl _ _, (by show V 131 _ _; rw [HV.out]; exact rfl)⟩
                · intro ρ w1 hc hf hg ho hC hV
                  have e127 : ρ (.tmp 127) = .int .i64 S := by have h := hV 127 (by decide) (by decide); rw [HV.out] at h; exact h
                  have e131 : ρ (.tmp 131) = .int .i64 X := by have h := hV 131 (by decide) (by decide); rw [HV.out] at h; exact h
                  simp only [execOp]
                  go_simp
                  exact ⟨hC, Below.refl _ _, (by show V 132 _ _; rw [HV.out]; exact congrArg (Value.int .i64) hS1.out)⟩
                · intro ρ w1 hc hf hg ho hC hV
                  have e132 : ρ (.tmp 132) = .int .i64 S1 := by have h := hV 132 (by decide) (by decide); rw [HV.out] at h; exact h
                  simp only [execOp]
                  go_simp
                  exact ⟨hC, Below.refl _ _, (by show V 133 _ _; rw [HV.out]; exact rfl)⟩
                · intro ρ w1 hc hf hg ho hC hV
                  have e9 := ho 9 (by decide)
                  simp only [execOp]
                  go_simp
                  exact ⟨hC, Below.refl _ _, (by show V 134 _ _; rw [HV.out]; exact rfl)⟩
                · intro ρ w1 hc hf hg ho hC hV
                  have e11 := ho 11 (by decide)
                  simp only [execOp]
                  go_simp
                  exact ⟨hC, Below.refl _ _, (by show V 135 _ _; rw [HV.out]; exact rfl)⟩
                · intro ρ w1 hc hf hg ho hC hV
                  have e16 := ho 16 (by decide)
                  have ck' := cell_below hC ck
                  simp only [execOp]
                  go_simp
                  exact ⟨hC, Below.refl _ _, (by show V 136 _ _; rw [HV.out]; exact rfl)⟩
                · intro ρ w1 hc hf hg ho hC hV
                  have e135 : ρ (.tmp 135) = .slice (some ⟨gb, ob, none⟩) k c11 := by have h := hV 135 (by decide) (by decide); rw [HV.out] at h; exact h
                  have e136 : ρ (.tmp 136) = .int .i64 kk := by have h := hV 136 (by decide) (by decide); rw [HV.out] at h; exact h
                  simp only [execOp]
                  go_simp
                  exact ⟨hC, Below.refl _ _, (by show V 137 _ _; rw [HV.out]; exact rfl)⟩
                · intro ρ w1 hc hf hg ho hC hV
                  have e137 : ρ (.tmp 137) = .pointer (some ⟨gb, ob + kk, none⟩) := by have h := hV 137 (by decide) (by decide); rw [HV.out] at h; exact h
                  have cb' := cell_below hC cb
                  simp only [execOp]
                  go_simp
                  exact ⟨hC, Below.refl _ _, (by show V 138 _ _; rw [HV.out]; exact rfl)⟩
                · intro ρ w1 hc hf hg ho hC hV
                  have e134 : ρ (.tmp 134) = .int .i64 T := by have h := hV 134 (by decide) (by decide); rw [HV.out] at h; exact h
                  have e138 : ρ (.tmp 138) = .int .i64 Y := by have h := hV 138 (by decide) (by decide); rw [HV.out] at h; exact h
                  simp only [execOp]
                  go_simp
                  exact ⟨hC, Below.refl _ _, (by show V 139 _ _; rw [HV.out]; exact congrArg (Value.int .i64) hT1.out)⟩
                · intro ρ w1 hc hf hg ho hC hV
                  have e139 : ρ (.tmp 139) = .int .i64 T1 := by have h := hV 139 (by decide) (by decide); rw [HV.out] at h; exact h
                  simp only [execOp]
                  go_simp
                  exact ⟨hC, Below.refl _ _, (by show V 140 _ _; rw [HV.out]; exact rfl)⟩
                · intro ρ w1 hc hf hg ho hC hV
                  have e133 : ρ (.tmp 133) = .float .f64 (fz S1) := by have h := hV 133 (by decide) (by decide); rw [HV.out] at h; exact h
                  have e140 : ρ (.tmp 140) = .float .f64 (fz T1) := by have h := hV 140 (by decide) (by decide); rw [HV.out] at h; exact h
                  simp only [execOp]
                  go_simp
                  exact ⟨hC, Below.refl _ _, (by show V 141 _ _; rw [HV.out]; exact rfl)⟩
                · intro ρ w1 hc hf hg ho hC hV
                  have e126 : ρ (.tmp 126) = .complex .f64 (fz S1) (fz T1) := by have h := hV 126 (by decide) (by decide); rw [HV.out] at h; exact h
                  have e141 : ρ (.tmp 141) = .complex .f64 (fz S1) (fz T1) := by have h := hV 141 (by decide) (by decide); rw [HV.out] at h; exact h
                  have q1 := qs1.out
                  have q2 := qt1.out
                  simp only [execOp]
                  go_simp
                  exact ⟨hC, Below.refl _ _, (by show V 142 _ _; rw [HV.out]; exact rfl)⟩
                · intro ρ w1 hc hf hg ho hC hV
                  have e142 : ρ (.tmp 142) = .bool true := by have h := hV 142 (by decide) (by decide); rw [HV.out] at h; exact h
                  simp only [execOp]
                  go_simp
                  exact ⟨hC, Below.refl _ _, (by show V 143 _ _; rw [HV.out]; exact rfl)⟩
                · intro ρ w1 hc hf hg ho hC hV
                  refine ⟨143, _, rfl, by have h := hV 143 (by decide) (by decide); rw [HV.out] at h; exact h, ?_⟩
                  rw [if_pos rfl]
                  have e18 := ho 18 (by decide)
                  simp only [execOp]
                  go_simp
                  exact ⟨hC, Below.refl _ _, (by show V 144 _ _; rw [HV.out]; exact rfl)⟩
                · intro ρ w1 hc hf hg ho hC hV
                  refine ⟨143, _, rfl, by have h := hV 143 (by decide) (by decide); rw [HV.out] at h; exact h, ?_⟩
                  rw [if_pos rfl]
                  have e20 := ho 20 (by decide)
                  simp only [execOp]
                  go_simp
                  exact ⟨hC, Below.refl _ _, (by show V 145 _ _; rw [HV.out]; exact rfl)⟩
                · intro ρ w1 hc hf hg ho hC hV
                  refine ⟨143, _, rfl, by have h := hV 143 (by decide) (by decide); rw [HV.out] at h; exact h, ?_⟩
                  rw [if_pos rfl]
                  have e19 := ho 19 (by decide)
                  simp only [execOp]
                  go_simp
                  exact ⟨hC, Below.refl _ _, (by show V 146 _ _; rw [HV.out]; exact rfl)⟩
                · intro ρ w1 hc hf hg ho hC hV
                  refine ⟨143, _, rfl, by have h := hV 143 (by decide) (by decide); rw [HV.out] at h; exact h, ?_⟩
                  rw [if_pos rfl]
                  have e144 : ρ (.tmp 144) = .complex .f64 (fz S1) (fz T1) := by have h := hV 144 (by decide) (by decide); rw [HV.out] at h; exact h
                  have e145 : ρ (.tmp 145) = .complex .f64 (fz S) (fz T) := by have h := hV 145 (by decide) (by decide); rw [HV.out] at h; exact h
                  have e146 : ρ (.tmp 146) = .slice (some ⟨g19, 0, none⟩) 1 1 := by have h := hV 146 (by decide) (by decide); rw [HV.out] at h; exact h
                  simp only [execOp]
                  go_simp
                  refine (fits_any (some ⟨g19, 0, none⟩) 1 [⟨⟨#[122]⟩, fz X, fz Y⟩] (by simp) (fz S1) (fz T1) (fz S) (fz T) (fz S, fz T) hfit.out w1 (RowOf.of_blk (cells := Item.cells) (size := 2) (fun _ => rfl) (blk_below h19.out hC) rfl)).mono ?_
                  rintro e w2 ⟨rfl, hb2⟩
                  rw [le1.out]
                  exact ⟨_, rfl, below_step hC hb2, hb2, (by show V 147 _ _; rw [HV.out]; exact rfl)⟩
                · intro ρ w1 hc hf hg ho hC hV
                  have e143 : ρ (.tmp 143) = .bool true := by have h := hV 143 (by decide) (by decide); rw [HV.out] at h; exact h
                  have e147 : ρ (.tmp 147) = .bool true := by have h := hV 147 (by decide) (by decide); rw [HV.out] at h; exact h
                  simp only [execOp]
                  go_simp
                  exact ⟨hC, Below.refl _ _, (by show V 148 _ _; rw [HV.out]; exact rfl)⟩
                · intro ρ w1 hc hf hg ho hC hV
                  have e148 : ρ (.tmp 148) = .bool true := by have h := hV 148 (by decide) (by decide); rw [HV.out] at h; exact h
                  simp only [execOp]
                  go_simp
                  exact ⟨hC, Below.refl _ _, (by show V 149 _ _; rw [HV.out]; exact rfl)⟩
                · intro ρ w1 hc hf hg ho hC hV
                  refine ⟨149, _, rfl, by have h := hV 149 (by decide) (by decide); rw [HV.out] at h; exact h, ?_⟩
                  rw [if_pos rfl]
                  have e18 := ho 18 (by decide)
                  simp only [execOp]
                  go_simp
                  exact ⟨hC, Below.refl _ _, (by show V 150 _ _; rw [HV.out]; exact rfl)⟩
                · intro ρ w1 hc hf hg ho hC hV
                  refine ⟨149, _, rfl, by have h := hV 149 (by decide) (by decide); rw [HV.out] at h; exact h, ?_⟩
                  rw [if_pos rfl]
                  have e20 := ho 20 (by decide)
                  simp only [execOp]
                  go_simp
                  exact ⟨hC, Below.refl _ _, (by show V 151 _ _; rw [HV.out]; exact rfl)⟩
                · intro ρ w1 hc hf hg ho hC hV
                  refine ⟨149, _, rfl, by have h := hV 149 (by decide) (by decide); rw [HV.out] at h; exact h, ?_⟩
                  rw [if_pos rfl]
                  have e151 : ρ (.tmp 151) = .complex .f64 (fz S) (fz T) := by have h := hV 151 (by decide) (by decide); rw [HV.out] at h; exact h
                  have hs1 := hsub1.out
                  simp only [execOp]
                  go_simp
                  exact ⟨hC, Below.refl _ _, (by show V 152 _ _; rw [HV.out]; exact rfl)⟩
                · intro ρ w1 hc hf hg ho hC hV
                  refine ⟨149, _, rfl, by have h := hV 149 (by decide) (by decide); rw [HV.out] at h; exact h, ?_⟩
                  rw [if_pos rfl]
                  have e19 := ho 19 (by decide)
                  simp only [execOp]
                  go_simp
                  exact ⟨hC, Below.refl _ _, (by show V 153 _ _; rw [HV.out]; exact rfl)⟩
                · intro ρ w1 hc hf hg ho hC hV
                  refine ⟨149, _, rfl, by have h := hV 149 (by decide) (by decide); rw [HV.out] at h; exact h, ?_⟩
                  rw [if_pos rfl]
                  have e150 : ρ (.tmp 150) = .complex .f64 (fz S1) (fz T1) := by have h := hV 150 (by decide) (by decide); rw [HV.out] at h; exact h
                  have e152 : ρ (.tmp 152) = .complex .f64 (fz S) (fz T9) := by have h := hV 152 (by decide) (by decide); rw [HV.out] at h; exact h
                  have e153 : ρ (.tmp 153) = .slice (some ⟨g19, 0, none⟩) 1 1 := by have h := hV 153 (by decide) (by decide); rw [HV.out] at h; exact h
                  simp only [execOp]
                  go_simp
                  refine (fits_any (some ⟨g19, 0, none⟩) 1 [⟨⟨#[122]⟩, fz X, fz Y⟩] (by simp) (fz S1) (fz T1) (fz S) (fz T9) (fz S, fz T) hfit.out w1 (RowOf.of_blk (cells := Item.cells) (size := 2) (fun _ => rfl) (blk_below h19.out hC) rfl)).mono ?_
                  rintro e w2 ⟨rfl, hb2⟩
                  rw [le2.out]
                  exact ⟨_, rfl, below_step hC hb2, hb2, (by show V 154 _ _; rw [HV.out]; exact rfl)⟩
                · intro ρ w1 hc hf hg ho hC hV
                  refine ⟨149, _, rfl, by have h := hV 149 (by decide) (by decide); rw [HV.out] at h; exact h, ?_⟩
                  rw [if_pos rfl]
                  have e154 : ρ (.tmp 154) = .bool false := by have h := hV 154 (by decide) (by decide); rw [HV.out] at h; exact h
                  simp only [execOp]
                  go_simp
                  exact ⟨hC, Below.refl _ _, (by show V 155 _ _; rw [HV.out]; exact rfl)⟩
                · intro ρ w1 hc hf hg ho hC hV
                  have e149 : ρ (.tmp 149) = .bool true := by have h := hV 149 (by decide) (by decide); rw [HV.out] at h; exact h
                  have e155 : ρ (.tmp 155) = .bool true := by have h := hV 155 (by decide) (by decide); rw [HV.out] at h; exact h
                  simp only [execOp]
                  go_simp
                  exact ⟨hC, Below.refl _ _, (by show V 156 _ _; rw [HV.out]; exact rfl)⟩
                · intro ρ w1 hc hf hg ho hC hV
                  have e156 : ρ (.tmp 156) = .bool true := by have h := hV 156 (by decide) (by decide); rw [HV.out] at h; exact h
                  simp only [execOp]
                  go_simp
                  exact ⟨hC, Below.refl _ _, (by show V 157 _ _; rw [HV.out]; exact rfl)⟩
                · intro ρ w1 hc hf hg ho hC hV
                  refine ⟨157, _, rfl, by have h := hV 157 (by decide) (by decide); rw [HV.out] at h; exact h, ?_⟩
                  rw [if_pos rfl]
                  have e8 := ho 8 (by decide)
                  simp only [execOp]
                  go_simp
                  exact ⟨hC, Below.refl _ _, (by show V 158 _ _; rw [HV.out]; exact rfl)⟩
                · intro ρ w1 hc hf hg ho hC hV
                  refine ⟨157, _, rfl, by have h := hV 157 (by decide) (by decide); rw [HV.out] at h; exact h, ?_⟩
                  rw [if_pos rfl]
                  have e158 : ρ (.tmp 158) = .int .i64 S := by have h := hV 158 (by decide) (by decide); rw [HV.out] at h; exact h
                  have hz1 := hz0.out
                  simp only [execOp]
                  go_simp
                  exact ⟨hC, Below.refl _ _, (by show V 159 _ _; rw [HV.out]; exact rfl)⟩
                · intro ρ w1 hc hf hg ho hC hV
                  refine ⟨157, _, rfl, by have h := hV 157 (by decide) (by decide); rw [HV.out] at h; exact h, ?_⟩
                  rw [if_pos rfl]
                  have e159 : ρ (.tmp 159) = .bool true := by have h := hV 159 (by decide) (by decide); rw [HV.out] at h; exact h
                  simp only [execOp]
                  go_simp
                  exact ⟨hC, Below.refl _ _, (by show V 160 _ _; rw [HV.out]; exact rfl)⟩
                · intro ρ w1 hc hf hg ho hC hV
                  refine ⟨160, _, rfl, by have h := hV 160 (by decide) (by decide); rw [HV.out] at h; exact h, ?_⟩
                  rw [if_neg (by decide)]
                  show V 161 _ _; rw [HV.out]; exact trivial
                · intro ρ w1 hc hf hg ho hC hV
                  refine ⟨160, _, rfl, by have h := hV 160 (by decide) (by decide); rw [HV.out] at h; exact h, ?_⟩
                  rw [if_neg (by decide)]
                  show V 162 _ _; rw [HV.out]; exact trivial
                · intro ρ w1 hc hf hg ho hC hV
                  refine ⟨160, _, rfl, by have h := hV 160 (by decide) (by decide); rw [HV.out] at h; exact h, ?_⟩
                  rw [if_neg (by decide)]
                  show V 163 _ _; rw [HV.out]; exact trivial
                · intro ρ w1 hc hf hg ho hC hV
                  refine ⟨160, _, rfl, by have h := hV 160 (by decide) (by decide); rw [HV.out] at h; exact h, ?_⟩
                  rw [if_neg (by decide)]
                  show V 164 _ _; rw [HV.out]; exact trivial
                · intro ρ w1 hc hf hg ho hC hV
                  refine ⟨160, _, rfl, by have h := hV 160 (by decide) (by decide); rw [HV.out] at h; exact h, ?_⟩
                  rw [if_neg (by decide)]
                  show V 165 _ _; rw [HV.out]; exact trivial
                · intro ρ w1 hc hf hg ho hC hV
                  refine ⟨160, _, rfl, by have h := hV 160 (by decide) (by decide); rw [HV.out] at h; exact h, ?_⟩
                  rw [if_neg (by decide)]
                  show V 166 _ _; rw [HV.out]; exact trivial
                · intro ρ w1 hc hf hg ho hC hV
                  refine ⟨157, _, rfl, by have h := hV 157 (by decide) (by decide); rw [HV.out] at h; exact h, ?_⟩
                  rw [if_pos rfl]
                  have e160 : ρ (.tmp 160) = .bool true := by have h := hV 160 (by decide) (by decide); rw [HV.out] at h; exact h
                  simp only [execOp]
                  go_simp
                  exact ⟨hC, Below.refl _ _, (by show V 167 _ _; rw [HV.out]; exact rfl)⟩
                · intro ρ w1 hc hf hg ho hC hV
                  have e157 : ρ (.tmp 157) = .bool true := by have h := hV 157 (by decide) (by decide); rw [HV.out] at h; exact h
                  have e167 : ρ (.tmp 167) = .bool true := by have h := hV 167 (by decide) (by decide); rw [HV.out] at h; exact h
                  simp only [execOp]
                  go_simp
                  exact ⟨hC, Below.refl _ _, (by show V 168 _ _; rw [HV.out]; exact rfl)⟩
                · intro ρ w1 hc hf hg ho hC hV
                  have e168 : ρ (.tmp 168) = .bool true := by have h := hV 168 (by decide) (by decide); rw [HV.out] at h; exact h
                  simp only [execOp]
                  go_simp
                  exact ⟨hC, Below.refl _ _, (by show V 169 _ _; rw [HV.out]; exact rfl)⟩
                · intro ρ w1 hc hf hg ho hC hV
                  refine ⟨169, _, rfl, by have h := hV 169 (by decide) (by decide); rw [HV.out] at h; exact h, ?_⟩
                  rw [if_pos rfl]
                  have e15 := ho 15 (by decide)
                  simp only [execOp]
                  go_simp
                  exact ⟨hC, Below.refl _ _, (by show V 170 _ _; rw [HV.out]; exact rfl)⟩
                · intro ρ w1 hc hf hg ho hC hV
                  refine ⟨169, _, rfl, by have h := hV 169 (by decide) (by decide); rw [HV.out] at h; exact h, ?_⟩
                  rw [if_pos rfl]
                  have e17 := ho 17 (by decide)
                  simp only [execOp]
                  go_simp
                  exact ⟨hC, Below.refl _ _, (by show V 171 _ _; rw [HV.out]; exact rfl)⟩
                · intro ρ w1 hc hf hg ho hC hV
                  refine ⟨169, _, rfl, by have h := hV 169 (by decide) (by decide); rw [HV.out] at h; exact h, ?_⟩
                  rw [if_pos rfl]
                  have e170 : ρ (.tmp 170) = .slice A15 k c15 := by have h := hV 170 (by decide) (by decide); rw [HV.out] at h; exact h
                  have e171 : ρ (.tmp 171) = .func (.func 24) #[] #[.pointer (some ⟨gk, 0, none⟩)] := by have h := hV 171 (by decide) (by decide); rw [HV.out] at h; exact h
                  simp only [execOp]
                  go_simp
                  refine (openR A15 c15 xs ys k kk gk hk8 hkk w1 (cell_below hC ck) (RowOf.below hrow15.out hC)).mono ?_
                  rintro e w2 ⟨A2_, c2_, rfl, hb2⟩
                  exact ⟨_, rfl, below_step hC hb2, hb2, (by show V 172 _ _; rw [HV.out]; exact ⟨_, _, rfl⟩)⟩
                · intro ρ w1 hc hf hg ho hC hV
                  refine ⟨169, _, rfl, by have h := hV 169 (by decide) (by decide); rw [HV.out] at h; exact h, ?_⟩
                  rw [if_pos rfl]
                  have e172 : QSpec.holds (.sl (k - 1)) (ρ (.tmp 172)) w1 := by have h := hV 172 (by decide) (by decide); rw [HV.out] at h; exact h
                  obtain ⟨A172, c172, e172⟩ := e172
                  simp only [execOp]
                  go_simp
                  exact ⟨hC, Below.refl _ _, (by show V 173 _ _; rw [HV.out]; exact rfl)⟩
                · intro ρ w1 hc hf hg ho hC hV
                  refine ⟨169, _, rfl, by have h := hV 169 (by decide) (by decide); rw [HV.out] at h; exact h, ?_⟩
                  rw [if_pos rfl]
                  have e7 := ho 7 (by decide)
                  simp only [execOp]
                  go_simp
                  exact ⟨hC, Below.refl _ _, (by show V 174 _ _; rw [HV.out]; exact rfl)⟩
                · intro ρ w1 hc hf hg ho hC hV
                  refine ⟨169, _, rfl, by have h := hV 169 (by decide) (by decide); rw [HV.out] at h; exact h, ?_⟩
                  rw [if_pos rfl]
                  have e174 : ρ (.tmp 174) = .slice A7 k c7 := by have h := hV 174 (by decide) (by decide); rw [HV.out] at h; exact h
                  simp only [execOp]
                  go_simp
                  exact ⟨hC, Below.refl _ _, (by show V 175 _ _; rw [HV.out]; exact rfl)⟩
                · intro ρ w1 hc hf hg ho hC hV
                  refine ⟨169, _, rfl, by have h := hV 169 (by decide) (by decide); rw [HV.out] at h; exact h, ?_⟩
                  rw [if_pos rfl]
                  have e175 : ρ (.tmp 175) = .int .i64 k := by have h := hV 175 (by decide) (by decide); rw [HV.out] at h; exact h
                  simp only [execOp]
                  go_simp
                  exact ⟨hC, Below.refl _ _, (by show V 176 _ _; rw [HV.out]; exact congrArg (Value.int .i64) hk1w.out)⟩
                · intro ρ w1 hc hf hg ho hC hV
                  refine ⟨169, _, rfl, by have h := hV 169 (by decide) (by decide); rw [HV.out] at h; exact h, ?_⟩
                  rw [if_pos rfl]
                  have e173 : ρ (.tmp 173) = .int .i64 (k - 1 : Nat) := by have h := hV 173 (by decide) (by decide); rw [HV.out] at h; exact h
                  have e176 : ρ (.tmp 176) = .int .i64 (k - 1 : Nat) := by have h := hV 176 (by decide) (by decide); rw [HV.out] at h; exact h
                  have hz1 : (((k - 1 : Nat) : Int) == ((k - 1 : Nat) : Int)) = true := beq_self_eq_true _
                  simp only [execOp]
                  go_simp
                  exact ⟨hC, Below.refl _ _, (by show V 177 _ _; rw [HV.out]; exact rfl)⟩
                · intro ρ w1 hc hf hg ho hC hV
                  have e169 : ρ (.tmp 169) = .bool true := by have h := hV 169 (by decide) (by decide); rw [HV.out] at h; exact h
                  have e177 : ρ (.tmp 177) = .bool true := by have h := hV 177 (by decide) (by decide); rw [HV.out] at h; exact h
                  simp only [execOp]
                  go_simp
                  exact ⟨hC, Below.refl _ _, (by show V 178 _ _; rw [HV.out]; exact rfl)⟩
                · intro ρ w1 hc hf hg ho hC hV
                  have e178 : ρ (.tmp 178) = .bool true := by have h := hV 178 (by decide) (by decide); rw [HV.out] at h; exact h
                  simp only [execOp]
                  go_simp
                  exact ⟨hC, Below.refl _ _, (by show V 179 _ _; rw [HV.out]; exact rfl)⟩
                · intro ρ w1 hc hf hg ho hC hV
                  refine ⟨179, _, rfl, by have h := hV 179 (by decide) (by decide); rw [HV.out] at h; exact h, ?_⟩
                  rw [if_pos rfl]
                  simp only [execOp]
                  go_simp
                  refine (fits_any none 0 [] (by simp) 0 0 0 0 (0, 0) rfl w1 (RowOf.nil _ _ _ _)).mono ?_
                  rintro e w2 ⟨rfl, hb2⟩
                  rw [le0]
                  exact ⟨_, rfl, below_step hC hb2, hb2, (by show V 180 _ _; rw [HV.out]; exact rfl)⟩
                · intro ρ w1 hc hf hg ho hC hV
                  have e179 : ρ (.tmp 179) = .bool true := by have h := hV 179 (by decide) (by decide); rw [HV.out] at h; exact h
                  have e180 : ρ (.tmp 180) = .bool true := by have h := hV 180 (by decide) (by decide); rw [HV.out] at h; exact h
                  simp only [execOp]
                  go_simp
                  exact ⟨hC, Below.refl _ _, (by show V 181 _ _; rw [HV.out]; exact rfl)⟩
                · intro ρ w1 hc hf hg ho hC hV
                  have e181 : ρ (.tmp 181) = .bool true := by have h := hV 181 (by decide) (by decide); rw [HV.out] at h; exact h
                  simp only [execOp]
                  go_simp
                  exact ⟨hC, Below.refl _ _, (by show V 182 _ _; rw [HV.out]; exact rfl)⟩
                · intro ρ w1 hc hf hg ho hC hV
                  refine ⟨182, _, rfl, by have h := hV 182 (by decide) (by decide); rw [HV.out] at h; exact h, ?_⟩
                  rw [if_pos rfl]
                  simp only [execOp]
                  go_simp
                  refine (wakes17 w1).mono ?_
                  rintro e w2 ⟨rfl, hb2⟩
                  exact ⟨_, rfl, below_step hC hb2, hb2, (by show V 183 _ _; rw [HV.out]; exact rfl)⟩
                · intro ρ w1 hc hf hg ho hC hV
                  have e182 : ρ (.tmp 182) = .bool true := by have h := hV 182 (by decide) (by decide); rw [HV.out] at h; exact h
                  have e183 : ρ (.tmp 183) = .bool true := by have h := hV 183 (by decide) (by decide); rw [HV.out] at h; exact h
                  simp only [execOp]
                  go_simp
                  exact ⟨hC, Below.refl _ _, (by show V 184 _ _; rw [HV.out]; exact rfl)⟩
                · intro ρ w1 hc hf hg ho hC hV
                  have e184 : ρ (.tmp 184) = .bool true := by have h := hV 184 (by decide) (by decide); rw [HV.out] at h; exact h
                  simp only [execOp]
                  go_simp
                  exact ⟨hC, Below.refl _ _, (by show V 6 _ _; rw [HV.out]; exact rfl)⟩
              · intro σ w1 hC hV
                have v6 : σ 6 = .bool true := by have h := hV 6 (by decide); rw [HV.out] at h; exact h
                clear hV HV V
                dsimp only [dsts, List.filterMap, putAll, Act.put]
                have hbx7 := below_step hbx5 hC
                clear hC hbx5 ck ca cb
                rw [v6]
                clear v6
                go_simp
                go_wp2
                go_ret
                exact ⟨rfl, hbx7⟩
            · have hz0 : Hid (((S : Int) == 0) = false) := by show _ = _; rw [beq_eq_false_iff_ne]; omega
              have hS9 := hS9H.out
              have le3 : Hid ((leB (fz S) (fz S9) && leB (fz T) (fz T)) = false) := by
                show _ = _
                rw [leB_fz S S9 (by omega) (by omega), decide_eq_false (show ¬ S ≤ S9 by omega)]
                rfl
              have hsub2 : Hid (∀ w, (binOp .sub 47 (.complex .f64 (fz S) (fz T)) (.complex .f64 4607182418800017408 0)).run Try.prog w = .ok (.complex .f64 (fz S9) (fz T)) w) := by
                intro w
                have h := sub_fz S T 1 0 (by omega) (by omega) (by omega) (by omega)
                rw [show ((0 : Nat) : Int) = 0 from rfl, show ((1 : Nat) : Int) = 1 from rfl, fz_zero, fz_one, Nat.sub_zero, ← hS9] at h
                exact run_complex_sum w .sub (.inr rfl) 47 .f64 _ _ _ _ _ _ h
              clear hSz hS9
              obtain ⟨V, HV⟩ : ∃ V : Tmp → Value → World → Prop, Hid (V = fun sl_ v_ w_ => QSpec.holds (match sl_ with | 6 => .det (.bool true) | 126 => .det (.complex .f64 (fz S1) (fz T1)) | 127 => .det (.int .i64 S) | 128 => .det (.slice (some ⟨ga, oa, none⟩) k c10) | 129 => .det (.int .i64 kk) | 130 => .det (.pointer (some ⟨ga, oa + kk, none⟩)) | 131 => .det (.int .i64 X) | 132 => .det (.int .i64 S1) | 133 => .det (.float .f64 (fz S1)) | 134 => .det (.int .i64 T) | 135 => .det (.slice (some ⟨gb, ob, none⟩) k c11) | 136 => .det (.int .i64 kk) | 137 => .det (.pointer (some ⟨gb, ob + kk, none⟩)) | 138 => .det (.int .i64 Y) | 139 => .det (.int .i64 T1) | 140 => .det (.float .f64 (fz T1)) | 141 => .det (.complex .f64 (fz S1) (fz T1)) | 142 => .det (.bool true) | 143 => .det (.bool true) | 144 => .det (.complex .f64 (fz S1) (fz T1)) | 145 => .det (.complex .f64 (fz S) (fz T)) | 146 => .det (.slice (some ⟨g19, 0, none⟩) 1 1) | 147 => .det (.bool true) | 148 => .det (.bool true) | 149 => .det (.bool true) | 150 => .det (.complex .f64 (fz S1) (fz T1)) | 151 => .det (.complex .f64 (fz S) (fz T)) | 152 => .det (.complex .f64 (fz S) (fz T9)) | 153 => .det (.slice (some ⟨g19, 0, none⟩) 1 1) | 154 => .det (.bool false) | 155 => .det (.bool true) | 156 => .det (.bool true) | 157 => .det (.bool true) | 158 => .det (.int .i64 S) | 159 => .det (.bool false) | 160 => .det (.bool false) | 161 => .det (.complex .f64 (fz S1) (fz T1)) | 162 => .det (.complex .f64 (fz S) (fz T)) | 163 => .det (.complex .f64 (fz S9) (fz T)) | 164 => .det (.slice (some ⟨g19, 0, none⟩) 1 1) | 165 => .det (.bool false) | 166 => .det (.bool true) | 167 => .det (.bool true) | 168 => .det (.bool true) | 169 => .det (.bool true) | 170 => .det (.slice A15 k c15) | 171 => .det (.func (.func 24) #[] #[.pointer (some ⟨gk, 0, none⟩)]) | 172 => .sl (k - 1) | 173 => .det (.int .i64 (k - 1 : Nat)) | 174 => .det (.slice A7 k c7) | 175 => .det (.int .i64 k) | 176 => .det (.int .i64 (k - 1 : Nat)) | 177 => .det (.bool true) | 178 => .det (.bool true) | 179 => .det (.bool true) | 180 => .det (.bool true) | 181 => .det (.bool true) | 182 => .det (.bool true) | 183 => .det (.bool true) | 184 => .det (.bool true) | _ => .any) v_ w_) := ⟨_, rfl⟩
              refine wp_region_loose (Below x6.heap.size x6 ·) (fun w_ w_2 => Below w_.heap.size w_ w_2) V (by kernel_rfl) (by kernel_rfl) (by kernel_rfl) (Below.refl _ _).drew (fun w_ => Below.refl _ _) ?_ ?_ ?_
              · intro t v w w' hC hR h
                rw [HV.out] at h ⊢
                exact QSpec.mono hR _ _ h
              · go_light
                simp only [List.forall_mem_cons]
                refine ⟨?_, ?_, ?_, ?_, ?_, ?_, ?_, ?_, ?_, ?_, ?_, ?_, ?_, ?_, ?_, ?_, ?_, ?_, ?_, ?_, ?_, ?_, ?_, ?_, ?_, ?_, ?_, ?_, ?_, ?_, ?_, ?_, ?_, ?_, ?_, ?_, ?_, ?_, ?_, ?_, ?_, ?_, ?_, ?_, ?_, ?_, ?_, ?_, ?_, ?_, ?_, ?_, ?_, ?_, ?_, ?_, ?_, ?_, ?_, ?_, fun _ h => by cases h⟩
                · intro ρ w1 hc hf hg ho hC hV
                  have e18 := ho 18 (by decide)
                  simp only [execOp]
                  go_simp
                  exact ⟨hC, Below.refl _ _, (by show V 126 _ _; rw [HV.out]; exact rfl)⟩
                · intro ρ w1 hc hf hg ho hC hV
                  have e8 := ho 8 (by decide)
                  simp only [execOp]
                  go_simp
                  exact ⟨hC, Below.refl _ _, (by show V 127 _ _; rw [HV.out]; exact rfl)⟩
                · intro ρ w1 hc hf hg ho hC hV
                  have e10 := ho 10 (by decide)
                  simp only [execOp]
                  go_simp
                  exact ⟨hC, Below.refl _ _, (by show V 128 _ _; rw [HV.out]; exact rfl)⟩
                · intro ρ w1 hc hf hg ho hC hV
                  have e16 := ho 16 (by decide)
                  have ck' := cell_below hC ck
                  simp only [execOp]
                  go_simp
                  exact ⟨hC, Below.refl _ _, (by show V 129 _ _; rw [HV.out]; exact rfl)⟩
                · intro ρ w1 hc hf hg ho hC hV
                  have e128 : ρ (.tmp 128) = .slice (some ⟨ga, oa, none⟩) k c10 := by have h := hV 128 (by decide) (by decide); rw [HV.out] at h; exact h
                  have e129 : ρ (.tmp 129) = .int .i64 kk := by have h := hV 129 (by decide) (by decide); rw [HV.out] at h; exact h
                  simp only [execOp]
                  go_simp
                  exact ⟨hC, Below.refl _ _, (by show V 130 _ _; rw [HV.out]; exact rfl)⟩
                · intro ρ w1 hc hf hg ho hC hV
                  have e130 : ρ (.tmp 130) = .pointer (some ⟨ga, oa + kk, none⟩) := by have h := hV 130 (by decide) (by decide); rw [HV.out] at h; exact h
                  have ca' := cell_below hC ca
                  simp only [execOp]
                  go_simp
                  exact ⟨hC, Below.refl _ _, (by show V 131 _ _; rw [HV.out]; exact rfl)⟩
                · intro ρ w1 hc hf hg ho hC hV
                  have e127 : ρ (.tmp 127) = .int .i64 S := by have h := hV 127 (by decide) (by decide); rw [HV.out] at h; exact h
                  have e131 : ρ (.tmp 131) = .int .i64 X := by have h := hV 131 (by decide) (by decide); rw [HV.out] at h; exact h
                  simp only [execOp]
                  go_simp
                  exact ⟨hC, Below.refl _ _, (by show V 132 _ _; rw [HV.out]; exact congrArg (Value.int .i64) hS1.out)⟩
                · intro ρ w1 hc hf hg ho hC hV
                  have e132 : ρ (.tmp 132) = .int .i64 S1 := by have h := hV 132 (by decide) (by decide); rw [HV.out] at h; exact h
                  simp only [execOp]
                  go_simp
                  exact ⟨hC, Below.refl _ _, (by show V 133 _ _; rw [HV.out]; exact rfl)⟩
                · intro ρ w1 hc hf hg ho hC hV
                  have e9 := ho 9 (by decide)
                  simp only [execOp]
                  go_simp
                  exact ⟨hC, Below.refl _ _, (by show V 134 _ _; rw [HV.out]; exact rfl)⟩
                · intro ρ w1 hc hf hg ho hC hV
                  have e11 := ho 11 (by decide)
                  simp only [execOp]
                  go_simp
                  exact ⟨hC, Below.refl _ _, (by show V 135 _ _; rw [HV.out]; exact rfl)⟩
                · intro ρ w1 hc hf hg ho hC hV
                  have e16 := ho 16 (by decide)
                  have ck' := cell_below hC ck
                  simp only [execOp]
                  go_simp
                  exact ⟨hC, Below.refl _ _, (by show V 136 _ _; rw [HV.out]; exact rfl)⟩
                · intro ρ w1 hc hf hg ho hC hV
                  have e135 : ρ (.tmp 135) = .slice (some ⟨gb, ob, none⟩) k c11 := by have h := hV 135 (by decide) (by decide); rw [HV.out] at h; exact h
                  have e136 : ρ (.tmp 136) = .int .i64 kk := by have h := hV 136 (by decide) (by decide); rw [HV.out] at h; exact h
                  simp only [execOp]
                  go_simp
                  exact ⟨hC, Below.refl _ _, (by show V 137 _ _; rw [HV.out]; exact rfl)⟩
                · intro ρ w1 hc hf hg ho hC hV
                  have e137 : ρ (.tmp 137) = .pointer (some ⟨gb, ob + kk, none⟩) := by have h := hV 137 (by decide) (by decide); rw [HV.out] at h; exact h
                  have cb' := cell_below hC cb
                  simp only [execOp]
                  go_simp
                  exact ⟨hC, Below.refl _ _, (by show V 138 _ _; rw [HV.out]; exact rfl)⟩
                · intro ρ w1 hc hf hg ho hC hV
                  have e134 : ρ (.tmp 134) = .int .i64 T := by have h := hV 134 (by decide) (by decide); rw [HV.out] at h; exact h
                  have e138 : ρ (.tmp 138) = .int .i64 Y := by have h := hV 138 (by decide) (by decide); rw [HV.out] at h; exact h
                  simp only [execOp]
                  go_simp
                  exact ⟨hC, Below.refl _ _, (by show V 139 _ _; rw [HV.out]; exact congrArg (Value.int .i64) hT1.out)⟩
                · intro ρ w1 hc hf hg ho hC hV
                  have e139 : ρ (.tmp 139) = .int .i64 T1 := by have h := hV 139 (by decide) (by decide); rw [HV.out] at h; exact h
                  simp only [execOp]
                  go_simp
                  exact ⟨hC, Below.refl _ _, (by show V 140 _ _; rw [HV.out]; exact rfl)⟩
                · intro ρ w1 hc hf hg ho hC hV
                  have e133 : ρ (.tmp 133) = .float .f64 (fz S1) := by have h := hV 133 (by decide) (by decide); rw [HV.out] at h; exact h
                  have e140 : ρ (.tmp 140) = .float .f64 (fz T1) := by have h := hV 140 (by decide) (by decide); rw [HV.out] at h; exact h
                  simp only [execOp]
                  go_simp
                  exact ⟨hC, Below.refl _ _, (by show V 141 _ _; rw [HV.out]; exact rfl)⟩
                · intro ρ w1 hc hf hg ho hC hV
                  have e126 : ρ (.tmp 126) = .complex .f64 (fz S1) (fz T1) := by have h := hV 126 (by decide) (by decide); rw [HV.out] at h; exact h
                  have e141 : ρ (.tmp 141) = .complex .f64 (fz S1) (fz T1) := by have h := hV 141 (by decide) (by decide); rw [HV.out] at h; exact h
                  have q1 := qs1.out
                  have q2 := qt1.out
                  simp only [execOp]
                  go_simp
                  exact ⟨hC, Below.refl _ _, (by show V 142 _ _; rw [HV.out]; exact rfl)⟩
                · intro ρ w1 hc hf hg ho hC hV
                  have e142 : ρ (.tmp 142) = .bool true := by have h := hV 142 (by decide) (by decide); rw [HV.out] at h; exact h
                  simp only [execOp]
                  go_simp
                  exact ⟨hC, Below.refl _ _, (by show V 143 _ _; rw [HV.out]; exact rfl)⟩
                · intro ρ w1 hc hf hg ho hC hV
                  refine ⟨143, _, rfl, by have h := hV 143 (by decide) (by decide); rw [HV.out] at h; exact h, ?_⟩
                  rw [if_pos rfl]
                  have e18 := ho 18 (by decide)
                  simp only [execOp]
                  go_simp
                  exact ⟨hC, Below.refl _ _, (by show V 144 _ _; rw [HV.out]; exact rfl)⟩
                · intro ρ w1 hc hf hg ho hC hV
                  refine ⟨143, _, rfl, by have h := hV 143 (by decide) (by decide); rw [HV.out] at h; exact h, ?_⟩
                  rw [if_pos rfl]
                  have e20 := ho 20 (by decide)
                  simp only [execOp]
                  go_simp
                  exact ⟨hC, Below.refl _ _, (by show V 145 _ _; rw [HV.out]; exact rfl)⟩
                · intro ρ w1 hc hf hg ho hC hV
                  refine ⟨143, _, rfl, by have h := hV 143 (by decide) (by decide); rw [HV.out] at h; exact h, ?_⟩
                  rw [if_pos rfl]
                  have e19 := ho 19 (by decide)
                  simp only [execOp]
                  go_simp
                  exact ⟨hC, Below.refl _ _, (by show V 146 _ _; rw [HV.out]; exact rfl)⟩
                · intro ρ w1 hc hf hg ho hC hV
                  refine ⟨143, _, rfl, by have h := hV 143 (by decide) (by decide); rw [HV.out] at h; exact h, ?_⟩
                  rw [if_pos rfl]
                  have e144 : ρ (.tmp 144) = .complex .f64 (fz S1) (fz T1) := by have h := hV 144 (by decide) (by decide); rw [HV.out] at h; exact h
                  have e145 : ρ (.tmp 145) = .complex .f64 (fz S) (fz T) := by have h := hV 145 (by decide) (by decide); rw [HV.out] at h; exact h
                  have e146 : ρ (.tmp 146) = .slice (some ⟨g19, 0, none⟩) 1 1 := by have h := hV 146 (by decide) (by decide); rw [HV.out] at h; exact h
                  simp only [execOp]
                  go_simp
                  refine (fits_any (some ⟨g19, 0, none⟩) 1 [⟨⟨#[122]⟩, fz X, fz Y⟩] (by simp) (fz S1) (fz T1) (fz S) (fz T) (fz S, fz T) hfit.out w1 (RowOf.of_blk (cells := Item.cells) (size := 2) (fun _ => rfl) (blk_below h19.out hC) rfl)).mono ?_
                  rintro e w2 ⟨rfl, hb2⟩
                  rw [le1.out]
                  exact ⟨_, rfl, below_step hC hb2, hb2, (by show V 147 _ _; rw [HV.out]; exact rfl)⟩
                · intro ρ w1 hc hf hg ho hC hV
                  have e143 : ρ (.tmp 143) = .bool true := by have h := hV 143 (by decide) (by decide); rw [HV.out] at h; exact h
                  have e147 : ρ (.tmp 147) = .bool true := by have h := hV 147 (by decide) (by decide); rw [HV.out] at h; exact h
                  simp only [execOp]
                  go_simp
                  exact ⟨hC, Below.refl _ _, (by show V 148 _ _; rw [HV.out]; exact rfl)⟩
                · intro ρ w1 hc hf hg ho hC hV
                  have e148 : ρ (.tmp 148) = .bool true := by have h := hV 148 (by decide) (by decide); rw [HV.out] at h; exact h
                  simp only [execOp]
                  go_simp
                  exact ⟨hC, Below.refl _ _, (by show V 149 _ _; rw [HV.out]; exact rfl)⟩
                · intro ρ w1 hc hf hg ho hC hV
                  refine ⟨149, _, rfl, by have h := hV 149 (by decide) (by decide); rw [HV.out] at h; exact h, ?_⟩
                  rw [if_pos rfl]
                  have e18 := ho 18 (by decide)
                  simp only [execOp]
                  go_simp
                  exact ⟨hC, Below.refl _ _, (by show V 150 _ _; rw [HV.out]; exact rfl)⟩
                · intro ρ w1 hc hf hg ho hC hV
                  refine ⟨149, _, rfl, by have h := hV 149 (by decide) (by decide); rw [HV.out] at h; exact h, ?_⟩
                  rw [if_pos rfl]
                  have e20 := ho 20 (by decide)
                  simp only [execOp]
                  go_simp
                  exact ⟨hC, Below.refl _ _, (by show V 151 _ _; rw [HV.out]; exact rfl)⟩
                · intro ρ w1 hc hf hg ho hC hV
                  refine ⟨149, _, rfl, by have h := hV 149 (by decide) (by decide); rw [HV.out] at h; exact h, ?_⟩
                  rw [if_pos rfl]
                  have e151 : ρ (.tmp 151) = .complex .f64 (fz S) (fz T) := by have h := hV 151 (by decide) (by decide); rw [HV.out] at h; exact h
                  have hs1 := hsub1.out
                  simp only [execOp]
                  go_simp
                  exact ⟨hC, Below.refl _ _, (by show V 152 _ _; rw [HV.out]; exact rfl)⟩
                · intro ρ w1 hc hf hg ho hC hV
                  refine ⟨149, _, rfl, by have h := hV 149 (by decide) (by decide); rw [HV.out] at h; exact h, ?_⟩
                  rw [if_pos rfl]
                  have e19 := ho 19 (by decide)
                  simp only [execOp]
                  go_simp
                  exact ⟨hC, Below.refl _ _, (by show V 153 _ _; rw [HV.out]; exact rfl)⟩
                · intro ρ w1 hc hf hg ho hC hV
                  refine ⟨149, _, rfl, by have h := hV 149 (by decide) (by decide); rw [HV.out] at h; exact h, ?_⟩
                  rw [if_pos rfl]
                  have e150 : ρ (.tmp 150) = .complex .f64 (fz S1) (fz T1) := by have h := hV 150 (by decide) (by decide); rw [HV.out] at h; exact h
                  have e152 : ρ (.tmp 152) = .complex .f64 (fz S) (fz T9) := by have h := hV 152 (by decide) (by decide); rw [HV.out] at h; exact h
                  have e153 : ρ (.tmp 153) = .slice (some ⟨g19, 0, none⟩) 1 1 := by have h := hV 153 (by decide) (by decide); rw [HV.out] at h; exact h
                  simp only [execOp]
                  go_simp
                  refine (fits_any (some ⟨g19, 0, none⟩) 1 [⟨⟨#[122]⟩, fz X, fz Y⟩] (by simp) (fz S1) (fz T1) (fz S) (fz T9) (fz S, fz T) hfit.out w1 (RowOf.of_blk (cells := Item.cells) (size := 2) (fun _ => rfl) (blk_below h19.out hC) rfl)).mono ?_
                  rintro e w2 ⟨rfl, hb2⟩
                  rw [le2.out]
                  exact ⟨_, rfl, below_step hC hb2, hb2, (by show V 154 _ _; rw [HV.out]; exact rfl)⟩
                · intro ρ w1 hc hf hg ho hC hV
                  refine ⟨149, _, rfl, by have h := hV 149 (by decide) (by decide); rw [HV.out] at h; exact h, ?_⟩
                  rw [if_pos rfl]
                  have e154 : ρ (.tmp 154) = .bool false := by have h := hV 154 (by decide) (by decide); rw [HV.out] at h; exact h
                  simp only [execOp]
                  go_simp
                  exact ⟨hC, Below.refl _ _, (by show V 155 _ _; rw [HV.out]; exact rfl)⟩
                · intro ρ w1 hc hf hg ho hC hV
                  have e149 : ρ (.tmp 149) = .bool true := by have h := hV 149 (by decide) (by decide); rw [HV.out] at h; exact h
                  have e155 : ρ (.tmp 155) = .bool true := by have h := hV 155 (by decide) (by decide); rw [HV.out] at h; exact h
                  simp only [execOp]
                  go_simp
                  exact ⟨hC, Below.refl _ _, (by show V 156 _ _; rw [HV.out]; exact rfl)⟩
                · intro ρ w1 hc hf hg ho hC hV
                  have e156 : ρ (.tmp 156) = .bool true := by have h := hV 156 (by decide) (by decide); rw [HV.out] at h; exact h
                  simp only [execOp]
                  go_simp
                  exact ⟨hC, Below.refl _ _, (by show V 157 _ _; rw [HV.out]; exact rfl)⟩
                · intro ρ w1 hc hf hg ho hC hV
                  refine ⟨157, _, rfl, by have h := hV 157 (by decide) (by decide); rw [HV.out] at h; exact h, ?_⟩
                  rw [if_pos rfl]
                  have e8 := ho 8 (by decide)
                  simp only [execOp]
                  go_simp
                  exact ⟨hC, Below.refl _ _, (by show V 158 _ _; rw [HV.out]; exact rfl)⟩
                · intro ρ w1 hc hf hg ho hC hV
                  refine ⟨157, _, rfl, by have h := hV 157 (by decide) (by decide); rw [HV.out] at h; exact h, ?_⟩
                  rw [if_pos rfl]
                  have e158 : ρ (.tmp 158) = .int .i64 S := by have h := hV 158 (by decide) (by decide); rw [HV.out] at h; exact h
                  have hz1 := hz0.out
                  simp only [execOp]
                  go_simp
                  exact ⟨hC, Below.refl _ _, (by show V 159 _ _; rw [HV.out]; exact rfl)⟩
                · intro ρ w1 hc hf hg ho hC hV
                  refine ⟨157, _, rfl, by have h := hV 157 (by decide) (by decide); rw [HV.out] at h; exact h, ?_⟩
                  rw [if_pos rfl]
                  have e159 : ρ (.tmp 159) = .bool false := by have h := hV 159 (by decide) (by decide); rw [HV.out] at h; exact h
                  simp only [execOp]
                  go_simp
                  exact ⟨hC, Below.refl _ _, (by show V 160 _ _; rw [HV.out]; exact rfl)⟩
                · intro ρ w1 hc hf hg ho hC hV
                  refine ⟨160, _, rfl, by have h := hV 160 (by decide) (by decide); rw [HV.out] at h; exact h, ?_⟩
                  rw [if_pos rfl]
                  have e18 := ho 18 (by decide)
                  simp only [execOp]
                  go_simp
                  exact ⟨hC, Below.refl _ _, (by show V 161 _ _; rw [HV.out]; exact rfl)⟩
                · intro ρ w1 hc hf hg ho hC hV
                  refine ⟨160, _, rfl, by have h := hV 160 (by decide) (by decide); rw [HV.out] at h; exact h, ?_⟩
                  rw [if_pos rfl]
                  have e20 := ho 20 (by decide)
                  simp only [execOp]
                  go_simp
                  exact ⟨hC, Below.refl _ _, (by show V 162 _ _; rw [HV.out]; exact rfl)⟩
                · intro ρ w1 hc hf hg ho hC hV
                  refine ⟨160, _, rfl, by have h := hV 160 (by decide) (by decide); rw [HV.out] at h; exact h, ?_⟩
                  rw [if_pos rfl]
                  have e162 : ρ (.tmp 162) = .complex .f64 (fz S) (fz T) := by have h := hV 162 (by decide) (by decide); rw [HV.out] at h; exact h
                  have hs1 := hsub2.out
                  simp only [execOp]
                  go_simp
                  exact ⟨hC, Below.refl _ _, (by show V 163 _ _; rw [HV.out]; exact rfl)⟩
                · intro ρ w1 hc hf hg ho hC hV
                  refine ⟨160, _, rfl, by have h := hV 160 (by decide) (by decide); rw [HV.out] at h; exact h, ?_⟩
                  rw [if_pos rfl]
                  have e19 := ho 19 (by decide)
                  simp only [execOp]
                  go_simp
                  exact ⟨hC, Below.refl _ _, (by show V 164 _ _; rw [HV.out]; exact rfl)⟩
                · intro ρ w1 hc hf hg ho hC hV
                  refine ⟨160, _, rfl, by have h := hV 160 (by decide) (by decide); rw [HV.out] at h; exact h, ?_⟩
                  rw [if_pos rfl]
                  have e161 : ρ (.tmp 161) = .complex .f64 (fz S1) (fz T1) := by have h := hV 161 (by decide) (by decide); rw [HV.out] at h; exact h
                  have e163 : ρ (.tmp 163) = .complex .f64 (fz S9) (fz T) := by have h := hV 163 (by decide) (by decide); rw [HV.out] at h; exact h
                  have e164 : ρ (.tmp 164) = .slice (some ⟨g19, 0, none⟩) 1 1 := by have h := hV 164 (by decide) (by decide); rw [HV.out] at h; exact h
                  simp only [execOp]
                  go_simp
                  refine (fits_any (some ⟨g19, 0, none⟩) 1 [⟨⟨#[122]⟩, fz X, fz Y⟩] (by simp) (fz S1) (fz T1) (fz S9) (fz T) (fz S, fz T) hfit.out w1 (RowOf.of_blk (cells := Item.cells) (size := 2) (fun _ => rfl) (blk_below h19.out hC) rfl)).mono ?_
                  rintro e w2 ⟨rfl, hb2⟩
                  rw [le3.out]
                  exact ⟨_, rfl, below_step hC hb2, hb2, (by show V 165 _ _; rw [HV.out]; exact rfl)⟩
                · intro ρ w1 hc hf hg ho hC hV
                  refine ⟨160, _, rfl, by have h := hV 160 (by decide) (by decide); rw [HV.out] at h; exact h, ?_⟩
                  rw [if_pos rfl]
                  have e165 : ρ (.tmp 165) = .bool false := by have h := hV 165 (by decide) (by decide); rw [HV.out] at h; exact h
                  simp only [execOp]
                  go_simp
                  exact ⟨hC, Below.refl _ _, (by show V 166 _ _; rw [HV.out]; exact rfl)⟩
                · intro ρ w1 hc hf hg ho hC hV
                  refine ⟨157, _, rfl, by have h := hV 157 (by decide) (by decide); rw [HV.out] at h; exact h, ?_⟩
                  rw [if_pos rfl]
                  have e160 : ρ (.tmp 160) = .bool false := by have h := hV 160 (by decide) (by decide); rw [HV.out] at h; exact h
                  have e166 : ρ (.tmp 166) = .bool true := by have h := hV 166 (by decide) (by decide); rw [HV.out] at h; exact h
                  simp only [execOp]
                  go_simp
                  exact ⟨hC, Below.refl _ _, (by show V 167 _ _; rw [HV.out]; exact rfl)⟩
                · intro ρ w1 hc hf hg ho hC hV
                  have e157 : ρ (.tmp 157) = .bool true := by have h := hV 157 (by decide) (by decide); rw [HV.out] at h; exact h
                  have e167 : ρ (.tmp 167) = .bool true := by have h := hV 167 (by decide) (by decide); rw [HV.out] at h; exact h
                  simp only [execOp]
                  go_simp
                  exact ⟨hC, Below.refl _ _, (by show V 168 _ _; rw [HV.out]; exact rfl)⟩
                · intro ρ w1 hc hf hg ho hC hV
                  have e168 : ρ (.tmp 168) = .bool true := by have h := hV 168 (by decide) (by decide); rw [HV.out] at h; exact h
                  simp only [execOp]
                  go_simp
                  exact ⟨hC, Below.refl _ _, (by show V 169 _ _; rw [HV.out]; exact rfl)⟩
                · intro ρ w1 hc hf hg ho hC hV
                  refine ⟨169, _, rfl, by have h := hV 169 (by decide) (by decide); rw [HV.out] at h; exact h, ?_⟩
                  rw [if_pos rfl]
                  have e15 := ho 15 (by decide)
                  simp only [execOp]
                  go_simp
                  exact ⟨hC, Below.refl _ _, (by show V 170 _ _; rw [HV.out]; exact rfl)⟩
                · intro ρ w1 hc hf hg ho hC hV
                  refine ⟨169, _, rfl, by have h := hV 169 (by decide) (by decide); rw [HV.out] at h; exact h, ?_⟩
                  rw [if_pos rfl]
                  have e17 := ho 17 (by decide)
                  simp only [execOp]
                  go_simp
                  exact ⟨hC, Below.refl _ _, (by show V 171 _ _; rw [HV.out]; exact rfl)⟩
                · intro ρ w1 hc hf hg ho hC hV
                  refine ⟨169, _, rfl, by have h := hV 169 (by decide) (by decide); rw [HV.out] at h; exact h, ?_⟩
                  rw [if_pos rfl]
                  have e170 : ρ (.tmp 170) = .slice A15 k c15 := by have h := hV 170 (by decide) (by decide); rw [HV.out] at h; exact h
                  have e171 : ρ (.tmp 171) = .func (.func 24) #[] #[.pointer (some ⟨gk, 0, none⟩)] := by have h := hV 171 (by decide) (by decide); rw [HV.out] at h; exact h
                  simp only [execOp]
                  go_simp
                  refine (openR A15 c15 xs ys k kk gk hk8 hkk w1 (cell_below hC ck) (RowOf.below hrow15.out hC)).mono ?_
                  rintro e w2 ⟨A2_, c2_, rfl, hb2⟩
                  exact ⟨_, rfl, below_step hC hb2, hb2, (by show V 172 _ _; rw [HV.out]; exact ⟨_, _, rfl⟩)⟩
                · intro ρ w1 hc hf hg ho hC hV
                  refine ⟨169, _, rfl, by have h := hV 169 (by decide) (by decide); rw [HV.out] at h; exact h, ?_⟩
                  rw [if_pos rfl]
                  have e172 : QSpec.holds (.sl (k - 1)) (ρ (.tmp 172)) w1 := by have h := hV 172 (by decide) (by decide); rw [HV.out] at h; exact h
                  obtain ⟨A172, c172, e172⟩ := e172
                  simp only [execOp]
                  go_simp
                  exact ⟨hC, Below.refl _ _, (by show V 173 _ _; rw [HV.out]; exact rfl)⟩
                · intro ρ w1 hc hf hg ho hC hV
                  refine ⟨169, _, rfl, by have h := hV 169 (by decide) (by decide); rw [HV.out] at h; exact h, ?_⟩
                  rw [if_pos rfl]
                  have e7 := ho 7 (by decide)
                  simp only [execOp]
                  go_simp
                  exact ⟨hC, Below.refl _ _, (by show V 174 _ _; rw [HV.out]; exact rfl)⟩
                · intro ρ w1 hc hf hg ho hC hV
                  refine ⟨169, _, rfl, by have h := hV 169 (by decide) (by decide); rw [HV.out] at h; exact h, ?_⟩
                  rw [if_pos rfl]
                  have e174 : ρ (.tmp 174) = .slice A7 k c7 := by have h := hV 174 (by decide) (by decide); rw [HV.out] at h; exact h
                  simp only [execOp]
                  go_simp
                  exact ⟨hC, Below.refl _ _, (by show V 175 _ _; rw [HV.out]; exact rfl)⟩
                · intro ρ w1 hc hf hg ho hC hV
                  refine ⟨169, _, rfl, by have h := hV 169 (by decide) (by decide); rw [HV.out] at h; exact h, ?_⟩
                  rw [if_pos rfl]
                  have e175 : ρ (.tmp 175) = .int .i64 k := by have h := hV 175 (by decide) (by decide); rw [HV.out] at h; exact h
                  simp only [execOp]
                  go_simp
                  exact ⟨hC, Below.refl _ _, (by show V 176 _ _; rw [HV.out]; exact congrArg (Value.int .i64) hk1w.out)⟩
                · intro ρ w1 hc hf hg ho hC hV
                  refine ⟨169, _, rfl, by have h := hV 169 (by decide) (by decide); rw [HV.out] at h; exact h, ?_⟩
                  rw [if_pos rfl]
                  have e173 : ρ (.tmp 173) = .int .i64 (k - 1 : Nat) := by have h := hV 173 (by decide) (by decide); rw [HV.out] at h; exact h
                  have e176 : ρ (.tmp 176) = .int .i64 (k - 1 : Nat) := by have h := hV 176 (by decide) (by decide); rw [HV.out] at h; exact h
                  have hz1 : (((k - 1 : Nat) : Int) == ((k - 1 : Nat) : Int)) = true := beq_self_eq_true _
                  simp only [execOp]
                  go_simp
                  exact ⟨hC, Below.refl _ _, (by show V 177 _ _; rw [HV.out]; exact rfl)⟩
                · intro ρ w1 hc hf hg ho hC hV
                  have e169 : ρ (.tmp 169) = .bool true := by have h := hV 169 (by decide) (by decide); rw [HV.out] at h; exact h
                  have e177 : ρ (.tmp 177) = .bool true := by have h := hV 177 (by decide) (by decide); rw [HV.out] at h; exact h
                  simp only [execOp]
                  go_simp
                  exact ⟨hC, Below.refl _ _, (by show V 178 _ _; rw [HV.out]; exact rfl)⟩
                · intro ρ w1 hc hf hg ho hC hV
                  have e178 : ρ (.tmp 178) = .bool true := by have h := hV 178 (by decide) (by decide); rw [HV.out] at h; exact h
                  simp only [execOp]
                  go_simp
                  exact ⟨hC, Below.refl _ _, (by show V 179 _ _; rw [HV.out]; exact rfl)⟩
                · intro ρ w1 hc hf hg ho hC hV
                  refine ⟨179, _, rfl, by have h := hV 179 (by decide) (by decide); rw [HV.out] at h; exact h, ?_⟩
                  rw [if_pos rfl]
                  simp only [execOp]
                  go_simp
                  refine (fits_any none 0 [] (by simp) 0 0 0 0 (0, 0) rfl w1 (RowOf.nil _ _ _ _)).mono ?_
                  rintro e w2 ⟨rfl, hb2⟩
                  rw [le0]
                  exact ⟨_, rfl, below_step hC hb2, hb2, (by show V 180 _ _; rw [HV.out]; exact rfl)⟩
                · intro ρ w1 hc hf hg ho hC hV
                  have e179 : ρ (.tmp 179) = .bool true := by have h := hV 179 (by decide) (by decide); rw [HV.out] at h; exact h
                  have e180 : ρ (.tmp 180) = .bool true := by have h := hV 180 (by decide) (by decide); rw [HV.out] at h; exact h
                  simp only [execOp]
                  go_simp
                  exact ⟨hC, Below.refl _ _, (by show V 181 _ _; rw [HV.out]; exact rfl)⟩
                · intro ρ w1 hc hf hg ho hC hV
                  have e181 : ρ (.tmp 181) = .bool true := by have h := hV 181 (by decide) (by decide); rw [HV.out] at h; exact h
                  simp only [execOp]
                  go_simp
                  exact ⟨hC, Below.refl _ _, (by show V 182 _ _; rw [HV.out]; exact rfl)⟩
                · intro ρ w1 hc hf hg ho hC hV
                  refine ⟨182, _, rfl, by have h := hV 182 (by decide) (by decide); rw [HV.out] at h; exact h, ?_⟩
                  rw [if_pos rfl]
                  simp only [execOp]
                  go_simp
                  refine (wakes17 w1).mono ?_
                  rintro e w2 ⟨rfl, hb2⟩
                  exact ⟨_, rfl, below_step hC hb2, hb2, (by show V 183 _ _; rw [HV.out]; exact rfl)⟩
                · intro ρ w1 hc hf hg ho hC hV
                  have e182 : ρ (.tmp 182) = .bool true := by have h := hV 182 (by decide) (by decide); rw [HV.out] at h; exact h
                  have e183 : ρ (.tmp 183) = .bool true := by have h := hV 183 (by decide) (by decide); rw [HV.out] at h; exact h
                  simp only [execOp]
                  go_simp
                  exact ⟨hC, Below.refl _ _, (by show V 184 _ _; rw [HV.out]; exact rfl)⟩
                · intro ρ w1 hc hf hg ho hC hV
                  have e184 : ρ (.tmp 184) = .bool true := by have h := hV 184 (by decide) (by decide); rw [HV.out] at h; exact h
                  simp only [execOp]
                  go_simp
                  exact ⟨hC, Below.refl _ _, (by show V 6 _ _; rw [HV.out]; exact rfl)⟩
              · intro σ w1 hC hV
                have v6 : σ 6 = .bool true := by have h := hV 6 (by decide); rw [HV.out] at h; exact h
                clear hV HV V
                dsimp only [dsts, List.filterMap, putAll, Act.put]
                have hbx7 := below_step hbx5 hC
                clear hC hbx5 ck ca cb
                rw [v6]
                clear v6
                go_simp
                go_wp2
                go_ret
                exact ⟨rfl, hbx7⟩
end Go.Proofs.Ytbmegoemimfiaaa

/-
  Chapter 25 (watch) as plain functions on lists: what Sent, states, right, Streams compute.
-/
import Derived.Test.YtbmegoemimfiaaaData
namespace Go.Proofs.Ytbmegoemimfiaaa
open Go Go.RowKit

def hit (f t : ByteArray) (x : Said) : Bool := x.m.k == 11 && (x.m.f.data.toList == f.data.toList && x.m.t.data.toList == t.data.toList)
def sentStep (f t : ByteArray) (acc : List Int) (x : Said) : List Int := if hit f t x then (if acc.getLast? = some x.m.u then acc else acc ++ [x.m.u]) else acc
def sent (f t : ByteArray) (S : List Said) : List Int := S.foldl (sentStep f t) []
theorem sent_succ (f t : ByteArray) (S : List Said) (k : Nat) (x : Said) (h : S[k]? = some x) : sent f t (S.take (k + 1)) = sentStep f t (sent f t (S.take k)) x := by
  unfold sent
  rw [List.take_add_one, h, List.foldl_append]
  rfl
theorem sent_len (f t : ByteArray) (S : List Said) : (sent f t S).length ≤ S.length := by
  unfold sent
  have : ∀ (S : List Said) (acc : List Int), (S.foldl (sentStep f t) acc).length ≤ acc.length + S.length := by
    intro S
    induction S with
    | nil => intro acc; simp
    | cons x S ih =>
      intro acc
      have h1 := ih (sentStep f t acc x)
      have h2 : (sentStep f t acc x).length ≤ acc.length + 1 := by
        unfold sentStep
        split
        · split <;> simp
        · simp
      simp only [List.foldl_cons, List.length_cons]
      omega
  simpa using this S []

def look (st : List (Int × Int)) (u : Int) : Option Int := (st.find? (fun p => p.1 == u)).map (·.2)
def stStep (f t : ByteArray) (st : List (Int × Int)) (x : Said) : Option (List (Int × Int)) :=
  if hit f t x then (if (look st x.m.u).isSome && (look st x.m.u).getD 0 != x.m.s then none else some ((x.m.u, x.m.s) :: st)) else some st
def statesOf (f t : ByteArray) (S : List Said) : Option (List (Int × Int)) := S.foldl (fun o x => o.bind fun st => stStep f t st x) (some [])
theorem statesOf_succ (f t : ByteArray) (S : List Said) (k : Nat) (x : Said) (h : S[k]? = some x) : statesOf f t (S.take (k + 1)) = (statesOf f t (S.take k)).bind fun st => stStep f t st x := by
  unfold statesOf
  rw [List.take_add_one, h, List.foldl_append]
  rfl
theorem statesOf_none (f t : ByteArray) (S : List Said) (k : Nat) (h : statesOf f t (S.take k) = none) : statesOf f t S = none := by
  have hs : S = S.take k ++ S.drop k := (List.take_append_drop k S).symm
  have hn : ∀ T : List Said, T.foldl (fun o x => o.bind fun st => stStep f t st x) (none : Option (List (Int × Int))) = none := by
    intro T
    induction T with
    | nil => rfl
    | cons x T ih => simpa using ih
  rw [hs]
  unfold statesOf at *
  rw [List.foldl_append, h, hn]

def overB (s : Int) : Bool := decide (3 ≤ s) && decide (s ≤ 7)
def mayB (f t : Int) : Bool := if f = 1 then (t == 2 || overB t) else if f = 2 then (overB t && t != 7) else false
def lifeGo : Int → List Int → Int
  | now, [] => now
  | now, x :: xs => if mayB now x then lifeGo x xs else 0
def lifeOf (l : List Int) : Int := lifeGo 1 l

def upTo (n : Nat) : List Int := (List.range n).map fun (i : Nat) => ((i : Int) + 1)
def rightB (f t : ByteArray) (S : List Said) : Bool :=
  (sent f t S == upTo (sent f t S).length) && (match statesOf f t S with | none => false | some st => lifeOf ((sent f t S).map fun n => (look st n).getD 0) != 0)
def streamsB (S : List Said) : Bool := S.all fun x => !(x.m.k == 11) || rightB x.m.f x.m.t S
end Go.Proofs.Ytbmegoemimfiaaa

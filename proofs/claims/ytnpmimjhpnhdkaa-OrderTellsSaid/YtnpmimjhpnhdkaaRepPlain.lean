/- Package repute, plainly. -/
import Derived.Test.YtnpmimjhpnhdkaaTab
namespace Go.Proofs.Ytnpmimjhpnhdkaa
open Go.RowKit

/-- An upstream. -/
structure One where
  score : Int
  agree : Int
  dissent : Int
  silent : Int
  rests : Bool
  till : Int
  trial : Bool
  deriving DecidableEq, Inhabited

def One.cells (x : One) : List Value := [.int .i64 x.score, .int .i64 x.agree, .int .i64 x.dissent, .int .i64 x.silent, .bool x.rests, .int .i64 x.till, .bool x.trial]
theorem One.cells_length (x : One) : x.cells.length = 7 := rfl

/-- All upstreams. -/
structure BookS where
  limit : Int
  rest : Int
  l : List One
  cap : Nat

/-- Adding to a score; is a trial over? -/
def One.change (lim by' : Int) (x : One) : One :=
  let sc := max 0 (min 100 (x.score + by'))
  { x with score := sc, trial := x.trial && decide (sc < min 100 (lim + 10)) }

def mayFrom : Nat → List One → List Int
  | _, [] => []
  | i, x :: r => if x.rests then mayFrom (i + 1) r else (i : Int) :: mayFrom (i + 1) r
def mayL (l : List One) : List Int := mayFrom 0 l

theorem mayFrom_append (i : Nat) (a b : List One) : mayFrom i (a ++ b) = mayFrom i a ++ mayFrom (i + a.length) b := by
  induction a generalizing i with
  | nil => simp [mayFrom]
  | cons x r ih =>
    simp only [List.cons_append, mayFrom, ih, List.length_cons]
    rw [show i + 1 + r.length = i + (r.length + 1) by omega]
    split <;> simp
theorem may_take (l : List One) (k : Nat) (h : k < l.length) : mayL (l.take (k + 1)) = mayL (l.take k) ++ if (l[k]).rests then [] else [(k : Int)] := by
  unfold mayL
  rw [List.take_succ_eq_append_getElem h, mayFrom_append]
  simp only [List.length_take, Nat.min_eq_left (Nat.le_of_lt h), mayFrom, Nat.zero_add]
theorem mayFrom_len (i : Nat) (l : List One) : (mayFrom i l).length ≤ l.length := by
  induction l generalizing i with
  | nil => simp [mayFrom]
  | cons x r ih => simp only [mayFrom]; split <;> simp <;> have := ih (i + 1) <;> omega
theorem may_len (l : List One) : (mayL l).length ≤ l.length := mayFrom_len 0 l
def One.agrees (lim : Int) (x : One) : One := ({ x with agree := min 65535 (x.agree + 1) }).change lim 1
def One.silents (lim : Int) (x : One) : One := ({ x with silent := min 65535 (x.silent + 1) }).change lim (-2)
def One.dissents (lim : Int) (x : One) : One := (({ x with dissent := min 65535 (x.dissent + 1) }).change lim (-8)).change lim (-2)
def One.resting (till : Int) (x : One) : One := { x with rests := true, trial := false, till := till }

def BookS.is (s : BookS) (u : Int) : Bool := decide (0 ≤ u) && decide (u < s.l.length)
/-- Whether one that dissents, and stands so, begins to rest. -/
def BookS.goes (s : BookS) (x : One) (l : List One) : Bool := decide (x.score < s.limit) && !x.rests && decide ((mayL l).length - 1 ≥ l.length / 2 + 1)
def BookS.agree (s : BookS) (u : Nat) : BookS := match s.l[u]? with
  | none => s
  | some x => { s with l := s.l.set u (x.agrees s.limit) }
def BookS.silent (s : BookS) (u : Nat) : BookS := match s.l[u]? with
  | none => s
  | some x => { s with l := s.l.set u (x.silents s.limit) }
def BookS.dissent (s : BookS) (u : Nat) (now : Int) : BookS := match s.l[u]? with
  | none => s
  | some x =>
    let y := x.dissents s.limit
    let l := s.l.set u y
    if s.goes y l then { s with l := l.set u (y.resting (now + s.rest)) } else { s with l := l }
/-- Whose rest is over. -/
def One.backs (now : Int) (x : One) : Bool := x.rests && decide (x.till ≤ now)
def One.back (lim now : Int) (x : One) : One := if x.backs now then ({ x with rests := false, till := 0, score := lim, trial := true }).change lim 0 else x
def backFrom (now : Int) : Nat → List One → List Int
  | _, [] => []
  | i, x :: r => if x.backs now then (i : Int) :: backFrom now (i + 1) r else backFrom now (i + 1) r
def BookS.back (s : BookS) (now : Int) : BookS := { s with l := s.l.map (One.back s.limit now) }
def BookS.backL (s : BookS) (now : Int) : List Int := backFrom now 0 s.l
/-- The least reading at which one is back. -/
def BookS.dues (s : BookS) : List Int := (s.l.filter (·.rests)).map (·.till)

end Go.Proofs.Ytnpmimjhpnhdkaa

/-
  What instructions read and write, where they go on: as plain functions.
-/
import Derived.Test.YthiehhglnaiohaaGreatDoorWk7
namespace Go.Proofs.YthiehhglnaiohaaGreatDoor
open Go.Wk

structure Arg where
  k : Int
  n : Int
def Arg.cells (a : Arg) : List Value := [.int .i64 a.k, .int .u32 a.n]
structure Ins where
  op : Int
  bin : Int
  d : Int
  a : Arg
  b : Arg
  n : Int
  off : Int
  width : Int
  signed : Bool
  args : List Arg
  aA : Option Addr
  aC : Nat
def Ins.cells (x : Ins) : List Value := [.int .i64 x.op, .int .i64 x.bin, .int .i64 x.d, .int .i64 x.a.k, .int .u32 x.a.n, .int .i64 x.b.k, .int .u32 x.b.n, .int .i64 x.n, .int .i64 x.off, .int .i64 x.width, .bool x.signed, .slice x.aA x.args.length x.aC]
def Ins.val (x : Ins) : Value := .agg x.cells.toArray

def Arg.ok (a : Arg) : Prop := 0 ≤ a.n ∧ a.n ≤ 4294967295
def in64 (n : Int) : Prop := -9223372036854775808 ≤ n ∧ n ≤ 9223372036854775807
/-- An instruction, as memory h holds it. -/
structure InsIn (h : Nat → Option Obj) (x : Ins) : Prop where
  args : Rd h Arg.cells 2 x.aA x.args
  len : x.args.length ≤ 8796093022000
  ok : ∀ a, a ∈ [x.a, x.b] ++ x.args → a.ok
  op : in64 x.op
  d : in64 x.d
  n : in64 x.n
theorem InsIn.le {h1 h2 : Nat → Option Obj} (H : Hle h1 h2) {x : Ins} (h : InsIn h1 x) : InsIn h2 x := ⟨h.args.le H, h.len, h.ok, h.op, h.d, h.n⟩
structure CodeIn (h : Nat → Option Obj) (A : Option Addr) (l : List Ins) : Prop where
  row : Rd h Ins.cells 12 A l
  len : l.length ≤ 1256584718000
  all : ∀ x, x ∈ l → InsIn h x
theorem CodeIn.le {h1 h2 : Nat → Option Obj} (H : Hle h1 h2) {A : Option Addr} {l : List Ins} (h : CodeIn h1 A l) : CodeIn h2 A l := ⟨h.row.le H, h.len, fun x hx => (h.all x hx).le H⟩

def readsF (l : List Arg) : List Int := l.filterMap fun a => if a.k = 1 then some a.n else none
def Ins.reads (x : Ins) : List Int := readsF ([x.a, x.b] ++ x.args)
def writesOp (op : Int) : Bool := op == 1 || op == 2 || op == 3 || op == 4 || op == 5 || op == 8 || op == 13
def Ins.writes (x : Ins) : Int := if writesOp x.op then max x.d (-1) else -1
theorem readsF_app (l m : List Arg) : readsF (l ++ m) = readsF l ++ readsF m := by simp [readsF]
theorem readsF_le (l : List Arg) : (readsF l).length ≤ l.length := List.length_filterMap_le _ _
/-- Where instruction i of n goes on. -/
def nextL (n : Int) (x : Ins) (i : Int) : List Int :=
  let inn (k : Int) : Bool := decide (0 ≤ k) && decide (k < n)
  if x.op = 9 ∨ x.op = 14 then [] else if x.op = 10 then [x.n].filter inn
  else if x.op = 11 then (if x.n = i + 1 then [i + 1] else [min (i + 1) x.n, max (i + 1) x.n]).filter inn
  else [i + 1].filter inn
end Go.Proofs.YthiehhglnaiohaaGreatDoor

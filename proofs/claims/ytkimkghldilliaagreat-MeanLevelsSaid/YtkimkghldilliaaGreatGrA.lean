/-
  A grammar, plainly and as it lies; what a right one is.
-/
import Derived.Test.YtkimkghldilliaaGreatRow
import Derived.Test.YtkimkghldilliaaGreatInts
namespace Go.Proofs.YtkimkghldilliaaGreat
open Go.RowKit Go.Lib

/-- a node: its kind, the four words of its class, its text, rule, level, kids, and where the kids lie. -/
structure Nd where
  kind : Int
  c0 : Int
  c1 : Int
  c2 : Int
  c3 : Int
  text : ByteArray
  rule : Int
  level : Int
  kids : List Int
  kv : Value
/-- a rule: its name, its body's node. -/
structure Ru where
  name : ByteArray
  body : Int
def ndc (x : Nd) : List Value := [.int .i64 x.kind, .int .u64 x.c0, .int .u64 x.c1, .int .u64 x.c2, .int .u64 x.c3, .string x.text, .int .i64 x.rule, .int .i64 x.level, x.kv]
def ruc (r : Ru) : List Value := [.string r.name, .int .i64 r.body]
theorem ndc_len (x : Nd) : (ndc x).length = 9 := rfl
theorem ruc_len (r : Ru) : (ruc r).length = 2 := rfl
/-- a grammar's rules and nodes, read. -/
structure GrAt (w : World) (rv nv : Value) (R : List Ru) (N : List Nd) : Prop where
  rules : RowsAt w 2 rv (R.map ruc)
  nodes : RowsAt w 9 nv (N.map ndc)
  kids : ∀ x ∈ N, CellsAt w x.kv (iv x.kids)
theorem GrAt.later {w w' : World} {rv nv : Value} {R : List Ru} {N : List Nd} (h : GrAt w rv nv R N) (hb : Below w.heap.size w w') : GrAt w' rv nv R N :=
  ⟨RowsAt.later h.rules hb, RowsAt.later h.nodes hb, fun x hx => (h.kids x hx).later hb⟩
/-- a node has nothing but kids. -/
def ndPlain (x : Nd) : Bool := (x.c0 == 0 && x.c1 == 0 && x.c2 == 0 && x.c3 == 0) && x.text.size == 0 && x.rule == 0 && x.level == 0
def ndBare (x : Nd) : Bool := ndPlain x && x.kids.length == 0
def ndSet (x : Nd) : Bool := !(x.c0 == 0 && x.c1 == 0 && x.c2 == 0 && x.c3 == 0) && ndBare { x with c0 := 0, c1 := 0, c2 := 0, c3 := 0 }
def ndText (x : Nd) : Bool := decide (0 < x.text.size) && decide (x.text.size ≤ 64) && ndBare { x with text := ⟨#[]⟩ }
def ndCall (rules : Nat) (x : Nd) : Bool := (decide (0 ≤ x.rule) && decide (x.rule < rules) && decide (0 ≤ x.level) && decide (x.level ≤ 99)) && ndBare { x with rule := 0, level := 0 }
def ndMany (x : Nd) : Bool := ndPlain x && decide (2 ≤ x.kids.length) && decide (x.kids.length ≤ 64)
def ndOne (x : Nd) : Bool := ndPlain x && x.kids.length == 1
/-- a node is right, where there are so many rules. -/
def nodeOk (rules : Nat) (x : Nd) : Bool :=
  if x.kind = 1 ∨ x.kind = 2 then ndBare x
  else if x.kind = 3 then ndSet x
  else if x.kind = 4 then ndText x
  else if x.kind = 5 then ndCall rules x
  else if x.kind = 6 ∨ x.kind = 7 then ndMany x
  else if 8 ≤ x.kind ∧ x.kind ≤ 12 then ndOne x
  else false
/-- a name: letters, numbers behind the first, one to thirty-two. -/
def isLetter (c : Nat) : Bool := (97 ≤ c && c ≤ 122) || (65 ≤ c && c ≤ 90) || c == 95
def nameOk (s : ByteArray) : Bool := decide (0 < s.size) && decide (s.size ≤ 32) && (List.range s.size).all fun i => isLetter (s.get! i).toNat || (decide (0 < i) && decide (48 ≤ (s.get! i).toNat) && decide ((s.get! i).toNat ≤ 57))
/-- the kids of node n, T being the sizes and heights of the nodes behind it. -/
def kidsAt (n len : Nat) (T : List (Nat × Nat)) : Nat → Nat → List Int → Option (Nat × Nat)
  | next, high, [] => some (next, high)
  | next, high, k :: ks => if k = (next : Int) ∧ next < len then
      kidsAt n len T (next + (T.getD (next - (n + 1)) (0, 0)).1) (max high (T.getD (next - (n + 1)) (0, 0)).2) ks
    else none
/-- the sizes and heights of nodes, the first of which is node n. -/
def treeAt (len : Nat) : Nat → List Nd → Option (List (Nat × Nat))
  | _, [] => some []
  | n, x :: r => match treeAt len (n + 1) r with
    | none => none
    | some T => match kidsAt n len T (n + 1) 0 x.kids with
      | none => none
      | some (next, high) => some ((next - n, high + 1) :: T)
theorem treeAt_len (len : Nat) : ∀ (N : List Nd) (n : Nat) (T : List (Nat × Nat)), treeAt len n N = some T → T.length = N.length
  | [], n, T, h => by simp [treeAt] at h; subst h; rfl
  | x :: r, n, T, h => by
    unfold treeAt at h
    cases h1 : treeAt len (n + 1) r with
    | none => rw [h1] at h; simp at h
    | some T1 =>
      rw [h1] at h
      simp only at h
      cases h2 : kidsAt n len T1 (n + 1) 0 x.kids with
      | none => rw [h2] at h; simp at h
      | some p =>
        rw [h2] at h
        simp only [Option.some.injEq] at h
        subst h
        simp [treeAt_len len r (n + 1) T1 h1]
/-- the first rule of a name. -/
def ruleOf (R : List Ru) (s : ByteArray) : Int := match R.findIdx? fun r => r.name == s with
  | some i => (i : Int)
  | none => -1
/-- the rules' bodies, one behind the other. -/
def bodiesAt (R : List Ru) (T : List (Nat × Nat)) : Nat → Nat → List Ru → Option Nat
  | _, next, [] => some next
  | k, next, r :: rs => if nameOk r.name = true ∧ ruleOf R r.name = (k : Int) ∧ r.body = (next : Int) ∧ next < T.length ∧ (T.getD next (0, 0)).2 ≤ 16 then
      bodiesAt R T (k + 1) (next + (T.getD next (0, 0)).1) rs
    else none
/-- a right grammar. -/
def grRight (R : List Ru) (N : List Nd) : Bool :=
  decide (0 < R.length) && decide (R.length ≤ 32) && decide (N.length ≤ 2048) && N.all (nodeOk R.length) &&
  match treeAt N.length 0 N with
  | none => false
  | some T => bodiesAt R T 0 0 R == some N.length
end Go.Proofs.YtkimkghldilliaaGreat

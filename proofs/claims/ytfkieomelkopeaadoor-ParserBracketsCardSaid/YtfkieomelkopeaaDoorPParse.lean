/-
  The parser's plain law: the tree of a list of words, level by level, as Lean functions. Nothing of the program is used here.
-/
import Derived.Test.YtfkieomelkopeaaDoorPWord
namespace Go.Proofs.YtfkieomelkopeaaDoor
open Go.RowKit

structure Node where
  op : Nat
  c : Int
  s : Int
  name : List UInt8
  k : Int
  k0 : Int
  k1 : Int
  k2 : Int
  place : Nat
deriving DecidableEq

/-- What a level hands back: a node's place, the words left, the nodes; or why it is given up, and where; or that the reckoning was too short. -/
inductive R where
  | ok (a : Nat) (toks : List Tok) (tree : List Node)
  | err (place e : Nat)
  | out
deriving DecidableEq

/-- Where the next word stands. -/
def pos (E : Nat) : List Tok → Nat
  | [] => E
  | t :: _ => t.place
/-- Is the next word one? -/
def isW (toks : List Tok) (text : List UInt8) : Bool := match toks with
  | [] => false
  | t :: _ => decide (t.text = text) && decide (t.kind ≠ 2)
/-- The op of the next word, if it stands between; 0: it does not. -/
def ifx : List (List UInt8 × Nat) → List Tok → Nat
  | [], _ => 0
  | (t, o) :: r, toks => if isW toks t = true then o else ifx r toks
/-- The ops of a level. -/
def opsOf (n : Nat) : List (List UInt8 × Nat) :=
  if n = 0 then [([111, 114], 5)] else if n = 1 then [([97, 110, 100], 6)]
  else if n = 3 then [([61], 8), ([60, 62], 9), ([60], 10), ([60, 61], 11), ([62], 12), ([62, 61], 13)]
  else if n = 4 then [([43], 14), ([45], 15)] else [([42], 16), ([47], 17)]
def binNode (o place a b : Nat) : Node := ⟨o, 0, 0, [], 0, a, b, -1, place⟩
def unNode (o place a : Nat) : Node := ⟨o, 0, 0, [], 0, a, -1, -1, place⟩
/-- Parts side by side, behind the first one. -/
def rowLoop (ex : List Tok → List Node → R) (E : Nat) (many : Bool) (ops : List (List UInt8 × Nat)) : Nat → Nat → List Tok → List Node → R
  | 0, _, _, _ => .out
  | m + 1, a, toks, tree =>
    if ifx ops toks = 0 then .ok a toks tree
    else match ex toks.tail tree with
      | .ok b toks' tree' =>
        if many = true then rowLoop ex E many ops m tree'.length toks' (tree' ++ [binNode (ifx ops toks) (pos E toks) a b])
        else .ok tree'.length toks' (tree' ++ [binNode (ifx ops toks) (pos E toks) a b])
      | r => r
def rowF (ex : List Tok → List Node → R) (E : Nat) (many : Bool) (ops : List (List UInt8 × Nat)) (toks : List Tok) (tree : List Node) : R :=
  match ex toks tree with
  | .ok a toks' tree' => rowLoop ex E many ops (toks'.length + 1) a toks' tree'
  | r => r
/-- A level with a word ahead: 'same' is that level once more, one deeper. -/
def aheadF (next same : List Tok → List Node → R) (E deep : Nat) (text : List UInt8) (o : Nat) (toks : List Tok) (tree : List Node) : R :=
  if isW toks text = true then
    if deep = 16 then .err (pos E toks) 10
    else match same toks.tail tree with
      | .ok a toks' tree' => .ok tree'.length toks' (tree' ++ [unNode o (pos E toks) a])
      | r => r
  else next toks tree
/-- A call: its op, its arguments (101 'e': an expression, 102 'f': a field, 119 'w': a whole number), the greatest whole number. -/
def callsOf (l : List UInt8) : Option (Nat × List UInt8 × Int) :=
  if l = [105, 102] then some (19, [101, 101, 101], 0) else if l = [109, 105, 110] then some (20, [101, 101], 0) else if l = [109, 97, 120] then some (21, [101, 101], 0)
  else if l = [97, 98, 115] then some (22, [101], 0) else if l = [114, 111, 117, 110, 100] then some (23, [101, 119], 9) else if l = [104, 97, 115] then some (24, [102], 0)
  else if l = [111, 114, 101, 108, 115, 101] then some (25, [102, 101], 0) else if l = [108, 97, 103] then some (26, [102, 119], 3660)
  else if l = [108, 101, 97, 115, 116] then some (27, [102, 119], 3660) else if l = [109, 111, 115, 116] then some (28, [102, 119], 3660)
  else if l = [97, 110, 121] then some (29, [102, 119], 3660) else if l = [101, 118, 101, 114, 121] then some (30, [102, 119], 3660) else none
def isFieldW (nm : List UInt8 → Bool) : List Tok → Bool
  | [] => false
  | t :: _ => decide (t.kind = 1) && nm t.text
def isWhole (most : Int) : List Tok → Bool
  | [] => false
  | t :: _ => decide (t.kind = 2) && decide (t.s = 0) && decide (t.c ≤ most)
inductive RA where
  | ok (kids : List Nat) (name : List UInt8) (k : Int) (toks : List Tok) (tree : List Node)
  | err (place e : Nat)
  | out
/-- A call's arguments from the i-th on. -/
def argsF (nm : List UInt8 → Bool) (ex : List Tok → List Node → R) (E : Nat) (most : Int) : List UInt8 → Bool → List Nat → List UInt8 → Int → List Tok → List Node → RA
  | [], _, kids, name, k, toks, tree => .ok kids name k toks tree
  | a :: as, first, kids, name, k, toks0, tree =>
    if first = false ∧ isW toks0 [44] = false then .err (pos E toks0) 4
    else
      let toks := if first = true then toks0 else toks0.tail
      if a = 101 then
        match ex toks tree with
        | .ok b toks' tree' => argsF nm ex E most as false (kids ++ [b]) name k toks' tree'
        | .err p e => .err p e
        | .out => .out
      else if a = 102 then
        if isFieldW nm toks = true then argsF nm ex E most as false kids (toks.headD ⟨0, [], 0, 0, 0⟩).text k toks.tail tree else .err (pos E toks) 4
      else
        if isWhole most toks = true then argsF nm ex E most as false kids name (toks.headD ⟨0, [], 0, 0, 0⟩).c toks.tail tree else .err (pos E toks) 4
def kid (l : List Nat) (i : Nat) : Int := match l[i]? with | some a => (a : Int) | none => -1
/-- A call behind its word 't' (still the first one of toks). -/
def callF (nm : List UInt8 → Bool) (ex : List Tok → List Node → R) (E deep : Nat) (c : Nat × List UInt8 × Int) (toks : List Tok) (tree : List Node) : R :=
  if isW toks.tail [40] = false then .err (pos E toks.tail) 4
  else if deep = 16 then .err (pos E toks.tail) 10
  else match argsF nm ex E c.2.2 c.2.1 true [] [] 0 toks.tail.tail tree with
    | .ok kids name k toks' tree' =>
      if isW toks' [41] = true then .ok tree'.length toks'.tail (tree' ++ [⟨c.1, 0, 0, name, k, kid kids 0, kid kids 1, kid kids 2, pos E toks⟩])
      else .err (pos E toks') 4
    | .err p e => .err p e
    | .out => .out
def leaf (o : Nat) (c s : Int) (name : List UInt8) (place : Nat) : Node := ⟨o, c, s, name, 0, -1, -1, -1, place⟩
/-- An atom; 'ex' is an expression one deeper. -/
def atomF (nm : List UInt8 → Bool) (ex : List Tok → List Node → R) (E deep : Nat) (toks : List Tok) (tree : List Node) : R :=
  match toks with
  | [] => .err E 4
  | t :: r =>
    if t.kind = 2 then .ok tree.length r (tree ++ [leaf 1 t.c t.s [] t.place])
    else if t.text = [116, 114, 117, 101] then .ok tree.length r (tree ++ [leaf 2 0 0 [] t.place])
    else if t.text = [102, 97, 108, 115, 101] then .ok tree.length r (tree ++ [leaf 3 0 0 [] t.place])
    else match callsOf t.text with
      | some c => callF nm ex E deep c (t :: r) tree
      | none =>
        if t.text = [40] then
          if deep = 16 then .err t.place 10
          else match ex r tree with
            | .ok a toks' tree' => if isW toks' [41] = true then .ok a toks'.tail tree' else .err (pos E toks') 4
            | x => x
        else if isFieldW nm (t :: r) = true then .ok tree.length r (tree ++ [leaf 4 0 0 t.text t.place])
        else .err t.place 4
/-- A level's expression; the first number bounds how many calls stand in each other. -/
def lvl (nm : List UInt8 → Bool) (E : Nat) : Nat → Nat → Nat → List Tok → List Node → R
  | 0, _, _, _, _ => .out
  | f + 1, n, deep, toks, tree =>
    if n = 2 then aheadF (lvl nm E f 3 deep) (lvl nm E f 2 (deep + 1)) E deep [110, 111, 116] 7 toks tree
    else if n = 6 then aheadF (lvl nm E f 7 deep) (lvl nm E f 6 (deep + 1)) E deep [45] 18 toks tree
    else if n = 7 then atomF nm (lvl nm E f 0 (deep + 1)) E deep toks tree
    else rowF (lvl nm E f (n + 1) deep) E (decide (n ≠ 3)) (opsOf n) toks tree
/-- A text's tree: the nodes, the place, the error. -/
def parseS (nm : List UInt8 → Bool) (l : List UInt8) : List Node × Nat × Nat :=
  if (lexS l).2.2 ≠ 0 then ([], (lexS l).2.1, (lexS l).2.2)
  else match lvl nm l.length 200 0 0 (lexS l).1 [] with
    | .ok _ toks tree => if toks = [] then (if 100 < tree.length then ([], 0, 7) else (tree, 0, 0)) else ([], pos l.length toks, 4)
    | .err p e => ([], p, e)
    | .out => ([], 0, 999)
end Go.Proofs.YtfkieomelkopeaaDoor

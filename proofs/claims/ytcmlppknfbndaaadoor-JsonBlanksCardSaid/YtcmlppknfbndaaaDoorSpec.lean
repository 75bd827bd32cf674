/-
  WHAT PACKAGE json DOES, AS PLAIN LEAN FUNCTIONS ON LISTS OF BYTES: no program is named. Conditions: none.
-/
import Derived.Lib.DecodeN
import Derived.Lib.RuneBytes
import Derived.Lib.ItoaNum
import Derived.Lib.ValidU
import Derived.Lib.ParseIntB
import Derived.Lib.SlTrimSet
import Derived.KernelRfl
namespace Go.Proofs.YtcmlppknfbndaaaDoor.Js
open Go

/-- A value of package api: kind, number, text, kids, names. -/
inductive V where
  | mk (kind num : Int) (text : List UInt8) (kids : List V) (names : List (List UInt8))

def V.kind : V → Int | .mk k _ _ _ _ => k
def V.num : V → Int | .mk _ n _ _ _ => n
def V.text : V → List UInt8 | .mk _ _ t _ _ => t
def V.kids : V → List V | .mk _ _ _ ks _ => ks
def V.names : V → List (List UInt8) | .mk _ _ _ _ ns => ns
def nul : V := .mk 0 0 [] [] []

/-- What a reader's step comes to: something, and what is left; or an error's number. -/
inductive Res (α : Type) where
  | ok (a : α) (rest : List UInt8)
  | err (e : Int)

def blanks (l : List UInt8) : List UInt8 := Lib.trimLeftS l [32, 9, 10, 13]
def word (s l : List UInt8) : Res Unit := if s.isPrefixOf l then .ok () (l.drop s.length) else .err 5

/-- A digit of base 16. -/
def hexVal (c : UInt8) : Option Int :=
  if 48 ≤ c ∧ c ≤ 57 then some (c.toNat - 48) else if 97 ≤ c ∧ c ≤ 102 then some (c.toNat - 87) else if 65 ≤ c ∧ c ≤ 70 then some (c.toNat - 55) else none
/-- So many digits of base 16, behind a number. -/
def units : Nat → Int → List UInt8 → Res Int
  | 0, n, l => .ok n l
  | _ + 1, _, [] => .err 5
  | k + 1, n, c :: l => match hexVal c with
    | some d => units k (16 * n + d) l
    | none => .err 5
def unit (l : List UInt8) : Res Int := units 4 0 l

/-- What a letter behind a backslash stands for. -/
def letter (c : UInt8) : Option Int :=
  if c = 34 then some 34 else if c = 92 then some 92 else if c = 98 then some 8 else if c = 102 then some 12 else if c = 110 then some 10 else if c = 114 then some 13 else if c = 116 then some 9 else if c = 47 then some 47 else none
def isRune (n : Int) : Bool := decide ((0 ≤ n ∧ n < 55296) ∨ (57343 < n ∧ n ≤ 1114111))
/-- The second unit of a pair. -/
def low (n : Int) (l : List UInt8) : Res Int :=
  match word [92, 117] l with
  | .err e => .err e
  | .ok _ l1 => match unit l1 with
    | .err e => .err e
    | .ok m l2 => if 56320 ≤ m ∧ m < 57344 then .ok (65536 + (n - 55296) * 1024 + m - 56320) l2 else .err 5
def escape (l : List UInt8) : Res Int :=
  match l with
  | [] => .err 5
  | c :: r => match letter c with
    | some n => .ok n r
    | none => if c = 117 then
        (match unit r with
        | .err e => .err e
        | .ok n r1 => if 55296 ≤ n ∧ n < 56320 then low n r1 else if isRune n then .ok n r1 else .err 5)
      else .err 5

def utf8 (n : Int) : List UInt8 := (Lib.encodeRuneZ n).map fun z => UInt8.ofNat z.toNat
def decode (l : List UInt8) : Nat × Nat :=
  if l.length = 0 then (65533, 0) else Lib.decodeN l.length (l.getD 0 0).toNat (l.getD 1 0).toNat (l.getD 2 0).toNat (l.getD 3 0).toNat
def plain (l : List UInt8) : Bool := decide (0 < (decode l).2 ∧ 32 ≤ (decode l).1 ∧ ((decode l).1 ≠ 65533 ∨ 1 < (decode l).2))
def textLoop : Nat → List UInt8 → List UInt8 → Res (List UInt8)
  | 0, _, _ => .err 5
  | _ + 1, _, [] => .err 5
  | f + 1, acc, c :: r =>
    if c = 34 then .ok acc r
    else if c = 92 then
      (match escape r with
      | .err e => .err e
      | .ok n rest => textLoop f (acc ++ utf8 n) rest)
    else if plain (c :: r) then textLoop f (acc ++ (c :: r).take (decode (c :: r)).2) ((c :: r).drop (decode (c :: r)).2) else .err 5
def text (l : List UInt8) : Res (List UInt8) :=
  match l with
  | [] => .err 5
  | c :: r => if c = 34 then textLoop (r.length + 1) [] r else .err 5

def isDigit (c : UInt8) : Bool := decide (48 ≤ c ∧ c ≤ 57)
/-- The digits of a numeral, which has no 0 ahead. -/
def digits (l : List UInt8) : List UInt8 :=
  match l with
  | [] => []
  | c :: r => if c = 48 then [48] else (c :: r).takeWhile isDigit
def sign (l : List UInt8) : Nat := match l with | [] => 0 | c :: _ => if c = 45 then 1 else 0
def numLen (l : List UInt8) : Nat := sign l + (digits (l.drop (sign l))).length
def number (l : List UInt8) : Res Int :=
  if numLen l = sign l then .err 5
  else match Lib.parseIntB 64 (l.take (numLen l)) with
    | .ok v => .ok v (l.drop (numLen l))
    | _ => .err 5

mutual
/-- A value, within so many others. -/
def value : Nat → Int → List UInt8 → Res V
  | 0, _, _ => .err 5
  | f + 1, within, l0 => match blanks l0 with
    | [] => .err 5
    | c :: r =>
      if c = 110 then (match word [110, 117, 108, 108] (c :: r) with | .err e => .err e | .ok _ l => .ok nul l)
      else if c = 116 then (match word [116, 114, 117, 101] (c :: r) with | .err e => .err e | .ok _ l => .ok (.mk 1 1 [] [] []) l)
      else if c = 102 then (match word [102, 97, 108, 115, 101] (c :: r) with | .err e => .err e | .ok _ l => .ok (.mk 1 0 [] [] []) l)
      else if c = 34 then (match text (c :: r) with | .err e => .err e | .ok s l => .ok (.mk 3 0 s [] []) l)
      else if c = 91 then (if within = 8 then .err 6 else list f (within + 1) r)
      else if c = 123 then (if within = 8 then .err 6 else object f (within + 1) r)
      else (match number (c :: r) with | .err e => .err e | .ok n l => .ok (.mk 2 n [] [] []) l)
/-- What stands behind the beginning of a list. -/
def list : Nat → Int → List UInt8 → Res V
  | 0, _, _ => .err 5
  | f + 1, within, l0 => match blanks l0 with
    | [] => .err 5
    | c :: r => if c = 93 then .ok (.mk 4 0 [] [] []) r else elems f within [] (c :: r)
def elems : Nat → Int → List V → List UInt8 → Res V
  | 0, _, _, _ => .err 5
  | f + 1, within, acc, l0 => match value f within l0 with
    | .err e => .err e
    | .ok k l1 => match blanks l1 with
      | [] => .err 5
      | c :: r => if c = 93 then .ok (.mk 4 0 [] (acc ++ [k]) []) r else if c = 44 then elems f within (acc ++ [k]) r else .err 5
def object : Nat → Int → List UInt8 → Res V
  | 0, _, _ => .err 5
  | f + 1, within, l0 => match blanks l0 with
    | [] => .err 5
    | c :: r => if c = 125 then .ok (.mk 5 0 [] [] []) r else fields f within [] [] (c :: r)
def fields : Nat → Int → List (List UInt8) → List V → List UInt8 → Res V
  | 0, _, _, _, _ => .err 5
  | f + 1, within, ns, acc, l0 => match text (blanks l0) with
    | .err e => .err e
    | .ok s l1 => if ns.contains s then .err 5 else match blanks l1 with
      | [] => .err 5
      | c :: r => if c = 58 then
          (match value f within r with
          | .err e => .err e
          | .ok k l2 => match blanks l2 with
            | [] => .err 5
            | d :: r2 => if d = 125 then .ok (.mk 5 0 [] (acc ++ [k]) (ns ++ [s])) r2 else if d = 44 then fields f within (ns ++ [s]) (acc ++ [k]) r2 else .err 5)
        else .err 5
end
/-- The value that bytes are written as, and OK; or Null, and an error. -/
def parse (l : List UInt8) : V × Int :=
  if 65536 < l.length then (nul, 6)
  else match value (3 * l.length + 1) 0 l with
    | .err e => (nul, e)
    | .ok v rest => if (blanks rest).length = 0 then (v, 0) else (nul, 5)

def bare : V → Bool
  | .mk k n t ks ns => decide ((k = 1 ∨ k = 2 ∨ n = 0) ∧ (k = 3 ∨ t = []) ∧ (k = 4 ∨ k = 5 ∨ ks = []) ∧ ns.length = if k = 5 then ks.length else 0)
def namesOk : List (List UInt8) → List (List UInt8) → Bool
  | _, [] => true
  | seen, s :: r => Lib.validD s && !seen.contains s && namesOk (seen ++ [s]) r
mutual
def may : Int → V → Bool
  | nest, .mk k n t ks ns => bare (.mk k n t ks ns) &&
    (if k = 0 ∨ k = 2 then true else if k = 1 then decide (n = 0 ∨ n = 1) else if k = 3 then Lib.validD t
     else if k = 4 ∨ k = 5 then namesOk [] ns && decide (0 < nest) && mayAll (nest - 1) ks else false)
def mayAll : Int → List V → Bool
  | _, [] => true
  | nest, v :: r => may nest v && mayAll nest r
end

def esc (c : UInt8) : List UInt8 :=
  if c = 34 then [92, 34] else if c = 92 then [92, 92] else if c = 8 then [92, 98] else if c = 12 then [92, 102] else if c = 10 then [92, 110] else if c = 13 then [92, 114] else if c = 9 then [92, 116]
  else if c < 32 then [92, 117, 48, 48, 48 + c / 16, if c % 16 < 10 then 48 + c % 16 else 87 + c % 16] else [c]
def quoted (s : List UInt8) : List UInt8 := [34] ++ s.flatMap esc ++ [34]
mutual
def put : V → List UInt8
  | .mk k n t ks ns => if k = 0 then [110, 117, 108, 108] else if k = 1 then (if n = 1 then [116, 114, 117, 101] else [102, 97, 108, 115, 101])
    else if k = 2 then Lib.itoa n else if k = 3 then quoted t
    else if k = 5 then [123] ++ putKids true true ks ns ++ [125] else [91] ++ putKids false true ks ns ++ [93]
def putKids : Bool → Bool → List V → List (List UInt8) → List UInt8
  | _, _, [], _ => []
  | obj, first, v :: r, ns => (if first then [] else [44]) ++ (if obj then quoted (ns.headD []) ++ [58] else []) ++ put v ++ putKids obj false r ns.tail
end
def print (v : V) : List UInt8 × Int := if may 8 v then (put v, 0) else ([], 1)

mutual
def same : V → V → Bool
  | .mk k n t ks ns, .mk k' n' t' ks' ns' => decide (k = k') && decide (n = n') && decide (t = t') && decide (ns = ns') && sameAll ks ks'
def sameAll : List V → List V → Bool
  | [], [] => true
  | v :: r, u :: q => same v u && sameAll r q
  | _, _ => false
end

def field (v : V) (name : List UInt8) : Option V := if v.kind = 5 then v.kids[v.names.idxOf name]? else none

example : parse [32, 123, 32, 34, 97, 34, 32, 58, 32, 45, 48, 32, 125, 32] = (.mk 5 0 [] [.mk 2 0 [] [] []] [[97]], 0) := by kernel_rfl
example : (parse [91, 49, 44, 93]).2 = 5 := by kernel_rfl
example : (parse [91, 91, 91, 91, 91, 91, 91, 91, 91]).2 = 6 := by kernel_rfl
example : print (.mk 4 0 [] [.mk 2 1 [] [] [], .mk 3 0 [97, 10] [] [], nul] []) = ([91, 49, 44, 34, 97, 92, 110, 34, 44, 110, 117, 108, 108, 93], 0) := by kernel_rfl
end Go.Proofs.YtcmlppknfbndaaaDoor.Js

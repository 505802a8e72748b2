/-
  What graticuleref11.Compile computes: plain.
-/
import Derived.Test.YtldcbkememonaaaPa
import Derived.RowKit

namespace Go.Proofs.Ytldcbkememonaaa
open Go.RowKit
set_option linter.unusedVariables false
set_option linter.unusedSimpArgs false

structure Ins where
  op : Int
  x : Int
  y : Int
  ps : ByteArray

structure RS where
  at_ : Nat
  deep : Nat
  err : Int
  grp : Nat
  L : List Ins

/-- a byte of a text -/
def by_ (s : ByteArray) (i : Nat) : Nat := (s.data.toList.getD i 0).toNat
theorem by_lt (s : ByteArray) (i : Nat) : by_ s i < 256 := UInt8.toNat_lt _
/-- bytes as a text -/
def bs (l : List Nat) : ByteArray := ⟨(l.map UInt8.ofNat).toArray⟩

def wordB (c : Nat) : Bool := (decide (97 ≤ c) && decide (c ≤ 122)) || (decide (65 ≤ c) && decide (c ≤ 90)) || (decide (48 ≤ c) && decide (c ≤ 57))
def isD (c : Nat) : Bool := c == 100 || c == 68
def isW (c : Nat) : Bool := c == 119 || c == 87
def isS (c : Nat) : Bool := c == 115 || c == 83
def sixOk (c : Nat) : Bool := isD c || isW c || isS c
def sixIn (c b : Nat) : Bool := if isD c then decide (48 ≤ b) && decide (b ≤ 57) else if isW c then wordB b || b == 95 else (decide (9 ≤ b) && decide (b ≤ 13)) || b == 32
def sixM (c b : Nat) : Bool := sixIn c b == decide (97 ≤ c)
def specB (c : Nat) : Bool := [92, 94, 36, 46, 124, 63, 42, 43, 40, 41, 91].contains c

/-- the runs of a set, up to a byte -/
def pairsTo (m : Nat → Bool) : Nat → List Nat
  | 0 => []
  | i + 1 => pairsTo m i ++ (if m i && (i == 0 || !m (i - 1)) then [i] else []) ++ (if m i && (i == 255 || !m (i + 1)) then [i] else [])
def pairsOf (m : Nat → Bool) : List Nat := pairsTo m 256

/-- an answer of 'stroke' and of 'item': a byte, or one of the six, behind which place; none: it is none -/
structure It where
  a : Nat
  six : Option Nat
  nx : Nat

def strokeF (s : ByteArray) (p : Nat) : Option It × Nat :=
  if p + 1 < s.size then
    let c := by_ s (p + 1)
    if sixOk c then (some ⟨0, some c, p + 2⟩, p + 2) else if wordB c then (none, p + 2) else (some ⟨c, none, p + 2⟩, p + 2)
  else (none, p)
def itemF (s : ByteArray) (p : Nat) : Option It × Nat :=
  if p < s.size then
    if by_ s p == 92 then strokeF s p else (some ⟨by_ s p, none, p + 1⟩, p + 1)
  else (none, p)
def sixAtF (s : ByteArray) (i : Nat) : Bool := decide (i + 1 < s.size) && by_ s i == 92 && sixOk (by_ s (i + 1))
def moreF (s : ByteArray) (p c : Nat) : Bool := decide (p < s.size) && by_ s p == c

/-- what a byte or a run adds to a set -/
def addM (m : Nat → Bool) (six : Option Nat) (a b : Nat) (i : Nat) : Bool :=
  m i || (match six with | some c => sixM c i | none => decide (a ≤ i) && decide (i ≤ b))
/-- the members of a class, from a place on -/
def classTo (s : ByteArray) : Nat → Bool → Nat → (Nat → Bool) → Option (Nat → Bool) × Nat
  | 0, _, p, _ => (none, p)
  | k + 1, first, p, m =>
    if first || !moreF s p 93 then
      match itemF s p with
      | (none, q) => (none, q)
      | (some it, q) =>
        if it.six.isNone && moreF s q 45 && decide (q + 1 < s.size) && !(by_ s (q + 1) == 93) && !sixAtF s (q + 1) then
          match itemF s (q + 1) with
          | (none, q2) => (none, q2)
          | (some it2, q2) => if it2.a < it.a then (none, q2) else classTo s k false q2 (addM m none it.a it2.a)
        else classTo s k false q (addM m it.six it.a it.a)
    else (some m, p)
def classF (s : ByteArray) (p : Nat) : Option (Nat → Bool) × Nat :=
  let not := moreF s (p + 1) 94
  let p1 := if not then p + 2 else p + 1
  match classTo s (s.size + 1) true p1 (fun _ => false) with
  | (none, q) => (none, q)
  | (some m, q) => (some fun i => m i != not, q + 1)
def setF (s : ByteArray) (p : Nat) : Option (Nat → Bool) × Nat :=
  let c := by_ s p
  if c == 46 then (some fun i => i != 10, p + 1)
  else if c == 91 then classF s p
  else if c == 92 then
    match strokeF s p with
    | (none, q) => (none, q)
    | (some it, q) => (some (match it.six with | some d => sixM d | none => fun i => i == it.a), q)
  else if specB c then (none, p)
  else (some fun i => i == c, p + 1)

def RS.lay (st : RS) (i : Ins) : RS := { st with L := st.L ++ [i] }
def RS.bad (st : RS) (e : Int) : RS := if st.err = 0 then { st with err := e } else st
def movI (b : Int) (i : Ins) : Ins :=
  if i.op = 2 then { i with x := wrap64 (i.x + b), y := wrap64 (i.y + b) } else if i.op = 3 then { i with x := wrap64 (i.x + b) } else i
def RS.put (st : RS) (l : List Ins) : RS := { st with L := st.L ++ l.map (movI st.L.length) }
def e0 : ByteArray := ⟨#[]⟩

def groupF (s : ByteArray) (wf : RS → RS) (st : RS) : RS :=
  let p := st.at_ + 1
  let q := decide (p + 1 < s.size) && by_ s p == 63 && by_ s (p + 1) == 58
  let st1 : RS := if q then { st with at_ := p + 2, deep := st.deep + 1 } else { st with at_ := p, deep := st.deep + 1, grp := st.grp + 1 }
  if 64 < st1.deep then st1.bad 12
  else
    let st2 := if q then st1 else st1.lay ⟨4, 2 * st1.grp, 0, e0⟩
    let st3 := wf st2
    if st3.err ≠ 0 then st3
    else if !moreF s st3.at_ 41 then st3.bad 8
    else
      let st4 : RS := { st3 with at_ := st3.at_ + 1, deep := st3.deep - 1 }
      if q then st4 else st4.lay ⟨4, 2 * st1.grp + 1, 0, e0⟩
def atomF (s : ByteArray) (wf : RS → RS) (st : RS) : RS :=
  let c := by_ s st.at_
  if c == 40 then groupF s wf st
  else if c == 94 then ({ st with at_ := st.at_ + 1 } : RS).lay ⟨5, 0, 0, e0⟩
  else if c == 36 then ({ st with at_ := st.at_ + 1 } : RS).lay ⟨6, 0, 0, e0⟩
  else match setF s st.at_ with
    | (none, q) => ({ st with at_ := q } : RS).bad 8
    | (some m, q) => ({ st with at_ := q } : RS).lay ⟨1, 0, 0, bs (pairsOf m)⟩
/-- the split of a piece that is taken so often -/
def splitOf (c : Nat) (lazy : Bool) (fr n : Nat) : Ins :=
  let x : Int := if c == 43 then fr else fr + 1
  let y : Int := if c == 42 then fr + 2 + n else if c == 43 then fr + n + 1 else fr + 1 + n
  if lazy then ⟨2, y, x, e0⟩ else ⟨2, x, y, e0⟩
def pieceF (s : ByteArray) (wf : RS → RS) (st : RS) : RS :=
  let fr := st.L.length
  let st1 := atomF s wf st
  if st1.err ≠ 0 ∨ st1.at_ = s.size then st1
  else
    let c := by_ s st1.at_
    if c == 42 || c == 43 || c == 63 then
      let lazy := moreF s (st1.at_ + 1) 63
      let x := (st1.L.drop fr).map (movI (-(fr : Int)))
      let st2 : RS := { st1 with at_ := if lazy then st1.at_ + 2 else st1.at_ + 1, L := st1.L.take fr }
      let i := splitOf c lazy fr x.length
      if c == 43 then (st2.put x).lay i
      else if c == 42 then ((st2.lay i).put x).lay ⟨3, fr, 0, e0⟩
      else (st2.lay i).put x
    else st1
def rowGo (s : ByteArray) (st : RS) : Bool := decide (st.err = 0) && decide (st.at_ < s.size) && !(by_ s st.at_ == 124) && !(by_ s st.at_ == 41)
def rowF (s : ByteArray) (wf : RS → RS) : Nat → RS → RS
  | 0, st => st
  | k + 1, st => if rowGo s st then rowF s wf k (pieceF s wf st) else st
def setX (l : List Ins) (j : Nat) (v : Int) : List Ins := l.modify j (fun i => { i with x := v })
def waysF (s : ByteArray) : Nat → RS → RS
  | 0, st => st
  | n + 1, st =>
    let fr := st.L.length
    let st1 := rowF s (waysF s n) (s.size + 1) st
    if st1.err ≠ 0 ∨ moreF s st1.at_ 124 = false then st1
    else
      let a := (st1.L.drop fr).map (movI (-(fr : Int)))
      let st2 : RS := { st1 with at_ := st1.at_ + 1, L := st1.L.take fr }
      let st3 := (st2.lay ⟨2, fr + 1, fr + 2 + a.length, e0⟩).put a
      let j := st3.L.length
      let st4 := waysF s n (st3.lay ⟨3, 0, 0, e0⟩)
      { st4 with L := setX st4.L j st4.L.length }
/-- what Compile answers: the groups, the instructions, an error -/
def compF (s : ByteArray) : Nat × List Ins × Int :=
  if 4096 < s.size then (0, [], 13) else
  let st := waysF s (s.size + 1) ⟨0, 0, 0, 0, [⟨4, 0, 0, e0⟩]⟩
  let st1 := if st.err = 0 ∧ st.at_ < s.size then st.bad 8 else st
  let st2 := (st1.lay ⟨4, 1, 0, e0⟩).lay ⟨7, 0, 0, e0⟩
  if st2.err ≠ 0 then (0, [], st2.err) else if 1024 < st2.L.length then (0, [], 13) else (st2.grp, st2.L, 0)
end Go.Proofs.Ytldcbkememonaaa

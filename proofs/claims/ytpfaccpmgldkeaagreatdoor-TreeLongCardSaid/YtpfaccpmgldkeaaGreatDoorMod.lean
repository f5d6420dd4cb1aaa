/- The pure model: what the tree's functions compute, on plain data. No program, no memory. -/
import Init.Data.List.Basic
set_option linter.unusedVariables false
set_option linter.unusedSimpArgs false
namespace Go.Proofs.YtpfaccpmgldkeaaGreatDoor
namespace M

/-- A string: its bytes. -/
abbrev Bs := List UInt8

/- PATHS -/
def slash : UInt8 := 47
/-- What stands between slashes. -/
def cutAt : Bs → Bs → List Bs
  | acc, [] => [acc.reverse]
  | acc, c :: l => if c = slash then acc.reverse :: cutAt [] l else cutAt (c :: acc) l
def pieces (s : Bs) : List Bs := cutAt [] s
def dot : Bs := [46]
def dots : Bs := [46, 46]

/-- path.parts: the parts, and whether they may be. -/
def partsGo : List Bs → List Bs → List Bs × Bool
  | out, [] => (out, decide (out.length ≤ 20))
  | out, p :: l => if p = [] ∨ p = dot then partsGo out l else if 24 < p.length then ([], false) else partsGo (out ++ [p]) l
def parts (s : Bs) : List Bs × Bool := partsGo [] (pieces s)

/-- path.Split: the parts, and a code. -/
def splitP (p : Bs) : List Bs × Int :=
  if p.head? ≠ some slash ∨ (0 : UInt8) ∈ p then ([], 2)
  else if (parts p).2 = false ∨ 200 < p.length then ([], 11) else ((parts p).1, 0)

def joinL (l : List Bs) : Bs := [slash].intercalate l
/-- path.Join. -/
def joinP (l : List Bs) : Bs := slash :: joinL l

/-- path.Last: what is ahead, the last part, a code. -/
def lastP (p : Bs) : Bs × Bs × Int :=
  if (splitP p).2 ≠ 0 then ([], [], (splitP p).2)
  else match (splitP p).1.getLast? with
    | none => ([], [], 2)
    | some x => if x = dots then ([], [], 2) else (joinP (splitP p).1.dropLast, x, 0)

/-- path.Target: the parts, whether from the root, a code. -/
def targetP (t : Bs) : List Bs × Bool × Int :=
  if t = [] ∨ (0 : UInt8) ∈ t then ([], false, 2)
  else if (parts t).2 = false ∨ 100 < t.length then ([], false, 11) else ((parts t).1, decide (t.head? = some slash), 0)

/- SORTED LISTS OF PAIRS: what a map holds -/
def ltB : Bs → Bs → Bool
  | [], [] => false
  | [], _ :: _ => true
  | _ :: _, [] => false
  | a :: l, b :: m => if a < b then true else if b < a then false else ltB l m

section
variable {κ ν : Type} [DecidableEq κ]
def get (l : List (κ × ν)) (k : κ) : Option ν := (l.find? fun p => decide (p.1 = k)).map (·.2)
def put (lt : κ → κ → Bool) (k : κ) (v : ν) : List (κ × ν) → List (κ × ν)
  | [] => [(k, v)]
  | p :: l => if p.1 = k then (k, v) :: l else if lt k p.1 then (k, v) :: p :: l else p :: put lt k v l
def del (l : List (κ × ν)) (k : κ) : List (κ × ν) := l.filter fun p => !decide (p.1 = k)
end
def ltI (a b : Int) : Bool := decide (a < b)

/- THE STATE -/
structure Nd where
  kind : Int := 0
  data : Bs := []
  written : List Bool := []
  names : List (Bs × Int) := []
  most : Int := 0
  links : Int := 0
  above : Int := 0
  high : Int := 0

structure Sl where
  node : Int := 0
  off : Int := 0
  flags : Int := 0
  opn : Bool := false

structure St where
  nodes : List (Int × Nd)
  last : Int
  fds : Nat → Sl
  past : Int
  went : Int

structure Op where
  kind : Int := 0
  fd : Int := 0
  n : Int := 0
  off : Int := 0
  flags : Int := 0
  path : Bs := []
  to : Bs := []
  data : Bs := []

structure Ans where
  code : Int := 0
  n : Int := 0
  kind : Int := 0
  links : Int := 0
  data : Bs := []
  names : List Bs := []

structure Spot where
  node : Int := 0
  dir : Int := 0
  name : Bs := []

def code (e : Int) : Ans := { code := e }

def St.nd (s : St) (n : Int) : Nd := (get s.nodes n).getD {}
def St.has (s : St) (n : Int) : Bool := (get s.nodes n).isSome
def St.set (s : St) (n : Int) (x : Nd) : St := { s with nodes := put ltI n x s.nodes }
def new : St := ⟨[(1, { kind := 2, links := 1 })], 1, fun _ => {}, 0, 0⟩

/-- above: the directory above a directory. -/
def St.above (s : St) (n : Int) : Int := if (s.nd n).above ≠ 0 then (s.nd n).above else n

/-- walk: from a directory on, part by part. The first number bounds the steps. -/
def St.walk (s : St) (follow : Bool) : Nat → Spot → Nat → List Bs → Spot × Int
  | 0, sp, _, _ => (sp, 0)
  | _ + 1, sp, _, [] => (sp, 0)
  | f + 1, sp, hops, part :: ps =>
    if (s.nd sp.node).kind ≠ 2 then ({}, 7)
    else if part = dots then s.walk follow f { node := s.above sp.node } hops ps
    else match get (s.nd sp.node).names part with
      | none => ({}, 5)
      | some child =>
        if (s.nd child).kind = 3 ∧ (ps ≠ [] ∨ follow = true) then
          if 8 ≤ hops then ({}, 12)
          else s.walk follow f (if (targetP (s.nd child).data).2.1 then { node := 1 } else { node := sp.node }) (hops + 1) ((targetP (s.nd child).data).1 ++ ps)
        else s.walk follow f ⟨child, sp.node, part⟩ hops ps

/-- How many steps a walk takes at most. -/
def fuel (parts : List Bs) (hops : Nat) : Nat := parts.length + 1 + (8 - hops) * 21

def St.find (s : St) (p : Bs) (follow : Bool) : Spot × Int :=
  if (splitP p).2 ≠ 0 then ({}, (splitP p).2) else s.walk follow (fuel (splitP p).1 0) { node := 1 } 0 (splitP p).1

/-- way: the names of a directory, from the root on. The first number bounds the steps. -/
def St.way (s : St) : Nat → Int → List Bs
  | 0, _ => []
  | f + 1, n =>
    if n = 1 ∨ (s.nd n).above = 0 then []
    else s.way f (s.nd n).above ++ (((s.nd (s.nd n).above).names.filter fun p => decide (p.2 = n)).map (·.1)).reverse
/-- How deep a tree is at most. -/
def St.deepest (_ : St) : Nat := 21

def long (parts : List Bs) : Bool := decide (20 < parts.length) || decide (200 < (joinP parts).length)

def St.place (s : St) (p : Bs) : Spot × Int :=
  if (lastP p).2.2 ≠ 0 then ({}, (lastP p).2.2)
  else
    let q := s.find (lastP p).1 true
    if q.2 ≠ 0 then ({}, q.2)
    else if (s.nd q.1.node).kind ≠ 2 then ({}, 7)
    else if long (s.way s.deepest q.1.node ++ [(lastP p).2.1]) then ({}, 11)
    else (⟨(get (s.nd q.1.node).names (lastP p).2.1).getD 0, q.1.node, (lastP p).2.1⟩, 0)

/-- add: an entry is made. -/
def St.add (s : St) (dir : Int) (name : Bs) (n : Int) : St :=
  let d := s.nd dir
  let ns := put ltB name n d.names
  let s1 := s.set dir { d with names := ns, most := max d.most ns.length }
  let x := s1.nd n
  if x.kind = 2 then s1.set n { x with above := dir, links := 1 } else s1.set n { x with links := x.links + 1 }

/- BLOCKS -/
def need (size : Int) : Int := if size < 1 then 0 else if 20736 ≤ size then 162 else (size + 127) / 128
/-- Which of the second blocks a block of a file hangs on. -/
def secondOf (k : Nat) : Nat := (k - 18) / 12

def Nd.fileBlocks (w : List Bool) : Int :=
  let many := (w.filter id).length
  let one := (List.range w.length).any fun k => w.getD k false && decide (6 ≤ k ∧ k < 18)
  let two := (List.range w.length).any fun k => w.getD k false && decide (18 ≤ k ∧ k < 162)
  let second := ((List.range 12).filter fun a => (List.range w.length).any fun k => w.getD k false && decide (18 ≤ k ∧ k < 162) && decide (secondOf k = a)).length
  (many : Int) + second + (if one then 1 else 0) + (if two then 1 else 0)

/-- blocks: how many blocks a node takes. -/
def Nd.blocks (x : Nd) : Int := if x.kind = 2 then (x.most + 3) / 4 else if x.kind = 3 then 1 else Nd.fileBlocks x.written
def Nd.greatest (x : Nd) : Int := max x.high x.blocks

def St.holds (s : St) (n : Int) : Bool := (List.range 16).any fun i => (s.fds i).opn && decide ((s.fds i).node = n)
def St.opens (s : St) : List Nat := (List.range 16).filter fun i => (s.fds i).opn
def St.fdSet (s : St) (i : Nat) (x : Sl) : St := { s with fds := fun j => if j = i then x else s.fds j }

/-- forget: a node that has no name, and is not open, is given up. -/
def St.forget (s : St) (n : Int) : St :=
  if s.has n = true ∧ (s.nd n).links = 0 ∧ n ≠ 1 ∧ s.holds n = false then { s with past := s.past + (s.nd n).greatest, went := s.went + 1, nodes := del s.nodes n } else s

/-- take: an entry is taken away. -/
def St.take (s : St) (dir : Int) (name : Bs) : St :=
  let d := s.nd dir
  let n := (get d.names name).getD 0
  let s1 := s.set dir { d with names := del d.names name }
  let x := s1.nd n
  (if x.kind = 2 then s1.set n { x with links := x.links - 1, above := 0 } else s1.set n { x with links := x.links - 1 }).forget n

/-- make: a node is made, and its entry. -/
def St.make (s : St) (sp : Spot) (kind : Int) (data : Bs) : St :=
  { (s.set (s.last + 1) { kind := kind, data := if kind = 3 then data else [] }) with last := s.last + 1 }.add sp.dir sp.name (s.last + 1)

/-- resize: a file is made shorter, or longer by zeros. -/
def Nd.resize (x : Nd) (size : Nat) : Nd :=
  if size ≤ x.data.length then { x with data := x.data.take size, written := x.written.take (need size).toNat }
  else { x with data := x.data ++ List.replicate (size - x.data.length) 0 }

/-- A bit of some flags. -/
def bit (f : Int) (b : Int) : Bool := decide (f / b % 2 = 1)

def St.fresh (s : St) (p : Bs) : Spot × Int :=
  let q := s.place p
  if q.2 ≠ 0 then ({}, q.2) else if q.1.node ≠ 0 then ({}, 6) else (q.1, 0)

def St.openS (s : St) (o : Op) : Ans × St :=
  let f := o.flags
  if f < 0 ∨ 64 ≤ f ∨ (bit f 4 || bit f 8) = true ∧ bit f 32 = false then (code 2, s)
  else
    let at1 := s.place o.path
    if bit f 1 = true ∧ at1.2 ≠ 0 then (code at1.2, s)
    else if bit f 1 = true ∧ at1.1.node ≠ 0 ∧ bit f 2 = true then (code 6, s)
    else
      let s0 : Spot := if bit f 1 then at1.1 else {}
      let at2 := s.find o.path true
      let look := decide (s0.node ≠ 0) || decide (s0.dir = 0)
      if look = true ∧ at2.2 ≠ 0 then (code at2.2, s)
      else
        let sp := if look then at2.1 else s0
        if sp.node ≠ 0 ∧ (s.nd sp.node).kind = 2 ∧ bit f 32 = true then (code 8, s)
        else if 16 ≤ s.opens.length then (code 14, s)
        else
          let s1 := if sp.node = 0 then s.make sp 1 [] else s
          let n := if sp.node = 0 then s1.last else sp.node
          let s2 := if bit f 4 then s1.set n ((s1.nd n).resize 0) else s1
          match (List.range 16).find? (fun i => !(s2.fds i).opn) with
          | some fd => ({ n := fd }, s2.fdSet fd { node := n, flags := f, opn := true })
          | none => (code 14, s2)

def St.isOpen (s : St) (fd : Int) : Bool := decide (0 ≤ fd) && decide (fd < 16) && (s.fds fd.toNat).opn
/-- file: what is wrong with a descriptor; 0: nothing. -/
def St.fileCode (s : St) (fd : Int) (write : Bool) : Int :=
  if s.isOpen fd = false then 10
  else if write = true ∧ bit (s.fds fd.toNat).flags 32 = false then 10
  else if (s.nd (s.fds fd.toNat).node).kind = 2 then 8 else 0
def St.moveTo (s : St) (fd : Int) (off : Int) : St := s.fdSet fd.toNat { s.fds fd.toNat with off := off }

def St.readS (s : St) (o : Op) : Ans × St :=
  if s.fileCode o.fd false ≠ 0 then (code (s.fileCode o.fd false), s)
  else if o.n < 0 ∨ o.kind = 5 ∧ o.off < 0 then (code 2, s)
  else
    let f := s.fds o.fd.toNat
    let x := s.nd f.node
    let off := if o.kind = 5 then o.off else f.off
    let start := min off.toNat x.data.length
    let data := (x.data.drop start).take o.n.toNat
    ({ data := data }, if o.kind = 3 then s.moveTo o.fd (off + data.length) else s)

/-- What a file is behind a write. -/
def Nd.write (x : Nd) (off : Nat) (b : Bs) : Nd :=
  let y := x.resize (max x.data.length (off + b.length))
  let many := (need ((off + b.length : Nat) : Int)).toNat
  let w0 := y.written ++ List.replicate (many - y.written.length) false
  { y with data := y.data.take off ++ b ++ y.data.drop (off + b.length), written := (List.range w0.length).map fun k => if off / 128 ≤ k ∧ k < many then true else w0.getD k false }

def St.writeS (s : St) (o : Op) : Ans × St :=
  if s.fileCode o.fd true ≠ 0 then (code (s.fileCode o.fd true), s)
  else if o.kind = 6 ∧ o.off < 0 then (code 2, s)
  else
    let f := s.fds o.fd.toNat
    let x := s.nd f.node
    let off := if o.kind = 6 then o.off else if bit f.flags 8 then (x.data.length : Int) else f.off
    if 20736 - min (o.data.length : Int) 20736 < off ∨ 20736 < o.data.length then (code 15, s)
    else if o.data = [] then ({}, s)
    else
      let s1 := s.set f.node (x.write off.toNat o.data)
      ({ n := o.data.length }, if o.kind = 4 then s1.moveTo o.fd (off + o.data.length) else s1)

def St.seekS (s : St) (o : Op) : Ans × St :=
  if s.fileCode o.fd false ≠ 0 then (code (s.fileCode o.fd false), s)
  else
    let f := s.fds o.fd.toNat
    if o.n < 0 ∨ 2 < o.n then (code 2, s)
    else
      let start : Int := if o.n = 1 then f.off else if o.n = 2 then ((s.nd f.node).data.length : Int) else 0
      if o.off < -start ∨ 1099511627776 - start < o.off then (code 2, s)
      else ({ n := start + o.off }, s.moveTo o.fd (start + o.off))

def St.truncS (s : St) (o : Op) : Ans × St :=
  if s.fileCode o.fd true ≠ 0 then (code (s.fileCode o.fd true), s)
  else if o.off < 0 then (code 2, s)
  else if 20736 < o.off then (code 15, s)
  else
    let n := (s.fds o.fd.toNat).node
    ({}, s.set n ((s.nd n).resize o.off.toNat))

def St.removeS (s : St) (o : Op) : Ans × St :=
  let q := s.place o.path
  if q.2 ≠ 0 then (code q.2, s)
  else if q.1.node = 0 then (code 5, s)
  else
    let x := s.nd q.1.node
    if o.kind = 10 ∧ x.kind ≠ 2 then (code 7, s)
    else if o.kind = 10 ∧ x.names ≠ [] then (code 9, s)
    else if o.kind = 11 ∧ x.kind = 2 then (code 8, s)
    else ({}, s.take q.1.dir q.1.name)

def St.linkS (s : St) (o : Op) : Ans × St :=
  let a := s.find o.path false
  if a.2 ≠ 0 then (code a.2, s)
  else if (s.nd a.1.node).kind = 2 then (code 16, s)
  else
    let q := s.fresh o.to
    if q.2 ≠ 0 then (code q.2, s) else ({}, s.add q.1.dir q.1.name a.1.node)

def St.symlinkS (s : St) (o : Op) : Ans × St :=
  if (targetP o.path).2.2 ≠ 0 then (code (targetP o.path).2.2, s)
  else
    let q := s.fresh o.to
    if q.2 ≠ 0 then (code q.2, s) else ({}, s.make q.1 3 o.path)

def St.mkdirS (s : St) (o : Op) : Ans × St :=
  let q := s.fresh o.path
  if q.2 ≠ 0 then (code q.2, s) else ({}, s.make q.1 2 [])

/-- within: does a directory lie within another one, or is it that? -/
def St.within (s : St) : Nat → Int → Int → Bool
  | 0, n, d => decide (n = d)
  | f + 1, n, d => if n = d then true else if (s.nd n).above = 0 then false else s.within f (s.nd n).above d

/-- deep: would a path of a directory, or of what lies in it, be too long at a place? -/
def St.deep (s : St) : Nat → Int → List Bs → Bool
  | 0, _, ps => long ps
  | f + 1, n, ps => long ps || (s.nd n).names.any fun p => s.deep f p.2 (ps ++ [p.1])

def St.renameS (s : St) (o : Op) : Ans × St :=
  if (lastP o.path).2.2 ≠ 0 then (code (lastP o.path).2.2, s)
  else if (lastP o.to).2.2 ≠ 0 then (code (lastP o.to).2.2, s)
  else
    let a := s.place o.path
    if a.2 ≠ 0 then (code a.2, s)
    else if a.1.node = 0 then (code 5, s)
    else
      let b := s.place o.to
      if b.2 ≠ 0 then (code b.2, s)
      else
        let moves := decide ((s.nd a.1.node).kind = 2)
        if moves = true ∧ s.within s.deepest b.1.dir a.1.node = true then (code 2, s)
        else if moves = true ∧ s.deep s.deepest a.1.node (s.way s.deepest b.1.dir ++ [b.1.name]) = true then (code 11, s)
        else if b.1.node = a.1.node then ({}, s)
        else
          let y := s.nd b.1.node
          if b.1.node ≠ 0 ∧ moves = true ∧ y.kind ≠ 2 then (code 7, s)
          else if b.1.node ≠ 0 ∧ moves = true ∧ y.names ≠ [] then (code 9, s)
          else if b.1.node ≠ 0 ∧ moves = false ∧ y.kind = 2 then (code 8, s)
          else
            let s1 := if b.1.node ≠ 0 then s.take b.1.dir b.1.name else s
            let d := s1.nd a.1.dir
            let s2 := s1.set a.1.dir { d with names := del d.names a.1.name }
            let x := s2.nd a.1.node
            let s3 := s2.set a.1.node { x with links := x.links - 1 }
            ({}, s3.add b.1.dir b.1.name a.1.node)

def St.statS (s : St) (o : Op) : Ans × St :=
  let q := s.find o.path (decide (o.kind = 16))
  if q.2 ≠ 0 then (code q.2, s)
  else
    let x := s.nd q.1.node
    ({ kind := x.kind, n := (x.data.length : Int) + x.names.length, links := x.links }, s)

def St.listS (s : St) (o : Op) : Ans × St :=
  let q := s.find o.path (decide (o.kind = 18))
  if q.2 ≠ 0 then (code q.2, s)
  else
    let x := s.nd q.1.node
    if o.kind = 18 ∧ x.kind ≠ 2 then (code 7, s)
    else if o.kind = 18 then ({ names := x.names.map (·.1) }, s)
    else if x.kind ≠ 3 then (code 2, s)
    else ({ data := x.data }, s)

def St.closeS (s : St) (fd : Int) : Ans × St :=
  if s.isOpen fd = false then (code 10, s)
  else ({}, (s.fdSet fd.toNat {}).forget (s.fds fd.toNat).node)

def St.lastsS (s : St) (fd : Int) : Ans × St := if s.isOpen fd = false then (code 10, s) else ({}, s)

/-- do: an operation is done. -/
def St.step (s : St) (o : Op) : Ans × St :=
  if o.kind = 1 then s.openS o
  else if o.kind = 2 then s.closeS o.fd
  else if o.kind = 3 ∨ o.kind = 5 then s.readS o
  else if o.kind = 4 ∨ o.kind = 6 then s.writeS o
  else if o.kind = 7 then s.seekS o
  else if o.kind = 8 then s.truncS o
  else if o.kind = 9 then s.mkdirS o
  else if o.kind = 10 ∨ o.kind = 11 then s.removeS o
  else if o.kind = 12 then s.linkS o
  else if o.kind = 13 then s.symlinkS o
  else if o.kind = 14 ∨ o.kind = 18 then s.listS o
  else if o.kind = 15 then s.renameS o
  else if o.kind = 16 ∨ o.kind = 17 then s.statS o
  else if o.kind = 19 ∨ o.kind = 20 then s.lastsS o.fd
  else if o.kind = 21 then ({}, s)
  else if (o.kind = 22 ∨ o.kind = 23) ∧ 0 ≤ o.n then ({}, s)
  else (code 2, s)

/-- mark: how many blocks each node takes at most is kept. -/
def St.mark (s : St) : St := { s with nodes := s.nodes.map fun p => (p.1, { p.2 with high := p.2.greatest }) }

/-- Do: an operation is done. -/
def St.doS (s : St) (o : Op) : Ans × St :=
  let r := s.mark.step o
  let s2 := if o.kind = 21 then { r.2 with past := 0, went := 0, nodes := r.2.nodes.map fun p => (p.1, { p.2 with high := 0 }) } else r.2
  (r.1, s2.mark)

/-- Need: how many blocks, and how many inodes. -/
def St.needS (s : St) : Int × Int := ((s.nodes.map fun p => p.2.blocks).sum, s.nodes.length)

/-- A file as it is seen. -/
structure Seen where
  path : Bs
  number : Int
  kind : Int
  links : Int
  data : Bs

/-- see: a node, and all that lies below it. The first number bounds the depth. -/
def St.see (s : St) : Nat → Int → Bs → List Seen
  | 0, _, _ => []
  | f + 1, n, p =>
    let x := s.nd n
    ⟨if p = [] then [slash] else p, n, x.kind, x.links, x.data⟩ :: (x.names.flatMap fun c => s.see f c.2 (p ++ slash :: c.1))

/-- Number. -/
def St.number (s : St) (p : Bs) : Int := (s.find p false).1.node

end M
end Go.Proofs.YtpfaccpmgldkeaaGreatDoor

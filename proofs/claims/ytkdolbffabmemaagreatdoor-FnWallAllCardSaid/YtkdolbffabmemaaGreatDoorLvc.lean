/-
 What each operation answers in the machine of values.
-/
import Derived.Test.YtkdolbffabmemaaGreatDoorLvb
namespace Go.Proofs.YtkdolbffabmemaaGreatDoor
open Go.RowKit
set_option linter.unusedSimpArgs false
set_option linter.unusedVariables false
def szT (P : Program) (t : TypeId) : Nat := ((P.info? t).map (·.size)).getD 0
def byT (P : Program) (t : TypeId) : Nat := ((P.info? t).map (·.bytes)).getD 0
def aggT (P : Program) (t : TypeId) : Option Bool := (P.underlying t).map fun | .struct _ | .array _ _ => true | _ => false
def elT (P : Program) (t : TypeId) : Option TypeId := match P.underlying t with | some (.slice e) => some e | _ => none
def arrT (P : Program) (t : TypeId) : Option (Nat × TypeId) := match P.underlying t with | some (.array n e) => some (n, e) | _ => none
def strT (P : Program) (t : TypeId) : Bool := match P.underlying t with | some .string => true | _ => false
def boolT (P : Program) (t : TypeId) : Bool := match P.underlying t with | some .bool => true | _ => false
def intT (P : Program) (t : TypeId) : Option IntKind := match P.underlying t with | some (.int k) => some k | _ => none
def offT (P : Program) (s : TypeId) (f : Nat) : Option (Nat × TypeId) := match P.underlying s with | some (.struct fs) => (fs[f]?).bind fun x => if szT P x.type = 0 then none else some (x.offset, x.type) | _ => none
def ofVal : Value → V
 | .bool b => .bool b
 | .int k n => .int k n
 | .string s => .str s
 | .pointer none => .nilp
 | .slice none 0 0 => .nilsl
 | .nilFunc => .nilfn
 | .agg ⟨cs⟩ => .agg (go cs)
 | .tuple ⟨[]⟩ => .tuple []
 | _ => .undef
where go : List Value → List V
 | [] => []
 | c :: cs => ofVal c :: go cs
def zeroT (P : Program) (t : TypeId) : Option V := ((P.info? t).bind (·.zero)).map ofVal
def evV (t : Nat → V) : Operand → V
 | .tmp i => t i
 | .const v => ofVal v
 | .global _ => .undef
 | .func f => .fn (.func f) [] []
def det (v : V) (M : Mem) : V → Mem → Prop := fun r m => r = v ∧ m = M
def V.thin : V → V
 | .msl .. => .undef
 | .nilsl => .own 0 none 0 []
 | v => v
def V.thinE : V → V
 | .agg cs => .agg (cs.map V.thin)
 | v => v.thin
def V.laid : V → Bool
 | .agg _ | .tuple _ | .own .. => false
 | _ => true
def moves (i : Nat) : Nat → List V → List (Nat × Nat × V)
 | _, [] => []
 | j, c :: cs => match c with
  | .msl .. => (i, j, c) :: moves i (j + 1) cs
  | _ => moves i (j + 1) cs
def movesE : Nat → List V → List (Nat × Nat × V)
 | _, [] => []
 | i, x :: xs => moves i 0 x.cells ++ movesE (i + 1) xs
def putAll (o : Nat) (q : Path) : Mem → List (Nat × Nat × V) → Option Mem
 | M, [] => some M
 | M, (i, j, c) :: l => (M.put o q i j c).bind fun M' => putAll o q M' l
def newO (P : Program) (M : Mem) (d : Nat) (e : TypeId) (g : Nat) (cap : Nat) (xs : List V) : Option Mem :=
 putAll d [] (M.set d (.own e (some g) cap (xs.map V.thinE))) (movesE 0 xs)
def okE (P : Program) (e : TypeId) (xs : List V) : Bool := xs.all fun x => x.cells.length == szT P e && x.cells.all fun c => c.laid && c.one
def setCells (cs : List V) (off : Nat) (news : List V) : List V := cs.take off ++ news ++ cs.drop (off + news.length)
def placesT (P : Program) (t : TypeId) : Option (Nat → Option (Nat × Nat)) :=
 match P.underlying t with
 | some (.struct fs) => (fs.toList.mapM fun f => (P.info? f.type).map fun i => (f.offset, i.size)).map fun l i => l[i]?
 | some (.array _ e) => (P.info? e).map fun ie i => some (i * ie.size, ie.size)
 | _ => none
def V.part : V → Bool
 | .agg _ => true
 | v => v.one
def fillV (place : Nat → Option (Nat × Nat)) (cells : List V) : List (Nat × V) → Option (List V)
 | [] => some cells
 | (i, v) :: rest =>
  match place i with
  | none => none
  | some (off, size) => if v.cells.length = size ∧ off + size ≤ cells.length ∧ v.part = true then fillV place (setCells cells off v.cells) rest else none
def intOp (op : BinOp) (k : IntKind) (a b : Int) : Option V :=
 match op with
 | .add => some (.int k (k.wrap (a + b)))
 | .sub => some (.int k (k.wrap (a - b)))
 | .mul => some (.int k (k.wrap (a * b)))
 | .quo => if b = 0 then none else some (.int k (k.wrap (a.tdiv b)))
 | .rem => if b = 0 then none else some (.int k (a.tmod b))
 | .and => some (.int k (k.wrap (BitVec.ofInt k.bits a &&& BitVec.ofInt k.bits b).toNat))
 | .or => some (.int k (k.wrap (BitVec.ofInt k.bits a ||| BitVec.ofInt k.bits b).toNat))
 | .xor => some (.int k (k.wrap (BitVec.ofInt k.bits a ^^^ BitVec.ofInt k.bits b).toNat))
 | .andNot => some (.int k (k.wrap (BitVec.ofInt k.bits a &&& ~~~ BitVec.ofInt k.bits b).toNat))
 | .eql => some (.bool (a == b))
 | .neq => some (.bool (a != b))
 | .lss => some (.bool (decide (a < b)))
 | .leq => some (.bool (decide (a ≤ b)))
 | .gtr => some (.bool (decide (a > b)))
 | .geq => some (.bool (decide (a ≥ b)))
 | _ => none
def binV (op : BinOp) (x y : V) : Option V :=
 match x, y with
 | .int k a, .int k' b =>
  match op with
  | .shl => if 0 ≤ b then some (.int k (k.wrap (a * 2 ^ (min b.toNat k.bits)))) else none
  | .shr => if 0 ≤ b then some (.int k (a.fdiv (2 ^ (min b.toNat k.bits)))) else none
  | _ => if k = k' then intOp op k a b else none
 | .str a, .str b => match op with
  | .eql => some (.bool (a.toList == b.toList))
  | .neq => some (.bool !(a.toList == b.toList))
  | _ => none
 | _, _ => none
def binE (P : Program) (op : BinOp) (ty : TypeId) (x y : V) : Option V :=
 match x, y with
 | .bool a, .bool b => if boolT P ty then (match op with
  | .eql => some (.bool (a == b))
  | .neq => some (.bool !(a == b))
  | _ => none) else none
 | x, y => binV op x y
def unV (op : UnOp) (x : V) : Option V :=
 match op, x with
 | .not, .bool b => some (.bool !b)
 | .neg, .int k n => some (.int k (k.wrap (0 - n)))
 | _, _ => none
def V.key : V → Option Nat
 | .msl o .. => some o
 | .ptr o .. => some o
 | _ => none
def V.ren (d : Nat) : V → V
 | .msl _ q γ l cap => .msl d q γ l cap
 | .ptr _ q i j g k => .ptr d q i j g k
 | v => v
def V.ren100 (d : Nat) : V → V
 | .msl 100 q γ l cap => .msl d q γ l cap
 | .ptr 100 q i j g k => .ptr d q i j g k
 | v => v
def renArgs : Nat → List V → List V
 | _, [] => []
 | i, v :: vs => v.ren i :: renArgs (i + 1) vs
def footM (M : Mem) (ks : List (Option Nat)) : Mem := fun i => ((ks[i]?).bind id).bind M
def mergeM (M : Mem) (ks : List (Option Nat)) (d : Option Nat) (Mf : Mem) : Mem := fun k =>
 if d = some k ∧ (Mf 100).isSome then Mf 100 else match ks.idxOf? (some k) with | some i => Mf i | none => M k
abbrev Post := V → Mem → Prop
abbrev Table := FuncId → List V → Mem → Option Post
def callV (Φ : Table) (f : FuncId) (args : List V) (dst : Option Nat) (M : Mem) : Option (Prop × Post) :=
 let ks := args.map V.key
 if (ks.filterMap id).Nodup ∧ args.length ≤ 90 then
  (Φ f (renArgs 0 args) (footM M ks)).map fun R => (True, fun r m => ∃ r0 Mf, R r0 Mf ∧ (match dst with | some d => r = r0.ren100 d | none => True) ∧ m = mergeM M ks dst Mf)
 else none
def srcV (M : Mem) : V → Option (Prop × List V × Mem)
 | .sl ys => some (True, ys, M)
 | .nilsl => some (True, [], M)
 | .msl s q γ l _ =>
  match M.getP s q with
  | some (.own _ γ' _ es) => if es.all (fun x => x.cells.all V.flatC) then some (γ' = γ ∧ es.length = l, es, M) else if q = [] then some (γ' = γ ∧ es.length = l, es, M.era s) else none
  | _ => none
 | _ => none
def rowV (d : Nat) (e : TypeId) (M : Mem) : V → Option (Prop × List V × Mem)
 | .nilsl => some (True, [], M)
 | .msl s [] γ l cap =>
  match M s with
  | some (.own e' γ' cap' es) => some (γ' = γ ∧ cap' = cap ∧ es.length = l ∧ (γ' = none ∨ e' = e), es, M.era s)
  | _ => none
 | .msl s q γ l cap =>
  match q.getLast?, M.getP s q with
  | some (i, j), some (.own e' γ' cap' es) => if d ≠ s then some (γ' = γ ∧ cap' = cap ∧ es.length = l ∧ (γ' = none ∨ e' = e), es, (M.setP s q.dropLast i j .undef).era d) else none
  | _, _ => none
 | _ => none
def okY (P : Program) (e : TypeId) (ys : List V) : Prop := ∀ y ∈ ys, y.cells.length = szT P e ∧ ∀ c ∈ y.cells, c.one = true
def lenV (M : Mem) : V → Option Nat
 | .sl es => some es.length
 | .nilsl => some 0
 | .msl _ _ _ l _ => some l
 | .str s => some s.size
 | _ => none
def assignV (d : Option Nat) (v : V) (M : Mem) : Option (Prop × Post) :=
 match d, v with
 | some d, .msl s [] γ l cap => match M s with | some ob => some (True, det (.msl d [] γ l cap) ((M.era s).set d ob)) | none => some (True, det .undef M)
 | some d, .ptr s [] 0 0 g k => match M s with | some ob => some (True, det (.ptr d [] 0 0 g k) ((M.era s).set d ob)) | none => some (True, det .undef M)
 | some d, .nilsl => some (True, det (.msl d [] none 0 0) (M.set d (.own 0 none 0 [])))
 | _, v => some (True, det v M)
def pickV (c a b : V) (M : Mem) : Option (Prop × Post) := match c with | .bool x => some (True, det (if x then a else b) M) | _ => none
def allocV (P : Program) (d : Option Nat) (e : TypeId) (M : Mem) : Option (Prop × Post) :=
 match d, zeroT P e with
 | some d, some z => if okE P e [z] && (newO P M d e 0 1 [z]).isSome then some (True, fun r m => ∃ g, r = .ptr d [] 0 0 g (szT P e) ∧ newO P M d e g 1 [z] = some m) else none
 | _, _ => none
def boxV (P : Program) (d : Option Nat) (e : TypeId) (v : V) (M : Mem) : Option (Prop × Post) :=
 match d with
 | some d => if okE P e [v] && (newO P M d e 0 1 [v]).isSome then some (True, fun r m => ∃ g, r = .ptr d [] 0 0 g (szT P e) ∧ newO P M d e g 1 [v] = some m) else none
 | _ => none
def buildV (P : Program) (ty : TypeId) (ps : List (Nat × V)) (M : Mem) : Option (Prop × Post) :=
 match zeroT P ty, placesT P ty with
 | some (.agg z), some pl => (fillV pl z ps).map fun cs => (True, det (.agg cs) M)
 | _, _ => none
def setL (ps : List (Nat × V)) (l : List V) : List V := ps.foldl (fun (l : List V) p => l.set p.1 p.2) l
def buildSliceV (P : Program) (d : Option Nat) (ty : TypeId) (n : Nat) (ps : List (Nat × V)) (M : Mem) : Option (Prop × Post) :=
 match d, elT P ty with
 | some d, some e =>
  match zeroT P e with
  | some z =>
   if okE P e (setL ps (List.replicate n z)) && okE P e (ps.map fun p => p.2) && ps.all (fun p => p.1 < n) && decide (n * szT P e ≤ 2 ^ 24) && decide (0 < szT P e) && decide (z.cells.length = szT P e) && (decide (n = 0) || z.cells.all fun c => c.laid && c.one) &&
     (newO P M d e 0 n (setL ps (List.replicate n z))).isSome then
    some (True, fun r m => ∃ g, r = .msl d [] (some g) n n ∧ newO P M d e g n (setL ps (List.replicate n z)) = some m) else none
  | none => none
 | _, _ => none
def loadV (P : Program) (ty : TypeId) (v : V) (M : Mem) : Option (Prop × Post) :=
  match v, aggT P ty with
  | .ptr s q i j g k, some ag =>
    match M.getP s q with
    | some (.own e (some g') cap es) =>
      match es[i]? with
      | some x => if ag then
            (if (x.cells.drop j).take (szT P ty) |>.all fun c => !c.isOwn then some (g' = g ∧ k = szT P e ∧ j + szT P ty ≤ x.cells.length, det (.agg ((x.cells.drop j).take (szT P ty))) M) else none)
          else match x.cells[j]? with
            | some (.own _ γ cap' es') => some (g' = g ∧ k = szT P e, det (.msl s (q ++ [(i, j)]) γ es'.length cap') M)
            | some c => some (g' = g ∧ k = szT P e, det c M)
            | none => none
      | none => none
    | _ => none
  | .eptr cs, some ag => if ag then some (szT P ty ≤ cs.length, det (.agg (cs.take (szT P ty))) M) else match cs[0]? with
      | some c => some (True, det c M)
      | none => none
  | _, _ => none
def storeV (P : Program) (ty : TypeId) (v x : V) (M : Mem) : Option (Prop × Post) :=
 match v with
 | .ptr s q i j g k =>
  match M.getP s q with
  | some (.own e (some g') cap es) =>
   match putAll s q M (x.cells.mapIdx fun l c => (i, j + l, c)) with
   | some M' => some (g' = g ∧ k = szT P e ∧ x.cells.length = szT P ty ∧ (x.cells.all fun c => c.laid && c.one) = true ∧ 0 < szT P ty ∧ ∀ l, l < szT P ty → ((V.own e (some g') cap es).cellAt i (j + l)).isSome, det (.tuple []) M')
   | none => none
  | _ => none
 | _ => none
def nilCheckV (v : V) (M : Mem) : Option (Prop × Post) :=
 match v with
 | .ptr s q i j g k => some (True, det (.ptr s q i j g k) M)
 | .eptr cs => some (True, det (.eptr cs) M)
 | _ => none
def fieldAddrV (P : Program) (s : TypeId) (v : V) (f : Nat) (M : Mem) : Option (Prop × Post) :=
 match v, offT P s f with
 | .ptr o' q i j g k, some (off, _) => some (True, det (.ptr o' q i (j + off) g k) M)
 | .eptr cs, some (off, _) => some (True, det (.eptr (cs.drop off)) M)
 | _, _ => none
def fieldV (P : Program) (ty : TypeId) (v : V) (f : Nat) (M : Mem) : Option (Prop × Post) :=
 match v, offT P ty f with
 | .agg cs, some (off, ft) => match aggT P ft with
  | some true => some (off + szT P ft ≤ cs.length, det (.agg ((cs.drop off).take (szT P ft))) M)
  | some false => match cs[off]? with | some c => some (True, det c M) | none => none
  | none => none
 | _, _ => none
def indexAddrV (P : Program) (ty : TypeId) (v ix : V) (M : Mem) : Option (Prop × Post) :=
 match ix with
 | .int k n => match v, elT P ty, arrT P ty with
  | .sl es, some e, _ => some (0 ≤ n ∧ n < es.length ∧ (es[n.toNat]?.getD .undef).cells.length = szT P e ∧ 0 < szT P e, det (.eptr ((es[n.toNat]?.getD .undef).cells)) M)
  | .msl s q (some g) l cap, some e, _ => some (0 ≤ n ∧ n < l ∧ 0 < szT P e, det (.ptr s q n.toNat 0 g (szT P e)) M)
  | .ptr s q i j g kk, _, some (len, e) => some (0 ≤ n ∧ n < len ∧ 0 < szT P e, det (.ptr s q i (j + n.toNat * szT P e) g kk) M)
  | .eptr cs, _, some (len, e) => some (0 ≤ n ∧ n < len ∧ 0 < szT P e, det (.eptr (cs.drop (n.toNat * szT P e))) M)
  | _, _, _ => none
 | _ => none
def ixB (P : Program) (len : Nat) (e : TypeId) (n : Int) (cs : List V) (M : Mem) : Option Bool → Option (Prop × Post)
 | some true => some (0 ≤ n ∧ n < len ∧ n.toNat * szT P e + szT P e ≤ cs.length ∧ 0 < szT P e, det (.agg ((cs.drop (n.toNat * szT P e)).take (szT P e))) M)
 | some false => some (0 ≤ n ∧ n < len ∧ n.toNat * szT P e < cs.length ∧ 0 < szT P e, det (cs[n.toNat * szT P e]?.getD .undef) M)
 | none => none
def indexV (P : Program) (ty : TypeId) (v ix : V) (M : Mem) : Option (Prop × Post) :=
 match v, ix, strT P ty, arrT P ty with
 | .str s, .int k n, true, _ => some (0 ≤ n ∧ n < s.size, det (.int .u8 ((s[n.toNat]?.getD 0).toNat)) M)
 | .agg cs, .int k n, _, some (len, e) => ixB P len e n cs M (aggT P e)
 | _, _, _, _ => none
def sliceV (P : Program) (ty : TypeId) (v : V) (lo hi : Option V) (M : Mem) : Option (Prop × Post) :=
 match v with
 | .sl es => match lo.getD (.int .i64 0), hi.getD (.int .i64 es.length), elT P ty with
  | .int _ l, .int _ h, some e => some (0 ≤ l ∧ l ≤ h ∧ h ≤ es.length ∧ (∀ x ∈ es, x.cells.length = szT P e) ∧ 0 < szT P e, det (.sl ((es.take h.toNat).drop l.toNat)) M)
  | _, _, _ => none
 | _ => none
def makeSliceV (P : Program) (d : Option Nat) (ty : TypeId) (len cap : V) (M : Mem) : Option (Prop × Post) :=
 match d, elT P ty, len, cap with
 | some d, some e, .int _ n, .int _ c => match zeroT P e with
  | some z => if okE P e [z] && (movesE 0 [z]).isEmpty then some (n = c ∧ 0 ≤ n ∧ n * byT P e ≤ 140737488355328 ∧ 0 < szT P e ∧ 0 < byT P e, fun r m => ∃ g, r = .msl d [] (some g) n.toNat n.toNat ∧ m = M.set d (.own e (some g) n.toNat (List.replicate n.toNat z.thinE))) else none
  | none => none
 | _, _, _, _ => none
def extractV (v : V) (i : Nat) (M : Mem) : Option (Prop × Post) :=
 match v with
 | .tuple vs => match vs[i]? with | some v => some (True, det v M) | none => none
 | _ => none
def detO (M : Mem) : Option V → Option (Prop × Post)
 | some v => some (True, det v M)
 | none => none
def convertV (P : Program) (s d : TypeId) (v : V) (M : Mem) : Option (Prop × Post) :=
 match v, intT P d, intT P s with
 | .int _ n, some k, some _ => some (True, det (.int k (k.wrap n)) M)
 | _, _, _ => none
def lenOpV (P : Program) (ty : TypeId) (v : V) (M : Mem) : Option (Prop × Post) :=
 match v, elT P ty, strT P ty with
 | .str s, _, true => some (True, det (.int .i64 s.size) M)
 | .str _, _, false => none
 | v, some _, _ => (lenV M v).map fun (n : Nat) => (True, det (.int .i64 n) M)
 | _, _, _ => none
def AppR (d : Nat) (e : TypeId) (es ys : List V) (M2 : Mem) : Post :=
 fun r m => ∃ γ' cap', (γ' = none → es ++ ys = []) ∧ r = .msl d [] γ' (es.length + ys.length) cap' ∧ m = M2.set d (.own e γ' cap' (es ++ ys))
def appendV (P : Program) (d : Option Nat) (ty tx : TypeId) (s x : V) (M : Mem) : Option (Prop × Post) :=
 match d, elT P ty with
 | some d, some e => if ty = tx ∧ 0 < szT P e ∧ (zeroT P e).any (fun z => z.cells.length == szT P e) then
   match rowV d e M s with
   | some (c1, es, M1) => match srcV M1 x with
    | some (c2, ys, M2) => some (c1 ∧ c2 ∧ (es.length + ys.length) * byT P e ≤ 140737488355328 ∧ 0 < byT P e ∧ okY P e ys, AppR d e es ys M2)
    | none => none
   | none => none
  else none
 | _, _ => none
def maxV (hi : Bool) : V → V → Option V
 | .int k n, .int _ m => some (.int k (if hi then (if m > n then m else n) else (if m < n then m else n)))
 | _, _ => none
def callOpV (Φ : Table) (f : V) (args : List V) (d : Option Nat) (M : Mem) : Option (Prop × Post) :=
 match f with
 | .fn (.func f) first cap => callV Φ f (first ++ args ++ cap) d M
 | _ => none
def callBV (Φ : Table) (P : Program) (c : Call) (d : Option Nat) (t : Nat → V) (M : Mem) : Option (Prop × Post) :=
 match c.callee with
 | .builtin .len => match c.args.toList, c.argTypes.toList with
  | [x], [ty] => lenOpV P ty (evV t x) M
  | _, _ => none
 | .builtin .append => match c.args.toList, c.argTypes.toList with
  | [s, x], [ty, tx] => appendV P d ty tx (evV t s) (evV t x) M
  | _, _ => none
 | .value f => callOpV Φ (evV t f) (c.args.toList.map (evV t)) d M
 | .builtin .max => match c.args.toList with
  | [x, y] => detO M (maxV true (evV t x) (evV t y))
  | _ => none
 | .builtin .min => match c.args.toList with
  | [x, y] => detO M (maxV false (evV t x) (evV t y))
  | _ => none
 | _ => none
def opV (Φ : Table) (P : Program) (o : Oper) (t : Nat → V) (M : Mem) : Option (Prop × Post) :=
 match o.op with
 | .move x => some (True, det (evV t x) M)
 | .assign x => assignV o.dst (evV t x) M
 | .pick c a b => pickV (evV t c) (evV t a) (evV t b) M
 | .alloc e => allocV P o.dst e M
 | .box e x => boxV P o.dst e (evV t x) M
 | .build ty parts => buildV P ty (parts.toList.map fun p => (p.1, evV t p.2)) M
 | .buildSlice ty n parts => buildSliceV P o.dst ty n (parts.toList.map fun p => (p.1, evV t p.2)) M
 | .load ty a => loadV P ty (evV t a) M
 | .store ty a x => storeV P ty (evV t a) (evV t x) M
 | .nilCheck x => nilCheckV (evV t x) M
 | .fieldAddr s x f => fieldAddrV P s (evV t x) f M
 | .field ty x f => fieldV P ty (evV t x) f M
 | .indexAddr ty x ix => indexAddrV P ty (evV t x) (evV t ix) M
 | .index ty x ix => indexV P ty (evV t x) (evV t ix) M
 | .slice ty x lo hi none => sliceV P ty (evV t x) (lo.map (evV t)) (hi.map (evV t)) M
 | .makeSlice ty len cap => makeSliceV P o.dst ty (evV t len) (evV t cap) M
 | .makeFunc f first cap => some (True, det (.fn f (first.toList.map (evV t)) (cap.toList.map (evV t))) M)
 | .extract x i => extractV (evV t x) i M
 | .binOp op ty x y _ => detO M (binE P op ty (evV t x) (evV t y))
 | .unOp op _ x => detO M (unV op (evV t x))
 | .convert s d x => convertV P s d (evV t x) M
 | .call c => callBV Φ P c o.dst t M
 | _ => none
end Go.Proofs.YtkdolbffabmemaaGreatDoor

/- The interpreter: one operation, regions, code, calls. -/
import Derived.Test.YtkgghgigjeihjaaGreatS10
namespace Go.Proofs.YtkgghgigjeihjaaGreat.Sim
set_option linter.unusedVariables false
set_option linter.unusedSimpArgs false

def okFn : Fn → Bool
  | .func _ => true
  | _ => false
/-- A slice held against nil. -/
def isNil : AV → Option Bool
  | .nils => some true
  | .nnl _ _ _ => some false
  | .slc _ _ _ _ _ => some false
  | .lst _ n _ => if n = 0 then none else some false
  | _ => none
def nilA (Γ : Ctx) (op : BinOp) (T : Nat) (u : AV) (y : Operand) : Option AV :=
  match y with
  | .const (.slice none 0 0) => match Γ.ty T with
    | some i => match i.desc, op with
      | .slice _, .eql => (isNil u).map .bool
      | .slice _, .neq => (isNil u).map fun b => .bool !b
      | _, _ => none
    | none => none
  | _ => none
/-- An operation that calls no function. -/
def ev1 (Γ : Ctx) (t : List AV) (op : Op) (H : AH) : Option (AV × AH) :=
  match op with
  | .move x => (opv t x).map fun v => (v, H)
  | .assign x => (opv t x).map fun v => (v, H)
  | .pick c a b => match opv t c, opv t a, opv t b with
    | some (.bool q), some u, some v => some (if q then u else v, H)
    | _, _, _ => none
  | .alloc e => match Γ.ty e with
    | some i => some (.ptr (some (H.nxt, 0)), H.new (.cells i.zero.cells))
    | none => none
  | .box e x => match opv t x with
    | some v => some (.ptr (some (H.nxt, 0)), H.new (.cells v.cells))
    | none => none
  | .build T ps => match optParts t ps.toList with
    | some l => (buildA Γ T l).map fun v => (v, H)
    | none => none
  | .buildSlice T n ps => match optParts t ps.toList with
    | some l => (buildSliceA Γ T n l H.nxt).map fun (v, B) => (v, H.new B)
    | none => none
  | .load T a => match opv t a with
    | some p => (ldAt Γ T p H).map fun v => (v, H)
    | none => none
  | .store T a x => match opv t a, opv t x with
    | some p, some v => (stAt Γ T p v H).map fun H' => (.tup [], H')
    | _, _ => none
  | .nilCheck x => match opv t x with
    | some (.ptr (some a)) => some (.ptr (some a), H)
    | some (.cptr l) => some (.cptr l, H)
    | some (.fn g a b) => if okFn g then some (.fn g a b, H) else none
    | _ => none
  | .binOp op T x y _ => match opv t x, opv t y with
    | some u, some v => match nilA Γ op T u y with
      | some r => some (r, H)
      | none => (binA Γ op T u v).map fun r => (r, H)
    | _, _ => none
  | .unOp op _ x => match opv t x with
    | some u => (unA op u).map fun r => (r, H)
    | none => none
  | .convert src dst x => match opv t x with
    | some u => convA Γ src dst u.sl H
    | none => none
  | .makeFunc g a b => match opvs t a.toList, opvs t b.toList with
    | some l, some m => some (.fn g l m, H)
    | _, _ => none
  | .makeMap T r => match opo t r with
    | some none => some (.map (some H.nxt), H.new (.map []))
    | _ => none
  | .makeSlice T x y => match opv t x, opv t y with
    | some u, some v => makeSliceA Γ T u v H
    | _, _ => none
  | .slice T x lo hi mx => match opv t x, opo t lo, opo t hi, opo t mx with
    | some u, some a, some b, some c => (sliceA Γ T u.sl a b c).map fun r => (r, H)
    | _, _, _, _ => none
  | .fieldAddr T x k => match opv t x with
    | some u => (fieldAddrA Γ T u k).map fun r => (r, H)
    | none => none
  | .field T x k => match opv t x with
    | some u => (fieldA Γ T u k).map fun r => (r, H)
    | none => none
  | .indexAddr T x y => match opv t x, opv t y with
    | some u, some v => (indexAddrA Γ T u.sl v).map fun r => (r, H)
    | _, _ => none
  | .index T x y => match opv t x, opv t y with
    | some u, some v => (indexA Γ T u v).map fun r => (r, H)
    | _, _ => none
  | .lookup T x y ok => match opv t x, opv t y with
    | some u, some v => (lookupA Γ T u v ok H).map fun r => (r, H)
    | _, _ => none
  | .mapUpdate T m k x => match opv t m, opv t k, opv t x with
    | some a, some b, some c => (mapPutA Γ T a b c H).map fun H' => (.tup [], H')
    | _, _, _ => none
  | .insert T m k x => match opv t m, opv t k, opv t x with
    | some a, some b, some c => (mapPutA Γ T a b c H).map fun H' => (.tup [], H')
    | _, _, _ => none
  | .range T x => match opv t x with
    | some u => rangeA Γ T u H
    | none => none
  | .next x is => match opv t x with
    | some u => nextA u is H
    | none => none
  | .extract x k => match opv t x with
    | some u => (extractA u k).map fun r => (r, H)
    | none => none
  | .call ⟨.builtin b, args, ats⟩ => match opvs t args.toList with
    | some l => match b, l with
      | .append, [x, y] => appendA Γ ats.toList x.sl y.sl H
      | .copy, [x, y] => if (ats[1]?).isSome = true then copyA Γ ats.toList x.sl y.sl H else none
      | .len, [x] => match ats[0]? with
        | some T => (lenA Γ T x.sl H).map fun r => (r, H)
        | none => none
      | .min, l => (minmaxA false l).map fun r => (r, H)
      | .max, l => (minmaxA true l).map fun r => (r, H)
      | .delete, [x, k] => (deleteA Γ ats.toList x k H).map fun H' => (.tup [], H')
      | _, _ => none
    | none => none
  | _ => none

abbrev CallF := Nat → List AV → AH → Option (AV × AH)
/-- The function that a value calls, and the arguments that it gets. -/
def calleeA (v : AV) (args : List AV) : Option (Nat × List AV) :=
  match v with
  | .fn (.func f) a b => some (f, a ++ args ++ b)
  | _ => none
def evOp (Γ : Ctx) (call : CallF) (t : List AV) (o : Oper) (H : AH) : Option (AV × AH) :=
  match o.op with
  | .call ⟨.value f, args, _⟩ => match opv t f, opvs t args.toList with
    | some g, some l => match calleeA g l with
      | some (k, l') => call k l' H
      | none => none
    | _, _ => none
  | op => ev1 Γ t op H

def putA (t : List AV) (dst : Option Nat) (v : AV) : List AV :=
  match dst with
  | some d => t.set d v
  | none => t
def wantedA (ops : Array Oper) (t : List AV) (o : Oper) : Bool :=
  match o.guard with
  | none => true
  | some (j, want) => match (ops[j]?).bind (·.dst) with
    | some d => match t[d]? with
      | some (.bool b) => b == want
      | _ => false
    | none => false

/-- Numbers of blocks that a quiet call uses for itself begin so far behind. -/
def Zb : Nat := 1099511627776
def notDefer : Op → Bool
  | .defer _ => false
  | _ => true
def noDefer : Code → Bool
  | .region _ ops _ => ops.toList.all fun o => notDefer o.op
  | .seq a b => noDefer a && noDefer b
  | .cond _ a b => noDefer a && noDefer b
  | .block _ b => noDefer b
  | .loop b => noDefer b
  | .scope b => noDefer b
  | _ => true
/-- Temporaries, the deferred calls, the memory. -/
structure ASt where
  t : List AV
  d : List (AV × List AV)
  H : AH

/-- A deferred call: the function's value, and its arguments. -/
def evDefer (t : List AV) (op : Op) : Option (AV × List AV) :=
  match op with
  | .defer ⟨.value f, args, _⟩ => match opv t f, opvs t args.toList with
    | some (.fn g a b), some l => some (.fn g a b, l)
    | _, _ => none
  | _ => none

def evOps (Γ : Ctx) (call : CallF) (ops : Array Oper) : List Oper → ASt → Option ASt
  | [], st => some st
  | o :: r, st =>
    if wantedA ops st.t o then
      match evDefer st.t o.op with
      | some g => evOps Γ call ops r { st with t := putA st.t o.dst (.tup []), d := g :: st.d }
      | none => match evOp Γ call st.t o st.H with
        | some (v, H') => evOps Γ call ops r { st with t := putA st.t o.dst v, H := H' }
        | none => none
    else evOps Γ call ops r { st with t := putA st.t o.dst (.tup []) }

/- A region that draws its order. -/

/-- An operation that neither looks at memory nor changes it. -/
def freeOp : Op → Bool
  | .move _ | .assign _ | .pick .. | .build .. | .nilCheck _ | .binOp .. | .unOp .. | .makeFunc .. | .slice .. | .fieldAddr .. | .field .. | .indexAddr .. | .index .. | .extract .. => true
  | .call ⟨.builtin .min, _, _⟩ | .call ⟨.builtin .max, _, _⟩ => true
  | _ => false
/-- Of each operation those that surely come before it, as bits. -/
def ancs (ops : List Oper) : List Nat → List Nat :=
  match ops with
  | [] => fun acc => acc
  | o :: r => fun acc => ancs r (acc ++ [o.after.toList.foldl (fun m e => if Region.binds .any e then m ||| 2 ^ e.on ||| acc.getD e.on 0 else m) 0])
def before? (an : List Nat) (i j : Nat) : Bool := (an.getD i 0).testBit j
def ordered (an : List Nat) (i j : Nat) : Bool := if i < j then before? an j i else before? an i j
/-- Two operations that are not ordered may touch no temporary that the other one writes. -/
def drawOk (ops : List Oper) (an : List Nat) : Bool :=
  ((List.range ops.length).all fun j => match ops[j]? with
    | some o => o.after.toList.all fun e => !Region.binds .any e || Nat.blt e.on j
    | none => true) &&
  (List.range ops.length).all fun j => (List.range j).all fun i =>
    before? an j i || match ops[i]?, ops[j]? with
      | some x, some y => x.apart ops.toArray y
      | _, _ => false
/-- An operation on memory that is ordered with all others. -/
def barrier (ops : List Oper) (an : List Nat) (i : Nat) : Bool :=
  (List.range ops.length).all fun j => j == i || ordered an i j || match ops[j]? with
    | some o => freeOp o.op
    | none => false

structure Dlt where
  j : Nat
  lo : Nat
  hi : Nat
  bl : Nat → Option ABlk
def visB (p : Nat → Bool) (base : Nat → Option ABlk) : List Dlt → Nat → Option ABlk
  | [], k => base k
  | d :: r, k => bif Nat.ble d.lo k && Nat.blt k d.hi then (bif p d.j then d.bl k else none) else visB p base r k

structure DSt where
  t : List AV
  c : Nat
  base : Nat → Option ABlk
  ds : List Dlt

def evDrawOp (Γ : Ctx) (call : CallF) (ops : List Oper) (an : List Nat) (fl : Nat) (i : Nat) (o : Oper) (st : DSt) : Option DSt :=
  if wantedA ops.toArray st.t o then
    if freeOp o.op then
      match ev1 Γ st.t o.op ⟨st.c, st.c, fun _ => none⟩ with
      | some (v, H') => if H'.nxt = st.c then some { st with t := putA st.t o.dst v } else none
      | none => none
    else if barrier ops an i then
      match evOp Γ call st.t o ⟨st.c, fl, visB (fun _ => true) st.base st.ds⟩ with
      | some (v, H') => some ⟨putA st.t o.dst v, H'.nxt, H'.bl, []⟩
      | none => none
    else
      match evOp Γ call st.t o ⟨st.c, st.c, visB (before? an i) st.base st.ds⟩ with
      | some (v, H') => if H'.nxt = st.c then some { st with t := putA st.t o.dst v } else some ⟨putA st.t o.dst v, H'.nxt, st.base, ⟨i, st.c, H'.nxt, H'.bl⟩ :: st.ds⟩
      | none => none
  else some { st with t := putA st.t o.dst (.tup []) }
def evDrawOps (Γ : Ctx) (call : CallF) (ops : List Oper) (an : List Nat) (fl : Nat) : List Oper → Nat → DSt → Option DSt
  | [], _, st => some st
  | o :: r, i, st => match evDrawOp Γ call ops an fl i o st with
    | some st' => evDrawOps Γ call ops an fl r (i + 1) st'
    | none => none
def evDraw (Γ : Ctx) (call : CallF) (ops : Array Oper) (st : ASt) : Option ASt :=
  let l := ops.toList
  let an := ancs l []
  if drawOk l an then
    match evDrawOps Γ call l an st.H.floor l 0 ⟨st.t, st.H.nxt, st.H.bl, []⟩ with
    | some r => if r.c ≤ st.H.nxt + Zb then some ⟨r.t, st.d, ⟨r.c, st.H.floor, visB (fun _ => true) r.base r.ds⟩⟩ else none
    | none => none
  else none

inductive AX where
  | normal
  | exit (id : Nat)
  | ret
def evC (Γ : Ctx) (call : CallF) : Nat → Code → ASt → Option (AX × ASt)
  | 0, _, _ => none
  | n + 1, c, st => match c with
    | .skip => some (.normal, st)
    | .label _ => some (.normal, st)
    | .ret => some (.ret, st)
    | .exit id => some (.exit id, st)
    | .region _ ops false => (evOps Γ call ops ops.toList st).map fun s => (.normal, s)
    | .region _ ops true => (evDraw Γ call ops st).map fun s => (.normal, s)
    | .seq a b => match evC Γ call n a st with
      | some (.normal, s) => evC Γ call n b s
      | r => r
    | .cond x a b => match opv st.t x with
      | some (.bool true) => evC Γ call n a st
      | some (.bool false) => evC Γ call n b st
      | _ => none
    | .block id b => match evC Γ call n b st with
      | some (.exit k, s) => some (if k = id then .normal else .exit k, s)
      | r => r
    | .loop b => match evC Γ call n b st with
      | some (.normal, s) => evC Γ call n (.loop b) s
      | r => r
    | .scope b => evC Γ call n b st
    | _ => none

/-- A result: slices of blocks made since then are told by their cells; nothing else of these blocks may be in it. -/
def frzC (n0 : Nat) (bl : Nat → Option ABlk) : Nat → AV → Option AV
  | _, .bool b => some (.bool b)
  | _, .int k n => some (.int k n)
  | _, .str s => some (.str s)
  | _, .ptr none => some (.ptr none)
  | _, .map none => some (.map none)
  | _, .nilFn => some .nilFn
  | _, .lst l n e => some (.lst l n e)
  | _, .nils => some .nils
  | _, .fn g [] [] => some (.fn g [] [])
  | n + 1, .slc id off len es cap => match bl id with
    | some (.cells vs) => if n0 ≤ id ∧ off + len * es ≤ vs.length then (frzL (frzC n0 bl n) ((vs.drop off).take (len * es))).map fun l => .lst l len (cap == some len) else none
    | _ => none
  | _, _ => none
where
  frzL (f : AV → Option AV) : List AV → Option (List AV)
    | [] => some []
    | x :: r => match f x, frzL f r with
      | some y, some l => some (y :: l)
      | _, _ => none
def frz (n0 : Nat) (bl : Nat → Option ABlk) : Nat → AV → Option AV
  | _, .bool b => some (.bool b)
  | _, .int k n => some (.int k n)
  | _, .str s => some (.str s)
  | _, .ptr none => some (.ptr none)
  | _, .ptr (some (id, off)) => if id < n0 then some (.ptr (some (id, off))) else none
  | _, .cptr l => some (.cptr l)
  | _, .map none => some (.map none)
  | _, .map (some id) => if id < n0 then some (.map (some id)) else none
  | _, .nilFn => some .nilFn
  | _, .lst l n e => some (.lst l n e)
  | _, .nils => some .nils
  | n + 1, .slc id off len es cap => if id < n0 then some (.slc id off len es cap) else frzC n0 bl (n + 1) (.slc id off len es cap)
  | n + 1, .fn g a b => match frzC.frzL (frz n0 bl n) a, frzC.frzL (frz n0 bl n) b with
    | some a', some b' => some (.fn g a' b')
    | _, _ => none
  | n + 1, .agg l => (frzC.frzL (frz n0 bl n) l).map .agg
  | n + 1, .tup l => (frzC.frzL (frz n0 bl n) l).map .tup
  | _, _ => none

def resA (Γ : Ctx) (t : List AV) (H : AH) : List ResultVar → Option (List AV)
  | [] => some []
  | .tmp k :: r => (resA Γ t H r).map fun l => t.getD k (.tup []) :: l
  | .cell a T :: r => match ldAt Γ T (t.getD a (.tup [])) H, resA Γ t H r with
    | some v, some l => some (v :: l)
    | _, _ => none
/-- The deferred calls, the last one first. -/
def evDefers (Γ : Ctx) (call : CallF) : List (AV × List AV) → AH → Option AH
  | [], H => some H
  | (g, l) :: r, H => match calleeA g l with
    | some (k, l') => if (Γ.prim k).isSome || !((Γ.fn k).any fun F => F.body.any noDefer) then none else match call k l' H with
      | some (_, H') => evDefers Γ call r H'
      | none => none
    | none => none
def evBody (Γ : Ctx) (call : CallF) (n : Nat) (F : Func) (args : List AV) (H : AH) : Option (AV × AH) :=
  match F.body with
  | none => none
  | some c => match evC Γ call n c ⟨args ++ List.replicate (F.ntmps - args.length) (.tup []), [], H⟩ with
    | some (.exit _, _) => none
    | some (_, st) => match evDefers Γ call st.d st.H with
      | some H' => match resA Γ st.t H' F.results.toList with
        | some [v] => some (v, H')
        | some l => some (.tup l, H')
        | none => none
      | none => none
    | none => none
/-- A call, with so many steps at most. -/
def evF (Γ : Ctx) : Nat → CallF
  | 0, _, _, _ => none
  | n + 1, f, args, H => match Γ.prim f with
    | some p => p args H
    | none => match Γ.fn f with
      | none => none
      | some F =>
        if Γ.quiet f then
          match evBody Γ (evF Γ n) n F args ⟨H.nxt + Zb, H.nxt + Zb, H.bl⟩ with
          | some (v, H') => (frz (H.nxt + Zb) H'.bl 8 v).map fun r => (r, H)
          | none => none
        else evBody Γ (evF Γ n) n F args H
end Go.Proofs.YtkgghgigjeihjaaGreat.Sim

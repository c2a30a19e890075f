/- Parts of the proof, one behind the other. -/
import GoSem.Claims
import GoSem.Dispatch
import Derived.Lib.Bytealg
import Derived.RowKit3
import Derived.Laws.StructEq
import Derived.Below
import Derived.WalkKit
import Derived.Laws.BytesString
set_option linter.all false
namespace Go.FI
inductive FV where
 |undef
 |bool (b:Bool)
 |int (k:IntKind) (n:Int)
 |str (s:List UInt8)
 |agg (cs:List FV)
 |tup (vs:List FV)
 |lst (ex:Bool) (xs:List FV)
 |eptr (cs:List FV) (off:Nat)
 |ptr (id stamp i off:Nat)
 |nilp
 |sref (es id stamp off len:Nat)
 |map (id:Nat)
 |nilm
 |fn (f:Nat) (caps:List FV)
 |nilf
 |ifc (t:Nat) (v:FV)
 |nili
 |pan (v:FV)                                   -- no value: a panic
 |yl (f id:Nat) (caps:List FV)              -- a loop's 'yield': the round's number,the loop's object,what the round's code captures
 deriving Inhabited
def FV.cells:FV→List FV
 |.agg cs=>cs
 |v=>[v]
def FV.one:FV→Bool
 |.undef | .agg _ | .tup _ | .pan _=>false
 |_=>true
def isPan:FV→Bool
 |.pan _=>true
 |_=>false
def FV.ok:FV→Bool
 |.agg cs=>cs.all FV.one
 |v=>v.one
inductive Obj where
 |row (es:Nat) (xs:List FV)
 |mp (en:List (FV × FV))
 |fro (es:Nat) (xs:List FV)                  -- a row that nobody writes any more
 |fmp (en:List (FV × FV))                      -- a map that nobody writes any more
 |sit (s:List UInt8) (pos:Nat)               -- a walk through a string
 |mit                                            -- a walk through a map
 |lp (st jp:Nat)                               -- a loop over a function: 0 ready,1 busy,2 done,3 at its end;the jump that is pending: 0 none,1 a return,n + 2 an exit
 deriving Inhabited
abbrev Heap:=List (Nat × Obj)
abbrev Tm:=List (Nat × FV)
inductive X where
 |t (n:Nat)
 |c (v:FV)
 deriving Inhabited
inductive O where
 |mv (x:X)
 |pk (c a b:X)
 |bo (op:BinOp) (a b:X)                      -- on integers and strings
 |be (neg:Bool) (a b:X)                      -- == and != on bools
 |eq (neg:Bool) (ks:List Nat) (a b:X)        -- == and != on structs;the kinds of the fields: 0: integer,1: string,2: bool
 |un (op:UnOp) (a:X)
 |ix (x i:X)                                   -- a byte of a string
 |ln (k:Nat) (x:X)                            -- 0: of a string,1: of a slice,2: of a map
 |mx (a b:X)
 |mn (a b:X)
 |cv (k:IntKind) (x:X)
 |ld (ag:Option Nat) (x:X)
 |fa (off:Nat) (x:X)
 |fd (ag:Option Nat) (off:Nat) (x:X)       -- a field of a struct value
 |ia (es:Nat) (x i:X)                         -- the address of a slice's element
 |aa (n es:Nat) (x i:X)                      -- the address of an array variable's element
 |nc (x:X)
 |ex (x:X) (i:Nat)
 |sl (es:Nat) (x:X) (lo hi:Option X)        -- es=0: of a string
 |bd (z:List FV) (ps:List (Nat × Nat × X))
 |mf (f:Nat) (caps:List X)
 |mi (t:Nat) (x:X)
 |sx (a b:X)                                   -- two strings,compared by the runtime
 |sn (neg:Bool) (x:X)                        -- is a slice nil? (of one that has elements)
 |xa (n es:Nat) (ag:Option Nat) (x i:X)     -- an element of an array value
 |cs (x:X)                                     -- bytes to a string
 |ta (t:Nat) (z:FV) (x:X)                   -- is an interface's value of a type?
 |pn (x:X)                                     -- a panic
 |isn (neg:Bool) (x:X)                       -- is an interface's value nil?
 |ib (a b:X)                                   -- a byte's place in a string,by the runtime
 |bad                                            -- what is not done
 |bx (es:Nat) (x:X)
 |al (es:Nat) (z:FV)
 |bs (es n:Nat) (z:FV) (ps:List (Nat × X))
 |ms (es:Nat) (z:FV) (len cap:X)
 |nl (es:Nat)                                  -- a nil slice that is going to be appended to
 |mm
 |rs (x:X)                                     -- a walk through a string begins
 |ns (x:X)                                     -- ... goes on
 |st (sz:Nat) (x v:X)
 |ap (es by_:Nat) (x y:X)
 |lk (kt:Nat) (z:FV) (ok:Bool) (m k:X)
 |mu (kt:Nat) (m k v:X)
 |dl (kt:Nat) (m k:X)
 |cl (f:Nat) (as:List X)
 |cw (f:X) (as:List X)                       -- of a function value
 deriving Inhabited
structure G where
 dst:Option Nat
 guard:Option (Nat × Bool)
 op:O
 re:List (Option (Nat × Bool) × Option Nat × Nat × Nat):=[]      -- loads that may come later: guard,size,address,result
 deriving Inhabited
inductive C where
 |sk
 |rg (draw:Option (List Nat)) (ops:List G) (keep:List Nat)      -- drawn: the machine's numbers,in our order
 |rq (ops:List G) (keep:List Nat)            -- a region in the order of its text,in which something may panic
 |rp (pm:List Nat) (c:Nat) (kp:List Nat) (ops:List G) (keep:List Nat)      -- a drawn region in which the call at 'c' may panic;'kp': temporaries that it leaves alone
 |sq (a b:C)
 |cd (c:X) (a b:C)
 |bl (id:Nat) (c:C)
 |lp (tr:Bool) (c:C)                         -- 'tr': what a round has made is forgotten behind it
 |xt (id:Nat)
 |rt
 |sc (c:C)                                     -- labels may be jumped to from within
 |lb (l:Nat)
 |go (l:Nat)
 |bad                                            -- code that is not run
 |rf (f:Nat) (x:X) (ct:List Nat)           -- a loop over a function: the round's number,the function,the temporaries that the round's code captures
 deriving Inhabited
inductive I where
 |code (c:C)
 |inB (id:Nat)
 |inL (tr:Option Nat) (c:C)
 |inS (c:C)
 |beg (id:Nat)
 deriving Inhabited
inductive RV where
 |t (n:Nat)
 |cell (n:Nat) (ag:Option Nat)
 deriving Inhabited
inductive Mode where
 |iso | isf | shr | isc
 deriving DecidableEq,Inhabited
structure Fn where
 body:C
 np:Nat                                         -- parameters and captured variables
 res:List RV
 mode:Mode
 deriving Inhabited
structure Rd where
 ps:List Nat
 ct:List Nat
 asg:C
 body:C
 deriving Inhabited
structure Ct where
 pre:List G
 keep:List Nat
 g:Nat
 dst:Nat
 ct:List Nat
 rest:C
 ht:Nat
 hb:C
 np:Nat
 res:List RV
 deriving Inhabited
structure Mr where
 pre:List C
 keep0:List Nat
 mp:Nat
 it:Nat
 d:Nat
 ops:List G
 keep:List Nat
 body:C
 post:C
 np:Nat
 res:List RV
 deriving Inhabited
inductive Def where
 |fn (f:Fn)
 |ct (c:Ct)
 |mr (d:Mr)
 |rd (d:Rd)
 |ext (g:List FV→Option FV)
abbrev Tab:=List (Nat × Def)
def gt:Tm→Nat→FV
 |[],_=>.undef
 |(i,v)::r,t=>if i=t then v else gt r t
def ev (m:Tm):X→FV
 |.t n=>gt m n
 |.c v=>v
def put (m:Tm) (d:Option Nat) (v:FV):Tm :=
 match d with
 |some d=>(d,v)::m
 |none=>m
def keepOf (m:Tm):List Nat→Tm
 |[]=>[]
 |t::ts=>(t,gt m t)::keepOf m ts
def hget:Heap→Nat→Option Obj
 |[],_=>none
 |(i,o)::r,t=>if i=t then some o else hget r t
def hset:Heap→Nat→Obj→Heap
 |[],_,_=>[]
 |(i,v)::r,t,o=>if i=t then (i,o)::r else (i,v)::hset r t o
def chk {α:Type} (p:Prop) [Decidable p] (x:Option α):Option α:=if p then x else none
def bnd {α β:Type} (x:Option α) (f:α→Option β):Option β :=
 match x with
 |some a=>f a
 |none=>none
def evs (m:Tm):List X→List FV
 |[]=>[]
 |x::xs=>ev m x::evs m xs
def strBin (op:BinOp) (a b:List UInt8):Option FV :=
 match op with
 |.add=>chk (a.length + b.length ≤ 4611686018427387904) (some (.str (a ++ b)))
 |.eql=>some (.bool (a == b))
 |.neq=>some (.bool !(a == b))
 |.lss=>some (.bool (Op.bytesLess a b))
 |.leq=>some (.bool (Op.bytesLess a b || a == b))
 |.gtr=>some (.bool !(Op.bytesLess a b || a == b))
 |.geq=>some (.bool !(Op.bytesLess a b))
 |_=>none
def band (k:IntKind) (a b:Int):Int:=k.wrap (BitVec.ofInt k.bits a &&& BitVec.ofInt k.bits b).toNat
def bor (k:IntKind) (a b:Int):Int:=k.wrap (BitVec.ofInt k.bits a ||| BitVec.ofInt k.bits b).toNat
def bxor (k:IntKind) (a b:Int):Int:=k.wrap (BitVec.ofInt k.bits a ^^^ BitVec.ofInt k.bits b).toNat
def bandnot (k:IntKind) (a b:Int):Int:=k.wrap (BitVec.ofInt k.bits a &&& ~~~(BitVec.ofInt k.bits b)).toNat
def intBin (op:BinOp) (k:IntKind) (a b:Int):Option FV :=
 match op with
 |.add=>some (.int k (k.wrap (a + b)))
 |.sub=>some (.int k (k.wrap (a - b)))
 |.mul=>some (.int k (k.wrap (a * b)))
 |.quo=>chk (b ≠ 0) (some (.int k (k.wrap (a.tdiv b))))
 |.rem=>chk (b ≠ 0) (some (.int k (a.tmod b)))
 |.and=>some (.int k (band k a b))
 |.or=>some (.int k (bor k a b))
 |.xor=>some (.int k (bxor k a b))
 |.andNot=>some (.int k (bandnot k a b))
 |.eql=>some (.bool (a == b))
 |.neq=>some (.bool (a != b))
 |.lss=>some (.bool (decide (a < b)))
 |.leq=>some (.bool (decide (a ≤ b)))
 |.gtr=>some (.bool (decide (a > b)))
 |.geq=>some (.bool (decide (a ≥ b)))
 |_=>none
def shl (k:IntKind) (a b:Int):Int:=k.wrap (a * 2 ^ (min b.toNat k.bits))
def shr (k:IntKind) (a b:Int):Int:=a.fdiv (2 ^ (min b.toNat k.bits))
def binop (op:BinOp):FV→FV→Option FV
 |.int k a,.int j b =>
  match op with
  |.shl=>chk (0 ≤ b) (some (.int k (shl k a b)))
  |.shr=>chk (0 ≤ b) (some (.int k (shr k a b)))
  |op=>chk (k=j) (intBin op k a b)
 |.str a,.str b=>strBin op a b
 |_,_=>none
def unop (op:UnOp):FV→Option FV
 |.int k a =>
  match op with
  |.neg=>some (.int k (k.wrap (0 - a)))
  |.xor=>some (.int k (bxor k (if k.signed then -1 else k.max) a))
  |_=>none
 |.bool b =>
  match op with
  |.not=>some (.bool !b)
  |_=>none
 |_=>none
def cut {α:Type} (s:List α) (i j:Nat):List α:=(s.drop i).take (j - i)
def cellsAt (cs:List FV) (ag:Option Nat) (off:Nat):Option FV :=
 match ag with
 |none=>cs[off]?
 |some n=>chk (off + n ≤ cs.length) (some (.agg (cut cs off (off + n))))
def loadv (h:Heap) (ag:Option Nat):FV→Option FV
 |.ptr id stamp i off =>
  match hget h id with
  |some (.row _ xs)=>chk (xs.length=stamp) (bnd xs[i]? fun e=>cellsAt e.cells ag off)
  |some (.fro _ xs)=>chk (xs.length=stamp) (bnd xs[i]? fun e=>cellsAt e.cells ag off)
  |_=>none
 |.eptr cs off=>cellsAt cs ag off
 |_=>none
def reshape (e:FV) (cs:List FV):FV :=
 match e with
 |.agg _=>.agg cs
 |_=>cs.headD .undef
def splice (cs:List FV) (off:Nat) (vs:List FV):List FV:=cs.take off ++ vs ++ cs.drop (off + vs.length)
def storev (h:Heap) (sz:Nat) (v:FV):FV→Option Heap
 |.ptr id stamp i off =>
  match hget h id with
  |some (.row es xs)=>chk (xs.length=stamp∧v.ok=true∧v.cells.length=sz) (bnd xs[i]? fun e =>
    chk (off + sz ≤ e.cells.length) (some (hset h id (.row es (xs.set i (reshape e (splice e.cells off v.cells)))))))
  |_=>none
 |_=>none
def asInt:FV→Option Int
 |.int _ n=>some n
 |_=>none
def optInt (m:Tm) (d:Int):Option X→Option Int
 |none=>some d
 |some x=>asInt (ev m x)
def lstOk (es:Nat):List FV→Bool
 |[]=>true
 |x::_=>x.cells.length == es
def slice (m:Tm) (es:Nat) (x:FV) (lo hi:Option X):Option FV :=
 match x with
 |.str s=>bnd (optInt m s.length hi) fun h=>bnd (optInt m 0 lo) fun l =>
   chk (es=0∧0 ≤ l∧l ≤ h∧h ≤ s.length) (some (.str (cut s l.toNat h.toNat)))
 |.lst e xs=>bnd (optInt m xs.length hi) fun h=>bnd (optInt m 0 lo) fun l =>
   chk ((es ≠ 0∧0 ≤ l∧l ≤ h∧h ≤ xs.length)∧lstOk es xs=true) (some (.lst (e && decide (h=xs.length)) (cut xs l.toNat h.toNat)))
 |.sref es' id stamp off len=>bnd (optInt m len hi) fun h=>bnd (optInt m 0 lo) fun l =>
   chk (es'=es∧es ≠ 0∧0 ≤ l∧l ≤ h∧h ≤ len) (some (.sref es id stamp (off + l.toNat) (h.toNat - l.toNat)))
 |_=>none
def fillCells (m:Tm):List FV→List (Nat × Nat × X)→Option (List FV)
 |cs,[]=>some cs
 |cs,(off,sz,x)::ps=>chk ((ev m x).ok=true∧(ev m x).cells.length=sz∧off + sz ≤ cs.length) (fillCells m (splice cs off (ev m x).cells) ps)
def fillElems (m:Tm) (es:Nat):List FV→List (Nat × X)→Option (List FV)
 |xs,[]=>some xs
 |xs,(i,x)::ps=>chk ((ev m x).ok=true∧i < xs.length∧(ev m x).cells.length=es) (fillElems m es (xs.set i (ev m x)) ps)
def eqCell:Nat→FV→FV→Option Bool
 |0,.int k a,.int j b=>chk (k=j) (some (a == b))
 |1,.str a,.str b=>some (a == b)
 |2,.bool a,.bool b=>some (a == b)
 |_,_,_=>none
def eqCells:List Nat→List FV→List FV→Option Bool
 |[],[],[]=>some true
 |k::ks,a::r,b::q=>bnd (eqCell k a b) fun e=>bnd (eqCells ks r q) fun f=>some (e && f)
 |_,_,_=>none
def elems (h:Heap):FV→Option (List FV)
 |.lst _ xs=>some xs
 |.str s=>some (s.map fun b=>.int .u8 b.toNat)
 |.sref _ id stamp off len=>match hget h id with
  |some (.row _ xs)=>chk (xs.length=stamp∧off + len ≤ stamp) (some (cut xs off (off + len)))
  |some (.fro _ xs)=>chk (xs.length=stamp∧off + len ≤ stamp) (some (cut xs off (off + len)))
  |_=>none
 |_=>none
def most:Nat:=1099511627776
def bytesV:List FV→Option (List UInt8)
 |[]=>some []
 |.int .u8 n::r=>bnd (bytesV r) fun s=>some (UInt8.ofNat n.toNat::s)
 |_=>none
def sliceElems (h:Heap):FV→Option (List FV)
 |.str _=>none
 |v=>elems h v
def idxB (s:List UInt8) (b:UInt8):Int :=
 match (List.range s.length).find? fun i=>s.getD i 0 == b with
 |some i=>i
 |none=>-1
def opv (h:Heap) (m:Tm):O→Option FV
 |.mv x=>some (ev m x)
 |.pk c a b=>match ev m c with
  |.bool c'=>some (if c'=true then ev m a else ev m b)
  |_=>none
 |.bo op a b=>binop op (ev m a) (ev m b)
 |.be neg a b=>match ev m a,ev m b with
  |.bool x,.bool y=>some (.bool (if neg=true then !(x == y) else x == y))
  |_,_=>none
 |.eq neg ks a b=>match ev m a,ev m b with
  |.agg x,.agg y=>bnd (eqCells ks x y) fun e=>some (.bool (if neg=true then !e else e))
  |_,_=>none
 |.un op a=>unop op (ev m a)
 |.ix x i=>match ev m x,ev m i with
  |.str s,.int _ n=>chk (0 ≤ n∧n < s.length) (some (.int .u8 (s.getD n.toNat 0).toNat))
  |_,_=>none
 |.ln 0 x=>match ev m x with
  |.str s=>some (.int .i64 s.length)
  |_=>none
 |.ln 1 x=>match ev m x with
  |.lst _ xs=>some (.int .i64 xs.length)
  |.sref _ _ _ _ l=>some (.int .i64 l)
  |_=>none
 |.ln 2 x=>match ev m x with
  |.map id=>match hget h id with
   |some (.mp en)=>some (.int .i64 en.length)
   |_=>none
  |.nilm=>some (.int .i64 0)
  |_=>none
 |.mx a b=>match ev m a,ev m b with
  |.int k x,.int j y=>chk (k=j) (some (.int k (if x < y then y else x)))
  |_,_=>none
 |.mn a b=>match ev m a,ev m b with
  |.int k x,.int j y=>chk (k=j) (some (.int k (if y < x then y else x)))
  |_,_=>none
 |.cv k x=>match ev m x with
  |.int _ n=>some (.int k (k.wrap n))
  |_=>none
 |.ld ag x=>loadv h ag (ev m x)
 |.fa off x=>match ev m x with
  |.ptr id s i o=>some (.ptr id s i (o + off))
  |.eptr cs o=>some (.eptr cs (o + off))
  |_=>none
 |.fd ag off x=>match ev m x with
  |.agg cs=>cellsAt cs ag off
  |_=>none
 |.ia es x i=>match ev m x,ev m i with
  |.lst _ xs,.int _ n=>chk (0 ≤ n∧n < xs.length) (chk ((xs.getD n.toNat .undef).cells.length=es) (some (.eptr (xs.getD n.toNat .undef).cells 0)))
  |.sref es' id s off len,.int _ n=>chk (es'=es) (chk (0 ≤ n∧n < len) (some (.ptr id s (off + n.toNat) 0)))
  |_,_=>none
 |.aa len es x i=>match ev m x,ev m i with
  |.ptr id s j o,.int _ n=>chk (0 ≤ n∧n < len) (some (.ptr id s j (o + n.toNat * es)))
  |.eptr cs o,.int _ n=>chk (0 ≤ n∧n < len) (some (.eptr cs (o + n.toNat * es)))
  |_,_=>none
 |.nc x=>match ev m x with
  |.ptr id s i o=>some (.ptr id s i o)
  |.fn f cs=>some (.fn f cs)
  |.eptr cs o=>some (.eptr cs o)
  |_=>none
 |.ex x i=>match ev m x with
  |.tup vs=>vs[i]?
  |_=>none
 |.sl es x lo hi=>slice m es (ev m x) lo hi
 |.bd z ps=>bnd (fillCells m z ps) fun cs=>some (.agg cs)
 |.mf f caps=>some (.fn f (evs m caps))
 |.mi t x=>some (.ifc t (ev m x))
 |.sx a b=>match ev m a,ev m b with
  |.str s,.str t=>some (.int .i64 (Lib.compareBytes s t))
  |_,_=>none
 |.sn neg x=>match ev m x with
  |.lst _ (_::_)=>some (.bool neg)
  |.sref _ _ _ _ (_ + 1)=>some (.bool neg)
  |_=>none
 |.xa n es ag x i=>match ev m x,ev m i with
  |.agg cs,.int _ k=>chk (0 ≤ k∧k < n) (cellsAt cs ag (k.toNat * es))
  |_,_=>none
 |.ta t z x=>match ev m x with
  |.ifc u v=>some (if u=t then .tup [v,.bool true] else .tup [z,.bool false])
  |.nili=>some (.tup [z,.bool false])
  |_=>none
 |.cs x=>bnd (sliceElems h (ev m x)) fun xs=>bnd (bytesV xs) fun s=>some (.str s)
 |.ib a b=>match ev m a,ev m b with
  |.str s,.int .u8 n=>some (.int .i64 (idxB s n.toNat.toUInt8))
  |_,_=>none
 |.isn neg x=>match ev m x with
  |.ifc _ _=>some (.bool neg)
  |.nili=>some (.bool !neg)
  |_=>none
 |_=>none
def rune (s:List UInt8) (pos:Nat):Nat × Nat:=Utf8.decode ⟨s.toArray⟩ pos
def opn (m:Tm) (id:Nat):O→Option (Obj × FV)
 |.bx es x=>chk ((ev m x).ok=true∧(ev m x).cells.length=es) (some (.row es [ev m x],.ptr id 1 0 0))
 |.al es z=>some (.row es [z],.ptr id 1 0 0)
 |.bs es n z ps=>bnd (fillElems m es (List.replicate n z) ps) fun xs=>some (.row es xs,.sref es id n 0 n)
 |.ms es z len cap=>match ev m len,ev m cap with
  |.int _ n,.int _ c=>chk (0 ≤ n∧n ≤ c∧c ≤ 1073741824) (some (.row es (List.replicate n.toNat z),.sref es id n.toNat 0 n.toNat))
  |_,_=>none
 |.nl es=>some (.row es [],.sref es id 0 0 0)
 |.mm=>some (.mp [],.map id)
 |.rs x=>match ev m x with
  |.str s=>some (.sit s 0,.ptr id 1 0 0)
  |_=>none
 |_=>none
def append (h:Heap) (id es by_:Nat) (x y:FV):Option (FV × Heap) :=
 bnd (elems h y) fun ys=>chk (ys.all FV.ok=true∧(ys.all fun v=>v.cells.length == es)=true) <|
  match x with
  |.lst true xs=>chk ((xs.length + ys.length) * by_ ≤ most∧ys.length ≠ 0∧(xs.all fun v=>v.cells.length == es)=true) (some (.sref es id (xs.length + ys.length) 0 (xs.length + ys.length),(id,.row es (xs ++ ys))::h))
  |.sref es' i stamp off len =>
   match hget h i with
   |some (.row _ xs)=>chk (es'=es∧xs.length=stamp∧off + len ≤ stamp∧(off + len + ys.length) * by_ ≤ most) <|
     if ys.length=0 then some (.sref es i stamp off len,h)
     else if off + len + ys.length ≤ stamp then
      some (.sref es i stamp off (len + ys.length),hset h i (.row es (xs.take (off + len) ++ ys ++ xs.drop (off + len + ys.length))))
     else chk (off=0) (some (.sref es i (len + ys.length) 0 (len + ys.length),hset h i (.row es (xs.take len ++ ys))))
   |_=>none
  |_=>none
def keyCells:Nat→List Nat
 |0=>[0,0]
 |_=>[1,0]
def keyEq:Nat→FV→FV→Option Bool
 |0,.int k a,.int j b=>chk (k=j) (some (a == b))
 |1,.str a,.str b=>some (a == b)
 |k + 2,.agg a,.agg b=>eqCells (keyCells k) a b
 |_,_,_=>none
def keyV:Nat→FV→Bool
 |0,_=>true
 |1,_=>true
 |k + 2,.agg a=>(eqCells (keyCells k) a a).isSome
 |_ + 2,_=>false
def find (kt:Nat) (k:FV):List (FV × FV)→Option (Option FV)
 |[]=>chk (keyV kt k=true) (some none)
 |(j,v)::r=>bnd (keyEq kt k j) fun e=>if e=true then some (some v) else find kt k r
def update (kt:Nat) (k v:FV):List (FV × FV)→Option (List (FV × FV))
 |[]=>chk (keyV kt k=true) (some [(k,v)])
 |(j,u)::r=>bnd (keyEq kt k j) fun e=>if e=true then some ((k,v)::r) else bnd (update kt k v r) fun r'=>some ((j,u)::r')
def remove (kt:Nat) (k:FV):List (FV × FV)→Option (List (FV × FV))
 |[]=>chk (keyV kt k=true) (some [])
 |(j,u)::r=>bnd (keyEq kt k j) fun e=>if e=true then some r else bnd (remove kt k r) fun r'=>some ((j,u)::r')
def lookup (h:Heap) (kt:Nat) (z:FV) (ok:Bool) (k:FV):FV→Option FV
 |.nilm=>chk (keyV kt k=true) (some (if ok=true then .tup [z,.bool false] else z))
 |.map id=>match hget h id with
  |some (.mp en)=>bnd (find kt k en) fun r =>
    match r with
    |some v=>some (if ok=true then .tup [v,.bool true] else v)
    |none=>some (if ok=true then .tup [z,.bool false] else z)
  |_=>none
 |_=>none
def wanted (m:Tm):Option (Nat × Bool)→Option Bool
 |none=>some true
 |some (t,b)=>match gt m t with
  |.bool c=>some (c == b)
  |.tup []=>some false
  |_=>none
abbrev Call:=Nat→List FV→Heap→Nat→Option (FV × Heap × Nat)
def OB:Nat:=2000000
def opg (cal:Call) (id:Nat) (g:G) (m:Tm) (h:Heap) (nx:Nat):Option (FV × Heap × Nat) :=
 match g.op with
 |.st sz x v=>bnd (storev h sz (ev m v) (ev m x)) fun h'=>some (.undef,h',nx)
 |.ap es by_ x y=>bnd (append h id es by_ (ev m x) (ev m y)) fun r=>some (r.1,r.2,nx)
 |.lk kt z ok x k=>bnd (lookup h kt z ok (ev m k) (ev m x)) fun v=>some (v,h,nx)
 |.mu kt x k v=>match ev m x with
  |.map i=>match hget h i with
   |some (.mp en)=>bnd (update kt (ev m k) (ev m v) en) fun en'=>some (.undef,hset h i (.mp en'),nx)
   |_=>none
  |_=>none
 |.dl kt x k=>match ev m x with
  |.map i=>match hget h i with
   |some (.mp en)=>bnd (remove kt (ev m k) en) fun en'=>some (.tup [],hset h i (.mp en'),nx)
   |_=>none
  |_=>none
 |.cl f as=>cal f (evs m as) h nx
 |.cw f as=>match ev m f with
  |.fn f' caps=>if f' < OB then cal f' (evs m as ++ caps) h nx else cal (f' - OB) (caps ++ evs m as) h nx
  |.yl f' id' caps=>cal f' (.yl f' id' caps::evs m as) h nx
  |_=>none
 |.bx es x=>bnd (opn m id (.bx es x)) fun r=>some (r.2,(id,r.1)::h,nx)
 |.al es z=>bnd (opn m id (.al es z)) fun r=>some (r.2,(id,r.1)::h,nx)
 |.bs es n z ps=>bnd (opn m id (.bs es n z ps)) fun r=>some (r.2,(id,r.1)::h,nx)
 |.ms es z l c=>bnd (opn m id (.ms es z l c)) fun r=>some (r.2,(id,r.1)::h,nx)
 |.nl es=>bnd (opn m id (.nl es)) fun r=>some (r.2,(id,r.1)::h,nx)
 |.mm=>bnd (opn m id .mm) fun r=>some (r.2,(id,r.1)::h,nx)
 |.rs x=>bnd (opn m id (.rs x)) fun r=>some (r.2,(id,r.1)::h,nx)
 |.ns x=>match ev m x with
  |.ptr i 1 0 0=>match hget h i with
   |some (.sit s pos)=>if pos < s.length then some (.tup [.bool true,.int .i64 pos,.int .i32 (rune s pos).1],hset h i (.sit s (pos + (rune s pos).2)),nx) else some (.tup [.bool false],h,nx)
   |_=>none
  |_=>none
 |o=>bnd (opv h m o) fun v=>some (v,h,nx)
mutual
def eqv:FV→FV→Bool
 |.undef,.undef | .nilp,.nilp | .nilm,.nilm | .nilf,.nilf | .nili,.nili=>true
 |.bool a,.bool b=>a == b
 |.int k a,.int j b=>decide (k=j) && a == b
 |.str a,.str b=>a == b
 |.agg a,.agg b | .tup a,.tup b=>eqvs a b
 |.lst e a,.lst f b=>e == f && eqvs a b
 |.eptr a i,.eptr b j=>i == j && eqvs a b
 |.ptr a b c d,.ptr a' b' c' d'=>a == a' && b == b' && c == c' && d == d'
 |.sref a b c d e,.sref a' b' c' d' e'=>a == a' && b == b' && c == c' && d == d' && e == e'
 |.map a,.map b=>a == b
 |.fn f a,.fn g b=>f == g && eqvs a b
 |.pan a,.pan b=>eqv a b
 |.ifc t a,.ifc u b=>t == u && eqv a b
 |.yl f i a,.yl g j b=>f == g && i == j && eqvs a b
 |_,_=>false
def eqvs:List FV→List FV→Bool
 |[],[]=>true
 |a::r,b::q=>eqv a b && eqvs r q
 |_,_=>false
end
def still (h:Heap) (m:Tm) (o:O) (d:Nat):Bool :=
 match opv h m o with
 |some v=>eqv v (gt m d)
 |none=>false
def rechk {α:Type} (h:Heap) (m:Tm) (x:Option α):List (Option (Nat × Bool) × Option Nat × Nat × Nat)→Option α
 |[]=>x
 |(gd,ag,n,d)::r=>bnd (wanted m gd) fun b=>if b=true then chk (still h m (.ld ag (.t n)) d=true) (rechk h m x r) else rechk h m x r
def rops (cal:Call):Nat→List G→Tm→Heap→Nat→Option (Tm × Heap × Nat)
 |_,[],m,h,nx=>some (m,h,nx)
 |id,g::r,m,h,nx =>
  bnd (wanted m g.guard) fun b =>
   if b=true then bnd (opg cal id g m h nx) fun x=>rechk x.2.1 (put m g.dst x.1) (rops cal (id + 1) r (put m g.dst x.1) x.2.1 x.2.2) g.re
   else rops cal (id + 1) r (put m g.dst (.tup [])) h nx
def np (cal:Call):Call:=fun f a h nx=>bnd (cal f a h nx) fun r=>chk (isPan r.1=false) (some r)
def ropsP (cal:Call):Nat→List G→Tm→Heap→Nat→Option (Option FV × Tm × Heap × Nat)
 |_,[],m,h,nx=>some (none,m,h,nx)
 |id,g::r,m,h,nx =>
  bnd (wanted m g.guard) fun b =>
   if b=true then match g.op with
    |.pn x=>match ev m x with
     |.ifc t v=>some (some (.ifc t v),m,h,nx)
     |_=>none
    |.cl f as=>bnd (cal f (evs m as) h nx) fun y=>match y.1 with
     |.pan v=>some (some v,m,y.2.1,y.2.2)
     |v=>ropsP cal (id + 1) r (put m g.dst v) y.2.1 y.2.2
    |o=>bnd (opg (np cal) id ⟨g.dst,g.guard,o,[]⟩ m h nx) fun x=>ropsP cal (id + 1) r (put m g.dst x.1) x.2.1 x.2.2
   else ropsP cal (id + 1) r (put m g.dst (.tup [])) h nx
def ropsD (cal:Call) (id c:Nat) (ops:List G) (m:Tm) (h:Heap) (nx:Nat):Option (Option FV × Tm × Heap × Nat) :=
 bnd (rops (np cal) id (ops.take c) m h nx) fun x =>
  match (ops.getD c default).op with
  |.cl f as=>bnd (cal f (evs x.1 as) x.2.1 x.2.2) fun y=>match y.1 with
   |.pan u=>some (some u,m,y.2.1,y.2.2)
   |v=>bnd (rechk y.2.1 (put x.1 (ops.getD c default).dst v) (rops (np cal) (id + c + 1) (ops.drop (c + 1)) (put x.1 (ops.getD c default).dst v) y.2.1 y.2.2) (ops.getD c default).re) fun z=>some (none,z)
  |_=>none
def exitTo (id:Nat):List I→Option (List I)
 |.inB j::k=>if j=id then some k else exitTo id k
 |_::k=>exitTo id k
 |[]=>none
def findLb:C→Nat→Option C
 |.sq a b,l =>
  match findLb a l with
  |some r=>some (.sq r b)
  |none=>findLb b l
 |.lb l',l=>if l'=l then some .sk else none
 |_,_=>none
def goIn (l:Nat):List I→Option (List I)
 |.inS c::k =>
  match findLb c l with
  |some r=>some (.code r::.inS c::k)
  |none=>goIn l k
 |_::k=>goIn l k
 |[]=>none
mutual
def pure_:FV→Bool
 |.undef | .bool _ | .int _ _ | .str _ | .nilp | .nilm | .nilf | .nili=>true
 |.agg cs | .tup cs | .lst _ cs | .eptr cs _=>pures cs
 |.fn _ cs=>pures cs
 |.ifc _ v=>pure_ v
 |.ptr .. | .sref .. | .map _ | .yl .. | .pan _=>false
def pures:List FV→Bool
 |[]=>true
 |v::r=>pure_ v && pures r
end
mutual
def low (b:Nat):FV→Bool
 |.undef | .bool _ | .int _ _ | .str _ | .nilp | .nilm | .nilf | .nili=>true
 |.agg cs | .tup cs | .lst _ cs | .eptr cs _=>lows b cs
 |.fn _ cs=>lows b cs
 |.ifc _ v=>low b v
 |.ptr id _ _ _=>decide (id < b)
 |.sref _ id _ _ _=>decide (id < b)
 |.map id=>decide (id < b)
 |.pan _=>false
 |.yl _ id cs=>decide (id < b) && lows b cs
def lows (b:Nat):List FV→Bool
 |[]=>true
 |v::r=>low b v && lows b r
end
def lowObj (b:Nat):Obj→Bool
 |.row _ xs=>lows b xs
 |.fro _ xs=>lows b xs
 |.mp en=>en.all fun e=>low b e.1 && low b e.2
 |.fmp en=>en.all fun e=>low b e.1 && low b e.2
 |.lp .. => true
 |.sit .. => true
 |.mit=>true
def lowHeap (b:Nat):Heap→Bool
 |[]=>true
 |(_,o)::r=>lowObj b o && lowHeap b r
def lowTm (b:Nat):Tm→Bool
 |[]=>true
 |(_,v)::r=>low b v && lowTm b r
def cutH (b:Nat):Heap→Heap
 |[]=>[]
 |(i,o)::r=>if i < b then (i,o)::cutH b r else cutH b r
mutual
def flat:FV→Bool
 |.undef | .bool _ | .int _ _ | .str _ | .nilp | .nilm | .nilf | .nili=>true
 |.agg cs | .tup cs=>flats cs
 |.lst _ _ | .eptr _ _ | .fn _ _ | .ifc _ _ | .ptr .. | .sref .. | .map _ | .yl .. | .pan _=>false
def flats:List FV→Bool
 |[]=>true
 |v::r=>flat v && flats r
end
def elemAt (h:Heap) (id s i:Nat):Option FV :=
 match hget h id with
 |some (.row _ xs)=>chk (xs.length=s) xs[i]?
 |some (.fro _ xs)=>chk (xs.length=s) xs[i]?
 |_=>none
mutual
def frz (h:Heap):Nat→FV→Option FV
 |0,v=>if pure_ v=true then some v else none
 |n + 1,v=>if pure_ v=true then some v else match v with
  |.agg cs=>bnd (frzs h n cs) fun r=>some (.agg r)
  |.tup cs=>bnd (frzs h n cs) fun r=>some (.tup r)
  |.fn f cs=>bnd (frzs h n cs) fun r=>some (.fn f r)
  |.ifc t v=>bnd (frz h n v) fun r=>some (.ifc t r)
  |.pan v=>bnd (frz h n v) fun r=>some (.pan r)
  |.sref es id s off len=>chk (es ≠ 0) (bnd (elems h (.sref es id s off len)) fun xs=>bnd (frzs h n xs) fun r=>some (.lst false r))
  |.ptr id s i off=>bnd (elemAt h id s i) fun e=>bnd (frzs h n e.cells) fun r=>chk (r.length ≠ 0) (some (.eptr r off))
  |_=>none
def frzs (h:Heap):Nat→List FV→Option (List FV)
 |_,[]=>some []
 |0,_::_=>none
 |n + 1,v::r=>bnd (frz h n v) fun v'=>bnd (frzs h n r) fun r'=>some (v'::r')
end
mutual
def idV (h:Heap):Nat→FV→List Nat
 |0,_=>[]
 |n + 1,v=>if pure_ v=true then [] else match v with
  |.agg cs=>idL h n cs
  |.tup cs=>idL h n cs
  |.fn _ cs=>idL h n cs
  |.ifc _ v=>idV h n v
  |.pan v=>idV h n v
  |.sref es id s off len=>id::match elems h (.sref es id s off len) with
   |some xs=>idL h n xs
   |none=>[]
  |.ptr id s i _=>id::match elemAt h id s i with
   |some e=>idL h n e.cells
   |none=>[]
  |_=>[]
def idL (h:Heap):Nat→List FV→List Nat
 |_,[]=>[]
 |0,_::_=>[]
 |n + 1,v::r=>idV h n v ++ idL h n r
end
def froze (h:Heap):List Nat→Heap
 |[]=>h
 |i::r=>match hget h i with
  |some (.row es xs)=>froze (hset h i (.fro es xs)) r
  |_=>froze h r
def readRes (m:Tm) (h:Heap):List RV→Option (List FV)
 |[]=>some []
 |.t n::r=>bnd (readRes m h r) fun vs=>some (gt m n::vs)
 |.cell n ag::r=>bnd (loadv h ag (gt m n)) fun v=>bnd (readRes m h r) fun vs=>some (v::vs)
def result:List FV→FV
 |[v]=>v
 |vs=>.tup vs
def params:Nat→List FV→Tm
 |_,[]=>[]
 |i,v::r=>(i,v)::params (i + 1) r
inductive Ex where
 |fin | ret | xt (id:Nat) | pan (v:FV)
def run (cal:Call):Nat→List I→Tm→Heap→Nat→Option (Ex × Tm × Heap × Nat)
 |0,_,_,_,_=>none
 |n + 1,todo,m,h,nx =>
  match todo with
  |.code .sk::k=>run cal n k m h nx
  |.inB _::k=>run cal n k m h nx
  |.inS _::k=>run cal n k m h nx
  |.code (.lb _)::k=>run cal n k m h nx
  |.code .bad::_=>none
  |.code (.sc c)::k=>run cal n (.code c::.inS c::k) m h nx
  |.code (.go l)::k=>match goIn l k with
   |some k'=>run cal n k' m h nx
   |none=>none
  |.beg id::k=>match hget h id with
   |some (.lp 0 jp)=>run cal n k m (hset h id (.lp 1 jp)) nx
   |_=>none
  |.code (.rf f x ct)::k=>match ev m x with
   |.fn q caps=>bnd (np cal q (.yl f nx (evs m (ct.map .t))::caps) ((nx,.lp 0 0)::h) (nx + 1)) fun r =>
     match hget r.2.1 nx with
     |some (.lp st jp)=>chk (st ≠ 1) (match jp with
      |0=>run cal n k m (hset r.2.1 nx (.lp 3 jp)) r.2.2
      |1=>run cal n (.code .rt::k) m (hset r.2.1 nx (.lp 3 jp)) r.2.2
      |e + 2=>run cal n (.code (.xt e)::k) m (hset r.2.1 nx (.lp 3 jp)) r.2.2)
     |_=>none
   |_=>none
  |.code (.rg _ ops keep)::k=>bnd (rops (np cal) nx ops m h (nx + ops.length)) fun x=>run cal n k (keepOf x.1 keep) x.2.1 x.2.2
  |.code (.rp _ c kp ops keep)::k=>bnd (ropsD cal nx c ops m h (nx + ops.length)) fun x=>match x.1 with
   |none=>run cal n k (keepOf x.2.1 keep) x.2.2.1 x.2.2.2
   |some v=>some (.pan v,keepOf x.2.1 kp,x.2.2.1,x.2.2.2)
  |.code (.rq ops keep)::k=>bnd (ropsP cal nx ops m h (nx + ops.length)) fun x=>match x.1 with
   |none=>run cal n k (keepOf x.2.1 keep) x.2.2.1 x.2.2.2
   |some v=>some (.pan v,x.2.1,x.2.2.1,x.2.2.2)
  |.code (.sq a b)::k=>run cal n (.code a::.code b::k) m h nx
  |.code (.cd c a b)::k=>match ev m c with
   |.bool b'=>if b'=true then run cal n (.code a::k) m h nx else run cal n (.code b::k) m h nx
   |_=>none
  |.code (.bl id c)::k=>run cal n (.code c::.inB id::k) m h nx
  |.code (.lp tr c)::k=>run cal n (.code c::.inL (if tr=true then some nx else none) c::k) m h nx
  |.inL none c::k=>run cal n (.code c::.inL none c::k) m h nx
  |.inL (some b) c::k=>chk (b ≤ nx∧lowTm b m=true∧lowHeap b (cutH b h)=true) (run cal n (.code c::.inL (some b) c::k) m (cutH b h) b)
  |.code (.xt id)::k=>match exitTo id k with
   |some k'=>run cal n k' m h nx
   |none=>some (.xt id,m,h,nx)
  |.code .rt::_=>some (.ret,m,h,nx)
  |[]=>some (.fin,m,h,nx)
def deep:Nat:=1152921504606846976
def tget:Tab→Nat→Option Def
 |[],_=>none
 |(i,d)::r,f=>if i=f then some d else tget r f
def finish (f:Fn):Ex × Tm × Heap × Nat→Option FV
 |(.xt _,_)=>none
 |(.pan v,_)=>some (.pan v)
 |(_,m,h,_)=>bnd (readRes m h f.res) fun vs=>some (result vs)
def enter (cal:Call) (n:Nat) (f:Fn) (args:List FV) (h:Heap) (nx:Nat):Option (FV × Heap × Nat) :=
 chk (args.length=f.np) <| match f.mode with
 |.iso=>chk (pures args=true) <| bnd (run cal n [.code f.body] (params 0 args) [] 0) fun x =>
   bnd (finish f x) fun v=>bnd (frz x.2.2.1 deep v) fun r=>some (r,h,nx)
 |.isf=>bnd (frzs h deep args) fun as=>bnd (run cal n [.code f.body] (params 0 as) [] 0) fun x =>
   bnd (finish f x) fun v=>chk (flat v=true) (some (v,h,nx))
 |.isc=>bnd (frzs h deep args) fun as=>bnd (run cal n [.code f.body] (params 0 as) [] 0) fun x =>
   bnd (finish f x) fun v=>bnd (frz x.2.2.1 deep v) fun r=>some (r,froze h (idL h deep args),nx)
 |.shr=>bnd (run cal n [.code f.body] (params 0 args) h nx) fun x =>
   bnd (finish f x) fun v=>some (v,x.2.2.1,x.2.2.2)
def zipTm:List Nat→List FV→Tm
 |t::ts,v::vs=>(t,v)::zipTm ts vs
 |_,_=>[]
def leave (id:Nat):Ex × Tm × Heap × Nat→Option (FV × Heap × Nat)
 |(e,_,h,nx)=>match hget h id with
  |some (.lp _ _)=>match e with
   |.fin=>some (.bool true,hset h id (.lp 0 0),nx)
   |.ret=>some (.bool false,hset h id (.lp 2 1),nx)
   |.xt e=>some (.bool false,hset h id (.lp 2 (e + 2)),nx)
   |.pan _=>none
  |_=>none
def isLp (h:Heap) (id:Nat):Bool :=
 match hget h id with
 |some (.lp _ _)=>true
 |_=>false
def round (cal:Call) (n:Nat) (d:Rd) (args:List FV) (h:Heap) (nx:Nat):Option (FV × Heap × Nat) :=
 match args with
 |.yl _ id caps::xs=>chk (xs.length=d.ps.length∧caps.length=d.ct.length∧isLp h id=true)
   (bnd (run cal n [.code d.asg,.beg id,.code d.body] (zipTm d.ps xs ++ zipTm d.ct caps) h nx) (leave id))
 |_=>none
def caught:Ex→Option FV
 |.fin | .ret=>some .nili
 |.pan v=>some v
 |.xt _=>none
def isEnd:Ex→Bool
 |.fin | .ret=>true
 |_=>false
def runC (cal:Call) (n:Nat) (c:Ct) (m:Tm):Option (Tm × Heap × Nat) :=
 bnd (rops (np cal) 0 c.pre m [] c.pre.length) fun x =>
  bnd (run cal n [.code c.rest] (put (keepOf x.1 c.keep) (some c.dst) (.fn c.g (evs x.1 (c.ct.map .t)))) x.2.1 x.2.2) fun y =>
   bnd (caught y.1) fun v =>
    bnd (run cal n [.code c.hb] ((c.ht,v)::params 0 (evs x.1 (c.ct.map .t))) y.2.2.1 y.2.2.2) fun z =>
     chk (isEnd z.1=true) (some (y.2.1,z.2.2.1,z.2.2.2))
def enterC (cal:Call) (n:Nat) (c:Ct) (args:List FV) (h:Heap) (nx:Nat):Option (FV × Heap × Nat) :=
 chk (args.length=c.np∧pures args=true) <| bnd (runC cal n c (params 0 args)) fun x =>
  bnd (readRes x.1 x.2.1 c.res) fun vs=>bnd (frz x.2.1 deep (result vs)) fun r=>some (r,h,nx)
abbrev Rn:=List I→Tm→Heap→Nat→Option (Ex × Tm × Heap × Nat)
abbrev Ro:=Nat→List G→Tm→Heap→Nat→Option (Tm × Heap × Nat)
def runPre (rn:Rn):List C→Tm→Heap→Nat→Option (Ex × Tm × Heap × Nat)
 |[],m,h,nx=>some (.fin,m,h,nx)
 |p::ps,m,h,nx=>bnd (rn [.code p] m h nx) fun x=>match x.1 with
  |.fin=>runPre rn ps x.2.1 x.2.2.1 x.2.2.2
  |e=>some (e,x.2)
def resM (rs:List RV):Ex × Tm × Heap × Nat→Option FV
 |(.fin,m,h,_)=>bnd (readRes m h rs) fun vs=>frz h deep (result vs)
 |(.ret,m,h,_)=>bnd (readRes m h rs) fun vs=>frz h deep (result vs)
 |_=>none
def same:List (Option FV)→Option FV
 |[]=>none
 |[x]=>x
 |x::y::r=>bnd x fun a=>bnd (same (y::r)) fun b=>if eqv a b=true then some a else none
def picks {α:Type}:List α→List (α × List α)
 |[]=>[]
 |a::r=>(a,r)::(picks r).map fun p=>(p.1,a::p.2)
def runIt (ro:Ro) (rn:Rn) (d:Mr) (e:FV × FV) (m:Tm) (h:Heap) (nx:Nat):Option (Tm × Heap × Nat) :=
 bnd (ro (nx + 1) d.ops (put m (some d.d) (.tup [e.1,e.2])) h (nx + (d.ops.length + 1))) fun x =>
  bnd (rn [.code d.body] (keepOf x.1 d.keep) x.2.1 x.2.2) fun y=>match y.1 with
   |.fin=>some y.2
   |_=>none
def runAll (ro:Ro) (rn:Rn) (d:Mr) (iid:Nat):Nat→List (FV × FV)→Tm→Heap→Nat→Option FV
 |_,[],m,h,nx=>chk (eqv (gt (keepOf m d.keep0) d.it) (.ptr iid 1 0 0)=true) (bnd (rn [.code d.post] (keepOf m d.keep0) h nx) (resM d.res))
 |0,_::_,_,_,_=>none
 |c + 1,e::es,m,h,nx=>chk (eqv (gt (keepOf m d.keep0) d.it) (.ptr iid 1 0 0)=true)
   (same ((picks (e::es)).map fun p=>bnd (runIt ro rn d p.1 (keepOf m d.keep0) h nx) fun y=>runAll ro rn d iid c p.2 y.1 y.2.1 y.2.2))
def mrV (ro:Ro) (rn:Rn) (d:Mr) (args:List FV):Option FV :=
 chk (args.length=d.np∧pures args=true) <| bnd (runPre rn d.pre (params 0 args) [] 0) fun x=>match x.1 with
  |.ret=>resM d.res x
  |.fin=>match gt x.2.1 d.mp with
   |.map id=>match hget x.2.2.1 id with
    |some (.mp en)=>runAll ro rn d x.2.2.2 en.length en (put x.2.1 (some d.it) (.ptr x.2.2.2 1 0 0)) ((x.2.2.2,.mit)::hset x.2.2.1 id (.fmp en)) (x.2.2.2 + 1)
    |_=>none
   |_=>none
  |_=>none
def enterM (ro:Ro) (rn:Rn) (d:Mr) (args:List FV) (h:Heap) (nx:Nat):Option (FV × Heap × Nat) :=
 bnd (mrV ro rn d args) fun r=>some (r,h,nx)
def RB:Nat:=1000000
def call (T:Tab):Nat→Call
 |0,_,_,_,_=>none
 |n + 1,f,args,h,nx =>
  match tget T f with
  |some (.fn d)=>chk (f < RB) (enter (call T n) n d args h nx)
  |some (.ct c)=>chk (f < RB) (enterC (call T n) n c args h nx)
  |some (.mr d)=>chk (f < RB) (enterM (rops (np (call T n))) (run (call T n) n) d args h nx)
  |some (.rd d)=>chk (RB ≤ f∧f < OB) (round (call T n) n d args h nx)
  |some (.ext g)=>chk (f < RB) (bnd (frzs h deep args) fun as=>bnd (g as) fun v=>chk (flat v=true) (some (v,h,nx)))
  |none=>none
theorem chk_some {α:Type} {p:Prop} [Decidable p] {x:Option α} {y:α} (h:chk p x=some y):p∧x=some y:=by
 unfold chk at h;split at h
 ·exact ⟨by assumption,h⟩
 ·simp at h
theorem bnd_some {α β:Type} {x:Option α} {f:α→Option β} {y:β} (h:bnd x f=some y):∃ a,x=some a∧f a=some y:=by
 unfold bnd at h;split at h
 ·exact ⟨_,rfl,h⟩
 ·simp at h
theorem rechk_some {α:Type} {h:Heap} {m:Tm} {x:Option α} {y:α}:∀ {l:List (Option (Nat × Bool) × Option Nat × Nat × Nat)},rechk h m x l=some y→x=some y∧∀ gd ag n d,(gd,ag,n,d) ∈ l→wanted m gd=some true→still h m (.ld ag (.t n)) d=true:=by
 intro l
 induction l with
 |nil=>intro hh;exact ⟨hh,fun _ _ _ _ hm=>by simp at hm⟩
 |cons p l ih =>
  intro hh
  obtain ⟨gd,ag,n,d⟩:=p
  simp only [rechk] at hh
  cases hw:wanted m gd with
  |none=>rw [hw] at hh;simp [bnd] at hh
  |some b =>
   rw [hw] at hh
   simp only [bnd] at hh
   cases b with
   |true =>
    simp only [if_true] at hh
    unfold chk at hh
    split at hh
    ·rename_i hs
     obtain ⟨h1,h2⟩:=ih hh
     refine ⟨h1,fun gd' ag' n' d' hm hw'=>?_⟩
     rcases List.mem_cons.1 hm with e | e
     ·cases e;exact hs
     ·exact h2 gd' ag' n' d' e hw'
    ·simp at hh
   |false =>
    simp only [Bool.false_eq_true,if_false] at hh
    obtain ⟨h1,h2⟩:=ih hh
    refine ⟨h1,fun gd' ag' n' d' hm hw'=>?_⟩
    rcases List.mem_cons.1 hm with e | e
    ·cases e;rw [hw] at hw';simp at hw'
    ·exact h2 gd' ag' n' d' e hw'
mutual
theorem eqv_eq:∀ {a b:FV},eqv a b=true→a=b
 |.undef,b,h=>by cases b<;>simp_all [eqv]
 |.nilp,b,h=>by cases b<;>simp_all [eqv]
 |.nilm,b,h=>by cases b<;>simp_all [eqv]
 |.nilf,b,h=>by cases b<;>simp_all [eqv]
 |.nili,b,h=>by cases b<;>simp_all [eqv]
 |.bool _,b,h=>by cases b<;>simp_all [eqv]
 |.int _ _,b,h=>by cases b<;>simp_all [eqv]
 |.str _,b,h=>by cases b<;>simp_all [eqv]
 |.agg a,b,h=>by cases b<;>simp only [eqv,Bool.false_eq_true] at h;rw [eqvs_eq h]
 |.tup a,b,h=>by cases b<;>simp only [eqv,Bool.false_eq_true] at h;rw [eqvs_eq h]
 |.lst _ a,b,h=>by cases b<;>simp only [eqv,Bool.false_eq_true,Bool.and_eq_true,beq_iff_eq] at h;rw [h.1,eqvs_eq h.2]
 |.yl f i a,b,h=>by cases b<;>simp only [eqv,Bool.false_eq_true,Bool.and_eq_true,beq_iff_eq] at h;rw [h.1.1,h.1.2,eqvs_eq h.2]
 |.eptr a _,b,h=>by cases b<;>simp only [eqv,Bool.false_eq_true,Bool.and_eq_true,beq_iff_eq] at h;rw [h.1,eqvs_eq h.2]
 |.ptr ..,b,h=>by cases b<;>simp_all [eqv]
 |.sref ..,b,h=>by cases b<;>simp_all [eqv]
 |.map _,b,h=>by cases b<;>simp_all [eqv]
 |.fn _ a,b,h=>by cases b<;>simp only [eqv,Bool.false_eq_true,Bool.and_eq_true,beq_iff_eq] at h;rw [h.1,eqvs_eq h.2]
 |.ifc _ a,b,h=>by cases b<;>simp only [eqv,Bool.false_eq_true,Bool.and_eq_true,beq_iff_eq] at h;rw [h.1,eqv_eq h.2]
 |.pan a,b,h=>by cases b<;>simp only [eqv,Bool.false_eq_true] at h;rw [eqv_eq h]
theorem eqvs_eq:∀ {a b:List FV},eqvs a b=true→a=b
 |[],b,h=>by cases b<;>simp_all [eqvs]
 |a::r,b,h=>by cases b<;>simp only [eqvs,Bool.false_eq_true,Bool.and_eq_true] at h;rw [eqv_eq h.1,eqvs_eq h.2]
end
def Mv (d n:Nat):G:=⟨some d,none,.mv (.t n),[]⟩
def Gm (d c:Nat) (b:Bool) (n:Nat):G:=⟨some d,some (c,b),.mv (.t n),[]⟩
def Qo (d:Nat) (o:O):G:=⟨some d,none,o,[]⟩
def Gd (d c:Nat) (b:Bool) (o:O):G:=⟨some d,some (c,b),o,[]⟩
def Eo (o:O):G:=⟨none,none,o,[]⟩
theorem Mv_eq {d n:Nat}:Mv d n=⟨some d,none,.mv (.t n),[]⟩:=rfl
theorem Gm_eq {d c n:Nat} {b:Bool}:Gm d c b n=⟨some d,some (c,b),.mv (.t n),[]⟩:=rfl
theorem Qo_eq {d:Nat} {o:O}:Qo d o=⟨some d,none,o,[]⟩:=rfl
theorem Gd_eq {d c:Nat} {b:Bool} {o:O}:Gd d c b o=⟨some d,some (c,b),o,[]⟩:=rfl
theorem Eo_eq {o:O}:Eo o=⟨none,none,o,[]⟩:=rfl
theorem G_eqs:type_of% (And.intro @Mv_eq <| And.intro @Gm_eq <| And.intro @Qo_eq <| And.intro @Gd_eq @Eo_eq):=And.intro @Mv_eq <| And.intro @Gm_eq <| And.intro @Qo_eq <| And.intro @Gd_eq @Eo_eq
end Go.FI
namespace Go.FI
open Go.RowKit
class Sys where
 gl:Nat→List FV→Bool
 rk:Nat→Loop→List Nat→Prop
 glp:∀ k cs,gl k cs=true→pures cs=true
variable [Sys]
structure Loc where
 blk:Option Nat
 size:Nat
 es:Nat
 cap:Nat
 mp:Bool:=false
 lp:Option Loop:=none
structure Gh where
 κ:Nat→Option Loc
 Z:Nat→Prop
mutual
inductive R (g:Gh) (w:World):FV→Value→Prop
 |undef (v:Value):R g w .undef v
 |bool (b:Bool):R g w (.bool b) (.bool b)
 |int (k:IntKind) (n:Int):R g w (.int k n) (.int k n)
 |str (s:ByteArray):R g w (.str s.data.toList) (.string s)
 |agg (cs:List FV) (vs:List Value) (h:RL g w cs vs):R g w (.agg cs) (.agg vs.toArray)
 |tup (cs:List FV) (vs:List Value) (h:RL g w cs vs):R g w (.tup cs) (.tuple vs.toArray)
 |lst0 (e:Bool) (a:Option Addr) (cap:Nat) (h:e=true→cap=0):R g w (.lst e []) (.slice a 0 cap)
 |lst (e:Bool) (xs:List FV) (b o es cap:Nat) (cs:List Value) (hne:xs ≠ []) (he:e=true→cap=xs.length) (hle:xs.length ≤ cap) (hZ:g.Z b) (hes:0 < es)
   (hx:∀ x ∈ xs,x.cells.length=es∧x.ok=true) (hr:RL g w (xs.flatMap FV.cells) cs) (hc:∀ (j:Nat) v,cs[j]? = some v→w.cell? ⟨b,o + j,none⟩=some v) :
   R g w (.lst e xs) (.slice (some ⟨b,o,none⟩) xs.length cap)
 |eptr (cs:List FV) (off b o:Nat) (vs:List Value) (hne:cs ≠ []) (hZ:g.Z b) (hr:RL g w cs vs) (hc:∀ (j:Nat) v,vs[j]? = some v→w.cell? ⟨b,o + j,none⟩=some v) :
   R g w (.eptr cs off) (.pointer (some ⟨b,o + off,none⟩))
 |ptr (id s i off:Nat) (l:Loc) (a:Addr) (hk:g.κ id=some l) (hs:s ≤ l.size) (h:s=l.size→∃ b,l.blk=some b∧a=⟨b,i * l.es + off,none⟩) :
   R g w (.ptr id s i off) (.pointer (some a))
 |nilp:R g w .nilp (.pointer none)
 |sref (es id s off len:Nat) (l:Loc) (a:Option Addr) (cap:Nat) (hk:g.κ id=some l) (he:l.es=es) (hs:s ≤ l.size) (hle:len ≤ cap) (ha:0 < cap→a.isSome=true)
   (h:s=l.size→s ≤ off + cap∧off + cap ≤ l.cap∧(0 < cap→∃ b,l.blk=some b∧a=some ⟨b,off * l.es,none⟩)) :
   R g w (.sref es id s off len) (.slice a len cap)
 |map (id b:Nat) (l:Loc) (hk:g.κ id=some l) (hm:l.mp=true) (hb:l.blk=some b):R g w (.map id) (.map (some b))
 |nilm:R g w .nilm (.map none)
 |fn (f:Nat) (cs:List FV) (vs:List Value) (hlt:f < RB) (h:RL g w cs vs):R g w (.fn f cs) (.func (.func f) #[] vs.toArray)
 |bf (f:Nat) (cs:List FV) (vs:List Value) (hlt:f < RB) (h:RL g w cs vs):R g w (.fn (f + OB) cs) (.func (.func f) vs.toArray #[])
 |nilf:R g w .nilf .nilFunc
 |ifc (t:Nat) (v:FV) (x:Value) (h:R g w v x):R g w (.ifc t v) (.iface t x)
 |nili:R g w .nili .nilIface
 |yl (f id:Nat) (cs:List FV) (l:Loc) (b:Nat) (r:Loop) (ct:List Nat) (hge:RB ≤ f) (hk:g.κ id=some l) (hm:l.mp=true) (hb:l.blk=some b) (hr:l.lp=some r) (hf:Sys.rk f r ct) (hc:RL g w cs (ct.map fun t=>r.tmps.getD t undef)) :
   R g w (.yl f id cs) (.func (.yield b) #[] #[])
inductive RL (g:Gh) (w:World):List FV→List Value→Prop
 |nil:RL g w [] []
 |cons (v:FV) (x:Value) (vs:List FV) (xs:List Value) (h:R g w v x) (hs:RL g w vs xs):RL g w (v::vs) (x::xs)
end
def KLe (κ κ':Nat→Option Loc):Prop:=∀ id l,κ id=some l→∃ l',κ' id=some l'∧l.size ≤ l'.size∧l'.es=l.es∧(l'.size=l.size ∨ l.mp=true→l'=l)
theorem KLe.refl (κ:Nat→Option Loc):KLe κ κ:=fun _ l h=>⟨l,h,Nat.le_refl _,rfl,fun _=>rfl⟩
theorem KLe.trans {a b c:Nat→Option Loc} (h:KLe a b) (k:KLe b c):KLe a c:=fun id l hl=>by
 obtain ⟨l1,h1,h2,h3,h4⟩:=h id l hl
 obtain ⟨l2,k1,k2,k3,k4⟩:=k id l1 h1
 refine ⟨l2,k1,Nat.le_trans h2 k2,k3.trans h3,fun e=>?_⟩
 rcases e with e | e
 ·have e1:l1.size=l.size:=by omega
  have e2:l2.size=l1.size:=by omega
  rw [k4 (.inl e2),h4 (.inl e1)]
 ·have:=h4 (.inr e)
  subst this
  exact k4 (.inr e)
structure GLe (g g':Gh) (w w':World):Prop where
 z:∀ b,g.Z b→g'.Z b
 heap:∀ b,g.Z b→w'.heap[b]? = w.heap[b]?
 k:KLe g.κ g'.κ
theorem GLe.refl (g:Gh) (w:World):GLe g g w w:=⟨fun _ h=>h,fun _ _=>rfl,KLe.refl _⟩
theorem GLe.trans {g g' g'':Gh} {w w' w'':World} (h:GLe g g' w w') (k:GLe g' g'' w' w''):GLe g g'' w w'' :=
 ⟨fun b hb=>k.z b (h.z b hb),fun b hb=>(k.heap b (h.z b hb)).trans (h.heap b hb),h.k.trans k.k⟩
theorem cell_of_heap {w w':World} {a:Addr} (h:w'.heap[a.block]? = w.heap[a.block]?):w'.cell? a=w.cell? a:=by
 simp only [World.cell?,h]
mutual
theorem R.mono {g g':Gh} {w w':World} (h:GLe g g' w w'):∀ {v:FV} {x:Value},R g w v x→R g' w' v x
 |_,_,.undef v=>.undef v
 |_,_,.bool b=>.bool b
 |_,_,.int k n=>.int k n
 |_,_,.str s=>.str s
 |_,_,.agg cs vs hr=>.agg cs vs (RL.mono h hr)
 |_,_,.tup cs vs hr=>.tup cs vs (RL.mono h hr)
 |_,_,.lst0 e a cap he=>.lst0 e a cap he
 |_,_,.lst e xs b o es cap cs hne he hle hZ hes hx hr hc =>
  .lst e xs b o es cap cs hne he hle (h.z b hZ) hes hx (RL.mono h hr) fun j v hj=>by
   rw [cell_of_heap (a:=⟨b,o + j,none⟩) (h.heap b hZ)];exact hc j v hj
 |_,_,.eptr cs off b o vs hne hZ hr hc =>
  .eptr cs off b o vs hne (h.z b hZ) (RL.mono h hr) fun j v hj=>by
   rw [cell_of_heap (a:=⟨b,o + j,none⟩) (h.heap b hZ)];exact hc j v hj
 |_,_,.ptr id s i off l a hk hs hh=>by
  obtain ⟨l',h1,h2,h3,h4⟩:=h.k id l hk
  exact .ptr id s i off l' a h1 (Nat.le_trans hs h2) fun e=>by
   have:l'=l:=h4 (.inl (by omega))
   subst this;exact hh e
 |_,_,.nilp=>.nilp
 |_,_,.sref es id s off len l a cap hk he hs hle ha hh=>by
  obtain ⟨l',h1,h2,h3,h4⟩:=h.k id l hk
  exact .sref es id s off len l' a cap h1 (h3.trans he) (Nat.le_trans hs h2) hle ha fun e=>by
   have:l'=l:=h4 (.inl (by omega))
   subst this;exact hh e
 |_,_,.map id b l hk hm hb=>by
  obtain ⟨l',h1,h2,h3,h4⟩:=h.k id l hk
  have:l'=l:=h4 (.inr hm)
  subst this
  exact .map id b l' h1 hm hb
 |_,_,.nilm=>.nilm
 |_,_,.fn f cs vs hlt hr=>.fn f cs vs hlt (RL.mono h hr)
 |_,_,.bf f cs vs hlt hr=>.bf f cs vs hlt (RL.mono h hr)
 |_,_,.nilf=>.nilf
 |_,_,.ifc t v x hr=>.ifc t v x (R.mono h hr)
 |_,_,.nili=>.nili
 |_,_,.yl f id cs l b r ct hge hk hm hb hr hf hc=>by
  obtain ⟨l',h1,h2,h3,h4⟩:=h.k id l hk
  have:l'=l:=h4 (.inr hm)
  subst this
  exact .yl f id cs l' b r ct hge h1 hm hb hr hf (RL.mono h hc)
theorem RL.mono {g g':Gh} {w w':World} (h:GLe g g' w w'):∀ {vs:List FV} {xs:List Value},RL g w vs xs→RL g' w' vs xs
 |_,_,.nil=>.nil
 |_,_,.cons v x vs xs hr hs=>.cons v x vs xs (R.mono h hr) (RL.mono h hs)
end
section
variable {g:Gh} {w:World}
theorem RL.length {vs:List FV} {xs:List Value} (h:RL g w vs xs):vs.length=xs.length:=by
 induction vs generalizing xs with
 |nil=>cases h;rfl
 |cons v vs ih=>cases h with | cons _ x _ xs hr hs=>simp [ih hs]
theorem RL.append {a b:List FV} {x y:List Value} (h:RL g w a x) (k:RL g w b y):RL g w (a ++ b) (x ++ y):=by
 induction a generalizing x with
 |nil=>cases h;exact k
 |cons v vs ih=>cases h with | cons _ z _ zs hr hs=>exact .cons v z _ _ hr (ih hs)
theorem RL.get {vs:List FV} {xs:List Value} (h:RL g w vs xs) (i:Nat) (v:FV) (hv:vs[i]? = some v):∃ x,xs[i]? = some x∧R g w v x:=by
 induction vs generalizing xs i with
 |nil=>simp at hv
 |cons u vs ih =>
  cases h with
  |cons _ z _ zs hr hs =>
   cases i with
   |zero=>simp at hv;subst hv;exact ⟨z,rfl,hr⟩
   |succ i=>simp at hv;exact ih hs i hv
theorem RL.take {vs:List FV} {xs:List Value} (h:RL g w vs xs) (n:Nat):RL g w (vs.take n) (xs.take n):=by
 induction vs generalizing xs n with
 |nil=>cases h;simp;exact .nil
 |cons u vs ih =>
  cases h with
  |cons _ z _ zs hr hs =>
   cases n with
   |zero=>exact .nil
   |succ n=>exact .cons _ _ _ _ hr (ih hs n)
theorem RL.drop {vs:List FV} {xs:List Value} (h:RL g w vs xs) (n:Nat):RL g w (vs.drop n) (xs.drop n):=by
 induction vs generalizing xs n with
 |nil=>cases h;simp;exact .nil
 |cons u vs ih =>
  cases h with
  |cons _ z _ zs hr hs =>
   cases n with
   |zero=>exact .cons _ _ _ _ hr hs
   |succ n=>exact ih hs n
theorem RL.cut {vs:List FV} {xs:List Value} (h:RL g w vs xs) (i j:Nat):RL g w (cut vs i j) (cut xs i j):=(h.drop i).take (j - i)
theorem RL.set {vs:List FV} {xs:List Value} (h:RL g w vs xs) (i:Nat) {v:FV} {x:Value} (hv:R g w v x):RL g w (vs.set i v) (xs.set i x):=by
 induction vs generalizing xs i with
 |nil=>cases h;exact .nil
 |cons u vs ih =>
  cases h with
  |cons _ z _ zs hr hs =>
   cases i with
   |zero=>exact .cons _ _ _ _ hv hs
   |succ i=>exact .cons _ _ _ _ hr (ih hs i)
theorem RL.splice {vs us:List FV} {xs ys:List Value} (h:RL g w vs xs) (k:RL g w us ys) (off:Nat):RL g w (splice vs off us) (xs.take off ++ ys ++ xs.drop (off + ys.length)):=by
 unfold FI.splice
 rw [k.length]
 exact ((h.take off).append k).append (h.drop _)
theorem R.cells {v:FV} {x:Value} (h:R g w v x) (hs:v.ok=true):RL g w v.cells x.cells.toList:=by
 cases h<;>first
  |(simp [FV.ok,FV.one] at hs;done)
  |(simp only [FV.cells,Value.cells];assumption)
  |(simp only [FV.cells,Value.cells];exact .cons _ _ _ _ (by constructor<;>assumption) .nil)
theorem cut_get {α:Type} (l:List α) (a b j:Nat) (v:α) (h:(cut l a b)[j]? = some v):l[a + j]? = some v:=by
 unfold cut at h
 rw [List.getElem?_take] at h
 split at h
 ·simpa [List.getElem?_drop] using h
 ·simp at h
theorem cut_length {α:Type} (l:List α) (a b:Nat) (h:b ≤ l.length):(cut l a b).length=b - a:=by
 simp [cut];omega
theorem flat_length {xs:List FV} {es:Nat} (hx:∀ x ∈ xs,x.cells.length=es):(xs.flatMap FV.cells).length=xs.length * es:=by
 induction xs with
 |nil=>simp
 |cons x xs ih =>
  simp only [List.flatMap_cons,List.length_append,List.length_cons]
  rw [ih (fun y hy=>hx y (by simp [hy])),hx x (by simp),Nat.add_mul];omega
theorem flat_drop {xs:List FV} {es:Nat} (hx:∀ x ∈ xs,x.cells.length=es) (i:Nat):(xs.flatMap FV.cells).drop (i * es)=(xs.drop i).flatMap FV.cells:=by
 induction xs generalizing i with
 |nil=>simp
 |cons x xs ih =>
  cases i with
  |zero=>simp
  |succ i =>
   have h0:=hx x (by simp)
   have e:(i + 1) * es=x.cells.length + i * es:=by rw [h0,Nat.add_mul];omega
   rw [List.flatMap_cons,e,← List.drop_drop,List.drop_left,List.drop_succ_cons]
   exact ih (fun y hy=>hx y (by simp [hy])) i
theorem flat_take {xs:List FV} {es:Nat} (hx:∀ x ∈ xs,x.cells.length=es) (i:Nat):(xs.flatMap FV.cells).take (i * es)=(xs.take i).flatMap FV.cells:=by
 induction xs generalizing i with
 |nil=>simp
 |cons x xs ih =>
  cases i with
  |zero=>simp
  |succ i =>
   have h0:=hx x (by simp)
   have e:(i + 1) * es=x.cells.length + i * es:=by rw [h0,Nat.add_mul];omega
   rw [List.flatMap_cons,e,List.take_append,List.take_succ_cons,List.flatMap_cons]
   rw [List.take_of_length_le (by omega),Nat.add_sub_cancel_left,ih (fun y hy=>hx y (by simp [hy])) i]
theorem flat_cut {xs:List FV} {es:Nat} (hx:∀ x ∈ xs,x.cells.length=es) {i:Nat} {x:FV} (hi:xs[i]? = some x):cut (xs.flatMap FV.cells) (i * es) (i * es + es)=x.cells:=by
 unfold cut
 rw [flat_drop hx,Nat.add_sub_cancel_left]
 have hlt:i < xs.length:=(List.getElem?_eq_some_iff.1 hi).1
 have he:xs[i]=x:=(List.getElem?_eq_some_iff.1 hi).2
 rw [List.drop_eq_getElem_cons hlt,List.flatMap_cons,he]
 have:x.cells.length=es:=hx x (by rw [← he];exact List.getElem_mem hlt)
 rw [← this]
 simp
theorem flat_set {xs:List FV} {es:Nat} (hx:∀ x ∈ xs,x.cells.length=es) {i:Nat} (hi:i < xs.length) {v:FV} (hv:v.cells.length=es) :
  splice (xs.flatMap FV.cells) (i * es) v.cells=(xs.set i v).flatMap FV.cells:=by
 unfold splice
 have e:i * es + v.cells.length=(i + 1) * es:=by rw [hv,Nat.add_mul];omega
 rw [e,flat_take hx,flat_drop hx,List.set_eq_take_append_cons_drop,if_pos hi]
 simp
structure RowOk (g:Gh) (w:World) (l:Loc) (es:Nat) (xs:List FV):Prop where
 hmp:l.mp=false
 hsize:l.size=xs.length
 hes:l.es=es
 pos:True
 elems:∀ x ∈ xs,x.cells.length=es∧x.ok=true
 hnone:l.blk=none→xs=[]∧l.cap=0
 hsome:∀ b,l.blk=some b→∃ arr t,w.heap[b]? = some (.cells arr t (0,0))∧arr.size=l.cap * es∧xs.length ≤ l.cap∧∃ cs,RL g w (xs.flatMap FV.cells) cs∧∀ (j:Nat) v,cs[j]? = some v→arr[j]? = some v
inductive EnOk (g:Gh) (w:World):List (FV × FV)→List MapEntry→Prop
 |nil:EnOk g w [] []
 |cons (k v:FV) (e:MapEntry) (en:List (FV × FV)) (es:List MapEntry) (hk:R g w k e.key) (hv:R g w v e.val) (hs:EnOk g w en es):EnOk g w ((k,v)::en) (e::es)
def Stamps (es:List MapEntry) (clock:Nat):Prop:=(∀ e ∈ es,e.born < clock)∧(es.map (·.born)).Nodup
structure MapOk (g:Gh) (w:World) (l:Loc) (en:List (FV × FV)):Prop where
 hmp:l.mp=true
 hlp:l.lp=none
 hsome:∃ b es clock,l.blk=some b∧w.heap[b]? = some (.map es clock)∧EnOk g w en es.toList∧Stamps es.toList clock
def stO:Nat→LoopState
 |0=>.ready
 |1=>.busy
 |2=>.done
 |_=>.exhausted
def jpO:Nat→Option Code
 |0=>none
 |1=>some .ret
 |e + 2=>some (.exit e)
structure LpOk (w:World) (l:Loc) (st jp:Nat):Prop where
 hmp:l.mp=true
 hsome:∃ b r,l.blk=some b∧l.lp=some r∧w.heap[b]? = some (.loop { r with state:=stO st,pending:=jpO jp })
structure SitOk (w:World) (l:Loc) (s:List UInt8) (pos:Nat):Prop where
 hmp:l.mp=true
 hlp:l.lp=none
 hsize:l.size=1
 hsome:∃ b,l.blk=some b∧w.heap[b]? = some (.stringIter ⟨s.toArray⟩ pos)
structure MitOk (g:Gh) (w:World) (l:Loc):Prop where
 hmp:l.mp=true
 hlp:l.lp=none
 hsize:l.size=1
 hsome:∃ b m s sn k,l.blk=some b∧g.Z b∧w.heap[b]? = some (.mapIter m s sn k)
def ObjOk (g:Gh) (w:World) (l:Loc):Obj→Prop
 |.row es xs=>RowOk g w l es xs
 |.fro es xs=>RowOk g w l es xs∧∀ b,l.blk=some b→g.Z b
 |.mp en=>MapOk g w l en
 |.lp st jp=>LpOk w l st jp
 |.fmp en=>MapOk g w l en∧∀ b,l.blk=some b→g.Z b
 |.sit s pos=>SitOk w l s pos
 |.mit=>MitOk g w l
def isFro:Option Obj→Bool
 |some (.fro _ _)=>true
 |some (.fmp _)=>true
 |some .mit=>true
 |_=>false
structure Inv (B:Nat) (w0:World) (g:Gh) (h:Heap) (w:World):Prop where
 dom:∀ id l,g.κ id=some l→∃ o,hget h id=some o
 obj:∀ id o l,hget h id=some o→g.κ id=some l→ObjOk g w l o
 inj:∀ i j li lj b,g.κ i=some li→g.κ j=some lj→li.blk=some b→lj.blk=some b→i=j
 own:∀ i l b,g.κ i=some l→l.blk=some b→B ≤ b∧(isFro (hget h i)=false→¬ g.Z b)∧b < w.heap.size
 zlt:∀ b,g.Z b→b < w.heap.size
 below:Below B w0 w
 size:B ≤ w.heap.size
theorem Inv.obj' {B:Nat} {w0:World} {h:Heap} (hI:Inv B w0 g h w) {id:Nat} {l:Loc} {o:Obj} (hk:g.κ id=some l) (hg:hget h id=some o):∃ l',g.κ id=some l'∧ObjOk g w l' o:=⟨l,hk,hI.obj id o l hg hk⟩
end
end Go.FI
namespace Go.FI
open Go.RowKit
variable [Sys]
def okV1:Value→FV→Bool
 |.bool a,.bool b=>a == b
 |.int k a,.int j b=>decide (k=j) && decide (a=b)
 |.string s,.str l=>s.data.toList == l
 |.slice none 0 0,.lst _ []=>true
 |.pointer none,.nilp=>true
 |.map none,.nilm=>true
 |.nilFunc,.nilf=>true
 |.nilIface,.nili=>true
 |_,_=>false
def okVs:List Value→List FV→Bool
 |[],[]=>true
 |v::vs,c::cs=>okV1 v c && okVs vs cs
 |_,_=>false
def okV (v:Value) (f:FV):Bool :=
 match v,f with
 |.agg vs,.agg cs=>okVs vs.toList cs
 |v,f=>okV1 v f
def okX:Operand→X→Bool
 |.tmp t,.t n=>t == n
 |.const v,.c f=>okV v f
 |.func f,.c (.fn g [])=>f == g && decide (f < RB)
 |.global k,.c (.eptr cs 0)=>Sys.gl k cs
 |_,_=>false
def okXs:List Operand→List X→Bool
 |[],[]=>true
 |x::xs,y::ys=>okX x y && okXs xs ys
 |_,_=>false
section
variable {g:Gh} {w:World} {P:Program}
theorem R_okV1 {v:Value} {f:FV} (h:okV1 v f=true):R g w f v:=by
 unfold okV1 at h
 split at h<;>simp at h
 ·subst h;exact .bool _
 ·obtain ⟨rfl,rfl⟩:=h;exact .int _ _
 ·rename_i s l;subst h;exact .str s
 ·exact .lst0 _ _ _ (fun _=>rfl)
 ·exact .nilp
 ·exact .nilm
 ·exact .nilf
 ·exact .nili
theorem RL_okVs {vs:List Value} {cs:List FV} (h:okVs vs cs=true):RL g w cs vs:=by
 induction vs generalizing cs with
 |nil=>cases cs<;>simp [okVs] at h;exact .nil
 |cons v vs ih =>
  cases cs with
  |nil=>simp [okVs] at h
  |cons c cs =>
   simp [okVs] at h
   exact .cons _ _ _ _ (R_okV1 h.1) (ih h.2)
theorem R_okV {v:Value} {f:FV} (h:okV v f=true):R g w f v:=by
 unfold okV at h
 split at h
 ·rename_i vs cs;exact .agg cs vs.toList (RL_okVs h)
 ·exact R_okV1 h
def GlOk (g:Gh) (w:World):Prop:=∀ k cs,Sys.gl k cs=true→R g w (.eptr cs 0) (.pointer (some ⟨k,0,none⟩))
structure RT (g:Gh) (w:World) (m:Tm) (a:Act):Prop where
 rt:∀ t,R g w (gt m t) (a.tmps.getD t undef)
 gl:GlOk g w
instance {g:Gh} {w:World} {m:Tm} {a:Act}:CoeFun (RT g w m a) (fun _=>∀ t,R g w (gt m t) (a.tmps.getD t undef)):=⟨RT.rt⟩
theorem R_okX {m:Tm} {a:Act} (hm:RT g w m a) {x:Operand} {y:X} (h:okX x y=true):R g w (ev m y) (a.eval x):=by
 unfold okX at h
 split at h
 ·simp at h;subst h;exact hm _
 ·exact R_okV h
 ·simp at h;obtain ⟨rfl,h⟩:=h;exact .fn _ [] [] h .nil
 ·exact hm.gl _ _ h
 ·simp at h
theorem RL_okXs {m:Tm} {a:Act} (hm:RT g w m a) {xs:List Operand} {ys:List X} (h:okXs xs ys=true):RL g w (evs m ys) (xs.map a.eval):=by
 induction xs generalizing ys with
 |nil=>cases ys<;>simp [okXs] at h;exact .nil
 |cons v vs ih =>
  cases ys with
  |nil=>simp [okXs] at h
  |cons c cs =>
   simp [okXs] at h
   exact .cons _ _ _ _ (R_okX hm h.1) (ih h.2)
def isAggB (P:Program) (t:TypeId):Bool :=
 match P.underlying t with
 |some (.struct _) | some (.array _ _)=>true
 |_=>false
def sizeIs (P:Program) (t:TypeId) (n:Nat):Bool:=(P.info? t).map (·.size) == some n
def okAg (P:Program) (t:TypeId) (ag:Option Nat):Bool :=
 match ag with
 |none=>!isAggB P t && (P.underlying t).isSome
 |some n=>isAggB P t && sizeIs P t n
def posSize (P:Program) (t:TypeId):Bool :=
 match P.info? t with
 |some i=>i.size != 0
 |none=>false
def structOff (P:Program) (t:TypeId) (f off:Nat):Bool :=
 match P.underlying t with
 |some (.struct fs)=>match fs[f]? with
  |some fd=>fd.offset == off && posSize P fd.type
  |none=>false
 |_=>false
def isDesc (P:Program) (t:TypeId) (p:TypeDesc→Bool):Bool :=
 match P.underlying t with
 |some d=>p d
 |none=>false
def isStr:TypeDesc→Bool | .string=>true | _=>false
def isBool:TypeDesc→Bool | .bool=>true | _=>false
def isMap:TypeDesc→Bool | .map _ _=>true | _=>false
def isSl (P:Program) (es:Nat):TypeDesc→Bool | .slice e=>sizeIs P e es && decide (0 < es) | _=>false
def isSlice:TypeDesc→Bool | .slice _=>true | _=>false
def isArr (P:Program) (n es:Nat):TypeDesc→Bool | .array n' e=>n' == n && sizeIs P e es | _=>false
def isInt (k:IntKind):TypeDesc→Bool | .int j=>decide (j=k) | _=>false
def isIface:TypeDesc→Bool | .interface _=>true | _=>false
def okOpt:Option Operand→Option X→Bool
 |none,none=>true
 |some x,some y=>okX x y
 |_,_=>false
def zeroIs (P:Program) (t:TypeId) (z:List FV):Bool :=
 match P.info? t with
 |some i=>match i.zero with
  |some v=>okVs v.cells.toList z
  |none=>false
 |none=>false
def okPart (P:Program) (d:TypeDesc) (i off sz:Nat):Bool :=
 match d with
 |.struct fs=>match fs[i]? with
  |some f=>f.offset == off && sizeIs P f.type sz
  |none=>false
 |.array _ e=>i * sz == off && sizeIs P e sz
 |_=>false
def okParts (P:Program) (d:TypeDesc):List (Nat × Operand)→List (Nat × Nat × X)→Bool
 |[],[]=>true
 |(i,x)::ps,(off,sz,y)::qs=>okX x y && okPart P d i off sz && okParts P d ps qs
 |_,_=>false
def fieldsKnown (P:Program):TypeDesc→Bool
 |.struct fs=>fs.toList.all fun f=>(P.info? f.type).isSome
 |.array _ e=>(P.info? e).isSome
 |_=>false
def isKd:Nat→TypeDesc→Bool
 |0,.int _=>true
 |1,.string=>true
 |2,.bool=>true
 |_,_=>false
def okEqF (P:Program):Nat→List Field→List Nat→Bool
 |_,[],[]=>true
 |i, f :: fs, k :: ks => f.name != "_" && f.offset == i && isDesc P f.type (isKd k) && okEqF P (i + 1) fs ks
 |_,_,_=>false
def okOp (P:Program) (op:Op):O→Bool
 |.mv y=>match op with
  |.move x | .assign x=>okX x y
  |_=>false
 |.pk c a b=>match op with
  |.pick c' a' b'=>okX c' c && okX a' a && okX b' b
  |_=>false
 |.bo p a b=>match op with
  |.binOp p' _ x y _=>decide (p'=p) && okX x a && okX y b
  |_=>false
 |.be neg a b=>match op with
  |.binOp p t x y _=>decide (p=if neg=true then .neq else .eql) && okX x a && okX y b && isDesc P t isBool
  |_=>false
 |.eq neg ks a b=>match op with
  |.binOp p t x y _=>decide (p=if neg=true then .neq else .eql) && okX x a && okX y b && !P.eqGuardType P.depth t && !P.stoodInHeld t && (match P.underlying t with | some (.struct fs)=>okEqF P 0 fs.toList ks | _=>false)
  |_=>false
 |.un p a=>match op with
  |.unOp p' _ x=>decide (p'=p) && okX x a
  |_=>false
 |.ix x i=>match op with
  |.index t x' i'=>okX x' x && okX i' i && isDesc P t isStr
  |_=>false
 |.ln k x=>match op with
  |.call ⟨.builtin .len,args,ts⟩=>match args.toList,ts.toList with
   |[x'],[t]=>okX x' x && isDesc P t (match k with | 0=>isStr | 1=>isSlice | _=>isMap)
   |_,_=>false
  |_=>false
 |.mx a b=>match op with
  |.call ⟨.builtin .max,args,_⟩=>okXs args.toList [a,b]
  |_=>false
 |.mn a b=>match op with
  |.call ⟨.builtin .min,args,_⟩=>okXs args.toList [a,b]
  |_=>false
 |.cv k x=>match op with
  |.convert s d x'=>okX x' x && (P.underlying s).isSome && isDesc P d (isInt k)
  |_=>false
 |.ld ag x=>match op with
  |.load t x'=>okX x' x && okAg P t ag
  |_=>false
 |.fa off x=>match op with
  |.fieldAddr t x' f=>okX x' x && structOff P t f off
  |_=>false
 |.fd ag off x=>match op with
  |.field t x' f=>okX x' x && (match P.underlying t with
    |some (.struct fs)=>match fs[f]? with
     |some fd=>fd.offset == off && okAg P fd.type ag
     |none=>false
    |_=>false)
  |_=>false
 |.ia es x i=>match op with
  |.indexAddr t x' i'=>okX x' x && okX i' i && isDesc P t (isSl P es)
  |_=>false
 |.aa n es x i=>match op with
  |.indexAddr t x' i'=>okX x' x && okX i' i && isDesc P t (isArr P n es)
  |_=>false
 |.nc x=>match op with
  |.nilCheck x'=>okX x' x
  |_=>false
 |.ex x i=>match op with
  |.extract x' i'=>okX x' x && i' == i
  |_=>false
 |.sl es x lo hi=>match op with
  |.slice t x' lo' hi' none=>okX x' x && okOpt lo' lo && okOpt hi' hi && isDesc P t (if es=0 then isStr else isSl P es)
  |_=>false
 |.bd z ps=>match op with
  |.build t qs=>zeroIs P t z && isDesc P t (fun d=>fieldsKnown P d && okParts P d qs.toList ps)
  |_=>false
 |.mf f caps=>match op with
  |.makeFunc (.func f') first caps'=>(f' == f && decide (f < RB) && first.isEmpty && okXs caps'.toList caps) || (f' + OB == f && decide (f' < RB) && caps'.isEmpty && okXs first.toList caps)
  |_=>false
 |.mi t x=>match op with
  |.makeInterface t' x'=>t' == t && okX x' x && isDesc P t (fun d=>!isIface d)
  |_=>false
 |.ta t z x=>match op with
  |.typeAssert x' _ t' true=>t' == t && okX x' x && (match P.underlying t with | some (.interface _)=>false | some _=>true | none=>false) && (match P.info? t with
    |some i=>match i.zero with
     |some v=>okV v z
     |none=>false
    |none=>false)
  |_=>false
 |.sn neg x=>match op with
  |.binOp p t x' y _=>decide (p=if neg=true then .neq else .eql) && (okX x' x && (match y with | .const (.slice none 0 0)=>true | _=>false) || okX y x && (match x' with | .const (.slice none 0 0)=>true | _=>false)) && isDesc P t isSlice
  |_=>false
 |.ib x y=>match op with
  |.call ⟨.value (.func f),args,_⟩=>okXs args.toList [x,y] && (match P.funcs[f]? with
    |some fn => fn.name == "internal/bytealg.IndexByteString" && fn.origin == "" && fn.body.isNone
    |none=>false)
  |_=>false
 |.bad=>match op with
  |.defer _=>false
  |_=>true
 |.isn neg x=>match op with
  |.binOp p t x' y _=>decide (p=if neg=true then .neq else .eql) && (okX x' x && (match y with | .const .nilIface=>true | _=>false) || okX y x && (match x' with | .const .nilIface=>true | _=>false)) && isDesc P t (fun d=>match d with | .interface _=>true | _=>false)
  |_=>false
 |.xa n es ag x i=>match op with
  |.index t x' i'=>okX x' x && okX i' i && (match P.underlying t with | some (.array n' e)=>n' == n && sizeIs P e es && okAg P e ag | _=>false)
  |_=>false
 |.cs x=>match op with
  |.convert s d x'=>okX x' x && isDesc P s (fun t=>match t with | .slice e=>isDesc P e (isInt .u8) | _=>false) && isDesc P d isStr
  |_=>false
 |.sx x y=>match op with
  |.call ⟨.value (.func f),args,_⟩=>okXs args.toList [x,y] && (match P.funcs[f]? with
    |some fn => fn.name == "internal/bytealg.abigen_runtime_cmpstring" && fn.origin == "" && fn.body.isNone
    |none=>false)
  |_=>false
 |_=>false
theorem run_isAgg (t:TypeId) (w:World) (h:(P.underlying t).isSome=true):(isAgg t).run P w=.ok (isAggB P t) w:=by
 cases hu:P.underlying t with
 |none=>simp [hu] at h
 |some d=>simp [isAgg,underlying,isAggB,hu];cases d<;>rfl
theorem run_sizeOf {t:TypeId} {n:Nat} (w:World) (h:sizeIs P t n=true):(sizeOf t).run P w=.ok n w:=by
 cases hi:P.info? t with
 |none=>simp [sizeIs,hi] at h
 |some i=>simp [sizeIs,hi] at h;simp [sizeOf,typeInfo,hi,h]
theorem wrap_of_pick {b:Bool} {x y:FV} {vx vy:Value} (hx:R g w x vx) (hy:R g w y vy):R g w (if b=true then x else y) (if b=true then vx else vy):=by
 cases b<;>simpa
theorem toList_eq (a:ByteArray):a.toList=a.data.toList:=ByteArray.toList_eq a
theorem binop_sound {op:BinOp} {x y v:FV} {vx vy:Value} {t:TypeId} (hx:R g w x vx) (hy:R g w y vy) (h:binop op x y=some v) :
  ∃ z,(binOp op t vx vy).run P w=.ok z w∧R g w v z:=by
 unfold binop at h
 split at h
 ·rename_i k a j b
  cases hx;cases hy
  split at h
  ·unfold chk at h;split at h<;>simp at h
   rename_i hb;subst h
   refine ⟨_,?_,.int _ _⟩
   simp [binOp,Op.shift,shl,Int.not_lt.2 hb]
  ·unfold chk at h;split at h<;>simp at h
   rename_i hb;subst h
   refine ⟨_,?_,.int _ _⟩
   simp [binOp,Op.shift,shr,Int.not_lt.2 hb]
  ·unfold chk at h;split at h<;>try (simp at h;done)
   rename_i hkj;subst hkj
   cases op<;>simp [intBin,chk] at h
   case quo =>
    obtain ⟨hb,rfl⟩:=h
    exact ⟨_,by simp [binOp,Op.intDiv,hb],.int _ _⟩
   case rem =>
    obtain ⟨hb,rfl⟩:=h
    exact ⟨_,by simp [binOp,Op.intDiv,hb],.int _ _⟩
   all_goals
    subst h
    first
     |(refine ⟨_,?_,R.int _ _⟩;simp [binOp,Op.intArith,Op.intBits,Op.intCmp,band,bor,bxor,bandnot])
     |(refine ⟨_,?_,R.bool _⟩;simp [binOp,Op.intArith,Op.intBits,Op.intCmp])
 ·rename_i a b
  cases hx with | str sa =>
  cases hy with | str sb =>
  cases op<;>simp only [strBin,chk,reduceCtorEq,Option.some.injEq] at h
  case add =>
   split at h<;>simp at h
   rename_i hl;subst h
   refine ⟨.string (sa ++ sb),?_,?_⟩
   ·have:((sa.size + sb.size:Nat):Int) ≤ IntKind.i64.max:=by
     have e1:sa.data.toList.length=sa.size:=rfl
     have e2:sb.data.toList.length=sb.size:=rfl
     have e3:IntKind.i64.max=9223372036854775807:=by decide
     rw [e3];omega
    simp only [binOp,Op.stringOp]
    rw [if_neg (Int.not_lt.2 this)]
    rfl
   ·have:(sa ++ sb).data.toList=sa.data.toList ++ sb.data.toList:=by simp [ByteArray.data_append]
    rw [← this]
    exact .str _
  all_goals
   subst h
   refine ⟨_,?_,R.bool _⟩
   simp only [binOp,Op.stringOp,toList_eq,Sem.run_pure]
 ·simp at h
theorem desc_of {t:TypeId} {p:TypeDesc→Bool} (h:isDesc P t p=true):∃ d,P.underlying t=some d∧p d=true:=by
 unfold isDesc at h
 split at h
 ·exact ⟨_,by assumption,h⟩
 ·simp at h
theorem add_addr (b o n:Nat):(⟨b,o,none⟩:Addr).add n=⟨b,o + n,none⟩:=by
 unfold Addr.add;split<;>simp_all
theorem load_cells {t:TypeId} {ag:Option Nat} {b o off:Nat} {fs:List FV} {cs:List Value} {v:FV} (hr:RL g w fs cs) (hc:∀ (j:Nat) v,cs[j]? = some v→w.cell? ⟨b,o + j,none⟩=some v)
  (hok:okAg P t ag=true) (h:cellsAt fs ag off=some v):∃ x,(loadVar t ⟨b,o + off,none⟩).run P w=.ok x w∧R g w v x:=by
 cases ag with
 |none =>
  simp only [okAg,Bool.and_eq_true,Bool.not_eq_true'] at hok
  obtain ⟨x,hx,hR⟩:=hr.get off v h
  refine ⟨x,?_,hR⟩
  simp [loadVar,run_isAgg t w hok.2,hok.1,hc off x hx]
 |some n =>
  simp only [okAg,Bool.and_eq_true] at hok
  simp only [cellsAt,chk] at h
  split at h<;>simp at h
  rename_i hle
  subst h
  have hu:(P.underlying t).isSome=true:=by
   have:=hok.1;unfold isAggB at this;split at this<;>simp_all
  have hR:=hr.cut off (off + n)
  have hlen:(cut cs off (off + n)).length=n:=by rw [cut_length _ _ _ (by rw [← hr.length];exact hle)];omega
  refine ⟨.agg (cut cs off (off + n)).toArray,?_,.agg _ _ hR⟩
  have hl:=run_loadCells_list (P:=P) (w:=w) ⟨b,o + off,none⟩ (cut cs off (off + n)) (fun j v hj=>by
   rw [add_addr]
   have:=hc _ v (cut_get _ _ _ _ _ hj)
   rw [Nat.add_assoc];exact this)
  rw [hlen] at hl
  simp [loadVar,run_isAgg t w hu,hok.1,run_sizeOf w hok.2,hl]
theorem loadv_sound {B:Nat} {w0:World} {h:Heap} (hI:Inv B w0 g h w) {t:TypeId} {ag:Option Nat} {p v:FV} {x:Value} (hp:R g w p x) (hok:okAg P t ag=true) (hv:loadv h ag p=some v) :
  ∃ a z,x=.pointer (some a)∧(loadVar t a).run P w=.ok z w∧R g w v z:=by
 unfold loadv at hv
 split at hv
 ·rename_i id stamp i off
  cases hp with
  |ptr _ _ _ _ l a hk hs hh =>
  split at hv
  iterate 2
   ·rename_i es xs hg
    simp only [chk] at hv
    split at hv
    ·rename_i hst
     obtain ⟨l',hk',hrow⟩:=hI.obj' hk hg
     rw [hk] at hk';cases hk'
     have hrow:RowOk g w l es xs:=by first | exact hrow | exact hrow.1
     obtain ⟨b,hb,rfl⟩:=hh (by rw [hrow.hsize];exact hst.symm)
     obtain ⟨arr,tt,h1,h2,h3,cs,h4,h5⟩:=hrow.hsome b hb
     cases hxi:xs[i]? with
     |none=>simp [bnd,hxi] at hv
     |some e =>
      simp [bnd,hxi] at hv
      have hcut:=h4.cut (i * es) (i * es + es)
      rw [flat_cut (fun y hy=>(hrow.elems y hy).1) hxi] at hcut
      obtain ⟨z,hz,hR⟩:=load_cells (P:=P) (b:=b) (o:=i * es) (off:=off) hcut (fun j v hj=>by
       have:=h5 _ _ (cut_get _ _ _ _ _ hj)
       simp [World.cell?,h1,this]) hok hv
      exact ⟨_,z,rfl,by rw [hrow.hes];exact hz,hR⟩
    ·simp at hv
  ·simp at hv
 ·rename_i cs off
  cases hp with
  |eptr _ _ b o vs hne hZ hr hc =>
  obtain ⟨z,hz,hR⟩:=load_cells (P:=P) hr hc hok hv
  exact ⟨_,z,rfl,hz,hR⟩
 ·simp at hv
end
end Go.FI
namespace Go.FI
open Go.RowKit
variable [Sys]
section
variable {g:Gh} {w:World} {P:Program}
mutual
theorem eqv_self:∀ a:FV,eqv a a=true
 |.undef | .nilp | .nilm | .nilf | .nili=>by simp [eqv]
 |.bool _ | .int _ _ | .str _ | .ptr .. | .sref .. | .map _=>by simp [eqv]
 |.agg a | .tup a=>by simp [eqv,eqvs_self a]
 |.lst _ a | .eptr a _ | .fn _ a=>by simp [eqv,eqvs_self a]
 |.yl _ _ a=>by simp [eqv,eqvs_self a]
 |.ifc _ a=>by simp [eqv,eqv_self a]
 |.pan a=>by simp [eqv,eqv_self a]
theorem eqvs_self:∀ a:List FV,eqvs a a=true
 |[]=>by simp [eqvs]
 |a::r=>by simp [eqvs,eqv_self a,eqvs_self r]
end
theorem still_some {h:Heap} {m:Tm} {o:O} {d:Nat} (hs:still h m o d=true):opv h m o=some (gt m d):=by
 unfold still at hs
 split at hs
 ·rename_i hv;rw [hv,eqv_eq hs]
 ·simp at hs
theorem unop_sound {op:UnOp} {x v:FV} {vx:Value} (hx:R g w x vx) (h:unop op x=some v):∃ z,(Op.unary op vx).run P w=.ok z w∧R g w v z:=by
 unfold unop at h
 split at h
 ·rename_i k a
  cases hx
  split at h<;>simp at h
  ·subst h;exact ⟨_,by simp [Op.unary,Op.intArith],.int _ _⟩
  ·subst h;exact ⟨_,by simp [Op.unary,Op.intBits,bxor],.int _ _⟩
 ·rename_i b
  cases hx
  split at h<;>simp at h
  subst h;exact ⟨_,by simp [Op.unary],.bool _⟩
 ·simp at h
theorem asInt_sound {x:FV} {vx:Value} {n:Int} (hx:R g w x vx) (h:asInt x=some n):∃ k,vx=.int k n:=by
 unfold asInt at h
 split at h<;>simp at h
 subst h;cases hx;exact ⟨_,rfl⟩
theorem sliceBound_run (k:IntKind) (i:Int) (y:Nat) (code:BoundsCode) (h0:0 ≤ i) (h1:i ≤ y):(Instr.sliceBound (.int k i) y code).run P w=.ok i.toNat w:=by
 simp [Instr.sliceBound,asIntOf,h0,h1]
theorem sliceBounds_run {m:Tm} {a:Act} (hm:RT g w m a) {lo hi:Option X} {lo' hi':Option Operand} (hlo:okOpt lo' lo=true) (hhi:okOpt hi' hi=true) (sl:Bool) (len cap:Nat) {l h:Int}
  (eh:optInt m len hi=some h) (el:optInt m 0 lo=some l) (h0:0 ≤ l) (h1:l ≤ h) (h2:h ≤ len) (hc:len ≤ cap) :
  (Instr.sliceBounds sl len cap (lo'.map a.eval) (hi'.map a.eval) none).run P w=.ok (l.toNat,h.toNat,cap) w:=by
 have eqh:∀ k,(Instr.sliceBound (.int k h) cap (if sl then .sliceAcap else .sliceAlen)).run P w=.ok h.toNat w:=fun k=>sliceBound_run _ _ _ _ (by omega) (by omega)
 have eql:∀ k,(Instr.sliceBound (.int k l) h.toNat .sliceB).run P w=.ok l.toNat w:=fun k=>sliceBound_run _ _ _ _ (by omega) (by omega)
 cases hi with
 |none =>
  cases hi'<;>simp [okOpt] at hhi
  simp [optInt] at eh;subst eh
  cases lo with
  |none =>
   cases lo'<;>simp [okOpt] at hlo
   simp [optInt] at el;subst el
   simp [Instr.sliceBounds]
  |some x =>
   cases lo'<;>simp [okOpt] at hlo
   obtain ⟨k,hk⟩:=asInt_sound (R_okX hm hlo) el
   have:=eql k
   simp at this
   simp [Instr.sliceBounds,hk,this]
 |some y =>
  cases hi'<;>simp [okOpt] at hhi
  obtain ⟨k,hk⟩:=asInt_sound (R_okX hm hhi) eh
  have eh':=eqh k
  cases lo with
  |none =>
   cases lo'<;>simp [okOpt] at hlo
   simp [optInt] at el;subst el
   simp [Instr.sliceBounds,hk,eh']
  |some x =>
   cases lo'<;>simp [okOpt] at hlo
   obtain ⟨k',hk'⟩:=asInt_sound (R_okX hm hlo) el
   simp [Instr.sliceBounds,hk,eh',hk',eql k']
theorem slice_sound {m:Tm} {a:Act} (hm:RT g w m a) {t:TypeId} {es:Nat} {x v:FV} {vx:Value} {lo hi:Option X} {lo' hi':Option Operand} (hx:R g w x vx)
  (hlo:okOpt lo' lo=true) (hhi:okOpt hi' hi=true) (ht:isDesc P t (if es=0 then isStr else isSl P es)=true) (h:slice m es x lo hi=some v) :
  ∃ z,(Instr.sliceAt t vx (lo'.map a.eval) (hi'.map a.eval) none).run P w=.ok z w∧R g w v z:=by
 obtain ⟨d,hd,hp⟩:=desc_of ht
 unfold slice at h
 split at h
 ·rename_i s
  obtain ⟨hi1,eh,hB⟩:=bnd_some h
  obtain ⟨lo1,el,hC⟩:=bnd_some hB
  obtain ⟨⟨h0,h1,h2,h3⟩,hD⟩:=chk_some hC
  clear h hB hC
  subst h0
  simp at hD;subst hD
  simp at hp
  cases hx with | str s =>
  have:d=.string:=by cases d<;>simp [isStr] at hp;rfl
  subst this
  have hb:=sliceBounds_run (P:=P) (w:=w) hm hlo hhi false s.data.toList.length s.data.toList.length eh el h1 h2 h3 (Nat.le_refl _)
  have e:s.data.toList.length=s.size:=rfl
  rw [e] at hb
  refine ⟨.string (s.extract lo1.toNat hi1.toNat),?_,?_⟩
  ·simp [Instr.sliceAt,underlying,hd,Instr.slice,hb]
  ·have:(s.extract lo1.toNat hi1.toNat).data.toList=cut s.data.toList lo1.toNat hi1.toNat:=by
    simp [cut,ByteArray.data_extract]
   rw [← this];exact .str _
 ·rename_i e xs
  obtain ⟨hi1,eh,hB⟩:=bnd_some h
  obtain ⟨lo1,el,hC⟩:=bnd_some hB
  obtain ⟨⟨⟨h0,h1,h2,h3⟩,hes⟩,hD⟩:=chk_some hC
  clear h hB hC
  simp [h0] at hp
  simp at hD;subst hD
  cases d<;>simp [isSl] at hp
  rename_i elem
  have hrest:∀ (aa:Option Addr) (cap:Nat),xs.length ≤ cap→(Instr.sliceAt t (.slice aa xs.length cap) (lo'.map a.eval) (hi'.map a.eval) none).run P w=.ok (.slice (if cap=lo1.toNat then aa else aa.map (·.add (lo1.toNat * es))) (hi1.toNat - lo1.toNat) (cap - lo1.toNat)) w:=by
   intro aa cap hc
   have hb:=sliceBounds_run (P:=P) (w:=w) hm hlo hhi true xs.length cap eh el h1 h2 h3 hc
   simp [Instr.sliceAt,underlying,hd,Instr.slice,hb,run_sizeOf w hp.1]
  cases hx with
  |lst0 _ aa cap he =>
   refine ⟨_,hrest aa cap (Nat.zero_le _),?_⟩
   simp at h3
   have e1:hi1.toNat=0:=by omega
   have e2:lo1.toNat=0:=by omega
   have e3:hi1=0:=by omega
   rw [e1,e2]
   simp only [cut,List.drop_nil,List.take_nil]
   refine .lst0 _ _ _ fun he'=>?_
   simp at he'
   have:=he he'.1
   omega
  |lst _ _ b o es' cap cs hne he hle hZ hes' hx' hr hc =>
   refine ⟨_,hrest _ cap hle,?_⟩
   have ees:es'=es:=by
    cases xs with
    |nil=>simp at hne
    |cons y ys=>have:=hx' y (by simp);simp [lstOk] at hes;omega
   subst ees
   by_cases hem:lo1.toNat=hi1.toNat
   ·rw [hem,Nat.sub_self]
    have:cut xs hi1.toNat hi1.toNat=[]:=by simp [cut]
    rw [this]
    refine .lst0 _ _ _ fun he'=>?_
    simp at he'
    have:=he he'.1
    omega
   ·have hl:(cut xs lo1.toNat hi1.toNat).length=hi1.toNat - lo1.toNat:=cut_length _ _ _ (by omega)
    rw [if_neg (by omega),← hl]
    simp only [Option.map_some,add_addr]
    have hflat:(cut xs lo1.toNat hi1.toNat).flatMap FV.cells=cut (xs.flatMap FV.cells) (lo1.toNat * es') (hi1.toNat * es'):=by
     have hx'':∀ x ∈ xs.drop lo1.toNat,x.cells.length=es':=fun x hx=>(hx' x (List.mem_of_mem_drop hx)).1
     unfold cut
     rw [flat_drop (fun x hx=>(hx' x hx).1),← Nat.mul_sub_right_distrib,flat_take hx'']
    refine .lst _ _ b (o + lo1.toNat * es') es' _ (cut cs (lo1.toNat * es') (hi1.toNat * es')) ?_ ?_ ?_ hZ hes' ?_ ?_ ?_
    ·intro e;rw [e] at hl;simp at hl;omega
    ·intro he'
     simp at he'
     have:=he he'.1
     omega
    ·omega
    ·intro x hx
     refine hx' x ?_
     unfold cut at hx
     exact List.mem_of_mem_drop (List.mem_of_mem_take hx)
    ·rw [hflat];exact hr.cut _ _
    ·intro j v hj
     have:=hc _ v (cut_get _ _ _ _ _ hj)
     rw [Nat.add_assoc];exact this
 ·rename_i es' id stamp off len
  obtain ⟨hi1,eh,hB⟩:=bnd_some h
  obtain ⟨lo1,el,hC⟩:=bnd_some hB
  obtain ⟨⟨h0,hes,h1,h2,h3⟩,hD⟩:=chk_some hC
  clear h hB hC
  subst h0
  simp [hes] at hp
  simp at hD;subst hD
  cases d<;>simp [isSl] at hp
  rename_i elem
  cases hx with
  |sref _ _ _ _ _ l aa cap hk he hs hle ha hh =>
  have hb:=sliceBounds_run (P:=P) (w:=w) hm hlo hhi true len cap eh el h1 h2 h3 hle
  refine ⟨.slice (if cap=lo1.toNat then aa else aa.map (·.add (lo1.toNat * es'))) (hi1.toNat - lo1.toNat) (cap - lo1.toNat),by simp [Instr.sliceAt,underlying,hd,Instr.slice,hb,run_sizeOf w hp.1],?_⟩
  refine .sref _ _ _ _ _ l _ _ hk he hs (by omega) ?_ ?_
  ·intro hpos
   rw [if_neg (by omega)]
   have:=ha (by omega)
   cases aa<;>simp at this ⊢
  ·intro e
   obtain ⟨h4,h5,h6⟩:=hh e
   refine ⟨by omega,by omega,fun hpos=>?_⟩
   obtain ⟨b,hb1,hb2⟩:=h6 (by omega)
   refine ⟨b,hb1,?_⟩
   rw [if_neg (by omega),hb2]
   simp only [Option.map_some,add_addr,he]
   rw [Nat.add_mul]
 ·simp at h
end
end Go.FI
namespace Go.FI
open Go.RowKit
variable [Sys]
section
variable {g:Gh} {w:World} {P:Program}
theorem okXs_two {xs:List Operand} {a b:X} (h:okXs xs [a,b]=true):∃ x y,xs=[x,y]∧okX x a=true∧okX y b=true:=by
 match xs with
 |[]=>simp [okXs] at h
 |[x]=>simp [okXs] at h
 |[x,y]=>simp [okXs] at h;exact ⟨x,y,rfl,h.1,h.2⟩
 |x::y::z::r=>simp [okXs] at h
theorem arr_of_toList {α:Type} {a:Array α} {l:List α} (h:a.toList=l):a=l.toArray:=by cases a;simp at h;simp [h]
theorem R_bool {b:Bool} {x:Value} (h:R g w (.bool b) x):x=.bool b:=by cases h;rfl
theorem R_int {k:IntKind} {n:Int} {x:Value} (h:R g w (.int k n) x):x=.int k n:=by cases h;rfl
theorem R_str {l:List UInt8} {x:Value} (h:R g w (.str l) x):∃ s:ByteArray,x=.string s∧s.data.toList=l:=by cases h;exact ⟨_,rfl,rfl⟩
theorem R_agg {l:List FV} {x:Value} (h:R g w (.agg l) x):∃ vs:List Value,x=.agg vs.toArray∧RL g w l vs:=by cases h;exact ⟨_,rfl,by assumption⟩
theorem R_tup {l:List FV} {x:Value} (h:R g w (.tup l) x):∃ vs:List Value,x=.tuple vs.toArray∧RL g w l vs:=by cases h;exact ⟨_,rfl,by assumption⟩
theorem R_fn {f:Nat} {l:List FV} {x:Value} (h:R g w (.fn f l) x) (hq:f < OB):∃ vs:List Value,x=.func (.func f) #[] vs.toArray∧f < RB∧RL g w l vs:=by
 cases h with
 |fn=>exact ⟨_,rfl,by assumption,by assumption⟩
 |bf=>omega
theorem R_bf {f:Nat} {l:List FV} {x:Value} (h:R g w (.fn f l) x) (hq:¬ f < OB):∃ vs:List Value,x=.func (.func (f - OB)) vs.toArray #[]∧f - OB < RB∧RL g w l vs:=by
 cases h with
 |fn _ _ vs hlt=>exact absurd (Nat.lt_trans hlt (show RB < OB by decide)) hq
 |bf q _ vs hlt hr=>exact ⟨vs,by rw [Nat.add_sub_cancel],by rw [Nat.add_sub_cancel];exact hlt,hr⟩
theorem run_equal_bool {t:TypeId} (hd:P.underlying t=some .bool) (x y:Bool):(Op.equal t (.bool x) (.bool y)).run P w=.ok (x == y) w:=by
 show (Op.equalIn (9999 + 1) t (.bool x) (.bool y)).run P w=_
 rw [Op.equalIn]
 simp only [Sem.run_bind,underlying,run_program,Result.andThen_ok,hd,Sem.run_pure]
theorem run_binOp_eql_bool {t:TypeId} (hd:P.underlying t=some .bool) (x y:Bool):(binOp .eql t (.bool x) (.bool y)).run P w=.ok (.bool (x == y)) w:=by
 show (do pure (.bool (← Op.equal t (.bool x) (.bool y))):Sem Value).run P w=_
 simp only [Sem.run_bind,run_equal_bool hd,Result.andThen_ok,Sem.run_pure]
theorem run_binOp_neq_bool {t:TypeId} (hd:P.underlying t=some .bool) (x y:Bool):(binOp .neq t (.bool x) (.bool y)).run P w=.ok (.bool (!(x == y))) w:=by
 show (do pure (.bool (!(← Op.equal t (.bool x) (.bool y)))):Sem Value).run P w=_
 simp only [Sem.run_bind,run_equal_bool hd,Result.andThen_ok,Sem.run_pure]
theorem run_eqGuard_plain (op:BinOp) (t:TypeId) (x y:Operand) {u v:Value} (h:(∀ cs,u ≠ .agg cs)∧u ≠ .nilIface):(eqGuard op t x y u v).run P w=.ok () w:=by
 unfold eqGuard
 cases op<;>simp<;>(cases u<;>simp_all)
theorem exec_of_value {ρ:Operand→Value} {dst:Option Tmp} {op:Op} {ty:TypeId} {pos:String} {aft:Array Edge} {gd:Option (Nat × Bool)} (s:Sem Value) (he:execOp ρ ⟨dst,op,ty,pos,aft,gd⟩=(do pure (.value (← s)))) {z:Value} {w':World} (hs:s.run P w=.ok z w') :
  (execOp ρ ⟨dst,op,ty,pos,aft,gd⟩).run P w=.ok (.value z) w':=by
 rw [he];simp only [Sem.run_bind,hs,Result.andThen_ok,Sem.run_pure]
section
variable {B:Nat} {w0:World} {hp:Heap} {a:Act} {m:Tm} {dst:Option Tmp} {op:Op} {ty:TypeId} {pos:String} {aft:Array Edge} {gd:Option (Nat × Bool)} {v:FV}
theorem s_mv (hm:RT g w m a) {y:X} (hok:okOp P op (.mv y)=true) (h:opv hp m (.mv y)=some v):∃ x,(execOp a.eval ⟨dst,op,ty,pos,aft,gd⟩).run P w=.ok (.value x) w∧R g w v x:=by
 simp only [opv,Option.some.injEq] at h;subst h
 cases op<;>simp only [okOp,Bool.false_eq_true] at hok
 ·exact ⟨_,rfl,R_okX hm hok⟩
 ·exact ⟨_,rfl,R_okX hm hok⟩
theorem s_pk (hm:RT g w m a) {c x y:X} (hok:okOp P op (.pk c x y)=true) (h:opv hp m (.pk c x y)=some v):∃ x,(execOp a.eval ⟨dst,op,ty,pos,aft,gd⟩).run P w=.ok (.value x) w∧R g w v x:=by
 cases op<;>simp [okOp] at hok
 rename_i o1 o2 o3
 obtain ⟨⟨h1,h2⟩,h3⟩:=hok
 simp only [opv] at h
 split at h
 ·rename_i c' hc
  have r1:=R_bool (hc ▸ R_okX hm h1)
  simp at h;subst h
  refine ⟨if c'=true then a.eval o2 else a.eval o3,?_,wrap_of_pick (R_okX hm h2) (R_okX hm h3)⟩
  simp [execOp,asBool,r1]
 ·simp at h
theorem s_bo (hm:RT g w m a) {p:BinOp} {x y:X} (hok:okOp P op (.bo p x y)=true) (h:opv hp m (.bo p x y)=some v):∃ x,(execOp a.eval ⟨dst,op,ty,pos,aft,gd⟩).run P w=.ok (.value x) w∧R g w v x:=by
 cases op<;>simp [okOp] at hok
 rename_i p' t o1 o2 t2
 obtain ⟨⟨rfl,h2⟩,h3⟩:=hok
 simp only [opv] at h
 obtain ⟨z,hz,hR⟩:=binop_sound (P:=P) (t:=t) (R_okX hm h2) (R_okX hm h3) h
 refine ⟨z,?_,hR⟩
 have hg:(eqGuard p' t o1 o2 (a.eval o1) (a.eval o2)).run P w=.ok () w:=by
  apply run_eqGuard_plain
  unfold binop at h
  split at h
  ·rename_i hx hy
   have:=R_int (hx ▸ R_okX hm h2:R g w (.int _ _) (a.eval o1))
   rw [this];simp
  ·rename_i hx hy
   obtain ⟨s1,e1,_⟩:=R_str (hx ▸ R_okX hm h2:R g w (.str _) (a.eval o1))
   rw [e1];simp
  ·simp at h
 exact exec_of_value (do eqGuard p' t o1 o2 (a.eval o1) (a.eval o2);binOp p' t (a.eval o1) (a.eval o2)) rfl (by simp only [Sem.run_bind,hg,Result.andThen_ok,hz])
theorem s_be (hm:RT g w m a) {p:Bool} {x y:X} (hok:okOp P op (.be p x y)=true) (h:opv hp m (.be p x y)=some v):∃ x,(execOp a.eval ⟨dst,op,ty,pos,aft,gd⟩).run P w=.ok (.value x) w∧R g w v x:=by
 cases op<;>simp [okOp] at hok
 rename_i p' t o1 o2 t2
 obtain ⟨⟨⟨rfl,h2⟩,h3⟩,h4⟩:=hok
 obtain ⟨d,hd,hp⟩:=desc_of h4
 cases d<;>simp [isBool] at hp
 simp only [opv] at h
 split at h
 ·rename_i b1 b2 hx hy
  have r1:=R_bool (hx ▸ R_okX hm h2:R g w (.bool b1) (a.eval o1))
  have r2:=R_bool (hy ▸ R_okX hm h3:R g w (.bool b2) (a.eval o2))
  simp only [Option.some.injEq] at h;subst h
  have hg:∀ p,(eqGuard p t o1 o2 (a.eval o1) (a.eval o2)).run P w=.ok () w:=fun p=>by
   apply run_eqGuard_plain;rw [r1];simp
  refine ⟨_,?_,R.bool _⟩
  cases p
  ·exact exec_of_value (do eqGuard .eql t o1 o2 (a.eval o1) (a.eval o2);binOp .eql t (a.eval o1) (a.eval o2)) rfl (by simp only [Sem.run_bind,hg,Result.andThen_ok];rw [r1,r2,run_binOp_eql_bool hd];rfl)
  ·exact exec_of_value (do eqGuard .neq t o1 o2 (a.eval o1) (a.eval o2);binOp .neq t (a.eval o1) (a.eval o2)) rfl (by simp only [Sem.run_bind,hg,Result.andThen_ok];rw [r1,r2,run_binOp_neq_bool hd];rfl)
 ·simp at h
theorem eqCell_sound {k:Nat} {x y:FV} {vx vy:Value} {e:Bool} (hx:R g w x vx) (hy:R g w y vy) (h:eqCell k x y=some e) {t:TypeId} {d:TypeDesc} (hd:P.underlying t=some d) (hk:isKd k d=true) (n:Nat) :
  (Op.equalIn (n + 1) t vx vy).run P w=.ok e w:=by
 unfold eqCell at h
 split at h
 ·obtain ⟨rfl,h2⟩:=chk_some h
  simp only [Option.some.injEq] at h2;subst h2
  rw [R_int hx,R_int hy]
  cases d<;>simp [isKd] at hk
  exact run_equalIn_int w n t _ _ _ _ hd
 ·simp only [Option.some.injEq] at h;subst h
  obtain ⟨s,rfl,rfl⟩:=R_str hx
  obtain ⟨s2,rfl,rfl⟩:=R_str hy
  cases d<;>simp [isKd] at hk
  rw [run_equalIn_string w n t _ _ hd,toList_eq,toList_eq]
 ·simp only [Option.some.injEq] at h;subst h
  rw [R_bool hx,R_bool hy]
  cases d<;>simp [isKd] at hk
  exact run_equalIn_bool' w n t _ _ hd
 ·simp at h
theorem eqCells_sound (n:Nat) (xs ys:Array Value):∀ (fs:List Field) (ks:List Nat) (i:Nat) (a b:List FV) (va vb:List Value) (e:Bool),okEqF P i fs ks=true→xs.toList.drop i=va→ys.toList.drop i=vb→RL g w a va→RL g w b vb→eqCells ks a b=some e →
  (Op.eqFields (n + 1) xs ys fs).run P w=.ok e w:=by
 intro fs
 induction fs with
 |nil =>
  intro ks i a b va vb e hok _ _ _ _ h
  cases ks with
  |cons=>simp [okEqF] at hok
  |nil =>
   cases a<;>cases b<;>simp [eqCells] at h
   subst h
   simp [Op.eqFields]
 |cons f fs ih =>
  intro ks i a b va vb e hok hva hvb ra rb h
  cases ks with
  |nil=>simp [okEqF] at hok
  |cons k ks =>
   simp only [okEqF,Bool.and_eq_true,bne_iff_ne,beq_iff_eq] at hok
   obtain ⟨⟨⟨h1,h2⟩,h3⟩,h4⟩:=hok
   cases ra with
   |nil=>simp [eqCells] at h
   |cons x vx a va hx ra =>
    cases rb with
    |nil=>simp [eqCells] at h
    |cons y vy b vb hy rb =>
     simp only [eqCells] at h
     obtain ⟨e1,q1,h⟩:=bnd_some h
     obtain ⟨e2,q2,h⟩:=bnd_some h
     simp only [Option.some.injEq] at h
     subst h
     obtain ⟨d,hd,hk⟩:=desc_of h3
     have hag:(isAgg f.type).run P w=.ok false w:=by
      rw [run_isAgg _ _ (by rw [hd];rfl)]
      congr 1
      unfold isAggB
      rw [hd]
      cases d<;>simp [isKd] at hk<;>rfl
     have part1:∀ (zs:Array Value) (v:Value) (r:List Value),zs.toList.drop i=v::r→(part f.type zs f.offset).run P w=.ok v w:=by
      intro zs v r hz
      have:zs[i]? = some v:=by
       rw [← Array.getElem?_toList]
       have:=congrArg (fun l=>l[0]?) hz
       simpa [List.getElem?_drop] using this
      simp only [part,Sem.run_bind,hag,Result.andThen_ok,Bool.false_eq_true,if_false,h2,this,Sem.run_pure]
     have next:∀ (zs:Array Value) (v:Value) (r:List Value),zs.toList.drop i=v::r→zs.toList.drop (i + 1)=r:=by
      intro zs v r hz
      have:=congrArg (List.drop 1) hz
      simpa [List.drop_drop] using this
     have hrest:=ih ks (i + 1) a b va vb e2 h4 (next _ _ _ hva) (next _ _ _ hvb) ra rb q2
     simp only [Op.eqFields,h1,ne_eq,not_false_eq_true,if_true,Sem.run_bind,part1 _ _ _ hva,part1 _ _ _ hvb,Result.andThen_ok,eqCell_sound hx hy q1 hd hk n]
     cases e1
     ·simp
     ·simpa using hrest
theorem s_eq (hm:RT g w m a) {neg:Bool} {ks:List Nat} {x y:X} (hok:okOp P op (.eq neg ks x y)=true) (h:opv hp m (.eq neg ks x y)=some v):∃ x,(execOp a.eval ⟨dst,op,ty,pos,aft,gd⟩).run P w=.ok (.value x) w∧R g w v x:=by
 cases op<;>simp only [okOp,Bool.false_eq_true] at hok
 rename_i p t x' y' yt
 simp only [Bool.and_eq_true,decide_eq_true_eq,Bool.not_eq_true'] at hok
 obtain ⟨⟨⟨⟨⟨h1,h2⟩,h3⟩,h4⟩,h5⟩,h6⟩:=hok
 have rx:=R_okX hm h2
 have ry:=R_okX hm h3
 simp only [opv] at h
 split at h
 ·rename_i xs ys e1 e2
  rw [e1] at rx
  rw [e2] at ry
  obtain ⟨va,f1,f2⟩:=R_agg rx
  obtain ⟨vb,f3,f4⟩:=R_agg ry
  obtain ⟨e,q1,q2⟩:=bnd_some h
  simp only [Option.some.injEq] at q2;subst q2
  split at h6
  ·rename_i fs hu
   have hfs:P.fieldsOf t=fs:=by simp [Program.fieldsOf,hu]
   have hrun:=eqCells_sound (P:=P) 9998 va.toArray vb.toArray fs.toList ks 0 xs ys va vb e h6 (by simp) (by simp) f2 f4 q1
   have heq:(Op.equalIn 10000 t (.agg va.toArray) (.agg vb.toArray)).run P w=.ok e w:=by
    rw [show (10000:Nat)=9999 + 1 from rfl,run_equalIn_struct w 9999 t _ _ (by rw [hfs];exact hu) h5,hfs]
    exact hrun
   refine ⟨.bool (if neg=true then !e else e),?_,.bool _⟩
   refine exec_of_value (do eqGuard p t x' y' (a.eval x') (a.eval y');binOp p t (a.eval x') (a.eval y')) rfl ?_
   rw [f1,f3]
   simp only [Sem.run_bind,run_eqGuard_agg w p t x' y' _ _ h4,Result.andThen_ok]
   subst h1
   cases neg
   ·simp only [Bool.false_eq_true,if_false,run_eql_struct,heq,Result.andThen_ok]
   ·simp only [if_true,run_neq_struct,heq,Result.andThen_ok]
  ·simp at h6
 ·simp at h
theorem s_un (hm:RT g w m a) {p:UnOp} {x:X} (hok:okOp P op (.un p x)=true) (h:opv hp m (.un p x)=some v):∃ x,(execOp a.eval ⟨dst,op,ty,pos,aft,gd⟩).run P w=.ok (.value x) w∧R g w v x:=by
 cases op<;>simp [okOp] at hok
 obtain ⟨rfl,h2⟩:=hok
 simp only [opv] at h
 obtain ⟨z,hz,hR⟩:=unop_sound (P:=P) (R_okX hm h2) h
 exact ⟨z,exec_of_value (Op.unary _ _) rfl hz,hR⟩
theorem s_ix (hm:RT g w m a) {x y:X} (hok:okOp P op (.ix x y)=true) (h:opv hp m (.ix x y)=some v):∃ x,(execOp a.eval ⟨dst,op,ty,pos,aft,gd⟩).run P w=.ok (.value x) w∧R g w v x:=by
 cases op<;>simp [okOp] at hok
 rename_i t o1 o2
 obtain ⟨⟨h1,h2⟩,h3⟩:=hok
 obtain ⟨d,hd,hp⟩:=desc_of h3
 cases d<;>simp [isStr] at hp
 simp only [opv] at h
 split at h
 ·rename_i s k n hx hy
  obtain ⟨s',r1,rfl⟩:=R_str (hx ▸ R_okX hm h1:R g w (.str s) (a.eval o1))
  have r2:=R_int (hy ▸ R_okX hm h2:R g w (.int k n) (a.eval o2))
  obtain ⟨⟨h4,h5⟩,h6⟩:=chk_some h
  simp only [Option.some.injEq] at h6;subst h6
  have hlt:n.toNat < s'.size:=by
   have:(s'.data.toList.length:Int)=s'.size:=rfl
   omega
  have e:s'[n.toNat]? = some s'[n.toNat]:=by simp [hlt]
  have e2:s'.data.toList.getD n.toNat 0=s'[n.toNat]:=by
   rw [List.getD_eq_getElem?_getD,List.getElem?_eq_getElem (by simpa using hlt)]
   rfl
  refine ⟨_,exec_of_value (Instr.index t (a.eval o1) (a.eval o2)) rfl (z:=.int .u8 s'[n.toNat].toNat) (w':=w) ?_,?_⟩
  ·rw [r1,r2]
   simp only [Instr.index,asIntOf,underlying,hd,h4,e,Sem.run_bind,Sem.run_pure,Result.andThen_ok,run_program,if_true]
  ·rw [e2];exact .int _ _
 ·simp at h
end
end
end Go.FI
namespace Go.FI
open Go.RowKit
variable [Sys]
section
variable {g:Gh} {w:World} {P:Program} {B:Nat} {w0:World} {hp:Heap} {a:Act} {m:Tm} {dst:Option Tmp} {op:Op} {ty:TypeId} {pos:String} {aft:Array Edge} {gd:Option (Nat × Bool)} {v:FV}
def Yields (P:Program) (g:Gh) (w:World) (a:Act) (o:Oper) (v:FV):Prop:=∃ x,(execOp a.eval o).run P w=.ok (.value x) w∧R g w v x
theorem exec_builtin {b:Builtin} {args:Array Operand} {ts:Array TypeId} (s:Sem Value)
  (hs:∀ consts,builtin b ts ty consts (args.map a.eval)=(do pure (.value (← s)))) {z:Value} {w':World} (hz:s.run P w=.ok z w') :
  (execOp a.eval ⟨dst,.call ⟨.builtin b,args,ts⟩,ty,pos,aft,gd⟩).run P w=.ok (.value z) w':=by
 simp only [execOp,resolve,pure_bind,invoke,hs,Sem.run_bind,hz,Result.andThen_ok,Sem.run_pure]
theorem map_one (f:Operand→Value) (x:Operand):Array.map f #[x]=#[f x]:=by simp
theorem map_two (f:Operand→Value) (x y:Operand):Array.map f #[x,y]=#[f x,f y]:=by simp
theorem s_ln (hI:Inv B w0 g hp w) (hm:RT g w m a) {k:Nat} {x:X} (hok:okOp P op (.ln k x)=true) (h:opv hp m (.ln k x)=some v):Yields P g w a ⟨dst,op,ty,pos,aft,gd⟩ v:=by
 cases op<;>simp only [okOp,Bool.false_eq_true] at hok
 rename_i c
 obtain ⟨cal,args,ts⟩:=c
 cases cal<;>first | (simp at hok;done) | skip
 rename_i bi
 cases bi<;>first | (simp at hok;done) | skip
 try simp only at hok
 split at hok
 ·rename_i x' t ha ht
  simp only [Bool.and_eq_true] at hok
  obtain ⟨h1,h2⟩:=hok
  obtain ⟨d,hd,hp'⟩:=desc_of h2
  have ea:=arr_of_toList ha
  have et:=arr_of_toList ht
  subst ea;subst et
  have r:=R_okX hm h1
  have key:∀ z,(Builtin.len_ #[t] ty #[a.eval x']).run P w=.ok z w→R g w v z→Yields P g w a ⟨dst,.call ⟨.builtin .len,[x'].toArray,[t].toArray⟩,ty,pos,aft,gd⟩ v:=fun z hz hR =>
   ⟨z,exec_builtin (Builtin.len_ #[t] ty #[a.eval x']) (fun _=>by rw [map_one];rfl) hz,hR⟩
  match k with
  |0 =>
   cases d<;>simp [isStr] at hp'
   simp only [opv] at h
   split at h
   ·rename_i s hs
    obtain ⟨s',r1,rfl⟩:=R_str (hs ▸ r:R g w (.str s) (a.eval x'))
    simp only [Option.some.injEq] at h;subst h
    refine key (.int .i64 s'.size) ?_ (.int _ _)
    rw [r1]
    simp [Builtin.len_,underlying,hd,goInt]
   ·simp at h
  |1 =>
   cases d<;>simp [isSlice] at hp'
   simp only [opv] at h
   split at h
   ·rename_i e xs hs
    rw [hs] at r
    simp only [Option.some.injEq] at h;subst h
    have:∃ b c,a.eval x'=.slice b xs.length c:=by generalize a.eval x'=q at r;cases r<;>exact ⟨_,_,rfl⟩
    obtain ⟨b,c,e1⟩:=this
    refine key (.int .i64 xs.length) ?_ (.int _ _)
    rw [e1]
    simp [Builtin.len_,underlying,hd,goInt]
   ·rename_i es i s o l hs
    rw [hs] at r
    simp only [Option.some.injEq] at h;subst h
    have:∃ b c,a.eval x'=.slice b l c:=by generalize a.eval x'=q at r;cases r;exact ⟨_,_,rfl⟩
    obtain ⟨b,c,e1⟩:=this
    refine key (.int .i64 l) ?_ (.int _ _)
    rw [e1]
    simp [Builtin.len_,underlying,hd,goInt]
   ·simp at h
  |2 =>
   cases d<;>simp [isMap] at hp'
   simp only [opv] at h
   split at h
   ·rename_i id hs
    rw [hs] at r
    split at h
    ·rename_i en hg
     simp only [Option.some.injEq] at h;subst h
     have:∃ b l,a.eval x'=.map (some b)∧g.κ id=some l∧l.blk=some b:=by generalize a.eval x'=q at r;cases r;exact ⟨_,_,rfl,by assumption,by assumption⟩
     obtain ⟨b,l,e1,e2,e3⟩:=this
     obtain ⟨l',k1,k2⟩:=hI.obj' e2 hg
     rw [e2] at k1;cases k1
     obtain ⟨k3,_,b',es,clock,k4,k5,k6⟩:=k2
     rw [e3] at k4;cases k4
     have hlen:en.length=es.size:=by
      have:∀ (en:List (FV × FV)) es,EnOk g w en es→en.length=es.length:=by
       intro en es he;induction he<;>simp_all
      simpa using this _ _ k6.1
     refine key (.int .i64 en.length) ?_ (.int _ _)
     rw [e1]
     simp [Builtin.len_,underlying,hd,goInt,getObj,Sem.run,k5,hlen]
    ·simp at h
   ·rename_i hs
    rw [hs] at r
    simp only [Option.some.injEq] at h;subst h
    have:a.eval x'=.map none:=by generalize a.eval x'=q at r;cases r;rfl
    refine key (.int .i64 0) ?_ (.int _ _)
    rw [this]
    simp [Builtin.len_,underlying,hd,goInt]
   ·simp at h
  |k + 3=>simp [opv] at h
 ·simp at hok
theorem s_mx (hm:RT g w m a) {x y:X} (hok:okOp P op (.mx x y)=true) (h:opv hp m (.mx x y)=some v):Yields P g w a ⟨dst,op,ty,pos,aft,gd⟩ v:=by
 cases op<;>simp only [okOp,Bool.false_eq_true] at hok
 rename_i c
 obtain ⟨cal,args,ts⟩:=c
 cases cal<;>first | (simp at hok;done) | skip
 rename_i bi
 cases bi<;>first | (simp at hok;done) | skip
 try simp only at hok
 obtain ⟨o1,o2,ha,h1,h2⟩:=okXs_two hok
 have ea:=arr_of_toList ha;subst ea
 simp only [opv] at h
 split at h
 ·rename_i k n j n' hx hy
  obtain ⟨rfl,h3⟩:=chk_some h
  have r1:=R_int (hx ▸ R_okX hm h1:R g w (.int k n) (a.eval o1))
  have r2:=R_int (hy ▸ R_okX hm h2:R g w (.int k n') (a.eval o2))
  simp only [Option.some.injEq] at h3;subst h3
  refine ⟨_,exec_builtin (Builtin.max_ ts ty #[a.eval o1,a.eval o2]) (fun _=>by rw [map_two];rfl) (z:=.int k (if n < n' then n' else n)) (w':=w) ?_,.int _ _⟩
  rw [r1,r2]
  simp [Builtin.max_,Builtin.max2]
 ·simp at h
theorem s_mn (hm:RT g w m a) {x y:X} (hok:okOp P op (.mn x y)=true) (h:opv hp m (.mn x y)=some v):Yields P g w a ⟨dst,op,ty,pos,aft,gd⟩ v:=by
 cases op<;>simp only [okOp,Bool.false_eq_true] at hok
 rename_i c
 obtain ⟨cal,args,ts⟩:=c
 cases cal<;>first | (simp at hok;done) | skip
 rename_i bi
 cases bi<;>first | (simp at hok;done) | skip
 try simp only at hok
 obtain ⟨o1,o2,ha,h1,h2⟩:=okXs_two hok
 have ea:=arr_of_toList ha;subst ea
 simp only [opv] at h
 split at h
 ·rename_i k n j n' hx hy
  obtain ⟨rfl,h3⟩:=chk_some h
  have r1:=R_int (hx ▸ R_okX hm h1:R g w (.int k n) (a.eval o1))
  have r2:=R_int (hy ▸ R_okX hm h2:R g w (.int k n') (a.eval o2))
  simp only [Option.some.injEq] at h3;subst h3
  refine ⟨_,exec_builtin (Builtin.min_ ts ty #[a.eval o1,a.eval o2]) (fun _=>by rw [map_two];rfl) (z:=.int k (if n' < n then n' else n)) (w':=w) ?_,.int _ _⟩
  rw [r1,r2]
  simp [Builtin.min_,Builtin.min2]
 ·simp at h
theorem s_cv (hm:RT g w m a) {k:IntKind} {x:X} (hok:okOp P op (.cv k x)=true) (h:opv hp m (.cv k x)=some v):Yields P g w a ⟨dst,op,ty,pos,aft,gd⟩ v:=by
 cases op<;>simp only [okOp,Bool.false_eq_true] at hok
 rename_i s d x'
 simp only [Bool.and_eq_true] at hok
 obtain ⟨⟨h1,h2⟩,h3⟩:=hok
 obtain ⟨dd,hd,hp'⟩:=desc_of h3
 cases dd<;>simp [isInt] at hp'
 subst hp'
 simp only [opv] at h
 split at h
 ·rename_i j n hx
  have r1:=R_int (hx ▸ R_okX hm h1:R g w (.int j n) (a.eval x'))
  simp only [Option.some.injEq] at h;subst h
  refine ⟨_,exec_of_value (convert s d (a.eval x')) rfl (z:=.int _ (IntKind.wrap _ n)) (w':=w) ?_,.int _ _⟩
  rw [r1]
  cases hs:P.underlying s with
  |none=>simp [hs] at h2
  |some ds=>simp [convert,underlying,hs,hd,Conv.intToInt]
 ·simp at h
theorem s_ld (hI:Inv B w0 g hp w) (hm:RT g w m a) {ag:Option Nat} {x:X} (hok:okOp P op (.ld ag x)=true) (h:opv hp m (.ld ag x)=some v):Yields P g w a ⟨dst,op,ty,pos,aft,gd⟩ v:=by
 cases op<;>simp only [okOp,Bool.false_eq_true] at hok
 rename_i t x'
 simp only [Bool.and_eq_true] at hok
 simp only [opv] at h
 obtain ⟨ad,z,h1,h2,h3⟩:=loadv_sound (P:=P) hI (R_okX hm hok.1) hok.2 h
 refine ⟨z,exec_of_value (Instr.loadAt t (a.eval x')) rfl (w':=w) ?_,h3⟩
 rw [h1];simp [Instr.loadAt,Instr.sureAddr,h2]
theorem structOff_of {t:TypeId} {f off:Nat} (h:structOff P t f off=true):∃ fs fd,P.underlying t=some (.struct fs)∧fs[f]? = some fd∧fd.offset=off∧∃ i,P.info? fd.type=some i∧i.size ≠ 0:=by
 unfold structOff at h
 split at h
 ·split at h
  ·simp only [Bool.and_eq_true,beq_iff_eq] at h
   refine ⟨_,_,by assumption,by assumption,h.1,?_⟩
   have h2:=h.2
   unfold posSize at h2
   split at h2
   ·exact ⟨_,by assumption,by simpa using h2⟩
   ·simp at h2
  ·simp at h
 ·simp at h
theorem run_fieldAt {t:TypeId} {f off:Nat} (ad:Addr) (h:structOff P t f off=true):(Instr.fieldAt t (.pointer (some ad)) f).run P w=.ok (.pointer (some (ad.add off))) w:=by
 obtain ⟨fs,fd,h1,h2,rfl,i,h3,h4⟩:=structOff_of h
 simp [Instr.fieldAt,underlying,h1,h2,Instr.sureAddr,fieldPlace,sizeOf,typeInfo,h3,h4]
theorem s_fa (hm:RT g w m a) {off:Nat} {x:X} (hok:okOp P op (.fa off x)=true) (h:opv hp m (.fa off x)=some v):Yields P g w a ⟨dst,op,ty,pos,aft,gd⟩ v:=by
 cases op<;>simp only [okOp,Bool.false_eq_true] at hok
 rename_i t x' f
 simp only [Bool.and_eq_true] at hok
 have r:=R_okX hm hok.1
 simp only [opv] at h
 split at h
 ·rename_i id s i o hx
  rw [hx] at r
  simp only [Option.some.injEq] at h;subst h
  generalize hv:a.eval x'=q at r
  cases r with | ptr _ _ _ _ l ad hk hs hh =>
  refine ⟨_,exec_of_value (Instr.fieldAt t (a.eval x') f) rfl (z:=.pointer (some (ad.add off))) (w':=w) ?_,.ptr _ _ _ _ l _ hk hs fun e=>?_⟩
  ·rw [hv,run_fieldAt _ hok.2]
  ·obtain ⟨b,h1,rfl⟩:=hh e
   exact ⟨b,h1,by rw [add_addr,Nat.add_assoc]⟩
 ·rename_i cs o hx
  rw [hx] at r
  simp only [Option.some.injEq] at h;subst h
  generalize hv:a.eval x'=q at r
  cases r with | eptr _ _ b o' vs hne hZ hr hc =>
  refine ⟨_,exec_of_value (Instr.fieldAt t (a.eval x') f) rfl (z:=.pointer (some ⟨b,o' + (o + off),none⟩)) (w':=w) ?_,.eptr _ _ b o' vs hne hZ hr hc⟩
  rw [hv,run_fieldAt _ hok.2,add_addr,Nat.add_assoc]
 ·simp at h
theorem s_nc (hm:RT g w m a) {x:X} (hok:okOp P op (.nc x)=true) (h:opv hp m (.nc x)=some v):Yields P g w a ⟨dst,op,ty,pos,aft,gd⟩ v:=by
 cases op<;>simp only [okOp,Bool.false_eq_true] at hok
 rename_i x'
 have r:=R_okX hm hok
 simp only [opv] at h
 split at h
 ·rename_i id s i o hx
  rw [hx] at r
  simp only [Option.some.injEq] at h;subst h
  generalize hv:a.eval x'=q at r
  refine ⟨q,?_,r⟩
  cases r
  simp [execOp,hv]
 ·rename_i f cs hx
  rw [hx] at r
  simp only [Option.some.injEq] at h;subst h
  generalize hv:a.eval x'=q at r
  refine ⟨q,?_,r⟩
  cases r<;>simp [execOp,hv]
 ·rename_i f cs hx
  rw [hx] at r
  simp only [Option.some.injEq] at h;subst h
  generalize hv:a.eval x'=q at r
  refine ⟨q,?_,r⟩
  cases r<;>simp [execOp,hv]
 ·simp at h
theorem s_ex (hm:RT g w m a) {x:X} {i:Nat} (hok:okOp P op (.ex x i)=true) (h:opv hp m (.ex x i)=some v):Yields P g w a ⟨dst,op,ty,pos,aft,gd⟩ v:=by
 cases op<;>simp only [okOp,Bool.false_eq_true] at hok
 rename_i x' i'
 simp only [Bool.and_eq_true,beq_iff_eq] at hok
 obtain ⟨h1,rfl⟩:=hok
 have r:=R_okX hm h1
 simp only [opv] at h
 split at h
 ·rename_i vs hx
  rw [hx] at r
  obtain ⟨xs,e,hr⟩:=R_tup r
  obtain ⟨z,hz,hR⟩:=hr.get _ _ h
  refine ⟨z,exec_of_value (Instr.extract (a.eval x') i') rfl (w':=w) ?_,hR⟩
  rw [e]
  simp [Instr.extract,hz]
 ·simp at h
theorem s_sl (hm:RT g w m a) {es:Nat} {x:X} {lo hi:Option X} (hok:okOp P op (.sl es x lo hi)=true) (h:opv hp m (.sl es x lo hi)=some v):Yields P g w a ⟨dst,op,ty,pos,aft,gd⟩ v:=by
 cases op<;>simp only [okOp,Bool.false_eq_true] at hok
 rename_i t x' lo' hi' mx
 cases mx with
 |some _=>simp at hok
 |none =>
 simp only [Bool.and_eq_true] at hok
 obtain ⟨⟨⟨h1,h2⟩,h3⟩,h4⟩:=hok
 simp only [opv] at h
 obtain ⟨z,hz,hR⟩:=slice_sound (P:=P) hm (R_okX hm h1) h2 h3 h4 h
 exact ⟨z,exec_of_value (Instr.sliceAt t (a.eval x') (lo'.map a.eval) (hi'.map a.eval) none) rfl (w':=w) hz,hR⟩
theorem s_mf (hm:RT g w m a) {f:Nat} {caps:List X} (hok:okOp P op (.mf f caps)=true) (h:opv hp m (.mf f caps)=some v):Yields P g w a ⟨dst,op,ty,pos,aft,gd⟩ v:=by
 cases op<;>simp only [okOp,Bool.false_eq_true] at hok
 rename_i fn first caps'
 obtain ⟨f',rfl⟩:∃ f',fn=.func f':=by cases fn<;>simp at hok;exact ⟨_,rfl⟩
 simp only [Bool.or_eq_true,Bool.and_eq_true,beq_iff_eq] at hok
 simp only [opv,Option.some.injEq] at h;subst h
 rcases hok with ⟨⟨⟨rfl,hlt⟩,h2⟩,h3⟩ | ⟨⟨⟨rfl,hlt⟩,h2⟩,h3⟩
 rotate_left
 ·have hr:=RL_okXs hm h3
  have e1:caps'.map a.eval=#[]:=by simp at h2;simp [h2]
  have e2:first.map a.eval=(first.toList.map a.eval).toArray:=by cases first;simp
  exact ⟨_,exec_of_value (Instr.makeFunc (.func _) (first.map a.eval) (caps'.map a.eval)) rfl (z:=.func (.func _) (first.toList.map a.eval).toArray #[]) (w':=w) (by rw [e1,e2];rfl),.bf _ _ _ (of_decide_eq_true hlt) hr⟩
 have hr:=RL_okXs hm h3
 have e1:first.map a.eval=#[]:=by simp at h2;simp [h2]
 have e2:caps'.map a.eval=(caps'.toList.map a.eval).toArray:=by cases caps';simp
 exact ⟨_,exec_of_value (Instr.makeFunc (.func _) (first.map a.eval) (caps'.map a.eval)) rfl (z:=.func (.func _) #[] (caps'.toList.map a.eval).toArray) (w':=w) (by rw [e1,e2];rfl),.fn _ _ _ (of_decide_eq_true hlt) hr⟩
theorem s_mi (hm:RT g w m a) {t:Nat} {x:X} (hok:okOp P op (.mi t x)=true) (h:opv hp m (.mi t x)=some v):Yields P g w a ⟨dst,op,ty,pos,aft,gd⟩ v:=by
 cases op<;>simp only [okOp,Bool.false_eq_true] at hok
 rename_i t' x'
 simp only [Bool.and_eq_true,beq_iff_eq] at hok
 obtain ⟨⟨rfl,h2⟩,h3⟩:=hok
 obtain ⟨d,hd,hp'⟩:=desc_of h3
 simp only [opv,Option.some.injEq] at h;subst h
 refine ⟨_,exec_of_value (Instr.makeInterface t' (a.eval x')) rfl (z:=.iface t' (a.eval x')) (w':=w) ?_,.ifc _ _ _ (R_okX hm h2)⟩
 cases d<;>simp [isIface] at hp'<;>simp [Instr.makeInterface,underlying,hd]
theorem s_xs (hm:RT g w m a) {x y:X} (hok:okOp P op (.sx x y)=true) (h:opv hp m (.sx x y)=some v):Yields P g w a ⟨dst,op,ty,pos,aft,gd⟩ v:=by
 cases op<;>simp only [okOp,Bool.false_eq_true] at hok
 rename_i c
 obtain ⟨cal,args,ts⟩:=c
 cases cal<;>first | (simp at hok;done) | skip
 rename_i fo
 cases fo<;>first | (simp at hok;done) | skip
 rename_i f
 simp only [Bool.and_eq_true] at hok
 obtain ⟨h1,h2⟩:=hok
 split at h2
 ·rename_i fn hf
  simp only [Bool.and_eq_true,beq_iff_eq] at h2
  obtain ⟨⟨hn,ho⟩,hb⟩:=h2
  have hr:=RL_okXs hm h1
  simp only [evs] at hr
  simp only [opv] at h
  split at h
  ·rename_i s t hs ht
   simp only [Option.some.injEq] at h;subst h
   rw [hs,ht] at hr
   have e1:args.map a.eval=(args.toList.map a.eval).toArray:=by cases args;simp
   generalize args.toList.map a.eval=l at hr e1
   cases hr with | cons _ v1 _ l1 r1 hr =>
   cases hr with | cons _ v2 _ l2 r2 hr =>
   cases hr
   cases r1 with | str sa =>
   cases r2 with | str sb =>
   have hfind:Extern.find fn=some Extern.BytealgCompare.compare:=by
    unfold Extern.find
    rw [hn]
    rfl
   have hnext:Extern.findNext fn=none:=by
    unfold Extern.findNext
    rw [hn,ho]
    rfl
   refine ⟨.int .i64 (Lib.compareBytes sa.data.toList sb.data.toList),?_,.int _ _⟩
   have e2:(#[] ++ args.map a.eval) ++ (#[]:Array Value)=#[.string sa,.string sb]:=by rw [e1];simp
   have hf':a.eval (.func f)=.func (.func f) #[] #[]:=rfl
   simp only [execOp,resolve,hf',Deferred.ofValue,pure_bind,invoke]
   rw [e2,run_callFunc_extern hf (by rw [hn];decide) hb hnext hfind,Lib.run_compareString]
   rfl
  ·simp at h
 ·simp at h2
theorem run_indexByte (s:ByteArray) (n:Int):(Extern.BytealgIndexByte.indexByte #[.string s,.int .u8 n]).run P w=.ok (.int .i64 (idxB s.data.toList n.toNat.toUInt8)) w:=by
 have e:(List.range s.size).find? (fun i=>s[i]! == n.toNat.toUInt8)=(List.range s.data.toList.length).find? (fun i=>s.data.toList.getD i 0 == n.toNat.toUInt8):=by
  have hl:s.data.toList.length=s.size:=Array.length_toList
  rw [hl]
  have:∀ l:List Nat,(∀ i ∈ l,i < s.size)→l.find? (fun i=>s[i]! == n.toNat.toUInt8)=l.find? (fun i=>s.data.toList.getD i 0 == n.toNat.toUInt8):=by
   intro l
   induction l with
   |nil=>intro _;rfl
   |cons i l ih =>
    intro h
    have h1:s[i]! = s.data.toList.getD i 0:=by
     have hi:=h i (by simp)
     rw [List.getD_eq_getElem?_getD,List.getElem?_eq_getElem (show i < s.data.toList.length by rw [hl];exact hi)]
     rw [getElem!_pos s i hi]
     rfl
    simp only [List.find?_cons,h1,ih fun j hj=>h j (by simp [hj])]
  exact this _ fun i hi=>by simpa using hi
 show (match (List.range s.size).find? (fun i=>s[i]! == n.toNat.toUInt8) with | some i=>(pure (goInt i):Sem Value) | none=>pure (goInt (-1))).run P w=_
 rw [e]
 unfold idxB
 cases (List.range s.data.toList.length).find? (fun i=>s.data.toList.getD i 0 == n.toNat.toUInt8)<;>rfl
theorem s_ib (hm:RT g w m a) {x y:X} (hok:okOp P op (.ib x y)=true) (h:opv hp m (.ib x y)=some v):Yields P g w a ⟨dst,op,ty,pos,aft,gd⟩ v:=by
 cases op<;>simp only [okOp,Bool.false_eq_true] at hok
 rename_i c
 obtain ⟨cal,args,ts⟩:=c
 cases cal<;>first | (simp at hok;done) | skip
 rename_i fo
 cases fo<;>first | (simp at hok;done) | skip
 rename_i f
 simp only [Bool.and_eq_true] at hok
 obtain ⟨h1,h2⟩:=hok
 split at h2
 ·rename_i fn hf
  simp only [Bool.and_eq_true,beq_iff_eq] at h2
  obtain ⟨⟨hn,ho⟩,hb⟩:=h2
  have hr:=RL_okXs hm h1
  simp only [evs] at hr
  simp only [opv] at h
  split at h
  ·rename_i s t hs ht
   simp only [Option.some.injEq] at h;subst h
   rw [hs,ht] at hr
   have e1:args.map a.eval=(args.toList.map a.eval).toArray:=by cases args;simp
   generalize args.toList.map a.eval=l at hr e1
   cases hr with | cons _ v1 _ l1 r1 hr =>
   cases hr with | cons _ v2 _ l2 r2 hr =>
   cases hr
   cases r1 with | str sa =>
   cases r2 with | int _ _ =>
   have hfind:Extern.find fn=some Extern.BytealgIndexByte.indexByte:=by
    unfold Extern.find
    rw [hn]
    rfl
   have hnext:Extern.findNext fn=none:=by
    unfold Extern.findNext
    rw [hn,ho]
    rfl
   refine ⟨.int .i64 (idxB sa.data.toList t.toNat.toUInt8),?_,.int _ _⟩
   have e2:(#[] ++ args.map a.eval) ++ (#[]:Array Value)=#[.string sa,.int .u8 t]:=by rw [e1];simp
   have hf':a.eval (.func f)=.func (.func f) #[] #[]:=rfl
   simp only [execOp,resolve,hf',Deferred.ofValue,pure_bind,invoke]
   rw [e2,run_callFunc_extern hf (by rw [hn];decide) hb hnext hfind,run_indexByte]
   rfl
  ·simp at h
 ·simp at h2
theorem asIntOf_int (k:IntKind) (n:Int):(asIntOf (.int k n)).run P w=.ok (k,n) w:=rfl
theorem s_ia (hm:RT g w m a) {es:Nat} {x y:X} (hok:okOp P op (.ia es x y)=true) (h:opv hp m (.ia es x y)=some v):Yields P g w a ⟨dst,op,ty,pos,aft,gd⟩ v:=by
 cases op<;>simp only [okOp,Bool.false_eq_true] at hok
 rename_i t o1 o2
 simp only [Bool.and_eq_true] at hok
 obtain ⟨⟨h1,h2⟩,h3⟩:=hok
 obtain ⟨d,hd,hp'⟩:=desc_of h3
 cases d<;>simp [isSl] at hp'
 rename_i elem
 have r:=R_okX hm h1
 have r':=R_okX hm h2
 have key:∀ (ad:Addr) (len cap:Nat) (k:IntKind) (n:Int),a.eval o1=.slice (some ad) len cap→a.eval o2=.int k n→0 ≤ n→n < len →
   (execOp a.eval ⟨dst,.indexAddr t o1 o2,ty,pos,aft,gd⟩).run P w=.ok (.value (.pointer (some (ad.add (n.toNat * es))))) w:=by
  intro ad len cap k n e1 e2 h0 h5
  refine exec_of_value (Instr.indexAt t (a.eval o1) (a.eval o2)) rfl ?_
  rw [e1,e2]
  have:(0 ≤ n∧n < (len:Int)):=⟨h0,h5⟩
  simp [Instr.indexAt,asIntOf_int,underlying,hd,this,run_sizeOf w hp'.1]
 simp only [opv] at h
 split at h
 ·rename_i e xs k n hx hy
  obtain ⟨⟨h5,h6⟩,h7⟩:=chk_some h
  obtain ⟨h8,h9⟩:=chk_some h7
  simp only [Option.some.injEq] at h9;subst h9
  rw [hx] at r
  have e2:=R_int (hy ▸ r':R g w (.int k n) (a.eval o2))
  generalize hv:a.eval o1=q at r
  have hlt:n.toNat < xs.length:=by omega
  cases r with
  |lst0 _ _ _ _=>simp at hlt
  |lst _ _ b o es' cap cs hne he hle hZ hes hx' hr hc =>
  have hget:xs[n.toNat]? = some xs[n.toNat]:=List.getElem?_eq_getElem hlt
  have hgd:xs.getD n.toNat .undef=xs[n.toNat]:=by simp [List.getD,hget]
  rw [hgd] at h8 ⊢
  have ees:es'=es:=by have:=(hx' xs[n.toNat] (List.getElem_mem hlt)).1;omega
  subst ees
  have hcut:=hr.cut (n.toNat * es') (n.toNat * es' + es')
  rw [flat_cut (fun y hy=>(hx' y hy).1) hget] at hcut
  refine ⟨_,key _ _ _ k n hv e2 h5 h6,?_⟩
  rw [add_addr]
  have hne0:xs[n.toNat].cells ≠ []:=fun e0=>by
   have:=(hx' xs[n.toNat] (List.getElem_mem hlt)).1
   rw [e0] at this;simp at this;omega
  exact .eptr _ _ b (o + n.toNat * es') _ hne0 hZ hcut fun j u hj=>by
   have:=hc _ u (cut_get _ _ _ _ _ hj)
   rw [Nat.add_assoc];exact this
 ·rename_i es' id s off len k n hx hy
  obtain ⟨rfl,h4⟩:=chk_some h
  obtain ⟨⟨h5,h6⟩,h7⟩:=chk_some h4
  simp only [Option.some.injEq] at h7;subst h7
  rw [hx] at r
  have e2:=R_int (hy ▸ r':R g w (.int k n) (a.eval o2))
  generalize hv:a.eval o1=q at r
  cases r with | sref _ _ _ _ _ l aa cap hk he hs hle ha hh =>
  have hpos:0 < cap:=by omega
  obtain ⟨ad,rfl⟩:=Option.isSome_iff_exists.1 (ha hpos)
  refine ⟨_,key ad _ _ k n hv e2 h5 h6,.ptr _ _ _ _ l _ hk hs fun e=>?_⟩
  obtain ⟨_,_,h7⟩:=hh e
  obtain ⟨b,h8,h9⟩:=h7 hpos
  cases h9
  exact ⟨b,h8,by rw [add_addr,he,Nat.add_mul];rfl⟩
 ·simp at h
theorem s_aa (hm:RT g w m a) {len es:Nat} {x y:X} (hok:okOp P op (.aa len es x y)=true) (h:opv hp m (.aa len es x y)=some v):Yields P g w a ⟨dst,op,ty,pos,aft,gd⟩ v:=by
 cases op<;>simp only [okOp,Bool.false_eq_true] at hok
 rename_i t o1 o2
 simp only [Bool.and_eq_true] at hok
 obtain ⟨⟨h1,h2⟩,h3⟩:=hok
 obtain ⟨d,hd,hp'⟩:=desc_of h3
 cases d<;>simp [isArr] at hp'
 rename_i len' elem
 obtain ⟨e0,hsz⟩:=hp'
 rw [e0] at hd
 have r:=R_okX hm h1
 have r':=R_okX hm h2
 have key:∀ (ad:Addr) (k:IntKind) (n:Int),a.eval o1=.pointer (some ad)→a.eval o2=.int k n→0 ≤ n→n < len →
   (execOp a.eval ⟨dst,.indexAddr t o1 o2,ty,pos,aft,gd⟩).run P w=.ok (.value (.pointer (some (ad.add (n.toNat * es))))) w:=by
  intro ad k n e1 e2 h0 h5
  refine exec_of_value (Instr.indexAt t (a.eval o1) (a.eval o2)) rfl ?_
  rw [e1,e2]
  have:(0 ≤ n∧n < (len:Int)):=⟨h0,h5⟩
  simp [Instr.indexAt,asIntOf_int,underlying,hd,Instr.sureAddr,this,run_sizeOf w hsz]
 simp only [opv] at h
 split at h
 ·rename_i id s j o k n hx hy
  obtain ⟨⟨h5,h6⟩,h7⟩:=chk_some h
  simp only [Option.some.injEq] at h7;subst h7
  rw [hx] at r
  have e2:=R_int (hy ▸ r':R g w (.int k n) (a.eval o2))
  generalize hv:a.eval o1=q at r
  cases r with | ptr _ _ _ _ l ad hk hs hh =>
  refine ⟨_,key _ k n hv e2 h5 h6,.ptr _ _ _ _ l _ hk hs fun e=>?_⟩
  obtain ⟨b,h8,rfl⟩:=hh e
  exact ⟨b,h8,by rw [add_addr,Nat.add_assoc]⟩
 ·rename_i cs o k n hx hy
  obtain ⟨⟨h5,h6⟩,h7⟩:=chk_some h
  simp only [Option.some.injEq] at h7;subst h7
  rw [hx] at r
  have e2:=R_int (hy ▸ r':R g w (.int k n) (a.eval o2))
  generalize hv:a.eval o1=q at r
  cases r with | eptr _ _ b o' vs hne hZ hr hc =>
  refine ⟨_,key _ k n hv e2 h5 h6,?_⟩
  rw [add_addr,Nat.add_assoc]
  exact .eptr _ _ b o' vs hne hZ hr hc
 ·simp at h
end
end Go.FI
namespace Go.FI
open Go.RowKit
variable [Sys]
section
variable {g:Gh} {w:World} {P:Program} {B:Nat} {w0:World} {hp:Heap} {a:Act} {m:Tm} {dst:Option Tmp} {op:Op} {ty:TypeId} {pos:String} {aft:Array Edge} {gd:Option (Nat × Bool)} {v:FV}
theorem s_fd (hm:RT g w m a) {ag:Option Nat} {off:Nat} {x:X} (hok:okOp P op (.fd ag off x)=true) (h:opv hp m (.fd ag off x)=some v):Yields P g w a ⟨dst,op,ty,pos,aft,gd⟩ v:=by
 cases op<;>simp only [okOp,Bool.false_eq_true] at hok
 rename_i t x' f
 simp only [Bool.and_eq_true] at hok
 obtain ⟨h1,h2⟩:=hok
 split at h2
 ·rename_i fs hd
  split at h2
  ·rename_i fd hf
   simp only [Bool.and_eq_true,beq_iff_eq] at h2
   obtain ⟨rfl,h3⟩:=h2
   simp only [opv] at h
   split at h
   ·rename_i cs hx
    obtain ⟨vs,e1,hr⟩:=R_agg (hx ▸ R_okX hm h1:R g w (.agg cs) (a.eval x'))
    have key:∀ z,(part fd.type vs.toArray fd.offset).run P w=.ok z w→R g w v z→Yields P g w a ⟨dst,.field t x' f,ty,pos,aft,gd⟩ v:=fun z hz hR=>by
     refine ⟨z,exec_of_value (Instr.field t (a.eval x') f) rfl (w':=w) ?_,hR⟩
     rw [e1]
     simp only [Instr.field,underlying,Sem.run_bind,run_program,Result.andThen_ok,hd,Sem.run_pure,hf,asAgg]
     exact hz
    cases ag with
    |none =>
     simp only [okAg,Bool.and_eq_true,Bool.not_eq_true'] at h3
     obtain ⟨z,hz,hR⟩:=hr.get _ _ h
     refine key z ?_ hR
     simp [part,run_isAgg _ w h3.2,h3.1,hz]
    |some n =>
     simp only [okAg,Bool.and_eq_true] at h3
     simp only [cellsAt] at h
     obtain ⟨hle,h4⟩:=chk_some h
     simp only [Option.some.injEq] at h4;subst h4
     have hu:(P.underlying fd.type).isSome=true:=by
      have:=h3.1;unfold isAggB at this;split at this<;>simp_all
     refine key (.agg (cut vs fd.offset (fd.offset + n)).toArray) ?_ (.agg _ _ (hr.cut _ _))
     simp [part,run_isAgg _ w hu,h3.1,run_sizeOf w h3.2,cut]
   ·simp at h
  ·simp at h2
 ·simp at h2
theorem run_mapM_list {α β:Type} (f:α→Sem β) (f':α→β):∀ l:List α,(∀ x ∈ l,(f x).run P w=.ok (f' x) w)→(l.mapM f).run P w=.ok (l.map f') w
 |[],_=>by simp
 |x::l,h=>by
  simp only [List.mapM_cons,Sem.run_bind,h x (by simp),Result.andThen_ok,run_mapM_list f f' l (fun y hy=>h y (by simp [hy])),Sem.run_pure,List.map_cons]
theorem run_mapM_array {α β:Type} (f:α→Sem β) (f':α→β) (l:Array α) (h:∀ x ∈ l.toList,(f x).run P w=.ok (f' x) w):(l.mapM f).run P w=.ok (l.toList.map f').toArray w:=by
 rw [Array.mapM_eq_mapM_toList]
 simp only [Sem.run_map,run_mapM_list f f' l.toList h,Result.andThen_ok]
theorem fold_splice (off:Nat):∀ (cs:List Value) (k:Nat) (arr:Array Value),off + k + cs.length ≤ arr.size →
  ((cs.zipIdx k).foldl (fun (acc:Array Value) (p:Value × Nat)=>acc.setIfInBounds (off + p.2) p.1) arr).toList=arr.toList.take (off + k) ++ cs ++ arr.toList.drop (off + k + cs.length)
 |[],k,arr,_=>by simp
 |c::cs,k,arr,h=>by
  simp only [List.length_cons] at h
  simp only [List.zipIdx_cons,List.foldl_cons]
  rw [fold_splice off cs (k + 1) _ (by simp;omega)]
  simp only [Array.toList_setIfInBounds,List.length_cons]
  have e:=list_seg_step arr.toList (off + k) c cs (by simp;omega)
  have e1:off + (k + 1)=off + k + 1:=by omega
  have e2:off + k + 1 + cs.length=off + k + (cs.length + 1):=by omega
  rw [e1]
  rw [← e]
theorem fill_sound (hm:RT g w m a) {d:TypeDesc} {place:Nat→Option (Nat × Nat)} (hp:∀ i off sz,okPart P d i off sz=true→place i=some (off,sz)) :
  ∀ (qs:List (Nat × Operand)) (ps:List (Nat × Nat × X)) (cs:List FV) (arr:Array Value) (out:List FV),okParts P d qs ps=true→RL g w cs arr.toList→fillCells m cs ps=some out →
   ∃ arr',Instr.fill place arr (qs.map fun p=>(p.1,a.eval p.2))=some arr'∧RL g w out arr'.toList
 |[],[],cs,arr,out,_,hr,h=>by
  simp only [fillCells,Option.some.injEq] at h;subst h
  exact ⟨arr,rfl,hr⟩
 |[],_::_,_,_,_,hok,_,_=>by simp [okParts] at hok
 |_::_,[],_,_,_,hok,_,_=>by simp [okParts] at hok
 |(i,x)::qs,(off,sz,y)::ps,cs,arr,out,hok,hr,h=>by
  simp only [okParts,Bool.and_eq_true] at hok
  obtain ⟨⟨h1,h2⟩,h3⟩:=hok
  simp only [fillCells] at h
  obtain ⟨⟨h4,h5,h6⟩,h7⟩:=chk_some h
  have hc:=(R_okX hm h1).cells h4
  have hl:(a.eval x).cells.size=sz:=by have:=hc.length;simp at this;omega
  have hlen:=hr.length
  have hs:=hr.splice hc off
  have hfold:=fold_splice off (a.eval x).cells.toList 0 arr (by simp at hlen ⊢; omega)
  simp only [Nat.add_zero] at hfold
  have e0:(a.eval x).cells.zipIdx.foldl (fun (cs:Array Value) (p:Value × Nat)=>cs.setIfInBounds (off + p.2) p.1) arr=((a.eval x).cells.toList.zipIdx).foldl (fun (cs:Array Value) (p:Value × Nat)=>cs.setIfInBounds (off + p.2) p.1) arr:=by
   rw [← Array.foldl_toList,Array.toList_zipIdx]
  obtain ⟨arr',e1,e2⟩:=fill_sound hm hp qs ps _ ((a.eval x).cells.zipIdx.foldl (fun (cs:Array Value) (p:Value × Nat)=>cs.setIfInBounds (off + p.2) p.1) arr) out h3 (by
   rw [e0,hfold];exact hs) h7
  refine ⟨arr',?_,e2⟩
  simp only [List.map_cons,Instr.fill,hp i off sz h2]
  rw [if_neg]
  ·exact e1
  ·simp at hlen;simp [hl];omega
theorem zeroIs_of {t:TypeId} {z:List FV} (h:zeroIs P t z=true):∃ i v,P.info? t=some i∧i.zero=some v∧okVs v.cells.toList z=true:=by
 unfold zeroIs at h
 split at h
 ·split at h
  ·exact ⟨_,_,by assumption,by assumption,h⟩
  ·simp at h
 ·simp at h
theorem s_bd (hm:RT g w m a) {z:List FV} {ps:List (Nat × Nat × X)} (hok:okOp P op (.bd z ps)=true) (h:opv hp m (.bd z ps)=some v):Yields P g w a ⟨dst,op,ty,pos,aft,gd⟩ v:=by
 cases op<;>simp only [okOp,Bool.false_eq_true] at hok
 rename_i t qs
 simp only [Bool.and_eq_true] at hok
 obtain ⟨h1,h2⟩:=hok
 obtain ⟨d,hd,hp'⟩:=desc_of h2
 simp only [Bool.and_eq_true] at hp'
 obtain ⟨hf,hparts⟩:=hp'
 obtain ⟨i,zv,hi,hz,hzc⟩:=zeroIs_of h1
 simp only [opv] at h
 obtain ⟨cs,hcs,h3⟩:=bnd_some h
 simp only [Option.some.injEq] at h3;subst h3
 have hzero:(zeroValue t).run P w=.ok zv w:=by simp [zeroValue,typeInfo,hi,hz]
 have hmap:(qs.map fun (i,x)=>(i,a.eval x)).toList=qs.toList.map fun p=>(p.1,a.eval p.2):=by simp
 cases d with
 |struct fs =>
  simp only [fieldsKnown,List.all_eq_true] at hf
  have hplaces:(fs.mapM fun f=>(do pure (f.offset,← sizeOf f.type):Sem (Nat × Nat))).run P w=.ok (fs.toList.map fun f=>(f.offset,((P.info? f.type).map (·.size)).getD 0)).toArray w:=by
   apply run_mapM_array
   intro f hfm
   have:=hf f hfm
   obtain ⟨i,hi⟩:=Option.isSome_iff_exists.1 this
   simp [sizeOf,typeInfo,hi]
  obtain ⟨arr',e1,e2⟩:=fill_sound (w:=w) (g:=g) (P:=P) hm (d:=.struct fs) (place:=fun i=>(fs.toList.map fun f=>(f.offset,((P.info? f.type).map (·.size)).getD 0)).toArray[i]?) (by
   intro i off sz hpt
   unfold okPart at hpt
   simp only at hpt
   split at hpt
   ·rename_i f hfi
    simp only [Bool.and_eq_true,beq_iff_eq] at hpt
    obtain ⟨rfl,h4⟩:=hpt
    unfold sizeIs at h4
    have:fs.toList[i]? = some f:=by simpa using hfi
    simp [hfi]
    cases hinf:P.info? f.type with
    |none=>simp [hinf] at h4
    |some inf=>simp [hinf] at h4 ⊢; exact h4
   ·simp at hpt) qs.toList ps z zv.cells cs hparts (RL_okVs hzc) hcs
  refine ⟨.agg arr',exec_of_value (Instr.build t (qs.map fun (i,x)=>(i,a.eval x))) rfl (w':=w) ?_,?_⟩
  ·simp only [Instr.build,Sem.run_bind,hzero,Result.andThen_ok,underlying,run_program,hd,Sem.run_pure,hplaces,hmap,e1]
  ·exact .agg _ arr'.toList e2
 |array n e =>
  simp only [fieldsKnown] at hf
  obtain ⟨i,hi⟩:=Option.isSome_iff_exists.1 hf
  obtain ⟨arr',e1,e2⟩:=fill_sound (w:=w) (g:=g) (P:=P) hm (d:=.array n e) (place:=fun j=>some (j * i.size,i.size)) (by
   intro j off sz hpt
   simp only [okPart,Bool.and_eq_true,beq_iff_eq] at hpt
   obtain ⟨rfl,h4⟩:=hpt
   simp [sizeIs,hi] at h4
   simp [h4]) qs.toList ps z zv.cells cs hparts (RL_okVs hzc) hcs
  refine ⟨.agg arr',exec_of_value (Instr.build t (qs.map fun (i,x)=>(i,a.eval x))) rfl (w':=w) ?_,?_⟩
  ·simp only [Instr.build,Sem.run_bind,hzero,Result.andThen_ok,underlying,run_program,hd,Sem.run_pure,sizeOf,typeInfo,hi,hmap,e1]
  ·exact .agg _ arr'.toList e2
 |_=>simp [fieldsKnown] at hf
end
end Go.FI
namespace Go.FI
open Go.RowKit
variable [Sys]
section
variable {g g':Gh} {w w':World} {P:Program} {B:Nat} {w0:World} {h h':Heap}
theorem RowOk.mono (hg:GLe g g' w w') {l:Loc} {es:Nat} {xs:List FV} (hb:∀ b,l.blk=some b→w'.heap[b]? = w.heap[b]?) (ho:RowOk g w l es xs):RowOk g' w' l es xs :=
 ⟨ho.hmp,ho.hsize,ho.hes,ho.pos,ho.elems,ho.hnone,fun b hlb=>by
  obtain ⟨arr,t,h1,h2,h3,cs,h4,h5⟩:=ho.hsome b hlb
  exact ⟨arr,t,by rw [hb b hlb];exact h1,h2,h3,cs,h4.mono hg,h5⟩⟩
theorem EnOk.mono (hg:GLe g g' w w') {en:List (FV × FV)} {es:List MapEntry} (he:EnOk g w en es):EnOk g' w' en es:=by
 induction he with
 |nil=>exact .nil
 |cons k v e en es hk hv hs ih=>exact .cons k v e en es (hk.mono hg) (hv.mono hg) ih
theorem MapOk.mono (hg:GLe g g' w w') {l:Loc} {en:List (FV × FV)} (hb:∀ b,l.blk=some b→w'.heap[b]? = w.heap[b]?) (ho:MapOk g w l en):MapOk g' w' l en :=
 ⟨ho.hmp,ho.hlp,by
  obtain ⟨b,es,clock,h1,h2,h3,h4⟩:=ho.hsome
  exact ⟨b,es,clock,h1,by rw [hb b h1];exact h2,h3.mono hg,h4⟩⟩
theorem LpOk.mono {l:Loc} {st jp:Nat} (hb:∀ b,l.blk=some b→w'.heap[b]? = w.heap[b]?) (ho:LpOk w l st jp):LpOk w' l st jp :=
 ⟨ho.hmp,by
  obtain ⟨b,r,h1,h2,h3⟩:=ho.hsome
  exact ⟨b,r,h1,h2,by rw [hb b h1];exact h3⟩⟩
theorem SitOk.mono {l:Loc} {s:List UInt8} {pos:Nat} (hb:∀ b,l.blk=some b→w'.heap[b]? = w.heap[b]?) (ho:SitOk w l s pos):SitOk w' l s pos :=
 ⟨ho.hmp,ho.hlp,ho.hsize,by
  obtain ⟨b,h1,h3⟩:=ho.hsome
  exact ⟨b,h1,by rw [hb b h1];exact h3⟩⟩
theorem MitOk.mono (hg:GLe g g' w w') {l:Loc} (ho:MitOk g w l):MitOk g' w' l :=
 ⟨ho.hmp,ho.hlp,ho.hsize,by
  obtain ⟨b,m,s,sn,k,h1,h2,h3⟩:=ho.hsome
  exact ⟨b,m,s,sn,k,h1,hg.z b h2,by rw [hg.heap b h2];exact h3⟩⟩
theorem ObjOk.mono (hg:GLe g g' w w') {l:Loc} {o:Obj} (hb:∀ b,l.blk=some b→w'.heap[b]? = w.heap[b]?) (ho:ObjOk g w l o):ObjOk g' w' l o:=by
 cases o with
 |row es xs=>exact RowOk.mono hg hb ho
 |fro es xs=>exact ⟨RowOk.mono hg hb ho.1,fun b h=>hg.z b (ho.2 b h)⟩
 |mp en=>exact MapOk.mono hg hb ho
 |lp st jp=>exact LpOk.mono hb ho
 |fmp en=>exact ⟨MapOk.mono hg hb ho.1,fun b h=>hg.z b (ho.2 b h)⟩
 |sit s pos=>exact SitOk.mono hb ho
 |mit=>exact MitOk.mono hg ho
structure Put (g g':Gh) (w w':World) (id:Nat) (l':Loc):Prop where
 k:∀ i,g'.κ i=if i=id then some l' else g.κ i
 z:g'.Z=g.Z
 old:∀ l,g.κ id=some l→l.size ≤ l'.size∧l'.es=l.es∧(l'.size=l.size ∨ l.mp=true→l'=l)
 blk:∀ b,l'.blk=some b→(∃ l,g.κ id=some l∧l.blk=some b) ∨ w.heap.size ≤ b
 heap:∀ b,b < w.heap.size→l'.blk ≠ some b→w'.heap[b]? = w.heap[b]?
 sz:w.heap.size ≤ w'.heap.size
 lt:∀ b,l'.blk=some b→b < w'.heap.size
 os:w'.os=w.os
 tape:w'.tape=w.tape
 output:w'.output=w.output
theorem Put.gle (hI:Inv B w0 g h w) {id:Nat} {l':Loc} (p:Put g g' w w' id l') (hnf:∀ l,g.κ id=some l→isFro (hget h id)=false):GLe g g' w w':=by
 refine ⟨fun b hb=>by rw [p.z];exact hb,fun b hb=>?_,fun i l hl=>?_⟩
 ·refine p.heap b (hI.zlt b hb) fun e=>?_
  rcases p.blk b e with ⟨l,h1,h2⟩ | h1
  ·exact (hI.own id l b h1 h2).2.1 (hnf l h1) hb
  ·have:=hI.zlt b hb;omega
 ·rw [p.k]
  by_cases e:i=id
  ·subst e
   obtain ⟨h1,h2,h3⟩:=p.old l hl
   exact ⟨l',by simp,h1,h2,h3⟩
  ·rw [if_neg e];exact ⟨l,hl,Nat.le_refl _,rfl,fun _=>rfl⟩
theorem Inv.put (hI:Inv B w0 g h w) {id:Nat} {l':Loc} {ob:Obj} (p:Put g g' w w' id l') (hh:∀ i,hget h' i=if i=id then some ob else hget h i) (hob:ObjOk g' w' l' ob) (hnf:∀ l,g.κ id=some l→isFro (hget h id)=false):Inv B w0 g' h' w':=by
 have hg:=p.gle hI hnf
 have hother:∀ i l b,i ≠ id→g.κ i=some l→l.blk=some b→l'.blk ≠ some b:=by
  intro i l b hi hk hb e
  rcases p.blk b e with ⟨l2,h1,h2⟩ | h1
  ·exact hi (hI.inj i id l l2 b hk h1 hb h2)
  ·have:=(hI.own i l b hk hb).2.2;omega
 refine ⟨fun i l hl=>?_,fun i o l ho hl=>?_,fun i j li lj b hi hj hbi hbj=>?_,fun i l b hl hb=>?_,fun b hb=>?_,?_,?_⟩
 ·rw [hh]
  by_cases e:i=id
  ·exact ⟨ob,by simp [e]⟩
  ·rw [if_neg e];rw [p.k,if_neg e] at hl;exact hI.dom i l hl
 ·rw [hh] at ho
  by_cases e:i=id
  ·rw [if_pos e] at ho;cases ho
   rw [p.k,if_pos e] at hl;cases hl
   exact hob
  ·rw [if_neg e] at ho
   rw [p.k,if_neg e] at hl
   exact (hI.obj i o l ho hl).mono hg fun b hb=>p.heap b (hI.own i l b hl hb).2.2 (hother i l b e hl hb)
 ·rw [p.k] at hi hj
  by_cases ei:i=id<;>by_cases ej:j=id
  ·rw [ei,ej]
  ·rw [if_pos ei] at hi;rw [if_neg ej] at hj;cases hi
   exact absurd hbi (hother j lj b ej hj hbj)
  ·rw [if_neg ei] at hi;rw [if_pos ej] at hj;cases hj
   exact absurd hbj (hother i li b ei hi hbi)
  ·rw [if_neg ei] at hi;rw [if_neg ej] at hj
   exact hI.inj i j li lj b hi hj hbi hbj
 ·rw [p.k] at hl
  rw [p.z]
  by_cases e:i=id
  ·rw [if_pos e] at hl;cases hl
   rcases p.blk b hb with ⟨l,h1,h2⟩ | h1
   ·have:=hI.own id l b h1 h2;exact ⟨this.1,fun _=>this.2.1 (hnf l h1),p.lt b hb⟩
   ·exact ⟨Nat.le_trans hI.size h1,fun _ hz=>by have:=hI.zlt b hz;omega,p.lt b hb⟩
  ·rw [if_neg e] at hl
   have:=hI.own i l b hl hb
   exact ⟨this.1,fun hf=>this.2.1 (by rw [hh,if_neg e] at hf;exact hf),Nat.lt_of_lt_of_le this.2.2 p.sz⟩
 ·rw [p.z] at hb
  exact Nat.lt_of_lt_of_le (hI.zlt b hb) p.sz
 ·refine hI.below.trans ⟨p.os,p.tape,p.output,p.sz,fun k hk=>p.heap k (Nat.lt_of_lt_of_le hk hI.size) fun e=>?_⟩
  rcases p.blk k e with ⟨l,h1,h2⟩ | h1
  ·have:=(hI.own id l k h1 h2).1;omega
  ·have:=hI.size;omega
 ·exact Nat.le_trans hI.size p.sz
theorem hget_cons (h:Heap) (id:Nat) (o:Obj) (i:Nat):hget ((id,o)::h) i=if i=id then some o else hget h i:=by
 simp [hget,eq_comm]
theorem hget_hset {id:Nat} {o q:Obj} (hs:hget h id=some q) (i:Nat):hget (hset h id o) i=if i=id then some o else hget h i:=by
 induction h with
 |nil=>simp [hget] at hs
 |cons p r ih =>
  obtain ⟨j,u⟩:=p
  simp only [hset]
  by_cases hj:j=id
  ·subst hj
   rw [if_pos rfl]
   simp only [hget]
   by_cases e:j=i
   ·rw [if_pos e,if_pos e.symm]
   ·rw [if_neg e,if_neg (fun x=>e x.symm),if_neg e]
  ·rw [if_neg hj]
   simp only [hget,if_neg hj] at hs ⊢
   by_cases e:j=i
   ·subst e;rw [if_pos rfl,if_neg hj,if_pos rfl]
   ·rw [if_neg e,if_neg e];exact ih hs
def upd (κ:Nat→Option Loc) (id:Nat) (l:Loc):Nat→Option Loc:=fun i=>if i=id then some l else κ i
theorem kNone (hI:Inv B w0 g h w) {id:Nat} (hn:hget h id=none):g.κ id=none:=by
 cases hk:g.κ id with
 |none=>rfl
 |some l=>obtain ⟨o,ho⟩:=hI.dom id l hk;rw [hn] at ho;cases ho
theorem Put.alloc (_hI:Inv B w0 g h w) {id:Nat} (hn:g.κ id=none) (o:Go.Obj) (l':Loc) (hb:l'.blk=some w.heap.size):Put g ⟨upd g.κ id l',g.Z⟩ w (w.alloc o) id l' where
 k:=fun _=>rfl
 z:=rfl
 old:=fun l hl=>by rw [hn] at hl;cases hl
 blk:=fun b e=>by rw [hb] at e;cases e;exact .inr (Nat.le_refl _)
 heap:=fun b hlt _=>Below.heap_alloc w o b hlt
 sz:=by simp
 lt:=fun b e=>by rw [hb] at e;cases e;simp
 os:=rfl
 tape:=rfl
 output:=rfl
theorem Put.phantom (_hI:Inv B w0 g h w) {id:Nat} (hn:g.κ id=none) (l':Loc) (hb:l'.blk=none):Put g ⟨upd g.κ id l',g.Z⟩ w w id l' where
 k:=fun _=>rfl
 z:=rfl
 old:=fun l hl=>by rw [hn] at hl;cases hl
 blk:=fun b e=>by rw [hb] at e;cases e
 heap:=fun _ _ _=>rfl
 sz:=Nat.le_refl _
 lt:=fun b e=>by rw [hb] at e;cases e
 os:=rfl
 tape:=rfl
 output:=rfl
theorem alloc_heap (w:World) (o:Go.Obj):(w.alloc o).heap[w.heap.size]? = some o:=by show (w.heap.push o)[w.heap.size]? = _;simp
end
end Go.FI
namespace Go.FI
open Go.RowKit
variable [Sys]
def Does (P:Program) (B:Nat) (w0:World) (g:Gh) (h:Heap) (w:World) (a:Act) (o:Oper) (v:FV) (h':Heap) (N:Nat→Prop):Prop :=
 ∃ g' w' r x,(execOp a.eval o).run P w=.ok r w'∧(r=.value x ∨ (r=.skip∧x=undef))∧R g' w' v x∧Inv B w0 g' h' w'∧GLe g g' w w'∧(∀ b,g'.Z b→g.Z b ∨ w.heap.size ≤ b)∧w.heap.size ≤ w'.heap.size∧∀ i,¬ N i→g.κ i=none→g'.κ i=none∧hget h' i=hget h i
def zeroV (P:Program) (t:TypeId) (z:FV) (es:Nat):Bool :=
 sizeIs P t es && decide (0 < es) && z.ok && z.cells.length == es && (match P.info? t with
  |some i=>match i.zero with
   |some v=>okV v z
   |none=>false
  |none=>false)
def zeroV0 (P:Program) (t:TypeId) (z:FV) (es:Nat):Bool :=
 sizeIs P t es && z.ok && z.cells.length == es && (match P.info? t with
  |some i=>match i.zero with
   |some v=>okV v z
   |none=>false
  |none=>false)
def okElems:List (Nat × Operand)→List (Nat × X)→Bool
 |[],[]=>true
 |(i,x)::ps,(j,y)::qs=>i == j && okX x y && okElems ps qs
 |_,_=>false
def elemOk (P:Program) (d:TypeDesc) (f:TypeId→Bool):Bool :=
 match d with
 |.slice e=>f e
 |_=>false
def okNew (P:Program) (op:Op):O→Bool
 |.bx es x=>match op with
  |.box t x'=>okX x' x && sizeIs P t es && decide (0 < es)
  |_=>false
 |.al es z=>match op with
  |.alloc t=>zeroV0 P t z es
  |_=>false
 |.bs es n z ps=>match op with
  |.buildSlice t n' qs=>n' == n && okElems qs.toList ps && decide (n * es ≤ 16777216) && isDesc P t (fun d=>elemOk P d fun e=>zeroV P e z es)
  |_=>false
 |.ms es z l c=>match op with
  |.makeSlice t l' c'=>okX l' l && okX c' c && isDesc P t (fun d=>elemOk P d fun e=>zeroV P e z es && (match P.info? e with | some i=>decide (i.bytes ≤ 131072) | none=>false))
  |_=>false
 |.nl es=>match op with
  |.assign (.const (.slice none 0 0)) | .move (.const (.slice none 0 0))=>decide (0 < es)
  |_=>false
 |.mm=>match op with
  |.makeMap _ none=>true
  |_=>false
 |.rs x=>match op with
  |.range t x'=>okX x' x && isDesc P t isStr
  |_=>false
 |_=>false
section
variable {g g':Gh} {w w':World} {P:Program} {B:Nat} {w0:World} {h h':Heap} {a:Act} {m:Tm} {dst:Option Tmp} {op:Op} {ty:TypeId} {pos:String} {aft:Array Edge} {gd:Option (Nat × Bool)} {v:FV}
theorem new_var (hI:Inv B w0 g h w) {id es:Nat} {t:TypeId} (hn:g.κ id=none) {x:FV} (hq:∀ i,hget h' i=if i=id then some (.row es [x]) else hget h i) {vx:Value} (hx:R g w x vx) (hok:x.ok=true) (hc:x.cells.length=es) :
  ∃ g',Inv B w0 g' h' (w.alloc (.cells vx.cells t))∧GLe g g' w (w.alloc (.cells vx.cells t))∧g'.Z=g.Z∧R g' (w.alloc (.cells vx.cells t)) (.ptr id 1 0 0) (.pointer (some ⟨w.heap.size,0,none⟩))∧∀ i,¬ i=id→g.κ i=none→g'.κ i=none∧hget h' i=hget h i:=by
 have hcells:=hx.cells hok
 have hlen:vx.cells.size=es:=by have:=hcells.length;simp at this;omega
 have p:=Put.alloc hI hn (.cells vx.cells t) ⟨some w.heap.size,1,es,1,false,none⟩ rfl
 have hg:=p.gle hI (fun l hl=>by rw [hn] at hl;cases hl)
 refine ⟨_,hI.put p hq ?_ (fun l hl=>by rw [hn] at hl;cases hl),hg,rfl,?_,fun i hi hk=>⟨by simp [upd,hi,hk],by rw [hq,if_neg hi]⟩⟩
 ·refine ⟨rfl,rfl,rfl,trivial,?_,fun e=>by simp at e,fun b hb=>?_⟩
  ·intro y hy;simp at hy;subst hy;exact ⟨hc,hok⟩
  ·simp at hb;subst hb
   refine ⟨vx.cells,t,alloc_heap w _,by simp [hlen],Nat.le_refl _,vx.cells.toList,?_,fun j u hj=>by simpa using hj⟩
   simpa using hcells.mono hg
 ·exact .ptr id 1 0 0 ⟨some w.heap.size,1,es,1,false,none⟩ _ (by simp [upd]) (Nat.le_refl _) fun _=>⟨w.heap.size,rfl,by simp⟩
theorem d_bx (hI:Inv B w0 g h w) (hm:RT g w m a) {id es:Nat} {x:X} (hn:g.κ id=none) (hok:okNew P op (.bx es x)=true) {o:Obj} (hq:∀ i,hget h' i=if i=id then some o else hget h i) (hh:opn m id (.bx es x)=some (o,v)) :
  Does P B w0 g h w a ⟨dst,op,ty,pos,aft,gd⟩ v h' (· = id):=by
 cases op<;>simp only [okNew,Bool.false_eq_true] at hok
 rename_i t x'
 simp only [Bool.and_eq_true,decide_eq_true_eq] at hok
 obtain ⟨⟨h1,h2⟩,h3⟩:=hok
 simp only [opn] at hh
 obtain ⟨⟨h4,h5⟩,h6⟩:=chk_some hh
 simp only [Option.some.injEq,Prod.mk.injEq] at h6
 obtain ⟨rfl,rfl⟩:=h6
 obtain ⟨g',k1,k2,k3,k4,kk⟩:=new_var (t:=t) hI hn hq (R_okX hm h1) h4 h5
 refine ⟨g',_,_,_,exec_of_value (Instr.box t (a.eval x')) rfl (z:=.pointer (some ⟨w.heap.size,0,none⟩)) (w':=w.alloc (.cells (a.eval x').cells t)) rfl,.inl rfl,k4,k1,k2,fun b hb=>.inl (by rw [← k3];exact hb),by simp,kk⟩
theorem zeroV_of {t:TypeId} {z:FV} {es:Nat} (hz:zeroV P t z es=true):sizeIs P t es=true∧0 < es∧z.ok=true∧z.cells.length=es∧∃ i v,P.info? t=some i∧i.zero=some v∧i.size=es∧okV v z=true:=by
 unfold zeroV at hz
 simp only [Bool.and_eq_true,decide_eq_true_eq,beq_iff_eq] at hz
 obtain ⟨⟨⟨⟨h1,h2⟩,h3⟩,h4⟩,h5⟩:=hz
 refine ⟨h1,h2,h3,h4,?_⟩
 split at h5
 ·split at h5
  ·rename_i i hi _ v hv
   refine ⟨i,v,hi,hv,?_,h5⟩
   simp [sizeIs,hi] at h1;exact h1
  ·simp at h5
 ·simp at h5
theorem zeroV0_of {t:TypeId} {z:FV} {es:Nat} (hz:zeroV0 P t z es=true):sizeIs P t es=true∧z.ok=true∧z.cells.length=es∧∃ i v,P.info? t=some i∧i.zero=some v∧i.size=es∧okV v z=true:=by
 unfold zeroV0 at hz
 simp only [Bool.and_eq_true,decide_eq_true_eq,beq_iff_eq] at hz
 obtain ⟨⟨⟨h1,h3⟩,h4⟩,h5⟩:=hz
 refine ⟨h1,h3,h4,?_⟩
 split at h5
 ·split at h5
  ·rename_i i hi _ v hv
   refine ⟨i,v,hi,hv,?_,h5⟩
   simp [sizeIs,hi] at h1;exact h1
  ·simp at h5
 ·simp at h5
theorem d_al (hI:Inv B w0 g h w) {id es:Nat} {z:FV} (hn:g.κ id=none) (hok:okNew P op (.al es z)=true) {o:Obj} (hq:∀ i,hget h' i=if i=id then some o else hget h i) (hh:opn m id (.al es z)=some (o,v)) :
  Does P B w0 g h w a ⟨dst,op,ty,pos,aft,gd⟩ v h' (· = id):=by
 cases op<;>simp only [okNew,Bool.false_eq_true] at hok
 rename_i t
 obtain ⟨h1,h3,h4,i,zv,h5,h6,h7,h8⟩:=zeroV0_of hok
 simp only [opn,Option.some.injEq,Prod.mk.injEq] at hh
 obtain ⟨rfl,rfl⟩:=hh
 obtain ⟨g',k1,k2,k3,k4,kk⟩:=new_var (t:=t) hI hn hq (R_okV (g:=g) (w:=w) h8) h3 h4
 refine ⟨g',_,_,_,exec_of_value (Instr.alloc t true (.tuple #[])) rfl (z:=.pointer (some ⟨w.heap.size,0,none⟩)) (w':=w.alloc (.cells zv.cells t)) ?_,.inl rfl,k4,k1,k2,fun b hb=>.inl (by rw [← k3];exact hb),by simp,kk⟩
 simp only [Instr.alloc,Sem.run_bind,zeroValue,typeInfo,run_program,Result.andThen_ok,h5,h6,Sem.run_pure]
 rfl
theorem new_row (hI:Inv B w0 g h w) {id es:Nat} {t:TypeId} (hn:g.κ id=none) {xs:List FV} (hq:∀ i,hget h' i=if i=id then some (.row es xs) else hget h i) {cells:Array Value} (cap:Nat) (hcap:xs.length ≤ cap) (hsz:cells.size=cap * es) {cs:List Value}
  (hr:RL g w (xs.flatMap FV.cells) cs) (hcs:∀ (j:Nat) v,cs[j]? = some v→cells[j]? = some v) (hx:∀ x ∈ xs,x.cells.length=es∧x.ok=true) (hp:0 < es) :
  ∃ g',Inv B w0 g' h' (w.alloc (.cells cells t))∧GLe g g' w (w.alloc (.cells cells t))∧g'.Z=g.Z∧R g' (w.alloc (.cells cells t)) (.sref es id xs.length 0 xs.length) (.slice (some ⟨w.heap.size,0,none⟩) xs.length cap)∧∀ i,¬ i=id→g.κ i=none→g'.κ i=none∧hget h' i=hget h i:=by
 have p:=Put.alloc hI hn (.cells cells t) ⟨some w.heap.size,xs.length,es,cap,false,none⟩ rfl
 have hg:=p.gle hI (fun l hl=>by rw [hn] at hl;cases hl)
 refine ⟨_,hI.put p hq ?_ (fun l hl=>by rw [hn] at hl;cases hl),hg,rfl,?_,fun i hi hk=>⟨by simp [upd,hi,hk],by rw [hq,if_neg hi]⟩⟩
 ·refine ⟨rfl,rfl,rfl,trivial,hx,fun e=>by simp at e,fun b hb=>?_⟩
  simp at hb;subst hb
  exact ⟨cells,t,alloc_heap w _,hsz,hcap,cs,hr.mono hg,hcs⟩
 ·exact .sref es id _ 0 _ ⟨some w.heap.size,xs.length,es,cap,false,none⟩ _ cap (by simp [upd]) rfl (Nat.le_refl _) hcap (fun _=>rfl) fun _=>⟨by simpa using hcap,by simp,fun _=>⟨w.heap.size,rfl,by simp⟩⟩
theorem replicate_flat (n:Nat) (z:FV):(List.replicate n z).flatMap FV.cells=(List.replicate n z.cells).flatten:=by
 induction n with
 |zero=>rfl
 |succ n ih=>simp [List.replicate_succ,ih]
theorem zero_cells {zv:Value} {z:FV} (hz:RL g w z.cells zv.cells.toList) (n:Nat):RL g w ((List.replicate n z).flatMap FV.cells) (List.replicate n zv.cells.toList).flatten:=by
 rw [replicate_flat]
 induction n with
 |zero=>exact .nil
 |succ n ih=>simp only [List.replicate_succ,List.flatten_cons];exact hz.append ih
theorem rep_get {α:Type} (z:List α) (hz:0 < z.length):∀ (n j:Nat),j < n * z.length→(List.replicate n z).flatten[j]? = z[j % z.length]?
 |0,j,hj=>by simp at hj
 |n + 1,j,hj=>by
  rw [List.replicate_succ,List.flatten_cons,List.getElem?_append]
  split
  ·rename_i h;rw [Nat.mod_eq_of_lt h]
  ·rename_i h
   have h1:z.length ≤ j:=by omega
   rw [rep_get z hz n (j - z.length) (by rw [Nat.add_mul] at hj;omega)]
   congr 1
   exact (Nat.mod_eq_sub_mod h1).symm
theorem range_mod (z:Array Value) (hz:0 < z.size) (n:Nat):((Array.range (n * z.size)).map (fun i=>z[i % z.size]!)).toList=(List.replicate n z.toList).flatten:=by
 apply List.ext_getElem?
 intro j
 by_cases hj:j < n * z.size
 ·rw [rep_get z.toList (by simpa using hz) n j (by simpa using hj)]
  have hm:j % z.size < z.size:=Nat.mod_lt _ hz
  simp [hj,hm]
 ·have h1:((Array.range (n * z.size)).map (fun i=>z[i % z.size]!)).toList.length ≤ j:=by simp;omega
  have h2:(List.replicate n z.toList).flatten.length ≤ j:=by simp;omega
  rw [List.getElem?_eq_none h1,List.getElem?_eq_none h2]
theorem fillElems_sound (hm:RT g w m a) {es:Nat} (hp:0 < es):∀ (qs:List (Nat × Operand)) (ps:List (Nat × X)) (xs:List FV) (arr:Array Value) (out:List FV),okElems qs ps=true →
  (∀ x ∈ xs,x.cells.length=es∧x.ok=true)→RL g w (xs.flatMap FV.cells) arr.toList→fillElems m es xs ps=some out →
   (∃ arr',Instr.fill (fun i=>some (i * es,es)) arr (qs.map fun p=>(p.1,a.eval p.2))=some arr'∧RL g w (out.flatMap FV.cells) arr'.toList∧arr'.size=arr.size)∧(∀ x ∈ out,x.cells.length=es∧x.ok=true)∧out.length=xs.length
 |[],[],xs,arr,out,_,hx,hr,h=>by
  simp only [fillElems,Option.some.injEq] at h;subst h
  exact ⟨⟨arr,rfl,hr,rfl⟩,hx,rfl⟩
 |[],_::_,_,_,_,hok,_,_,_=>by simp [okElems] at hok
 |_::_,[],_,_,_,hok,_,_,_=>by simp [okElems] at hok
 |(i,x)::qs,(j,y)::ps,xs,arr,out,hok,hx,hr,h=>by
  simp only [okElems,Bool.and_eq_true,beq_iff_eq] at hok
  obtain ⟨⟨rfl,h2⟩,h3⟩:=hok
  simp only [fillElems] at h
  obtain ⟨⟨h4,h5,h6⟩,h7⟩:=chk_some h
  have hc:=(R_okX hm h2).cells h4
  have hl:(a.eval x).cells.size=es:=by have:=hc.length;simp at this;omega
  have hlen:arr.size=xs.length * es:=by have:=hr.length;rw [flat_length (fun x hx'=>(hx x hx').1)] at this;simpa using this.symm
  have hfit:i * es + es ≤ xs.length * es:=by
   have:(i + 1) * es ≤ xs.length * es:=Nat.mul_le_mul_right _ h5
   rw [Nat.add_mul] at this;omega
  have hs:=hr.splice hc (i * es)
  have hfold:=fold_splice (i * es) (a.eval x).cells.toList 0 arr (by simp;omega)
  simp only [Nat.add_zero] at hfold
  have e0:(a.eval x).cells.zipIdx.foldl (fun (cs:Array Value) (p:Value × Nat)=>cs.setIfInBounds (i * es + p.2) p.1) arr=((a.eval x).cells.toList.zipIdx).foldl (fun (cs:Array Value) (p:Value × Nat)=>cs.setIfInBounds (i * es + p.2) p.1) arr:=by
   rw [← Array.foldl_toList,Array.toList_zipIdx]
  have hset:splice (xs.flatMap FV.cells) (i * es) (ev m y).cells=(xs.set i (ev m y)).flatMap FV.cells:=flat_set (fun x hx'=>(hx x hx').1) h5 h6
  have hx2:∀ x ∈ xs.set i (ev m y),x.cells.length=es∧x.ok=true:=fun z hz=>by
   rcases List.mem_or_eq_of_mem_set hz with hz | rfl
   ·exact hx z hz
   ·exact ⟨h6,h4⟩
  obtain ⟨⟨arr',e1,e2,e3⟩,e4,e5⟩:=fillElems_sound hm hp qs ps (xs.set i (ev m y)) ((a.eval x).cells.zipIdx.foldl (fun (cs:Array Value) (p:Value × Nat)=>cs.setIfInBounds (i * es + p.2) p.1) arr) out h3 hx2 (by
   rw [e0,hfold,← hset];exact hs) h7
  refine ⟨⟨arr',?_,e2,?_⟩,e4,by simpa using e5⟩
  ·simp only [List.map_cons,Instr.fill]
   rw [if_neg]
   ·exact e1
   ·simp [hl];omega
  ·rw [e3,e0]
   have:=congrArg List.length hfold
   simp at this
   omega
theorem elemOk_of {t:TypeId} {f:TypeId→Bool} (hh:isDesc P t (fun d=>elemOk P d f)=true):∃ e,P.underlying t=some (.slice e)∧f e=true:=by
 obtain ⟨d,hd,hp⟩:=desc_of hh
 cases d<;>simp [elemOk] at hp
 exact ⟨_,hd,hp⟩
theorem d_bs (hI:Inv B w0 g h w) (hm:RT g w m a) {id es n:Nat} {z:FV} {ps:List (Nat × X)} (hn:g.κ id=none) (hok:okNew P op (.bs es n z ps)=true) {o:Obj} (hq:∀ i,hget h' i=if i=id then some o else hget h i) (hh:opn m id (.bs es n z ps)=some (o,v)) :
  Does P B w0 g h w a ⟨dst,op,ty,pos,aft,gd⟩ v h' (· = id):=by
 cases op<;>simp only [okNew,Bool.false_eq_true] at hok
 rename_i t n' qs
 simp only [Bool.and_eq_true,decide_eq_true_eq,beq_iff_eq] at hok
 obtain ⟨⟨⟨rfl,h1⟩,h2⟩,h3⟩:=hok
 obtain ⟨e,hd,hz⟩:=elemOk_of h3
 obtain ⟨hs1,hs2,hs3,hs4,i,zv,hi,hzv,hsz,hok⟩:=zeroV_of hz
 simp only [opn] at hh
 obtain ⟨xs,hxs,h4⟩:=bnd_some hh
 simp only [Option.some.injEq,Prod.mk.injEq] at h4
 obtain ⟨rfl,rfl⟩:=h4
 have hzc:=(R_okV (g:=g) (w:=w) hok).cells hs3
 have hzl:zv.cells.size=es:=by have:=hzc.length;simp at this;omega
 have hx0:∀ x ∈ List.replicate n' z,x.cells.length=es∧x.ok=true:=fun x hx=>by
  rw [(List.mem_replicate.1 hx).2];exact ⟨hs4,hs3⟩
 have harr:((Array.range (n' * es)).map (fun i=>zv.cells[i % zv.cells.size]!)).toList=(List.replicate n' zv.cells.toList).flatten:=by
  have:=range_mod zv.cells (by omega) n'
  rw [hzl] at this ⊢; exact this
 obtain ⟨⟨arr',e1,e2,e3⟩,e4,e5⟩:=fillElems_sound (g:=g) (w:=w) hm hs2 qs.toList ps (List.replicate n' z) ((Array.range (n' * es)).map (fun i=>zv.cells[i % zv.cells.size]!)) xs h1 hx0 (by
  rw [harr];exact zero_cells hzc n') hxs
 simp only [List.length_replicate] at e5
 obtain ⟨g',k1,k2,k3,k4,kk⟩:=new_row (t:=e) (cells:=arr') hI hn hq n' (by omega) (by rw [e3];simp) e2 (fun j v hj=>by simpa using hj) e4 hs2
 rw [e5] at k4
 have hmap:(qs.map fun (i,x)=>(i,a.eval x)).toList=qs.toList.map fun p=>(p.1,a.eval p.2):=by simp
 refine ⟨g',_,_,_,exec_of_value (Instr.buildSlice t n' (qs.map fun (i,x)=>(i,a.eval x))) rfl (z:=.slice (some ⟨w.heap.size,0,none⟩) n' n') (w':=w.alloc (.cells arr' e)) ?_,.inl rfl,k4,k1,k2,fun b hb=>.inl (by rw [← k3];exact hb),by simp,kk⟩
 simp only [Instr.buildSlice,Sem.run_bind,underlying,run_program,Result.andThen_ok,hd,Sem.run_pure,run_sizeOf w hs1]
 rw [if_neg (by omega)]
 by_cases hz0:n' * es=0
 ·have hn0:n'=0:=by
   rcases Nat.mul_eq_zero.1 hz0 with h | h
   ·exact h
   ·omega
  subst hn0
  simp only [Nat.zero_mul,if_true,Sem.run_pure,Result.andThen_ok,hmap]
  simp only [Nat.zero_mul,Array.range_zero',Array.map_empty] at e1 ⊢
  rw [e1]
  rfl
 ·rw [if_neg hz0]
  simp only [Sem.run_bind,zeroValue,typeInfo,run_program,Result.andThen_ok,hi,hzv,Sem.run_pure,hmap,e1]
  rfl
theorem d_ms (hI:Inv B w0 g h w) (hm:RT g w m a) {id es:Nat} {z:FV} {l c:X} (hn:g.κ id=none) (hok:okNew P op (.ms es z l c)=true) {o:Obj} (hq:∀ i,hget h' i=if i=id then some o else hget h i) (hh:opn m id (.ms es z l c)=some (o,v)) :
  Does P B w0 g h w a ⟨dst,op,ty,pos,aft,gd⟩ v h' (· = id):=by
 cases op<;>simp only [okNew,Bool.false_eq_true] at hok
 rename_i t l' c'
 simp only [Bool.and_eq_true] at hok
 obtain ⟨⟨h1,h2⟩,h3⟩:=hok
 obtain ⟨e,hd,hz⟩:=elemOk_of h3
 simp only [Bool.and_eq_true] at hz
 obtain ⟨hz,hb⟩:=hz
 obtain ⟨hs1,hs2,hs3,hs4,i,zv,hi,hzv,hsz,hok⟩:=zeroV_of hz
 simp only [hi,decide_eq_true_eq] at hb
 simp only [opn] at hh
 split at hh
 ·rename_i k1 n k2 cc hl hc
  obtain ⟨⟨h4,h5,h6⟩,h7⟩:=chk_some hh
  simp only [Option.some.injEq,Prod.mk.injEq] at h7
  obtain ⟨rfl,rfl⟩:=h7
  have el:=R_int (hl ▸ R_okX hm h1:R g w (.int k1 n) (a.eval l'))
  have ec:=R_int (hc ▸ R_okX hm h2:R g w (.int k2 cc) (a.eval c'))
  have hzc:=(R_okV (g:=g) (w:=w) hok).cells hs3
  have hzl:zv.cells.size=es:=by have:=hzc.length;simp at this;omega
  have hx0:∀ x ∈ List.replicate n.toNat z,x.cells.length=es∧x.ok=true:=fun x hx=>by
   rw [(List.mem_replicate.1 hx).2];exact ⟨hs4,hs3⟩
  have harr:=range_mod zv.cells (by omega) cc.toNat
  obtain ⟨g',q1,q2,q3,q4,kk⟩:=new_row (t:=e) (xs:=List.replicate n.toNat z) (cells:=(Array.range (cc.toNat * i.size)).map (fun j=>zv.cells[j % zv.cells.size]!)) hI hn hq cc.toNat (by simp;omega) (by simp [hsz])
   (zero_cells hzc n.toNat) (fun j v hj=>by
    have hjl:j < (List.replicate n.toNat zv.cells.toList).flatten.length:=(List.getElem?_eq_some_iff.1 hj).1
    simp at hjl
    rw [rep_get _ (by simp;omega) _ _ (by simpa using hjl)] at hj
    have hlt:j < cc.toNat * zv.cells.size:=Nat.lt_of_lt_of_le hjl (Nat.mul_le_mul_right _ (by omega))
    have:=rep_get zv.cells.toList (by simp;omega) cc.toNat j (by simpa using hlt)
    rw [← harr,hj] at this
    have e3:i.size=zv.cells.size:=by omega
    rw [e3,← Array.getElem?_toList]
    exact this) hx0 hs2
  simp only [List.length_replicate] at q4
  refine ⟨g',_,_,_,exec_of_value (Instr.makeSlice t (a.eval l') (a.eval c')) rfl (z:=.slice (some ⟨w.heap.size,0,none⟩) n.toNat cc.toNat) (w':=w.alloc (.cells ((Array.range (cc.toNat * i.size)).map (fun j=>zv.cells[j % zv.cells.size]!)) e)) ?_,.inl rfl,q4,q1,q2,fun b hb=>.inl (by rw [← q3];exact hb),by simp,kk⟩
  rw [el,ec]
  have hbytes:(i.bytes:Int) * cc ≤ 281474976710656:=by
   have h1:(i.bytes:Int) ≤ 131072:=by omega
   have h2:(i.bytes:Int) * cc ≤ 131072 * 1073741824:=Int.mul_le_mul h1 h6 (by omega) (by omega)
   omega
  exact run_make w t e i zv hd hi hzv k1 k2 n cc h4 h5 hbytes (by omega)
 ·simp at hh
theorem d_nl (hI:Inv B w0 g h w) {id es:Nat} (hn:g.κ id=none) (hok:okNew P op (.nl es)=true) {o:Obj} (hq:∀ i,hget h' i=if i=id then some o else hget h i) (hh:opn m id (.nl es)=some (o,v)) :
  Does P B w0 g h w a ⟨dst,op,ty,pos,aft,gd⟩ v h' (· = id):=by
 simp only [opn,Option.some.injEq,Prod.mk.injEq] at hh
 obtain ⟨rfl,rfl⟩:=hh
 have hp:0 < es∧(execOp a.eval ⟨dst,op,ty,pos,aft,gd⟩).run P w=.ok (.value (.slice none 0 0)) w:=by
  cases op<;>simp only [okNew,Bool.false_eq_true] at hok
  all_goals
   split at hok
   ·rename_i he;cases he
    all_goals exact ⟨by simpa using hok,rfl⟩
   ·rename_i he;cases he
    all_goals exact ⟨by simpa using hok,rfl⟩
   ·simp at hok
 have p:=Put.phantom hI hn ⟨none,0,es,0,false,none⟩ rfl
 have hg:=p.gle hI (fun l hl=>by rw [hn] at hl;cases hl)
 refine ⟨_,w,_,_,hp.2,.inl rfl,?_,hI.put p hq ?_ (fun l hl=>by rw [hn] at hl;cases hl),hg,fun b hb=>.inl hb,Nat.le_refl _,fun i hi hk=>⟨by simp [upd,hi,hk],by rw [hq,if_neg hi]⟩⟩
 ·exact .sref es id 0 0 0 ⟨none,0,es,0,false,none⟩ none 0 (by simp [upd]) rfl (Nat.le_refl _) (Nat.le_refl _) (fun h=>by omega) fun _=>⟨by omega,by simp,fun h=>by omega⟩
 ·exact ⟨rfl,rfl,rfl,trivial,fun x hx=>by simp at hx,fun _=>⟨rfl,rfl⟩,fun b hb=>by simp at hb⟩
theorem d_mm (hI:Inv B w0 g h w) {id:Nat} (hn:g.κ id=none) (hok:okNew P op .mm=true) {o:Obj} (hq:∀ i,hget h' i=if i=id then some o else hget h i) (hh:opn m id .mm=some (o,v)) :
  Does P B w0 g h w a ⟨dst,op,ty,pos,aft,gd⟩ v h' (· = id):=by
 simp only [opn,Option.some.injEq,Prod.mk.injEq] at hh
 obtain ⟨rfl,rfl⟩:=hh
 have hp:(execOp a.eval ⟨dst,op,ty,pos,aft,gd⟩).run P w=.ok (.value (.map (some w.heap.size))) (w.alloc (.map #[] 0)):=by
  cases op<;>simp only [okNew,Bool.false_eq_true] at hok
  rename_i t r
  cases r<;>simp at hok
  rfl
 have p:=Put.alloc hI hn (.map #[] 0) ⟨some w.heap.size,0,0,0,true,none⟩ rfl
 have hg:=p.gle hI (fun l hl=>by rw [hn] at hl;cases hl)
 refine ⟨_,_,_,_,hp,.inl rfl,?_,hI.put p hq ?_ (fun l hl=>by rw [hn] at hl;cases hl),hg,fun b hb=>.inl hb,by simp,fun i hi hk=>⟨by simp [upd,hi,hk],by rw [hq,if_neg hi]⟩⟩
 ·exact .map id _ ⟨some w.heap.size,0,0,0,true,none⟩ (by simp [upd]) rfl rfl
 ·exact ⟨rfl,rfl,w.heap.size,#[],0,rfl,alloc_heap w _,.nil,by simp [Stamps]⟩
theorem d_rs (hI:Inv B w0 g h w) (hm:RT g w m a) {id:Nat} {x:X} (hn:g.κ id=none) (hok:okNew P op (.rs x)=true) {o:Obj} (hq:∀ i,hget h' i=if i=id then some o else hget h i) (hh:opn m id (.rs x)=some (o,v)) :
  Does P B w0 g h w a ⟨dst,op,ty,pos,aft,gd⟩ v h' (· = id):=by
 simp only [opn] at hh
 split at hh
 ·rename_i s hx
  simp only [Option.some.injEq,Prod.mk.injEq] at hh
  obtain ⟨rfl,rfl⟩:=hh
  cases op<;>simp only [okNew,Bool.false_eq_true] at hok
  rename_i t x'
  simp only [Bool.and_eq_true] at hok
  obtain ⟨d,hd,hp'⟩:=desc_of hok.2
  cases d<;>simp [isStr] at hp'
  have hr:=R_okX hm hok.1
  rw [hx] at hr
  generalize hev:a.eval x'=y at hr
  cases hr with
  |str bs =>
  have hp:(execOp a.eval ⟨dst,Op.range t x',ty,pos,aft,gd⟩).run P w=.ok (.value (.pointer (some ⟨w.heap.size,0,none⟩))) (w.alloc (.stringIter bs 0)):=by
   refine exec_of_value (Instr.range t (a.eval x')) rfl ?_
   rw [hev]
   simp only [Instr.range,Sem.run_bind,underlying,run_program,Result.andThen_ok,hd,Sem.run_pure]
   rfl
  have p:=Put.alloc hI hn (.stringIter bs 0) ⟨some w.heap.size,1,0,1,true,none⟩ rfl
  have hg:=p.gle hI (fun l hl=>by rw [hn] at hl;cases hl)
  refine ⟨_,_,_,_,hp,.inl rfl,?_,hI.put p hq ?_ (fun l hl=>by rw [hn] at hl;cases hl),hg,fun b hb=>.inl hb,by simp,fun i hi hk=>⟨by simp [upd,hi,hk],by rw [hq,if_neg hi]⟩⟩
  ·exact .ptr id 1 0 0 ⟨some w.heap.size,1,0,1,true,none⟩ _ (by simp [upd]) (Nat.le_refl _) fun _=>⟨w.heap.size,rfl,rfl⟩
  ·exact ⟨rfl,rfl,rfl,w.heap.size,rfl,by rw [alloc_heap w _]⟩
 ·simp at hh
end
end Go.FI
namespace Go.FI
open Go.RowKit
variable [Sys]
theorem splice_get {α:Type} (l m:List α) (o j:Nat) (hl:o + m.length ≤ l.length):(l.take o ++ m ++ l.drop (o + m.length))[j]? = if j < o then l[j]? else if j < o + m.length then m[j - o]? else l[j]? := by
 rw [List.append_assoc,List.getElem?_append,List.getElem?_append]
 simp only [List.length_take,List.getElem?_take,List.getElem?_drop]
 have:min o l.length=o:=by omega
 rw [this]
 by_cases h1:j < o
 ·simp [h1]
 ·simp only [h1,if_false]
  by_cases h2:j < o + m.length
  ·rw [if_pos (by omega),if_pos h2]
  ·rw [if_neg (by omega),if_neg h2]
   congr 1;omega
theorem splice_length {α:Type} (l m:List α) (o:Nat) (hl:o + m.length ≤ l.length):(l.take o ++ m ++ l.drop (o + m.length)).length=l.length:=by
 simp;omega
theorem splice_splice (l vs:List FV) (p n off:Nat) (h1:off + vs.length ≤ n) (h2:p + n ≤ l.length):splice l p (splice (cut l p (p + n)) off vs)=splice l (p + off) vs:=by
 have hc:(cut l p (p + n)).length=n:=by rw [cut_length _ _ _ h2];omega
 have hs:(splice (cut l p (p + n)) off vs).length=n:=by unfold splice;rw [splice_length _ _ _ (by omega)];exact hc
 apply List.ext_getElem?
 intro j
 have e1:(splice l p (splice (cut l p (p + n)) off vs))[j]? = _:=splice_get l (splice (cut l p (p + n)) off vs) p j (by omega)
 have e2:(splice l (p + off) vs)[j]? = _:=splice_get l vs (p + off) j (by omega)
 rw [e1,e2,hs]
 by_cases h3:j < p
 ·rw [if_pos h3,if_pos (by omega)]
 ·rw [if_neg h3]
  by_cases h4:j < p + n
  ·rw [if_pos h4]
   have e3:(splice (cut l p (p + n)) off vs)[j - p]? = _:=splice_get (cut l p (p + n)) vs off (j - p) (by omega)
   rw [e3]
   have e4:(cut l p (p + n))[j - p]? = l[j]? := by
    unfold cut
    rw [List.getElem?_take,if_pos (by omega),List.getElem?_drop]
    congr 1;omega
   rw [e4]
   by_cases h5:j < p + off
   ·rw [if_pos (by omega),if_pos h5]
   ·rw [if_neg (by omega),if_neg h5]
    by_cases h6:j < p + off + vs.length
    ·rw [if_pos (by omega),if_pos h6];congr 1;omega
    ·rw [if_neg (by omega),if_neg h6]
  ·rw [if_neg h4,if_neg (by omega),if_neg (by omega)]
theorem ok_cells {v:FV} (h:v.ok=true):∀ c ∈ v.cells,c.one=true:=by
 intro c hc
 unfold FV.ok at h
 split at h
 ·rename_i cs;simp only [List.all_eq_true] at h;exact h c hc
 ·rename_i hn
  have:v.cells=[v]:=by unfold FV.cells;split<;>simp_all
  rw [this] at hc;simp at hc;subst hc;exact h
theorem ok_of_one {v:FV} (h:v.one=true):v.ok=true:=by unfold FV.ok;split<;>simp_all [FV.one]
theorem cells_of_one {v:FV} (h:v.one=true):v.cells=[v]:=by unfold FV.cells;split<;>simp_all [FV.one]
theorem reshape_spec {e:FV} {cs:List FV} (hl:cs.length=e.cells.length) (h1:∀ c ∈ cs,c.one=true):(reshape e cs).cells=cs∧(reshape e cs).ok=true:=by
 unfold reshape
 split
 ·exact ⟨rfl,by simp only [FV.ok,List.all_eq_true];exact h1⟩
 ·have:e.cells.length=1:=by unfold FV.cells;split<;>simp_all
  match cs,hl with
  |[c],_=>exact ⟨cells_of_one (h1 c (by simp)),ok_of_one (h1 c (by simp))⟩
  |[],hl=>simp [this] at hl
  |_::_::_,hl=>simp [this] at hl
theorem splice_one {l vs:List FV} {o:Nat} (h1:∀ c ∈ l,c.one=true) (h2:∀ c ∈ vs,c.one=true):∀ c ∈ splice l o vs,c.one=true:=by
 intro c hc
 unfold splice at hc
 simp only [List.mem_append] at hc
 rcases hc with (hc | hc) | hc
 ·exact h1 c (List.mem_of_mem_take hc)
 ·exact h2 c hc
 ·exact h1 c (List.mem_of_mem_drop hc)
section
variable {g g':Gh} {w w':World} {P:Program} {B:Nat} {w0:World} {h h':Heap} {a:Act} {m:Tm} {dst:Option Tmp} {op:Op} {ty:TypeId} {pos:String} {aft:Array Edge} {gd:Option (Nat × Bool)} {v:FV}
theorem R_one {v:FV} {x:Value} (hr:R g w v x) (h1:v.one=true):x.oneCell'=true:=by
 cases hr<;>simp [FV.one] at h1<;>rfl
theorem RL_one {vs:List FV} {xs:List Value} (hr:RL g w vs xs) (h1:∀ c ∈ vs,c.one=true):∀ x ∈ xs,x.oneCell'=true:=by
 induction vs generalizing xs with
 |nil=>cases hr;simp
 |cons v vs ih =>
  cases hr with
  |cons _ x _ ys hr hs =>
   intro y hy
   simp at hy
   rcases hy with rfl | hy
   ·exact R_one hr (h1 v (by simp))
   ·exact ih hs (fun c hc=>h1 c (by simp [hc])) y hy
theorem Put.row {id:Nat} {l:Loc} {b:Nat} (hk:g.κ id=some l) (hb:l.blk=some b) (hlt:b < w.heap.size) (cs:Array Value) (l':Loc) (hb':l'.blk=some b) (hs:l.size ≤ l'.size) (he:l'.es=l.es) (hm:l.mp=false) (hsame:l'.size=l.size→l'=l) :
  Put g ⟨upd g.κ id l',g.Z⟩ w (w.setRow b cs) id l' where
 k:=fun _=>rfl
 z:=rfl
 old:=fun l2 hl=>by rw [hk] at hl;cases hl;exact ⟨hs,he,fun e=>by rcases e with e | e;exact hsame e;rw [hm] at e;cases e⟩
 blk:=fun c e=>.inl ⟨l,hk,by rw [hb];rw [hb'] at e;exact e⟩
 heap:=fun c _ hc=>setRow_other w b c cs fun e=>hc (by rw [hb',e])
 sz:=by simp
 lt:=fun c e=>by rw [hb'] at e;cases e;simpa using hlt
 os:=rfl
 tape:=rfl
 output:=rfl
theorem upd_self {κ:Nat→Option Loc} {id:Nat} {l:Loc} (hk:κ id=some l):upd κ id l=κ:=by
 funext i;unfold upd;split
 ·rename_i e;subst e;exact hk.symm
 ·rfl
theorem write_row (hI:Inv B w0 g h w) {id es:Nat} {xs xs':List FV} {l:Loc} (hg:hget h id=some (.row es xs)) (hk:g.κ id=some l) {b:Nat} (hb:l.blk=some b) {o:Nat} {vs:List FV} {ys:List Value} (hr:RL g w vs ys) (h1:∀ c ∈ vs,c.one=true)
  (hfit:o + vs.length ≤ xs.length * es) (hx:xs'.flatMap FV.cells=splice (xs.flatMap FV.cells) o vs) (hxs:∀ x ∈ xs',x.cells.length=es∧x.ok=true) (hlen:xs'.length=xs.length) :
  ∃ w',(storeCells ⟨b,o,none⟩ ys).run P w=.ok () w'∧Inv B w0 g (hset h id (.row es xs')) w'∧GLe g g w w'∧w'.heap.size=w.heap.size:=by
 obtain ⟨l2,hk2,hrow⟩:=hI.obj' hk hg
 rw [hk] at hk2;cases hk2
 have hrow:RowOk g w l es xs:=hrow
 obtain ⟨arr,t,q1,q2,q3,cs,q4,q5⟩:=hrow.hsome b hb
 have hblt:b < w.heap.size:=(hI.own id l b hk hb).2.2
 have hcsl:cs.length=xs.length * es:=by rw [← q4.length,flat_length (fun x hx=>(hrow.elems x hx).1)]
 have hyl:ys.length=vs.length:=hr.length.symm
 have harr:o + ys.length ≤ arr.toList.length:=by
  have:xs.length * es ≤ l.cap * es:=Nat.mul_le_mul_right _ q3
  simp;omega
 have hrun:=run_storeCells_at (P:=P) b o t ys 0 arr w q1 (by simpa using harr) (RL_one hr h1)
 simp only [Nat.add_zero] at hrun
 have p:=Put.row (w:=w) hk hb hblt (arr.toList.take o ++ ys ++ arr.toList.drop (o + ys.length)).toArray l hb (Nat.le_refl _) rfl hrow.hmp (fun _=>rfl)
 rw [upd_self hk] at p
 have hle:=p.gle hI (fun _ _=>by rw [hg];rfl)
 refine ⟨_,hrun,hI.put p (hget_hset hg) ?_ (fun _ _=>by rw [hg];rfl),hle,by simp⟩
 refine ⟨hrow.hmp,by rw [hrow.hsize,hlen],hrow.hes,hrow.pos,hxs,fun e=>absurd (hb.symm.trans e) (by simp),fun b2 hb2=>?_⟩
 rw [hb] at hb2;cases hb2
 refine ⟨_,t,setRow_heap w b arr _ t (0,0) q1,?_,by omega,cs.take o ++ ys ++ cs.drop (o + ys.length),?_,?_⟩
 ·simp;simp at harr;omega
 ·rw [hx];exact (q4.splice hr o).mono hle
 ·intro j v hj
  rw [splice_get _ _ _ _ (by omega)] at hj
  rw [List.getElem?_toArray,splice_get _ _ _ _ harr]
  split at hj
  ·rw [if_pos (by assumption)];simpa using q5 j v hj
  ·rw [if_neg (by assumption)]
   split at hj
   ·rw [if_pos (by assumption)];exact hj
   ·rw [if_neg (by assumption)];simpa using q5 j v hj
def isSeq:TypeDesc→Bool | .slice _=>true | .string=>true | _=>false
def elemIs (P:Program) (e:TypeId) (es by_:Nat):Bool :=
 decide (0 < es) && decide (0 < by_) && (match P.info? e with
  |some i=>match i.zero with
   |some z=>i.size == es && i.bytes == by_ && z.cells.size == es
   |none=>false
  |none=>false)
def okEff (P:Program) (op:Op):O→Bool
 |.ap es by_ x y=>match op with
  |.call ⟨.builtin .append,args,ts⟩=>okXs args.toList [x,y] && (match ts.toList with
    |[t,t2]=>isDesc P t (fun d=>elemOk P d fun e=>elemIs P e es by_) && isDesc P t2 isSeq
    |_=>false)
  |_=>false
 |.st sz x v=>match op with
  |.store t x' v'=>okX x' x && okX v' v && sizeIs P t sz
  |_=>false
 |_=>false
theorem e_st (hI:Inv B w0 g h w) (hm:RT g w m a) {sz:Nat} {x y:X} (hok:okEff P op (.st sz x y)=true) (hh:storev h sz (ev m y) (ev m x)=some h') :
  Does P B w0 g h w a ⟨dst,op,ty,pos,aft,gd⟩ .undef h' (fun _=>False):=by
 cases op<;>simp only [okEff,Bool.false_eq_true] at hok
 rename_i t x' y'
 simp only [Bool.and_eq_true] at hok
 obtain ⟨⟨h1,h2⟩,h3⟩:=hok
 have rx:=R_okX hm h1
 have ry:=R_okX hm h2
 unfold storev at hh
 split at hh
 ·rename_i id stamp i off hx
  rw [hx] at rx
  generalize hv:a.eval x'=q at rx
  cases rx with | ptr _ _ _ _ l ad hk hs hp =>
  split at hh
  ·rename_i es xs hg
   obtain ⟨⟨k1,k2,k3⟩,k4⟩:=chk_some hh
   obtain ⟨e,k5,k6⟩:=bnd_some k4
   obtain ⟨k7,k8⟩:=chk_some k6
   simp only [Option.some.injEq] at k8;subst k8
   obtain ⟨l',hk',hrow⟩:=hI.obj' hk hg
   rw [hk] at hk';cases hk'
   have hrow:RowOk g w l es xs:=hrow
   obtain ⟨b,hb,rfl⟩:=hp (by rw [hrow.hsize];exact k1.symm)
   have hi:i < xs.length:=(List.getElem?_eq_some_iff.1 k5).1
   have hem:e ∈ xs:=List.mem_of_getElem? k5
   have hel:=hrow.elems e hem
   have hsl:(splice e.cells off (ev m y).cells).length=e.cells.length:=by unfold splice;rw [splice_length _ _ _ (by omega)]
   have hsp:=reshape_spec hsl (splice_one (o:=off) (ok_cells hel.2) (ok_cells k2))
   have hcells:=ry.cells k2
   have hfl:(xs.flatMap FV.cells).length=xs.length * es:=flat_length fun x hx=>(hrow.elems x hx).1
   have hie:i * es + es ≤ xs.length * es:=by
    have:(i + 1) * es ≤ xs.length * es:=Nat.mul_le_mul_right _ hi
    rw [Nat.add_mul] at this;omega
   obtain ⟨w',r1,r2,r3,r4⟩:=write_row (P:=P) (xs':=xs.set i (reshape e (splice e.cells off (ev m y).cells))) hI hg hk hb (o:=i * es + off) hcells (ok_cells k2) (by omega) (by
    rw [← flat_set (fun x hx=>(hrow.elems x hx).1) hi (by rw [hsp.1,hsl];exact hel.1),hsp.1]
    have:=splice_splice (xs.flatMap FV.cells) (ev m y).cells (i * es) es off (by omega) (by omega)
    rw [flat_cut (fun x hx=>(hrow.elems x hx).1) k5] at this
    exact this) (by
    intro z hz
    rcases List.mem_or_eq_of_mem_set hz with hz | rfl
    ·exact hrow.elems z hz
    ·exact ⟨by rw [hsp.1,hsl];exact hel.1,hsp.2⟩) (by simp)
   refine ⟨g,w',.skip,undef,?_,.inr ⟨rfl,rfl⟩,.undef _,r2,r3,fun b hb=>.inl hb,by omega,fun i _ h=>⟨h,by rw [hget_hset hg,if_neg (fun e=>by subst e;rw [hk] at h;cases h)]⟩⟩
   have hstore:(Instr.storeAt t (a.eval x') (a.eval y')).run P w=.ok () w':=by
    rw [hv]
    simp only [Instr.storeAt,Instr.sureAddr,Sem.run_bind,Sem.run_pure,Result.andThen_ok,storeVar,run_sizeOf w h3]
    rw [if_neg (by have:=hcells.length;simp at this;omega)]
    rw [hrow.hes]
    exact r1
   show ((do Instr.storeAt t (a.eval x') (a.eval y');pure .skip:Sem Next)).run P w=_
   simp only [Sem.run_bind,hstore,Result.andThen_ok,Sem.run_pure]
  ·simp at hh
 ·simp at hh
theorem cell_heap {W w:World} (hW:W.heap=w.heap) (ad:Addr):W.cell? ad=w.cell? ad:=by simp only [World.cell?,hW]
theorem elems_sound (hI:Inv B w0 g h w) {y:FV} {vy:Value} (hy:R g w y vy) {ys:List FV} (he:elems h y=some ys) {es:Nat} (hp:0 < es) (hys:∀ z ∈ ys,z.cells.length=es) :
  ∃ news:Array Value,RL g w (ys.flatMap FV.cells) news.toList∧(∀ W:World,W.heap=w.heap→(Builtin.lenOf vy).run P W=.ok ys.length W)∧(∀ W:World,W.heap=w.heap→(Builtin.firstCells es ys.length vy).run P W=.ok news W):=by
 unfold elems at he
 split at he
 ·rename_i e xs
  simp only [Option.some.injEq] at he;subst he
  cases hy with
  |lst0 _ aa cap hh =>
   refine ⟨#[],.nil,fun W _=>rfl,fun W _=>?_⟩
   cases aa with
   |none=>rfl
   |some ad =>
    show (loadCells ad (0 * es)).run P W=_
    rw [Nat.zero_mul];rfl
  |lst _ _ b o es' cap cs hne hh hle hZ hes hx hr hc =>
   have ees:es'=es:=by
    cases xs with
    |nil=>simp at hne
    |cons z zs=>have:=(hx z (by simp)).1;have:=hys z (by simp);omega
   subst ees
   refine ⟨cs.toArray,by simpa using hr,fun W _=>rfl,fun W hW=>?_⟩
   have hl:cs.length=xs.length * es':=by rw [← hr.length,flat_length hys]
   show (loadCells ⟨b,o,none⟩ (xs.length * es')).run P W=_
   rw [← hl]
   exact run_loadCells_list (P:=P) (w:=W) _ cs fun j v hj=>by rw [add_addr,cell_heap hW];exact hc j v hj
 ·rename_i s
  simp only [Option.some.injEq] at he;subst he
  obtain ⟨bs,rfl,rfl⟩:=R_str hy
  have hl:bs.data.toList.length=bs.size:=rfl
  refine ⟨bs.data.map fun b=>.int .u8 b.toNat,?_,fun W _=>by simp [Builtin.lenOf,hl],fun W _=>?_⟩
  ·have:∀ l:List UInt8,RL g w ((l.map fun b=>FV.int .u8 b.toNat).flatMap FV.cells) (l.map fun b=>Value.int .u8 b.toNat):=by
    intro l
    induction l with
    |nil=>exact .nil
    |cons b l ih=>exact .cons _ _ _ _ (.int _ _) ih
   simpa using this bs.data.toList
  ·have e1:bs.extract 0 bs.size=bs:=by simp
   simp [Builtin.firstCells]
 ·rename_i es' id stamp off len
  split at he
  iterate 2
   ·rename_i es2 xs hg
    obtain ⟨⟨k1,k2⟩,k3⟩:=chk_some he
    simp only [Option.some.injEq] at k3;subst k3
    cases hy with | sref _ _ _ _ _ l aa cap hk hee hs hle ha hh =>
    obtain ⟨l',hk',hrow⟩:=hI.obj' hk hg
    rw [hk] at hk';cases hk'
    have hrow:RowOk g w l es2 xs:=by first | exact hrow | exact hrow.1
    obtain ⟨q1,q2,q3⟩:=hh (by rw [hrow.hsize];exact k1.symm)
    have hcl:(cut xs off (off + len)).length=len:=by rw [cut_length _ _ _ (by omega)];omega
    rw [hcl]
    by_cases hz:len=0
    ·subst hz
     have e0:cut xs off (off + 0)=[]:=by simp [cut]
     refine ⟨#[],by rw [e0];exact .nil,fun W _=>rfl,fun W _=>?_⟩
     cases aa with
     |none=>rfl
     |some ad=>show (loadCells ad (0 * es)).run P W=_;rw [Nat.zero_mul];rfl
    ·obtain ⟨b,hb,rfl⟩:=q3 (by omega)
     obtain ⟨arr,t,r1,r2,r3,cs,r4,r5⟩:=hrow.hsome b hb
     have ees:es2=es:=by
      have h1:off < xs.length:=by omega
      have h2:xs[off] ∈ cut xs off (off + len):=by
       unfold cut
       rw [List.mem_take_iff_getElem]
       exact ⟨0,by simp;omega,by simp⟩
      have:=hys _ h2
      have:=(hrow.elems xs[off] (List.getElem_mem h1)).1
      omega
     subst ees
     have hflat:(cut xs off (off + len)).flatMap FV.cells=cut (xs.flatMap FV.cells) (off * es2) ((off + len) * es2):=by
      have hx'':∀ x ∈ xs.drop off,x.cells.length=es2:=fun x hx=>(hrow.elems x (List.mem_of_mem_drop hx)).1
      unfold cut
      rw [flat_drop (fun x hx=>(hrow.elems x hx).1),← Nat.mul_sub_right_distrib,flat_take hx'']
     have hcsl:cs.length=xs.length * es2:=by rw [← r4.length,flat_length (fun x hx=>(hrow.elems x hx).1)]
     have hle2:(off + len) * es2 ≤ cs.length:=by rw [hcsl];exact Nat.mul_le_mul_right _ (by omega)
     refine ⟨(cut cs (off * es2) ((off + len) * es2)).toArray,by rw [hflat];simpa using r4.cut _ _,fun W _=>rfl,fun W hW=>?_⟩
     have hl:(cut cs (off * es2) ((off + len) * es2)).length=len * es2:=by
      rw [cut_length _ _ _ hle2,Nat.add_mul];omega
     show (loadCells ⟨b,off * l.es,none⟩ (len * es2)).run P W=_
     rw [← hl]
     exact run_loadCells_list (P:=P) (w:=W) _ _ fun j v hj=>by
      rw [add_addr,cell_heap hW,hrow.hes]
      have:=r5 _ _ (cut_get _ _ _ _ _ hj)
      simp [World.cell?,r1,this]
  ·simp at he
 ·simp at he
theorem ap_grow {t t2 e:TypeId} {i:TypeInfo} {z:Value} (ht:P.underlying t=some (.slice e)) (h2:isDesc P t2 isSeq=true) (hi:P.info? e=some i) (hz:i.zero=some z) (hb:0 < i.bytes)
  (base:Option Addr) (sLen sCap n:Nat) (x:Value) (olds news:Array Value) (hlen:(Builtin.lenOf x).run P w=.ok n w) (hnews:(Builtin.firstCells i.size n x).run P w.drew=.ok news w.drew)
  (holds:(Builtin.firstCells i.size sLen (.slice base sLen sCap)).run P w.drew=.ok olds w.drew) (hg:sCap < sLen + n) (hfit:(sLen + n) * i.bytes ≤ most) :
  (Builtin.append_ #[t,t2] ty #[.slice base sLen sCap,x]).run P w =
   .ok (.slice (some ⟨w.heap.size,0,none⟩) (sLen + n) (grownCap w (sLen + n) sCap e)) (w.drew.alloc (.cells (olds ++ news ++ Builtin.zeroCells z.cells (grownCap w (sLen + n) sCap e - (sLen + n))) e)):=by
 obtain ⟨d2,hd2,hp2⟩:=desc_of h2
 have hn:¬ (sLen + n ≤ sCap):=by omega
 unfold most at hfit
 have hle:sLen + n ≤ (sLen + n) * i.bytes:=Nat.le_mul_of_pos_right _ hb
 have h63':¬ (9223372036854775807 < ((sLen:Int) + (n:Int))):=by omega
 have h48:=growslice_fits (bytes:=i.bytes) hg (by omega)
 have h48':¬ (281474976710656 < Builtin.nextslicecap (sLen + n) sCap * i.bytes):=by omega
 have hb0:i.bytes ≠ 0:=by omega
 cases d2<;>simp [isSeq] at hp2 <;>
  simp [Builtin.append_,run_underlying ht,run_underlying hd2,sizeOf,typeInfo,zeroValue,hi,hz,hlen,hn,h63',h48',hb0,Question.forced,hnews,holds,newRow,grownCap]
theorem ap_room {t t2 e:TypeId} {i:TypeInfo} (ht:P.underlying t=some (.slice e)) (h2:isDesc P t2 isSeq=true) (hi:P.info? e=some i)
  (b o sLen sCap n:Nat) (x:Value) (news:Array Value) (hlen:(Builtin.lenOf x).run P w=.ok n w) (hnews:(Builtin.firstCells i.size n x).run P w=.ok news w) {w2:World}
  (hst:(storeCells ⟨b,o + sLen * i.size,none⟩ news.toList).run P w=.ok () w2) (hroom:sLen + n ≤ sCap) :
  (Builtin.append_ #[t,t2] ty #[.slice (some ⟨b,o,none⟩) sLen sCap,x]).run P w=.ok (.slice (some ⟨b,o,none⟩) (sLen + n) sCap) w2:=by
 obtain ⟨d2,hd2,hp2⟩:=desc_of h2
 cases d2<;>simp [isSeq] at hp2 <;>
  simp [Builtin.append_,run_underlying ht,run_underlying hd2,sizeOf,typeInfo,hi,hlen,hroom,hnews,add_addr,hst]
end
end Go.FI
namespace Go.FI
open Go.RowKit
variable [Sys]
section
variable {g g':Gh} {w w':World} {P:Program} {B:Nat} {w0:World} {h h':Heap} {a:Act} {m:Tm} {dst:Option Tmp} {op:Op} {ty:TypeId} {pos:String} {aft:Array Edge} {gd:Option (Nat × Bool)} {v:FV}
theorem GLe.of_heap (hw:w'.heap=w.heap):GLe g g w w':=⟨fun _ h=>h,fun b _=>by rw [hw],KLe.refl _⟩
theorem GLe.drew (g:Gh) (w:World):GLe g g w w.drew:=⟨fun _ h=>h,fun _ _=>rfl,KLe.refl _⟩
theorem Inv.of_heap (hI:Inv B w0 g h w) (hw:w'.heap=w.heap) (h1:w'.os=w.os) (h2:w'.tape=w.tape) (h3:w'.output=w.output):Inv B w0 g h w' :=
 ⟨hI.dom,fun id o l ho hl=>(hI.obj id o l ho hl).mono (GLe.of_heap hw) fun b _=>by rw [hw],hI.inj,fun i l b hl hb=>by rw [hw];exact hI.own i l b hl hb,fun b hb=>by rw [hw];exact hI.zlt b hb,
  hI.below.trans ⟨h1,h2,h3,by rw [hw];exact Nat.le_refl _,fun k _=>by rw [hw]⟩,by rw [hw];exact hI.size⟩
theorem Inv.drew (hI:Inv B w0 g h w):Inv B w0 g h w.drew:=hI.of_heap rfl rfl rfl rfl
theorem Put.move (_hI:Inv B w0 g h w) {id:Nat} {l:Loc} (hk:g.κ id=some l) (hm:l.mp=false) (o:Go.Obj) (l':Loc) (hb:l'.blk=some w.heap.size) (hs:l.size < l'.size) (he:l'.es=l.es):Put g ⟨upd g.κ id l',g.Z⟩ w (w.alloc o) id l' where
 k:=fun _=>rfl
 z:=rfl
 old:=fun l2 hl=>by rw [hk] at hl;cases hl;exact ⟨by omega,he,fun e=>by rcases e with e | e;omega;rw [hm] at e;cases e⟩
 blk:=fun b e=>by rw [hb] at e;cases e;exact .inr (Nat.le_refl _)
 heap:=fun b hlt _=>Below.heap_alloc w o b hlt
 sz:=by simp
 lt:=fun b e=>by rw [hb] at e;cases e;simp
 os:=rfl
 tape:=rfl
 output:=rfl
theorem elemIs_of {e:TypeId} {es by_:Nat} (hh:elemIs P e es by_=true):0 < es∧0 < by_∧∃ i z,P.info? e=some i∧i.zero=some z∧i.size=es∧i.bytes=by_∧z.cells.size=es:=by
 unfold elemIs at hh
 simp only [Bool.and_eq_true,decide_eq_true_eq] at hh
 obtain ⟨⟨h1,h2⟩,h3⟩:=hh
 refine ⟨h1,h2,?_⟩
 split at h3
 ·split at h3
  ·simp only [Bool.and_eq_true,beq_iff_eq] at h3
   exact ⟨_,_,by assumption,by assumption,h3.1.1,h3.1.2,h3.2⟩
  ·simp at h3
 ·simp at h3
theorem all_len {ys:List FV} {es:Nat} (hh:(ys.all fun v=>v.cells.length == es)=true):∀ z ∈ ys,z.cells.length=es:=by
 simpa using hh
theorem zeroCells_size (z:Array Value) (n:Nat):(Builtin.zeroCells z n).size=n * z.size:=by simp [Builtin.zeroCells]
theorem ok_flat {ys:List FV} (hh:ys.all FV.ok=true):∀ c ∈ ys.flatMap FV.cells,c.one=true:=by
 intro c hc
 obtain ⟨y,hy,hcy⟩:=List.mem_flatMap.1 hc
 rw [List.all_eq_true] at hh
 exact ok_cells (hh y hy) c hcy
theorem flat_splice {xs ys:List FV} {es:Nat} (hx:∀ x ∈ xs,x.cells.length=es) (hy:∀ x ∈ ys,x.cells.length=es) (k:Nat):(xs.take k ++ ys ++ xs.drop (k + ys.length)).flatMap FV.cells=splice (xs.flatMap FV.cells) (k * es) (ys.flatMap FV.cells):=by
 unfold splice
 rw [flat_length hy,flat_take hx,← Nat.add_mul,flat_drop hx]
 simp
theorem append_sound (hI:Inv B w0 g h w) {id es by_:Nat} {x y:FV} {vx vy:Value} (hx:R g w x vx) (hy:R g w y vy) (hn:hget h id=none) {t t2 e:TypeId} (ht:P.underlying t=some (.slice e)) (h2:isDesc P t2 isSeq=true) (he:elemIs P e es by_=true)
  (hh:append h id es by_ x y=some (v,h')) :
  ∃ g' w' z,(Builtin.append_ #[t,t2] ty #[vx,vy]).run P w=.ok z w'∧R g' w' v z∧Inv B w0 g' h' w'∧GLe g g' w w'∧(∀ b,g'.Z b→g.Z b ∨ w.heap.size ≤ b)∧w.heap.size ≤ w'.heap.size∧∀ i,¬ i=id→g.κ i=none→g'.κ i=none∧hget h' i=hget h i:=by
 obtain ⟨hp,hb,i,z,hi,hz,hsz,hby,hzl⟩:=elemIs_of he
 unfold append at hh
 obtain ⟨ys,hys,hh1⟩:=bnd_some hh
 clear hh
 obtain ⟨⟨hok,hlen⟩,hh⟩:=chk_some hh1
 clear hh1
 have hle:=all_len hlen
 have hoke:∀ z ∈ ys,z.cells.length=es∧z.ok=true:=fun z hz=>⟨hle z hz,by rw [List.all_eq_true] at hok;exact hok z hz⟩
 obtain ⟨news,n1,n2,n3⟩:=elems_sound (P:=P) hI hy hys hp hle
 have n2w:=n2 w rfl
 have n3w:=n3 w rfl
 have n3d:=n3 w.drew rfl
 rw [← hsz] at n3w n3d
 have hnl:news.size=ys.length * es:=by have:=n1.length;rw [flat_length hle] at this;simpa using this.symm
 split at hh
 ·-- an exact slice: always a new block
  rename_i xs
  obtain ⟨⟨k1,k2,k3⟩,k4⟩:=chk_some hh
  clear hh
  simp only [Option.some.injEq,Prod.mk.injEq] at k4
  obtain ⟨rfl,rfl⟩:=k4
  have hxl:=all_len k3
  obtain ⟨olds,o1,o2,o3⟩:=elems_sound (P:=P) hI hx (rfl:elems h (.lst true xs)=some xs) hp hxl
  have hol:olds.size=xs.length * es:=by have:=o1.length;rw [flat_length hxl] at this;simpa using this.symm
  have hxok:∀ z ∈ xs ++ ys,z.cells.length=es∧z.ok=true:=by
   intro z hz
   rcases List.mem_append.1 hz with hz | hz
   ·refine ⟨hxl z hz,?_⟩
    cases hx with
    |lst0=>simp at hz
    |lst _ _ _ _ _ _ _ _ _ _ _ _ hx' _ _=>exact (hx' z hz).2
   ·exact hoke z hz
  have:∃ aa,vx=.slice aa xs.length xs.length:=by
   cases hx with
   |lst0 _ aa cap he=>have:=he rfl;subst this;exact ⟨_,rfl⟩
   |lst _ _ b o _ cap _ _ he=>have:=he rfl;subst this;exact ⟨_,rfl⟩
  obtain ⟨aa,rfl⟩:=this
  have o3d:=o3 w.drew rfl
  rw [← hsz] at o3d
  have hrun:=ap_grow (ty:=ty) ht h2 hi hz (by omega) aa xs.length xs.length ys.length vy olds news n2w n3d o3d (by omega) (by rw [hby];exact k1)
  have hge:=grownCap_ge w (xs.length + ys.length) xs.length e
  obtain ⟨g',q1,q2,q3,q4,kk⟩:=new_row (t:=e) (es:=es) (xs:=xs ++ ys) (cells:=olds ++ news ++ Builtin.zeroCells z.cells (grownCap w (xs.length + ys.length) xs.length e - (xs.length + ys.length))) (cs:=olds.toList ++ news.toList) (hI.drew) (kNone hI hn) (hget_cons h id _) (grownCap w (xs.length + ys.length) xs.length e) (by simp;omega)
   (by simp [zeroCells_size,hol,hnl,hzl];rw [← Nat.add_mul,← Nat.add_mul];congr 1;omega)
   (by simpa using (o1.append n1).mono (GLe.drew g w)) (fun j v hj=>by
    have hj':(olds ++ news).toList[j]? = some v:=by simpa using hj
    rw [← Array.getElem?_toList,Array.toList_append,List.getElem?_append_left (List.getElem?_eq_some_iff.1 hj').1]
    exact hj') hxok hp
  refine ⟨g',_,_,hrun,?_,q1,(GLe.drew g w).trans q2,fun b hb=>.inl (by rw [← q3];exact hb),by simp,kk⟩
  simpa using q4
 ·rename_i es' id2 stamp off len
  split at hh
  ·rename_i es2 xs hg
   obtain ⟨⟨k1,k2,k3,k4⟩,hh1⟩:=chk_some hh
   clear hh
   subst k1
   cases hx with | sref _ _ _ _ _ l aa cap hk hes hs hlc ha hpl =>
   obtain ⟨l',hk',hrow⟩:=hI.obj' hk hg
   rw [hk] at hk';cases hk'
   have hrow:RowOk g w l es2 xs:=hrow
   have e2:es2=es':=by rw [← hrow.hes,hes]
   subst e2
   have hst:stamp=l.size:=by rw [hrow.hsize];exact k2.symm
   obtain ⟨q1,q2,q3⟩:=hpl hst
   have hxl:∀ x ∈ xs,x.cells.length=es2:=fun x hx=>(hrow.elems x hx).1
   split at hh1
   ·-- nothing is appended
    rename_i hy0
    simp only [Option.some.injEq,Prod.mk.injEq] at hh1
    obtain ⟨rfl,rfl⟩:=hh1
    refine ⟨g,w,.slice aa len cap,?_,.sref _ _ _ _ _ l aa cap hk hes hs hlc ha hpl,hI,GLe.refl _ _,fun b hb=>.inl hb,Nat.le_refl _,fun _ _ h=>⟨h,rfl⟩⟩
    have hne:news=#[]:=by
     rw [hy0,Nat.zero_mul] at hnl
     exact Array.size_eq_zero_iff.1 hnl
    rw [hy0] at n2w n3w
    subst hne
    obtain ⟨d2,hd2,hp2⟩:=desc_of h2
    cases aa<;>cases d2<;>simp [isSeq] at hp2 <;>
     simp [Builtin.append_,run_underlying ht,run_underlying hd2,sizeOf,typeInfo,hi,n2w,hlc,n3w,storeCells]
   ·rename_i hy0
    split at hh1
    ·-- inside the row
     rename_i hin
     simp only [Option.some.injEq,Prod.mk.injEq] at hh1
     obtain ⟨rfl,rfl⟩:=hh1
     obtain ⟨b,hbk,rfl⟩:=q3 (by omega)
     have hfit:(off + len) * es2 + (ys.flatMap FV.cells).length ≤ xs.length * es2:=by
      rw [flat_length hle,← Nat.add_mul];exact Nat.mul_le_mul_right _ (by omega)
     obtain ⟨w',r1,r2,r3,r4⟩:=write_row (P:=P) (xs':=xs.take (off + len) ++ ys ++ xs.drop (off + len + ys.length)) hI hg hk hbk (o:=(off + len) * es2) n1 (ok_flat hok) hfit (flat_splice hxl hle _) (by
      intro z hz
      simp only [List.mem_append] at hz
      rcases hz with (hz | hz) | hz
      ·exact hrow.elems z (List.mem_of_mem_take hz)
      ·exact hoke z hz
      ·exact hrow.elems z (List.mem_of_mem_drop hz)) (by simp;omega)
     have hrun:=ap_room (ty:=ty) ht h2 hi b (off * l.es) len cap ys.length vy news n2w n3w (w2:=w') (by
      rw [hrow.hes,hsz,← Nat.add_mul];exact r1) (by omega)
     exact ⟨g,w',_,hrun,.sref _ _ _ _ _ l _ cap hk hes hs (by omega) ha fun _=>⟨q1,q2,fun _=>⟨b,hbk,rfl⟩⟩,r2,r3,fun b hb=>.inl hb,by omega,fun i _ h=>⟨h,by rw [hget_hset hg,if_neg (fun e=>by subst e;rw [hk] at h;cases h)]⟩⟩
    ·rename_i hout
     obtain ⟨k5,hh2⟩:=chk_some hh1
     clear hh1
     subst k5
     simp only [Option.some.injEq,Prod.mk.injEq] at hh2
     obtain ⟨rfl,rfl⟩:=hh2
     have hoke2:∀ z ∈ xs.take len ++ ys,z.cells.length=es2∧z.ok=true:=by
      intro z hz
      rcases List.mem_append.1 hz with hz | hz
      ·exact hrow.elems z (List.mem_of_mem_take hz)
      ·exact hoke z hz
     have hnew:(xs.take len ++ ys).length=len + ys.length:=by simp;omega
     by_cases hroom:len + ys.length ≤ cap
     ·-- in place
      obtain ⟨b,hbk,rfl⟩:=q3 (by omega)
      obtain ⟨arr,tt,r1,r2,r3,cs,r4,r5⟩:=hrow.hsome b hbk
      have hblt:b < w.heap.size:=(hI.own id2 l b hk hbk).2.2
      have hcapl:len + ys.length ≤ l.cap:=by omega
      have hfit:len * es2 + news.toList.length ≤ arr.size:=by
       rw [r2];simp [hnl];rw [← Nat.add_mul];exact Nat.mul_le_mul_right _ hcapl
      have hst2:=run_storeCells_at (P:=P) b (len * es2) tt news.toList 0 arr w r1 (by simpa using hfit) (RL_one n1 (ok_flat hok))
      simp only [Nat.add_zero] at hst2
      have hrun:=ap_room (ty:=ty) ht h2 hi b (0 * l.es) len cap ys.length vy news n2w n3w (w2:=_) (by
       rw [hsz,Nat.zero_mul,Nat.zero_add];exact hst2) hroom
      have p:=Put.row (w:=w) hk hbk hblt (arr.toList.take (len * es2) ++ news.toList ++ arr.toList.drop (len * es2 + news.toList.length)).toArray ⟨some b,len + ys.length,l.es,l.cap,false,none⟩ rfl (by simp;omega) rfl hrow.hmp (fun e=>by simp at e;omega)
      have hle2:=p.gle hI (fun _ _=>by rw [hg];rfl)
      have hcsl:cs.length=xs.length * es2:=by rw [← r4.length,flat_length hxl]
      refine ⟨_,_,_,hrun,?_,hI.put p (hget_hset hg) ?_ (fun _ _=>by rw [hg];rfl),hle2,fun b hb=>.inl hb,by simp,fun i hi h=>by
       have hne:¬ i=id2:=fun e=>by subst e;rw [hk] at h;cases h
       exact ⟨by simp [upd,hne,h],by rw [hget_hset hg,if_neg hne]⟩⟩
      ·refine .sref _ _ _ _ _ ⟨some b,len + ys.length,l.es,l.cap,false,none⟩ _ cap (by simp [upd]) hes (Nat.le_refl _) hroom (fun _=>rfl) fun _=>⟨by omega,by omega,fun _=>⟨b,rfl,by simp⟩⟩
      ·refine ⟨rfl,by simp;omega,hrow.hes,trivial,hoke2,fun e=>by simp at e,fun b2 hb2=>?_⟩
       simp at hb2;subst hb2
       refine ⟨_,tt,setRow_heap w b arr _ tt (0,0) r1,?_,by rw [hnew];exact hcapl,cs.take (len * es2) ++ news.toList,?_,?_⟩
       ·simp at hfit ⊢; rw [← r2];omega
       ·rw [List.flatMap_append,← flat_take hxl]
        exact ((r4.take _).append n1).mono hle2
       ·intro j v hj
        have hlt:j < (cs.take (len * es2) ++ news.toList).length:=(List.getElem?_eq_some_iff.1 hj).1
        have hmul:len * es2 ≤ cs.length:=by rw [hcsl];exact Nat.mul_le_mul_right _ (by omega)
        simp only [List.length_append,List.length_take] at hlt
        rw [List.getElem?_toArray,splice_get _ _ _ _ (by simpa using hfit)]
        rw [List.getElem?_append] at hj
        simp only [List.length_take] at hj
        have hmin:min (len * es2) cs.length=len * es2:=by omega
        rw [hmin] at hj hlt
        split at hj
        ·rename_i hj1
         rw [if_pos hj1]
         rw [List.getElem?_take,if_pos hj1] at hj
         simpa using r5 j v hj
        ·rename_i hj1
         rw [if_neg hj1,if_pos (by omega)];exact hj
     ·-- a new block
      have hxs':elems h (.sref es2 id2 stamp 0 len)=some (cut xs 0 (0 + len)):=by
       simp only [elems,hg,chk]
       rw [if_pos ⟨k2,k3⟩]
      have hcl:(cut xs 0 (0 + len)).length=len:=by rw [cut_length _ _ _ (by omega)];omega
      have hcutx:cut xs 0 (0 + len)=xs.take len:=by simp [cut]
      obtain ⟨olds,o1,o2,o3⟩:=elems_sound (P:=P) hI (.sref _ _ _ _ _ l aa cap hk hes hs hlc ha hpl) hxs' hp (fun z hz=>hxl z (by rw [hcutx] at hz;exact List.mem_of_mem_take hz))
      rw [hcutx] at o1 o2 o3
      have htl:(xs.take len).length=len:=by rw [← hcutx];exact hcl
      have hol:olds.size=len * es2:=by
       have:=o1.length
       rw [flat_length (fun z hz=>hxl z (List.mem_of_mem_take hz)),htl] at this
       simpa using this.symm
      have o3d:=o3 w.drew rfl
      rw [htl,← hsz] at o3d
      have hrun:=ap_grow (ty:=ty) ht h2 hi hz (by omega) aa len cap ys.length vy olds news n2w n3d o3d (by omega) (by rw [hby];simpa using k4)
      have hge:=grownCap_ge w (len + ys.length) cap e
      have p:=Put.move hI.drew hk hrow.hmp (.cells (olds ++ news ++ Builtin.zeroCells z.cells (grownCap w (len + ys.length) cap e - (len + ys.length))) e) ⟨some w.heap.size,len + ys.length,l.es,grownCap w (len + ys.length) cap e,false,none⟩ rfl (by simp;omega) rfl
      have hle2:=p.gle hI.drew (fun _ _=>by rw [hg];rfl)
      refine ⟨_,_,_,hrun,?_,hI.drew.put p (hget_hset hg) ?_ (fun _ _=>by rw [hg];rfl),(GLe.drew g w).trans hle2,fun b hb=>.inl hb,by simp,fun i hi h=>by
       have hne:¬ i=id2:=fun e=>by subst e;rw [hk] at h;cases h
       exact ⟨by simp [upd,hne,h],by rw [hget_hset hg,if_neg hne]⟩⟩
      ·exact .sref _ _ _ _ _ ⟨some w.heap.size,len + ys.length,l.es,grownCap w (len + ys.length) cap e,false,none⟩ _ _ (by simp [upd]) hes (Nat.le_refl _) hge (fun _=>rfl) fun _=>⟨by simpa using hge,by simp,fun _=>⟨_,rfl,by simp⟩⟩
      ·refine ⟨rfl,by simp;omega,hrow.hes,trivial,hoke2,fun e=>by simp at e,fun b2 hb2=>?_⟩
       simp at hb2;subst hb2
       refine ⟨_,e,alloc_heap w.drew _,?_,by rw [hnew];exact hge,olds.toList ++ news.toList,?_,?_⟩
       ·simp [zeroCells_size,hol,hnl,hzl];rw [← Nat.add_mul,← Nat.add_mul];congr 1;omega
       ·rw [List.flatMap_append]
        exact (o1.append n1).mono ((GLe.drew g w).trans hle2)
       ·intro j v hj
        have hj':(olds ++ news).toList[j]? = some v:=by simpa using hj
        rw [← Array.getElem?_toList,Array.toList_append,List.getElem?_append_left (List.getElem?_eq_some_iff.1 hj').1]
        exact hj'
  ·simp at hh
 ·simp at hh
end
end Go.FI
namespace Go.FI
open Go.RowKit
variable [Sys]
section
variable {g g':Gh} {w w':World} {P:Program} {B:Nat} {w0:World} {h h':Heap} {a:Act} {m:Tm} {dst:Option Tmp} {op:Op} {ty:TypeId} {pos:String} {aft:Array Edge} {gd:Option (Nat × Bool)} {v:FV}
def keyD:Nat→TypeDesc→Bool
 |0,.int _=>true
 |1,.string=>true
 |_,_=>false
theorem bytes_beq (a b:ByteArray):(a == b)=(a.data.toList == b.data.toList):=by
 show (a.data == b.data)=_
 rw [Bool.eq_iff_iff];simp
theorem sameNow_sound {kt:Nat} {d:TypeDesc} (hd:keyD kt d=true) {k j:FV} {vk vj:Value} (hk:R g w k vk) (hj:R g w j vj) {e:Bool} (he:keyEq kt k j=some e):Instr.sameNow d vk vj=some e:=by
 unfold keyEq at he
 split at he
 ·obtain ⟨rfl,h1⟩:=chk_some he
  rw [R_int hk,R_int hj] at *
  cases d<;>simp [keyD] at hd
  simp [Instr.sameNow];simpa using h1
 ·obtain ⟨s,rfl,rfl⟩:=R_str hk
  obtain ⟨s',rfl,rfl⟩:=R_str hj
  cases d<;>simp [keyD] at hd
  simp only [Option.some.injEq] at he;subst he
  simp only [Instr.sameNow,bytes_beq]
 ·simp [keyD] at hd
 ·simp at he
def FK (P:Program) (w:World) (kt:Nat) (t:TypeId) (d:TypeDesc) (vk:Value) (es:List MapEntry) (i:Nat) (r:Option (Nat × Value)):Prop :=
 if kt < 2 then Instr.findNow d vk es i=some r else (Instr.findAsking t vk es i).run P w=.ok r w
def keyT (P:Program) (kt:Nat) (t:TypeId) (d:TypeDesc):Bool :=
 if kt < 2 then keyD kt d else match d with
  |.struct fs=>okEqF P 0 fs.toList (keyCells (kt - 2)) && !P.stoodInHeld t
  |_=>false
theorem equal_struct {kt:Nat} {t:TypeId} {d:TypeDesc} (hu:P.underlying t=some d) (hd:keyT P (kt + 2) t d=true) {a b:List FV} {vk vj:Value} (hk:R g w (.agg a) vk) (hj:R g w (.agg b) vj) {e:Bool} (he:eqCells (keyCells kt) a b=some e) :
  (Op.equal t vk vj).run P w=.ok e w:=by
 unfold keyT at hd
 rw [if_neg (by omega)] at hd
 split at hd
 ·rename_i fs
  simp only [Bool.and_eq_true,Bool.not_eq_true',Nat.add_sub_cancel] at hd
  obtain ⟨va,f1,f2⟩:=R_agg hk
  obtain ⟨vb,f3,f4⟩:=R_agg hj
  have hfs:P.fieldsOf t=fs:=by simp [Program.fieldsOf,hu]
  have hrun:=eqCells_sound (P:=P) 9998 va.toArray vb.toArray fs.toList _ 0 a b va vb e hd.1 (by simp) (by simp) f2 f4 he
  show (Op.equalIn 10000 t vk vj).run P w=_
  rw [f1,f3,show (10000:Nat)=9999 + 1 from rfl,run_equalIn_struct w 9999 t _ _ (by rw [hfs];exact hu) hd.2,hfs]
  exact hrun
 ·simp at hd
theorem FK_nil {kt:Nat} {t:TypeId} {d:TypeDesc} {vk:Value} {i:Nat}:FK P w kt t d vk [] i none:=by
 unfold FK;split
 ·rfl
 ·simp [Instr.findAsking]
theorem keyEq_step {kt:Nat} {t:TypeId} {d:TypeDesc} (hu:P.underlying t=some d) (hd:keyT P kt t d=true) {k j:FV} {vk:Value} {e:MapEntry} (hk:R g w k vk) (hj:R g w j e.key) {b:Bool} (he:keyEq kt k j=some b) {es:List MapEntry} {i:Nat} {r:Option (Nat × Value)}
  (hr:if b=true then r=some (i,e.val) else FK P w kt t d vk es (i + 1) r):FK P w kt t d vk (e::es) i r:=by
 unfold FK at hr ⊢
 by_cases hlt:kt < 2
 ·rw [if_pos hlt] at hr ⊢
  have hd':keyD kt d=true:=by unfold keyT at hd;rwa [if_pos hlt] at hd
  have hs:=sameNow_sound hd' hk hj he
  cases b
  ·simpa [Instr.findNow,hs] using hr
  ·simp only [if_true] at hr
   simp [Instr.findNow,hs,hr]
 ·rw [if_neg hlt] at hr ⊢
  obtain ⟨n,rfl⟩:∃ n,kt=n + 2:=⟨kt - 2,by omega⟩
  unfold keyEq at he
  split at he
  ·omega
  ·omega
  ·rename_i m a c hm
   obtain rfl:m=n:=by omega
   have hs:=equal_struct hu hd hk hj he
   cases b
   ·simpa [Instr.findAsking,hs] using hr
   ·simp only [if_true] at hr
    simp [Instr.findAsking,hs,hr]
  ·simp at he
theorem sameBits_cells:∀ (ks:List Nat) (a b:List FV) (va vb:List Value),RL g w a va→RL g w b vb→eqCells ks a b=some true→va.length=vb.length∧((vb.zip va).all fun (x,y)=>Instr.sameBits 9999 x y)=true
 |[],[],[],_,_,.nil,.nil,_=>by simp
 |k::ks,x::a,y::b,_,_,.cons _ vx _ va hx ra,.cons _ vy _ vb hy rb,h=>by
  simp only [eqCells] at h
  obtain ⟨e1,q1,h⟩:=bnd_some h
  obtain ⟨e2,q2,h⟩:=bnd_some h
  simp only [Option.some.injEq,Bool.and_eq_true] at h
  obtain ⟨rfl,rfl⟩:=h
  obtain ⟨i1,i2⟩:=sameBits_cells ks a b va vb ra rb q2
  refine ⟨by simp [i1],?_⟩
  simp only [List.zip_cons_cons,List.all_cons,i2,Bool.and_true]
  unfold eqCell at q1
  split at q1
  ·obtain ⟨rfl,h1⟩:=chk_some q1
   rw [R_int hx,R_int hy]
   simp at h1
   simp [Instr.sameBits,h1]
  ·obtain ⟨s,rfl,rfl⟩:=R_str hx
   obtain ⟨s',rfl,rfl⟩:=R_str hy
   simp only [Option.some.injEq] at q1
   simp only [Instr.sameBits,bytes_beq]
   rw [beq_iff_eq] at q1 ⊢
   exact q1.symm
  ·rw [R_bool hx,R_bool hy]
   simp at q1
   simp [Instr.sameBits,q1]
  ·simp at q1
 |[],[],_::_,_,_,_,_,h=>by simp [eqCells] at h
 |[],_::_,_,_,_,_,_,h=>by simp [eqCells] at h
 |_::_,[],_,_,_,_,_,h=>by simp [eqCells] at h
 |_::_,_::_,[],_,_,_,_,h=>by simp [eqCells] at h
theorem sameBits_of {kt:Nat} {k j:FV} {vk vj:Value} (hk:R g w k vk) (hj:R g w j vj) (he:keyEq kt k j=some true):Instr.sameBits 10000 vj vk=true:=by
 unfold keyEq at he
 split at he
 ·obtain ⟨rfl,h1⟩:=chk_some he
  rw [R_int hk,R_int hj] at *
  simp at h1
  simp [Instr.sameBits,h1]
 ·obtain ⟨s,rfl,rfl⟩:=R_str hk
  obtain ⟨s',rfl,rfl⟩:=R_str hj
  simp only [Option.some.injEq] at he
  simp only [Instr.sameBits,bytes_beq]
  rw [beq_iff_eq] at he ⊢
  exact he.symm
 ·rename_i a b
  obtain ⟨va,f1,f2⟩:=R_agg hk
  obtain ⟨vb,f3,f4⟩:=R_agg hj
  obtain ⟨i1,i2⟩:=sameBits_cells _ a b va vb f2 f4 he
  subst f1;subst f3
  show Instr.sameBits (9999 + 1) _ _=true
  rw [Instr.sameBits]
  simp only [List.size_toArray,i1,BEq.rfl,Bool.true_and]
  exact i2
 ·simp at he
theorem eqCells_self:∀ (ks:List Nat) (a b:List FV) (e:Bool),eqCells ks a b=some e→(eqCells ks a a).isSome=true
 |[],[],[],_,_=>rfl
 |k::ks,x::a,y::b,e,h=>by
  simp only [eqCells] at h
  obtain ⟨e1,q1,h⟩:=bnd_some h
  obtain ⟨e2,q2,h⟩:=bnd_some h
  have ih:=eqCells_self ks a b e2 q2
  obtain ⟨f,hf⟩:=Option.isSome_iff_exists.1 ih
  have:∃ e3,eqCell k x x=some e3:=by
   unfold eqCell at q1
   split at q1
   ·exact ⟨_,by simp [eqCell,chk];rfl⟩
   ·exact ⟨_,rfl⟩
   ·exact ⟨_,rfl⟩
   ·simp at q1
  obtain ⟨e3,h3⟩:=this
  simp [eqCells,h3,hf,bnd]
 |[],[],_::_,_,h=>by simp [eqCells] at h
 |[],_::_,_,_,h=>by simp [eqCells] at h
 |_::_,[],_,_,h=>by simp [eqCells] at h
 |_::_,_::_,[],_,h=>by simp [eqCells] at h
theorem keyEq_V {kt:Nat} {k j:FV} {e:Bool} (h:keyEq kt k j=some e):keyV kt k=true:=by
 unfold keyEq at h
 split at h
 ·rfl
 ·rfl
 ·exact eqCells_self _ _ _ _ h
 ·simp at h
theorem find_V {kt:Nat} {k:FV}:∀ {en:List (FV × FV)} {r:Option FV},find kt k en=some r→keyV kt k=true
 |[],_,h=>(chk_some h).1
 |(_,_)::_,_,h=>by
  simp only [find] at h
  obtain ⟨_,h1,_⟩:=bnd_some h
  exact keyEq_V h1
theorem update_V {kt:Nat} {k v:FV}:∀ {en en':List (FV × FV)},update kt k v en=some en'→keyV kt k=true
 |[],_,h=>(chk_some h).1
 |(_,_)::_,_,h=>by
  simp only [update] at h
  obtain ⟨_,h1,_⟩:=bnd_some h
  exact keyEq_V h1
theorem remove_V {kt:Nat} {k:FV}:∀ {en en':List (FV × FV)},remove kt k en=some en'→keyV kt k=true
 |[],_,h=>(chk_some h).1
 |(_,_)::_,_,h=>by
  simp only [remove] at h
  obtain ⟨_,h1,_⟩:=bnd_some h
  exact keyEq_V h1
theorem find_sound {kt:Nat} {t:TypeId} {d:TypeDesc} (hu:P.underlying t=some d) (hd:keyT P kt t d=true) {k:FV} {vk:Value} (hk:R g w k vk):∀ (en:List (FV × FV)) (es:List MapEntry) (i:Nat) (r:Option FV),EnOk g w en es→find kt k en=some r →
  ∃ r',FK P w kt t d vk es i r'∧(match r,r' with | none,none=>True | some v,some (_,x)=>R g w v x | _,_=>False)
 |[],[],i,r,_,hf=>by obtain ⟨_,hf⟩:=chk_some (show chk _ _=_ from hf);simp at hf;subst hf;exact ⟨none,FK_nil,trivial⟩
 |(j,v)::en,e::es,i,r,he,hf=>by
  cases he with
  |cons _ _ _ _ _ hj hv hs =>
  simp only [find] at hf
  obtain ⟨b,hb,hf⟩:=bnd_some hf
  cases b with
  |true =>
   simp at hf;subst hf
   exact ⟨some (i,e.val),keyEq_step hu hd hk hj hb (by simp),hv⟩
  |false =>
   simp at hf
   obtain ⟨r',h1,h2⟩:=find_sound hu hd hk en es (i + 1) r hs hf
   exact ⟨r',keyEq_step hu hd hk hj hb (by simpa using h1),h2⟩
theorem update_sound {kt:Nat} {t:TypeId} {d:TypeDesc} (hu:P.underlying t=some d) (hd:keyT P kt t d=true) {k v:FV} {vk vv:Value} (hk:R g w k vk) (hv:R g w v vv):∀ (en:List (FV × FV)) (es:List MapEntry) (i:Nat) (en':List (FV × FV)),EnOk g w en es→update kt k v en=some en' →
  (FK P w kt t d vk es i none∧∀ e:MapEntry,e.key=vk→e.val=vv→EnOk g w en' (es ++ [e])) ∨
  (∃ p x,FK P w kt t d vk es i (some (i + p,x))∧(∃ e,es[p]? = some e∧Instr.sameBits 10000 e.key vk=true)∧EnOk g w en' (es.modify p fun e=>{ e with key:=vk,val:=vv }))
 |[],[],i,en',_,hf=>by
  obtain ⟨_,hf⟩:=chk_some (show chk _ _=_ from hf);simp at hf;subst hf
  refine .inl ⟨FK_nil,fun e h1 h2=>?_⟩
  subst h1;subst h2
  exact .cons _ _ e [] [] hk hv .nil
 |(j,u)::en,e::es,i,en',he,hf=>by
  cases he with
  |cons _ _ _ _ _ hj huv hs =>
  simp only [update] at hf
  obtain ⟨b,hb,hf⟩:=bnd_some hf
  cases b with
  |true =>
   simp at hf;subst hf
   refine .inr ⟨0,e.val,keyEq_step hu hd hk hj hb (by simp),⟨e,rfl,sameBits_of hk hj hb⟩,?_⟩
   simp only [List.modify_zero_cons]
   exact .cons _ _ _ _ _ hk hv hs
  |false =>
   simp at hf
   obtain ⟨r',h1,h2⟩:=bnd_some hf
   simp at h2;subst h2
   rcases update_sound hu hd hk hv en es (i + 1) r' hs h1 with ⟨q1,q2⟩ | ⟨p,x,q1,q2,q3⟩
   ·exact .inl ⟨keyEq_step hu hd hk hj hb (by simpa using q1),fun e' h1 h2=>.cons _ _ _ _ _ hj huv (q2 e' h1 h2)⟩
   ·refine .inr ⟨p + 1,x,?_,by simpa using q2,?_⟩
    ·have e1:i + 1 + p=i + (p + 1):=by omega
     rw [e1] at q1
     exact keyEq_step hu hd hk hj hb (by simpa using q1)
    ·simp only [List.modify_succ_cons]
     exact .cons _ _ _ _ _ hj huv q3
theorem remove_sound {kt:Nat} {t:TypeId} {d:TypeDesc} (hu:P.underlying t=some d) (hd:keyT P kt t d=true) {k:FV} {vk:Value} (hk:R g w k vk):∀ (en:List (FV × FV)) (es:List MapEntry) (i:Nat) (en':List (FV × FV)),EnOk g w en es→remove kt k en=some en' →
  (FK P w kt t d vk es i none∧EnOk g w en' es) ∨ (∃ p x,FK P w kt t d vk es i (some (i + p,x))∧p < es.length∧EnOk g w en' (es.eraseIdx p))
 |[],[],i,en',_,hf=>by obtain ⟨_,hf⟩:=chk_some (show chk _ _=_ from hf);simp at hf;subst hf;exact .inl ⟨FK_nil,.nil⟩
 |(j,u)::en,e::es,i,en',he,hf=>by
  cases he with
  |cons _ _ _ _ _ hj huv hs =>
  simp only [remove] at hf
  obtain ⟨b,hb,hf⟩:=bnd_some hf
  cases b with
  |true =>
   simp at hf;subst hf
   exact .inr ⟨0,e.val,keyEq_step hu hd hk hj hb (by simp),by simp,hs⟩
  |false =>
   simp at hf
   obtain ⟨r',h1,h2⟩:=bnd_some hf
   simp at h2;subst h2
   rcases remove_sound hu hd hk en es (i + 1) r' hs h1 with ⟨q1,q2⟩ | ⟨p,x,q1,q2,q3⟩
   ·exact .inl ⟨keyEq_step hu hd hk hj hb (by simpa using q1),.cons _ _ _ _ _ hj huv q2⟩
   ·refine .inr ⟨p + 1,x,?_,by simpa using q2,?_⟩
    ·have e1:i + 1 + p=i + (p + 1):=by omega
     rw [e1] at q1
     exact keyEq_step hu hd hk hj hb (by simpa using q1)
    ·simpa using .cons _ _ _ _ _ hj huv q3
theorem run_findKey {kt:Nat} {d:TypeDesc} {t:TypeId} (ht:P.underlying t=some d) (hd:keyT P kt t d=true) {vk:Value} {es:List MapEntry} {r:Option (Nat × Value)} (hf:FK P w kt t d vk es 0 r):(Instr.findKey t vk es).run P w=.ok r w:=by
 unfold FK at hf
 split at hf
 ·simp [Instr.findKey,underlying,ht,hf]
 ·rename_i hlt
  unfold keyT at hd
  rw [if_neg hlt] at hd
  cases d<;>simp at hd
  cases es with
  |nil=>simp [Instr.findAsking] at hf;simp [Instr.findKey,underlying,ht,Instr.findNow,hf]
  |cons e es=>simp [Instr.findKey,underlying,ht,Instr.findNow,Instr.sameNow,hf]
theorem keyD_cases {kt:Nat} {d:TypeDesc} (hd:keyD kt d=true):(∃ k,d=.int k) ∨ d=.string:=by
 unfold keyD at hd
 split at hd
 ·exact .inl ⟨_,rfl⟩
 ·exact .inr rfl
 ·simp at hd
theorem run_checkCell {emp:Bool} {n:Nat} {k:Nat} {d:TypeDesc} {t:TypeId} (ht:P.underlying t=some d) (hk:isKd k d=true) (v:Value):(Instr.checkKey emp (n + 1) t v).run P w=.ok () w:=by
 rw [Instr.checkKey]
 cases d<;>simp [isKd] at hk
 all_goals (simp only [Sem.run_bind,run_underlying ht,Result.andThen_ok];cases v<;>rfl)
theorem run_checkCells (emp:Bool) (n:Nat) (zs:Array Value):∀ (fs:List Field) (ks:List Nat) (i:Nat) (a:List FV) (va:List Value),okEqF P i fs ks=true→zs.toList.drop i=va→RL g w a va→(eqCells ks a a).isSome=true →
  (forIn fs PUnit.unit fun f _=>(do
    if f.name ≠ "_" then do
     Instr.checkKey emp (n + 1) f.type (← part f.type zs f.offset)
     pure (ForInStep.yield PUnit.unit)
    else do
     pure PUnit.unit
     pure (ForInStep.yield PUnit.unit):Sem (ForInStep PUnit))).run P w=.ok () w:=by
 intro fs
 induction fs with
 |nil=>intro ks i a va _ _ _ _;simp
 |cons f fs ih =>
  intro ks i a va hok hva ra hs
  cases ks with
  |nil=>simp [okEqF] at hok
  |cons k ks =>
   simp only [okEqF,Bool.and_eq_true,bne_iff_ne,beq_iff_eq] at hok
   obtain ⟨⟨⟨h1,h2⟩,h3⟩,h4⟩:=hok
   cases ra with
   |nil=>simp [eqCells] at hs
   |cons x vx a va hx ra =>
    obtain ⟨e,he⟩:=Option.isSome_iff_exists.1 hs
    simp only [eqCells] at he
    obtain ⟨e1,q1,he⟩:=bnd_some he
    obtain ⟨e2,q2,he⟩:=bnd_some he
    obtain ⟨d,hd,hk⟩:=desc_of h3
    have hag:(isAgg f.type).run P w=.ok false w:=by
     rw [run_isAgg _ _ (by rw [hd];rfl)]
     congr 1
     unfold isAggB
     rw [hd]
     cases d<;>simp [isKd] at hk<;>rfl
    have hpart:(part f.type zs f.offset).run P w=.ok vx w:=by
     have:zs[i]? = some vx:=by
      rw [← Array.getElem?_toList]
      have:=congrArg (fun l=>l[0]?) hva
      simpa [List.getElem?_drop] using this
     simp only [part,Sem.run_bind,hag,Result.andThen_ok,Bool.false_eq_true,if_false,h2,this,Sem.run_pure]
    have hnext:zs.toList.drop (i + 1)=va:=by
     have:=congrArg (List.drop 1) hva
     simpa [List.drop_drop] using this
    simp only [List.forIn_cons,Sem.run_bind,h1,ne_eq,not_false_eq_true,if_true,Result.andThen_ok,hpart,run_checkCell hd hk,Sem.run_pure]
    exact ih ks (i + 1) a va h4 hnext ra (by rw [q2];rfl)
theorem run_checkKey {kt:Nat} {d:TypeDesc} {t:TypeId} (ht:P.underlying t=some d) (hd:keyT P kt t d=true) (emp:Bool) {k:FV} {vk:Value} (hk:R g w k vk) (hv:keyV kt k=true):(Instr.checkKey emp 10000 t vk).run P w=.ok () w:=by
 unfold keyT at hd
 split at hd
 ·show (Instr.checkKey emp (9999 + 1) t vk).run P w=_
  rw [Instr.checkKey]
  rcases keyD_cases hd with ⟨k,rfl⟩ | rfl
  ·simp only [Sem.run_bind,run_underlying ht,Result.andThen_ok];cases vk<;>rfl
  ·simp only [Sem.run_bind,run_underlying ht,Result.andThen_ok];cases vk<;>rfl
 ·rename_i hlt
  obtain ⟨n,rfl⟩:∃ n,kt=n + 2:=⟨kt - 2,by omega⟩
  cases d<;>simp only [Bool.false_eq_true] at hd
  rename_i fs
  simp only [Bool.and_eq_true,Bool.not_eq_true',Nat.add_sub_cancel] at hd
  cases k<;>simp only [keyV,Bool.false_eq_true] at hv
  rename_i a
  obtain ⟨va,f1,f2⟩:=R_agg hk
  subst f1
  show (Instr.checkKey emp (9999 + 1) t _).run P w=_
  rw [Instr.checkKey]
  simp only [Sem.run_bind,run_underlying ht,Result.andThen_ok]
  rw [← Array.forIn_toList]
  have:=run_checkCells (P:=P) emp 9998 va.toArray fs.toList _ 0 a va hd.1 (by simp) f2 hv
  rw [this]
  simp
def okMap (P:Program) (op:Op):O→Bool
 |.lk kt z ok x k=>match op with
  |.lookup t x' k' ok'=>ok' == ok && okX x' x && okX k' k && isDesc P t (fun d=>match d with
    |.map kd ed=>isDesc P kd (keyT P kt kd) && (match P.info? ed with
     |some i=>match i.zero with
      |some v=>okV v z
      |none=>false
     |none=>false)
    |_=>false)
  |_=>false
 |.mu kt x k v=>match op with
  |.mapUpdate t x' k' v' | .insert t x' k' v'=>okX x' x && okX k' k && okX v' v && isDesc P t (fun d=>match d with
    |.map kd _=>isDesc P kd (keyT P kt kd)
    |_=>false)
  |_=>false
 |.dl kt x k=>match op with
  |.call ⟨.builtin .delete,args,ts⟩=>okXs args.toList [x,k] && (match ts.toList with
    |t::_=>isDesc P t (fun d=>match d with
      |.map kd _=>isDesc P kd (keyT P kt kd)
      |_=>false)
    |_=>false)
  |_=>false
 |_=>false
theorem map_at (hI:Inv B w0 g h w) {id:Nat} {vx:Value} (hx:R g w (.map id) vx) {en:List (FV × FV)} (hg:hget h id=some (.mp en)) :
  ∃ b l es clock,vx=.map (some b)∧g.κ id=some l∧l.blk=some b∧l.mp=true∧w.heap[b]? = some (.map es clock)∧EnOk g w en es.toList∧Stamps es.toList clock:=by
 cases hx with | map _ b l hk hm hb =>
 obtain ⟨l',k1,k2⟩:=hI.obj' hk hg
 rw [hk] at k1;cases k1
 obtain ⟨k3,_,b',es,clock,k4,k5,k6,k7⟩:=k2
 rw [hb] at k4;cases k4
 exact ⟨b,l,es,clock,rfl,hk,hb,hm,k5,k6,k7⟩
theorem run_getObj_map {b:Nat} {es:Array MapEntry} {clock:Nat} (hb:w.heap[b]? = some (.map es clock)):(getObj b).run P w=.ok (.map es clock) w:=by
 simp [getObj,Sem.run,hb]
theorem e_lk (hI:Inv B w0 g h w) (hm:RT g w m a) {kt:Nat} {z:FV} {ok:Bool} {x k:X} (hok:okMap P op (.lk kt z ok x k)=true) (hh:lookup h kt z ok (ev m k) (ev m x)=some v) :
  ∃ y,(execOp a.eval ⟨dst,op,ty,pos,aft,gd⟩).run P w=.ok (.value y) w∧R g w v y:=by
 cases op<;>simp only [okMap,Bool.false_eq_true] at hok
 rename_i t x' k' ok'
 simp only [Bool.and_eq_true,beq_iff_eq] at hok
 obtain ⟨⟨⟨rfl,h1⟩,h2⟩,h3⟩:=hok
 obtain ⟨d,hd,hp⟩:=desc_of h3
 cases d<;>simp only [Bool.false_eq_true] at hp
 rename_i kd ed
 simp only [Bool.and_eq_true] at hp
 obtain ⟨hkd,hz⟩:=hp
 obtain ⟨dk,hdk,hkt⟩:=desc_of hkd
 have hzv:∃ zv,(zeroValue ed).run P w=.ok zv w∧R g w z zv:=by
  split at hz
  ·split at hz
   ·rename_i i hi _ zv hzv
    exact ⟨zv,by simp [zeroValue,typeInfo,hi,hzv],R_okV hz⟩
   ·simp at hz
  ·simp at hz
 obtain ⟨zv,hz1,hz2⟩:=hzv
 have rx:=R_okX hm h1
 have rk:=R_okX hm h2
 have fin:∀ (u:FV) (uv:Value) (b:Bool),R g w u uv→R g w (if ok'=true then .tup [u,.bool b] else u) (if ok'=true then .tuple #[uv,.bool b] else uv):=by
  intro u uv b hu
  cases ok'
  ·exact hu
  ·exact .tup [u,.bool b] [uv,.bool b] (.cons _ _ _ _ hu (.cons _ _ _ _ (.bool b) .nil))
 have key:∀ y,(Instr.lookup t (a.eval x') (a.eval k') ok').run P w=.ok y w→(execOp a.eval ⟨dst,.lookup t x' k' ok',ty,pos,aft,gd⟩).run P w=.ok (.value y) w:=fun y hy =>
  exec_of_value (Instr.lookup t (a.eval x') (a.eval k') ok') rfl hy
 unfold lookup at hh
 split at hh
 ·rename_i hx
  rw [hx] at rx
  obtain ⟨hV,hh⟩:=chk_some hh
  have hck:=fun em=>run_checkKey (P:=P) hdk hkt em rk hV
  simp only [Option.some.injEq] at hh;subst hh
  have:a.eval x'=.map none:=by generalize a.eval x'=q at rx;cases rx;rfl
  refine ⟨_,key _ ?_,fin z zv false hz2⟩
  rw [this]
  simp only [Instr.lookup,Sem.run_bind,run_underlying hd,Result.andThen_ok,Sem.run_pure,hck,run_findKey (es:=(#[]:Array MapEntry).toList) hdk hkt FK_nil,hz1]
 ·rename_i id hx
  rw [hx] at rx
  split at hh
  ·rename_i en hg
   obtain ⟨r,hr,hh2⟩:=bnd_some hh
   obtain ⟨b,l,es,clock,e1,_,_,_,e2,e3,_⟩:=map_at hI rx hg
   obtain ⟨r',q1,q2⟩:=find_sound hdk hkt rk en es.toList 0 r e3 hr
   have hk:=run_findKey (P:=P) (w:=w) hdk hkt q1
   have hck:=fun em=>run_checkKey (P:=P) hdk hkt em rk (find_V hr)
   cases r with
   |none =>
    cases r' with
    |some p=>exact q2.elim
    |none =>
    simp only [Option.some.injEq] at hh2;subst hh2
    refine ⟨_,key _ ?_,fin z zv false hz2⟩
    rw [e1]
    simp only [Instr.lookup,Sem.run_bind,run_underlying hd,Result.andThen_ok,Sem.run_pure,run_getObj_map e2,hck,hk,hz1]
   |some u =>
    cases r' with
    |none=>exact q2.elim
    |some p =>
    obtain ⟨pi,pv⟩:=p
    simp only [Option.some.injEq] at hh2;subst hh2
    refine ⟨_,key _ ?_,fin u pv true q2⟩
    rw [e1]
    simp only [Instr.lookup,Sem.run_bind,run_underlying hd,Result.andThen_ok,Sem.run_pure,run_getObj_map e2,hck,hk]
  ·simp at hh
 ·simp at hh
theorem write_map (hI : Inv B w0 g h w) {id b : Nat} {l : Loc} {en en' : List (FV × FV)} (hg : hget h id = some (.mp en)) (hk : g.κ id = some l) (hb : l.blk = some b) (hmp : l.mp = true) {es es' : Array MapEntry} {clock clock' : Nat} (he : w.heap[b]? = some (.map es clock)) (hen : EnOk g w en' es'.toList) (hst : Stamps es'.toList clock') :
    ∃ w', (setObj b (.map es' clock')).run P w = .ok () w' ∧ Inv B w0 g (hset h id (.mp en')) w' ∧ GLe g g w w' ∧ w'.heap.size = w.heap.size := by
  have hblt : b < w.heap.size := (hI.own id l b hk hb).2.2
  have p : Put g g w { w with heap := w.heap.setIfInBounds b (.map es' clock') } id l :=
    { k := fun i => by split; rename_i e; subst e; exact hk; rfl
      z := rfl
      old := fun l2 hl => by rw [hk] at hl; cases hl; exact ⟨Nat.le_refl _, rfl, fun _ => rfl⟩
      blk := fun c e => .inl ⟨l, hk, e⟩
      heap := fun c _ hc => by
        show (w.heap.setIfInBounds b _)[c]? = _
        rw [Array.getElem?_setIfInBounds_ne]
        intro e; exact hc (by rw [hb, e])
      sz := by simp
      lt := fun c e => by rw [hb] at e; cases e; simpa using hblt
      os := rfl
      tape := rfl
      output := rfl }
  have hle := p.gle hI (fun _ _ => by rw [hg]; rfl)
  refine ⟨_, ?_, hI.put p (hget_hset hg) ?_ (fun _ _ => by rw [hg]; rfl), hle, by simp⟩
  · simp [setObj, Sem.run, he]
  · exact ⟨hmp, (hI.obj id _ l hg hk : MapOk g w l en).hlp, b, es', clock', hb, by simp [hblt], hen.mono hle, hst⟩
theorem keep_map (hm:RT g w m a) {x':Operand} {x:X} (h1:okX x' x=true) {id:Nat} (hx:ev m x=.map id) {q:Obj} (hg:hget h id=some q) (ob:Obj) (i:Nat) (_:¬ (fun _:Nat=>False) i) (hk:g.κ i=none):g.κ i=none∧hget (hset h id ob) i=hget h i:=by
 refine ⟨hk,?_⟩
 rw [hget_hset hg,if_neg]
 intro e
 subst e
 have rx:=R_okX hm h1
 rw [hx] at rx
 generalize a.eval x'=q at rx
 cases rx with | map _ b l hk2 _ _=>rw [hk] at hk2;cases hk2
theorem e_mu (hI:Inv B w0 g h w) (hm:RT g w m a) {kt:Nat} {x k y:X} (hok:okMap P op (.mu kt x k y)=true) {id:Nat} (hx:ev m x=.map id) {en en':List (FV × FV)} (hg:hget h id=some (.mp en)) (hu:update kt (ev m k) (ev m y) en=some en') :
  Does P B w0 g h w a ⟨dst,op,ty,pos,aft,gd⟩ .undef (hset h id (.mp en')) (fun _=>False):=by
 have main:∀ (t:TypeId) (x' k' y':Operand),okX x' x=true→okX k' k=true→okX y' y=true→isDesc P t (fun d=>match d with | .map kd _=>isDesc P kd (keyT P kt kd) | _=>false)=true →
   ∃ w',(Instr.mapUpdate t (a.eval x') (a.eval k') (a.eval y')).run P w=.ok () w'∧Inv B w0 g (hset h id (.mp en')) w'∧GLe g g w w'∧w'.heap.size=w.heap.size:=by
  intro t x' k' y' h1 h2 h3 h4
  obtain ⟨d,hd,hp⟩:=desc_of h4
  cases d<;>simp only [Bool.false_eq_true] at hp
  rename_i kd ed
  obtain ⟨dk,hdk,hkt⟩:=desc_of hp
  have rx:=R_okX hm h1
  have rk:=R_okX hm h2
  have ry:=R_okX hm h3
  rw [hx] at rx
  obtain ⟨b,l,es,clock,e1,e2,e3,e4,e5,e6,e7⟩:=map_at hI rx hg
  rw [e1]
  have hck:=fun em=>run_checkKey (P:=P) hdk hkt em rk (update_V hu)
  rcases update_sound hdk hkt rk ry en es.toList 0 en' e6 hu with ⟨q1,q2⟩ | ⟨p,xx,q1,⟨ee,q2,q3⟩,q4⟩
  ·obtain ⟨w',r1,r2,r3,r4⟩:=write_map (P:=P) (es':=es.push { key:=a.eval k',val:=a.eval y',born:=clock }) (clock':=clock + 1) hI hg e2 e3 e4 e5 (by
    rw [Array.toList_push];exact q2 _ rfl rfl) (by
    rw [Array.toList_push]
    refine ⟨fun e he=>?_,?_⟩
    ·rcases List.mem_append.1 he with he | he
     ·exact Nat.lt_succ_of_lt (e7.1 e he)
     ·simp at he;subst he;exact Nat.lt_succ_self _
    ·rw [List.map_append,List.nodup_append]
     refine ⟨e7.2,by simp,fun x hx y hy=>?_⟩
     simp only [List.mem_map] at hx
     obtain ⟨e,he,rfl⟩:=hx
     simp at hy;subst hy
     exact Nat.ne_of_lt (e7.1 e he))
   refine ⟨w',?_,r2,r3,r4⟩
   simp only [Instr.mapUpdate,Sem.run_bind,run_underlying hd,Result.andThen_ok,run_getObj_map e5,hck,run_findKey hdk hkt q1,r1]
  ·simp only [Nat.zero_add] at q1
   have q2':es[p]? = some ee:=by simpa using q2
   obtain ⟨w',r1,r2,r3,r4⟩:=write_map (P:=P) (es':=es.modify p fun e=>{ e with key:=a.eval k',val:=a.eval y' }) (clock':=clock) hI hg e2 e3 e4 e5 (by
    rw [Array.toList_modify];exact q4) (by
    rw [Array.toList_modify]
    refine ⟨fun e he=>?_,?_⟩
    ·obtain ⟨i,hi,rfl⟩:=List.mem_iff_getElem.1 he
     rw [List.getElem_modify]
     have hi2:i < es.toList.length:=by simpa using hi
     have hlt:=e7.1 es.toList[i] (List.getElem_mem hi2)
     split
     ·exact hlt
     ·exact hlt
    ·have:(es.toList.modify p fun e=>{ e with key:=a.eval k',val:=a.eval y' }).map (·.born)=es.toList.map (·.born):=by
      apply List.ext_getElem
      ·simp
      ·intro i h1 h2
       simp only [List.getElem_map,List.getElem_modify]
       split<;>rfl
     rw [this];exact e7.2)
   refine ⟨w',?_,r2,r3,r4⟩
   simp only [Instr.mapUpdate,Sem.run_bind,run_underlying hd,Result.andThen_ok,run_getObj_map e5,hck,run_findKey hdk hkt q1,Instr.keyThatStays,q2',Option.map_some,Option.getD_some,q3,if_true,Sem.run_pure]
   exact r1
 cases op<;>simp only [okMap,Bool.false_eq_true] at hok
 ·rename_i t x' k' y'
  simp only [Bool.and_eq_true] at hok
  obtain ⟨⟨⟨h1,h2⟩,h3⟩,h4⟩:=hok
  obtain ⟨w',r1,r2,r3,r4⟩:=main t x' k' y' h1 h2 h3 h4
  refine ⟨g,w',.skip,undef,?_,.inr ⟨rfl,rfl⟩,.undef _,r2,r3,fun b hb=>.inl hb,by omega,keep_map hm h1 hx hg _⟩
  show ((do Instr.mapUpdate t (a.eval x') (a.eval k') (a.eval y');pure .skip:Sem Next)).run P w=_
  simp only [Sem.run_bind,r1,Result.andThen_ok,Sem.run_pure]
 ·rename_i t x' k' y'
  simp only [Bool.and_eq_true] at hok
  obtain ⟨⟨⟨h1,h2⟩,h3⟩,h4⟩:=hok
  obtain ⟨w',r1,r2,r3,r4⟩:=main t x' k' y' h1 h2 h3 h4
  refine ⟨g,w',.skip,undef,?_,.inr ⟨rfl,rfl⟩,.undef _,r2,r3,fun b hb=>.inl hb,by omega,keep_map hm h1 hx hg _⟩
  show ((do Instr.mapUpdate t (a.eval x') (a.eval k') (a.eval y');pure .skip:Sem Next)).run P w=_
  simp only [Sem.run_bind,r1,Result.andThen_ok,Sem.run_pure]
theorem e_dl (hI:Inv B w0 g h w) (hm:RT g w m a) {kt:Nat} {x k:X} (hok:okMap P op (.dl kt x k)=true) {id:Nat} (hx:ev m x=.map id) {en en':List (FV × FV)} (hg:hget h id=some (.mp en)) (hu:remove kt (ev m k) en=some en') :
  Does P B w0 g h w a ⟨dst,op,ty,pos,aft,gd⟩ (.tup []) (hset h id (.mp en')) (fun _=>False):=by
 cases op<;>simp only [okMap,Bool.false_eq_true] at hok
 rename_i c
 obtain ⟨cal,args,ts⟩:=c
 cases cal<;>first | (simp at hok;done) | skip
 rename_i bi
 cases bi<;>first | (simp at hok;done) | skip
 simp only [Bool.and_eq_true] at hok
 obtain ⟨h1,h2⟩:=hok
 obtain ⟨o1,o2,ha,hx1,hk1⟩:=okXs_two h1
 have ea:=arr_of_toList ha;subst ea
 split at h2
 ·rename_i t tr hts
  have et:=arr_of_toList hts;subst et
  obtain ⟨d,hd,hp⟩:=desc_of h2
  cases d<;>simp only [Bool.false_eq_true] at hp
  rename_i kd ed
  obtain ⟨dk,hdk,hkt⟩:=desc_of hp
  have rx:=R_okX hm hx1
  have rk:=R_okX hm hk1
  rw [hx] at rx
  obtain ⟨b,l,es,clock,e1,e2,e3,e4,e5,e6,e7⟩:=map_at hI rx hg
  have key:∀ w',(Builtin.delete_ (t::tr).toArray ty #[a.eval o1,a.eval o2]).run P w=.ok (.tuple #[]) w'→Inv B w0 g (hset h id (.mp en')) w'→GLe g g w w'→w'.heap.size=w.heap.size →
    Does P B w0 g h w a ⟨dst,.call ⟨.builtin .delete,[o1,o2].toArray,(t::tr).toArray⟩,ty,pos,aft,gd⟩ (.tup []) (hset h id (.mp en')) (fun _=>False):=fun w' r1 r2 r3 r4 =>
   ⟨g,w',_,_,exec_builtin (Builtin.delete_ (t::tr).toArray ty #[a.eval o1,a.eval o2]) (fun _=>by rw [map_two];rfl) r1,.inl rfl,.tup [] [] .nil,r2,r3,fun b hb=>.inl hb,by omega,keep_map hm hx1 hx hg _⟩
  have hck:=fun em=>run_checkKey (P:=P) hdk hkt em rk (remove_V hu)
  rcases remove_sound hdk hkt rk en es.toList 0 en' e6 hu with ⟨q1,q2⟩ | ⟨p,xx,q1,q2,q3⟩
  ·obtain ⟨w',r1,r2,r3,r4⟩:=write_map (P:=P) (es':=es) (clock':=clock) hI hg e2 e3 e4 e5 q2 e7
   refine key w' ?_ r2 r3 r4
   rw [e1]
   simp [Builtin.delete_,run_underlying hd,run_getObj_map e5,hck,run_findKey hdk hkt q1,r1]
  ·simp only [Nat.zero_add] at q1
   have q2':p < es.size:=by simpa using q2
   obtain ⟨w',r1,r2,r3,r4⟩:=write_map (P:=P) (es':=es.eraseIdxIfInBounds p) (clock':=clock) hI hg e2 e3 e4 e5 (by
    simp only [Array.eraseIdxIfInBounds,q2',dif_pos,Array.toList_eraseIdx];exact q3) (by
    simp only [Array.eraseIdxIfInBounds,q2',dif_pos,Array.toList_eraseIdx]
    exact ⟨fun e he=>e7.1 e (List.mem_of_mem_eraseIdx he),e7.2.sublist ((List.eraseIdx_sublist es.toList p).map _)⟩)
   refine key w' ?_ r2 r3 r4
   rw [e1]
   simp [Builtin.delete_,run_underlying hd,run_getObj_map e5,hck,run_findKey hdk hkt q1,r1]
 ·simp at h2
end
end Go.FI
namespace Go.FI
open Go.RowKit
variable [Sys]
section
variable {g:Gh} {w:World} {P:Program} {B:Nat} {w0:World} {hp:Heap} {a:Act} {m:Tm} {dst:Option Tmp} {op:Op} {ty:TypeId} {pos:String} {aft:Array Edge} {gd:Option (Nat × Bool)} {v:FV}
theorem run_equal_nil1 {t e:TypeId} (hd:P.underlying t=some (.slice e)) (b:Addr) (l c:Nat):(Op.equal t (.slice (some b) l c) (.slice none 0 0)).run P w=.ok false w:=by
 show (Op.equalIn (9999 + 1) t _ _).run P w=_
 rw [Op.equalIn]
 simp only [Sem.run_bind,underlying,run_program,Result.andThen_ok,hd,Sem.run_pure]
theorem run_equal_nil2 {t e:TypeId} (hd:P.underlying t=some (.slice e)) (b:Addr) (l c:Nat):(Op.equal t (.slice none 0 0) (.slice (some b) l c)).run P w=.ok false w:=by
 show (Op.equalIn (9999 + 1) t _ _).run P w=_
 rw [Op.equalIn]
 simp only [Sem.run_bind,underlying,run_program,Result.andThen_ok,hd,Sem.run_pure,Option.isNone]
theorem run_ifc {t:TypeId} {ms:Array (String × TypeId)} (hd:P.underlying t=some (.interface ms)) {x:Value} {b:Bool} (hx:x=.nilIface∧b=true ∨ (∃ u y,x=.iface u y)∧b=false) :
  (Op.equal t x .nilIface).run P w=.ok b w∧(Op.equal t .nilIface x).run P w=.ok b w:=by
 rcases hx with ⟨rfl,rfl⟩ | ⟨⟨u,y,rfl⟩,rfl⟩<;>constructor
 all_goals
  show (Op.equalIn (9999 + 1) t _ _).run P w=_
  rw [Op.equalIn]
  simp only [Sem.run_bind,underlying,run_program,Result.andThen_ok,hd,Sem.run_pure]
theorem s_isn (hm : RT g w m a) {neg : Bool} {x : X} (hok : okOp P op (.isn neg x) = true) (h : opv hp m (.isn neg x) = some v) : Yields P g w a ⟨dst, op, ty, pos, aft, gd⟩ v := by
  cases op <;> simp only [okOp, Bool.false_eq_true] at hok
  rename_i p t x' y' t2
  simp only [Bool.and_eq_true, Bool.or_eq_true, decide_eq_true_eq] at hok
  obtain ⟨⟨hop, hxy⟩, h3⟩ := hok
  obtain ⟨d, hd, hp'⟩ := desc_of h3
  cases d <;> simp at hp'
  rename_i ms
  have two : ∀ y, R g w (ev m x) y → ∃ b, (y = .nilIface ∧ b = true ∨ (∃ u z, y = .iface u z) ∧ b = false) ∧ v = .bool (if neg = true then !b else b) := by
    intro y hy
    simp only [opv] at h
    split at h
    · rename_i hx
      rw [hx] at hy
      cases hy with
      | ifc t v x hr =>
        simp only [Option.some.injEq] at h
        exact ⟨false, .inr ⟨⟨_, _, rfl⟩, rfl⟩, by rw [← h]; cases neg <;> rfl⟩
    · rename_i hx
      rw [hx] at hy
      cases hy with
      | nili =>
        simp only [Option.some.injEq] at h
        exact ⟨true, .inl ⟨rfl, rfl⟩, by rw [← h]; cases neg <;> rfl⟩
    · simp at h
  have fin : ∀ (x1 x2 : Operand) (z1 z2 : Value) (b : Bool), (z1 = .nilIface ∨ ∃ u z, z1 = .iface u z) → (z2 = .nilIface ∨ ∃ u z, z2 = .iface u z) → (Op.equal t z1 z2).run P w = .ok b w → (eqGuard p t x1 x2 z1 z2).run P w = .ok () w → (do eqGuard p t x1 x2 z1 z2; binOp p t z1 z2 : Sem Value).run P w = .ok (.bool (if neg = true then !b else b)) w := by
    intro x1 x2 z1 z2 b q1 q2 h1 h2
    have hb : (binOp p t z1 z2).run P w = .ok (.bool (if neg = true then !b else b)) w := by
      subst hop
      rcases q1 with rfl | ⟨u1, y1, rfl⟩ <;> rcases q2 with rfl | ⟨u2, y2, rfl⟩ <;> cases neg
      all_goals first
        | (show (do pure (.bool (← Op.equal t _ _)) : Sem Value).run P w = _
           simp only [Sem.run_bind, h1, Result.andThen_ok, Sem.run_pure]
           rfl)
        | (show (do pure (.bool (!(← Op.equal t _ _))) : Sem Value).run P w = _
           simp only [Sem.run_bind, h1, Result.andThen_ok, Sem.run_pure]
           rfl)
    simp only [Sem.run_bind, h2, Result.andThen_ok]
    exact hb
  have guard : ∀ (x1 x2 : Operand) (y : Value), (x1 = .const .nilIface ∨ x2 = .const .nilIface) → (y = .nilIface ∨ ∃ u z, y = .iface u z) → (eqGuard p t x1 x2 y .nilIface).run P w = .ok () w ∧ (eqGuard p t x1 x2 .nilIface y).run P w = .ok () w := by
    intro x1 x2 y hx hy
    have hp2 : p = .eql ∨ p = .neq := by subst hop; cases neg <;> simp
    have key : ∀ q, (q = BinOp.eql ∨ q = BinOp.neq) → (eqGuard q t x1 x2 y .nilIface).run P w = .ok () w ∧ (eqGuard q t x1 x2 .nilIface y).run P w = .ok () w := by
      intro q hq
      rcases hq with rfl | rfl <;> rcases hy with rfl | ⟨u, z, rfl⟩
      all_goals first
        | (constructor <;> rfl)
        | (rcases hx with rfl | rfl
           · constructor <;> rfl
           · cases x1 <;> constructor <;> rfl)
    exact key p hp2
  rcases hxy with ⟨h1, h2⟩ | ⟨h1, h2⟩
  · obtain ⟨b, e1, e2⟩ := two _ (R_okX hm h1)
    split at h2
    · refine ⟨.bool (if neg = true then !b else b), exec_of_value (do eqGuard p t x' (.const .nilIface) (a.eval x') .nilIface; binOp p t (a.eval x') .nilIface) rfl ?_, by rw [e2]; exact .bool _⟩
      exact fin _ _ _ _ b (e1.imp (·.1) (·.1)) (.inl rfl) (run_ifc hd e1).1 (guard _ _ _ (.inr rfl) (e1.imp (·.1) (·.1))).1
    · simp at h2
  · obtain ⟨b, e1, e2⟩ := two _ (R_okX hm h1)
    split at h2
    · refine ⟨.bool (if neg = true then !b else b), exec_of_value (do eqGuard p t (.const .nilIface) y' .nilIface (a.eval y'); binOp p t .nilIface (a.eval y')) rfl ?_, by rw [e2]; exact .bool _⟩
      exact fin _ _ _ _ b (.inl rfl) (e1.imp (·.1) (·.1)) (run_ifc hd e1).2 (guard _ _ _ (.inl rfl) (e1.imp (·.1) (·.1))).2
    · simp at h2
theorem run_nil1 {t e:TypeId} (hd:P.underlying t=some (.slice e)) (op:BinOp) (neg:Bool) (hop:op=if neg=true then .neq else .eql) (b:Addr) (l c:Nat):(binOp op t (.slice (some b) l c) (.slice none 0 0)).run P w=.ok (.bool neg) w:=by
 subst hop
 cases neg
 ·show (do pure (.bool (← Op.equal t (.slice (some b) l c) (.slice none 0 0))):Sem Value).run P w=_
  simp only [Sem.run_bind,run_equal_nil1 hd,Result.andThen_ok,Sem.run_pure]
 ·show (do pure (.bool (!(← Op.equal t (.slice (some b) l c) (.slice none 0 0)))):Sem Value).run P w=_
  simp only [Sem.run_bind,run_equal_nil1 hd,Result.andThen_ok,Sem.run_pure,Bool.not_false]
theorem run_nil2 {t e:TypeId} (hd:P.underlying t=some (.slice e)) (op:BinOp) (neg:Bool) (hop:op=if neg=true then .neq else .eql) (b:Addr) (l c:Nat):(binOp op t (.slice none 0 0) (.slice (some b) l c)).run P w=.ok (.bool neg) w:=by
 subst hop
 cases neg
 ·show (do pure (.bool (← Op.equal t (.slice none 0 0) (.slice (some b) l c))):Sem Value).run P w=_
  simp only [Sem.run_bind,run_equal_nil2 hd,Result.andThen_ok,Sem.run_pure]
 ·show (do pure (.bool (!(← Op.equal t (.slice none 0 0) (.slice (some b) l c)))):Sem Value).run P w=_
  simp only [Sem.run_bind,run_equal_nil2 hd,Result.andThen_ok,Sem.run_pure,Bool.not_false]
theorem s_sn (hm:RT g w m a) {neg:Bool} {x:X} (hok:okOp P op (.sn neg x)=true) (h:opv hp m (.sn neg x)=some v):Yields P g w a ⟨dst,op,ty,pos,aft,gd⟩ v:=by
 cases op<;>simp only [okOp,Bool.false_eq_true] at hok
 rename_i p t x' y' t2
 simp only [Bool.and_eq_true,Bool.or_eq_true,decide_eq_true_eq] at hok
 obtain ⟨⟨hop,hxy⟩,h3⟩:=hok
 obtain ⟨d,hd,hp'⟩:=desc_of h3
 cases d<;>simp [isSlice] at hp'
 rename_i e
 have some_:∀ y,R g w (ev m x) y→∃ b l c,y=.slice (some b) l c:=by
  intro y hy
  simp only [opv] at h
  split at h
  ·rename_i hx
   rw [hx] at hy
   cases hy with
   |lst=>exact ⟨_,_,_,rfl⟩
  ·rename_i hx
   rw [hx] at hy
   cases hy with
   |sref _ _ _ _ _ l aa cap hk he hs hle ha hh =>
    cases aa with
    |none=>have:=ha (by omega);simp at this
    |some b=>exact ⟨_,_,_,rfl⟩
  ·simp at h
 have hv:v=.bool neg:=by
  simp only [opv] at h
  split at h
  ·simp only [Option.some.injEq] at h;exact h.symm
  ·simp only [Option.some.injEq] at h;exact h.symm
  ·simp at h
 subst hv
 refine ⟨.bool neg,?_,.bool _⟩
 rcases hxy with ⟨h1,h2⟩ | ⟨h1,h2⟩
 ·obtain ⟨b,l,c,e1⟩:=some_ _ (R_okX hm h1)
  split at h2
  ·exact exec_of_value (do eqGuard p t x' (.const (.slice none 0 0)) (a.eval x') (.slice none 0 0);binOp p t (a.eval x') (.slice none 0 0)) rfl (by
    have hg:(eqGuard p t x' (.const (.slice none 0 0)) (a.eval x') (.slice none 0 0)).run P w=.ok () w:=by apply run_eqGuard_plain;rw [e1];simp
    simp only [Sem.run_bind,hg,Result.andThen_ok]
    rw [e1,run_nil1 hd p neg hop])
  ·simp at h2
 ·obtain ⟨b,l,c,e1⟩:=some_ _ (R_okX hm h1)
  split at h2
  ·exact exec_of_value (do eqGuard p t (.const (.slice none 0 0)) y' (.slice none 0 0) (a.eval y');binOp p t (.slice none 0 0) (a.eval y')) rfl (by
    have hg:(eqGuard p t (.const (.slice none 0 0)) y' (.slice none 0 0) (a.eval y')).run P w=.ok () w:=by apply run_eqGuard_plain;simp
    simp only [Sem.run_bind,hg,Result.andThen_ok]
    rw [e1,run_nil2 hd p neg hop])
  ·simp at h2
theorem s_xa (hm:RT g w m a) {n es:Nat} {ag:Option Nat} {x i:X} (hok:okOp P op (.xa n es ag x i)=true) (h:opv hp m (.xa n es ag x i)=some v):Yields P g w a ⟨dst,op,ty,pos,aft,gd⟩ v:=by
 cases op<;>simp only [okOp,Bool.false_eq_true] at hok
 rename_i t x' i'
 simp only [Bool.and_eq_true] at hok
 obtain ⟨⟨h1,h0⟩,h2⟩:=hok
 split at h2
 ·rename_i n' e hd
  simp only [Bool.and_eq_true,beq_iff_eq] at h2
  obtain ⟨⟨rfl,hsz⟩,h3⟩:=h2
  simp only [opv] at h
  split at h
  ·rename_i cs ki k hx hi
   obtain ⟨⟨b1,b2⟩,h⟩:=chk_some h
   obtain ⟨vs,e1,hr⟩:=R_agg (hx ▸ R_okX hm h1:R g w (.agg cs) (a.eval x'))
   have e2:=R_int (hi ▸ R_okX hm h0:R g w (.int ki k) (a.eval i'))
   have key:∀ z,(part e vs.toArray (k.toNat * es)).run P w=.ok z w→R g w v z→Yields P g w a ⟨dst,.index t x' i',ty,pos,aft,gd⟩ v:=fun z hz hR=>by
    refine ⟨z,exec_of_value (Instr.index t (a.eval x') (a.eval i')) rfl (w':=w) ?_,hR⟩
    rw [e1,e2]
    simp only [Instr.index,underlying,Sem.run_bind,run_program,Result.andThen_ok,hd,Sem.run_pure,asIntOf,b1,b2,and_self,if_true,run_sizeOf w hsz]
    exact hz
   cases ag with
   |none =>
    simp only [okAg,Bool.and_eq_true,Bool.not_eq_true'] at h3
    obtain ⟨z,hz,hR⟩:=hr.get _ _ h
    refine key z ?_ hR
    simp [part,run_isAgg _ w h3.2,h3.1,hz]
   |some q =>
    simp only [okAg,Bool.and_eq_true] at h3
    simp only [cellsAt] at h
    obtain ⟨hle,h4⟩:=chk_some h
    simp only [Option.some.injEq] at h4;subst h4
    have hu:(P.underlying e).isSome=true:=by
     have:=h3.1;unfold isAggB at this;split at this<;>simp_all
    refine key (.agg (cut vs (k.toNat * es) (k.toNat * es + q)).toArray) ?_ (.agg _ _ (hr.cut _ _))
    simp [part,run_isAgg _ w hu,h3.1,run_sizeOf w h3.2,cut]
  ·simp at h
 ·simp at h2
theorem bytesV_spec:∀ {xs:List FV} {s:List UInt8},bytesV xs=some s→∃ ns:List Int,xs=ns.map (.int .u8)∧s=ns.map fun n=>UInt8.ofNat n.toNat
 |[],s,h=>by simp only [bytesV,Option.some.injEq] at h;subst h;exact ⟨[],rfl,rfl⟩
 |x::xs,s,h=>by
  unfold bytesV at h
  split at h
  ·simp at *
  ·rename_i n r e
   cases e
   obtain ⟨s',h1,h2⟩:=bnd_some h
   simp only [Option.some.injEq] at h2;subst h2
   obtain ⟨ns,e1,e2⟩:=bytesV_spec h1
   exact ⟨n::ns,by rw [e1];rfl,by rw [e2];rfl⟩
  ·simp at h
theorem foldl_push (ns:List Int):∀ b:ByteArray,(ns.foldl (fun r n=>r.push (UInt8.ofNat n.toNat)) b).data.toList=b.data.toList ++ ns.map fun n=>UInt8.ofNat n.toNat:=by
 induction ns with
 |nil=>intro b;simp
 |cons n ns ih=>intro b;rw [List.foldl_cons,ih];simp [ByteArray.push]
theorem s_cs (hI:Inv B w0 g hp w) (hm:RT g w m a) {x:X} (hok:okOp P op (.cs x)=true) (h:opv hp m (.cs x)=some v):Yields P g w a ⟨dst,op,ty,pos,aft,gd⟩ v:=by
 cases op<;>simp only [okOp,Bool.false_eq_true] at hok
 rename_i s d x'
 simp only [Bool.and_eq_true] at hok
 obtain ⟨⟨h1,h2⟩,h3⟩:=hok
 obtain ⟨ds,hs,hp1⟩:=desc_of h2
 cases ds<;>simp only [Bool.false_eq_true] at hp1
 rename_i e
 obtain ⟨de,he,hp2⟩:=desc_of hp1
 cases de<;>simp [isInt] at hp2
 subst hp2
 obtain ⟨dd,hd,hp3⟩:=desc_of h3
 cases dd<;>simp [isStr] at hp3
 simp only [opv] at h
 obtain ⟨xs,k1,h⟩:=bnd_some h
 obtain ⟨bs,k2,h⟩:=bnd_some h
 simp only [Option.some.injEq] at h;subst h
 obtain ⟨ns,rfl,rfl⟩:=bytesV_spec k2
 have rx:=R_okX hm h1
 have k3:elems hp (ev m x)=some (ns.map (.int .u8))∧∀ s,ev m x ≠ .str s:=by
  unfold sliceElems at k1
  split at k1
  ·simp at k1
  ·rename_i hn;exact ⟨k1,hn⟩
 obtain ⟨news,n1,n2,n3⟩:=elems_sound (P:=P) hI rx k3.1 (es:=1) (by omega) (fun z hz=>by obtain ⟨n,_,rfl⟩:=List.mem_map.1 hz;rfl)
 have hflat:∀ ns:List Int,(ns.map (FV.int .u8)).flatMap FV.cells=ns.map (.int .u8):=by
  intro ns
  induction ns with
  |nil=>rfl
  |cons n ns ih=>rw [List.map_cons,List.flatMap_cons,ih];rfl
 rw [hflat] at n1
 have hnews:news.toList=ns.map (Value.int .u8):=by
  have:∀ (ns:List Int) (l:List Value),RL g w (ns.map (FV.int .u8)) l→l=ns.map (Value.int .u8):=by
   intro ns
   induction ns with
   |nil=>intro l hl;cases hl;rfl
   |cons n ns ih=>intro l hl;cases hl with | cons _ _ _ _ hr hs=>rw [R_int hr,ih _ hs];rfl
  exact this _ _ n1
 have n4:=n3 w rfl
 have hex:∃ o l c,a.eval x'=.slice o l c:=by
  generalize a.eval x'=q at rx n4
  generalize ev m x=y at rx k3
  cases rx<;>first | exact ⟨_,_,_,rfl⟩ | (simp [elems] at k3;done) | (exact absurd rfl (k3.2 _))
 obtain ⟨o,l,c,hq⟩:=hex
 rw [hq] at n4
 have conv:∃ b:ByteArray,b.data.toList=ns.map (fun n=>UInt8.ofNat n.toNat)∧(Conv.bytesToString (.slice o l c)).run P w=.ok (.string b) w:=by
  cases o with
  |none =>
   simp only [Builtin.firstCells,Sem.run_pure,Result.ok.injEq] at n4
   obtain ⟨rfl,_⟩:=n4
   have:ns=[]:=by
    cases ns with
    |nil=>rfl
    |cons n ns=>simp at hnews
   subst this
   exact ⟨.empty,rfl,rfl⟩
  |some ad =>
   have hlen:l=ns.length:=by
    have:=n2 w rfl
    rw [hq] at this
    simp only [Builtin.lenOf,Sem.run_pure,Result.ok.injEq] at this
    simpa using this.1
   simp only [Builtin.firstCells,List.length_map,Nat.mul_one] at n4
   refine ⟨_,?_,run_bytesToString w ad l c ns ?_⟩
   ·rw [foldl_push];simp
   ·rw [hlen,n4,← hnews]
 obtain ⟨b,hb,hrun⟩:=conv
 refine ⟨.string b,exec_of_value (convert s d (a.eval x')) rfl (w':=w) ?_,?_⟩
 ·rw [hq,run_convert_bytes_string w s d e o l c hs he hd,hrun]
 ·rw [← hb];exact .str b
theorem s_ta (hm:RT g w m a) {t:Nat} {z:FV} {x:X} (hok:okOp P op (.ta t z x)=true) (h:opv hp m (.ta t z x)=some v):Yields P g w a ⟨dst,op,ty,pos,aft,gd⟩ v:=by
 cases op<;>simp only [okOp,Bool.false_eq_true] at hok
 rename_i x' xt t' ck
 cases ck<;>simp only [Bool.false_eq_true] at hok
 simp only [Bool.and_eq_true,beq_iff_eq] at hok
 obtain ⟨⟨⟨rfl,h1⟩,h2⟩,hz⟩:=hok
 have hzv:∃ zv,(zeroValue t').run P w=.ok zv w∧R g w z zv:=by
  split at hz
  ·rename_i i hi
   split at hz
   ·rename_i zv hzv
    exact ⟨zv,by simp [zeroValue,typeInfo,hi,hzv],R_okV hz⟩
   ·simp at hz
  ·simp at hz
 obtain ⟨zv,hz1,hz2⟩:=hzv
 have rx:=R_okX hm h1
 simp only [opv] at h
 cases hu:P.underlying t' with
 |none=>rw [hu] at h2;simp at h2
 |some d =>
  rw [hu] at h2
  have hd:∀ ms,d ≠ .interface ms:=by
   intro ms e;subst e;simp at h2
  have fails : ∀ st dy, (do if true then pure (.tuple #[← zeroValue t', .bool false]) else runtimePanic (.typeAssertion st dy t' "") : Sem Value).run P w = .ok (.tuple #[zv, .bool false]) w := fun st dy => by
   simp only [if_true,Sem.run_bind,hz1,Result.andThen_ok,Sem.run_pure]
  split at h
  ·rename_i u vv hx
   rw [hx] at rx
   have:∃ q,a.eval x'=.iface u q∧R g w vv q:=by generalize a.eval x'=q at rx;cases rx with | ifc _ _ q hr=>exact ⟨q,rfl,hr⟩
   obtain ⟨q,e1,hr⟩:=this
   simp only [Option.some.injEq] at h;subst h
   by_cases e:u=t'
   ·subst e
    rw [if_pos rfl]
    refine ⟨.tuple #[q,.bool true],exec_of_value (Instr.typeAssert (a.eval x') xt u true) rfl (w':=w) ?_,.tup _ [q,.bool true] (.cons _ _ _ _ hr (.cons _ _ _ _ (.bool _) .nil))⟩
    rw [e1]
    cases d<;>first | (exact absurd rfl (hd _)) | (simp [Instr.typeAssert,underlying,hu])
   ·rw [if_neg e]
    refine ⟨.tuple #[zv,.bool false],exec_of_value (Instr.typeAssert (a.eval x') xt t' true) rfl (w':=w) ?_,.tup _ [zv,.bool false] (.cons _ _ _ _ hz2 (.cons _ _ _ _ (.bool _) .nil))⟩
    rw [e1]
    cases d<;>first | (exact absurd rfl (hd _)) | (simp [Instr.typeAssert,underlying,hu,e,hz1])
  ·rename_i hx
   rw [hx] at rx
   have e1:a.eval x'=.nilIface:=by generalize a.eval x'=q at rx;cases rx;rfl
   simp only [Option.some.injEq] at h;subst h
   refine ⟨.tuple #[zv,.bool false],exec_of_value (Instr.typeAssert (a.eval x') xt t' true) rfl (w':=w) ?_,.tup _ [zv,.bool false] (.cons _ _ _ _ hz2 (.cons _ _ _ _ (.bool _) .nil))⟩
   rw [e1]
   cases d<;>first | (exact absurd rfl (hd _)) | (simp [Instr.typeAssert,underlying,hu,hz1])
  ·simp at h
def okNs (op:Op):O→Bool
 |.ns x=>match op with
  |.next x' true=>okX x' x
  |_=>false
 |_=>false
theorem e_ns (hI : Inv B w0 g hp w) (hm : RT g w m a) {x : X} (hok : okNs op (.ns x) = true) {id p nx nx' : Nat} {s : List UInt8} {h' : Heap} (hx : ev m x = .ptr id 1 0 0) (hg : hget hp id = some (.sit s p))
    (hh : (if p < s.length then some (FV.tup [.bool true, .int .i64 p, .int .i32 (rune s p).1], hset hp id (.sit s (p + (rune s p).2)), nx) else some (.tup [.bool false], hp, nx)) = some (v, h', nx')) :
    nx' = nx ∧ Does P B w0 g hp w a ⟨dst, op, ty, pos, aft, gd⟩ v h' (fun _ => False) ∧ ∀ i, hget hp i = none → hget h' i = none := by
  cases op <;> simp only [okNs, Bool.false_eq_true] at hok
  rename_i x' bs
  cases bs <;> simp only [Bool.false_eq_true] at hok
  have hr := R_okX hm hok
  rw [hx] at hr
  generalize hev : a.eval x' = y at hr
  cases hr with | ptr _ _ _ _ l ad hk hs hp2 =>
  have ho : SitOk w l s p := hI.obj id _ l hg hk
  obtain ⟨hmp, hlp, hsz, b, hb, he⟩ := ho
  obtain ⟨b', hb', rfl⟩ := hp2 (by rw [hsz])
  rw [hb] at hb'
  cases hb'
  have hblt : b < w.heap.size := (hI.own id l b hk hb).2.2
  have hsize : (⟨s.toArray⟩ : ByteArray).size = s.length := by simp [ByteArray.size]
  split at hh
  · rename_i hlt
    simp only [Option.some.injEq, Prod.mk.injEq] at hh
    obtain ⟨rfl, rfl, rfl⟩ := hh
    have pp : Put g g w { w with heap := w.heap.setIfInBounds b (.stringIter ⟨s.toArray⟩ (p + (rune s p).2)) } id l :=
      { k := fun i => by split; rename_i e; subst e; exact hk; rfl
        z := rfl
        old := fun l2 hl => by rw [hk] at hl; cases hl; exact ⟨Nat.le_refl _, rfl, fun _ => rfl⟩
        blk := fun c e => .inl ⟨l, hk, e⟩
        heap := fun c _ hc => by
          show (w.heap.setIfInBounds b _)[c]? = _
          rw [Array.getElem?_setIfInBounds_ne]
          intro e; exact hc (by rw [hb, e])
        sz := by simp
        lt := fun c e => by rw [hb] at e; cases e; simpa using hblt
        os := rfl
        tape := rfl
        output := rfl }
    have hle := pp.gle hI (fun _ _ => by rw [hg]; rfl)
    refine ⟨rfl, ⟨g, _, _, _, exec_of_value (Instr.next (a.eval x') true ty) rfl (z := .tuple #[.bool true, .int .i64 p, .int .i32 (rune s p).1]) (w' := { w with heap := w.heap.setIfInBounds b (.stringIter ⟨s.toArray⟩ (p + (rune s p).2)) }) ?_, .inl rfl, ?_, hI.put pp (hget_hset hg) ?_ (fun _ _ => by rw [hg]; rfl), hle, fun _ h => .inl h, by simp, fun i _ hki => ⟨hki, ?_⟩⟩, fun i hi => ?_⟩
    · rw [hev]
      show (Instr.next (.pointer (some ⟨b, 0 * l.es + 0, none⟩)) true ty).run P w = _
      rw [show 0 * l.es + 0 = 0 by omega]
      unfold Instr.next
      simp only [Sem.run_bind, Sem.run_pure, Result.andThen_ok]
      have hget : (getObj b).run P w = .ok (.stringIter ⟨s.toArray⟩ p) w := by simp [getObj, Sem.run, he]
      rw [hget]
      simp only [Result.andThen_ok, hsize, if_pos hlt]
      simp [rune, goInt, setObj, Sem.run, he]
    · exact .tup _ _ (.cons _ _ _ _ (.bool _) (.cons _ _ _ _ (.int _ _) (.cons _ _ _ _ (.int _ _) .nil)))
    · exact ⟨hmp, hlp, hsz, b, hb, by simp [hblt]⟩
    · rw [hget_hset hg, if_neg]
      intro e; subst e; rw [hk] at hki; cases hki
    · rw [hget_hset hg, if_neg]
      · exact hi
      · intro e; subst e; rw [hi] at hg; cases hg
  · rename_i hlt
    simp only [Option.some.injEq, Prod.mk.injEq] at hh
    obtain ⟨rfl, rfl, rfl⟩ := hh
    refine ⟨rfl, ⟨g, w, _, _, exec_of_value (Instr.next (a.eval x') true ty) rfl (z := .tuple #[.bool false]) (w' := w) ?_, .inl rfl, ?_, hI, GLe.refl _ _, fun _ h => .inl h, Nat.le_refl _, fun i _ hki => ⟨hki, rfl⟩⟩, fun i hi => hi⟩
    · rw [hev]
      show (Instr.next (.pointer (some ⟨b, 0 * l.es + 0, none⟩)) true ty).run P w = _
      rw [show 0 * l.es + 0 = 0 by omega]
      unfold Instr.next
      simp only [Sem.run_bind, Sem.run_pure, Result.andThen_ok]
      have hget : (getObj b).run P w = .ok (.stringIter ⟨s.toArray⟩ p) w := by simp [getObj, Sem.run, he]
      rw [hget]
      simp only [Result.andThen_ok, hsize, if_neg hlt, Sem.run_pure]
    · exact .tup _ _ (.cons _ _ _ _ (.bool _) .nil)
end
end Go.FI

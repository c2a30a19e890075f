/- The functional interpreter: pure values,own objects,the code that it runs,and how it runs it. -/
import GoSem.Claims
import GoSem.Dispatch
import Derived.Lib.Bytealg
set_option linter.all false
namespace Go.FI
inductive FV where
 |undef
 |bool (b:Bool)
 |int (k:IntKind) (n:Int)
 |str (s:List UInt8)
 |agg (cs:List FV)
 |tup (vs:List FV)
 |lst (ex:Bool) (xs:List FV)
 |eptr (cs:List FV) (off:Nat)
 |ptr (id stamp i off:Nat)
 |nilp
 |sref (es id stamp off len:Nat)
 |map (id:Nat)
 |nilm
 |fn (f:Nat) (caps:List FV)
 |nilf
 |ifc (t:Nat) (v:FV)
 |nili
 |pan (v:FV)                                   -- no value: a panic
 |yl (f id:Nat) (caps:List FV)              -- a loop's 'yield': the round's number,the loop's object,what the round's code captures
 deriving Inhabited
def FV.cells:FV→List FV
 |.agg cs=>cs
 |v=>[v]
def FV.one:FV→Bool
 |.undef | .agg _ | .tup _ | .pan _=>false
 |_=>true
def isPan:FV→Bool
 |.pan _=>true
 |_=>false
def FV.ok:FV→Bool
 |.agg cs=>cs.all FV.one
 |v=>v.one
inductive Obj where
 |row (es:Nat) (xs:List FV)
 |mp (en:List (FV × FV))
 |fro (es:Nat) (xs:List FV)                  -- a row that nobody writes any more
 |fmp (en:List (FV × FV))                      -- a map that nobody writes any more
 |sit (s:List UInt8) (pos:Nat)               -- a walk through a string
 |mit                                            -- a walk through a map
 |lp (st jp:Nat)                               -- a loop over a function: 0 ready,1 busy,2 done,3 at its end;the jump that is pending: 0 none,1 a return,n + 2 an exit
 deriving Inhabited
abbrev Heap:=List (Nat × Obj)
abbrev Tm:=List (Nat × FV)
inductive X where
 |t (n:Nat)
 |c (v:FV)
 deriving Inhabited
inductive O where
 |mv (x:X)
 |pk (c a b:X)
 |bo (op:BinOp) (a b:X)                      -- on integers and strings
 |be (neg:Bool) (a b:X)                      -- == and != on bools
 |eq (neg:Bool) (ks:List Nat) (a b:X)        -- == and != on structs;the kinds of the fields: 0: integer,1: string,2: bool
 |un (op:UnOp) (a:X)
 |ix (x i:X)                                   -- a byte of a string
 |ln (k:Nat) (x:X)                            -- 0: of a string,1: of a slice,2: of a map
 |mx (a b:X)
 |mn (a b:X)
 |cv (k:IntKind) (x:X)
 |ld (ag:Option Nat) (x:X)
 |fa (off:Nat) (x:X)
 |fd (ag:Option Nat) (off:Nat) (x:X)       -- a field of a struct value
 |ia (es:Nat) (x i:X)                         -- the address of a slice's element
 |aa (n es:Nat) (x i:X)                      -- the address of an array variable's element
 |nc (x:X)
 |ex (x:X) (i:Nat)
 |sl (es:Nat) (x:X) (lo hi:Option X)        -- es=0: of a string
 |bd (z:List FV) (ps:List (Nat × Nat × X))
 |mf (f:Nat) (caps:List X)
 |mi (t:Nat) (x:X)
 |sx (a b:X)                                   -- two strings,compared by the runtime
 |sn (neg:Bool) (x:X)                        -- is a slice nil? (of one that has elements)
 |xa (n es:Nat) (ag:Option Nat) (x i:X)     -- an element of an array value
 |cs (x:X)                                     -- bytes to a string
 |ta (t:Nat) (z:FV) (x:X)                   -- is an interface's value of a type?
 |pn (x:X)                                     -- a panic
 |isn (neg:Bool) (x:X)                       -- is an interface's value nil?
 |ib (a b:X)                                   -- a byte's place in a string,by the runtime
 |bad                                            -- what is not done
 |bx (es:Nat) (x:X)
 |al (es:Nat) (z:FV)
 |bs (es n:Nat) (z:FV) (ps:List (Nat × X))
 |ms (es:Nat) (z:FV) (len cap:X)
 |nl (es:Nat)                                  -- a nil slice that is going to be appended to
 |mm
 |rs (x:X)                                     -- a walk through a string begins
 |ns (x:X)                                     -- ... goes on
 |st (sz:Nat) (x v:X)
 |ap (es by_:Nat) (x y:X)
 |lk (kt:Nat) (z:FV) (ok:Bool) (m k:X)
 |mu (kt:Nat) (m k v:X)
 |dl (kt:Nat) (m k:X)
 |cl (f:Nat) (as:List X)
 |cw (f:X) (as:List X)                       -- of a function value
 deriving Inhabited
structure G where
 dst:Option Nat
 guard:Option (Nat × Bool)
 op:O
 re:List (Option (Nat × Bool) × Option Nat × Nat × Nat):=[]      -- loads that may come later: guard,size,address,result
 deriving Inhabited
inductive C where
 |sk
 |rg (draw:Option (List Nat)) (ops:List G) (keep:List Nat)      -- drawn: the machine's numbers,in our order
 |rq (ops:List G) (keep:List Nat)            -- a region in the order of its text,in which something may panic
 |rp (pm:List Nat) (c:Nat) (kp:List Nat) (ops:List G) (keep:List Nat)      -- a drawn region in which the call at 'c' may panic;'kp': temporaries that it leaves alone
 |sq (a b:C)
 |cd (c:X) (a b:C)
 |bl (id:Nat) (c:C)
 |lp (tr:Bool) (c:C)                         -- 'tr': what a round has made is forgotten behind it
 |xt (id:Nat)
 |rt
 |sc (c:C)                                     -- labels may be jumped to from within
 |lb (l:Nat)
 |go (l:Nat)
 |bad                                            -- code that is not run
 |rf (f:Nat) (x:X) (ct:List Nat)           -- a loop over a function: the round's number,the function,the temporaries that the round's code captures
 deriving Inhabited
inductive I where
 |code (c:C)
 |inB (id:Nat)
 |inL (tr:Option Nat) (c:C)
 |inS (c:C)
 |beg (id:Nat)
 deriving Inhabited
inductive RV where
 |t (n:Nat)
 |cell (n:Nat) (ag:Option Nat)
 deriving Inhabited
inductive Mode where
 |iso | isf | shr | isc
 deriving DecidableEq,Inhabited
structure Fn where
 body:C
 np:Nat                                         -- parameters and captured variables
 res:List RV
 mode:Mode
 deriving Inhabited
structure Rd where
 ps:List Nat
 ct:List Nat
 asg:C
 body:C
 deriving Inhabited
structure Ct where
 pre:List G
 keep:List Nat
 g:Nat
 dst:Nat
 ct:List Nat
 rest:C
 ht:Nat
 hb:C
 np:Nat
 res:List RV
 deriving Inhabited
structure Mr where
 pre:List C
 keep0:List Nat
 mp:Nat
 it:Nat
 d:Nat
 ops:List G
 keep:List Nat
 body:C
 post:C
 np:Nat
 res:List RV
 deriving Inhabited
inductive Def where
 |fn (f:Fn)
 |ct (c:Ct)
 |mr (d:Mr)
 |rd (d:Rd)
 |ext (g:List FV→Option FV)
abbrev Tab:=List (Nat × Def)
def gt:Tm→Nat→FV
 |[],_=>.undef
 |(i,v)::r,t=>if i=t then v else gt r t
def ev (m:Tm):X→FV
 |.t n=>gt m n
 |.c v=>v
def put (m:Tm) (d:Option Nat) (v:FV):Tm :=
 match d with
 |some d=>(d,v)::m
 |none=>m
def keepOf (m:Tm):List Nat→Tm
 |[]=>[]
 |t::ts=>(t,gt m t)::keepOf m ts
def hget:Heap→Nat→Option Obj
 |[],_=>none
 |(i,o)::r,t=>if i=t then some o else hget r t
def hset:Heap→Nat→Obj→Heap
 |[],_,_=>[]
 |(i,v)::r,t,o=>if i=t then (i,o)::r else (i,v)::hset r t o
def chk {α:Type} (p:Prop) [Decidable p] (x:Option α):Option α:=if p then x else none
def bnd {α β:Type} (x:Option α) (f:α→Option β):Option β :=
 match x with
 |some a=>f a
 |none=>none
def evs (m:Tm):List X→List FV
 |[]=>[]
 |x::xs=>ev m x::evs m xs
def strBin (op:BinOp) (a b:List UInt8):Option FV :=
 match op with
 |.add=>chk (a.length + b.length ≤ 4611686018427387904) (some (.str (a ++ b)))
 |.eql=>some (.bool (a == b))
 |.neq=>some (.bool !(a == b))
 |.lss=>some (.bool (Op.bytesLess a b))
 |.leq=>some (.bool (Op.bytesLess a b || a == b))
 |.gtr=>some (.bool !(Op.bytesLess a b || a == b))
 |.geq=>some (.bool !(Op.bytesLess a b))
 |_=>none
def band (k:IntKind) (a b:Int):Int:=k.wrap (BitVec.ofInt k.bits a &&& BitVec.ofInt k.bits b).toNat
def bor (k:IntKind) (a b:Int):Int:=k.wrap (BitVec.ofInt k.bits a ||| BitVec.ofInt k.bits b).toNat
def bxor (k:IntKind) (a b:Int):Int:=k.wrap (BitVec.ofInt k.bits a ^^^ BitVec.ofInt k.bits b).toNat
def bandnot (k:IntKind) (a b:Int):Int:=k.wrap (BitVec.ofInt k.bits a &&& ~~~(BitVec.ofInt k.bits b)).toNat
def intBin (op:BinOp) (k:IntKind) (a b:Int):Option FV :=
 match op with
 |.add=>some (.int k (k.wrap (a + b)))
 |.sub=>some (.int k (k.wrap (a - b)))
 |.mul=>some (.int k (k.wrap (a * b)))
 |.quo=>chk (b ≠ 0) (some (.int k (k.wrap (a.tdiv b))))
 |.rem=>chk (b ≠ 0) (some (.int k (a.tmod b)))
 |.and=>some (.int k (band k a b))
 |.or=>some (.int k (bor k a b))
 |.xor=>some (.int k (bxor k a b))
 |.andNot=>some (.int k (bandnot k a b))
 |.eql=>some (.bool (a == b))
 |.neq=>some (.bool (a != b))
 |.lss=>some (.bool (decide (a < b)))
 |.leq=>some (.bool (decide (a ≤ b)))
 |.gtr=>some (.bool (decide (a > b)))
 |.geq=>some (.bool (decide (a ≥ b)))
 |_=>none
def shl (k:IntKind) (a b:Int):Int:=k.wrap (a * 2 ^ (min b.toNat k.bits))
def shr (k:IntKind) (a b:Int):Int:=a.fdiv (2 ^ (min b.toNat k.bits))
def binop (op:BinOp):FV→FV→Option FV
 |.int k a,.int j b =>
  match op with
  |.shl=>chk (0 ≤ b) (some (.int k (shl k a b)))
  |.shr=>chk (0 ≤ b) (some (.int k (shr k a b)))
  |op=>chk (k=j) (intBin op k a b)
 |.str a,.str b=>strBin op a b
 |_,_=>none
def unop (op:UnOp):FV→Option FV
 |.int k a =>
  match op with
  |.neg=>some (.int k (k.wrap (0 - a)))
  |.xor=>some (.int k (bxor k (if k.signed then -1 else k.max) a))
  |_=>none
 |.bool b =>
  match op with
  |.not=>some (.bool !b)
  |_=>none
 |_=>none
def cut {α:Type} (s:List α) (i j:Nat):List α:=(s.drop i).take (j - i)
def cellsAt (cs:List FV) (ag:Option Nat) (off:Nat):Option FV :=
 match ag with
 |none=>cs[off]?
 |some n=>chk (off + n ≤ cs.length) (some (.agg (cut cs off (off + n))))
def loadv (h:Heap) (ag:Option Nat):FV→Option FV
 |.ptr id stamp i off =>
  match hget h id with
  |some (.row _ xs)=>chk (xs.length=stamp) (bnd xs[i]? fun e=>cellsAt e.cells ag off)
  |some (.fro _ xs)=>chk (xs.length=stamp) (bnd xs[i]? fun e=>cellsAt e.cells ag off)
  |_=>none
 |.eptr cs off=>cellsAt cs ag off
 |_=>none
def reshape (e:FV) (cs:List FV):FV :=
 match e with
 |.agg _=>.agg cs
 |_=>cs.headD .undef
def splice (cs:List FV) (off:Nat) (vs:List FV):List FV:=cs.take off ++ vs ++ cs.drop (off + vs.length)
def storev (h:Heap) (sz:Nat) (v:FV):FV→Option Heap
 |.ptr id stamp i off =>
  match hget h id with
  |some (.row es xs)=>chk (xs.length=stamp∧v.ok=true∧v.cells.length=sz) (bnd xs[i]? fun e =>
    chk (off + sz ≤ e.cells.length) (some (hset h id (.row es (xs.set i (reshape e (splice e.cells off v.cells)))))))
  |_=>none
 |_=>none
def asInt:FV→Option Int
 |.int _ n=>some n
 |_=>none
def optInt (m:Tm) (d:Int):Option X→Option Int
 |none=>some d
 |some x=>asInt (ev m x)
def lstOk (es:Nat):List FV→Bool
 |[]=>true
 |x::_=>x.cells.length == es
def slice (m:Tm) (es:Nat) (x:FV) (lo hi:Option X):Option FV :=
 match x with
 |.str s=>bnd (optInt m s.length hi) fun h=>bnd (optInt m 0 lo) fun l =>
   chk (es=0∧0 ≤ l∧l ≤ h∧h ≤ s.length) (some (.str (cut s l.toNat h.toNat)))
 |.lst e xs=>bnd (optInt m xs.length hi) fun h=>bnd (optInt m 0 lo) fun l =>
   chk ((es ≠ 0∧0 ≤ l∧l ≤ h∧h ≤ xs.length)∧lstOk es xs=true) (some (.lst (e && decide (h=xs.length)) (cut xs l.toNat h.toNat)))
 |.sref es' id stamp off len=>bnd (optInt m len hi) fun h=>bnd (optInt m 0 lo) fun l =>
   chk (es'=es∧es ≠ 0∧0 ≤ l∧l ≤ h∧h ≤ len) (some (.sref es id stamp (off + l.toNat) (h.toNat - l.toNat)))
 |_=>none
def fillCells (m:Tm):List FV→List (Nat × Nat × X)→Option (List FV)
 |cs,[]=>some cs
 |cs,(off,sz,x)::ps=>chk ((ev m x).ok=true∧(ev m x).cells.length=sz∧off + sz ≤ cs.length) (fillCells m (splice cs off (ev m x).cells) ps)
def fillElems (m:Tm) (es:Nat):List FV→List (Nat × X)→Option (List FV)
 |xs,[]=>some xs
 |xs,(i,x)::ps=>chk ((ev m x).ok=true∧i < xs.length∧(ev m x).cells.length=es) (fillElems m es (xs.set i (ev m x)) ps)
def eqCell:Nat→FV→FV→Option Bool
 |0,.int k a,.int j b=>chk (k=j) (some (a == b))
 |1,.str a,.str b=>some (a == b)
 |2,.bool a,.bool b=>some (a == b)
 |_,_,_=>none
def eqCells:List Nat→List FV→List FV→Option Bool
 |[],[],[]=>some true
 |k::ks,a::r,b::q=>bnd (eqCell k a b) fun e=>bnd (eqCells ks r q) fun f=>some (e && f)
 |_,_,_=>none
def elems (h:Heap):FV→Option (List FV)
 |.lst _ xs=>some xs
 |.str s=>some (s.map fun b=>.int .u8 b.toNat)
 |.sref _ id stamp off len=>match hget h id with
  |some (.row _ xs)=>chk (xs.length=stamp∧off + len ≤ stamp) (some (cut xs off (off + len)))
  |some (.fro _ xs)=>chk (xs.length=stamp∧off + len ≤ stamp) (some (cut xs off (off + len)))
  |_=>none
 |_=>none
def most:Nat:=1099511627776
def bytesV:List FV→Option (List UInt8)
 |[]=>some []
 |.int .u8 n::r=>bnd (bytesV r) fun s=>some (UInt8.ofNat n.toNat::s)
 |_=>none
def sliceElems (h:Heap):FV→Option (List FV)
 |.str _=>none
 |v=>elems h v
def idxB (s:List UInt8) (b:UInt8):Int :=
 match (List.range s.length).find? fun i=>s.getD i 0 == b with
 |some i=>i
 |none=>-1
def opv (h:Heap) (m:Tm):O→Option FV
 |.mv x=>some (ev m x)
 |.pk c a b=>match ev m c with
  |.bool c'=>some (if c'=true then ev m a else ev m b)
  |_=>none
 |.bo op a b=>binop op (ev m a) (ev m b)
 |.be neg a b=>match ev m a,ev m b with
  |.bool x,.bool y=>some (.bool (if neg=true then !(x == y) else x == y))
  |_,_=>none
 |.eq neg ks a b=>match ev m a,ev m b with
  |.agg x,.agg y=>bnd (eqCells ks x y) fun e=>some (.bool (if neg=true then !e else e))
  |_,_=>none
 |.un op a=>unop op (ev m a)
 |.ix x i=>match ev m x,ev m i with
  |.str s,.int _ n=>chk (0 ≤ n∧n < s.length) (some (.int .u8 (s.getD n.toNat 0).toNat))
  |_,_=>none
 |.ln 0 x=>match ev m x with
  |.str s=>some (.int .i64 s.length)
  |_=>none
 |.ln 1 x=>match ev m x with
  |.lst _ xs=>some (.int .i64 xs.length)
  |.sref _ _ _ _ l=>some (.int .i64 l)
  |_=>none
 |.ln 2 x=>match ev m x with
  |.map id=>match hget h id with
   |some (.mp en)=>some (.int .i64 en.length)
   |_=>none
  |.nilm=>some (.int .i64 0)
  |_=>none
 |.mx a b=>match ev m a,ev m b with
  |.int k x,.int j y=>chk (k=j) (some (.int k (if x < y then y else x)))
  |_,_=>none
 |.mn a b=>match ev m a,ev m b with
  |.int k x,.int j y=>chk (k=j) (some (.int k (if y < x then y else x)))
  |_,_=>none
 |.cv k x=>match ev m x with
  |.int _ n=>some (.int k (k.wrap n))
  |_=>none
 |.ld ag x=>loadv h ag (ev m x)
 |.fa off x=>match ev m x with
  |.ptr id s i o=>some (.ptr id s i (o + off))
  |.eptr cs o=>some (.eptr cs (o + off))
  |_=>none
 |.fd ag off x=>match ev m x with
  |.agg cs=>cellsAt cs ag off
  |_=>none
 |.ia es x i=>match ev m x,ev m i with
  |.lst _ xs,.int _ n=>chk (0 ≤ n∧n < xs.length) (chk ((xs.getD n.toNat .undef).cells.length=es) (some (.eptr (xs.getD n.toNat .undef).cells 0)))
  |.sref es' id s off len,.int _ n=>chk (es'=es) (chk (0 ≤ n∧n < len) (some (.ptr id s (off + n.toNat) 0)))
  |_,_=>none
 |.aa len es x i=>match ev m x,ev m i with
  |.ptr id s j o,.int _ n=>chk (0 ≤ n∧n < len) (some (.ptr id s j (o + n.toNat * es)))
  |.eptr cs o,.int _ n=>chk (0 ≤ n∧n < len) (some (.eptr cs (o + n.toNat * es)))
  |_,_=>none
 |.nc x=>match ev m x with
  |.ptr id s i o=>some (.ptr id s i o)
  |.fn f cs=>some (.fn f cs)
  |.eptr cs o=>some (.eptr cs o)
  |_=>none
 |.ex x i=>match ev m x with
  |.tup vs=>vs[i]?
  |_=>none
 |.sl es x lo hi=>slice m es (ev m x) lo hi
 |.bd z ps=>bnd (fillCells m z ps) fun cs=>some (.agg cs)
 |.mf f caps=>some (.fn f (evs m caps))
 |.mi t x=>some (.ifc t (ev m x))
 |.sx a b=>match ev m a,ev m b with
  |.str s,.str t=>some (.int .i64 (Lib.compareBytes s t))
  |_,_=>none
 |.sn neg x=>match ev m x with
  |.lst _ (_::_)=>some (.bool neg)
  |.sref _ _ _ _ (_ + 1)=>some (.bool neg)
  |_=>none
 |.xa n es ag x i=>match ev m x,ev m i with
  |.agg cs,.int _ k=>chk (0 ≤ k∧k < n) (cellsAt cs ag (k.toNat * es))
  |_,_=>none
 |.ta t z x=>match ev m x with
  |.ifc u v=>some (if u=t then .tup [v,.bool true] else .tup [z,.bool false])
  |.nili=>some (.tup [z,.bool false])
  |_=>none
 |.cs x=>bnd (sliceElems h (ev m x)) fun xs=>bnd (bytesV xs) fun s=>some (.str s)
 |.ib a b=>match ev m a,ev m b with
  |.str s,.int .u8 n=>some (.int .i64 (idxB s n.toNat.toUInt8))
  |_,_=>none
 |.isn neg x=>match ev m x with
  |.ifc _ _=>some (.bool neg)
  |.nili=>some (.bool !neg)
  |_=>none
 |_=>none
def rune (s:List UInt8) (pos:Nat):Nat × Nat:=Utf8.decode ⟨s.toArray⟩ pos
def opn (m:Tm) (id:Nat):O→Option (Obj × FV)
 |.bx es x=>chk ((ev m x).ok=true∧(ev m x).cells.length=es) (some (.row es [ev m x],.ptr id 1 0 0))
 |.al es z=>some (.row es [z],.ptr id 1 0 0)
 |.bs es n z ps=>bnd (fillElems m es (List.replicate n z) ps) fun xs=>some (.row es xs,.sref es id n 0 n)
 |.ms es z len cap=>match ev m len,ev m cap with
  |.int _ n,.int _ c=>chk (0 ≤ n∧n ≤ c∧c ≤ 1073741824) (some (.row es (List.replicate n.toNat z),.sref es id n.toNat 0 n.toNat))
  |_,_=>none
 |.nl es=>some (.row es [],.sref es id 0 0 0)
 |.mm=>some (.mp [],.map id)
 |.rs x=>match ev m x with
  |.str s=>some (.sit s 0,.ptr id 1 0 0)
  |_=>none
 |_=>none
def append (h:Heap) (id es by_:Nat) (x y:FV):Option (FV × Heap) :=
 bnd (elems h y) fun ys=>chk (ys.all FV.ok=true∧(ys.all fun v=>v.cells.length == es)=true) <|
  match x with
  |.lst true xs=>chk ((xs.length + ys.length) * by_ ≤ most∧ys.length ≠ 0∧(xs.all fun v=>v.cells.length == es)=true) (some (.sref es id (xs.length + ys.length) 0 (xs.length + ys.length),(id,.row es (xs ++ ys))::h))
  |.sref es' i stamp off len =>
   match hget h i with
   |some (.row _ xs)=>chk (es'=es∧xs.length=stamp∧off + len ≤ stamp∧(off + len + ys.length) * by_ ≤ most) <|
     if ys.length=0 then some (.sref es i stamp off len,h)
     else if off + len + ys.length ≤ stamp then
      some (.sref es i stamp off (len + ys.length),hset h i (.row es (xs.take (off + len) ++ ys ++ xs.drop (off + len + ys.length))))
     else chk (off=0) (some (.sref es i (len + ys.length) 0 (len + ys.length),hset h i (.row es (xs.take len ++ ys))))
   |_=>none
  |_=>none
def keyEq:Nat→FV→FV→Option Bool
 |0,.int k a,.int j b=>chk (k=j) (some (a == b))
 |1,.str a,.str b=>some (a == b)
 |_,_,_=>none
def find (kt:Nat) (k:FV):List (FV × FV)→Option (Option FV)
 |[]=>some none
 |(j,v)::r=>bnd (keyEq kt k j) fun e=>if e=true then some (some v) else find kt k r
def update (kt:Nat) (k v:FV):List (FV × FV)→Option (List (FV × FV))
 |[]=>some [(k,v)]
 |(j,u)::r=>bnd (keyEq kt k j) fun e=>if e=true then some ((k,v)::r) else bnd (update kt k v r) fun r'=>some ((j,u)::r')
def remove (kt:Nat) (k:FV):List (FV × FV)→Option (List (FV × FV))
 |[]=>some []
 |(j,u)::r=>bnd (keyEq kt k j) fun e=>if e=true then some r else bnd (remove kt k r) fun r'=>some ((j,u)::r')
def lookup (h:Heap) (kt:Nat) (z:FV) (ok:Bool) (k:FV):FV→Option FV
 |.nilm=>some (if ok=true then .tup [z,.bool false] else z)
 |.map id=>match hget h id with
  |some (.mp en)=>bnd (find kt k en) fun r =>
    match r with
    |some v=>some (if ok=true then .tup [v,.bool true] else v)
    |none=>some (if ok=true then .tup [z,.bool false] else z)
  |_=>none
 |_=>none
def wanted (m:Tm):Option (Nat × Bool)→Option Bool
 |none=>some true
 |some (t,b)=>match gt m t with
  |.bool c=>some (c == b)
  |.tup []=>some false
  |_=>none
abbrev Call:=Nat→List FV→Heap→Nat→Option (FV × Heap × Nat)
def opg (cal:Call) (id:Nat) (g:G) (m:Tm) (h:Heap) (nx:Nat):Option (FV × Heap × Nat) :=
 match g.op with
 |.st sz x v=>bnd (storev h sz (ev m v) (ev m x)) fun h'=>some (.undef,h',nx)
 |.ap es by_ x y=>bnd (append h id es by_ (ev m x) (ev m y)) fun r=>some (r.1,r.2,nx)
 |.lk kt z ok x k=>bnd (lookup h kt z ok (ev m k) (ev m x)) fun v=>some (v,h,nx)
 |.mu kt x k v=>match ev m x with
  |.map i=>match hget h i with
   |some (.mp en)=>bnd (update kt (ev m k) (ev m v) en) fun en'=>some (.undef,hset h i (.mp en'),nx)
   |_=>none
  |_=>none
 |.dl kt x k=>match ev m x with
  |.map i=>match hget h i with
   |some (.mp en)=>bnd (remove kt (ev m k) en) fun en'=>some (.tup [],hset h i (.mp en'),nx)
   |_=>none
  |_=>none
 |.cl f as=>cal f (evs m as) h nx
 |.cw f as=>match ev m f with
  |.fn f' caps=>cal f' (evs m as ++ caps) h nx
  |.yl f' id' caps=>cal f' (.yl f' id' caps::evs m as) h nx
  |_=>none
 |.bx es x=>bnd (opn m id (.bx es x)) fun r=>some (r.2,(id,r.1)::h,nx)
 |.al es z=>bnd (opn m id (.al es z)) fun r=>some (r.2,(id,r.1)::h,nx)
 |.bs es n z ps=>bnd (opn m id (.bs es n z ps)) fun r=>some (r.2,(id,r.1)::h,nx)
 |.ms es z l c=>bnd (opn m id (.ms es z l c)) fun r=>some (r.2,(id,r.1)::h,nx)
 |.nl es=>bnd (opn m id (.nl es)) fun r=>some (r.2,(id,r.1)::h,nx)
 |.mm=>bnd (opn m id .mm) fun r=>some (r.2,(id,r.1)::h,nx)
 |.rs x=>bnd (opn m id (.rs x)) fun r=>some (r.2,(id,r.1)::h,nx)
 |.ns x=>match ev m x with
  |.ptr i 1 0 0=>match hget h i with
   |some (.sit s pos)=>if pos < s.length then some (.tup [.bool true,.int .i64 pos,.int .i32 (rune s pos).1],hset h i (.sit s (pos + (rune s pos).2)),nx) else some (.tup [.bool false],h,nx)
   |_=>none
  |_=>none
 |o=>bnd (opv h m o) fun v=>some (v,h,nx)
mutual
def eqv:FV→FV→Bool
 |.undef,.undef | .nilp,.nilp | .nilm,.nilm | .nilf,.nilf | .nili,.nili=>true
 |.bool a,.bool b=>a == b
 |.int k a,.int j b=>decide (k=j) && a == b
 |.str a,.str b=>a == b
 |.agg a,.agg b | .tup a,.tup b=>eqvs a b
 |.lst e a,.lst f b=>e == f && eqvs a b
 |.eptr a i,.eptr b j=>i == j && eqvs a b
 |.ptr a b c d,.ptr a' b' c' d'=>a == a' && b == b' && c == c' && d == d'
 |.sref a b c d e,.sref a' b' c' d' e'=>a == a' && b == b' && c == c' && d == d' && e == e'
 |.map a,.map b=>a == b
 |.fn f a,.fn g b=>f == g && eqvs a b
 |.pan a,.pan b=>eqv a b
 |.ifc t a,.ifc u b=>t == u && eqv a b
 |.yl f i a,.yl g j b=>f == g && i == j && eqvs a b
 |_,_=>false
def eqvs:List FV→List FV→Bool
 |[],[]=>true
 |a::r,b::q=>eqv a b && eqvs r q
 |_,_=>false
end
def still (h:Heap) (m:Tm) (o:O) (d:Nat):Bool :=
 match opv h m o with
 |some v=>eqv v (gt m d)
 |none=>false
def rechk {α:Type} (h:Heap) (m:Tm) (x:Option α):List (Option (Nat × Bool) × Option Nat × Nat × Nat)→Option α
 |[]=>x
 |(gd,ag,n,d)::r=>bnd (wanted m gd) fun b=>if b=true then chk (still h m (.ld ag (.t n)) d=true) (rechk h m x r) else rechk h m x r
def rops (cal:Call):Nat→List G→Tm→Heap→Nat→Option (Tm × Heap × Nat)
 |_,[],m,h,nx=>some (m,h,nx)
 |id,g::r,m,h,nx =>
  bnd (wanted m g.guard) fun b =>
   if b=true then bnd (opg cal id g m h nx) fun x=>rechk x.2.1 (put m g.dst x.1) (rops cal (id + 1) r (put m g.dst x.1) x.2.1 x.2.2) g.re
   else rops cal (id + 1) r (put m g.dst (.tup [])) h nx
def np (cal:Call):Call:=fun f a h nx=>bnd (cal f a h nx) fun r=>chk (isPan r.1=false) (some r)
def ropsP (cal:Call):Nat→List G→Tm→Heap→Nat→Option (Option FV × Tm × Heap × Nat)
 |_,[],m,h,nx=>some (none,m,h,nx)
 |id,g::r,m,h,nx =>
  bnd (wanted m g.guard) fun b =>
   if b=true then match g.op with
    |.pn x=>match ev m x with
     |.ifc t v=>some (some (.ifc t v),m,h,nx)
     |_=>none
    |.cl f as=>bnd (cal f (evs m as) h nx) fun y=>match y.1 with
     |.pan v=>some (some v,m,y.2.1,y.2.2)
     |v=>ropsP cal (id + 1) r (put m g.dst v) y.2.1 y.2.2
    |o=>bnd (opg (np cal) id ⟨g.dst,g.guard,o,[]⟩ m h nx) fun x=>ropsP cal (id + 1) r (put m g.dst x.1) x.2.1 x.2.2
   else ropsP cal (id + 1) r (put m g.dst (.tup [])) h nx
def ropsD (cal:Call) (id c:Nat) (ops:List G) (m:Tm) (h:Heap) (nx:Nat):Option (Option FV × Tm × Heap × Nat) :=
 bnd (rops (np cal) id (ops.take c) m h nx) fun x =>
  match (ops.getD c default).op with
  |.cl f as=>bnd (cal f (evs x.1 as) x.2.1 x.2.2) fun y=>match y.1 with
   |.pan u=>some (some u,m,y.2.1,y.2.2)
   |v=>bnd (rechk y.2.1 (put x.1 (ops.getD c default).dst v) (rops (np cal) (id + c + 1) (ops.drop (c + 1)) (put x.1 (ops.getD c default).dst v) y.2.1 y.2.2) (ops.getD c default).re) fun z=>some (none,z)
  |_=>none
def exitTo (id:Nat):List I→Option (List I)
 |.inB j::k=>if j=id then some k else exitTo id k
 |_::k=>exitTo id k
 |[]=>none
def findLb:C→Nat→Option C
 |.sq a b,l =>
  match findLb a l with
  |some r=>some (.sq r b)
  |none=>findLb b l
 |.lb l',l=>if l'=l then some .sk else none
 |_,_=>none
def goIn (l:Nat):List I→Option (List I)
 |.inS c::k =>
  match findLb c l with
  |some r=>some (.code r::.inS c::k)
  |none=>goIn l k
 |_::k=>goIn l k
 |[]=>none
mutual
def pure_:FV→Bool
 |.undef | .bool _ | .int _ _ | .str _ | .nilp | .nilm | .nilf | .nili=>true
 |.agg cs | .tup cs | .lst _ cs | .eptr cs _=>pures cs
 |.fn _ cs=>pures cs
 |.ifc _ v=>pure_ v
 |.ptr .. | .sref .. | .map _ | .yl .. | .pan _=>false
def pures:List FV→Bool
 |[]=>true
 |v::r=>pure_ v && pures r
end
mutual
def low (b:Nat):FV→Bool
 |.undef | .bool _ | .int _ _ | .str _ | .nilp | .nilm | .nilf | .nili=>true
 |.agg cs | .tup cs | .lst _ cs | .eptr cs _=>lows b cs
 |.fn _ cs=>lows b cs
 |.ifc _ v=>low b v
 |.ptr id _ _ _=>decide (id < b)
 |.sref _ id _ _ _=>decide (id < b)
 |.map id=>decide (id < b)
 |.pan _=>false
 |.yl _ id cs=>decide (id < b) && lows b cs
def lows (b:Nat):List FV→Bool
 |[]=>true
 |v::r=>low b v && lows b r
end
def lowObj (b:Nat):Obj→Bool
 |.row _ xs=>lows b xs
 |.fro _ xs=>lows b xs
 |.mp en=>en.all fun e=>low b e.1 && low b e.2
 |.fmp en=>en.all fun e=>low b e.1 && low b e.2
 |.lp .. => true
 |.sit .. => true
 |.mit=>true
def lowHeap (b:Nat):Heap→Bool
 |[]=>true
 |(_,o)::r=>lowObj b o && lowHeap b r
def lowTm (b:Nat):Tm→Bool
 |[]=>true
 |(_,v)::r=>low b v && lowTm b r
def cutH (b:Nat):Heap→Heap
 |[]=>[]
 |(i,o)::r=>if i < b then (i,o)::cutH b r else cutH b r
mutual
def flat:FV→Bool
 |.undef | .bool _ | .int _ _ | .str _ | .nilp | .nilm | .nilf | .nili=>true
 |.agg cs | .tup cs=>flats cs
 |.lst _ _ | .eptr _ _ | .fn _ _ | .ifc _ _ | .ptr .. | .sref .. | .map _ | .yl .. | .pan _=>false
def flats:List FV→Bool
 |[]=>true
 |v::r=>flat v && flats r
end
def elemAt (h:Heap) (id s i:Nat):Option FV :=
 match hget h id with
 |some (.row _ xs)=>chk (xs.length=s) xs[i]?
 |some (.fro _ xs)=>chk (xs.length=s) xs[i]?
 |_=>none
mutual
def frz (h:Heap):Nat→FV→Option FV
 |0,v=>if pure_ v=true then some v else none
 |n + 1,v=>if pure_ v=true then some v else match v with
  |.agg cs=>bnd (frzs h n cs) fun r=>some (.agg r)
  |.tup cs=>bnd (frzs h n cs) fun r=>some (.tup r)
  |.fn f cs=>bnd (frzs h n cs) fun r=>some (.fn f r)
  |.ifc t v=>bnd (frz h n v) fun r=>some (.ifc t r)
  |.pan v=>bnd (frz h n v) fun r=>some (.pan r)
  |.sref es id s off len=>chk (es ≠ 0) (bnd (elems h (.sref es id s off len)) fun xs=>bnd (frzs h n xs) fun r=>some (.lst false r))
  |.ptr id s i off=>bnd (elemAt h id s i) fun e=>bnd (frzs h n e.cells) fun r=>chk (r.length ≠ 0) (some (.eptr r off))
  |_=>none
def frzs (h:Heap):Nat→List FV→Option (List FV)
 |_,[]=>some []
 |0,_::_=>none
 |n + 1,v::r=>bnd (frz h n v) fun v'=>bnd (frzs h n r) fun r'=>some (v'::r')
end
mutual
def idV (h:Heap):Nat→FV→List Nat
 |0,_=>[]
 |n + 1,v=>if pure_ v=true then [] else match v with
  |.agg cs=>idL h n cs
  |.tup cs=>idL h n cs
  |.fn _ cs=>idL h n cs
  |.ifc _ v=>idV h n v
  |.pan v=>idV h n v
  |.sref es id s off len=>id::match elems h (.sref es id s off len) with
   |some xs=>idL h n xs
   |none=>[]
  |.ptr id s i _=>id::match elemAt h id s i with
   |some e=>idL h n e.cells
   |none=>[]
  |_=>[]
def idL (h:Heap):Nat→List FV→List Nat
 |_,[]=>[]
 |0,_::_=>[]
 |n + 1,v::r=>idV h n v ++ idL h n r
end
def froze (h:Heap):List Nat→Heap
 |[]=>h
 |i::r=>match hget h i with
  |some (.row es xs)=>froze (hset h i (.fro es xs)) r
  |_=>froze h r
def readRes (m:Tm) (h:Heap):List RV→Option (List FV)
 |[]=>some []
 |.t n::r=>bnd (readRes m h r) fun vs=>some (gt m n::vs)
 |.cell n ag::r=>bnd (loadv h ag (gt m n)) fun v=>bnd (readRes m h r) fun vs=>some (v::vs)
def result:List FV→FV
 |[v]=>v
 |vs=>.tup vs
def params:Nat→List FV→Tm
 |_,[]=>[]
 |i,v::r=>(i,v)::params (i + 1) r
inductive Ex where
 |fin | ret | xt (id:Nat) | pan (v:FV)
def run (cal:Call):Nat→List I→Tm→Heap→Nat→Option (Ex × Tm × Heap × Nat)
 |0,_,_,_,_=>none
 |n + 1,todo,m,h,nx =>
  match todo with
  |.code .sk::k=>run cal n k m h nx
  |.inB _::k=>run cal n k m h nx
  |.inS _::k=>run cal n k m h nx
  |.code (.lb _)::k=>run cal n k m h nx
  |.code .bad::_=>none
  |.code (.sc c)::k=>run cal n (.code c::.inS c::k) m h nx
  |.code (.go l)::k=>match goIn l k with
   |some k'=>run cal n k' m h nx
   |none=>none
  |.beg id::k=>match hget h id with
   |some (.lp 0 jp)=>run cal n k m (hset h id (.lp 1 jp)) nx
   |_=>none
  |.code (.rf f x ct)::k=>match ev m x with
   |.fn q caps=>bnd (np cal q (.yl f nx (evs m (ct.map .t))::caps) ((nx,.lp 0 0)::h) (nx + 1)) fun r =>
     match hget r.2.1 nx with
     |some (.lp st jp)=>chk (st ≠ 1) (match jp with
      |0=>run cal n k m (hset r.2.1 nx (.lp 3 jp)) r.2.2
      |1=>run cal n (.code .rt::k) m (hset r.2.1 nx (.lp 3 jp)) r.2.2
      |e + 2=>run cal n (.code (.xt e)::k) m (hset r.2.1 nx (.lp 3 jp)) r.2.2)
     |_=>none
   |_=>none
  |.code (.rg _ ops keep)::k=>bnd (rops (np cal) nx ops m h (nx + ops.length)) fun x=>run cal n k (keepOf x.1 keep) x.2.1 x.2.2
  |.code (.rp _ c kp ops keep)::k=>bnd (ropsD cal nx c ops m h (nx + ops.length)) fun x=>match x.1 with
   |none=>run cal n k (keepOf x.2.1 keep) x.2.2.1 x.2.2.2
   |some v=>some (.pan v,keepOf x.2.1 kp,x.2.2.1,x.2.2.2)
  |.code (.rq ops keep)::k=>bnd (ropsP cal nx ops m h (nx + ops.length)) fun x=>match x.1 with
   |none=>run cal n k (keepOf x.2.1 keep) x.2.2.1 x.2.2.2
   |some v=>some (.pan v,x.2.1,x.2.2.1,x.2.2.2)
  |.code (.sq a b)::k=>run cal n (.code a::.code b::k) m h nx
  |.code (.cd c a b)::k=>match ev m c with
   |.bool b'=>if b'=true then run cal n (.code a::k) m h nx else run cal n (.code b::k) m h nx
   |_=>none
  |.code (.bl id c)::k=>run cal n (.code c::.inB id::k) m h nx
  |.code (.lp tr c)::k=>run cal n (.code c::.inL (if tr=true then some nx else none) c::k) m h nx
  |.inL none c::k=>run cal n (.code c::.inL none c::k) m h nx
  |.inL (some b) c::k=>chk (b ≤ nx∧lowTm b m=true∧lowHeap b (cutH b h)=true) (run cal n (.code c::.inL (some b) c::k) m (cutH b h) b)
  |.code (.xt id)::k=>match exitTo id k with
   |some k'=>run cal n k' m h nx
   |none=>some (.xt id,m,h,nx)
  |.code .rt::_=>some (.ret,m,h,nx)
  |[]=>some (.fin,m,h,nx)
def deep:Nat:=1152921504606846976
def tget:Tab→Nat→Option Def
 |[],_=>none
 |(i,d)::r,f=>if i=f then some d else tget r f
def finish (f:Fn):Ex × Tm × Heap × Nat→Option FV
 |(.xt _,_)=>none
 |(.pan v,_)=>some (.pan v)
 |(_,m,h,_)=>bnd (readRes m h f.res) fun vs=>some (result vs)
def enter (cal:Call) (n:Nat) (f:Fn) (args:List FV) (h:Heap) (nx:Nat):Option (FV × Heap × Nat) :=
 chk (args.length=f.np) <| match f.mode with
 |.iso=>chk (pures args=true) <| bnd (run cal n [.code f.body] (params 0 args) [] 0) fun x =>
   bnd (finish f x) fun v=>bnd (frz x.2.2.1 deep v) fun r=>some (r,h,nx)
 |.isf=>bnd (frzs h deep args) fun as=>bnd (run cal n [.code f.body] (params 0 as) [] 0) fun x =>
   bnd (finish f x) fun v=>chk (flat v=true) (some (v,h,nx))
 |.isc=>bnd (frzs h deep args) fun as=>bnd (run cal n [.code f.body] (params 0 as) [] 0) fun x =>
   bnd (finish f x) fun v=>bnd (frz x.2.2.1 deep v) fun r=>some (r,froze h (idL h deep args),nx)
 |.shr=>bnd (run cal n [.code f.body] (params 0 args) h nx) fun x =>
   bnd (finish f x) fun v=>some (v,x.2.2.1,x.2.2.2)
def zipTm:List Nat→List FV→Tm
 |t::ts,v::vs=>(t,v)::zipTm ts vs
 |_,_=>[]
def leave (id:Nat):Ex × Tm × Heap × Nat→Option (FV × Heap × Nat)
 |(e,_,h,nx)=>match hget h id with
  |some (.lp _ _)=>match e with
   |.fin=>some (.bool true,hset h id (.lp 0 0),nx)
   |.ret=>some (.bool false,hset h id (.lp 2 1),nx)
   |.xt e=>some (.bool false,hset h id (.lp 2 (e + 2)),nx)
   |.pan _=>none
  |_=>none
def isLp (h:Heap) (id:Nat):Bool :=
 match hget h id with
 |some (.lp _ _)=>true
 |_=>false
def round (cal:Call) (n:Nat) (d:Rd) (args:List FV) (h:Heap) (nx:Nat):Option (FV × Heap × Nat) :=
 match args with
 |.yl _ id caps::xs=>chk (xs.length=d.ps.length∧caps.length=d.ct.length∧isLp h id=true)
   (bnd (run cal n [.code d.asg,.beg id,.code d.body] (zipTm d.ps xs ++ zipTm d.ct caps) h nx) (leave id))
 |_=>none
def caught:Ex→Option FV
 |.fin | .ret=>some .nili
 |.pan v=>some v
 |.xt _=>none
def isEnd:Ex→Bool
 |.fin | .ret=>true
 |_=>false
def runC (cal:Call) (n:Nat) (c:Ct) (m:Tm):Option (Tm × Heap × Nat) :=
 bnd (rops (np cal) 0 c.pre m [] c.pre.length) fun x =>
  bnd (run cal n [.code c.rest] (put (keepOf x.1 c.keep) (some c.dst) (.fn c.g (evs x.1 (c.ct.map .t)))) x.2.1 x.2.2) fun y =>
   bnd (caught y.1) fun v =>
    bnd (run cal n [.code c.hb] ((c.ht,v)::params 0 (evs x.1 (c.ct.map .t))) y.2.2.1 y.2.2.2) fun z =>
     chk (isEnd z.1=true) (some (y.2.1,z.2.2.1,z.2.2.2))
def enterC (cal:Call) (n:Nat) (c:Ct) (args:List FV) (h:Heap) (nx:Nat):Option (FV × Heap × Nat) :=
 chk (args.length=c.np∧pures args=true) <| bnd (runC cal n c (params 0 args)) fun x =>
  bnd (readRes x.1 x.2.1 c.res) fun vs=>bnd (frz x.2.1 deep (result vs)) fun r=>some (r,h,nx)
abbrev Rn:=List I→Tm→Heap→Nat→Option (Ex × Tm × Heap × Nat)
abbrev Ro:=Nat→List G→Tm→Heap→Nat→Option (Tm × Heap × Nat)
def runPre (rn:Rn):List C→Tm→Heap→Nat→Option (Ex × Tm × Heap × Nat)
 |[],m,h,nx=>some (.fin,m,h,nx)
 |p::ps,m,h,nx=>bnd (rn [.code p] m h nx) fun x=>match x.1 with
  |.fin=>runPre rn ps x.2.1 x.2.2.1 x.2.2.2
  |e=>some (e,x.2)
def resM (rs:List RV):Ex × Tm × Heap × Nat→Option FV
 |(.fin,m,h,_)=>bnd (readRes m h rs) fun vs=>frz h deep (result vs)
 |(.ret,m,h,_)=>bnd (readRes m h rs) fun vs=>frz h deep (result vs)
 |_=>none
def same:List (Option FV)→Option FV
 |[]=>none
 |[x]=>x
 |x::y::r=>bnd x fun a=>bnd (same (y::r)) fun b=>if eqv a b=true then some a else none
def picks {α:Type}:List α→List (α × List α)
 |[]=>[]
 |a::r=>(a,r)::(picks r).map fun p=>(p.1,a::p.2)
def runIt (ro:Ro) (rn:Rn) (d:Mr) (e:FV × FV) (m:Tm) (h:Heap) (nx:Nat):Option (Tm × Heap × Nat) :=
 bnd (ro (nx + 1) d.ops (put m (some d.d) (.tup [e.1,e.2])) h (nx + (d.ops.length + 1))) fun x =>
  bnd (rn [.code d.body] (keepOf x.1 d.keep) x.2.1 x.2.2) fun y=>match y.1 with
   |.fin=>some y.2
   |_=>none
def runAll (ro:Ro) (rn:Rn) (d:Mr) (iid:Nat):Nat→List (FV × FV)→Tm→Heap→Nat→Option FV
 |_,[],m,h,nx=>chk (eqv (gt (keepOf m d.keep0) d.it) (.ptr iid 1 0 0)=true) (bnd (rn [.code d.post] (keepOf m d.keep0) h nx) (resM d.res))
 |0,_::_,_,_,_=>none
 |c + 1,e::es,m,h,nx=>chk (eqv (gt (keepOf m d.keep0) d.it) (.ptr iid 1 0 0)=true)
   (same ((picks (e::es)).map fun p=>bnd (runIt ro rn d p.1 (keepOf m d.keep0) h nx) fun y=>runAll ro rn d iid c p.2 y.1 y.2.1 y.2.2))
def mrV (ro:Ro) (rn:Rn) (d:Mr) (args:List FV):Option FV :=
 chk (args.length=d.np∧pures args=true) <| bnd (runPre rn d.pre (params 0 args) [] 0) fun x=>match x.1 with
  |.ret=>resM d.res x
  |.fin=>match gt x.2.1 d.mp with
   |.map id=>match hget x.2.2.1 id with
    |some (.mp en)=>runAll ro rn d x.2.2.2 en.length en (put x.2.1 (some d.it) (.ptr x.2.2.2 1 0 0)) ((x.2.2.2,.mit)::hset x.2.2.1 id (.fmp en)) (x.2.2.2 + 1)
    |_=>none
   |_=>none
  |_=>none
def enterM (ro:Ro) (rn:Rn) (d:Mr) (args:List FV) (h:Heap) (nx:Nat):Option (FV × Heap × Nat) :=
 bnd (mrV ro rn d args) fun r=>some (r,h,nx)
def RB:Nat:=1000000
def call (T:Tab):Nat→Call
 |0,_,_,_,_=>none
 |n + 1,f,args,h,nx =>
  match tget T f with
  |some (.fn d)=>chk (f < RB) (enter (call T n) n d args h nx)
  |some (.ct c)=>chk (f < RB) (enterC (call T n) n c args h nx)
  |some (.mr d)=>chk (f < RB) (enterM (rops (np (call T n))) (run (call T n) n) d args h nx)
  |some (.rd d)=>chk (RB ≤ f) (round (call T n) n d args h nx)
  |some (.ext g)=>chk (f < RB) (bnd (frzs h deep args) fun as=>bnd (g as) fun v=>chk (flat v=true) (some (v,h,nx)))
  |none=>none
theorem chk_some {α:Type} {p:Prop} [Decidable p] {x:Option α} {y:α} (h:chk p x=some y):p∧x=some y:=by
 unfold chk at h;split at h
 ·exact ⟨by assumption,h⟩
 ·simp at h
theorem bnd_some {α β:Type} {x:Option α} {f:α→Option β} {y:β} (h:bnd x f=some y):∃ a,x=some a∧f a=some y:=by
 unfold bnd at h;split at h
 ·exact ⟨_,rfl,h⟩
 ·simp at h
theorem rechk_some {α:Type} {h:Heap} {m:Tm} {x:Option α} {y:α}:∀ {l:List (Option (Nat × Bool) × Option Nat × Nat × Nat)},rechk h m x l=some y→x=some y∧∀ gd ag n d,(gd,ag,n,d) ∈ l→wanted m gd=some true→still h m (.ld ag (.t n)) d=true:=by
 intro l
 induction l with
 |nil=>intro hh;exact ⟨hh,fun _ _ _ _ hm=>by simp at hm⟩
 |cons p l ih =>
  intro hh
  obtain ⟨gd,ag,n,d⟩:=p
  simp only [rechk] at hh
  cases hw:wanted m gd with
  |none=>rw [hw] at hh;simp [bnd] at hh
  |some b =>
   rw [hw] at hh
   simp only [bnd] at hh
   cases b with
   |true =>
    simp only [if_true] at hh
    unfold chk at hh
    split at hh
    ·rename_i hs
     obtain ⟨h1,h2⟩:=ih hh
     refine ⟨h1,fun gd' ag' n' d' hm hw'=>?_⟩
     rcases List.mem_cons.1 hm with e | e
     ·cases e;exact hs
     ·exact h2 gd' ag' n' d' e hw'
    ·simp at hh
   |false =>
    simp only [Bool.false_eq_true,if_false] at hh
    obtain ⟨h1,h2⟩:=ih hh
    refine ⟨h1,fun gd' ag' n' d' hm hw'=>?_⟩
    rcases List.mem_cons.1 hm with e | e
    ·cases e;rw [hw] at hw';simp at hw'
    ·exact h2 gd' ag' n' d' e hw'
mutual
theorem eqv_eq:∀ {a b:FV},eqv a b=true→a=b
 |.undef,b,h=>by cases b<;>simp_all [eqv]
 |.nilp,b,h=>by cases b<;>simp_all [eqv]
 |.nilm,b,h=>by cases b<;>simp_all [eqv]
 |.nilf,b,h=>by cases b<;>simp_all [eqv]
 |.nili,b,h=>by cases b<;>simp_all [eqv]
 |.bool _,b,h=>by cases b<;>simp_all [eqv]
 |.int _ _,b,h=>by cases b<;>simp_all [eqv]
 |.str _,b,h=>by cases b<;>simp_all [eqv]
 |.agg a,b,h=>by cases b<;>simp only [eqv,Bool.false_eq_true] at h;rw [eqvs_eq h]
 |.tup a,b,h=>by cases b<;>simp only [eqv,Bool.false_eq_true] at h;rw [eqvs_eq h]
 |.lst _ a,b,h=>by cases b<;>simp only [eqv,Bool.false_eq_true,Bool.and_eq_true,beq_iff_eq] at h;rw [h.1,eqvs_eq h.2]
 |.yl f i a,b,h=>by cases b<;>simp only [eqv,Bool.false_eq_true,Bool.and_eq_true,beq_iff_eq] at h;rw [h.1.1,h.1.2,eqvs_eq h.2]
 |.eptr a _,b,h=>by cases b<;>simp only [eqv,Bool.false_eq_true,Bool.and_eq_true,beq_iff_eq] at h;rw [h.1,eqvs_eq h.2]
 |.ptr ..,b,h=>by cases b<;>simp_all [eqv]
 |.sref ..,b,h=>by cases b<;>simp_all [eqv]
 |.map _,b,h=>by cases b<;>simp_all [eqv]
 |.fn _ a,b,h=>by cases b<;>simp only [eqv,Bool.false_eq_true,Bool.and_eq_true,beq_iff_eq] at h;rw [h.1,eqvs_eq h.2]
 |.ifc _ a,b,h=>by cases b<;>simp only [eqv,Bool.false_eq_true,Bool.and_eq_true,beq_iff_eq] at h;rw [h.1,eqv_eq h.2]
 |.pan a,b,h=>by cases b<;>simp only [eqv,Bool.false_eq_true] at h;rw [eqv_eq h]
theorem eqvs_eq:∀ {a b:List FV},eqvs a b=true→a=b
 |[],b,h=>by cases b<;>simp_all [eqvs]
 |a::r,b,h=>by cases b<;>simp only [eqvs,Bool.false_eq_true,Bool.and_eq_true] at h;rw [eqv_eq h.1,eqvs_eq h.2]
end
def Mv (d n:Nat):G:=⟨some d,none,.mv (.t n),[]⟩
def Gm (d c:Nat) (b:Bool) (n:Nat):G:=⟨some d,some (c,b),.mv (.t n),[]⟩
def Qo (d:Nat) (o:O):G:=⟨some d,none,o,[]⟩
def Gd (d c:Nat) (b:Bool) (o:O):G:=⟨some d,some (c,b),o,[]⟩
def Eo (o:O):G:=⟨none,none,o,[]⟩
theorem Mv_eq {d n:Nat}:Mv d n=⟨some d,none,.mv (.t n),[]⟩:=rfl
theorem Gm_eq {d c n:Nat} {b:Bool}:Gm d c b n=⟨some d,some (c,b),.mv (.t n),[]⟩:=rfl
theorem Qo_eq {d:Nat} {o:O}:Qo d o=⟨some d,none,o,[]⟩:=rfl
theorem Gd_eq {d c:Nat} {b:Bool} {o:O}:Gd d c b o=⟨some d,some (c,b),o,[]⟩:=rfl
theorem Eo_eq {o:O}:Eo o=⟨none,none,o,[]⟩:=rfl
theorem G_eqs:type_of% (And.intro @Mv_eq <| And.intro @Gm_eq <| And.intro @Qo_eq <| And.intro @Gd_eq @Eo_eq):=And.intro @Mv_eq <| And.intro @Gm_eq <| And.intro @Qo_eq <| And.intro @Gd_eq @Eo_eq
end Go.FI

/- A checked evaluator: part 1 of what proves that a function of the program computes what is printed of it. It is sound at every world of the model. -/
import Derived.Calls
import Derived.Below
import Derived.Laws.IdiomCopy
import Derived.ArgAppend
import Derived.Laws.Strings
import Derived.Laws.StructEq
import Derived.ChangeKeysEq
import Derived.Laws.Tables
import Derived.Laws.MakeOwn
/- VX, part 1: typed data, abstract states, an evaluator of the model's Code over them. Definitions alone. -/
set_option linter.unusedVariables false
namespace Go.VX
inductive Ty where
  | int (k:IntKind) | bool | str | ptr | unit
  | sl (e:Ty) | ms (e:Ty) | pr (a b:Ty) | tu (a b:Ty) | fn (a b:Ty)
  | rref (e:Ty) | eref | mh | nx
  deriving DecidableEq
@[reducible] def Ty.D:Ty->Type
  | .int _=>Int
  | .bool=>Bool
  | .str=>List Int
  | .ptr=>Unit
  | .unit=>Unit
  | .sl e=>List e.D
  | .ms e=>List e.D
  | .pr a b=>a.D×b.D
  | .tu a b=>a.D×b.D
  | .fn a b=>a.D->Option b.D
  | .rref e=>e.D
  | .eref=>Int
  | .mh=>Unit
  | .nx=>Bool×Int×Int
inductive Sh where
  | o | nilp | nils
  | tok (k:Nat)
  | mref (id:Nat)
  | box (id:Nat) (path:List Nat) (off:Nat)
  | elem (id:Nat) (path:List Nat) (off stride:Nat) (post:List Nat) (poff:Nat)
  | pr (a b:Sh)
  deriving DecidableEq
structure Vl where
  ty:Ty
  val:ty.D
  sh:Sh
def Ty.zero:(t:Ty)->t.D
  | .int _=>(0:Int)
  | .bool=>false
  | .str=>[]
  | .ptr=>()
  | .unit=>()
  | .sl _=>[]
  | .ms _=>[]
  | .pr a b=>(a.zero,b.zero)
  | .tu a b=>(a.zero,b.zero)
  | .fn _ _=>fun _=>none
  | .rref e=>e.zero
  | .eref=>(0:Int)
  | .mh=>()
  | .nx=>(false,0,0)
def Ty.zsh:Ty->Sh
  | .ptr=>.nilp
  | .mh=>.nilp
  | .sl _=>.nils
  | .pr a b=>.pr a.zsh b.zsh
  | _=>.o
def Ty.size:Ty->Nat
  | .unit=>0
  | .pr a b=>a.size+b.size
  | _=>1
def Ty.agg:Ty->Bool
  | .unit=>true
  | .pr _ _=>true
  | _=>false
def Ty.mem:Ty->Bool
  | .int _ | .bool | .str | .ptr | .unit | .mh | .fn _ _=>true
  | .sl e=>e.mem
  | .pr a b=>a.mem&&b.mem
  | _=>false
def Ty.std(t:Ty):Bool:=match t with
  | .tu _ _ | .ms _ | .rref _ | .eref | .nx=>false
  | _=>true
def Sh.fst:Sh->Sh
  | .pr a _=>a
  | _=>.o
def Sh.snd:Sh->Sh
  | .pr _ b=>b
  | _=>.o
def Sh.plain:Sh->Bool
  | .mref _=>false
  | .pr a b=>a.plain&&b.plain
  | _=>true
def getF:(t:Ty)->t.D->Sh->Nat->Option Vl
  | .pr a _,x,s,0=>some ⟨a,x.1,s.fst⟩
  | .pr _ b,x,s,f+1=>getF b x.2 s.snd f
  | _,_,_,_=>none
def getP:Vl->List Nat->Option Vl
  | v,[]=>some v
  | v,f::p=>match getF v.ty v.val v.sh f with
    | some u=>getP u p
    | none=>none
def offF:Ty->Nat->Option Nat
  | .pr _ _,0=>some 0
  | .pr a b,f+1=>match offF b f with
    | some n=>some (a.size+n)
    | none=>none
  | _,_=>none
def tyF:Ty->Nat->Option Ty
  | .pr a _,0=>some a
  | .pr _ b,f+1=>tyF b f
  | _,_=>none
def offP:Ty->List Nat->Option Nat
  | _,[]=>some 0
  | t,f::p=>match offF t f,tyF t f with
    | some n,some u=>match offP u p with
      | some m=>some (n+m)
      | none=>none
    | _,_=>none
def setF:(t:Ty)->t.D->Sh->Nat->Vl->Option Vl
  | .pr _ b,x,s,0,u=>some ⟨.pr u.ty b,(u.val,x.2),.pr u.sh s.snd⟩
  | .pr a b,x,s,f+1,u=>match setF b x.2 s.snd f u with
    | some w=>some ⟨.pr a w.ty,(x.1,w.val),.pr s.fst w.sh⟩
    | none=>none
  | _,_,_,_,_=>none
def setP:Vl->List Nat->Vl->Option Vl
  | v,[],u=>match decide (v.ty.size=u.ty.size),decide (v.ty.agg=u.ty.agg) with
    | true,true=>some u
    | _,_=>none
  | v,f::p,u=>match getF v.ty v.val v.sh f with
    | some w=>match setP w p u with
      | some w'=>setF v.ty v.val v.sh f w'
      | none=>none
    | none=>none
def castTo(t:Ty) (v:Vl):Option t.D :=
  if h:v.ty=t then some (h ▸ v.val) else none
def castV(t:Ty) (v:Vl):Option t.D :=
  match v.sh.plain with
  | true=>castTo t v
  | false=>none
def arrL(e:Ty):(t:Ty)->t.D->Option (List e.D)
  | .unit,_=>some []
  | .pr a b,x=>match castTo e ⟨a,x.1,.o⟩,arrL e b x.2 with
    | some y,some r=>some (y::r)
    | _,_=>none
  | _,_=>none
def arrPut(e:Ty):(t:Ty)->t.D->Nat->e.D->t.D
  | .pr a b,x,i,y=>if i=0 then(if h:e=a then(h ▸ y,x.2) else x) else(x.1,arrPut e b x.2 (i-1) y)
  | _,x,_,_=>x
def arrLen:Ty->Nat
  | .pr _ b=>arrLen b+1
  | _=>0
def bnd{α β:Type} (x:Option α) (f:α->Option β):Option β :=
  match x with
  | some a=>f a
  | none=>none
def cnd{α:Type} (b:Bool) (x y:α):α :=
  match b with
  | true=>x
  | false=>y
noncomputable def amb{α:Type} (b:Bool) (k:Bool->Option α):Option α :=
  match b with
  | true=>match Classical.propDecidable (k true=k false) with
    | isTrue _=>k false
    | isFalse _=>none
  | false=>k false
def inlE{α β:Type} (x:α):Option (α ⊕ β):=some (.inl x)
def inrE{α β:Type} (y:Option β):Option (α ⊕ β) :=
  match y with
  | some r=>some (.inr r)
  | none=>none
def bndS{α β:Type} (x:Option (α ⊕ β)) (f:α->Option β):Option β :=
  match x with
  | some (.inl a)=>f a
  | some (.inr r)=>some r
  | none=>none
def loopN{σ ρ:Type} (f:σ->Option (σ ⊕ ρ)):Nat->σ->Option ρ
  | 0,_=>none
  | n+1,s=>match f s with
    | some (.inl s')=>loopN f n s'
    | some (.inr r)=>some r
    | none=>none
noncomputable def loopP{σ ρ:Type} (f:σ->Option (σ ⊕ ρ)) (s:σ):Option ρ :=
  match Classical.propDecidable (∃ n,(loopN f n s).isSome=true) with
  | isTrue h=>loopN f (Classical.choose h) s
  | isFalse _=>none
def ati{α:Type} (l:List α) (i:Int):Option α:=if 0<=i then l[i.toNat]? else none
def sub{α:Type} (l:List α) (lo hi:Int):Option (List α) :=
  if 0<=lo/\lo<=hi/\hi<=(l.length:Int) then some ((l.take hi.toNat).drop lo.toNat) else none
def app{α:Type} (lim:Nat) (xs ys:List α):Option (List α) :=
  if xs.length+ys.length<=lim then some (xs++ys) else none
def vw(n:Nat) (lo hi:Int):Option (Bool×Int×Int):=if 0<=lo/\lo<=hi/\hi<=(n:Int) then some (true,lo,hi) else none
def clr{α:Type} (l:List α) (lo hi:Int) (z:α):Option (List α):=if 0<=lo/\lo<=hi/\hi<=(l.length:Int) then some (l.take lo.toNat++List.replicate (hi.toNat-lo.toNat) z++l.drop hi.toNat) else none
def inR(n:Nat) (i:Int):Option Int:=if 0<=i/\i<(n:Int) then some i else none
def mkN{α:Type} (lim:Nat) (n:Int) (z:α):Option (List α) :=
  if 0<=n/\n<=(lim:Int) then some (List.replicate n.toNat z) else none
def wr(k:IntKind) (n:Int):Int:=k.wrap n
def quoI(k:IntKind) (x y:Int):Option Int:=if y=0 then none else some (k.wrap (x.tdiv y))
def remI(x y:Int):Option Int:=if y=0 then none else some (x.tmod y)
def shlI(k:IntKind) (x y:Int):Option Int:=if y<0 then none else some (k.wrap (x*2 ^ (min y.toNat k.bits)))
def shrI(k:IntKind) (x y:Int):Option Int:=if y<0 then none else some (x.fdiv (2 ^ (min y.toNat k.bits)))
def bitI(op:BinOp) (k:IntKind) (x y:Int):Int :=
  match op with
  | .and=>k.wrap (BitVec.ofInt k.bits x &&& BitVec.ofInt k.bits y).toNat
  | .or=>k.wrap (BitVec.ofInt k.bits x ||| BitVec.ofInt k.bits y).toNat
  | .xor=>k.wrap (BitVec.ofInt k.bits x ^^^ BitVec.ofInt k.bits y).toNat
  | _=>k.wrap (BitVec.ofInt k.bits x &&& ~~~BitVec.ofInt k.bits y).toNat
def ltS:List Int->List Int->Bool
  | _,[]=>false
  | [],_::_=>true
  | a::x,b::y=>decide (a<b)||(decide (a=b)&&ltS x y)
def eqT:(t:Ty)->t.D->t.D->Bool
  | .int _,x,y=>decide ((x:Int)=y)
  | .bool,x,y=>(x:Bool)==y
  | .str,x,y=>decide ((x:List Int)=y)
  | .pr a b,x,y=>eqT a x.1 y.1&&eqT b x.2 y.2
  | .unit,_,_=>true
  | _,_,_=>false
def eqOk:Ty->Bool
  | .int _ | .bool | .str | .unit=>true
  | .pr a b=>eqOk a&&eqOk b
  | _=>false
inductive Loc where
  | s (n:Nat) | b (id:Nat) | t (k:Nat)
  deriving DecidableEq
def Loc.code:Loc->Nat
  | .s n=>3*n
  | .b n=>3*n+1
  | .t n=>3*n+2
inductive Bx where
  | dead | rw (v:Vl) | ro (z:Bool) (v:Vl)
structure St where
  sl:List (Nat×Option Vl)
  bx:List (Nat×Bx)
  tk:List (Nat×Bool)
  cnt:Nat
  wr:List Loc
def look{α:Type}:List (Nat×α)->Nat->Option α
  | [],_=>none
  | (m,a)::r,n=>match Nat.beq m n with
    | true=>some a
    | false=>look r n
structure Patch where
  v:Option Vl
  bs:List (Nat×Bx):=[]
  ts:List (Nat×Bool):=[]
  fr:Nat:=1
inductive RM where
  | ret (p:Patch)
  | fail
  | rdS (n:Nat) (k:Vl->RM)
  | rdB (id:Nat) (k:Vl->RM)
  | rdW (id:Nat) (k:Vl->RM)
  | rdF (id:Nat) (k:Vl->RM)
  | rdT (t:Nat) (k:RM)
  | eff (t:Ty) (x:Option t.D) (k:t.D->RM)
  | amb (b:Bool) (k:Bool->RM)
structure BoxS where
  ty:Ty
  sin:Sh
  sout:Option Sh
def tuL:List Ty->Ty
  | []=>.unit
  | t::l=>.tu t (tuL l)
def boxT:List BoxS->Ty
  | []=>.unit
  | b::l=>.tu b.ty (boxT l)
def nbL:List (Nat×Ty×Sh)->List Ty
  | []=>[]
  | (_,t,_)::nb=>t::nbL nb
def outL:List BoxS->List (Nat×Ty×Sh)->List Ty
  | [],nb=>nbL nb
  | ⟨t,_,some _⟩::bs,nb=>t::outL bs nb
  | ⟨_,_,none⟩::bs,nb=>outL bs nb
def inT(A:Ty):List BoxS->Ty
  | []=>A
  | b::l=>.tu A (boxT (b::l))
def outT(B:Ty):List Ty->Ty
  | []=>B
  | t::l=>.tu B (tuL (t::l))
structure Con where
  A:Ty
  ash:List Sh
  bs:List BoxS
  B:Ty
  bsh:Sh
  nb:List (Nat×Ty×Sh)
  fr:Nat
  F:(inT A bs).D->Option (outT B (outL bs nb)).D
@[reducible] def Con.I (c:Con):Ty:=inT c.A c.bs
@[reducible] def Con.R (c:Con):Ty:=outT c.B (outL c.bs c.nb)
structure Env where
  nt:Nat:=0
  mps:List (Nat×Nat×Nat):=[]
  eqs:List Nat:=[]
  ins:List (Nat×Nat):=[]
  arr:List Nat:=[]
  ty:List (Nat×Ty)
  lim:List (Nat×Nat)
  con:List (Nat×Con)
def strOf(s:ByteArray):List Int:=s.data.toList.map fun b=>(b.toNat:Int)
def decV:(t:Ty)->List Value->Option (t.D×List Value)
  | .int k,.int k' n::r=>match decide (k=k'),decide (k.min<=n),decide (n<=k.max) with
    | true,true,true=>some (n,r)
    | _,_,_=>none
  | .bool,.bool b::r=>some (b,r)
  | .str,.string s::r=>match Nat.ble s.size 9223372036854775807 with
    | true=>some (strOf s,r)
    | false=>none
  | .ptr,.pointer none::r=>some ((),r)
  | .unit,r=>some ((),r)
  | .sl _,.slice none 0 0::r=>some ([],r)
  | .pr a b,r=>match decV a r with
    | some (x,r1)=>match decV b r1 with
      | some (y,r2)=>some ((x,y),r2)
      | none=>none
    | none=>none
  | _,_=>none
def ofConst(hint:Option Ty):Value->Option Vl
  | .int k n=>match decide (k.min<=n),decide (n<=k.max) with
    | true,true=>some ⟨.int k,n,.o⟩
    | _,_=>none
  | .bool b=>some ⟨.bool,b,.o⟩
  | .string s=>match Nat.ble s.size 9223372036854775807 with
    | true=>some ⟨.str,strOf s,.o⟩
    | false=>none
  | .pointer none=>some ⟨.ptr,(),.nilp⟩
  | .map none=>some ⟨.mh,(),.nilp⟩
  | .slice none 0 0=>match hint with
    | some (.sl e)=>some ⟨.sl e,[],.nils⟩
    | _=>none
  | .agg cs=>match hint with
    | some t=>match decV t cs.toList,t.agg with
      | some (x,[]),true=>some ⟨t,x,t.zsh⟩
      | _,_=>none
    | none=>none
  | _=>none
def sameOpd:Operand->Operand->Bool
  | .tmp a,.tmp b=>Nat.beq a b
  | .const (.int _ a),.const (.int _ b)=>decide (a=b)
  | _,_=>false
def conIn:(A:Ty)->(bs:List BoxS)->A.D->(boxT bs).D->(inT A bs).D
  | _,[],a,_=>a
  | _,_::_,a,s=>(a,s)
def conOut:(B:Ty)->(l:List Ty)->(outT B l).D->B.D×(tuL l).D
  | _,[],r=>(r,())
  | _,_::_,r=>r
def boxZ:(bs:List BoxS)->(boxT bs).D
  | []=>()
  | b::l=>(b.ty.zero,boxZ l)
def isCh:Ty->Bool
  | .unit=>true
  | .tu _ b=>isCh b
  | _=>false
def fnV(E:Env) (f:Nat) (A B:Ty):Option Vl :=
  match look E.con f with
  | some c=>match c.bs,c.nb,c.ash.all (fun s=>decide (s=.o))&&isCh c.A,decide (c.bsh=.o),c.B with
    | _,_,_,_,.unit=>none
    | [],[],true,true,_=>some ⟨.fn A B,fun a=>match castTo c.A ⟨A,a,.o⟩ with
        | some a'=>match c.F (conIn c.A c.bs a' (boxZ c.bs)) with
          | some r=>castTo B ⟨c.B,(conOut c.B (outL c.bs c.nb) r).1,.o⟩
          | none=>none
        | none=>none,.o⟩
    | _,_,_,_,_=>none
  | none=>none
def opd(E:Env) (x:Operand) (hint:Option Ty) (k:Vl->RM):RM :=
  match x with
  | .func f=>match hint with
    | some (.fn A B)=>match fnV E f A B with
      | some v=>k v
      | none=>.fail
    | _=>.fail
  | .tmp n=>.rdS n k
  | .const v=>match ofConst hint v with
    | some u=>k u
    | none=>.fail
  | _=>.fail
def retV(v:Vl):RM:=.ret { v:=some v }
def binI(op:BinOp) (k:IntKind) (x y:Int) (yc:Option Int):RM :=
  match op with
  | .add=>retV ⟨.int k,wr k (x+y),.o⟩
  | .sub=>retV ⟨.int k,wr k (x-y),.o⟩
  | .mul=>retV ⟨.int k,wr k (x*y),.o⟩
  | .quo=>match yc with
    | some c=>match decide (c=0) with
      | true=>.fail
      | false=>retV ⟨.int k,wr k (x.tdiv c),.o⟩
    | none=>.eff (.int k) (quoI k x y) fun r=>retV ⟨.int k,r,.o⟩
  | .rem=>match yc with
    | some c=>match decide (c=0) with
      | true=>.fail
      | false=>retV ⟨.int k,x.tmod c,.o⟩
    | none=>.eff (.int k) (remI x y) fun r=>retV ⟨.int k,r,.o⟩
  | .and | .or | .xor | .andNot=>retV ⟨.int k,bitI op k x y,.o⟩
  | .eql=>retV ⟨.bool,decide (x=y),.o⟩
  | .neq=>retV ⟨.bool,!decide (x=y),.o⟩
  | .lss=>retV ⟨.bool,decide (x<y),.o⟩
  | .leq=>retV ⟨.bool,decide (x<=y),.o⟩
  | .gtr=>retV ⟨.bool,decide (x>y),.o⟩
  | .geq=>retV ⟨.bool,decide (x>=y),.o⟩
  | .shl=>match yc with
    | some c=>match decide (c<0) with
      | true=>.fail
      | false=>retV ⟨.int k,wr k (x*2 ^ (min c.toNat k.bits)),.o⟩
    | none=>.eff (.int k) (shlI k x y) fun r=>retV ⟨.int k,r,.o⟩
  | .shr=>match yc with
    | some c=>match decide (c<0) with
      | true=>.fail
      | false=>retV ⟨.int k,x.fdiv (2 ^ (min c.toNat k.bits)),.o⟩
    | none=>.eff (.int k) (shrI k x y) fun r=>retV ⟨.int k,r,.o⟩
def binS(op:BinOp) (x y:List Int):RM :=
  match op with
  | .add=>.eff .str (app 140737488355328 x y) fun r=>retV ⟨.str,r,.o⟩
  | .eql=>retV ⟨.bool,decide (x=y),.o⟩
  | .neq=>retV ⟨.bool,!decide (x=y),.o⟩
  | .lss=>retV ⟨.bool,ltS x y,.o⟩
  | .leq=>retV ⟨.bool,ltS x y||decide (x=y),.o⟩
  | .gtr=>retV ⟨.bool,!(ltS x y||decide (x=y)),.o⟩
  | .geq=>retV ⟨.bool,!ltS x y,.o⟩
  | _=>.fail
def constInt:Operand->Option Int
  | .const (.int _ n)=>some n
  | _=>none
def binV(op:BinOp) (x y:Vl) (yc:Option Int) (tyok eqs ny:Bool):RM :=
  match x,y with
  | ⟨.int k,a,_⟩,⟨.int k',b,_⟩=>match op with
    | .shl | .shr=>binI op k a b yc
    | _=>match decide (k=k') with
      | true=>binI op k a b yc
      | false=>.fail
  | ⟨.str,a,_⟩,⟨.str,b,_⟩=>binS op a b
  | ⟨.ptr,_,p⟩,⟨.ptr,_,.nilp⟩=>match op,p,tyok with
    | .eql,.nilp,true=>retV ⟨.bool,true,.o⟩
    | .neq,.nilp,true=>retV ⟨.bool,false,.o⟩
    | .eql,.box _ _ _,true=>retV ⟨.bool,false,.o⟩
    | .neq,.box _ _ _,true=>retV ⟨.bool,true,.o⟩
    | _,_,_=>.fail
  | ⟨.sl _,a,.o⟩,⟨.sl _,_,.nils⟩=>match op,ny&&tyok with
    | .eql,true=>.amb a.isEmpty fun q=>retV ⟨.bool,q,.o⟩
    | .neq,true=>.amb a.isEmpty fun q=>retV ⟨.bool,!q,.o⟩
    | _,_=>.fail
  | ⟨t,a,_⟩,⟨t',b,s⟩=>match castTo t ⟨t',b,s⟩,eqOk t&&(eqs&&tyok) with
    | some b',true=>match op with
      | .eql=>retV ⟨.bool,eqT t a b',.o⟩
      | .neq=>retV ⟨.bool,!eqT t a b',.o⟩
      | _=>.fail
    | _,_=>.fail
def isNilC:Operand->Bool
  | .const (.slice none 0 0)=>true
  | _=>false
def memNat:List Nat->Nat->Bool
  | [],_=>false
  | m::r,n=>match Nat.beq m n with
    | true=>true
    | false=>memNat r n
def unV(op:UnOp) (x:Vl):RM :=
  match op,x with
  | .neg,⟨.int k,a,_⟩=>retV ⟨.int k,wr k (0-a),.o⟩
  | .not,⟨.bool,b,_⟩=>retV ⟨.bool,!b,.o⟩
  | _,_=>.fail
def asVal(v:Vl) (k:Vl->List (Nat×Bx)->RM):RM :=
  match v with
  | ⟨.sl e,x,.mref id⟩=>.rdW id fun c=>match castTo (.ms e) c with
    | some l=>k ⟨.sl e,l,.o⟩ [(id,.dead)]
    | none=>.fail
  | v=>match v.sh.plain with
    | true=>k v []
    | false=>.fail
def convV(dst:Option Ty) (x:Vl):RM :=
  match dst,x with
  | some (.int k),⟨.int _,a,_⟩=>retV ⟨.int k,wr k a,.o⟩
  | some .str,⟨.str,a,_⟩=>retV ⟨.str,a,.o⟩
  | some .str,⟨.sl (.int .u8),a,.mref id⟩=>.rdW id fun c=>match castTo (.ms (.int .u8)) c with
    | some l=>retV ⟨.str,l,.o⟩
    | none=>.fail
  | some .str,⟨.sl (.int .u8),a,_⟩=>retV ⟨.str,a,.o⟩
  | some (.sl (.int .u8)),⟨.str,a,_⟩=>retV ⟨.sl (.int .u8),a,.o⟩
  | _,_=>.fail
def buildF:Vl->List (Nat×Vl)->Option Vl
  | acc,[]=>some acc
  | acc,(i,v)::r=>match setP acc [i] v with
    | some acc'=>match decide (acc'.ty=acc.ty) with
      | true=>buildF acc' r
      | false=>none
    | none=>none
def opds(E:Env):List (Nat×Operand)->(Nat->Option Ty)->(List (Nat×Vl)->RM)->RM
  | [],_,k=>k []
  | (i,x)::r,h,k=>opd E x (h i) fun v=>opds E r h fun vs=>k ((i,v)::vs)
def opdL(E:Env):List (Operand×Option Ty)->(List Vl->RM)->RM
  | [],k=>k []
  | (x,h)::r,k=>opd E x h fun v=>opdL E r fun vs=>k (v::vs)
def tupV:(t:Ty)->List Vl->Option t.D
  | .unit,[]=>some ()
  | .tu a b,v::vs=>match castV a v with
    | some x=>match tupV b vs with
      | some y=>some (x,y)
      | none=>none
    | none=>none
  | _,_=>none
def getTu:(t:Ty)->t.D->Sh->Nat->Option Vl
  | .tu a _,x,s,0=>some ⟨a,x.1,s.fst⟩
  | .tu _ b,x,s,f+1=>getTu b x.2 s.snd f
  | _,_,_,_=>none
def listV(e:Ty):Nat->List (Nat×Vl)->Nat->Option (List e.D)
  | 0,_,_=>some []
  | n+1,ps,i=>match listV e n ps (i+1) with
    | some r=>match look ps i with
      | some v=>match castV e v with
        | some x=>some (x::r)
        | none=>none
      | none=>some (e.zero::r)
    | none=>none
def ascOk(e:Ty) (n:Nat):List (Nat×Vl)->Nat->Bool
  | [],_=>true
  | (i,v)::r,lo=>Nat.ble lo i&&Nat.blt i n&&decide (v.ty=e)&&ascOk e n r (i+1)
def minL:Int->List Int->Int
  | x,[]=>x
  | x,y::r=>minL (if y<x then y else x) r
def maxL:Int->List Int->Int
  | x,[]=>x
  | x,y::r=>maxL (if y>x then y else x) r
def intsOf(k:IntKind):List Vl->Option (List Int)
  | []=>some []
  | ⟨.int k',x,_⟩::r=>match decide (k=k'),intsOf k r with
    | true,some l=>some (x::l)
    | _,_=>none
  | _=>none
def evAppend(E:Env) (id:Nat) (m:Bool) (t:Nat) (x y:Operand):RM :=
  opd E x (look E.ty t) fun v=>opd E y (look E.ty t) fun u0=>asVal u0 fun u bs =>
    match v with
    | ⟨.sl e,l,s⟩=>match castTo (.sl e) u,(match decide (look E.ty t=some (.sl e)) with | true=>look E.lim t | false=>none) with
      | some l',some lim=>match s,m with
        | .nils,false=>.eff (.sl e) (app lim l l') fun r=>.ret { v:=some ⟨.sl e,r,.tok id⟩,bs:=bs,ts:=[(id,true)] }
        | .tok k,false=>.rdT k (.eff (.sl e) (app lim l l') fun r=>.ret { v:=some ⟨.sl e,r,.tok id⟩,bs:=bs,ts:=[(id,true),(k,false)] })
        | .mref k,_=>.rdW k fun c=>match castTo (.ms e) c,bs.any (fun p=>Nat.beq p.1 k) with
          | some l0,false=>.eff (.sl e) (app lim l0 l') fun r=>.ret { v:=some ⟨.sl e,r,.mref id⟩,bs:=(id,.rw ⟨.ms e,r,.o⟩)::(k,.dead)::bs }
          | _,_=>.fail
        | .nils,true=>.eff (.sl e) (app lim l l') fun r=>.ret { v:=some ⟨.sl e,r,.mref id⟩,bs:=(id,.rw ⟨.ms e,r,.o⟩)::bs }
        | .tok k,true=>match l with
          | []=>.rdT k (.eff (.sl e) (app lim [] l') fun r=>.ret { v:=some ⟨.sl e,r,.mref id⟩,bs:=(id,.rw ⟨.ms e,r,.o⟩)::bs,ts:=[(k,false)] })
          | _=>.fail
        | _,_=>.fail
      | _,_=>.fail
    | _=>.fail
def grd{α:Type} (b:Bool) (x:α):Option α :=
  match b with
  | true=>some x
  | false=>none
def mpGet{κ α:Type} (eq:κ->κ->Bool):List (κ×α)->κ->Option α
  | [],_=>none
  | (k',v)::r,k=>match eq k k' with
    | true=>some v
    | false=>mpGet eq r k
def mpAt{κ α:Type} (eq:κ->κ->Bool):List (κ×α)->κ->Nat
  | [],_=>0
  | (k',_)::r,k=>match eq k k' with
    | true=>0
    | false=>mpAt eq r k+1
def mpPut{κ α:Type} (l:List (κ×α)) (i:Nat) (k:κ) (v:α):List (κ×α) :=
  match Nat.blt i l.length with
  | true=>l.set i (k,v)
  | false=>l++[(k,v)]
def mpIns{κ α:Type} (l:List (κ×α)) (i:Nat) (k:κ) (z:α):List (κ×α) :=
  match Nat.blt i l.length with
  | true=>l
  | false=>l++[(k,z)]
def mpVal{κ α:Type} (l:List (κ×α)) (i:Nat) (z:α):α :=
  match l[i]? with
  | some p=>p.2
  | none=>z
def natI(n:Nat):Option Int:=match Nat.ble n 9223372036854775807 with
  | true=>some n
  | false=>none
def keyOk(E:Env) (kt:Nat):Ty->Bool
  | .int _ | .bool | .str=>true
  | _=>false
def byteS(l:List Int):ByteArray:=⟨(l.map fun b=>UInt8.ofNat b.toNat).toArray⟩
def runeAt(l:List Int) (n:Int):Int:=((Utf8.decode (byteS l) n.toNat).1:Int)
def runeTo(l:List Int) (n:Int):Int:=match decide (n<(l.length:Int)) with
  | true=>n+((Utf8.decode (byteS l) n.toNat).2:Int)
  | false=>n
def mapTy(E:Env) (t:Nat):Option (Nat×Nat×Ty×Ty) :=
  match look E.mps t with
  | some (kt,vt)=>match look E.ty kt,look E.ty vt with
    | some K,some V=>match keyOk E kt K&&(K.std&&V.std) with
      | true=>some (kt,vt,K,V)
      | false=>none
    | _,_=>none
  | none=>none
def evMap(E:Env) (t:Nat) (x:Operand) (k:Nat->Nat->(K V:Ty)->Nat->List (K.D×V.D)->RM):RM :=
  match mapTy E t with
  | some (kt,vt,K,V)=>opd E x none fun m=>match m with
    | ⟨.mh,_,.box b [] 0⟩=>.rdW b fun c=>match castTo (.tu (.ms (.tu K V)) .unit) c with
      | some l=>k kt vt K V b l.1
      | none=>.fail
    | _=>.fail
  | none=>.fail
def evKey(E:Env) (kt:Nat) (K:Ty) (i:Operand) (k:K.D->RM):RM :=
  opd E i (look E.ty kt) fun v=>match castV K v with
    | some x=>k x
    | none=>.fail
def mpBox(b:Nat) (K V:Ty) (l:List (K.D×V.D)):List (Nat×Bx):=[(b,.rw ⟨.tu (.ms (.tu K V)) .unit,(l,()),.o⟩)]
def evBuiltin(E:Env) (b:Builtin) (id:Nat) (m:Bool) (argTypes:List TypeId) (args:List Operand):RM :=
  match b with
  | .len=>match args with
    | [x]=>match argTypes with
      | [t]=>opd E x (look E.ty t) fun v=>match decide (look E.ty t=some v.ty) with
        | true=>match v with
          | ⟨.str,l,_⟩=>retV ⟨.int .i64,(l.length:Int),.o⟩
          | ⟨.sl _,l,_⟩=>retV ⟨.int .i64,(l.length:Int),.o⟩
          | ⟨.mh,_,.box b [] 0⟩=>.rdW b fun c=>match c with
            | ⟨.tu (.ms (.tu _ _)) .unit,l,_⟩=>.eff (.int .i64) (natI (List.length l.1)) fun r=>retV ⟨.int .i64,r,.o⟩
            | ⟨.tu .unit (.int .i64),n,_⟩=>.eff (.int .i64) (natI (Int.toNat n.2)) fun r=>retV ⟨.int .i64,r,.o⟩
            | _=>.fail
          | _=>.fail
        | false=>.fail
      | _=>.fail
    | _=>.fail
  | .clear=>match args,argTypes with
    | [x],[t]=>opd E x none fun v=>match v with
      | ⟨.nx,q,.mref b⟩=>match look E.ty t with
        | some (.sl (.int k))=>.rdW b fun c=>match castTo (.ms (.int k)) c with
          | some l=>.eff (.sl (.int k)) (clr l q.2.1 q.2.2 (0:Int)) fun r=>.ret { v:=none,bs:=[(b,.rw ⟨.ms (.int k),r,.o⟩)] }
          | none=>.fail
        | _=>.fail
      | _=>.fail
    | _,_=>.fail
  | .delete=>match args,argTypes with
    | [x,i],t::_=>evMap E t x fun kt vt K V b l=>evKey E kt K i fun k =>
        .ret { v:=none,bs:=[(b,.rw ⟨.tu .unit (.int .i64),((),((match Nat.blt (mpAt (eqT K) l k) l.length with | true=>l.length-1 | false=>l.length:Nat):Int)),.o⟩)] }
    | _,_=>.fail
  | .append=>match args,argTypes with
    | [x,y],[t,t']=>match Nat.beq t t' with
      | true=>evAppend E id m t x y
      | false=>.fail
    | _,_=>.fail
  | .min=>opdL E (args.map (·,none)) fun vs=>match vs with
    | ⟨.int k,x,_⟩::r=>match intsOf k r with
      | some l=>retV ⟨.int k,minL x l,.o⟩
      | none=>.fail
    | _=>.fail
  | .max=>opdL E (args.map (·,none)) fun vs=>match vs with
    | ⟨.int k,x,_⟩::r=>match intsOf k r with
      | some l=>retV ⟨.int k,maxL x l,.o⟩
      | none=>.fail
    | _=>.fail
  | _=>.fail
structure Mt where
  bm:List (Nat×Nat×List Nat×Nat):=[]
  tm:List (Nat×Option Nat):=[]
def memB:List (Nat×Nat×List Nat×Nat)->Nat->Bool
  | [],_=>false
  | (_,i,_)::r,id=>match Nat.beq i id with
    | true=>true
    | false=>memB r id
def memT:List (Nat×Option Nat)->Nat->Bool
  | [],_=>false
  | (_,some i)::r,id=>match Nat.beq i id with
    | true=>true
    | false=>memT r id
  | (_,none)::r,id=>memT r id
def matchSh:Sh->Sh->Mt->Option Mt
  | .o,s,m=>match s.plain with
    | true=>some m
    | false=>none
  | .nilp,.nilp,m=>some m
  | .nils,.nils,m=>some m
  | .box k [] 0,.box id p off,m=>match look m.bm k with
    | none=>match memB m.bm id with
      | false=>some { m with bm:=(k,id,p,off)::m.bm }
      | true=>none
    | some q=>match decide (q=(id,p,off)) with
      | true=>some m
      | false=>none
  | .tok j,.tok k,m=>match look m.tm j,memT m.tm k with
    | none,false=>some { m with tm:=(j,some k)::m.tm }
    | _,_=>none
  | .tok j,.nils,m=>match look m.tm j with
    | none=>some { m with tm:=(j,none)::m.tm }
    | _=>none
  | .pr a b,.pr c d,m=>match matchSh a c m with
    | some m1=>matchSh b d m1
    | none=>none
  | _,_,_=>none
def matchShs:List Sh->List Vl->Mt->Option Mt
  | [],_,m=>some m
  | t::ts,v::vs,m=>match matchSh t v.sh m with
    | some m1=>matchShs ts vs m1
    | none=>none
  | _::_,[],_=>none
def ren(m:Mt) (base:Nat):Sh->Sh
  | .tok j=>.tok (base+j)
  | .mref k=>.mref (base+k)
  | .box k p o=>match look m.bm k with
    | some (id,p',o')=>.box id (p'++p) (o'+o)
    | none=>.box (base+k) p o
  | .pr a b=>.pr (ren m base a) (ren m base b)
  | .elem _ _ _ _ _ _=>.o
  | s=>s
def toksOf:Sh->List Nat
  | .tok k=>[k]
  | .pr a b=>toksOf a++toksOf b
  | _=>[]
def msOf(base:Nat):(t:Ty)->t.D->Sh->List (Nat×Bx)
  | .sl e,x,.mref k=>[(base+k,.rw ⟨.ms e,x,.o⟩)]
  | .pr a b,x,.pr s t=>msOf base a x.1 s++msOf base b x.2 t
  | .tu a b,x,.pr s t=>msOf base a x.1 s++msOf base b x.2 t
  | _,_,_=>[]
def rdToks:List (Nat×Option Nat)->RM->RM
  | [],k=>k
  | (_,some t)::r,k=>.rdT t (rdToks r k)
  | (_,none)::r,k=>rdToks r k
def boxesIn:(bs:List BoxS)->Nat->Mt->(Mt->(boxT bs).D->RM)->RM
  | [],_,m,k=>k m ()
  | b::bs,i,m,k=>match look m.bm i with
    | some (id,p,off) =>
      let go (c:Vl):RM:=match getP c p with
        | some v=>match decide (offP c.ty p=some off),castTo b.ty v,matchSh b.sin v.sh m with
          | true,some x,some m1=>boxesIn bs (i+1) m1 fun m2 y=>k m2 (x,y)
          | _,_,_=>.fail
        | none=>.fail
      match b.sout with
      | some _=>.rdW id go
      | none=>.rdB id go
    | none=>.fail
def newOut(m:Mt) (base:Nat):(nb:List (Nat×Ty×Sh))->(tuL (nbL nb)).D->(List (Nat×Bx)->List (Nat×Bool)->RM)->RM
  | [],_,k=>k [] []
  | (j,t,s)::nb,x,k=>newOut m base nb x.2 fun l ts =>
      k ((base+j,.rw ⟨t,x.1,ren m base s⟩)::l) ((toksOf (ren m base s)).map (·,true)++ts)
def boxesOut(m:Mt) (base:Nat):(bs:List BoxS)->(nb:List (Nat×Ty×Sh))->Nat ->
    (tuL (outL bs nb)).D->(List (Nat×Bx)->List (Nat×Bool)->RM)->RM
  | [],nb,_,x,k=>newOut m base nb x k
  | ⟨t,_,some s⟩::bs,nb,i,x,k=>match look m.bm i with
    | some (id,p,_)=>.rdW id fun c=>match setP c p ⟨t,x.1,ren m base s⟩ with
      | some c'=>boxesOut m base bs nb (i+1) x.2 fun l ts=>k ((id,.rw c')::l) ((toksOf (ren m base s)).map (·,true)++ts)
      | none=>.fail
    | none=>.fail
  | ⟨_,_,none⟩::bs,nb,i,x,k=>boxesOut m base bs nb (i+1) x k
def valsOf:List Vl->(List Vl->List (Nat×Bx)->RM)->RM
  | [],k=>k [] []
  | v::vs,k=>asVal v fun u bs=>valsOf vs fun us cs=>k (u::us) (bs++cs)
def nodupB:List (Nat×Bx)->Bool
  | []=>true
  | (k,_)::r=>!(r.any fun p=>Nat.beq p.1 k)&&nodupB r
def wfA:Ty->Bool
  | .unit=>true
  | .tu a b=>(match a with | .tu _ _=>false | .nx=>false | _=>true)&&wfA b
  | _=>false
def Ty.retOk:Ty->Bool
  | .ms _ | .rref _ | .eref | .nx=>false
  | _=>true
def shLt(n:Nat):Sh->Bool
  | .tok k=>Nat.blt k n
  | .mref k=>Nat.blt k n
  | .box k _ _=>Nat.blt k n
  | .elem k _ _ _ _ _=>Nat.blt k n
  | .pr a b=>shLt n a&&shLt n b
  | _=>true
def shInB(nb n:Nat):Sh->Bool
  | .tok k=>Nat.blt k n
  | .mref k=>Nat.blt k n
  | .box k _ _=>Nat.blt k nb
  | .elem k _ _ _ _ _=>Nat.blt k n
  | .pr a b=>shInB nb n a&&shInB nb n b
  | _=>true
def mkeys:Ty->Sh->List Nat
  | .sl _,.mref k=>[k]
  | .pr a b,.pr s t=>mkeys a s++mkeys b t
  | .tu a b,.pr s t=>mkeys a s++mkeys b t
  | _,_=>[]
def nodupN:List Nat->Bool
  | []=>true
  | a::l=>!memNat l a&&nodupN l
def upTo:Nat->Nat->List Nat
  | 0,_=>[]
  | n+1,i=>i::upTo n (i+1)
def shOut(ks:List Nat) (nf:Nat):Sh->Bool
  | .tok k=>Nat.blt k nf
  | .mref k=>Nat.blt k nf
  | .box k _ _=>memNat ks k
  | .elem _ _ _ _ _ _=>false
  | .pr a b=>shOut ks nf a&&shOut ks nf b
  | _=>true
def wfO(c:Con):Bool :=
  let ks:=upTo c.bs.length 0++c.nb.map (·.1)
  shOut ks c.fr c.bsh&&c.bs.all (fun b=>match b.sout with | some s=>s.plain&&shOut ks c.fr s | none=>true)&&c.nb.all (fun b=>b.2.1.std&&(b.2.2.plain&&shOut ks c.fr b.2.2))&&(match c.B with | .tu a b=>wfA (.tu a b) | _=>true)
def Con.lo(c:Con):Nat:=match c.nb with
  | []=>c.fr
  | _=>Nat.min (c.bs.length+(c.bs.flatMap fun b=>toksOf b.sin).length+8) c.fr
theorem Con.lo_le(c:Con):c.lo<=c.fr:=by
  unfold Con.lo
  split
  · exact Nat.le_refl _
  · exact Nat.min_le_right _ _
def wfC(c:Con):Bool :=
  wfA c.A&&c.B.retOk&&c.ash.all (shInB c.bs.length c.lo)&&Nat.ble c.bs.length c.lo&&c.bs.all (fun b=>b.ty.std&&shInB c.bs.length c.lo b.sin) &&
  nodupN (upTo c.bs.length 0++(c.nb.map (·.1)++mkeys c.B c.bsh))&&(c.nb.map (·.1)++mkeys c.B c.bsh).all (Nat.blt · c.fr)&&wfO c
def evCon(c:Con) (id:Nat) (vs0:List Vl):RM :=
  valsOf vs0 fun vs dead=>match (match nodupB dead with | true=>tupV c.A vs | false=>none),matchShs c.ash vs {} with
    | some a,some m0=>boxesIn c.bs 0 m0 fun m s=>rdToks m.tm <|
        .eff c.R (c.F (conIn c.A c.bs a s)) fun r=>boxesOut m id c.bs c.nb 0 (conOut c.B (outL c.bs c.nb) r).2 fun bs ts =>
          .ret { v:=match c.B,(conOut c.B (outL c.bs c.nb) r).1 with
                   | .unit,_=>none
                   | t,z=>some ⟨t,z,ren m id c.bsh⟩
                 bs:=dead++bs++msOf id c.B (conOut c.B (outL c.bs c.nb) r).1 c.bsh
                 ts:=(m.tm.filterMap fun p=>p.2.map (·,false))++(toksOf (ren m id c.bsh)).map (·,true)++ts
                 fr:=c.fr+1 }
    | _,_=>.fail
def insL{α:Type} (lim:Nat) (l:List α) (j:Int) (u:List α):Option (List α) :=
  if 0<=j/\j<=(l.length:Int)/\0<u.length/\l.length+u.length<=lim then some (l.take j.toNat++u++l.drop j.toNat) else none
def evIns(E:Env) (id:Nat) (t:Nat) (x i y:Operand):RM :=
  opd E x (look E.ty t) fun v=>opd E i none fun j=>opd E y (look E.ty t) fun u0=>asVal u0 fun u bs =>
    match v with
    | ⟨.sl e,l,.mref k⟩=>match j with
      | ⟨.int .i64,jn,_⟩=>match castTo (.sl e) u,(match decide (look E.ty t=some (.sl e))&&Nat.blt 0 e.size with | true=>look E.lim t | false=>none) with
        | some l',some lim=>.rdW k fun c=>match castTo (.ms e) c,bs.any (fun p=>Nat.beq p.1 k) with
          | some l0,false=>.eff (.sl e) (insL lim l0 jn l') fun r=>.ret { v:=some ⟨.sl e,r,.mref id⟩,bs:=(id,.rw ⟨.ms e,r,.o⟩)::(k,.dead)::bs }
          | _,_=>.fail
        | _,_=>.fail
      | _=>.fail
    | _=>.fail
def evCall(E:Env) (f:Nat) (id:Nat) (argTypes:List TypeId) (args:List Operand):RM :=
  match look E.ins f with
  | some t=>match args with
    | [x,i,y]=>evIns E id t x i y
    | _=>.fail
  | none=>match look E.con f with
    | some c=>match Nat.beq args.length argTypes.length with
      | true=>opdL E ((args.zip argTypes).map fun(x,t)=>(x,look E.ty t)) (evCon c id)
      | false=>.fail
    | none=>.fail
def extA:(C A:Ty)->A.D->Option C.D
  | .tu a' b',.tu a b,x=>match castTo a' ⟨a,x.1,.o⟩,extA b' b x.2 with
    | some y,some r=>some (y,r)
    | _,_=>none
  | .tu .ptr b',.unit,_=>match extA b' .unit () with
    | some r=>some ((),r)
    | none=>none
  | .unit,.unit,_=>some ()
  | _,_,_=>none
def frz:List (Nat×Nat×List Nat×Nat)->(List (Nat×Bx)->RM)->RM
  | [],k=>k []
  | (_,id,_)::r,k=>.rdF id fun c=>match c.ty.std with
    | true=>frz r fun l=>k ((id,.ro true c)::l)
    | false=>.fail
def chLen:Ty->Nat
  | .tu _ b=>chLen b+1
  | _=>0
def evFunc(E:Env) (f:Nat) (A B:Ty) (caps:List Operand):RM :=
  match look E.con f with
  | some c=>match Nat.beq (chLen A+caps.length) (chLen c.A)&&Nat.beq (chLen c.A) c.ash.length&&(c.ash.take (chLen A)).all (fun s=>decide (s=.o))&&(decide (c.bsh=.o)&&!decide (c.B=.unit)) &&
      c.bs.all (fun b=>match b.sout with | none=>true | some _=>false) with
    | true=>opdL E (caps.map (·,none)) fun vs =>
      match c.nb,vs.all (fun v=>decide (v.ty=.ptr)),matchShs (c.ash.drop (chLen A)) vs {} with
      | [],true,some m0=>boxesIn c.bs 0 m0 fun m s=>frz m.bm fun fz=>match m.tm with
        | []=>.ret { bs:=fz,v:=some ⟨.fn A B,fun a=>match extA c.A A a with
              | some a'=>match c.F (conIn c.A c.bs a' s) with
                | some r=>castTo B ⟨c.B,(conOut c.B (outL c.bs c.nb) r).1,.o⟩
                | none=>none
              | none=>none,.o⟩ }
        | _=>.fail
      | _,_,_=>.fail
    | false=>.fail
  | none=>.fail
def moveV(E:Env) (id:Nat) (m:Bool) (t:Nat) (v:Vl):RM :=
  match m,v with
  | true,⟨.sl e,l,.nils⟩=>match decide (look E.ty t=some (.sl e)) with
    | true=>.ret { v:=some ⟨.sl e,l,.mref id⟩,bs:=[(id,.rw ⟨.ms e,l,.o⟩)] }
    | false=>.fail
  | _,v=>retV v
def sliceHi(E:Env) (hi:Option Operand) (n:Nat) (k:Int->RM):RM :=
  match hi with
  | none=>k n
  | some hx=>opd E hx none fun b=>match b with
    | ⟨.int _,hb,_⟩=>k hb
    | _=>.fail
def evOp(E:Env) (id:Nat) (m:Bool) (o:Oper):RM :=
  match o.op with
  | .move x | .assign x=>opd E x (look E.ty o.type) (moveV E id m o.type)
  | .nilCheck x=>opd E x none fun p=>match p with
    | ⟨.ptr,u,.box b path off⟩=>retV ⟨.ptr,u,.box b path off⟩
    | ⟨.rref e,y,sh⟩=>retV ⟨.rref e,y,sh⟩
    | _=>.fail
  | .alloc t=>match look E.ty t with
    | some τ=>match τ.std with
      | true=>.ret { v:=some ⟨.ptr,(),.box id [] 0⟩,bs:=[(id,.rw ⟨τ,τ.zero,τ.zsh⟩)] }
      | false=>.fail
    | none=>.fail
  | .box t x=>opd E x (look E.ty t) fun v=>match v.ty.std with
    | true=>.ret { v:=some ⟨.ptr,(),.box id [] 0⟩,bs:=[(id,.rw v)] }
    | false=>.fail
  | .load t a=>opd E a none fun p=>match look E.ty t with
    | some τ=>match p with
      | ⟨.ptr,_,.box b path off⟩=>.rdB b fun c=>match getP c path with
        | some v=>match decide (offP c.ty path=some off),decide (v.ty=τ)&&τ.std with
          | true,true=>retV v
          | _,_=>.fail
        | none=>.fail
      | ⟨.rref e,x,_⟩=>match decide (e=τ) with
        | true=>retV ⟨e,x,.o⟩
        | false=>.fail
      | ⟨.eref,j,.elem b path off str post poff⟩=>.rdB b fun c=>match getP c path with
        | some ⟨.ms e,l,_⟩=>.eff e (ati l j) fun y=>match getP ⟨e,y,.o⟩ post with
          | some v=>match decide (path=[]),decide (off=0),decide (str=e.size),decide (offP e post=some poff),decide (v.ty=τ) with
            | true,true,true,true,true=>retV v
            | _,_,_,_,_=>.fail
          | none=>.fail
        | some ⟨.pr e b',y,sh⟩=>match (match sh.plain with | true=>arrL e (.pr e b') y | false=>none) with
          | some l=>.eff e (ati l j) fun z=>match getP ⟨e,z,.o⟩ post with
            | some v=>match decide (offP c.ty path=some off),decide (str=e.size),decide (offP e post=some poff),decide (v.ty=τ) with
              | true,true,true,true=>retV v
              | _,_,_,_=>.fail
            | none=>.fail
          | none=>.fail
        | _=>.fail
      | _=>.fail
    | none=>.fail
  | .store t a x=>opd E a none fun p=>opd E x (look E.ty t) fun v=>match decide (look E.ty t=some v.ty)&&v.ty.std with
    | true=>match p with
        | ⟨.ptr,_,.box b path off⟩=>.rdW b fun c=>match setP c path v,decide (offP c.ty path=some off) with
          | some c',true=>match decide (c'.ty=c.ty) with
            | true=>.ret { v:=none,bs:=[(b,.rw c')] }
            | false=>.fail
          | _,_=>.fail
        | ⟨.eref,j,.elem b path off str post poff⟩=>asVal v fun u dead=>.rdW b fun c=>match dead.any (fun p=>Nat.beq p.1 b) with
          | true=>.fail
          | false=>match getP c path with
            | some ⟨.ms e,l,_⟩=>.eff e (ati l j) fun y=>match setP ⟨e,y,.o⟩ post u with
              | some z=>match castTo e z,decide (path=[]),decide (off=0),decide (str=e.size),decide (offP e post=some poff) with
                | some z',true,true,true,true=>.ret { v:=none,bs:=(b,.rw ⟨.ms e,l.set j.toNat z',.o⟩)::dead }
                | _,_,_,_,_=>.fail
              | none=>.fail
            | some ⟨.pr e b',y,sh⟩=>match (match sh.plain with | true=>arrL e (.pr e b') y | false=>none) with
              | some l=>.eff e (ati l j) fun w=>match setP ⟨e,w,.o⟩ post u with
                | some z=>match castTo e z,decide (offP c.ty path=some off),decide (str=e.size),decide (offP e post=some poff) with
                  | some z',true,true,true=>match setP c path ⟨.pr e b',arrPut e (.pr e b') y j.toNat z',.o⟩ with
                    | some c'=>match decide (c'.ty=c.ty) with
                      | true=>.ret { v:=none,bs:=(b,.rw c')::dead }
                      | false=>.fail
                    | none=>.fail
                  | _,_,_,_=>.fail
                | none=>.fail
              | none=>.fail
            | _=>.fail
        | _=>.fail
    | false=>.fail
  | .fieldAddr s x f=>opd E x none fun p=>match look E.ty s with
    | some τ=>match offF τ f,(match tyF τ f with | some u=>Nat.blt 0 u.size | none=>false)&&!memNat E.arr s with
      | some n,true=>match p with
        | ⟨.ptr,_,.box b path off⟩=>retV ⟨.ptr,(),.box b (path++[f]) (off+n)⟩
        | ⟨.rref e,y,sh⟩=>match getF e y .o f,decide (e=τ) with
          | some u,true=>retV ⟨.rref u.ty,u.val,.o⟩
          | _,_=>.fail
        | ⟨.eref,j,.elem b path off str post poff⟩=>retV ⟨.eref,j,.elem b path off str (post++[f]) (poff+n)⟩
        | _=>.fail
      | _,_=>.fail
    | none=>.fail
  | .field t x f=>opd E x (look E.ty t) fun v=>match getF v.ty v.val v.sh f,decide (look E.ty t=some v.ty)&&!memNat E.arr t with
    | some u,true=>retV u
    | _,_=>.fail
  | .indexAddr t x i=>opd E x (look E.ty t) fun v=>opd E i none fun n=>match v,n with
    | ⟨.sl e,l,.mref b⟩,⟨.int _,j,_⟩=>match look E.ty t with
      | some (.sl e')=>match decide (e'=e) with
        | true=>.rdB b fun c=>match decide (c.ty=.ms e) with
          | true=>.eff (.int .i64) (inR l.length j) fun q=>retV ⟨.eref,q,.elem b [] 0 e.size [] 0⟩
          | false=>.fail
        | false=>.fail
      | _=>.fail
    | ⟨.sl e,l,s⟩,⟨.int _,j,_⟩=>match look E.ty t with
      | some (.sl e')=>match decide (e'=e)&&s.plain with
        | true=>.eff e (ati l j) fun y=>retV ⟨.rref e,y,.o⟩
        | false=>.fail
      | _=>.fail
    | ⟨.ptr,_,.box b path off⟩,⟨.int _,j,_⟩=>match (match memNat E.arr t with | true=>look E.ty t | false=>none) with
      | some (.pr e r)=>match constInt i with
        | some c=>match offF (.pr e r) c.toNat,decide (0<=c) with
          | some n,true=>retV ⟨.ptr,(),.box b (path++[c.toNat]) (off+n)⟩
          | _,_=>.fail
        | none=>match arrL e (.pr e r) (Ty.zero (.pr e r)) with
          | some _=>.eff (.int .i64) (inR (arrLen (.pr e r)) j) fun q=>retV ⟨.eref,q,.elem b path off e.size [] 0⟩
          | none=>.fail
      | _=>.fail
    | _,_=>.fail
  | .index t x i=>opd E x (look E.ty t) fun v=>opd E i none fun n=>match v,n with
    | ⟨.str,l,_⟩,⟨.int _,j,_⟩=>match decide (look E.ty t=some .str) with
      | true=>.eff (.int .u8) (ati l j) fun y=>retV ⟨.int .u8,y,.o⟩
      | false=>.fail
    | ⟨.pr e r,y,s⟩,⟨.int _,j,_⟩=>match decide (look E.ty t=some (.pr e r))&&memNat E.arr t,s.plain with
      | true,true=>match arrL e (.pr e r) y with
        | some l=>.eff e (ati l j) fun z=>retV ⟨e,z,.o⟩
        | none=>.fail
      | _,_=>.fail
    | _,_=>.fail
  | .build t parts=>match look E.ty t with
    | some τ=>match τ.agg with
      | true=>opds E parts.toList (tyF τ) fun vs=>match buildF ⟨τ,τ.zero,τ.zsh⟩ vs with
        | some v=>retV v
        | none=>.fail
      | false=>.fail
    | none=>.fail
  | .buildSlice t len parts=>match look E.ty t with
    | some (.sl e)=>opds E parts.toList (fun _=>some e) fun vs=>match (match ascOk e len vs 0 with | true=>listV e len vs 0 | false=>none) with
      | some l=>match Nat.ble (len*e.size) 16777216&&Nat.ble len 16777216,m with
        | true,false=>.ret { v:=some ⟨.sl e,l,.tok id⟩,ts:=[(id,true)] }
        | true,true=>.ret { v:=some ⟨.sl e,l,.mref id⟩,bs:=[(id,.rw ⟨.ms e,l,.o⟩)] }
        | false,_=>.fail
      | none=>.fail
    | _=>.fail
  | .makeSlice t l c=>opd E l none fun a=>opd E c none fun b=>match look E.ty t,look E.lim t with
    | some (.sl e),some lim=>match a,b with
      | ⟨.int .i64,n,_⟩,⟨.int .i64,n',_⟩=>match sameOpd l c with
        | true=>.eff (.sl e) (mkN lim n e.zero) fun r=>match m with
          | false=>.ret { v:=some ⟨.sl e,r,.tok id⟩,ts:=[(id,true)] }
          | true=>.ret { v:=some ⟨.sl e,r,.mref id⟩,bs:=[(id,.rw ⟨.ms e,r,.o⟩)] }
        | false=>.fail
      | _,_=>.fail
    | _,_=>.fail
  | .slice t x lo hi none=>opd E x (look E.ty t) fun v=>opd E (lo.getD (.const (.int .i64 0))) none fun a=>match a with
    | ⟨.int _,la,_⟩=>match v with
      | ⟨.str,l,_⟩=>match decide (look E.ty t=some .str) with
        | true=>sliceHi E hi l.length fun hb=>.eff .str (sub l la hb) fun r=>retV ⟨.str,r,.o⟩
        | false=>.fail
      | ⟨.ptr,_,.box b [] 0⟩=>match (match memNat E.arr t with | true=>look E.ty t | false=>none),hi with
        | some (.pr e r),none=>.rdW b fun c=>match castV (.pr e r) c,Nat.ble (arrLen (.pr e r)) 16777216 with
          | some y,true=>match arrL e (.pr e r) y with
            | some l=>.eff (.sl e) (sub l la l.length) fun q=>.ret { v:=some ⟨.sl e,q,.o⟩,bs:=[(b,.dead)] }
            | none=>.fail
          | _,_=>.fail
        | _,_=>.fail
      | v=>match m with
        | true=>match v with
          | ⟨.sl (.int k),l,.mref b⟩=>match decide (look E.ty t=some (.sl (.int k))) with
            | true=>sliceHi E hi l.length fun hb=>.eff .nx (vw l.length la hb) fun q=>.ret { v:=some ⟨.nx,q,.mref b⟩ }
            | false=>.fail
          | _=>.fail
        | false=>asVal v fun u dead=>match u with
          | ⟨.sl e,l,_⟩=>match decide (look E.ty t=some (.sl e)) with
            | true=>sliceHi E hi l.length fun hb=>.eff (.sl e) (sub l la hb) fun r=>.ret { v:=some ⟨.sl e,r,.o⟩,bs:=dead }
            | false=>.fail
          | _=>.fail
    | _=>.fail
  | .binOp op t x y yt=>opd E x (look E.ty t) fun u=>opd E y (look E.ty yt) fun v=>binV op u v (constInt y) (decide (look E.ty t=some u.ty)) (memNat E.eqs t) (isNilC y)
  | .unOp op t x=>opd E x (look E.ty t) fun u=>unV op u
  | .convert s d x=>opd E x (look E.ty s) fun u=>match decide (look E.ty s=some u.ty) with
    | true=>convV (look E.ty d) u
    | false=>.fail
  | .extract x i=>opd E x none fun v=>match v with
    | ⟨.nx,q,.o⟩=>match i with
      | 0=>retV ⟨.bool,q.1,.o⟩
      | 1=>.eff (.int .i64) (grd q.1 q.2.1) fun r=>retV ⟨.int .i64,r,.o⟩
      | 2=>.eff (.int .i32) (grd q.1 q.2.2) fun r=>retV ⟨.int .i32,r,.o⟩
      | _=>.fail
    | v=>match getTu v.ty v.val v.sh i with
      | some u=>retV u
      | none=>.fail
  | .range t x=>opd E x (look E.ty t) fun v=>match v with
    | ⟨.str,l,_⟩=>match decide (look E.ty t=some .str) with
      | true=>.ret { v:=some ⟨.ptr,(),.box id [] 0⟩,bs:=[(id,.rw ⟨.tu .str (.int .i64),(l,(0:Int)),.o⟩)] }
      | false=>.fail
    | _=>.fail
  | .next x s=>match s with
    | true=>opd E x none fun p=>match p with
      | ⟨.ptr,_,.box b [] 0⟩=>.rdW b fun c=>match castTo (.tu .str (.int .i64)) c with
        | some q=>.ret { v:=some ⟨.nx,(decide (q.2<(List.length q.1:Int)),q.2,runeAt q.1 q.2),.o⟩,bs:=[(b,.rw ⟨.tu .str (.int .i64),(q.1,runeTo q.1 q.2),.o⟩)] }
        | none=>.fail
      | _=>.fail
    | false=>.fail
  | .makeMap t r=>match r with
    | none=>match mapTy E t with
      | some (_,_,K,V)=>.ret { v:=some ⟨.mh,(),.box id [] 0⟩,bs:=mpBox id K V [] }
      | none=>.fail
    | some _=>.fail
  | .lookup t x i ok=>evMap E t x fun kt vt K V b l=>evKey E kt K i fun k=>match ok with
    | true=>retV ⟨.tu V (.tu .bool .unit),(mpVal l (mpAt (eqT K) l k) V.zero,(Nat.blt (mpAt (eqT K) l k) l.length,())),.o⟩
    | false=>retV ⟨V,mpVal l (mpAt (eqT K) l k) V.zero,.o⟩
  | .mapUpdate t m k x | .insert t m k x=>evMap E t m fun kt vt K V b l=>evKey E kt K k fun k=>evKey E vt V x fun v =>
      .ret { v:=none,bs:=mpBox b K V (mpPut l (mpAt (eqT K) l k) k v) }
  | .mapEntry t m k=>evMap E t m fun kt vt K V b l=>evKey E kt K k fun k=>.eff (.int .i64) (natI (mpAt (eqT K) l k)) fun n =>
      .ret { v:=some ⟨.tu V (.tu (.int .i64) .unit),(mpVal l (mpAt (eqT K) l k) V.zero,(n,())),.o⟩,bs:=mpBox b K V (mpIns l (mpAt (eqT K) l k) k V.zero) }
  | .entryStore t m s x=>evMap E t m fun kt vt K V b l=>opd E s none fun n=>match n with
    | ⟨.int _,n,_⟩=>evKey E vt V x fun v=>.eff (.tu K V) (ati l n) fun p=>.ret { v:=none,bs:=mpBox b K V (l.set n.toNat (p.1,v)) }
    | _=>.fail
  | .pick c a b=>opd E c none fun u=>opd E a (look E.ty o.type) fun v=>opd E b (look E.ty o.type) fun w=>match u with
    | ⟨.bool,q,_⟩=>match castV v.ty w,v.sh.plain with
      | some y,true=>retV ⟨v.ty,cnd q v.val y,.o⟩
      | _,_=>.fail
    | _=>.fail
  | .makeFunc (.func f) first caps=>match first.toList,look E.ty o.type with
    | [],some (.fn A B)=>evFunc E f A B caps.toList
    | [x],_=>match caps.toList with
      | []=>opd E x (some .ptr) fun v=>match v with
        | ⟨.ptr,_,.box b q off⟩=>.ret { v:=some ⟨.nx,(false,(f:Int),0),.pr (.box b q off) (.mref b)⟩ }
        | _=>.fail
      | _=>.fail
    | _,_=>.fail
  | .call c=>match c.callee with
    | .builtin b=>evBuiltin E b id m c.argTypes.toList c.args.toList
    | .value (.func f)=>evCall E f id c.argTypes.toList c.args.toList
    | .value (.tmp n)=>.rdS n fun g=>match g,Nat.beq c.args.size c.argTypes.size with
      | ⟨.fn A B,φ,_⟩,true=>opdL E ((c.args.toList.zip c.argTypes.toList).map fun(x,t)=>(x,look E.ty t)) fun vs0=>valsOf vs0 fun vs dead =>
        match (match nodupB dead&&wfA A&&B.retOk with | true=>tupV A vs | false=>none) with
        | some a=>.eff B (φ a) fun r=>.ret { v:=some ⟨B,r,.o⟩,bs:=dead }
        | none=>.fail
      | ⟨.nx,q,.pr (.box b p off) (.mref _)⟩,true=>match look E.con (Int.toNat q.2.1) with
        | some k=>opdL E ((c.args.toList.zip c.argTypes.toList).map fun(x,t)=>(x,look E.ty t)) fun vs0=>evCon k id (⟨.ptr,(),.box b p off⟩::vs0)
        | none=>.fail
      | _,_=>.fail
    | _=>.fail
  | _=>.fail
def putL{α:Type}:List (Nat×α)->List (Nat×α)->List (Nat×α)
  | [],l=>l
  | p::r,l=>putL r (p::l)
def St.patch(st:St) (dst:Option Nat) (p:Patch):St where
  sl:=match dst with
    | some d=>(d,p.v)::st.sl
    | none=>st.sl
  bx:=putL p.bs st.bx
  tk:=putL p.ts st.tk
  cnt:=st.cnt+p.fr
  wr:=(match dst with | some d=>[Loc.s d] | none=>[])++p.bs.map (Loc.b ·.1)++p.ts.map (Loc.t ·.1)++st.wr
noncomputable def RM.go{R:Type} (st:St):RM->List Loc->(Patch->List Loc->Option R)->Option R
  | .ret p,f,K=>K p f
  | .fail,_,_=>none
  | .rdS n k,f,K=>match look st.sl n with
    | some (some v)=>(k v).go st (.s n::f) K
    | _=>none
  | .rdB b k,f,K=>match look st.bx b with
    | some (.rw v)=>(k v).go st (.b b::f) K
    | some (.ro _ v)=>(k v).go st (.b b::f) K
    | _=>none
  | .rdW b k,f,K=>match look st.bx b with
    | some (.rw v)=>(k v).go st (.b b::f) K
    | _=>none
  | .rdF b k,f,K=>match look st.bx b with
    | some (.rw v)=>(k v).go st (.b b::f) K
    | some (.ro true v)=>(k v).go st (.b b::f) K
    | _=>none
  | .rdT t k,f,K=>match look st.tk t with
    | some true=>k.go st (.t t::f) K
    | _=>none
  | .eff _ x k,f,K=>bnd x fun a=>(k a).go st f K
  | .amb b k,f,K=>VX.amb b fun q=>(k q).go st f K
structure JE where
  loc:Loc
  ty:Ty
  sh:Sh
@[reducible] def JD:List JE->Type
  | []=>Unit
  | e::r=>e.ty.D×JD r
structure JS where
  js:List JE
  keepS:List Nat
  keepB:List Nat
  keepT:List Nat
  cnt:Nat
def shOk(tk:List (Nat×Bool)):Sh->Sh->List (Nat×Option Nat)->Option (List (Nat×Option Nat))
  | .o,s,m=>match s.plain with
    | true=>some m
    | false=>none
  | .tok j,.nils,m=>match look m j with
    | none=>some ((j,none)::m)
    | some _=>none
  | .tok j,.tok k,m=>match look tk k,look m j,memT m k with
    | some true,none,false=>some ((j,some k)::m)
    | _,_,_=>none
  | .pr a b,.pr c d,m=>match shOk tk a c m with
    | some m1=>shOk tk b d m1
    | none=>none
  | a,b,m=>match decide (a=b),noTok a with
    | true,true=>some m
    | _,_=>none
  where
  noTok:Sh->Bool
    | .tok _=>false
    | .pr a b=>noTok a&&noTok b
    | _=>true
def getLoc(st:St):Loc->Option Vl
  | .s n=>match look st.sl n with
    | some (some v)=>some v
    | _=>none
  | .b n=>match look st.bx n with
    | some (.rw v)=>some v
    | _=>none
  | .t _=>none
def shJoin(st:St):List JE->List (Nat×Option Nat)->Option (List (Nat×Option Nat))
  | [],m=>some m
  | e::r,m=>match getLoc st e.loc with
    | some v=>match shOk st.tk e.sh v.sh m with
      | some m1=>shJoin st r m1
      | none=>none
    | none=>none
def valJoin(st:St):(js:List JE)->Option (JD js)
  | []=>some ()
  | e::r=>match getLoc st e.loc with
    | some v=>match castTo e.ty v,valJoin st r with
      | some x,some y=>some (x,y)
      | _,_=>none
    | none=>none
def memN:List Loc->Loc->Bool
  | [],_=>false
  | x::r,y=>match decide (x=y) with
    | true=>true
    | false=>memN r y
def locsOk:List JE->List Nat->List Nat->Bool
  | [],_,_=>true
  | ⟨.s n,_,_⟩::r,ks,kb=>!ks.contains n&&locsOk r (n::ks) kb
  | ⟨.b n,_,_⟩::r,ks,kb=>!kb.contains n&&locsOk r ks (n::kb)
  | _,_,_=>false
def shBelow(n:Nat):Sh->Bool
  | .tok k=>Nat.blt k n
  | .mref k=>Nat.blt k n
  | .box k _ _=>Nat.blt k n
  | .elem k _ _ _ _ _=>Nat.blt k n
  | .pr a b=>shBelow n a&&shBelow n b
  | _=>true
def tokAbove(n:Nat):Sh->Bool
  | .tok k=>Nat.ble n k
  | .pr a b=>tokAbove n a&&tokAbove n b
  | _=>true
def locBelow(n:Nat):Loc->Bool
  | .b k=>Nat.blt k n
  | _=>true
def joinOk(st0 st:St) (j:JS):Bool :=
  j.keepS.all (fun n=>!memN st.wr (.s n)&&match look st.sl n with | some (some _)=>true | _=>false) &&
  j.keepB.all (fun n=>!memN st.wr (.b n)&&match look st.bx n with | some (.rw _)=>true | some (.ro _ _)=>true | _=>false) &&
  j.keepT.all (fun n=>!memN st.wr (.t n)&&match look st.tk n with | some true=>true | _=>false) &&
  locsOk j.js j.keepS j.keepB&&Nat.ble st0.cnt j.cnt &&
  j.js.all (fun e=>shBelow j.cnt e.sh&&tokAbove st0.cnt e.sh&&locBelow j.cnt e.loc) &&
  match shJoin st j.js [] with
  | some m=>m.all fun p=>match p.2 with
    | some k=>!j.keepT.contains k
    | none=>true
  | none=>false
def pickL{α:Type} (l:List (Nat×α)):List Nat->List (Nat×α)
  | []=>[]
  | n::r=>match look l n with
    | some a=>(n,a)::pickL l r
    | none=>pickL l r
def upd:(js:List JE)->JD js->St->St
  | [],_,st=>st
  | ⟨.s n,t,s⟩::r,x,st=>let st':=upd r x.2 st
    { st' with sl:=(n,some ⟨t,x.1,s⟩)::st'.sl,tk:=(toksOf s).map (·,true)++st'.tk }
  | ⟨.b n,t,s⟩::r,x,st=>let st':=upd r x.2 st
    { st' with bx:=(n,.rw ⟨t,x.1,s⟩)::st'.bx,tk:=(toksOf s).map (·,true)++st'.tk }
  | ⟨.t _,_,_⟩::r,x,st=>upd r x.2 st
def joinSt(st:St) (j:JS) (x:JD j.js):St :=
  upd j.js x { sl:=pickL st.sl j.keepS,bx:=pickL st.bx j.keepB,tk:=pickL st.tk j.keepT,cnt:=j.cnt,wr:=j.js.map (·.loc)++st.wr }
def endJ0(st0 st:St) (j:JS):Option (JD j.js) :=
  match joinOk st0 st j with
  | true=>valJoin st j.js
  | false=>none
def menS(n:Nat):Sh->Bool
  | .mref k=>Nat.beq k n
  | .box k _ _=>Nat.beq k n
  | .elem k _ _ _ _ _=>Nat.beq k n
  | .pr a b=>menS n a||menS n b
  | _=>false
def bxMen(n:Nat):Bx->Bool
  | .rw v=>menS n v.sh
  | .ro _ v=>menS n v.sh
  | .dead=>false
def pickM{α:Type} (f:Nat->Option α):List Nat->List (Nat×α)
  | []=>[]
  | n::r=>match f n with
    | some a=>(n,a)::pickM f r
    | none=>pickM f r
def jsS:List JE->List Nat
  | []=>[]
  | ⟨.s n,_,_⟩::r=>n::jsS r
  | _::r=>jsS r
def jsB:List JE->List Nat
  | []=>[]
  | ⟨.b n,_,_⟩::r=>n::jsB r
  | _::r=>jsB r
def jsM(n:Nat):List JE->Nat->Bool
  | [],_=>false
  | ⟨.s i,_,.mref m⟩::r,s=>(Nat.beq i s&&Nat.beq m n)||jsM n r s
  | _::r,s=>jsM n r s
def renS(st:St) (js:List JE) (n k:Nat) (i:Nat):Option (Option Vl) :=
  match look st.sl i with
  | some (some v)=>match jsM n js i with
    | true=>match v with
      | ⟨.sl e,x,.mref k'⟩=>match Nat.beq k' k with
        | true=>some (some ⟨.sl e,x,.mref n⟩)
        | false=>none
      | _=>none
    | false=>match menS n v.sh with
      | true=>none
      | false=>some (some v)
  | _=>none
def renB(st:St) (n k:Nat) (i:Nat):Option Bx :=
  match Nat.beq i n||Nat.beq i k with
  | true=>none
  | false=>match look st.bx i with
    | some y=>match bxMen n y with
      | true=>none
      | false=>some y
    | none=>none
def ren1(st:St) (j:JS) (n k:Nat):St :=
  match look st.bx k with
  | some (.rw ⟨.ms e,l,s⟩) =>
    { st with
      sl:=pickM (renS st j.js n k) (jsS j.js++j.keepS)
      bx:=(n,.rw ⟨.ms e,l,s⟩)::pickM (renB st n k) (jsB j.js++j.keepB)
      wr:=.b n::(j.js.map (·.loc)++st.wr) }
  | _=>st
def renOf(st:St):List JE->List (Nat×Nat)
  | []=>[]
  | ⟨.s i,_,.mref n⟩::r=>match look st.sl i with
    | some (some ⟨_,_,.mref k⟩)=>match Nat.beq n k with
      | true=>renOf st r
      | false=>(n,k)::renOf st r
    | _=>renOf st r
  | _::r=>renOf st r
def renAll(c0:Nat) (j:JS):List (Nat×Nat)->St->Option St
  | [],st=>some st
  | (n,k)::r,st=>match Nat.ble c0 n with
    | true=>renAll c0 j r (ren1 st j n k)
    | false=>none
def endJ(st0 st:St) (j:JS):Option (JD j.js) :=
  match renAll st0.cnt j (renOf st j.js) st with
  | some st1=>endJ0 st0 st1 j
  | none=>none
inductive Its where
  | nil
  | op (i:Nat) (m:Bool) (rest:Its)
  | grp (j:Nat) (want:Bool) (body:Its) (pick:Nat) (rest:Its)
def Its.go:Nat->Nat->Its
  | 0,_=>.nil
  | n+1,i=>.op i false (Its.go n (i+1))
def Its.upto(n:Nat):Its:=Its.go n 0
def Its.flat:Its->List Nat
  | .nil=>[]
  | .op i _ r=>i::r.flat
  | .grp _ _ b p r=>b.flat++p::r.flat
def Its.dsts(ops:Array Oper):Its->List Nat
  | .nil=>[]
  | .op i _ r=>match ops[i]? with
    | some ⟨some d,_,_,_,_,_⟩=>d::r.dsts ops
    | _=>r.dsts ops
  | .grp _ _ b p r=>b.dsts ops++(match ops[p]? with
    | some ⟨some d,_,_,_,_,_⟩=>d::r.dsts ops
    | _=>r.dsts ops)
def guardIs(o:Oper) (g:Option (Nat×Bool)):Bool:=decide (o.guard=g)
def inMask(m:Nat):List Loc->Bool
  | []=>true
  | l::r=>m.testBit l.code&&inMask m r
def patchLocs(dst:Option Nat) (p:Patch):List Loc :=
  (match dst with | some d=>[Loc.s d] | none=>[])++p.bs.map (Loc.b ·.1)++p.ts.map (Loc.t ·.1)
def fpOk(fps:List (Nat×Nat)) (i:Nat) (dst:Option Nat) (p:Patch) (f:List Loc):Bool :=
  match fps with
  | []=>true
  | _=>match fps[i]? with
    | some (r,w)=>inMask r f&&inMask w (patchLocs dst p)
    | none=>false
noncomputable def evIts(E:Env) (ops:Array Oper) (fps:List (Nat×Nat)):Its->(g:Option (Nat×Bool))->Nat->{R:Type}->St->(St->Option R)->Option R
  | .nil,_,_,_,st,K=>K st
  | .op i m rest,g,c0,_,st,K=>match ops[i]? with
    | some o=>(evOp E st.cnt m o).go st [] fun p f=>match fpOk fps i o.dst p f&&Nat.ble p.fr 32 with
        | true=>match g with
          | none=>evIts E ops fps rest g c0 (st.patch o.dst p) K
          | some _=>match p.bs,p.ts.all fun q=>q.2||Nat.ble c0 q.1 with
            | [],true=>evIts E ops fps rest g c0 (st.patch o.dst p) K
            | _,_=>none
        | false=>none
    | none=>none
  | .grp j want body pick rest,g,c0,_,st,K =>
    match ops[j]?,ops[pick]? with
    | some oj,some op=>match op,oj.dst with
      | ⟨some d,.pick _ a b,t,_,_,_⟩,some c=>match look st.sl c with
        | some (some ⟨.bool,q,_⟩)=>match look E.ty t,st.tk.all fun k=>Nat.blt k.1 st.cnt with
          | some τ,true =>
            let fin (st':St) (x:Operand):Option τ.D :=
              (opd E x (some τ) retV).go st' [] fun p _=>match p.v with
                | some v=>castV τ v
                | none=>none
            bnd (cnd (match want with | true=>q | false=>!q)
                (evIts E ops fps body (some (j,want)) st.cnt st fun st'=>fin st' (match want with | true=>a | false=>b))
                (fin st (match want with | true=>b | false=>a)))
              fun x=>evIts E ops fps rest g c0
                { st with sl:=(d,some ⟨τ,x,.o⟩)::((body.dsts ops).map (·,none)++st.sl),cnt:=st.cnt+32*body.flat.length,wr:=(d::body.dsts ops).map Loc.s++st.wr } K
          | _,_=>none
        | _=>none
      | _,_=>none
    | _,_=>none
def eqNats:List Nat->List Nat->Bool
  | [],[]=>true
  | a::l,b::r=>Nat.beq a b&&eqNats l r
  | _,_=>false
def itsOk(ops:Array Oper):Its->(g:Option (Nat×Bool))->List Nat->Bool
  | .nil,_,_=>true
  | .op i _ r,g,js=>(match ops[i]? with | some o=>guardIs o g | none=>false)&&itsOk ops r g (i::js)
  | .grp j w body pick r,g,js=>memNat js j&&itsOk ops body (some (j,w)) []&&(match ops[j]?,ops[pick]? with
      | some oj,some op=>guardIs op g&&(match oj.dst,op.dst,op.op with
        | some c,some _,.pick (.tmp c') a b=>Nat.beq c c'&&(match (match w with | true=>b | false=>a) with
          | .tmp n=>!memNat (body.dsts ops) n
          | _=>true)
        | _,_,_=>false)
      | _,_=>false)&&itsOk ops r g (pick::js)
def regOk(ops:Array Oper) (its:Its):Bool :=
  itsOk ops its none []&&eqNats its.flat (upTo ops.size 0)&&nodupN (ops.toList.filterMap (·.dst))
def ancStep(acc:List Nat) (m:Nat) (e:Edge):Nat:=match Region.binds .any e with
  | true=>m ||| (1 <<< e.on) ||| acc.getD e.on 0
  | false=>m
def ancs(ops:List Oper):List Nat:=go ops []
  where
  go:List Oper->List Nat->List Nat
    | [],acc=>acc
    | o::r,acc=>go r (acc++[o.after.toList.foldl (ancStep acc) 0])
def pairOk(x y:Nat×Nat):Bool :=
  Nat.beq (x.2 &&& y.1) 0&&Nat.beq (x.1 &&& y.2) 0&&Nat.beq (x.2 &&& y.2) 0
def tmpIn(m:Nat):Operand->Bool
  | .tmp n=>m.testBit (3*n)
  | _=>true
def statOk(all:Array Oper):List Oper->List (Nat×Nat)->Nat->Bool
  | [],[],_=>true
  | o::os,(r,w)::fs,i =>
    o.after.toList.all (fun e=>!Region.binds .any e||Nat.blt e.on i) &&
    (match o.dst with | some d=>w.testBit (3*d) | none=>true) &&
    (match o.guard with
      | some (j,_)=>match all[j]? with
        | some oj=>match oj.dst with | some c=>r.testBit (3*c) | none=>true
        | none=>true
      | none=>true) &&
    (match o.op with
      | .pick c a b=>tmpIn r c&&tmpIn r a&&tmpIn r b
      | .binOp _ _ _ y _=>!isNilC y
      | _=>true)&&statOk all os fs (i+1)
  | _,_,_=>false
def drawOk(ops:List Oper) (fps:List (Nat×Nat)):Bool :=
  Nat.beq fps.length ops.length&&go (ancs ops) fps 0 fps&&statOk ops.toArray ops fps 0
  where
  inner (aj:Nat) (fj:Nat×Nat):List (Nat×Nat)->Nat->Nat->Bool
    | [],_,_=>true
    | _,_,0=>true
    | fi::r,i,n+1=>(aj.testBit i||pairOk fi fj)&&inner aj fj r (i+1) n
  go:List Nat->List (Nat×Nat)->Nat->List (Nat×Nat)->Bool
    | aj::as,fj::fs,j,all=>inner aj fj all 0 j&&go as fs (j+1) all
    | _,_,_,_=>true
inductive Ex where
  | normal | exit (id:Nat) | ret
inductive Ann where
  | leaf
  | reg (its:Its) (fps:List (Nat×Nat))
  | sq (a b:Ann)
  | jn (j:JS) (pure:Bool) (a:Ann)
  | lp (j:JS) (a:Ann)
def Ann.fst:Ann->Ann
  | .sq a _=>a
  | _=>.leaf
def Ann.snd:Ann->Ann
  | .sq _ b=>b
  | _=>.leaf
noncomputable def ev(E:Env):(c:Code)->Ann->{R:Type}->St->(Ex->St->Option R)->Option R
  | .skip,_,_,st,K=>K .normal st
  | .region _ ops draw,n,_,st,K=>match n with
    | .reg its fps=>match regOk ops its&&(match draw with | true=>drawOk ops.toList fps | false=>fps.isEmpty) with
      | true=>evIts E ops fps its none 0 st fun st'=>K .normal st'
      | false=>none
    | _=>none
  | .seq a b,n,_,st,K=>ev E a n.fst st fun e st'=>match e with
    | .normal=>ev E b n.snd st' K
    | e=>K e st'
  | .cond c a b,n,R,st,K=>(opd E c none retV).go st [] fun p _=>match p.v with
    | some ⟨.bool,q,_⟩=>match n with
      | .jn j true n' =>
        let st0:St:={ st with wr:=[] }
        let K' (e:Ex) (st':St):Option (JD j.js):=match e with
          | .normal=>endJ st0 st' j
          | _=>none
        bnd (cnd q (ev E a n'.fst st0 K') (ev E b n'.snd st0 K')) fun x=>K .normal (joinSt st j x)
      | .jn j false n' =>
        let st0:St:={ st with wr:=[] }
        let K' (e:Ex) (st':St):Option (JD j.js ⊕ R):=match e with
          | .normal=>match endJ st0 st' j with
            | some x=>inlE x
            | none=>none
          | e=>inrE (K e { st' with wr:=st'.wr++st.wr })
        bndS (cnd q (ev E a n'.fst st0 K') (ev E b n'.snd st0 K')) fun x=>K .normal (joinSt st j x)
      | n'=>cnd q (ev E a n'.fst st K) (ev E b n'.snd st K)
    | _=>none
  | .block id c,n,R,st,K=>match n with
    | .jn j true n' =>
        let st0:St:={ st with wr:=[] }
        let K' (e:Ex) (st':St):Option (JD j.js):=match e with
          | .normal=>endJ st0 st' j
          | .exit id'=>match Nat.beq id id' with
            | true=>endJ st0 st' j
            | false=>none
          | _=>none
        bnd (ev E c n' st0 K') fun x=>K .normal (joinSt st j x)
    | .jn j false n' =>
        let st0:St:={ st with wr:=[] }
        let fin (st':St):Option (JD j.js ⊕ R):=match endJ st0 st' j with
            | some x=>inlE x
            | none=>none
        let K' (e:Ex) (st':St):Option (JD j.js ⊕ R):=match e with
          | .normal=>fin st'
          | .exit id'=>match Nat.beq id id' with
            | true=>fin st'
            | false=>inrE (K (.exit id') { st' with wr:=st'.wr++st.wr })
          | .ret=>inrE (K .ret { st' with wr:=st'.wr++st.wr })
        bndS (ev E c n' st0 K') fun x=>K .normal (joinSt st j x)
    | n'=>ev E c n' st fun e st'=>match e with
      | .exit id'=>match Nat.beq id id' with
        | true=>K .normal st'
        | false=>K (.exit id') st'
      | e=>K e st'
  | .loop c,n,R,st,K=>match n with
    | .lp j n' =>
      let st0:St:={ st with wr:=[] }
      match endJ st0 st0 j with
      | some x0=>loopP (σ:=JD j.js) (ρ:=R) (fun x =>
          ev E c n' (joinSt st0 j x) fun e st'=>match e with
            | .normal=>match endJ st0 st' j with
              | some y=>inlE y
              | none=>none
            | e=>inrE (K e { st' with wr:=st'.wr++st.wr })) x0
      | none=>none
    | _=>none
  | .exit id,_,_,st,K=>K (.exit id) st
  | .ret,_,_,st,K=>K .ret st
  | _,_,_,_,_=>none
def dstOk(nt:Nat):Code->Bool
  | .region _ ops _=>ops.toList.all fun o=>match o.dst with
    | some d=>Nat.blt d nt
    | none=>true
  | .seq a b=>dstOk nt a&&dstOk nt b
  | .cond _ a b=>dstOk nt a&&dstOk nt b
  | .block _ c=>dstOk nt c
  | .loop c=>dstOk nt c
  | _=>true
def initSl:(t:Ty)->t.D->List Sh->Nat->List (Nat×Option Vl)
  | .tu a b,x,s,n=>(n,some ⟨a,x.1,s.headD .o⟩)::initSl b x.2 s.tail (n+1)
  | _,_,_,_=>[]
def initBx:(bs:List BoxS)->(boxT bs).D->Nat->List (Nat×Bx)
  | [],_,_=>[]
  | b::r,x,n=>(n,match b.sout with
    | some _=>.rw ⟨b.ty,x.1,b.sin⟩
    | none=>.ro false ⟨b.ty,x.1,b.sin⟩)::initBx r x.2 (n+1)
def conArg:(A:Ty)->(bs:List BoxS)->(inT A bs).D->A.D×(boxT bs).D
  | _,[],x=>(x,())
  | _,_::_,x=>x
def resOne(E:Env) (st:St):ResultVar->Option Vl
  | .tmp n=>match look st.sl n with
    | some (some v)=>some v
    | _=>none
  | .cell n t=>match look st.sl n with
    | some (some ⟨.ptr,_,.box id path off⟩)=>match look st.bx id with
      | some (.rw c)=>match getP c path with
        | some v=>match decide (offP c.ty path=some off),decide (look E.ty t=some v.ty)&&v.ty.std with
          | true,true=>some v
          | _,_=>none
        | none=>none
      | _=>none
    | _=>none
def resL(E:Env) (st:St):List ResultVar->Option (List Vl)
  | []=>some []
  | r::l=>match resOne E st r,resL E st l with
    | some v,some vs=>some (v::vs)
    | _,_=>none
def Sh.isPr:Sh->Bool
  | .o=>true
  | .pr _ _=>true
  | _=>false
def finV(st:St) (nf:Nat):(t:Ty)->Sh->Vl->List (Nat×Option Nat)->Option (t.D×List (Nat×Option Nat))
  | .sl e,s,v,m=>match decide (v.ty=.sl e) with
    | true=>match s,v.sh with
      | .mref j,.mref k=>match look st.bx k,look m j,memT m k with
        | some (.rw c),none,false=>match castTo (.ms e) c with
          | some l=>some (l,(j,some k)::m)
          | none=>none
        | _,_,_=>none
      | .o,.mref k=>match look st.bx k,look m (nf+k),memT m k with
        | some (.rw c),none,false=>match castTo (.ms e) c with
          | some l=>some (l,(nf+k,some k)::m)
          | none=>none
        | _,_,_=>none
      | .tok j,.nils=>match castTo (.sl e) v,look m j with
        | some l,none=>some (l,(j,none)::m)
        | _,_=>none
      | .tok j,.tok k=>match castTo (.sl e) v,look st.tk k,look m j,memT m k with
        | some l,some true,none,false=>some (l,(j,some k)::m)
        | _,_,_,_=>none
      | .nils,.nils=>match castTo (.sl e) v with
        | some l=>some (l,m)
        | none=>none
      | .o,s'=>match castTo (.sl e) v,s'.plain with
        | some l,true=>some (l,m)
        | _,_=>none
      | _,_=>none
    | false=>none
  | .pr a b,s,⟨.pr a' b',x,w⟩,m=>match s.isPr,finV st nf a s.fst ⟨a',x.1,w.fst⟩ m with
    | true,some (y,m1)=>match finV st nf b s.snd ⟨b',x.2,w.snd⟩ m1 with
      | some (z,m2)=>some ((y,z),m2)
      | none=>none
    | _,_=>none
  | t,s,v,m=>match castV t v with
    | some x=>match s with
      | .o=>some (x,m)
      | s=>match decide (s=v.sh)&&shOk.noTok s with
        | true=>some (x,m)
        | false=>none
    | none=>none
def finL(st:St) (nf:Nat):(t:Ty)->Sh->List Vl->List (Nat×Option Nat)->Option (t.D×List (Nat×Option Nat))
  | .unit,s,[],m=>match decide (s=.o) with
    | true=>some ((),m)
    | false=>none
  | .tu a b,s,v::vs,m=>match s.isPr,finV st nf a s.fst v m with
    | true,some (y,m1)=>match finL st nf b s.snd vs m1 with
      | some (z,m2)=>some ((y,z),m2)
      | none=>none
    | _,_=>none
  | _,_,_,_=>none
def finR(st:St) (nf:Nat) (B:Ty) (s:Sh) (vs:List Vl) (m:List (Nat×Option Nat)):Option (B.D×List (Nat×Option Nat)) :=
  match vs with
  | [v]=>match B with
    | .tu _ _=>none
    | .nx=>none
    | B=>finV st nf B s v m
  | vs=>match B with
    | .unit=>finL st nf .unit s vs m
    | .tu a b=>finL st nf (.tu a b) s vs m
    | _=>none
def finN(st:St) (nf:Nat):(nb:List (Nat×Ty×Sh))->List (Nat×Option Nat)->Option ((tuL (nbL nb)).D×List (Nat×Option Nat))
  | [],m=>some ((),m)
  | (j,t,s)::nb,m=>match look st.bx j with
    | some (.rw c)=>match finV st nf t s c m with
      | some (y,m1)=>match finN st nf nb m1 with
        | some (z,m2)=>some ((y,z),m2)
        | none=>none
      | none=>none
    | _=>none
def finB(st:St) (nf:Nat):(bs:List BoxS)->(nb:List (Nat×Ty×Sh))->Nat->List (Nat×Option Nat) ->
    Option ((tuL (outL bs nb)).D×List (Nat×Option Nat))
  | [],nb,_,m=>finN st nf nb m
  | ⟨t,_,some s⟩::bs,nb,i,m=>match look st.bx i with
    | some (.rw c)=>match finV st nf t s c m with
      | some (y,m1)=>match finB st nf bs nb (i+1) m1 with
        | some (z,m2)=>some ((y,z),m2)
        | none=>none
      | none=>none
    | _=>none
  | ⟨_,_,none⟩::bs,nb,i,m=>finB st nf bs nb (i+1) m
def conRes:(B:Ty)->(l:List Ty)->B.D->(tuL l).D->(outT B l).D
  | _,[],y,_=>y
  | _,_::_,y,o=>(y,o)
noncomputable def run(E:Env) (fn:Func) (n:Ann) (c:Con) (x:c.I.D):Option c.R.D :=
  match fn.body with
  | some code =>
    ev E code n { sl:=initSl c.A (conArg c.A c.bs x).1 c.ash 0,bx:=initBx c.bs (conArg c.A c.bs x).2 0,tk:=(c.bs.flatMap fun b=>toksOf b.sin).map (·,true),cnt:=c.lo,wr:=[] } fun e st =>
      match e with
      | .exit _=>none
      | _=>match resL E st fn.results.toList with
        | some vs=>match finR st c.fr c.B c.bsh vs [] with
          | some (y,m)=>match finB st c.fr c.bs c.nb 0 m with
            | some (o,_)=>some (conRes c.B (outL c.bs c.nb) y o)
            | none=>none
          | none=>none
        | none=>none
  | none=>none
end Go.VX
/- VX, part 2: how plain data reads in memory. -/
set_option linter.unusedVariables false
set_option linter.unusedSimpArgs false
namespace Go.VX
open Go.RowKit (Below)
abbrev Own:=Nat->Nat->Prop
def noOwn:Own:=fun _ _=>False
structure Mp where
 box:Nat->Nat×Nat
 tok:Nat->Option (Nat×Nat)×Nat×Nat×Nat
 row:Nat->Option (Nat×Nat)×Nat×Nat
 fr:Own
instance:Inhabited Mp:=⟨⟨fun _=>(0,0),fun _=>(none,0,0,0),fun _=>(none,0,0),noOwn⟩⟩
def adr(p:Nat×Nat):Addr:=⟨p.1,p.2,none⟩
structure Ext (O:Own) (w w':World):Prop where
 size:w.heap.size<=w'.heap.size
 cell:∀ b o,b<w.heap.size->¬ O b o->w'.cell? ⟨b,o,none⟩=w.cell? ⟨b,o,none⟩
theorem Ext.refl(O:Own) (w:World):Ext O w w:=⟨Nat.le_refl _,fun _ _ _ _=>rfl⟩
theorem Ext.trans{O O':Own} {w w1 w2:World} (h:Ext O w w1) (k:Ext O' w1 w2) (ho:∀ b o,b<w.heap.size->O' b o->O b o):Ext O w w2 :=
 ⟨Nat.le_trans h.size k.size,fun b o hb hn=>(k.cell b o (Nat.lt_of_lt_of_le hb h.size) (fun x=>hn (ho b o hb x))).trans (h.cell b o hb hn)⟩
theorem Ext.mono{O O':Own} {w w':World} (h:Ext O w w') (ho:∀ b o,b<w.heap.size->O b o->O' b o):Ext O' w w' :=
 ⟨h.size,fun b o hb hn=>h.cell b o hb (fun x=>hn (ho b o hb x))⟩
def KeepObj(I:Nat->Prop) (x:Obj) (y:Option Obj):Prop :=
 match x with
 | .cells c e fr=>∃ c',y=some (.cells c' e fr)/\c'.size=c.size/\∀ o,¬ I o->c'[o]?=c[o]?
 | x=>y=some x
theorem KeepObj.refl(I:Nat->Prop) (x:Obj):KeepObj I x (some x):=by
 unfold KeepObj
 split
 ·exact⟨_,rfl,rfl,fun _ _=>rfl⟩
 ·rfl
structure Keeps (I:Own) (w w':World):Prop where
 os:w'.os=w.os
 tape:w'.tape=w.tape
 output:w'.output=w.output
 size:w.heap.size<=w'.heap.size
 block:∀ k x,w.heap[k]?=some x->KeepObj (I k) x w'.heap[k]?
theorem Keeps.refl(I:Own) (w:World):Keeps I w w:=⟨rfl,rfl,rfl,Nat.le_refl _,fun k x h=>by rw[h];exact KeepObj.refl _ _⟩
theorem Keeps.trans{I I':Own} {w w1 w2:World} (h:Keeps I w w1) (k:Keeps I' w1 w2) (hi:∀ b o,b<w.heap.size->I' b o->I b o):Keeps I w w2:=by
 refine⟨k.os.trans h.os,k.tape.trans h.tape,k.output.trans h.output,Nat.le_trans h.size k.size,fun i x hx=>?_⟩
 have hlt:i<w.heap.size:=(Array.getElem?_eq_some_iff.1 hx).1
 have h1:=h.block i x hx
 cases x with
 | cells c e fr =>
  simp only[KeepObj] at h1 ⊢
  obtain⟨c',hc',hs,he⟩:=h1
  have h2:=k.block i _ hc'
  simp only[KeepObj] at h2
  obtain⟨c2,hc2,hs2,he2⟩:=h2
  exact⟨c2,hc2,hs2.trans hs,fun o ho=>(he2 o (fun x=>ho (hi i o hlt x))).trans (he o ho)⟩
 | _ =>
  simp only[KeepObj] at h1 ⊢
  have h2:=k.block i _ h1
  simpa only[KeepObj] using h2
theorem cell_some{w:World} {b o:Nat} {v:Value} (h:w.cell? ⟨b,o,none⟩=some v):∃ c e fr,w.heap[b]?=some (.cells c e fr)/\c[o]?=some v:=by
 simp only[World.cell?] at h
 split at h
 ·rename_i c e fr hh
  exact⟨c,e,fr,hh,by simpa using h⟩
 ·cases h
theorem cell_lt{w:World} {b o:Nat} {v:Value} (h:w.cell? ⟨b,o,none⟩=some v):b<w.heap.size:=by
 obtain⟨c,e,fr,hh,_⟩:=cell_some h
 exact(Array.getElem?_eq_some_iff.1 hh).1
theorem Keeps.cell{I:Own} {w w':World} (h:Keeps I w w') (b o:Nat) (hb:b<w.heap.size) (hn:¬ I b o):w'.cell? ⟨b,o,none⟩=w.cell? ⟨b,o,none⟩:=by
 have hx:w.heap[b]?=some w.heap[b]:=Array.getElem?_eq_getElem hb
 have h1:=h.block b _ hx
 generalize w.heap[b]=x at hx h1
 unfold KeepObj at h1
 split at h1
 ·obtain⟨c',hc',hs,he⟩:=h1
  simp [World.cell?,hx,hc',he o hn]
 ·simp only[World.cell?,hx,h1]
theorem Keeps.ext{I:Own} {w w':World} (h:Keeps I w w'):Ext I w w':=⟨h.size,h.cell⟩
theorem Keeps.frozen{I:Own} {w w':World} (h:Keeps I w w') (b o:Nat) (hb:b<w.heap.size):w'.frozen? ⟨b,o,none⟩=w.frozen? ⟨b,o,none⟩:=by
 have hx:w.heap[b]?=some w.heap[b]:=Array.getElem?_eq_getElem hb
 have h1:=h.block b _ hx
 generalize w.heap[b]=x at hx h1
 unfold KeepObj at h1
 split at h1
 ·obtain⟨c',hc',hs,he⟩:=h1
  simp [World.frozen?,hx,hc']
 ·simp only[World.frozen?,hx,h1]
theorem Keeps.cleanF{I:Own} {w w':World} (h:Keeps I w w') (b:Nat) (hb:b<w.heap.size) (hc:∀ o,w.frozen? ⟨b,o,none⟩=false):∀ o,w'.frozen? ⟨b,o,none⟩=false:=fun o=>(h.frozen b o hb).trans (hc o)
theorem Keeps.isSome{I:Own} {w w':World} (h:Keeps I w w') (b o:Nat) (hc:(w.cell? ⟨b,o,none⟩).isSome):(w'.cell? ⟨b,o,none⟩).isSome:=by
 obtain⟨v,hv⟩:=Option.isSome_iff_exists.1 hc
 obtain⟨c,e,fr,hh,hcv⟩:=cell_some hv
 have h1:=h.block b _ hh
 simp only[KeepObj] at h1
 obtain⟨c',hc',hs,he⟩:=h1
 have:o<c'.size:=by rw[hs];exact(Array.getElem?_eq_some_iff.1 hcv).1
 simp [World.cell?,hc',this]
theorem Keeps.mono{I I':Own} {w w':World} (h:Keeps I w w') (hi:∀ b o,I b o->I' b o):Keeps I' w w':=by
 refine⟨h.os,h.tape,h.output,h.size,fun k x hx=>?_⟩
 have h1:=h.block k x hx
 unfold KeepObj at h1 ⊢
 split at h1
 ·obtain⟨c',a,b,c⟩:=h1
  exact⟨c',a,b,fun o ho=>c o (fun y=>ho (hi k o y))⟩
 ·exact h1
theorem Keeps.below{w w':World} (h:Keeps noOwn w w'):Below w.heap.size w w':=by
 refine⟨h.os,h.tape,h.output,h.size,fun k hk=>?_⟩
 have hx:w.heap[k]?=some w.heap[k]:=Array.getElem?_eq_getElem hk
 have h1:=h.block k _ hx
 rw[hx]
 generalize w.heap[k]=x at hx h1
 unfold KeepObj at h1
 split at h1
 ·obtain⟨c',hc',hs,he⟩:=h1
  have:c'=_:=Array.ext (by simpa using hs) (fun i hi hi'=>by
   have:=he i (by simp [noOwn])
   rw[Array.getElem?_eq_getElem hi,Array.getElem?_eq_getElem (by omega)] at this
   exact Option.some.inj this)
  rw[hc',this]
 ·exact h1
theorem Keeps.alloc{I:Own} (w:World) (o:Obj):Keeps I w (w.alloc o) :=
 ⟨rfl,rfl,rfl,by show _<=(w.heap.push o).size;simp,fun k x hx=>by
  have hk:k<w.heap.size:=(Array.getElem?_eq_some_iff.1 hx).1
  have:(w.alloc o).heap[k]?=w.heap[k]?:=by
   show(w.heap.push o)[k]?=_
   rw[Array.getElem?_push,if_neg (by omega)]
  rw[this,hx];exact KeepObj.refl _ _⟩
theorem Keeps.drewN{I:Own} (w:World) (n:Nat):Keeps I w { w with drawn:=n } :=
 ⟨rfl,rfl,rfl,Nat.le_refl _,fun k x hx=>by show KeepObj _ _ w.heap[k]?;rw[hx];exact KeepObj.refl _ _⟩
theorem Keeps.setCell{I:Own} (w:World) (b o:Nat) (v:Value) (hI:I b o):Keeps I w (w.setCell ⟨b,o,none⟩ v):=by
 refine⟨rfl,rfl,rfl,by simp [World.setCell],fun k x hx=>?_⟩
 simp only[World.setCell,Array.getElem?_modify,hx]
 by_cases hk:b=k
 ·subst hk
  simp only[if_true,Option.map_some]
  unfold KeepObj
  split
  ·rename_i c e fr
   refine⟨_,rfl,by simp,fun o' ho'=>?_⟩
   have:o≠o':=fun h=>ho' (h ▸ hI)
   simp [Array.getElem?_setIfInBounds,this]
  ·rename_i hne
   split
   ·rename_i c e fr;exact absurd rfl (hne c e fr)
   ·rfl
 ·simp only[hk,if_false]
  exact KeepObj.refl _ _
theorem Keeps.setCells{I:Own} (b:Nat):∀ (vs:List Value) (o:Nat) (w:World),(∀ j,j<vs.length->I b (o+j))->Keeps I w (w.setCells b o vs)
 | [],_,w,_=>Keeps.refl _ _
 | v::r,o,w,h=>(Keeps.setCell w b o v (by simpa using h 0 (by simp))).trans
   (Keeps.setCells b r (o+1) _ (fun j hj=>by have:=h (j+1) (by simp;omega);rwa [show o+(j+1)=o+1+j by omega] at this)) (fun _ _ _ x=>x)
def Cells(w:World) (O:Own) (b o:Nat) (cs:List Value):Prop :=
 ∀ j v,cs[j]?=some v->w.cell? ⟨b,o+j,none⟩=some v/\¬ O b (o+j)
theorem Cells.mono{w w':World} {O O':Own} {b o:Nat} {cs:List Value} (h:Cells w O b o cs) (hx:Ext O w w') (ho:∀ b o,b<w.heap.size->O' b o->O b o):Cells w' O' b o cs:=by
 intro j v hv
 obtain⟨h1,h2⟩:=h j v hv
 have hb:=cell_lt h1
 exact⟨(hx.cell _ _ hb h2).trans h1,fun x=>h2 (ho _ _ hb x)⟩
def Ty.tup:Ty->Bool
 | .tu _ _=>true
 | .nx=>true
 | _=>false
def ValOf(agg:Bool) (R:List Value->Prop) (v:Value):Prop :=
 match agg with
 | true=>∃ cs:List Value,v=.agg cs.toArray/\R cs
 | false=>R [v]
theorem ValOf.imp{agg:Bool} {R R':List Value->Prop} {v:Value} (h:ValOf agg R v) (k:∀ cs,R cs->R' cs):ValOf agg R' v:=by
 cases agg with
 | true=>obtain⟨cs,e,r⟩:=h;exact⟨cs,e,k cs r⟩
 | false=>exact k _ h
def Clean(w:World) (b:Nat):Prop:=∀ o,w.frozen? ⟨b,o,none⟩=false
def FnOk(P:Program) {α β:Type} (RA:World->Own->α->List Value->Prop) (RB:World->Own->β->Value->Prop) (w:World) (O:Own) (g:α->Option β) (v:Value):Prop :=
 ∃ f caps fn, v = .func (.func f) #[] caps ∧ P.funcs[f]? = some fn ∧ (fn.name == "runtime.NumGoroutine") = false ∧ fn.body.isNone = false ∧
  ∀ w' F,Ext O w w'->(∀ b o,b<w.heap.size->F b o->O b o)->(∀ b o,F b o->(w'.cell? ⟨b,o,none⟩).isSome=true/\Clean w' b)->∀ x args,RA w' F x args->∀ y,g x=some y ->
   Calls P f (args.toArray++caps) w' fun e w''=>∃ v',e=.returned v'/\Keeps noOwn w' w''/\RB w'' F y v'
def PtrSh(M:Mp) (h:Sh) (p:Option Addr):Prop :=
 match h with
 | .nilp=>p=none
 | .box id _ off=>p=some ⟨(M.box id).1,(M.box id).2+off,none⟩
 | _=>True
def MapSh(M:Mp) (h:Sh) (p:Option Nat):Prop :=
 match h with
 | .nilp=>p=none
 | .box id _ _=>p=some (M.box id).1
 | _=>True
def Elems{α:Type} (R:α->List Value->Prop) (w:World) (O:Own) (sz:Nat) (p:Nat×Nat) (xs:List α):Prop :=
 ∀ i x,xs[i]?=some x->∃ es:List Value,es.length=sz/\Cells w O p.1 (p.2+i*sz) es/\R x es
def TokAt(M:Mp) (k:Nat) (a:Option (Nat×Nat)) (n c sz:Nat):Prop:=M.tok k=(a,n,c,sz)\/(a=none/\(M.tok k).1=none)
theorem TokAt.imp{M M':Mp} {k:Nat} {a:Option (Nat×Nat)} {n c sz:Nat} (h:TokAt M k a n c sz) (hm:M'.tok k=M.tok k):TokAt M' k a n c sz:=by
 unfold TokAt;rw[hm];exact h
theorem TokAt.some{M:Mp} {k:Nat} {p:Nat×Nat} {n c sz:Nat} (h:TokAt M k (some p) n c sz):M.tok k=(some p,n,c,sz):=by
 rcases h with h | ⟨h,_⟩
 ·exact h
 ·cases h
def SlSh(M:Mp) (h:Sh) (a:Option (Nat×Nat)) (n c sz:Nat) (E:Prop):Prop :=
 match h with
 | .mref id=>M.row id=(a,n,c)
 | .nils=>a=none
 | .tok k=>E/\TokAt M k a n c sz
 | _=>E
def Sh.loose:Sh->Bool
 | .mref _=>false
 | .nils=>false
 | .tok _=>false
 | _=>true
def SlV(h:Sh) (a:Option (Nat×Nat)) (n c:Nat) (cs:List Value):Prop :=
 cs=[.slice (a.map adr) n c]\/(h.loose=true/\c=0/\∃ x p,cs=[.slice (some x) n c]/\a=some p)
theorem SlV.o{h:Sh} {a:Option (Nat×Nat)} {n c:Nat} {cs:List Value} (k:SlV h a n c cs):SlV .o a n c cs:=k.imp (fun h=>h) fun h=>⟨rfl,h.2⟩
theorem SlV.strict{h:Sh} {a:Option (Nat×Nat)} {n c:Nat} {cs:List Value} (k:SlV h a n c cs) (hl:h.loose=false):cs=[.slice (a.map adr) n c] :=
 k.resolve_right fun h=>by rw[hl] at h;cases h.1
theorem SlV.pos{h:Sh} {a:Option (Nat×Nat)} {n c:Nat} {cs:List Value} (k:SlV h a n c cs) (hc:0<c):cs=[.slice (a.map adr) n c] :=
 k.resolve_right fun h=>by have:=h.2.1;omega
theorem SlV.any{h:Sh} {a:Option (Nat×Nat)} {n c:Nat} {cs:List Value} (k:SlV h a n c cs):∃ x:Option Addr,cs=[.slice x n c]/\x.isNone=a.isNone:=by
 rcases k with rfl | ⟨_,rfl,x,p,rfl,rfl⟩
 ·exact⟨_,rfl,by simp⟩
 ·exact⟨_,rfl,rfl⟩
def RetRep(b:Ty) (R:List Value->Prop) (v:Value):Prop :=
 match b with
 | .tu _ _=>∃ vs:List Value,v=.tuple vs.toArray/\R vs
 | b=>ValOf b.agg R v
abbrev LeC (n c:Nat):Prop:=n<=c/\n<=9223372036854775807
def RepC(P:Program):(t:Ty)->World->Own->Mp->t.D->Sh->List Value->Prop
 | .int k,_,_,_,x,_,cs=>cs=[.int k x]/\k.min<=x/\x<=k.max
 | .bool,_,_,_,x,_,cs=>cs=[.bool x]
 | .str,_,_,_,x,_,cs=>∃ s:ByteArray,cs=[.string s]/\strOf s=x/\List.length x<=9223372036854775807
 | .ptr,_,_,M,_,h,cs=>∃ p,cs=[.pointer p]/\PtrSh M h p
 | .unit,_,_,_,_,_,cs=>cs=[]
 | .sl e,w,O,M,x,h,cs=>∃ a n c,SlV h a n c cs/\n=List.length x/\LeC n c/\(a=none->c=0) /\
   SlSh M h a n c e.size (∀ p,a=some p->Elems (fun y es=>RepC P e w O M y .o es) w O e.size p x)
 | .ms _,_,_,_,_,_,_=>False
 | .pr a b,w,O,M,x,h,cs=>∃ c1 c2,cs=c1++c2/\c1.length=a.size/\c2.length=b.size/\a.tup=false/\b.tup=false /\
   RepC P a w O M x.1 h.fst c1/\RepC P b w O M x.2 h.snd c2
 | .tu a b,w,O,M,x,h,cs=>∃ v vs,cs=v::vs/\a.tup=false/\ValOf a.agg (fun c=>RepC P a w O M x.1 h.fst c) v/\RepC P b w O M x.2 h.snd vs
 | .fn a b,w,O,_,g,_,cs=>∃ v,cs=[v]/\v.oneCell'=true/\((∀ x,g x=none)\/FnOk P (fun w' F x vs=>RepC P a w' F default x .o vs) (fun w' F y v'=>RetRep b (fun c=>RepC P b w' F default y .o c) v') w O g v)
 | .rref e,w,O,M,x,_,cs=>∃ b o es,cs=[.pointer (some ⟨b,o,none⟩)]/\e.tup=false/\es.length=e.size/\Cells w O b o es/\RepC P e w O M x .o es
 | .eref,_,_,M,x,h,cs=>∃ b o,cs=[.pointer (some ⟨b,o,none⟩)]/\0<=(x:Int)/\match h with
   | .elem id _ off str _ poff=>b=(M.box id).1/\o=(M.box id).2+off+Int.toNat x*str+poff
   | _=>True
 | .mh,_,_,M,_,h,cs=>∃ p,cs=[.map p]/\MapSh M h p
 | .nx,_,_,M,x,h,cs=>match h with
   | .mref id=>∃ a c,cs=[.slice a (x.2.2.toNat-x.2.1.toNat) c]/\(x.2.1.toNat<x.2.2.toNat->∃ p,(M.row id).1=some p/\a=some ⟨p.1,p.2+x.2.1.toNat,none⟩)
   | .pr (.box id _ off) (.mref _)=>cs=[.func (.func x.2.1.toNat) #[.pointer (some ⟨(M.box id).1,(M.box id).2+off,none⟩)] #[]]
   | .pr _ (.mref _)=>∃ v,cs=[.func (.func x.2.1.toNat) #[v] #[]]
   | _=>cs=[match x.1 with | true=>.tuple #[.bool true,.int .i64 x.2.1,.int .i32 x.2.2] | false=>.tuple #[.bool false]] /\
   (x.1=true->(IntKind.i64.min<=x.2.1/\x.2.1<=IntKind.i64.max)/\IntKind.i32.min<=x.2.2/\x.2.2<=IntKind.i32.max)
def RepV(P:Program) (t:Ty) (w:World) (O:Own) (M:Mp) (x:t.D) (h:Sh) (v:Value):Prop :=
 match t,x with
 | .tu a b,x=>∃ vs:List Value,v=.tuple vs.toArray/\RepC P (.tu a b) w O M x h vs
 | t,x=>ValOf t.agg (fun c=>RepC P t w O M x h c) v
def ShAg(M M':Mp):Sh->Prop
 | .tok k=>M'.tok k=M.tok k
 | .mref k=>M'.row k=M.row k
 | .box k _ _=>M'.box k=M.box k
 | .elem k _ _ _ _ _=>M'.box k=M.box k
 | .pr a b=>ShAg M M' a/\ShAg M M' b
 | _=>True
theorem ShAg.fst{M M':Mp} {h:Sh} (k:ShAg M M' h):ShAg M M' h.fst:=by cases h<;>first | exact k.1 | trivial
theorem ShAg.snd{M M':Mp} {h:Sh} (k:ShAg M M' h):ShAg M M' h.snd:=by cases h<;>first | exact k.2 | trivial
theorem ShAg.refl(M:Mp):∀ h,ShAg M M h
 | .tok _ | .mref _ | .box _ _ _ | .elem _ _ _ _ _ _=>rfl
 | .pr a b=>⟨ShAg.refl M a,ShAg.refl M b⟩
 | .o | .nilp | .nils=>trivial
theorem FnOk.mono{P:Program} {α β:Type} {RA:World->Own->α->List Value->Prop} {RB:World->Own->β->Value->Prop} {w w':World} {O O':Own} {g:α->Option β} {v:Value}
  (h:FnOk P RA RB w O g v) (hx:Ext O w w') (ho:∀ b o,b<w.heap.size->O' b o->O b o):FnOk P RA RB w' O' g v:=by
 obtain⟨f,caps,fn,e1,e2,e3,e4,h⟩:=h
 exact⟨f,caps,fn,e1,e2,e3,e4,fun w2 F hx2 hF=>h w2 F (hx.trans hx2 ho) fun b o hb hf=>ho b o hb (hF b o (Nat.lt_of_lt_of_le hb hx.size) hf)⟩
theorem Elems.imp{α:Type} {R R':α->List Value->Prop} {w w':World} {O O':Own} {sz:Nat} {p:Nat×Nat} {xs:List α} (h:Elems R w O sz p xs)
  (hx:Ext O w w') (ho:∀ b o,b<w.heap.size->O' b o->O b o) (hr:∀ y es,R y es->R' y es):Elems R' w' O' sz p xs:=by
 intro i x hi
 obtain⟨es,e1,e2,e3⟩:=h i x hi
 exact⟨es,e1,e2.mono hx ho,hr _ _ e3⟩
theorem SlSh.imp{M M':Mp} {h:Sh} {a:Option (Nat×Nat)} {n c sz:Nat} {E E':Prop} (k:SlSh M h a n c sz E) (hm:ShAg M M' h) (he:E->E'):SlSh M' h a n c sz E':=by
 cases h<;>simp only[SlSh,ShAg] at*<;> first | exact he k | exact k | (rw[hm];exact k) | exact⟨he k.1,k.2.imp hm⟩
theorem RepC.mono(P:Program):∀ (t:Ty) {w w':World} {O O':Own} {M M':Mp} {x:t.D} {h:Sh} {cs:List Value},RepC P t w O M x h cs ->
  Ext O w w'->(∀ b o,b<w.heap.size->O' b o->O b o)->ShAg M M' h->RepC P t w' O' M' x h cs
 | .int k,_,_,_,_,_,_,_,_,_,r,_,_,_=>r
 | .bool,_,_,_,_,_,_,_,_,_,r,_,_,_=>r
 | .str,_,_,_,_,_,_,_,_,_,r,_,_,_=>r
 | .unit,_,_,_,_,_,_,_,_,_,r,_,_,_=>r
 | .ms _,_,_,_,_,_,_,_,_,_,r,_,_,_=>r
 | .ptr,_,_,_,_,M,M',_,h,_,r,_,_,hm=>by
  obtain⟨p,e,k⟩:=r
  refine⟨p,e,?_⟩
  cases h<;>simp only[PtrSh,ShAg] at*<;> first | exact k | (rw[hm];exact k)
 | .nx,_,_,_,_,_,_,_,h,_,r,_,_,hm=>by
  cases h with
  | mref k =>
   obtain⟨a,c,e,k⟩:=r
   exact⟨a,c,e,fun hl=>by obtain⟨p,h1,h2⟩:=k hl;exact⟨p,by rw[show _=_ from hm];exact h1,h2⟩⟩
  | pr a b =>
   cases a with
   | box k q off =>
    cases b with
    | mref j =>
     have e:_=_:=hm.1
     simp only[RepC] at r ⊢
     rw[e];exact r
    | _=>exact r
   | _=>cases b<;>exact r
  | _=>exact r
 | .mh,_,_,_,_,M,M',_,h,_,r,_,_,hm=>by
  obtain⟨p,e,k⟩:=r
  refine⟨p,e,?_⟩
  cases h<;>simp only[MapSh,ShAg] at*<;> first | exact k | (rw[hm];exact k)
 | .sl e,w,w',O,O',M,M',x,h,cs,r,hx,ho,hm=>by
  obtain⟨a,n,c,e1,e2,e3,e4,k⟩:=r
  exact⟨a,n,c,e1,e2,e3,e4,k.imp hm fun he p hp=>(he p hp).imp hx ho fun y es hy=>RepC.mono P e hy hx ho (by trivial)⟩
 | .pr a b,w,w',O,O',M,M',x,h,cs,r,hx,ho,hm=>by
  obtain⟨c1,c2,e,l1,l2,t1,t2,r1,r2⟩:=r
  exact⟨c1,c2,e,l1,l2,t1,t2,RepC.mono P a r1 hx ho hm.fst,RepC.mono P b r2 hx ho hm.snd⟩
 | .tu a b,w,w',O,O',M,M',x,h,cs,r,hx,ho,hm=>by
  obtain⟨v,vs,e,t1,r1,r2⟩:=r
  exact⟨v,vs,e,t1,r1.imp fun c hc=>RepC.mono P a hc hx ho hm.fst,RepC.mono P b r2 hx ho hm.snd⟩
 | .fn a b,w,w',O,O',M,M',x,h,cs,r,hx,ho,_=>by
  obtain⟨v,e,h1,r⟩:=r
  refine⟨v,e,h1,?_⟩
  rcases r with r | r
  ·exact .inl r
  ·exact .inr (r.mono hx ho)
 | .rref e,w,w',O,O',M,M',x,h,cs,r,hx,ho,hm=>by
  obtain⟨b,o,es,e1,e0,e2,e3,e4⟩:=r
  exact⟨b,o,es,e1,e0,e2,e3.mono hx ho,RepC.mono P e e4 hx ho (by trivial)⟩
 | .eref,w,w',O,O',M,M',x,h,cs,r,hx,ho,hm=>by
  obtain⟨b,o,e1,e0,e2⟩:=r
  refine⟨b,o,e1,e0,?_⟩
  cases h<;>simp only[ShAg] at*<;> first | exact e2 | (rw[hm];exact e2)
theorem RepV.mono(P:Program) {t:Ty} {w w':World} {O O':Own} {M M':Mp} {x:t.D} {h:Sh} {v:Value} (r:RepV P t w O M x h v)
  (hx:Ext O w w') (ho:∀ b o,b<w.heap.size->O' b o->O b o) (hm:ShAg M M' h):RepV P t w' O' M' x h v:=by
 unfold RepV at *
 split at r
 ·obtain⟨vs,e,r⟩:=r
  exact⟨vs,e,RepC.mono P _ r hx ho hm⟩
 ·exact r.imp fun c hc=>RepC.mono P _ hc hx ho hm
theorem RepC.len{P:Program} {t:Ty} {w:World} {O:Own} {M:Mp} {x:t.D} {h:Sh} {cs:List Value} (r:RepC P t w O M x h cs) (ht:t.tup=false):cs.length=t.size:=by
 cases t with
 | int k=>obtain⟨rfl,_⟩:=r;rfl
 | bool=>simp only[RepC] at r;rw[r];rfl
 | str=>obtain⟨s,rfl,_⟩:=r;rfl
 | ptr=>obtain⟨s,rfl,_⟩:=r;rfl
 | unit=>simp only[RepC] at r;rw[r];rfl
 | sl e=>obtain⟨a,n,c,k,_⟩:=r;obtain⟨_,rfl,_⟩:=k.any;rfl
 | ms e=>exact r.elim
 | pr a b=>obtain⟨c1,c2,rfl,l1,l2,_⟩:=r;simp [Ty.size,l1,l2]
 | tu a b=>cases ht
 | fn a b=>obtain⟨v,rfl,_⟩:=r;rfl
 | rref e=>obtain⟨b,o,es,rfl,_⟩:=r;rfl
 | eref=>obtain⟨b,o,rfl,_⟩:=r;rfl
 | mh=>obtain⟨s,rfl,_⟩:=r;rfl
 | nx=>cases ht
theorem RepC.one{P:Program}:∀ (t:Ty) {w:World} {O:Own} {M:Mp} {x:t.D} {h:Sh} {cs:List Value},RepC P t w O M x h cs->t.tup=false->∀ u∈cs,u.oneCell'=true
 | .int k,_,_,_,_,_,_,r,_=>by obtain⟨rfl,_⟩:=r;simp [Value.oneCell']
 | .bool,_,_,_,_,_,_,r,_=>by simp only[RepC] at r;rw[r];simp [Value.oneCell']
 | .str,_,_,_,_,_,_,r,_=>by obtain⟨s,rfl,_⟩:=r;simp [Value.oneCell']
 | .ptr,_,_,_,_,_,_,r,_=>by obtain⟨s,rfl,_⟩:=r;simp [Value.oneCell']
 | .mh,_,_,_,_,_,_,r,_=>by obtain⟨s,rfl,_⟩:=r;simp [Value.oneCell']
 | .unit,_,_,_,_,_,_,r,_=>by simp only[RepC] at r;rw[r];simp
 | .sl e,_,_,_,_,_,_,r,_=>by obtain⟨a,n,c,k,_⟩:=r;obtain⟨_,rfl,_⟩:=k.any;simp [Value.oneCell']
 | .ms e,_,_,_,_,_,_,r,_=>r.elim
 | .pr a b,_,_,_,_,_,_,r,_=>by
  obtain⟨c1,c2,rfl,l1,l2,t1,t2,r1,r2⟩:=r
  intro u hu
  rcases List.mem_append.1 hu with hu | hu
  ·exact RepC.one a r1 t1 u hu
  ·exact RepC.one b r2 t2 u hu
 | .fn a b,_,_,_,_,_,_,r,_=>by obtain⟨v,rfl,h1,_⟩:=r;simpa using h1
 | .rref e,_,_,_,_,_,_,r,_=>by obtain⟨b,o,es,rfl,_⟩:=r;simp [Value.oneCell']
 | .eref,_,_,_,_,_,_,r,_=>by obtain⟨b,o,rfl,_⟩:=r;simp [Value.oneCell']
theorem Sh.plain_fst{h:Sh} (k:h.plain=true):h.fst.plain=true:=by cases h<;>simp_all [Sh.plain,Sh.fst]
theorem Sh.plain_snd{h:Sh} (k:h.plain=true):h.snd.plain=true:=by cases h<;>simp_all [Sh.plain,Sh.snd]
theorem RepC.forget{P:Program}:∀ (t:Ty) {w:World} {O:Own} {M:Mp} {x:t.D} {h:Sh} {cs:List Value},RepC P t w O M x h cs->h.plain=true->∀ M':Mp,RepC P t w O M' x .o cs
 | .int k,_,_,_,_,_,_,r,_=>fun _=>r
 | .bool,_,_,_,_,_,_,r,_=>fun _=>r
 | .str,_,_,_,_,_,_,r,_=>fun _=>r
 | .unit,_,_,_,_,_,_,r,_=>fun _=>r
 | .ms e,_,_,_,_,_,_,r,_=>r.elim
 | .ptr,_,_,_,_,_,_,r,_=>by obtain⟨p,e,_⟩:=r;exact fun _=>⟨p,e,trivial⟩
 | .mh,_,_,_,_,_,_,r,_=>by obtain⟨p,e,_⟩:=r;exact fun _=>⟨p,e,trivial⟩
 | .nx,_,_,_,_,h,_,r,hp=>by
  cases h with
  | mref k=>cases hp
  | pr a b =>
   cases a with
   | box k q off =>
    cases b with
    | mref j=>cases hp
    | _=>exact fun _=>r
   | _=>cases b<;>first | exact fun _=>r | (simp [Sh.plain] at hp)
  | _=>exact fun _=>r
 | .sl e,w,O,M,x,h,cs,r,hp=>by
  obtain⟨a,n,c,e1,e2,e3,e4,k⟩:=r
  intro M'
  refine⟨a,n,c,e1.o,e2,e3,e4,?_⟩
  have he:∀ p,a=some p->Elems (fun y es=>RepC P e w O M y .o es) w O e.size p x:=by
   cases h<;>simp only[SlSh,Sh.plain] at*<;> first | exact k | exact k.1 | (subst k;intro p hp;cases hp) | cases hp
  exact fun p hp=>(he p hp).imp (Ext.refl _ _) (fun _ _ _ h=>h) (fun y es hy=>RepC.mono P e hy (Ext.refl _ _) (fun _ _ _ h=>h) trivial)
 | .pr a b,w,O,M,x,h,cs,r,hp=>by
  obtain⟨c1,c2,e,l1,l2,t1,t2,r1,r2⟩:=r
  exact fun M'=>⟨c1,c2,e,l1,l2,t1,t2,RepC.forget a r1 (Sh.plain_fst hp) M',RepC.forget b r2 (Sh.plain_snd hp) M'⟩
 | .tu a b,w,O,M,x,h,cs,r,hp=>by
  obtain⟨v,vs,e,t1,r1,r2⟩:=r
  exact fun M'=>⟨v,vs,e,t1,r1.imp fun c hc=>RepC.forget a hc (Sh.plain_fst hp) M',RepC.forget b r2 (Sh.plain_snd hp) M'⟩
 | .fn a b,_,_,_,_,_,_,r,_=>fun _=>r
 | .rref e,w,O,M,x,h,cs,r,hp=>by
  obtain⟨b,o,es,e1,e0,e2,e3,e4⟩:=r
  exact fun M'=>⟨b,o,es,e1,e0,e2,e3,RepC.mono P e e4 (Ext.refl _ _) (fun _ _ _ h=>h) trivial⟩
 | .eref,w,O,M,x,h,cs,r,hp=>by
  obtain⟨b,o,e1,e0,e2⟩:=r
  exact fun M'=>⟨b,o,e1,e0,trivial⟩
theorem getF_rep{P:Program}:∀ (t:Ty) {w:World} {O:Own} {M:Mp} {x:t.D} {h:Sh} {cs:List Value} {f:Nat} {u:Vl},RepC P t w O M x h cs->getF t x h f=some u ->
  ∃ n,offF t f=some n/\tyF t f=some u.ty/\n+u.ty.size<=cs.length/\u.ty.tup=false/\RepC P u.ty w O M u.val u.sh ((cs.drop n).take u.ty.size)
 | .pr a b,w,O,M,x,h,cs,0,u,r,e=>by
  obtain⟨c1,c2,rfl,l1,l2,t1,t2,r1,r2⟩:=r
  simp only[getF,Option.some.injEq] at e
  subst e
  exact⟨0,rfl,rfl,by simp [l1],t1,by simpa [← l1] using r1⟩
 | .pr a b,w,O,M,x,h,cs,f+1,u,r,e=>by
  obtain⟨c1,c2,rfl,l1,l2,t1,t2,r1,r2⟩:=r
  simp only[getF] at e
  obtain⟨n,h1,h2,h3,h4,h5⟩:=getF_rep b r2 e
  refine⟨a.size+n,by simp [offF,h1],by simp [tyF,h2],by simp [l1];omega,h4,?_⟩
  have:(c1++c2).drop (a.size+n)=c2.drop n:=by rw[← l1];simp [List.drop_append]
  rw[this]
  exact h5
 | .int _,_,_,_,_,_,_,f,_,_,e=>by cases f<;>cases e
 | .bool,_,_,_,_,_,_,f,_,_,e=>by cases f<;>cases e
 | .str,_,_,_,_,_,_,f,_,_,e=>by cases f<;>cases e
 | .ptr,_,_,_,_,_,_,f,_,_,e=>by cases f<;>cases e
 | .unit,_,_,_,_,_,_,f,_,_,e=>by cases f<;>cases e
 | .sl _,_,_,_,_,_,_,f,_,_,e=>by cases f<;>cases e
 | .ms _,_,_,_,_,_,_,f,_,_,e=>by cases f<;>cases e
 | .tu _ _,_,_,_,_,_,_,f,_,_,e=>by cases f<;>cases e
 | .fn _ _,_,_,_,_,_,_,f,_,_,e=>by cases f<;>cases e
 | .rref _,_,_,_,_,_,_,f,_,_,e=>by cases f<;>cases e
 | .eref,_,_,_,_,_,_,f,_,_,e=>by cases f<;>cases e
 | .mh,_,_,_,_,_,_,f,_,_,e=>by cases f<;>cases e
 | .nx,_,_,_,_,_,_,f,_,_,e=>by cases f<;>cases e
theorem getP_rep{P:Program}:∀ (p:List Nat) {v u:Vl} {w:World} {O:Own} {M:Mp} {cs:List Value},RepC P v.ty w O M v.val v.sh cs->v.ty.tup=false->getP v p=some u ->
  ∃ n,offP v.ty p=some n/\n+u.ty.size<=cs.length/\u.ty.tup=false/\RepC P u.ty w O M u.val u.sh ((cs.drop n).take u.ty.size)
 | [],v,u,w,O,M,cs,r,ht,e=>by
  simp only[getP,Option.some.injEq] at e
  subst e
  have:=r.len ht
  exact⟨0,rfl,by omega,ht,by simpa [← this] using r⟩
 | f::p,v,u,w,O,M,cs,r,ht,e=>by
  simp only[getP] at e
  split at e
  ·rename_i x hx
   obtain⟨n,h1,h2,h3,h4,h5⟩:=getF_rep v.ty r hx
   obtain⟨m,k1,k2,k3,k4⟩:=getP_rep p h5 h4 e
   have hl:=h5.len h4
   refine⟨n+m,by simp [offP,h1,h2,k1],by simp [hl] at k2;omega,k3,?_⟩
   rw[List.drop_take,List.drop_drop,List.take_take] at k4
   have:min u.ty.size (x.ty.size-m)=u.ty.size:=by rw[hl] at k2;omega
   rwa [this] at k4
  ·cases e
def splice(cs us:List Value) (n:Nat):List Value:=cs.take n++us++cs.drop (n+us.length)
theorem splice_length{cs us:List Value} {n:Nat} (h:n+us.length<=cs.length):(splice cs us n).length=cs.length:=by
 simp [splice];omega
theorem setF_rep{P:Program}:∀ (t:Ty) {w:World} {O:Own} {M:Mp} {x:t.D} {h:Sh} {cs us:List Value} {f:Nat} {u v:Vl} {z:Ty} {n:Nat},RepC P t w O M x h cs->setF t x h f u=some v ->
  RepC P u.ty w O M u.val u.sh us->u.ty.tup=false->tyF t f=some z->z.size=u.ty.size->offF t f=some n ->
  RepC P v.ty w O M v.val v.sh (splice cs us n)/\v.ty.size=t.size/\v.ty.agg=true/\v.ty.tup=false/\n+us.length<=cs.length
 | .pr a b,w,O,M,x,h,cs,us,0,u,v,z,n,r,e,ru,tu,hz,hs,hn=>by
  obtain⟨c1,c2,rfl,l1,l2,t1,t2,r1,r2⟩:=r
  simp only[setF,Option.some.injEq] at e
  subst e
  simp only[tyF,Option.some.injEq] at hz
  subst hz
  simp only[offF,Option.some.injEq] at hn
  subst hn
  have hl:=ru.len tu
  refine⟨⟨us,c2,?_,hl,l2,tu,t2,ru,r2⟩,by simp [Ty.size,hs],rfl,rfl,by simp [hl,l1];omega⟩
  have:us.length=c1.length:=by omega
  simp [splice,this]
 | .pr a b,w,O,M,x,h,cs,us,f+1,u,v,z,n,r,e,ru,tu,hz,hs,hn=>by
  obtain⟨c1,c2,rfl,l1,l2,t1,t2,r1,r2⟩:=r
  simp only[setF] at e
  split at e
  ·rename_i y hy
   simp only[Option.some.injEq] at e
   subst e
   simp only[offF] at hn
   split at hn
   ·rename_i m hm
    simp only[Option.some.injEq] at hn
    subst hn
    obtain⟨k1,k2,k3,k4,k5⟩:=setF_rep b r2 hy ru tu hz hs hm
    have hl:=k1.len k4
    refine⟨⟨c1,splice c2 us m,?_,l1,hl,t1,k4,r1,k1⟩,by simp [Ty.size,k2],rfl,rfl,by simp;omega⟩
    simp only[splice,← l1,List.take_append,List.drop_append,List.append_assoc]
    have e1:(c1.length+m+us.length-c1.length)=m+us.length:=by omega
    have e2:c1.length+m-c1.length=m:=by omega
    rw[e1,e2,List.take_of_length_le (by omega),List.drop_of_length_le (by omega)]
    simp
   ·cases hn
  ·cases e
 | .int _,_,_,_,_,_,_,_,f,_,_,_,_,_,e,_,_,_,_,_=>by cases f<;>cases e
 | .bool,_,_,_,_,_,_,_,f,_,_,_,_,_,e,_,_,_,_,_=>by cases f<;>cases e
 | .str,_,_,_,_,_,_,_,f,_,_,_,_,_,e,_,_,_,_,_=>by cases f<;>cases e
 | .ptr,_,_,_,_,_,_,_,f,_,_,_,_,_,e,_,_,_,_,_=>by cases f<;>cases e
 | .unit,_,_,_,_,_,_,_,f,_,_,_,_,_,e,_,_,_,_,_=>by cases f<;>cases e
 | .sl _,_,_,_,_,_,_,_,f,_,_,_,_,_,e,_,_,_,_,_=>by cases f<;>cases e
 | .ms _,_,_,_,_,_,_,_,f,_,_,_,_,_,e,_,_,_,_,_=>by cases f<;>cases e
 | .tu _ _,_,_,_,_,_,_,_,f,_,_,_,_,_,e,_,_,_,_,_=>by cases f<;>cases e
 | .fn _ _,_,_,_,_,_,_,_,f,_,_,_,_,_,e,_,_,_,_,_=>by cases f<;>cases e
 | .rref _,_,_,_,_,_,_,_,f,_,_,_,_,_,e,_,_,_,_,_=>by cases f<;>cases e
 | .eref,_,_,_,_,_,_,_,f,_,_,_,_,_,e,_,_,_,_,_=>by cases f<;>cases e
 | .mh,_,_,_,_,_,_,_,f,_,_,_,_,_,e,_,_,_,_,_=>by cases f<;>cases e
 | .nx,_,_,_,_,_,_,_,f,_,_,_,_,_,e,_,_,_,_,_=>by cases f<;>cases e
theorem splice_splice{cs us:List Value} {n m k:Nat} (h:n+k<=cs.length) (hm:m+us.length<=k) :
  splice cs (splice ((cs.drop n).take k) us m) n=splice cs us (n+m):=by
 have hl:(splice ((cs.drop n).take k) us m).length=k:=by rw[splice_length]<;>simp<;>omega
 unfold splice at hl ⊢
 rw[hl]
 simp only[List.take_take,List.drop_take,List.drop_drop]
 apply List.ext_getElem?
 intro i
 simp only[List.append_assoc,List.getElem?_append,List.length_take,List.length_drop,List.getElem?_take,List.getElem?_drop]
 repeat' split
 all_goals first
  | rfl
  | omega
  | (congr 1;omega)
  | skip
theorem setP_rep{P:Program}:∀ (p:List Nat) {v u v':Vl} {w:World} {O:Own} {M:Mp} {cs us:List Value} {n:Nat},RepC P v.ty w O M v.val v.sh cs->v.ty.tup=false->setP v p u=some v' ->
  RepC P u.ty w O M u.val u.sh us->u.ty.tup=false->offP v.ty p=some n ->
  RepC P v'.ty w O M v'.val v'.sh (splice cs us n)/\v'.ty.size=v.ty.size/\v'.ty.agg=v.ty.agg/\v'.ty.tup=false/\n+us.length<=cs.length
 | [],v,u,v',w,O,M,cs,us,n,r,ht,e,ru,tu,hn=>by
  simp only[setP] at e
  split at e
  ·rename_i h1 h2
   simp only[Option.some.injEq] at e
   subst e
   simp only[offP,Option.some.injEq] at hn
   subst hn
   have h1':=of_decide_eq_true h1
   have h2':=of_decide_eq_true h2
   have l1:=r.len ht
   have l2:=ru.len tu
   have:us.length=cs.length:=by omega
   exact⟨by simpa [splice,this] using ru,h1'.symm,h2'.symm,tu,by omega⟩
  ·cases e
 | f::p,v,u,v',w,O,M,cs,us,n,r,ht,e,ru,tu,hn=>by
  simp only[setP] at e
  split at e
  ·rename_i x hx
   split at e
   ·rename_i y hy
    simp only[offP] at hn
    split at hn
    ·rename_i a b ha hb
     split at hn
     ·rename_i m hm
      simp only[Option.some.injEq] at hn
      subst hn
      obtain⟨n',g1,g2,g3,g4,g5⟩:=getF_rep v.ty r hx
      rw[g2,Option.some.injEq] at hb
      subst hb
      rw[g1,Option.some.injEq] at ha
      subst ha
      obtain⟨k1,k2,k3,k4,k5⟩:=setP_rep p g5 g4 hy ru tu hm
      obtain⟨j1,j2,j3,j4,j5⟩:=setF_rep v.ty r e k1 k4 g2 k2.symm g1
      have hl:=g5.len g4
      rw[splice_splice (k:=x.ty.size) g3 (by omega)] at j1
      refine⟨j1,j2,?_,j4,by omega⟩
      rw[j3]
      cases hvt:v.ty<;>rw[hvt] at g1<;>cases f<;>simp_all [offF,Ty.agg]
     ·cases hn
    ·cases hn
   ·cases e
  ·cases e
end Go.VX
/- VX, part 3: the table of types against the program's own; loads and stores of whole variables. -/
set_option linter.unusedVariables false
set_option linter.unusedSimpArgs false
namespace Go.VX
def zc:Ty->List Value
 | .int k=>[.int k 0]
 | .bool=>[.bool false]
 | .str=>[.string .empty]
 | .ptr=>[.pointer none]
 | .mh=>[.map none]
 | .sl _=>[.slice none 0 0]
 | .pr a b=>zc a++zc b
 | .fn _ _=>[.nilFunc]
 | _=>[]
theorem zc_length:∀ t:Ty,t.mem=true->(zc t).length=t.size
 | .int _,_ | .bool,_ | .str,_ | .ptr,_ | .sl _,_ | .fn _ _,_ | .mh,_ | .unit,_=>rfl
 | .pr a b,h=>by
  simp only[Ty.mem,Bool.and_eq_true] at h
  simp [zc,Ty.size,zc_length a h.1,zc_length b h.2]
theorem mem_tup{t:Ty} (h:t.mem=true):t.tup=false:=by cases t<;>simp_all [Ty.mem,Ty.tup]
theorem IntKind.zero_in(k:IntKind):k.min<=0/\(0:Int)<=k.max:=by cases k<;>decide
theorem zero_rep(P:Program):∀ (t:Ty),t.mem=true->∀ (w:World) (O:Own) (M:Mp),RepC P t w O M t.zero t.zsh (zc t)
 | .int k,_=>fun _ _ _=>⟨rfl,(IntKind.zero_in k).1,(IntKind.zero_in k).2⟩
 | .bool,_=>fun _ _ _=>rfl
 | .str,_=>fun _ _ _=>⟨.empty,rfl,rfl,Nat.zero_le _⟩
 | .ptr,_=>fun _ _ _=>⟨none,rfl,rfl⟩
 | .mh,_=>fun _ _ _=>⟨none,rfl,rfl⟩
 | .unit,_=>fun _ _ _=>rfl
 | .sl e,_=>fun _ _ _=>⟨none,0,0,.inl rfl,rfl,⟨Nat.le_refl _,Nat.zero_le _⟩,fun _=>rfl,rfl⟩
 | .pr a b,h=>fun w O M=>by
  simp only[Ty.mem,Bool.and_eq_true] at h
  exact⟨zc a,zc b,rfl,zc_length a h.1,zc_length b h.2,mem_tup h.1,mem_tup h.2,zero_rep P a h.1 w O M,zero_rep P b h.2 w O M⟩
 | .fn a b,_=>fun _ _ _=>⟨.nilFunc,rfl,rfl,.inl fun _=>rfl⟩
def decZ:Ty->List Value->Option (List Value)
 | .int k,.int k' n::r=>match decide (k=k'),decide (n=0) with
  | true,true=>some r
  | _,_=>none
 | .bool,.bool false::r=>some r
 | .str,.string s::r=>match s.data.toList with
  | []=>some r
  | _=>none
 | .ptr,.pointer none::r=>some r
 | .mh,.map none::r=>some r
 | .unit,r=>some r
 | .sl _,.slice none 0 0::r=>some r
 | .pr a b,r=>match decZ a r with
  | some r1=>decZ b r1
  | none=>none
 | .fn _ _,.nilFunc::r=>some r
 | _,_=>none
theorem decZ_eq:∀ (t:Ty) (l r:List Value),decZ t l=some r->l=zc t++r
 | .pr a b,l,r,h=>by
  simp only[decZ] at h
  split at h
  ·rename_i r1 h1
   rw[decZ_eq a _ _ h1,decZ_eq b _ _ h]
   simp [zc]
  ·cases h
 | .unit,l,r,h=>by
  simp only[decZ,Option.some.injEq] at h
  simpa [zc] using h
 | .int k,l,r,h=>by
  cases l with
  | nil=>simp [decZ] at h
  | cons v l =>
   cases v<;>simp only[decZ] at h<;>try cases h
   split at h
   ·rename_i h1 h2
    have h1:=of_decide_eq_true h1
    have h2:=of_decide_eq_true h2
    subst h1 h2
    cases h
    rfl
   ·cases h
 | .bool,l,r,h=>by
  cases l with
  | nil=>simp [decZ] at h
  | cons v l =>
   cases v with
   | bool b=>cases b<;>simp only[decZ] at h<;>cases h;rfl
   | _=>simp [decZ] at h
 | .str,l,r,h=>by
  cases l with
  | nil=>simp [decZ] at h
  | cons v l =>
   cases v with
   | string s =>
    simp only[decZ] at h
    split at h
    ·rename_i hs
     cases h
     have:s=.empty:=by
      cases s with | mk d=>exact congrArg ByteArray.mk (Array.ext' hs)
     subst this
     rfl
    ·cases h
   | _=>simp [decZ] at h
 | .ptr,l,r,h=>by
  cases l with
  | nil=>simp [decZ] at h
  | cons v l =>
   cases v with
   | pointer a=>cases a<;>simp only[decZ] at h<;>cases h;rfl
   | _=>simp [decZ] at h
 | .sl e,l,r,h=>by
  cases l with
  | nil=>simp [decZ] at h
  | cons v l =>
   cases v with
   | slice a n c =>
    cases a with
    | some a=>simp [decZ] at h
    | none =>
     cases n with
     | succ n=>simp [decZ] at h
     | zero =>
      cases c with
      | succ c=>simp [decZ] at h
      | zero=>simp only[decZ] at h;cases h;rfl
   | _=>simp [decZ] at h
 | .fn a b,l,r,h=>by
  cases l with
  | nil=>simp [decZ] at h
  | cons v l=>cases v<;>simp only[decZ] at h<;>cases h;rfl
 | .ms e,l,r,h=>by cases l<;>simp [decZ] at h
 | .tu a b,l,r,h=>by cases l<;>simp [decZ] at h
 | .rref e,l,r,h=>by cases l<;>simp [decZ] at h
 | .eref,l,r,h=>by cases l<;>simp [decZ] at h
 | .mh,l,r,h=>by
  cases l with
  | nil=>simp [decZ] at h
  | cons v l =>
   cases v with
   | map a=>cases a<;>simp only[decZ] at h<;>cases h;rfl
   | _=>simp [decZ] at h
 | .nx,l,r,h=>by cases l<;>simp [decZ] at h
def aggB:TypeDesc->Bool
 | .struct _ | .array _ _=>true
 | _=>false
def zval(t:Ty) (z:Value):Bool :=
 match t.agg,z with
 | true,.agg cs=>match decZ t cs.toList with
  | some []=>true
  | _=>false
 | true,_=>false
 | false,.agg _=>false
 | false,.tuple _=>false
 | false,z=>match decZ t [z] with
  | some []=>true
  | _=>false
def infoB(P:Program) (t:Ty) (i:TypeId):Bool :=
 t.mem&&match P.info? i,P.underlying i with
 | some x,some d=>Nat.beq x.size t.size&&(match aggB d,t.agg with | true,true=>true | false,false=>true | _,_=>false)&&match x.zero with
  | some z=>zval t z
  | none=>false
 | _,_=>false
structure Chk where
 ty:TypeId->Bool
 fs:List Field->Nat->Bool
 ar:Nat->TypeId->Bool
def chk(P:Program):Ty->Chk
 | .int k=>⟨fun i=>infoB P (.int k) i&&match P.underlying i with | some (.int k')=>decide (k=k') | _=>false,fun _ _=>false,fun _ _=>false⟩
 | .bool=>⟨fun i=>infoB P .bool i&&match P.underlying i with | some .bool=>true | _=>false,fun _ _=>false,fun _ _=>false⟩
 | .str=>⟨fun i=>infoB P .str i&&match P.underlying i with | some .string=>true | _=>false,fun _ _=>false,fun _ _=>false⟩
 | .ptr=>⟨fun i=>infoB P .ptr i&&match P.underlying i with | some (.pointer _)=>true | _=>false,fun _ _=>false,fun _ _=>false⟩
 | .fn a b=>⟨fun i=>infoB P (.fn a b) i,fun _ _=>false,fun _ _=>false⟩
 | .sl e=>⟨fun i=>infoB P (.sl e) i&&match P.underlying i with | some (.slice j)=>(chk P e).ty j | _=>false,fun _ _=>false,fun _ _=>false⟩
 | .unit=>⟨fun i=>infoB P .unit i&&match P.underlying i with | some (.struct fs)=>fs.toList.isEmpty | _=>false,fun l _=>l.isEmpty,fun n _=>Nat.beq n 0⟩
 | .pr a b =>
  let fs:List Field->Nat->Bool:=fun l off=>match l with
   | f::r=>Nat.beq f.offset off&&(chk P a).ty f.type&&(chk P b).fs r (off+a.size)
   | []=>false
  let ar:Nat->TypeId->Bool:=fun n e=>match n with
   | 0=>false
   | n+1=>(chk P a).ty e&&(chk P b).ar n e
  ⟨fun i=>infoB P (.pr a b) i&&match P.underlying i with
   | some (.struct l)=>fs l.toList 0
   | some (.array n e)=>ar n e
   | _=>false,fs,ar⟩
 | .tu _ _=>⟨fun _=>true,fun _ _=>false,fun _ _=>false⟩
 | .mh=>⟨fun i=>infoB P .mh i&&match P.underlying i with | some (.map _ _)=>true | _=>false,fun _ _=>false,fun _ _=>false⟩
 | .nx=>⟨fun _=>false,fun _ _=>false,fun _ _=>false⟩
 | _=>⟨fun _=>false,fun _ _=>false,fun _ _=>false⟩
theorem infoB_spec{P:Program} {t:Ty} {i:TypeId} (h:infoB P t i=true):t.mem=true/\∃ x d,P.info? i=some x/\P.underlying i=some d/\x.size=t.size/\aggB d=t.agg /\
  x.zero=some (match t.agg with | true=>.agg (zc t).toArray | false=>(zc t).headD undef):=by
 unfold infoB at h
 simp only[Bool.and_eq_true] at h
 obtain⟨hm,h⟩:=h
 refine⟨hm,?_⟩
 split at h
 ·rename_i x d hx hd
  simp only[Bool.and_eq_true] at h
  obtain⟨⟨h1,h2⟩,h3⟩:=h
  refine⟨x,d,hx,hd,Nat.eq_of_beq_eq_true h1,?_,?_⟩
  ·cases ha:aggB d<;>cases hb:t.agg<;>simp_all
  ·split at h3
   ·rename_i z hz
    rw[hz]
    unfold zval at h3
    split at h3<;>try cases h3
    ·rename_i cs hagg
     split at h3
     ·rename_i hd
      have:=decZ_eq t _ _ hd
      simp only[List.append_nil] at this
      rw[hagg,← this]
     ·cases h3
    ·rename_i z' hagg _ _
     split at h3
     ·rename_i hd
      have:=decZ_eq t _ _ hd
      simp only[List.append_nil] at this
      rw[hagg,← this]
      rfl
     ·cases h3
   ·cases h3
 ·cases h
theorem chk_info{P:Program} {t:Ty} {i:TypeId} (h:(chk P t).ty i=true) (ht:t.std=true):infoB P t i=true:=by
 cases t<;>simp_all [chk,Ty.std]
theorem chk_ms{P:Program} {e:Ty} {i:TypeId}:¬ (chk P (.ms e)).ty i=true:=by simp [chk]
theorem chk_std{P:Program} {t:Ty} {i:TypeId} (h:(chk P t).ty i=true) (ht:t.tup=false):t.std=true:=by
 cases t<;>simp_all [chk,Ty.std,Ty.tup]
theorem chk_int{P:Program} {k:IntKind} {i:TypeId} (h:(chk P (.int k)).ty i=true):P.underlying i=some (.int k):=by
 simp only[chk,Bool.and_eq_true] at h
 obtain⟨_,h⟩:=h
 split at h
 ·rename_i k' hk;rw[hk,of_decide_eq_true h]
 ·cases h
theorem chk_ptr{P:Program} {i:TypeId} (h:(chk P .ptr).ty i=true):∃ e,P.underlying i=some (.pointer e):=by
 simp only[chk,Bool.and_eq_true] at h
 obtain⟨_,h⟩:=h
 split at h
 ·exact⟨_,by assumption⟩
 ·cases h
theorem chk_str{P:Program} {i:TypeId} (h:(chk P .str).ty i=true):P.underlying i=some .string:=by
 simp only[chk,Bool.and_eq_true] at h
 obtain⟨_,h⟩:=h
 split at h
 ·assumption
 ·cases h
theorem chk_bool{P:Program} {i:TypeId} (h:(chk P .bool).ty i=true):P.underlying i=some .bool:=by
 simp only[chk,Bool.and_eq_true] at h
 obtain⟨_,h⟩:=h
 split at h
 ·assumption
 ·cases h
theorem chk_sl{P:Program} {e:Ty} {i:TypeId} (h:(chk P (.sl e)).ty i=true):∃ j,P.underlying i=some (.slice j)/\(chk P e).ty j=true/\e.mem=true:=by
 simp only[chk,Bool.and_eq_true] at h
 obtain⟨h0,h⟩:=h
 have:=(infoB_spec h0).1
 split at h
 ·exact⟨_,by assumption,h,by simpa [Ty.mem] using this⟩
 ·cases h
theorem chk_pr{P:Program} {a b:Ty} {i:TypeId} (h:(chk P (.pr a b)).ty i=true) :
  (∃ l,P.underlying i=some (.struct l)/\(chk P (.pr a b)).fs l.toList 0=true)\/(∃ n e,P.underlying i=some (.array n e)/\(chk P (.pr a b)).ar n e=true):=by
 simp only[chk,Bool.and_eq_true] at h
 obtain⟨h0,h⟩:=h
 split at h
 ·exact .inl ⟨_,by assumption,h⟩
 ·exact .inr ⟨_,_,by assumption,h⟩
 ·cases h
theorem chk_field{P:Program}:∀ (t:Ty) (l:List Field) (off f n:Nat),(chk P t).fs l off=true->offF t f=some n->∃ x u,l[f]?=some x/\x.offset=off+n/\tyF t f=some u/\(chk P u).ty x.type=true
 | .pr a b,[],off,f,n,h,_=>by simp [chk] at h
 | .pr a b,x::l,off,0,n,h,e=>by
  simp only[chk,Bool.and_eq_true] at h
  simp only[offF,Option.some.injEq] at e
  subst e
  exact⟨x,a,rfl,Nat.eq_of_beq_eq_true h.1.1,rfl,h.1.2⟩
 | .pr a b,x::l,off,f+1,n,h,e=>by
  simp only[chk,Bool.and_eq_true] at h
  simp only[offF] at e
  split at e
  ·rename_i m hm
   cases e
   obtain⟨y,u,h1,h2,h3,h4⟩:=chk_field b l (off+a.size) f m h.2 hm
   exact⟨y,u,by simpa using h1,by omega,by simpa [tyF] using h3,h4⟩
  ·cases e
 | .int _,_,_,f,_,_,e=>by cases f<;>cases e
 | .bool,_,_,f,_,_,e=>by cases f<;>cases e
 | .str,_,_,f,_,_,e=>by cases f<;>cases e
 | .ptr,_,_,f,_,_,e=>by cases f<;>cases e
 | .unit,_,_,f,_,_,e=>by cases f<;>cases e
 | .sl _,_,_,f,_,_,e=>by cases f<;>cases e
 | .ms _,_,_,f,_,_,e=>by cases f<;>cases e
 | .tu _ _,_,_,f,_,_,e=>by cases f<;>cases e
 | .fn _ _,_,_,f,_,_,e=>by cases f<;>cases e
 | .rref _,_,_,f,_,_,e=>by cases f<;>cases e
 | .eref,_,_,f,_,_,e=>by cases f<;>cases e
 | .mh,_,_,f,_,_,e=>by cases f<;>cases e
 | .nx,_,_,f,_,_,e=>by cases f<;>cases e
theorem chk_arr{P:Program}:∀ (t:Ty) (n:Nat) (e:TypeId),(chk P t).ar n e=true->n=arrLen t/\∀ f u,tyF t f=some u->(chk P u).ty e=true
 | .pr a b,0,e,h=>by simp [chk] at h
 | .pr a b,n+1,e,h=>by
  simp only[chk,Bool.and_eq_true] at h
  obtain⟨h1,h2⟩:=chk_arr b n e h.2
  refine⟨by simp [arrLen,h1],fun f u hf=>?_⟩
  cases f with
  | zero=>simp only[tyF,Option.some.injEq] at hf;subst hf;exact h.1
  | succ f=>exact h2 f u (by simpa [tyF] using hf)
 | .unit,n,e,h=>by
  simp only[chk] at h
  exact⟨Nat.eq_of_beq_eq_true h,fun f u hf=>by cases f<;>cases hf⟩
 | .int _,_,_,h=>by cases h
 | .bool,_,_,h=>by cases h
 | .str,_,_,h=>by cases h
 | .ptr,_,_,h=>by cases h
 | .sl _,_,_,h=>by cases h
 | .ms _,_,_,h=>by cases h
 | .tu _ _,_,_,h=>by cases h
 | .fn _ _,_,_,h=>by cases h
 | .rref _,_,_,h=>by cases h
 | .eref,_,_,h=>by cases h
 | .mh,_,_,h=>by cases h
 | .nx,_,_,h=>by cases h
def valOf(agg:Bool) (cs:List Value):Value :=
 match agg with
 | true=>.agg cs.toArray
 | false=>cs.headD undef
theorem valOf_ValOf{agg:Bool} {cs:List Value} {R:List Value->Prop} (h:R cs) (hl:agg=false->cs.length=1):ValOf agg R (valOf agg cs):=by
 cases agg with
 | true=>exact⟨cs,rfl,h⟩
 | false =>
  have:=hl rfl
  match cs,this with
  | [v],_=>exact h
theorem size_one{t:Ty} (h:t.agg=false):t.size=1:=by cases t<;>simp_all [Ty.agg,Ty.size]
theorem run_isAgg{P:Program} {i:TypeId} {d:TypeDesc} (h:P.underlying i=some d) (w:World):(isAgg i).run P w=.ok (aggB d) w:=by
 simp only[isAgg,Sem.run_bind,run_underlying h,Result.andThen_ok]
 cases d<;>simp [aggB]
theorem run_sizeOf{P:Program} {i:TypeId} {x:TypeInfo} (h:P.info? i=some x) (w:World):(sizeOf i).run P w=.ok x.size w:=by
 simp [sizeOf,typeInfo,h]
theorem adr_add(b o n:Nat):(⟨b,o,none⟩:Addr).add n=⟨b,o+n,none⟩:=by unfold Addr.add;split<;>simp_all
theorem run_loadVar{P:Program} {t:Ty} {i:TypeId} (hi:infoB P t i=true) {w:World} {b o:Nat} {cs:List Value} (hl:cs.length=t.size)
  (hc:∀ j v,cs[j]?=some v->w.cell? ⟨b,o+j,none⟩=some v):(loadVar i ⟨b,o,none⟩).run P w=.ok (valOf t.agg cs) w:=by
 obtain⟨_,x,d,hx,hd,hs,ha,_⟩:=infoB_spec hi
 simp only[loadVar,Sem.run_bind,run_isAgg hd,Result.andThen_ok,ha]
 cases hagg:t.agg with
 | true =>
  have h1:=run_loadCells_list (P:=P) w ⟨b,o,none⟩ cs (fun j v hv=>by rw[adr_add];exact hc j v hv)
  simp only[if_true,Sem.run_bind,run_sizeOf hx,Result.andThen_ok,hs,← hl,h1,Sem.run_pure,valOf]
 | false =>
  have:=size_one hagg
  match cs,hl.trans this with
  | [v],_ =>
   have:=hc 0 v rfl
   simp only[Nat.add_zero] at this
   simp [this,valOf]
theorem run_storeVar{P:Program} {t:Ty} {i:TypeId} (hi:infoB P t i=true) {w:World} {b o:Nat} {cs:List Value} (hl:cs.length=t.size)
  (hc:∀ j,j<cs.length->(w.cell? ⟨b,o+j,none⟩).isSome=true) (hf:∀ j,j<cs.length->w.frozen? ⟨b,o+j,none⟩=false) (h1:∀ v∈cs,v.oneCell'=true) :
  (storeVar i ⟨b,o,none⟩ (valOf t.agg cs)).run P w=.ok () (w.setCells b o cs):=by
 obtain⟨_,x,d,hx,hd,hs,ha,_⟩:=infoB_spec hi
 have hst:=run_storeCells_cells (P:=P) b o cs 0 w (by simpa using hc) (by simpa using hf) h1
 simp only[Nat.add_zero] at hst
 have hcells:(valOf t.agg cs).cells.toList=cs:=by
  cases hagg:t.agg with
  | true=>simp [valOf,Value.cells]
  | false =>
   have:=size_one hagg
   match cs,hl.trans this,h1 with
   | [v],_,h1 =>
    have:=h1 v (by simp)
    cases v<;>simp_all [valOf,Value.cells,Value.oneCell']
 have hsz:(valOf t.agg cs).cells.size=x.size:=by rw[← Array.length_toList,hcells,hl,hs]
 simp only[storeVar,Sem.run_bind,run_sizeOf hx,Result.andThen_ok,hsz,ne_eq,not_true_eq_false,if_false,Sem.run_pure,hcells,hst]
end Go.VX
/- VX, part 4: what an abstract state says of a frame and of memory. -/
set_option linter.unusedVariables false
set_option linter.unusedSimpArgs false
namespace Go.VX
def ShIn(U:Nat->Prop):Sh->Prop
 | .tok k=>U k
 | .mref k=>U k
 | .box k _ _=>U k
 | .elem k _ _ _ _ _=>U k
 | .pr a b=>ShIn U a/\ShIn U b
 | _=>True
theorem ShIn.mono{U U':Nat->Prop} (hu:∀ k,U k->U' k):∀ h,ShIn U h->ShIn U' h
 | .tok _,h | .mref _,h | .box _ _ _,h | .elem _ _ _ _ _ _,h=>hu _ h
 | .pr a b,h=>⟨ShIn.mono hu a h.1,ShIn.mono hu b h.2⟩
 | .o,_ | .nilp,_ | .nils,_=>trivial
theorem ShIn.fst{U:Nat->Prop} {h:Sh} (k:ShIn U h):ShIn U h.fst:=by cases h<;>first | exact k.1 | trivial
theorem ShIn.snd{U:Nat->Prop} {h:Sh} (k:ShIn U h):ShIn U h.snd:=by cases h<;>first | exact k.2 | trivial
def Agree(U:Nat->Prop) (M M':Mp):Prop:=M'.fr=M.fr/\∀ k,U k->M'.box k=M.box k/\M'.tok k=M.tok k/\M'.row k=M.row k
theorem Agree.sh{U:Nat->Prop} {M M':Mp} (h:Agree U M M'):∀ s,ShIn U s->ShAg M M' s
 | .tok k,u=>(h.2 k u).2.1
 | .mref k,u=>(h.2 k u).2.2
 | .box k _ _,u=>(h.2 k u).1
 | .elem k _ _ _ _ _,u=>(h.2 k u).1
 | .pr a b,u=>⟨Agree.sh h a u.1,Agree.sh h b u.2⟩
 | .o,_ | .nilp,_ | .nils,_=>trivial
theorem Agree.refl(U:Nat->Prop) (M:Mp):Agree U M M:=⟨rfl,fun _ _=>⟨rfl,rfl,rfl⟩⟩
def inBox(M:Mp) (id:Nat) (t:Ty) (b o:Nat):Prop :=
 match t with
 | .ms e=>∃ q,(M.row id).1=some (b,q)/\q<=o/\o<q+(M.row id).2.2*e.size
 | .tu _ _=>False
 | t=>(M.box id).1=b/\(M.box id).2<=o/\o<(M.box id).2+t.size
def inTok(M:Mp) (k:Nat) (b o:Nat):Prop :=
 ∃ q,(M.tok k).1=some (b,q)/\q+(M.tok k).2.1*(M.tok k).2.2.2<=o/\o<q+(M.tok k).2.2.1*(M.tok k).2.2.2
def reg(st:St) (M:Mp):Loc->Own
 | .s 0=>M.fr
 | .s _=>noOwn
 | .b id=>fun b o=>∃ v,look st.bx id=some (.rw v)/\inBox M id v.ty b o
 | .t k=>fun b o=>look st.tk k=some true/\inTok M k b o
def own(st:St) (M:Mp):Own:=fun b o=>∃ l,reg st M l b o
def ownN(st:St) (M:Mp):Own:=fun b o=>∃ l,l≠.s 0/\reg st M l b o
def isMs:Ty->Bool
 | .ms _=>true
 | .tu _ _=>true
 | .nx=>true
 | _=>false
def ObOk(P:Program) (w:World) (O:Own) (M:Mp) (id:Nat):(t:Ty)->t.D->Prop
 | .tu .str (.int .i64),x=>∃ s pos,w.heap[(M.box id).1]?=some (.stringIter s pos)/\(M.box id).2=0/\strOf s=x.1/\x.2=(pos:Int)/\s.size<=9223372036854775807
 | .tu (.ms (.tu K V)) .unit,x=>K.tup=false/\V.tup=false/\∃ es:Array MapEntry,w.heap[(M.box id).1]?=some (.map es (List.length x.1))/\es.size=List.length x.1 /\
   ∀ (i:Nat) kv,x.1[i]?=some kv->∃ e,es[i]?=some e/\e.born=i/\RepV P K w O M kv.1 .o e.key/\RepV P V w O M kv.2 .o e.val
 | .tu .unit (.int .i64),x=>∃ es clock,w.heap[(M.box id).1]?=some (.map es clock)/\x.2=(es.size:Int)
 | _,_=>False
def BoxOk(P:Program) (w:World) (O:Own) (M:Mp) (id:Nat) (v:Vl):Prop :=
 match v with
 | ⟨.ms e,l,_⟩=>e.tup=false/\∃ a n c,M.row id=(a,n,c)/\n=List.length l/\LeC n c/\(a=none->c=0)/\∀ p,a=some p->M.box id=p /\
   ∀ i x,l[i]?=some x->∃ es:List Value,es.length=e.size/\(∀ j u,es[j]?=some u->w.cell? ⟨p.1,p.2+i*e.size+j,none⟩=some u)/\RepC P e w O M x .o es
 | ⟨.tu a b,x,_⟩=>ObOk P w O M id (.tu a b) x
 | ⟨t,x,s⟩=>t.tup=false/\∃ cs,RepC P t w O M x s cs/\∀ j u,cs[j]?=some u->w.cell? ⟨(M.box id).1,(M.box id).2+j,none⟩=some u
def RoOk(P:Program) (w:World) (O N:Own) (M:Mp) (id:Nat) (z:Bool) (v:Vl):Prop :=
 v.ty.tup=false/\isMs v.ty=false/\∃ cs,RepC P v.ty w O M v.val v.sh cs/\Cells w (match z with | true=>O | false=>N) (M.box id).1 (M.box id).2 cs
theorem BoxOk.plain{P:Program} {w:World} {O:Own} {M:Mp} {id:Nat} {v:Vl} (hv:isMs v.ty=false) :
  BoxOk P w O M id v↔(v.ty.tup=false/\∃ cs,RepC P v.ty w O M v.val v.sh cs/\∀ j u,cs[j]?=some u->w.cell? ⟨(M.box id).1,(M.box id).2+j,none⟩=some u):=by
 obtain⟨t,x,s⟩:=v
 cases t<;>first | exact Iff.rfl | cases hv
theorem inBox.plain{M:Mp} {id:Nat} {t:Ty} {b o:Nat} (hv:isMs t=false) :
  inBox M id t b o↔((M.box id).1=b/\(M.box id).2<=o/\o<(M.box id).2+t.size):=by
 cases t<;>first | exact Iff.rfl | cases hv
theorem ObOk.mono{P:Program} {w w':World} {O O':Own} {M M':Mp} {id id':Nat} {t:Ty} {x:t.D} (h:ObOk P w O M id t x) (hx:Ext O w w')
  (ho:∀ b o,b<w.heap.size->O' b o->O b o) (hb:M'.box id'=M.box id) (hj:w'.heap[(M.box id).1]?=w.heap[(M.box id).1]?):ObOk P w' O' M' id' t x:=by
 unfold ObOk at h ⊢
 split at h
 ·rw[hb,hj];exact h
 ·obtain⟨h1,h2,es,h3,h4,h5⟩:=h
  refine⟨h1,h2,es,by rw[hb,hj];exact h3,h4,fun i kv hi=>?_⟩
  obtain⟨e,e1,e2,e3,e4⟩:=h5 i kv hi
  exact⟨e,e1,e2,e3.mono P hx ho trivial,e4.mono P hx ho trivial⟩
 ·rw[hb,hj];exact h
 ·exact h.elim
theorem BoxOk.mono{P:Program} {w w':World} {O O':Own} {M M':Mp} {id:Nat} {v:Vl} (h:BoxOk P w O M id v) (hx:Ext O w w')
  (ho:∀ b o,b<w.heap.size->O' b o->O b o) (hs:ShAg M M' v.sh) (hb:M'.box id=M.box id) (hr:M'.row id=M.row id)
  (hc:∀ b o,inBox M id v.ty b o->w'.cell? ⟨b,o,none⟩=w.cell? ⟨b,o,none⟩) (hj:v.ty.tup=true->w'.heap[(M.box id).1]?=w.heap[(M.box id).1]?):BoxOk P w' O' M' id v:=by
 by_cases hv:isMs v.ty=true
 ·obtain⟨t,x,s⟩:=v
  cases t<;>first | cases hv | skip
  rotate_left
  ·exact ObOk.mono (t:=.tu _ _) h hx ho hb (hj rfl)
  ·cases h.1
  rename_i e
  obtain⟨e0,a,n,c,e1,e2,e3,e4,k⟩:=h
  refine⟨e0,a,n,c,hr.trans e1,e2,e3,e4,fun p hp=>⟨hb.trans (k p hp).1,fun i y hi=>?_⟩⟩
  obtain⟨es,k1,k2,k3⟩:=(k p hp).2 i y hi
  refine⟨es,k1,fun j u hj=>?_,RepC.mono P e k3 hx ho trivial⟩
  rw[← k2 j u hj]
  refine hc _ _ ⟨p.2,by rw[e1,hp],by omega,?_⟩
  have hj':j<e.size:=k1 ▸ (List.getElem?_eq_some_iff.1 hj).1
  have hi':i<c:=by have:=(List.getElem?_eq_some_iff.1 hi).1;omega
  rw[e1]
  show _<p.2+c*e.size
  have:(i+1)*e.size<=c*e.size:=Nat.mul_le_mul_right _ hi'
  rw[Nat.succ_mul] at this
  omega
 ·have hv:isMs v.ty=false:=by simpa using hv
  rw[BoxOk.plain hv] at h ⊢
  obtain⟨ht,cs,r,k⟩:=h
  refine⟨ht,cs,RepC.mono P _ r hx ho hs,fun j u hj=>?_⟩
  rw[hb,← k j u hj]
  refine hc _ _ ((inBox.plain hv).2 ⟨rfl,by omega,?_⟩)
  have:=r.len ht
  have:=(List.getElem?_eq_some_iff.1 hj).1
  omega
theorem RoOk.mono{P:Program} {w w':World} {O O' N N':Own} {M M':Mp} {id:Nat} {z:Bool} {v:Vl} (h:RoOk P w O N M id z v) (hx:Ext O w w')
  (ho:∀ b o,b<w.heap.size->O' b o->O b o) (hxN:Ext N w w') (hoN:∀ b o,b<w.heap.size->N' b o->N b o) (hs:ShAg M M' v.sh) (hb:M'.box id=M.box id):RoOk P w' O' N' M' id z v:=by
 obtain⟨h1,h2,cs,r,k⟩:=h
 refine⟨h1,h2,cs,RepC.mono P _ r hx ho hs,?_⟩
 rw[hb]
 cases z
 ·exact k.mono hxN hoN
 ·exact k.mono hx ho
structure Rel (P:Program) (w0:World) (I:Own) (nt:Nat) (U:Nat->Prop) (M:Mp) (st:St) (a:Act) (w:World):Prop where
 sl:∀ n v,look st.sl n=some (some v)->RepV P v.ty w (own st M) M v.val v.sh (a.tmps.getD n undef)/\ShIn U v.sh
 bx:∀ id v,look st.bx id=some (.rw v)->BoxOk P w (own st M) M id v/\ShIn U v.sh/\U id
 ro:∀ id z v,look st.bx id=some (.ro z v)->RoOk P w (own st M) (ownN st M) M id z v/\ShIn U v.sh/\U id
 tk:∀ k,look st.tk k=some true->U k
 live:∀ b o,own st M b o->(w.cell? ⟨b,o,none⟩).isSome=true/\Clean w b/\(w0.heap.size<=b\/I b o\/M.fr b o)
 dis:∀ l l' b o,reg st M l b o->reg st M l' b o->l=l'
 keep:Keeps I w0 w
 size:a.tmps.size=nt
 defs:a.defers=[]
 ob:∀ id v,look st.bx id=some (.rw v)->v.ty.tup=true->w0.heap.size<=(M.box id).1/\∀ id' v',look st.bx id'=some (.rw v')->v'.ty.tup=true->(M.box id').1=(M.box id).1->id'=id
theorem Rel.updO{P:Program} {w0:World} {I:Own} {nt:Nat} {U U':Nat->Prop} {M M':Mp} {st st':St} {a a':Act} {w w':World} (h:Rel P w0 I nt U M st a w)
  (hU:∀ k,U k->U' k) (hM:Agree U M M') (hx:Ext (own st M) w w') (ho:∀ b o,b<w.heap.size->own st' M' b o->own st M b o)
  (hsl:∀ n v,look st'.sl n=some (some v)->(look st.sl n=some (some v)/\a'.tmps.getD n undef=a.tmps.getD n undef) \/
   (RepV P v.ty w' (own st' M') M' v.val v.sh (a'.tmps.getD n undef)/\ShIn U' v.sh))
  (hbx:∀ id v,look st'.bx id=some (.rw v)->(look st.bx id=some (.rw v)/\(∀ b o,inBox M id v.ty b o->w'.cell? ⟨b,o,none⟩=w.cell? ⟨b,o,none⟩)/\(v.ty.tup=true->w'.heap[(M.box id).1]?=w.heap[(M.box id).1]?)) \/
   (BoxOk P w' (own st' M') M' id v/\ShIn U' v.sh/\U' id))
  (hxN:Ext (ownN st M) w w') (hoN:∀ b o,b<w.heap.size->ownN st' M' b o->ownN st M b o)
  (hro:∀ id z v,look st'.bx id=some (.ro z v)->look st.bx id=some (.ro z v)\/(RoOk P w' (own st' M') (ownN st' M') M' id z v/\ShIn U' v.sh/\U' id))
  (htk:∀ k,look st'.tk k=some true->U' k)
  (hlive:∀ b o,own st' M' b o->(w'.cell? ⟨b,o,none⟩).isSome=true/\Clean w' b/\(w0.heap.size<=b\/I b o\/M'.fr b o))
  (hdis:∀ l l' b o,reg st' M' l b o->reg st' M' l' b o->l=l')
  (hkeep:Keeps I w0 w') (hsize:a'.tmps.size=nt) (hdef:a'.defers=[])
  (hob:∀ id v,look st'.bx id=some (.rw v)->v.ty.tup=true->w0.heap.size<=(M'.box id).1/\∀ id' v',look st'.bx id'=some (.rw v')->v'.ty.tup=true->(M'.box id').1=(M'.box id).1->id'=id):Rel P w0 I nt U' M' st' a' w' where
 sl n v hn:=by
  rcases hsl n v hn with⟨h1,h2⟩ | h1
  ·obtain⟨r,u⟩:=h.sl n v h1
   rw[h2]
   exact⟨r.mono P hx ho (hM.sh _ u),u.mono hU _⟩
  ·exact h1
 bx id v hn:=by
  rcases hbx id v hn with⟨h1,h2,h3⟩ | h1
  ·obtain⟨r,u,ui⟩:=h.bx id v h1
   exact⟨r.mono hx ho (hM.sh _ u) (hM.2 id ui).1 (hM.2 id ui).2.2 h2 h3,u.mono hU _,hU _ ui⟩
  ·exact h1
 ro id z v hn:=by
  rcases hro id z v hn with h1 | h1
  ·obtain⟨r,u,ui⟩:=h.ro id z v h1
   exact⟨r.mono hx ho hxN hoN (hM.sh _ u) (hM.2 id ui).1,u.mono hU _,hU _ ui⟩
  ·exact h1
 tk:=htk
 live:=hlive
 dis:=hdis
 keep:=hkeep
 size:=hsize
 defs:=hdef
 ob:=hob
theorem Rel.upd{P:Program} {w0:World} {I:Own} {nt:Nat} {U U':Nat->Prop} {M M':Mp} {st st':St} {a a':Act} {w w':World} (h:Rel P w0 I nt U M st a w)
  (hU:∀ k,U k->U' k) (hM:Agree U M M') (hx:Ext (own st M) w w') (ho:∀ b o,b<w.heap.size->own st' M' b o->own st M b o)
  (hsl:∀ n v,look st'.sl n=some (some v)->(look st.sl n=some (some v)/\a'.tmps.getD n undef=a.tmps.getD n undef) \/
   (RepV P v.ty w' (own st' M') M' v.val v.sh (a'.tmps.getD n undef)/\ShIn U' v.sh))
  (hbx:∀ id v,look st'.bx id=some (.rw v)->(look st.bx id=some (.rw v)/\∀ b o,inBox M id v.ty b o->w'.cell? ⟨b,o,none⟩=w.cell? ⟨b,o,none⟩) \/
   (BoxOk P w' (own st' M') M' id v/\ShIn U' v.sh/\U' id))
  (hxN:Ext (ownN st M) w w') (hoN:∀ b o,b<w.heap.size->ownN st' M' b o->ownN st M b o)
  (hro:∀ id z v,look st'.bx id=some (.ro z v)->look st.bx id=some (.ro z v)\/(RoOk P w' (own st' M') (ownN st' M') M' id z v/\ShIn U' v.sh/\U' id))
  (htk:∀ k,look st'.tk k=some true->U' k)
  (hlive:∀ b o,own st' M' b o->(w'.cell? ⟨b,o,none⟩).isSome=true/\Clean w' b/\(w0.heap.size<=b\/I b o\/M'.fr b o))
  (hdis:∀ l l' b o,reg st' M' l b o->reg st' M' l' b o->l=l')
  (hkeep:Keeps I w0 w') (hsize:a'.tmps.size=nt) (hdef:a'.defers=[]) (hobj:∀ id v,look st.bx id=some (.rw v)->v.ty.tup=true->w'.heap[(M.box id).1]?=w.heap[(M.box id).1]?)
  (hob:∀ id v,look st'.bx id=some (.rw v)->v.ty.tup=true->look st.bx id=some (.rw v)):Rel P w0 I nt U' M' st' a' w':=by
 refine h.updO hU hM hx ho hsl (fun id v hv=>?_) hxN hoN hro htk hlive hdis hkeep hsize hdef (fun id v hn ht=>?_)
 ·rcases hbx id v hv with⟨h1,h2⟩ | h1
  ·exact .inl ⟨h1,h2,hobj id v h1⟩
  ·exact .inr h1
 ·have h1:=hob id v hn ht
  rw[(hM.2 id (h.bx id v h1).2.2).1]
  refine⟨(h.ob id v h1 ht).1,fun id' v' hn' ht' he=>?_⟩
  have h2:=hob id' v' hn' ht'
  rw[(hM.2 id' (h.bx id' v' h2).2.2).1] at he
  exact(h.ob id v h1 ht).2 id' v' h2 ht' he
theorem put_getD{a:Act} {dst:Option Tmp} {v:Value} {n:Nat} (h:dst≠some n):(a.put dst v).tmps.getD n undef=a.tmps.getD n undef:=by
 unfold Act.put
 split
 ·rename_i d
  have:d≠n:=fun e=>h (by rw[e])
  simp [Array.getD_eq_getD_getElem?,Array.getElem?_setIfInBounds,this]
 ·rfl
theorem put_getD_same{a:Act} {v:Value} {d:Nat} (h:d<a.tmps.size):(a.put (some d) v).tmps.getD d undef=v:=by
 simp [Act.put,Array.getD_eq_getD_getElem?,h]
theorem put_size{a:Act} {dst:Option Tmp} {v:Value}:(a.put dst v).tmps.size=a.tmps.size:=by cases dst<;>simp [Act.put]
theorem put_defers{a:Act} {dst:Option Tmp} {v:Value}:(a.put dst v).defers=a.defers:=by cases dst<;>simp [Act.put]
theorem look_cons{α:Type} {m:Nat} {x:α} {l:List (Nat×α)} {n:Nat}:look ((m,x)::l) n=if m=n then some x else look l n:=by
 simp only[look]
 by_cases h:m=n
 ·simp [h]
 ·have:Nat.beq m n=false:=by
   cases hb:Nat.beq m n
   ·rfl
   ·exact absurd (Nat.eq_of_beq_eq_true hb) h
  simp [h,this]
theorem own_congr{st st':St} {M:Mp} (hb:∀ id,look st'.bx id=look st.bx id) (ht:∀ k,look st'.tk k=look st.tk k):own st' M=own st M:=by
 funext b o
 unfold own
 refine propext ⟨fun⟨l,h⟩=>⟨l,?_⟩,fun⟨l,h⟩=>⟨l,?_⟩⟩<;>rcases l with(_ | n) | n | n<;>simp only[reg,hb,ht] at*<;> exact h
theorem ownN_congr{st st':St} {M:Mp} (hb:∀ id,look st'.bx id=look st.bx id) (ht:∀ k,look st'.tk k=look st.tk k):ownN st' M=ownN st M:=by
 funext b o
 unfold ownN
 refine propext ⟨fun⟨l,h0,h⟩=>⟨l,h0,?_⟩,fun⟨l,h0,h⟩=>⟨l,h0,?_⟩⟩<;>rcases l with(_ | n) | n | n<;>simp only[reg,hb,ht] at*<;> exact h
end Go.VX
/- VX, part 5: how an operation asks; contracts; operands. -/
set_option linter.unusedVariables false
set_option linter.unusedSimpArgs false
namespace Go.VX
inductive Goes (st:St) (ω:Bool):RM->Patch->List Loc->Prop
 | ret (p:Patch):Goes st ω (.ret p) p []
 | rdS {n:Nat} {k:Vl->RM} {v:Vl} {p:Patch} {f:List Loc}:look st.sl n=some (some v)->Goes st ω (k v) p f->Goes st ω (.rdS n k) p (.s n::f)
 | rdBw {n:Nat} {k:Vl->RM} {v:Vl} {p:Patch} {f:List Loc}:look st.bx n=some (.rw v)->Goes st ω (k v) p f->Goes st ω (.rdB n k) p (.b n::f)
 | rdBo {n:Nat} {k:Vl->RM} {z:Bool} {v:Vl} {p:Patch} {f:List Loc}:look st.bx n=some (.ro z v)->Goes st ω (k v) p f->Goes st ω (.rdB n k) p (.b n::f)
 | rdW {n:Nat} {k:Vl->RM} {v:Vl} {p:Patch} {f:List Loc}:look st.bx n=some (.rw v)->Goes st ω (k v) p f->Goes st ω (.rdW n k) p (.b n::f)
 | rdFw {n:Nat} {k:Vl->RM} {v:Vl} {p:Patch} {f:List Loc}:look st.bx n=some (.rw v)->Goes st ω (k v) p f->Goes st ω (.rdF n k) p (.b n::f)
 | rdFo {n:Nat} {k:Vl->RM} {v:Vl} {p:Patch} {f:List Loc}:look st.bx n=some (.ro true v)->Goes st ω (k v) p f->Goes st ω (.rdF n k) p (.b n::f)
 | rdT {n:Nat} {k:RM} {p:Patch} {f:List Loc}:look st.tk n=some true->Goes st ω k p f->Goes st ω (.rdT n k) p (.t n::f)
 | eff {t:Ty} {x:Option t.D} {k:t.D->RM} {a:t.D} {p:Patch} {f:List Loc}:x=some a->Goes st ω (k a) p f->Goes st ω (.eff t x k) p f
 | amb {b:Bool} {k:Bool->RM} {p:Patch} {f:List Loc}:Goes st ω (k (b&&ω)) p f->Goes st ω (.amb b k) p f
theorem amb_some{α:Type} {b:Bool} {k:Bool->Option α} {r:α} (h:amb b k=some r) (ω:Bool):k (b&&ω)=some r:=by
 cases b with
 | false=>exact h
 | true =>
  simp only[amb] at h
  split at h
  ·rename_i he _
   cases ω
   ·exact h
   ·show k true=_;rw[he];exact h
  ·cases h
theorem bnd_some{α β:Type} {x:Option α} {f:α->Option β} {r:β} (h:bnd x f=some r):∃ a,x=some a/\f a=some r:=by
 cases x with
 | none=>cases h
 | some a=>exact⟨a,rfl,h⟩
theorem go_goes{R:Type} {st:St} {r:R} (ω:Bool):∀ (m:RM) (f0:List Loc) (K:Patch->List Loc->Option R),m.go st f0 K=some r->∃ p f,Goes st ω m p f/\K p (f.reverse++f0)=some r
 | .ret p,f0,K,h=>⟨p,[],.ret p,h⟩
 | .fail,_,_,h=>by cases h
 | .rdS n k,f0,K,h=>by
  simp only[RM.go] at h
  split at h
  ·rename_i v hv
   obtain⟨p,f,g,e⟩:=go_goes ω (k v) _ K h
   exact⟨p,_,.rdS hv g,by simpa using e⟩
  ·cases h
 | .rdB n k,f0,K,h=>by
  simp only[RM.go] at h
  split at h
  ·rename_i v hv
   obtain⟨p,f,g,e⟩:=go_goes ω (k v) _ K h
   exact⟨p,_,.rdBw hv g,by simpa using e⟩
  ·rename_i v hv
   obtain⟨p,f,g,e⟩:=go_goes ω (k v) _ K h
   exact⟨p,_,.rdBo hv g,by simpa using e⟩
  ·cases h
 | .rdW n k,f0,K,h=>by
  simp only[RM.go] at h
  split at h
  ·rename_i v hv
   obtain⟨p,f,g,e⟩:=go_goes ω (k v) _ K h
   exact⟨p,_,.rdW hv g,by simpa using e⟩
  ·cases h
 | .rdF n k,f0,K,h=>by
  simp only[RM.go] at h
  split at h
  ·rename_i v hv
   obtain⟨p,f,g,e⟩:=go_goes ω (k v) _ K h
   exact⟨p,_,.rdFw hv g,by simpa using e⟩
  ·rename_i v hv
   obtain⟨p,f,g,e⟩:=go_goes ω (k v) _ K h
   exact⟨p,_,.rdFo hv g,by simpa using e⟩
  ·cases h
 | .rdT n k,f0,K,h=>by
  simp only[RM.go] at h
  split at h
  ·rename_i hv
   obtain⟨p,f,g,e⟩:=go_goes ω k _ K h
   exact⟨p,_,.rdT hv g,by simpa using e⟩
  ·cases h
 | .eff t x k,f0,K,h=>by
  simp only[RM.go] at h
  obtain⟨a,ha,h⟩:=bnd_some h
  obtain⟨p,f,g,e⟩:=go_goes ω (k a) _ K h
  exact⟨p,_,.eff ha g,e⟩
 | .amb b k,f0,K,h=>by
  simp only[RM.go] at h
  have h:=amb_some h ω
  obtain⟨p,f,g,e⟩:=go_goes ω (k (b&&ω)) _ K h
  exact⟨p,_,.amb g,e⟩
def inSt(c:Con) (x:c.I.D):St where
 sl:=initSl c.A (conArg c.A c.bs x).1 c.ash 0
 bx:=initBx c.bs (conArg c.A c.bs x).2 0
 tk:=(c.bs.flatMap fun b=>toksOf b.sin).map (·,true)
 cnt:=c.lo
 wr:=[]
def outBxN:(nb:List (Nat×Ty×Sh))->(tuL (nbL nb)).D->List (Nat×Bx)
 | [],_=>[]
 | (j,t,s)::nb,x=>(j,.rw ⟨t,x.1,s⟩)::outBxN nb x.2
def outBx:(bs:List BoxS)->(nb:List (Nat×Ty×Sh))->Nat->(tuL (outL bs nb)).D->List (Nat×Bx)
 | [],nb,_,x=>outBxN nb x
 | ⟨t,_,some s⟩::bs,nb,i,x=>(i,.rw ⟨t,x.1,s⟩)::outBx bs nb (i+1) x.2
 | ⟨_,_,none⟩::bs,nb,i,x=>outBx bs nb (i+1) x
def outToks(bs:List BoxS) (nb:List (Nat×Ty×Sh)):List Nat :=
 (bs.flatMap fun b=>match b.sout with
  | some s=>toksOf s
  | none=>[])++nb.flatMap fun b=>toksOf b.2.2
def outSt(c:Con) (y:c.R.D):St where
 sl:=match c.B,(conOut c.B (outL c.bs c.nb) y).1 with
  | .unit,_=>[]
  | t,z=>[(0,some ⟨t,z,c.bsh⟩)]
 bx:=outBx c.bs c.nb 0 (conOut c.B (outL c.bs c.nb) y).2++msOf 0 c.B (conOut c.B (outL c.bs c.nb) y).1 c.bsh
 tk:=(toksOf c.bsh++outToks c.bs c.nb).map (·,true)
 cnt:=c.fr
 wr:=[]
def HasBody (P : Program) (f : FuncId) : Prop := ∃ fn, P.funcs[f]? = some fn ∧ (fn.name == "runtime.NumGoroutine") = false ∧ fn.body.isNone = false
def SoundC(P:Program) (f:FuncId) (c:Con):Prop :=
 HasBody P f/\∀ (w:World) (M:Mp) (args:Array Value) (x:c.I.D),
  Rel P w (ownN (inSt c x) M) args.size (·<c.lo) M (inSt c x) ⟨args,[]⟩ w->∀ y,c.F x=some y ->
   Calls P f args w fun e w'=>∃ v M',e=.returned v/\M'.fr=M.fr/\(∀ k,k<c.bs.length->M'.box k=M.box k) /\
    Rel P w (ownN (inSt c x) M) 1 (·<c.fr) M' (outSt c y) ⟨#[v],[]⟩ w'
structure InsWalks (P:Program) (f:FuncId) (T et tI fo:Nat) (sz:Nat):Prop where
 body:HasBody P f
 und:P.underlying T=some (.slice et)
 undI:P.underlying tI=some (.int .i64)
 ovl:∃ tR,∀ args w,(callFunc fo args).run P w=((Extern.SlicesOverlaps.overlaps #[T,T] #[tR] args).run P w).andThen fun v w'=>.ok (.value v) w'
 shift:∀ (b off n c i vb voff m vc:Nat) (w w1 w2:World),i<n->0<m->n+m<=c->n+m<=9223372036854775807 ->
  (∀ cb,(callFunc fo #[.slice (some ⟨vb,voff,none⟩) m vc,.slice (some ⟨b,off+(i+m)*sz,none⟩) (n+m-(i+m)) cb]).run P w=.ok (.value (.bool false)) w) ->
  (∀ ty dc sc,(Builtin.copy_ #[T,T] ty #[.slice (some ⟨b,off+(i+m)*sz,none⟩) (n+m-(i+m)) dc,.slice (some ⟨b,off+i*sz,none⟩) (n+m-i) sc]).run P w.drew=.ok (goInt (n-i)) w1) ->
  (∀ ty dc,(Builtin.copy_ #[T,T] ty #[.slice (some ⟨b,off+i*sz,none⟩) (n+m-i) dc,.slice (some ⟨vb,voff,none⟩) m vc]).run P w1=.ok (goInt m) w2) ->
  Calls P f #[.slice (some ⟨b,off,none⟩) n c,.int .i64 i,.slice (some ⟨vb,voff,none⟩) m vc] w fun e w'=>e=.returned (.slice (some ⟨b,off,none⟩) (n+m) c)/\w'=w2
 grow:∀ (b off n c i vb voff m vc B G:Nat) (w w1 w2 w3:World),i<n->0<m->n<=c->c<n+m->n+m<=G->n+m<=9223372036854775807 ->
  (∀ ty,(Builtin.append_ #[T,tI] ty #[.slice (some ⟨b,off,none⟩) i c,.int .i64 ((n:Int)+(m:Int)-(i:Int))]).run P w=.ok (.slice (some ⟨B,0,none⟩) (n+m) G) w1) ->
  (∀ ty dc,(Builtin.copy_ #[T,T] ty #[.slice (some ⟨B,i*sz,none⟩) (n+m-i) dc,.slice (some ⟨vb,voff,none⟩) m vc]).run P w1=.ok (goInt m) w2) ->
  (∀ ty dc sc,(Builtin.copy_ #[T,T] ty #[.slice (some ⟨B,(i+m)*sz,none⟩) (n+m-(i+m)) dc,.slice (some ⟨b,off+i*sz,none⟩) (n-i) sc]).run P w2.drew=.ok (goInt (n-i)) w3) ->
  Calls P f #[.slice (some ⟨b,off,none⟩) n c,.int .i64 i,.slice (some ⟨vb,voff,none⟩) m vc] w fun e w'=>e=.returned (.slice (some ⟨B,0,none⟩) (n+m) G)/\w'=w3
 last:∀ (base:Option Addr) (n c vb voff m vc:Nat) (v':Value) (w w1:World),0<m->n<=c->n<=9223372036854775807->(base=none->c=0) ->
  (∀ ty,(Builtin.append_ #[T,T] ty #[.slice base n c,.slice (some ⟨vb,voff,none⟩) m vc]).run P w=.ok v' w1) ->
  Calls P f #[.slice base n c,.int .i64 n,.slice (some ⟨vb,voff,none⟩) m vc] w fun e w'=>e=.returned v'/\w'=w1
def InsOk(P:Program) (f:FuncId) (t:TypeId):Prop:=∃ et tI fo sz xi,P.info? et=some xi/\xi.size=sz/\InsWalks P f t et tI fo sz
structure EnvOk (P:Program) (E:Env):Prop where
 ty:∀ t τ,look E.ty t=some τ->(chk P τ).ty t=true
 lim:∀ t n,look E.lim t=some n->∃ e i,P.underlying t=some (.slice e)/\P.info? e=some i/\0<i.bytes/\n*i.bytes<=140737488355328
 con:∀ f c,look E.con f=some c->SoundC P f c
 wf:∀ f c,look E.con f=some c->wfC c=true
 arr:∀ t τ,look E.ty t=some τ->(memNat E.arr t=true↔∃ n e,P.underlying t=some (.array n e))
 mps:∀ t kt vt,look E.mps t=some (kt,vt)->P.underlying t=some (.map kt vt)
 ins:∀ f t,look E.ins f=some t->InsOk P f t
def Opd(st:St) (E:Env) (x:Operand) (hint:Option Ty) (v:Vl):Prop :=
 match x with
 | .tmp n=>look st.sl n=some (some v)
 | .const c=>ofConst hint c=some v
 | .func f=>∃ A B,hint=some (.fn A B)/\fnV E f A B=some v
 | _=>False
theorem goes_opd{st:St} {ω:Bool} {E:Env} {x:Operand} {hint:Option Ty} {k:Vl->RM} {p:Patch} {f:List Loc} (h:Goes st ω (opd E x hint k) p f) :
  ∃ v f',Opd st E x hint v/\Goes st ω (k v) p f'/\(∀ l∈f',l∈f):=by
 unfold opd at h
 split at h
 ·split at h
  ·rename_i A B
   split at h
   ·rename_i v hv;exact⟨v,f,⟨A,B,rfl,hv⟩,h,fun _ h=>h⟩
   ·cases h
  ·cases h
 ·cases h with
  | rdS hv g=>exact⟨_,_,hv,g,fun l hl=>List.mem_cons_of_mem _ hl⟩
 ·split at h
  ·rename_i v hv;exact⟨v,f,hv,h,fun _ h=>h⟩
  ·cases h
 ·cases h
theorem strOf_length(s:ByteArray):(strOf s).length=s.size:=by
 unfold strOf
 rw[List.length_map,Array.length_toList]
 rfl
theorem decV_rep{P:Program}:∀ (t:Ty) (l r:List Value) (x:t.D),decV t l=some (x,r)->∃ cs,l=cs++r/\cs.length=t.size/\∀ w O M,RepC P t w O M x t.zsh cs
 | .pr a b,l,r,x,h=>by
  simp only[decV] at h
  split at h
  ·rename_i y r1 h1
   split at h
   ·rename_i z r2 h2
    cases h
    obtain⟨c1,e1,l1,k1⟩:=decV_rep (P:=P) a _ _ _ h1
    obtain⟨c2,e2,l2,k2⟩:=decV_rep (P:=P) b _ _ _ h2
    have t1:a.tup=false:=by cases a<;>first | rfl | simp [decV] at h1
    have t2:b.tup=false:=by cases b<;>first | rfl | simp [decV] at h2
    exact⟨c1++c2,by rw[e1,e2];simp,by simp [Ty.size,l1,l2],fun w O M=>⟨c1,c2,rfl,l1,l2,t1,t2,k1 w O M,k2 w O M⟩⟩
   ·cases h
  ·cases h
 | .unit,l,r,x,h=>by
  simp only[decV,Option.some.injEq,Prod.mk.injEq] at h
  exact⟨[],by simp [h.2],rfl,fun _ _ _=>rfl⟩
 | .int k,l,r,x,h=>by
  cases l with
  | nil=>simp [decV] at h
  | cons v l =>
   cases v<;>simp only[decV] at h<;>try cases h
   rename_i k' n
   split at h
   ·rename_i h1 h2 h3
    have h1:=of_decide_eq_true h1
    have h2:=of_decide_eq_true h2
    have h3:=of_decide_eq_true h3
    subst h1
    cases h
    exact⟨[_],rfl,rfl,fun _ _ _=>⟨rfl,h2,h3⟩⟩
   ·cases h
 | .bool,l,r,x,h=>by
  cases l with
  | nil=>simp [decV] at h
  | cons v l =>
   cases v<;>simp only[decV] at h<;>cases h
   exact⟨[_],rfl,rfl,fun _ _ _=>rfl⟩
 | .str,l,r,x,h=>by
  cases l with
  | nil=>simp [decV] at h
  | cons v l =>
   cases v<;>simp only[decV] at h<;>try cases h
   split at h
   ·rename_i hs
    cases h
    exact⟨[_],rfl,rfl,fun _ _ _=>⟨_,rfl,rfl,by rw[strOf_length];exact Nat.le_of_ble_eq_true hs⟩⟩
   ·cases h
 | .ptr,l,r,x,h=>by
  cases l with
  | nil=>simp [decV] at h
  | cons v l =>
   cases v with
   | pointer a =>
    cases a<;>simp only[decV] at h<;>cases h
    exact⟨[_],rfl,rfl,fun _ _ _=>⟨_,rfl,rfl⟩⟩
   | _=>simp [decV] at h
 | .sl e,l,r,x,h=>by
  cases l with
  | nil=>simp [decV] at h
  | cons v l =>
   cases v with
   | slice a n c =>
    cases a with
    | some a=>simp [decV] at h
    | none =>
     cases n with
     | succ n=>simp [decV] at h
     | zero =>
      cases c with
      | succ c=>simp [decV] at h
      | zero =>
       simp only[decV] at h
       cases h
       exact⟨[_],rfl,rfl,fun _ _ _=>⟨none,0,0,.inl rfl,rfl,⟨Nat.le_refl _,Nat.zero_le _⟩,fun _=>rfl,rfl⟩⟩
   | _=>simp [decV] at h
 | .fn a b,l,r,x,h=>by cases l<;>simp [decV] at h
 | .ms e,l,r,x,h=>by cases l<;>simp [decV] at h
 | .tu a b,l,r,x,h=>by cases l<;>simp [decV] at h
 | .rref e,l,r,x,h=>by cases l<;>simp [decV] at h
 | .eref,l,r,x,h=>by cases l<;>simp [decV] at h
 | .mh,l,r,x,h=>by cases l<;>simp [decV] at h
 | .nx,l,r,x,h=>by cases l<;>simp [decV] at h
theorem zsh_in(U:Nat->Prop):∀ t:Ty,ShIn U t.zsh
 | .pr a b=>⟨zsh_in U a,zsh_in U b⟩
 | .ptr | .sl _ | .int _ | .bool | .str | .unit | .fn _ _ | .ms _ | .tu _ _ | .rref _ | .eref | .mh | .nx=>trivial
theorem repV_of{P:Program} {t:Ty} {w:World} {O:Own} {M:Mp} {x:t.D} {h:Sh} {v:Value} (ht:t.tup=false):RepV P t w O M x h v↔ValOf t.agg (fun c=>RepC P t w O M x h c) v:=by
 cases t<;>first | exact Iff.rfl | cases ht
theorem const_rep{P:Program} {hint:Option Ty} {c:Value} {v:Vl} (h:ofConst hint c=some v) (w:World) (O:Own) (M:Mp) (U:Nat->Prop) :
  RepV P v.ty w O M v.val v.sh c/\ShIn U v.sh:=by
 unfold ofConst at h
 split at h
 ·split at h
  ·rename_i h1 h2
   cases h
   exact⟨⟨rfl,of_decide_eq_true h1,of_decide_eq_true h2⟩,trivial⟩
  ·cases h
 ·cases h;exact⟨rfl,trivial⟩
 ·split at h
  ·rename_i hs
   cases h;exact⟨⟨_,rfl,rfl,by rw[strOf_length];exact Nat.le_of_ble_eq_true hs⟩,trivial⟩
  ·cases h
 ·cases h;exact⟨⟨_,rfl,rfl⟩,trivial⟩
 ·cases h;exact⟨⟨_,rfl,rfl⟩,trivial⟩
 ·split at h
  ·cases h;exact⟨⟨none,0,0,.inl rfl,rfl,⟨Nat.le_refl _,Nat.zero_le _⟩,fun _=>rfl,rfl⟩,trivial⟩
  ·cases h
 ·rename_i cs
  split at h
  ·rename_i t
   split at h
   ·rename_i x h1 h2
    cases h
    obtain⟨c1,e1,l1,k1⟩:=decV_rep (P:=P) t _ _ _ h1
    simp only[List.append_nil] at e1
    have t1:t.tup=false:=by cases t<;>first | rfl | cases h2
    refine⟨(repV_of t1).2 ?_,zsh_in U t⟩
    rw[h2]
    exact⟨c1,by rw[← e1],k1 w O M⟩
   ·cases h
  ·cases h
 ·cases h
end Go.VX
/- VX, part 6: operations that only compute. -/
set_option linter.unusedVariables false
set_option linter.unusedSimpArgs false
namespace Go.VX
def StepOk(P:Program) (o:Oper) (a:Act) (w:World) (R:Value->World->Prop):Prop :=
 match (execOp a.eval o).run P w with
 | .ok (.value v) w'=>R v w'
 | .ok .skip w'=>R undef w'
 | .ok (.enter f args) w'=>Calls P f args w' fun e w''=>∃ v,e=.returned v/\R v w''
 | _=>False
theorem StepOk.wp{P:Program} {o:Oper} {a:Act} {w:World} {R:Value->World->Prop} (h:StepOk P o a w R) {next:Act->World->Prop} {Q:Exit->Act->World->Prop}
  (hn:∀ v w',R v w'->next (a.put o.dst v) w'):o.wp P a w next Q:=by
 unfold StepOk at h
 unfold Oper.wp Oper.upon
 split at h
 ·rename_i hr;rw[hr];exact hn _ _ h
 ·rename_i hr;rw[hr];exact hn _ _ h
 ·rename_i f args w' hr
  rw[hr]
  refine h.mono fun e w'' he=>?_
  obtain⟨v,rfl,hv⟩:=he
  exact hn _ _ hv
 ·exact h.elim
theorem StepOk.value{P:Program} {o:Oper} {a:Act} {w w':World} {R:Value->World->Prop} {v:Value} (hr:(execOp a.eval o).run P w=.ok (.value v) w') (h:R v w'):StepOk P o a w R:=by
 unfold StepOk;rw[hr];exact h
def nilCmp(o:Oper):Bool:=match o.op with
 | .binOp _ _ _ y _=>isNilC y
 | _=>false
def OpOk(P:Program) (E:Env) (o:Oper) (m:Bool):Prop :=
 ∀ (w0:World) (I:Own) (nt:Nat) (U:Nat->Prop) (M:Mp) (st:St) (a:Act) (w:World) (id:Nat),Rel P w0 I nt U M st a w->(∀ d,o.dst=some d->d<nt) ->
  ∃ ω0,∀ ω,(nilCmp o=true->ω=ω0)->∀ p f,Goes st ω (evOp E id m o) p f->(∀ k,id<=k->k<id+p.fr->¬ U k) ->
   StepOk P o a w fun v w'=>∃ M',Agree U M M'/\Rel P w0 I nt (fun k=>U k\/(id<=k/\k<id+p.fr)) M' (st.patch o.dst p) (a.put o.dst v) w'
theorem own_slots{st:St} {M:Mp} (s:List (Nat×Option Vl)) (c:Nat) (l:List Loc):own { st with sl:=s,cnt:=c,wr:=l } M=own st M :=
 own_congr (fun _=>rfl) (fun _=>rfl)
theorem Rel.value{P:Program} {w0:World} {I:Own} {nt:Nat} {U U':Nat->Prop} {M:Mp} {st:St} {a:Act} {w:World} (h:Rel P w0 I nt U M st a w) {dst:Option Tmp}
  (hd:∀ d,dst=some d->d<nt) (hU:∀ k,U k->U' k) {u:Option Vl} {v:Value} (hr:∀ x,u=some x->RepV P x.ty w (own st M) M x.val x.sh v/\ShIn U' x.sh) {fr:Nat} :
  Rel P w0 I nt U' M (st.patch dst { v:=u,fr:=fr }) (a.put dst v) w:=by
 have ho:own (st.patch dst { v:=u,fr:=fr }) M=own st M:=own_congr (fun _=>rfl) (fun _=>rfl)
 refine h.upd hU (Agree.refl _ _) (Ext.refl _ _) (fun b o _=>by rw[ho];exact id) ?_ (fun id v hv=>.inl ⟨hv,fun _ _ _=>rfl⟩) (Ext.refl _ _) (fun b o _=>by rw[show ownN (st.patch dst { v:=u,fr:=fr }) M=ownN st M from ownN_congr (fun _=>rfl) (fun _=>rfl)];exact id) (fun id z v hv=>.inl hv)
  (fun k hk=>hU k (h.tk k hk)) (fun b o=>by rw[ho];exact h.live b o) (fun l l' b o h1 h2=>h.dis l l' b o (by rcases l with(_ | n) | n | n<;>exact h1) (by rcases l' with(_ | n) | n | n<;>exact h2)) h.keep
  (by rw[put_size];exact h.size) (by rw[put_defers];exact h.defs) (fun _ _ _ _=>rfl) (fun _ _ hk _=>hk)
 intro n x hn
 cases dst with
 | none=>exact .inl ⟨hn,rfl⟩
 | some d =>
  simp only[St.patch,look_cons] at hn
  split at hn
  ·rename_i hdn
   subst hdn
   right
   rw[put_getD_same (by rw[h.size];exact hd d rfl),ho]
   exact hr x (Option.some.inj hn)
  ·rename_i hdn
   left
   exact⟨hn,put_getD (by simpa using hdn)⟩
theorem rep_int{P:Program} {k:IntKind} {w:World} {O:Own} {M:Mp} {x:Int} {h:Sh} {v:Value} (r:RepV P (.int k) w O M x h v):v=.int k x/\k.min<=x/\x<=k.max:=by
 have:RepC P (.int k) w O M x h [v]:=r
 simpa [RepC] using this
theorem rep_int_mk{P:Program} {k:IntKind} {w:World} {O:Own} {M:Mp} {x:Int} {h:Sh} (h1:k.min<=x) (h2:x<=k.max):RepV P (.int k) w O M x h (.int k x):=⟨rfl,h1,h2⟩
theorem rep_bool{P:Program} {w:World} {O:Own} {M:Mp} {x:Bool} {h:Sh} {v:Value} (r:RepV P .bool w O M x h v):v=.bool x:=by
 have:RepC P .bool w O M x h [v]:=r
 simpa [RepC] using this
theorem rep_bool_mk{P:Program} {w:World} {O:Own} {M:Mp} {x:Bool} {h:Sh}:RepV P .bool w O M x h (.bool x):=rfl
theorem rep_str{P:Program} {w:World} {O:Own} {M:Mp} {x:List Int} {h:Sh} {v:Value} (r:RepV P .str w O M x h v):∃ s,v=.string s/\strOf s=x/\x.length<=9223372036854775807:=by
 have:RepC P .str w O M x h [v]:=r
 simpa [RepC] using this
theorem rep_str_mk{P:Program} {w:World} {O:Own} {M:Mp} {h:Sh} (s:ByteArray) (hs:(strOf s).length<=9223372036854775807):RepV P .str w O M (strOf s) h (.string s):=⟨s,rfl,rfl,hs⟩
theorem wrap_in(k:IntKind) (n:Int):k.min<=k.wrap n/\k.wrap n<=k.max:=by
 cases k<;>simp only[IntKind.min,IntKind.max,IntKind.wrap,IntKind.signed,IntKind.bits,Bool.true_and,Bool.false_and,if_true,Bool.false_eq_true,if_false,decide_eq_true_eq,Nat.reduceSub,Int.reducePow,Int.reduceNeg,Int.reduceSub,ge_iff_le]<;>(try split)<;>omega
theorem strOf_append(a b:ByteArray):strOf (a++b)=strOf a++strOf b:=by
 unfold strOf
 rw[ByteArray.data_append,Array.toList_append,List.map_append]
theorem strOf_inj{a b:ByteArray}:(a.toList==b.toList)=decide (strOf a=strOf b):=by
 rw[ByteArray.toList_eq,ByteArray.toList_eq]
 rw[Bool.eq_iff_iff,beq_iff_eq,decide_eq_true_eq]
 unfold strOf
 constructor
 ·intro h;rw[h]
 ·intro h
  exact(List.map_inj_right (fun x y hxy=>UInt8.toNat_inj.1 (by omega))).1 h
theorem bytesLess_eq:∀ (a b:List UInt8),Op.bytesLess a b=ltS (a.map fun b=>(b.toNat:Int)) (b.map fun b=>(b.toNat:Int))
 | _,[]=>by simp [Op.bytesLess,ltS]
 | [],_::_=>rfl
 | a::x,b::y=>by
  simp only[Op.bytesLess,List.map_cons,ltS,bytesLess_eq x y]
  have h1:decide (a<b)=decide ((a.toNat:Int)<b.toNat):=by rw[decide_eq_decide,UInt8.lt_iff_toNat_lt];omega
  have h2:(a==b)=decide ((a.toNat:Int)=b.toNat):=by
   rw[Bool.eq_iff_iff,beq_iff_eq,decide_eq_true_eq,← UInt8.toNat_inj];omega
  rw[h1,h2]
end Go.VX
/- VX, part 7: operands as function values; moves; operators. -/
set_option linter.unusedVariables false
set_option linter.unusedSimpArgs false
namespace Go.VX
def ArgsOk(P:Program) (w:World) (O:Own) (M:Mp):(A:Ty)->A.D->List Sh->List Value->Prop
 | .tu a b,x,s,v::vs=>RepV P a w O M x.1 (s.headD .o) v/\a.tup=false/\ArgsOk P w O M b x.2 s.tail vs
 | .unit,_,_,[]=>True
 | _,_,_,_=>False
theorem castTo_eq{t:Ty} {v:Vl} {x:t.D} (h:castTo t v=some x):∃ e:v.ty=t,x=e ▸ v.val:=by
 unfold castTo at h
 split at h
 ·rename_i e;cases h;exact⟨e,rfl⟩
 ·cases h
theorem castV_eq{t:Ty} {v:Vl} {x:t.D} (h:castV t v=some x):v.sh.plain=true/\castTo t v=some x:=by
 unfold castV at h
 split at h
 ·rename_i e;exact⟨e,h⟩
 ·cases h
theorem initSl_look{P:Program} {w:World} {O:Own} {M:Mp} {U:Nat->Prop}:∀ (A:Ty) (x:A.D) (s:List Sh) (vs:List Value) (n0:Nat),ArgsOk P w O M A x s vs->(∀ h∈s,ShIn U h) ->
  ∀ n v,look (initSl A x s n0) n=some (some v)->n0<=n/\n-n0<vs.length/\RepV P v.ty w O M v.val v.sh (vs.getD (n-n0) undef)/\ShIn U v.sh
 | .tu a b,x,s,v::vs,n0,h,hs=>by
  intro n u hn
  obtain⟨h1,h2,h3⟩:=h
  simp only[initSl,look_cons] at hn
  split at hn
  ·rename_i e
   subst e
   cases hn
   refine⟨Nat.le_refl _,by simp,by simpa using h1,?_⟩
   cases s with
   | nil=>trivial
   | cons s0 s=>exact hs s0 (by simp)
  ·rename_i e
   obtain⟨k1,k2,k3,k4⟩:=initSl_look b x.2 s.tail vs (n0+1) h3 (fun h hh=>hs h (List.mem_of_mem_tail hh)) n u hn
   have:n-n0=(n-(n0+1))+1:=by omega
   exact⟨by omega,by simp;omega,by rw[this];simpa using k3,k4⟩
 | .unit,x,s,[],n0,h,hs=>by intro n u hn;cases hn
 | .unit,x,s,v::vs,n0,h,hs=>h.elim
 | .tu a b,x,s,[],n0,h,hs=>h.elim
 | .int _,_,_,_,_,h,_=>h.elim
 | .bool,_,_,_,_,h,_=>h.elim
 | .str,_,_,_,_,h,_=>h.elim
 | .ptr,_,_,_,_,h,_=>h.elim
 | .sl _,_,_,_,_,h,_=>h.elim
 | .ms _,_,_,_,_,h,_=>h.elim
 | .pr _ _,_,_,_,_,h,_=>h.elim
 | .fn _ _,_,_,_,_,h,_=>h.elim
 | .rref _,_,_,_,_,h,_=>h.elim
 | .eref,_,_,_,_,h,_=>h.elim
 | .mh,_,_,_,_,h,_=>h.elim
 | .nx,_,_,_,_,h,_=>h.elim
theorem argsOk_o{P:Program} {w:World} {O:Own} {M:Mp}:∀ (A:Ty) (x:A.D) (s:List Sh) (vs:List Value),isCh A=true->RepC P A w O M x .o vs->(∀ h∈s,h=Sh.o)->ArgsOk P w O M A x s vs
 | .tu a b,x,s,vs,hc,h,hs=>by
  obtain⟨v,vs',rfl,t1,r1,r2⟩:=h
  have e:s.headD .o=.o:=by
   cases s with
   | nil=>rfl
   | cons s0 s=>exact hs s0 (by simp)
  refine⟨?_,t1,argsOk_o b x.2 s.tail vs' hc r2 fun h hh=>hs h (List.mem_of_mem_tail hh)⟩
  rw[e]
  exact(repV_of t1).2 r1
 | .unit,x,s,vs,hc,h,hs=>by
  have:vs=[]:=h
  subst this
  trivial
theorem reg_nil{st:St} {M:Mp} (hb:st.bx=[]) (ht:st.tk=[]) {l:Loc} {b o:Nat} (h:reg st M l b o):l=.s 0/\M.fr b o:=by
 cases l with
 | s n =>
  cases n with
  | zero=>exact⟨rfl,h⟩
  | succ n=>exact h.elim
 | b id=>obtain⟨v,h,_⟩:=h;rw[hb] at h;cases h
 | t k=>have h:=h.1;rw[ht] at h;cases h
theorem own_nil{st:St} {M:Mp} (hb:st.bx=[]) (ht:st.tk=[]):own st M=M.fr:=by
 funext b o
 exact propext ⟨fun⟨l,h⟩=>(reg_nil hb ht h).2,fun h=>⟨.s 0,h⟩⟩
theorem ownN_nil{st:St} {M:Mp} (hb:st.bx=[]) (ht:st.tk=[]):ownN st M=noOwn:=by
 funext b o
 exact propext ⟨fun⟨l,h0,h⟩=>h0 (reg_nil hb ht h).1,fun h=>h.elim⟩
theorem msOf_o(base:Nat):∀ (t:Ty) (x:t.D),msOf base t x .o=[]:=by
 intro t x;cases t<;>rfl
theorem fnV_rep{P:Program} {E:Env} (hE:EnvOk P E) {f:Nat} {A B:Ty} {v:Vl} (h:fnV E f A B=some v) (w:World) (O:Own) (M:Mp) :
  v.sh=.o/\RepV P v.ty w O M v.val v.sh (.func (.func f) #[] #[]):=by
 unfold fnV at h
 split at h
 ·rename_i c hc
  split at h<;>try cases h
  rename_i hbs hnb hash hbsh hB
  refine⟨rfl,⟨_,rfl,rfl,.inr ?_⟩⟩
  obtain⟨⟨fn,hf1,hf2,hf3⟩,hs⟩:=hE.con f c hc
  refine⟨f,#[],fn,rfl,hf1,hf2,hf3,fun w' F hx hF hlive x args hr y hy=>?_⟩
  dsimp only at hy
  split at hy
  ·rename_i a' ha
   obtain⟨e,rfl⟩:=castTo_eq ha
   dsimp only at e
   subst e
   split at hy
   ·rename_i r hr'
    obtain⟨e2,rfl⟩:=castTo_eq hy
    dsimp only at e2
    obtain⟨cA,cash,cbs,cB,cbsh,cnb,cfr,cF⟩:=c
    dsimp only at *
    subst hbs hnb
    subst e2
    simp only[Bool.and_eq_true] at hash
    have hbsh:=of_decide_eq_true hbsh
    subst hbsh
    let M0:Mp:={ (default:Mp) with fr:=F }
    have hown:own (inSt ⟨cA,cash,[],cB,.o,[],cfr,cF⟩ x) M0=F:=own_nil rfl rfl
    have hownN:ownN (inSt ⟨cA,cash,[],cB,.o,[],cfr,cF⟩ x) M0=noOwn:=ownN_nil rfl rfl
    have hash':∀ h∈cash,h=Sh.o:=fun h hh=>of_decide_eq_true (List.all_eq_true.1 hash.1 h hh)
    have hr0:RepC P cA w' F M0 x .o args:=hr.mono P _ (Ext.refl _ _) (fun _ _ _ h=>h) trivial
    have hrel:Rel P w' (ownN (inSt ⟨cA,cash,[],cB,.o,[],cfr,cF⟩ x) M0) args.toArray.size (·<cfr) M0 (inSt ⟨cA,cash,[],cB,.o,[],cfr,cF⟩ x) ⟨args.toArray,[]⟩ w':=by
     refine⟨fun n v hn=>?_,fun id v hv=>(by cases hv),fun id z v hv=>(by cases hv),fun k hk=>(by cases hk),fun b o hb=>?_,fun l l' b o h1 h2=>?_,Keeps.refl _ _,rfl,rfl,fun id v hv=>(by cases hv)⟩
     ·obtain⟨_,k2,k3,k4⟩:=initSl_look (U:=(·<cfr)) cA x cash args 0 (argsOk_o cA x cash args hash.2 hr0 hash') (fun h hh=>by rw[hash' h hh];trivial) n v hn
      rw[hown]
      refine⟨?_,k4⟩
      have e:args.toArray.getD n undef=args.getD (n-0) undef:=by simp [Array.getD_eq_getD_getElem?,List.getD_eq_getElem?_getD]
      show RepV P v.ty w' F M0 v.val v.sh (args.toArray.getD n undef)
      rw[e]
      exact k3
     ·rw[hown] at hb
      obtain⟨l1,l2⟩:=hlive b o hb
      exact⟨l1,l2,.inr (.inr hb)⟩
     ·rw[(reg_nil rfl rfl h1).1,(reg_nil rfl rfl h2).1]
    rw[show args.toArray++(#[]:Array Value)=args.toArray by simp]
    refine(hs w' M0 args.toArray x hrel r hr').mono fun e w'' he=>?_
    obtain⟨v,M',rfl,hfr,_,hout⟩:=he
    refine⟨v,rfl,?_,?_⟩
    ·have:=hout.keep;rwa [hownN] at this
    ·have hO:own (outSt ⟨cA,cash,[],cB,.o,[],cfr,cF⟩ r) M'=F:=(own_nil (by simp [outSt,outBx,outBxN,msOf_o]) (by simp [outSt,outToks,toksOf])).trans hfr
     have hsl:look (outSt ⟨cA,cash,[],cB,.o,[],cfr,cF⟩ r).sl 0=some (some ⟨cB,r,.o⟩):=by
      cases cB<;>first | rfl | exact(hB rfl).elim
     have hv:=(hout.sl 0 _ hsl).1
     rw[hO] at hv
     have hv:RepV P cB w'' F M' r .o v:=by simpa [Array.getD_eq_getD_getElem?] using hv
     have hv:RepV P cB w'' F default r .o v:=hv.mono P (Ext.refl _ _) (fun _ _ _ h=>h) trivial
     cases cB<;>exact hv
   ·cases hy
  ·cases hy
 ·cases h
end Go.VX
/- VX, part 8: operators. -/
set_option linter.unusedVariables false
set_option linter.unusedSimpArgs false
namespace Go.VX
theorem opd_rep{P:Program} {E:Env} (hE:EnvOk P E) {w0:World} {I:Own} {nt:Nat} {U:Nat->Prop} {M:Mp} {st:St} {a:Act} {w:World} (h:Rel P w0 I nt U M st a w)
  {x:Operand} {hint:Option Ty} {v:Vl} (hv:Opd st E x hint v):RepV P v.ty w (own st M) M v.val v.sh (a.eval x)/\ShIn U v.sh:=by
 cases x with
 | tmp n=>exact h.sl n v hv
 | const c=>exact const_rep hv w _ M U
 | global g=>exact hv.elim
 | func f =>
  obtain⟨A,B,_,hv⟩:=hv
  obtain⟨h1,h2⟩:=fnV_rep hE hv w (own st M) M
  exact⟨h2,by rw[h1];trivial⟩
theorem op_ret{P:Program} {w0:World} {I:Own} {nt:Nat} {U:Nat->Prop} {M:Mp} {st:St} {a:Act} {w:World} (h:Rel P w0 I nt U M st a w) {o:Oper} (hd:∀ d,o.dst=some d->d<nt)
  {u:Vl} {v':Value} {id:Nat} (hr:(execOp a.eval o).run P w=.ok (.value v') w) (hv:RepV P u.ty w (own st M) M u.val u.sh v') (hs:ShIn U u.sh) :
  StepOk P o a w fun v w'=>∃ M',Agree U M M'/\Rel P w0 I nt (fun k=>U k\/(id<=k/\k<id+1)) M' (st.patch o.dst { v:=some u }) (a.put o.dst v) w' :=
 StepOk.value hr ⟨M,Agree.refl _ _,h.value hd (fun k hk=>.inl hk) fun x hx=>by cases hx;exact⟨hv,hs.mono (fun k hk=>.inl hk) _⟩⟩
theorem goes_retV{st:St} {ω:Bool} {u:Vl} {p:Patch} {f:List Loc} (g:Goes st ω (retV u) p f):p={ v:=some u }:=by
 unfold retV at g;cases g;rfl
def Gives(P:Program) (w:World) (s:Sem Value) (p:Patch):Prop :=
 ∃ u v',p={ v:=some u }/\u.sh=.o/\s.run P w=.ok v' w/\∀ O M,RepV P u.ty w O M u.val u.sh v'
theorem gives_int{P:Program} {w:World} {s:Sem Value} {k:IntKind} {z:Int} {st:St} {ω:Bool} {p:Patch} {f:List Loc} (g:Goes st ω (retV ⟨.int k,z,.o⟩) p f)
  (hr:s.run P w=.ok (.int k z) w) (h1:k.min<=z) (h2:z<=k.max):Gives P w s p :=
 ⟨_,_,goes_retV g,rfl,hr,fun O M=>rep_int_mk h1 h2⟩
theorem gives_bool{P:Program} {w:World} {s:Sem Value} {z:Bool} {st:St} {ω:Bool} {p:Patch} {f:List Loc} (g:Goes st ω (retV ⟨.bool,z,.o⟩) p f)
  (hr:s.run P w=.ok (.bool z) w):Gives P w s p:=⟨_,_,goes_retV g,rfl,hr,fun O M=>rep_bool_mk⟩
theorem tmod_in{k:IntKind} {x y:Int} (h1:k.min<=x) (h2:x<=k.max):k.min<=x.tmod y/\x.tmod y<=k.max:=by
 have z:=IntKind.zero_in k
 have hb:(x.tmod y).natAbs<=x.natAbs:=by rw[Int.natAbs_tmod];exact Nat.mod_le _ _
 have hs:0<=x->0<=x.tmod y:=fun h=>Int.tmod_nonneg _ h
 have hn:x<=0->x.tmod y<=0:=fun h=>by
  have:=Int.tmod_nonneg y (show 0<=-x by omega)
  rw[Int.neg_tmod] at this
  omega
 rcases Int.le_total 0 x with h | h
 ·have:=hs h;omega
 ·have:=hn h;omega
theorem fdiv_pow_in{k:IntKind} {x:Int} (n:Nat) (h1:k.min<=x) (h2:x<=k.max):k.min<=x.fdiv (2 ^ n)/\x.fdiv (2 ^ n)<=k.max:=by
 have z:=IntKind.zero_in k
 have hp:(0:Int)<2 ^ n:=Int.pow_pos (by decide)
 rw[Int.fdiv_eq_ediv_of_nonneg _ (Int.le_of_lt hp)]
 rcases Int.le_total 0 x with h | h
 ·have:=Int.ediv_nonneg h (Int.le_of_lt hp)
  have:=Int.ediv_le_self (2 ^ n) h
  omega
 ·have h3:x / 2 ^ n<=0:=by have:=Int.ediv_le_ediv hp h;rwa [Int.zero_ediv] at this
  have h4:x<=x / 2 ^ n:=by
   rw[Int.le_ediv_iff_mul_le hp]
   have:(1:Int)<=2 ^ n:=hp
   have:=Int.mul_le_mul_of_nonpos_left h this
   omega
  omega
theorem binI_ok{P:Program} {st:St} {ω:Bool} {op:BinOp} {k:IntKind} {x y:Int} {yc:Option Int} {p:Patch} {f:List Loc} (g:Goes st ω (binI op k x y yc) p f) (hyc:∀ c,yc=some c->c=y)
  (h1:k.min<=x) (h2:x<=k.max) (hs:op≠.shl) (hs':op≠.shr) (t:TypeId) (w:World):Gives P w (Go.binOp op t (.int k x) (.int k y)) p:=by
 cases op<;>first | exact absurd rfl hs | exact absurd rfl hs' | skip
 case add=>exact gives_int g (by simp [Go.binOp,Op.intArith,wr]) (wrap_in _ _).1 (wrap_in _ _).2
 case sub=>exact gives_int g (by simp [Go.binOp,Op.intArith,wr]) (wrap_in _ _).1 (wrap_in _ _).2
 case mul=>exact gives_int g (by simp [Go.binOp,Op.intArith,wr]) (wrap_in _ _).1 (wrap_in _ _).2
 case quo =>
  cases yc with
  | some c =>
   have:=hyc c rfl
   subst this
   simp only[binI] at g
   split at g
   ·cases g
   ·rename_i hc
    have hc:=of_decide_eq_false hc
    exact gives_int g (by simp [Go.binOp,Op.intDiv,wr,hc]) (wrap_in _ _).1 (wrap_in _ _).2
  | none =>
   simp only[binI] at g
   cases g with
   | eff e g =>
    unfold quoI at e
    split at e
    ·cases e
    ·rename_i hc
     cases e
     exact gives_int g (by simp [Go.binOp,Op.intDiv,wr,hc]) (wrap_in _ _).1 (wrap_in _ _).2
 case rem =>
  cases yc with
  | some c =>
   have:=hyc c rfl
   subst this
   simp only[binI] at g
   split at g
   ·cases g
   ·rename_i hc
    have hc:=of_decide_eq_false hc
    exact gives_int g (by simp [Go.binOp,Op.intDiv,hc]) (tmod_in h1 h2).1 (tmod_in h1 h2).2
  | none =>
   simp only[binI] at g
   cases g with
   | eff e g =>
    unfold remI at e
    split at e
    ·cases e
    ·rename_i hc
     cases e
     exact gives_int g (by simp [Go.binOp,Op.intDiv,hc]) (tmod_in h1 h2).1 (tmod_in h1 h2).2
 case and=>exact gives_int g (by simp [Go.binOp,Op.intBits,bitI]) (wrap_in _ _).1 (wrap_in _ _).2
 case or=>exact gives_int g (by simp [Go.binOp,Op.intBits,bitI]) (wrap_in _ _).1 (wrap_in _ _).2
 case xor=>exact gives_int g (by simp [Go.binOp,Op.intBits,bitI]) (wrap_in _ _).1 (wrap_in _ _).2
 case andNot=>exact gives_int g (by simp [Go.binOp,Op.intBits,bitI]) (wrap_in _ _).1 (wrap_in _ _).2
 case eql=>exact gives_bool g (by simp [Go.binOp,Op.intCmp];rfl)
 case neq=>exact gives_bool g (by simp [Go.binOp,Op.intCmp,bne];rfl)
 case lss=>exact gives_bool g (by simp [Go.binOp,Op.intCmp])
 case leq=>exact gives_bool g (by simp [Go.binOp,Op.intCmp])
 case gtr=>exact gives_bool g (by simp [Go.binOp,Op.intCmp])
 case geq=>exact gives_bool g (by simp [Go.binOp,Op.intCmp])
theorem binShift_ok{P:Program} {st:St} {ω:Bool} {op:BinOp} {k k':IntKind} {x y:Int} {yc:Option Int} {p:Patch} {f:List Loc} (g:Goes st ω (binI op k x y yc) p f) (hyc:∀ c,yc=some c->c=y)
  (h1:k.min<=x) (h2:x<=k.max) (hs:op=.shl\/op=.shr) (t:TypeId) (w:World):Gives P w (Go.binOp op t (.int k x) (.int k' y)) p:=by
 rcases hs with rfl | rfl
 all_goals
  cases yc with
  | some c =>
   have:=hyc c rfl
   subst this
   simp only[binI] at g
   split at g
   ·cases g
   ·rename_i hc
    have hc:=of_decide_eq_false hc
    first
     | exact gives_int g (by simp [Go.binOp,Op.shift,wr,hc]) (wrap_in _ _).1 (wrap_in _ _).2
     | exact gives_int g (by simp [Go.binOp,Op.shift,wr,hc]) (fdiv_pow_in _ h1 h2).1 (fdiv_pow_in _ h1 h2).2
  | none =>
   simp only[binI] at g
   cases g with
   | eff e g =>
    first | unfold shlI at e | unfold shrI at e
    split at e
    ·cases e
    ·rename_i hc
     cases e
     first
      | exact gives_int g (by simp [Go.binOp,Op.shift,hc]) (wrap_in _ _).1 (wrap_in _ _).2
      | exact gives_int g (by simp [Go.binOp,Op.shift,hc]) (fdiv_pow_in _ h1 h2).1 (fdiv_pow_in _ h1 h2).2
theorem binS_ok{P:Program} {st:St} {ω:Bool} {op:BinOp} {a b:ByteArray} {p:Patch} {f:List Loc} (g:Goes st ω (binS op (strOf a) (strOf b)) p f) (t:TypeId) (w:World) :
  Gives P w (Go.binOp op t (.string a) (.string b)) p:=by
 have hlt:Op.bytesLess a.toList b.toList=ltS (strOf a) (strOf b):=by rw[bytesLess_eq,ByteArray.toList_eq,ByteArray.toList_eq];rfl
 cases op<;>simp only[binS] at g<;>try cases g
 case add =>
  rename_i z e g
  unfold app at e
  split at e
  ·rename_i hl
   cases e
   rw[strOf_length,strOf_length] at hl
   refine⟨_,_,goes_retV g,rfl,?_,fun O M=>⟨a++b,rfl,strOf_append a b,by show List.length (strOf a++strOf b)<=_;rw[List.length_append,strOf_length,strOf_length];omega⟩⟩
   have hmax:¬ (((a.size+b.size:Nat):Int)>IntKind.i64.max):=by
    simp only[IntKind.max,IntKind.signed,IntKind.bits,if_true,Nat.reduceSub,Int.reducePow,Int.reduceSub]
    omega
   simp only[Go.binOp,Op.stringOp,if_neg hmax]
   rfl
  ·cases e
 case eql=>exact⟨_,_,rfl,rfl,by simp only[Go.binOp,Op.stringOp,strOf_inj];rfl,fun O M=>rep_bool_mk⟩
 case neq=>exact⟨_,_,rfl,rfl,by simp only[Go.binOp,Op.stringOp,strOf_inj];rfl,fun O M=>rep_bool_mk⟩
 case lss=>exact⟨_,_,rfl,rfl,by simp only[Go.binOp,Op.stringOp,hlt];rfl,fun O M=>rep_bool_mk⟩
 case leq=>exact⟨_,_,rfl,rfl,by simp only[Go.binOp,Op.stringOp,hlt,strOf_inj];rfl,fun O M=>rep_bool_mk⟩
 case gtr=>exact⟨_,_,rfl,rfl,by simp only[Go.binOp,Op.stringOp,hlt,strOf_inj];rfl,fun O M=>rep_bool_mk⟩
 case geq=>exact⟨_,_,rfl,rfl,by simp only[Go.binOp,Op.stringOp,hlt];rfl,fun O M=>rep_bool_mk⟩
end Go.VX
/- VX, part 9: equality of structs and arrays. -/
set_option linter.unusedVariables false
set_option linter.unusedSimpArgs false
namespace Go.VX
theorem run_part{P:Program} {t:Ty} {i:TypeId} (hi:infoB P t i=true) {w:World} {cs:List Value} {off:Nat} (hl:off+t.size<=cs.length) :
  (part i cs.toArray off).run P w=.ok (valOf t.agg ((cs.drop off).take t.size)) w:=by
 obtain⟨_,x,d,hx,hd,hs,ha,_⟩:=infoB_spec hi
 simp only[part,Sem.run_bind,run_isAgg hd,Result.andThen_ok,ha]
 cases hagg:t.agg with
 | true =>
  simp only[if_true,Sem.run_bind,run_sizeOf hx,Result.andThen_ok,hs,Sem.run_pure,valOf]
  congr 2
  apply Array.ext'
  simp only[Array.toList_extract,List.extract_eq_take_drop,Nat.add_sub_cancel_left]
 | false =>
  have h1:=size_one hagg
  have:off<cs.length:=by omega
  have h2:cs.toArray[off]?=some cs[off]:=by rw[List.getElem?_toArray,List.getElem?_eq_getElem this]
  simp only[Bool.false_eq_true,if_false,h2,Sem.run_pure,valOf,h1,List.drop_eq_getElem_cons this,List.take_succ_cons,List.headD_cons]
def depT:Ty->Nat
 | .pr a b=>max (depT a+1) (depT b)
 | _=>1
def chkE(P:Program):Ty->Chk
 | .int _=>⟨fun _=>true,fun _ _=>false,fun _ _=>false⟩
 | .bool=>⟨fun _=>true,fun _ _=>false,fun _ _=>false⟩
 | .str=>⟨fun _=>true,fun _ _=>false,fun _ _=>false⟩
 | .unit=>⟨fun i=>!P.stoodInHeld i,fun _ _=>true,fun _ _=>true⟩
 | .pr a b =>
  let fs:List Field->Nat->Bool:=fun l off=>match l with
   | f :: r => (f.name != "_") && (chkE P a).ty f.type && (chkE P b).fs r 0
   | []=>true
  let ar:Nat->TypeId->Bool:=fun n e=>match n with
   | 0=>true
   | n+1=>(chkE P a).ty e&&(chkE P b).ar n e
  ⟨fun i=>match P.underlying i with
   | some (.struct l)=>!P.stoodInHeld i&&fs l.toList 0
   | some (.array n e)=>ar n e
   | _=>false,fs,ar⟩
 | _=>⟨fun _=>false,fun _ _=>false,fun _ _=>false⟩
theorem eqf_cons{P:Program} {d:Nat} {xs ys:Array Value} {f:Field} {fs:List Field} {a b:Value} {r s:Bool} {w:World}
  (hn : (f.name != "_") = true) (ha : (part f.type xs f.offset).run P w = .ok a w) (hb : (part f.type ys f.offset).run P w = .ok b w) (he : (Op.equalIn d f.type a b).run P w = .ok r w)
  (hr:(Op.eqFields d xs ys fs).run P w=.ok s w):(Op.eqFields d xs ys (f::fs)).run P w=.ok (r&&s) w:=by
 have hn' : f.name ≠ "_" := by simpa using hn
 rw[Op.eqFields]
 simp only[if_pos hn',Sem.run_bind,ha,hb,he,Result.andThen_ok]
 cases r
 ·simp
 ·simpa using hr
theorem eqi_cons{P:Program} {d sz:Nat} {xs ys:Array Value} {e:TypeId} {i:Nat} {is:List Nat} {a b:Value} {r s:Bool} {w:World}
  (ha:(part e xs (i*sz)).run P w=.ok a w) (hb:(part e ys (i*sz)).run P w=.ok b w) (he:(Op.equalIn d e a b).run P w=.ok r w)
  (hr:(Op.eqItems d e sz xs ys is).run P w=.ok s w):(Op.eqItems d e sz xs ys (i::is)).run P w=.ok (r&&s) w:=by
 rw[Op.eqItems]
 simp only[Sem.run_bind,ha,hb,he,Result.andThen_ok]
 cases r
 ·simp
 ·simpa using hr
theorem part_mid{P:Program} {t:Ty} {i:TypeId} (hi:infoB P t i=true) {w:World} {c1 a1 b1:List Value} {off:Nat} (h1:c1.length=off) (h2:a1.length=t.size) :
  (part i (c1++(a1++b1)).toArray off).run P w=.ok (valOf t.agg a1) w:=by
 rw[run_part hi (by simp;omega)]
 congr 2
 rw[← h1,List.drop_left,← h2,List.take_left]
theorem eqOk_std{t:Ty} (h:eqOk t=true):t.std=true/\t.tup=false:=by cases t<;>simp_all [eqOk,Ty.std,Ty.tup]
theorem eqOk_mem{t:Ty} (h:eqOk t=true):t.tup=false:=(eqOk_std h).2
theorem equalIn_ok{P:Program} {w:World}:∀ (t:Ty),eqOk t=true ->
  (∀ (i:TypeId) (d:Nat) {O O':Own} {M M':Mp} {x y:t.D} {h h':Sh} {v u:Value},(chk P t).ty i=true->(chkE P t).ty i=true->depT t<=d->RepV P t w O M x h v->RepV P t w O' M' y h' u ->
   (Op.equalIn d i v u).run P w=.ok (eqT t x y) w) /\
  (∀ (l:List Field) (off d:Nat) {O O':Own} {M M':Mp} {x y:t.D} {h h':Sh} {c1 c2 cs ds:List Value},(chk P t).fs l off=true->(chkE P t).fs l 0=true->depT t<=d+1->c1.length=off->c2.length=off ->
   RepC P t w O M x h cs->RepC P t w O' M' y h' ds->(Op.eqFields d (c1++cs).toArray (c2++ds).toArray l).run P w=.ok (eqT t x y) w) /\
  (∀ (n:Nat) (e:TypeId) (j d:Nat) {O O':Own} {M M':Mp} {x y:t.D} {h h':Sh} {c1 c2 cs ds:List Value},(chk P t).ar n e=true->(chkE P t).ar n e=true->depT t<=d+1->c1.length=j*P.cellsOf e->c2.length=j*P.cellsOf e ->
   RepC P t w O M x h cs->RepC P t w O' M' y h' ds->(Op.eqItems d e (P.cellsOf e) (c1++cs).toArray (c2++ds).toArray (List.range' j n)).run P w=.ok (eqT t x y) w)
 | .int k,_=>⟨fun i d O O' M M' x y h h' v u hc _ hd r1 r2=>by
   obtain⟨rfl,_⟩:=rep_int r1
   obtain⟨rfl,_⟩:=rep_int r2
   obtain⟨d,rfl⟩:∃ d',d=d'+1:=⟨d-1,by simp only[depT] at hd;omega⟩
   exact run_equalIn_int w d i k k x y (chk_int hc),fun l off d O O' M M' x y h h' c1 c2 cs ds hc=>(by cases hc),fun n e j d O O' M M' x y h h' c1 c2 cs ds hc=>(by cases hc)⟩
 | .bool,_=>⟨fun i d O O' M M' x y h h' v u hc _ hd r1 r2=>by
   have:=rep_bool r1
   have:=rep_bool r2
   subst_vars
   obtain⟨d,rfl⟩:∃ d',d=d'+1:=⟨d-1,by simp only[depT] at hd;omega⟩
   exact run_equalIn_bool' w d i x y (chk_bool hc),fun l off d O O' M M' x y h h' c1 c2 cs ds hc=>(by cases hc),fun n e j d O O' M M' x y h h' c1 c2 cs ds hc=>(by cases hc)⟩
 | .str,_=>⟨fun i d O O' M M' x y h h' v u hc _ hd r1 r2=>by
   obtain⟨s1,rfl,rfl,_⟩:=rep_str r1
   obtain⟨s2,rfl,rfl,_⟩:=rep_str r2
   obtain⟨d,rfl⟩:∃ d',d=d'+1:=⟨d-1,by simp only[depT] at hd;omega⟩
   rw[run_equalIn_string w d i s1 s2 (chk_str hc),strOf_inj]
   rfl,fun l off d O O' M M' x y h h' c1 c2 cs ds hc=>(by cases hc),fun n e j d O O' M M' x y h h' c1 c2 cs ds hc=>(by cases hc)⟩
 | .unit,_=>by
  refine⟨fun i d O O' M M' x y h h' v u hc he hd r1 r2=>?_,fun l off d O O' M M' x y h h' c1 c2 cs ds hc _ _ _ _ _ _=>?_,fun n e j d O O' M M' x y h h' c1 c2 cs ds hc _ _ _ _ _ _=>?_⟩
  ·obtain⟨cs,rfl,r1⟩:=r1
   obtain⟨ds,rfl,r2⟩:=r2
   have:cs=[]:=r1
   have:ds=[]:=r2
   subst_vars
   obtain⟨d,rfl⟩:∃ d',d=d'+1:=⟨d-1,by simp only[depT] at hd;omega⟩
   simp only[chk,Bool.and_eq_true] at hc
   obtain⟨_,hc⟩:=hc
   split at hc
   ·rename_i fs hfs
    have hf:P.fieldsOf i=fs:=by simp [Program.fieldsOf,hfs]
    rw[run_equalIn_struct (P:=P) w d i _ _ (by rw[hf];exact hfs) (by simpa [chkE] using he),hf]
    have:fs.toList=[]:=by simpa using hc
    rw[this]
    simp [Op.eqFields,eqT]
   ·cases hc
  ·have:l=[]:=by simpa [chk] using hc
   subst this
   simp [Op.eqFields,eqT]
  ·have:n=0:=Nat.eq_of_beq_eq_true hc
   subst this
   simp [Op.eqItems,eqT]
 | .pr a b,hok=>by
  simp only[eqOk,Bool.and_eq_true] at hok
  obtain⟨ia,_⟩:=equalIn_ok (P:=P) (w:=w) a hok.1
  obtain⟨_,ibf,iba⟩:=equalIn_ok (P:=P) (w:=w) b hok.2
  have sa:=eqOk_std hok.1
  have hfs:∀ (l:List Field) (off d:Nat) {O O':Own} {M M':Mp} {x y:(Ty.pr a b).D} {h h':Sh} {c1 c2 cs ds:List Value},(chk P (.pr a b)).fs l off=true->(chkE P (.pr a b)).fs l 0=true->depT (.pr a b)<=d+1->c1.length=off->c2.length=off ->
   RepC P (.pr a b) w O M x h cs->RepC P (.pr a b) w O' M' y h' ds->(Op.eqFields d (c1++cs).toArray (c2++ds).toArray l).run P w=.ok (eqT (.pr a b) x y) w:=by
   intro l off d O O' M M' x y h h' c1 c2 cs ds hc he hd l1 l2 r1 r2
   obtain⟨a1,b1,rfl,la1,lb1,_,_,ra1,rb1⟩:=r1
   obtain⟨a2,b2,rfl,la2,lb2,_,_,ra2,rb2⟩:=r2
   cases l with
   | nil=>simp [chk] at hc
   | cons f l =>
    simp only[chk,Bool.and_eq_true] at hc
    simp only[chkE,Bool.and_eq_true] at he
    have ho:f.offset=off:=Nat.eq_of_beq_eq_true hc.1.1
    have hda:depT a<=d:=by simp only[depT] at hd;omega
    have hdb:depT b<=d+1:=by simp only[depT] at hd;omega
    have hi:=chk_info hc.1.2 sa.1
    refine eqf_cons he.1.1 (by rw[ho];exact part_mid hi l1 la1) (by rw[ho];exact part_mid hi l2 la2)
     (ia f.type d hc.1.2 he.1.2 hda ((repV_of sa.2).2 (valOf_ValOf ra1 (fun e=>by rw[la1];exact size_one e))) ((repV_of sa.2).2 (valOf_ValOf ra2 (fun e=>by rw[la2];exact size_one e)))) ?_
    have:=ibf l (off+a.size) d (c1:=c1++a1) (c2:=c2++a2) hc.2 he.2 hdb (by simp [l1,la1]) (by simp [l2,la2]) rb1 rb2
    simpa only[List.append_assoc] using this
  have har:∀ (n:Nat) (e:TypeId) (j d:Nat) {O O':Own} {M M':Mp} {x y:(Ty.pr a b).D} {h h':Sh} {c1 c2 cs ds:List Value},(chk P (.pr a b)).ar n e=true->(chkE P (.pr a b)).ar n e=true->depT (.pr a b)<=d+1->c1.length=j*P.cellsOf e->c2.length=j*P.cellsOf e ->
   RepC P (.pr a b) w O M x h cs->RepC P (.pr a b) w O' M' y h' ds->(Op.eqItems d e (P.cellsOf e) (c1++cs).toArray (c2++ds).toArray (List.range' j n)).run P w=.ok (eqT (.pr a b) x y) w:=by
   intro n e j d O O' M M' x y h h' c1 c2 cs ds hc he hd l1 l2 r1 r2
   obtain⟨a1,b1,rfl,la1,lb1,_,_,ra1,rb1⟩:=r1
   obtain⟨a2,b2,rfl,la2,lb2,_,_,ra2,rb2⟩:=r2
   cases n with
   | zero=>simp [chk] at hc
   | succ n =>
    simp only[chk,Bool.and_eq_true] at hc
    simp only[chkE,Bool.and_eq_true] at he
    have hda:depT a<=d:=by simp only[depT] at hd;omega
    have hdb:depT b<=d+1:=by simp only[depT] at hd;omega
    have hi:=chk_info hc.1 sa.1
    have hsz:P.cellsOf e=a.size:=by
     obtain⟨_,x,_,hx,_,hs,_⟩:=infoB_spec hi
     simp [Program.cellsOf,hx,hs]
    rw[List.range'_succ]
    refine eqi_cons (part_mid hi l1 la1) (part_mid hi l2 la2)
     (ia e d hc.1 he.1 hda ((repV_of sa.2).2 (valOf_ValOf ra1 (fun e=>by rw[la1];exact size_one e))) ((repV_of sa.2).2 (valOf_ValOf ra2 (fun e=>by rw[la2];exact size_one e)))) ?_
    have:=iba n e (j+1) d (c1:=c1++a1) (c2:=c2++a2) hc.2 he.2 hdb (by rw[List.length_append,l1,la1,hsz,Nat.succ_mul]) (by rw[List.length_append,l2,la2,hsz,Nat.succ_mul]) rb1 rb2
    simpa only[List.append_assoc] using this
  refine⟨fun i d O O' M M' x y h h' v u hc he hd r1 r2=>?_,hfs,har⟩
  obtain⟨cs,rfl,r1⟩:=r1
  obtain⟨ds,rfl,r2⟩:=r2
  obtain⟨d,rfl⟩:∃ d',d=d'+1:=⟨d-1,by simp only[depT] at hd;omega⟩
  rcases chk_pr hc with⟨l,hu,hl⟩ | ⟨n,e,hu,hn⟩
  ·have hf:P.fieldsOf i=l:=by simp [Program.fieldsOf,hu]
   simp only[chkE,hu,Bool.and_eq_true] at he
   rw[run_equalIn_struct (P:=P) w d i _ _ (by rw[hf];exact hu) (by simpa using he.1),hf]
   have:=hfs l.toList 0 d (c1:=[]) (c2:=[]) hl (by simpa only[chkE] using he.2) hd rfl rfl r1 r2
   simpa only[List.nil_append] using this
  ·have he':(chkE P (.pr a b)).ar n e=true:=by simpa only[chkE,hu] using he
   obtain⟨hn',hty⟩:=chk_arr _ n e hn
   have hi:=chk_info (hty 0 a rfl) sa.1
   obtain⟨_,z,_,hx,_,hs,_⟩:=infoB_spec hi
   rw[Go.run_equalIn_array w d _ _ hu hx,List.range_eq_range']
   have:=har n e 0 d (c1:=[]) (c2:=[]) hn he' hd (by simp) (by simp) r1 r2
   simpa only[List.nil_append] using this
end Go.VX
/- VX, part 10: the operations that only compute. -/
set_option linter.unusedVariables false
set_option linter.unusedSimpArgs false
namespace Go.VX
structure EqsOk (P:Program) (E:Env):Prop where
 eqs:∀ t τ,memNat E.eqs t=true->look E.ty t=some τ->(chkE P τ).ty t=true/\depT τ<=10000/\P.eqGuardType P.depth t=false
theorem run_eqGuard{P:Program} {op:BinOp} {t:TypeId} {x y:Operand} {u v:Value} {w:World} (h:∀ xs,u=.agg xs->P.eqGuardType P.depth t=false) (hn:u≠.nilIface) :
  (eqGuard op t x y u v).run P w=.ok () w:=by
 cases u with
 | agg xs =>
  cases v with
  | agg ys=>exact run_eqGuard_agg w op t x y xs ys (h xs rfl)
  | _=>cases op<;>simp [eqGuard]
 | nilIface=>exact absurd rfl hn
 | _=>cases op<;>simp [eqGuard]
theorem op_gives{P:Program} {w0:World} {I:Own} {nt:Nat} {U:Nat->Prop} {M:Mp} {st:St} {a:Act} {w:World} (h:Rel P w0 I nt U M st a w) {o:Oper} (hd:∀ d,o.dst=some d->d<nt)
  {s:Sem Value} {p:Patch} {id:Nat} (hg:Gives P w s p) (hr:(execOp a.eval o).run P w=(s.run P w).andThen fun v w'=>.ok (.value v) w') :
  StepOk P o a w fun v w'=>∃ M',Agree U M M'/\Rel P w0 I nt (fun k=>U k\/(id<=k/\k<id+p.fr)) M' (st.patch o.dst p) (a.put o.dst v) w':=by
 obtain⟨u,v',rfl,hs,hrun,hv⟩:=hg
 rw[hrun] at hr
 exact op_ret h hd hr (hv _ _) (by rw[hs];trivial)
theorem opd_const{st:St} {E:Env} {x:Operand} {hint:Option Ty} {v:Vl} (h:Opd st E x hint v) {c:Int} (hc:constInt x=some c):∃ k,v=⟨.int k,c,.o⟩:=by
 cases x with
 | const z =>
  cases z with
  | int k n =>
   simp only[constInt,Option.some.injEq] at hc
   subst hc
   unfold Opd at h
   simp only[ofConst] at h
   split at h
   ·cases h;exact⟨k,rfl⟩
   ·cases h
  | _=>simp [constInt] at hc
 | _=>simp [constInt] at hc
theorem rep_ne{P:Program} {t:Ty} {w:World} {O:Own} {M:Mp} {x:t.D} {h:Sh} {v:Value} (r:RepV P t w O M x h v) (ht:eqOk t=true):v≠.nilIface/\((∃ xs,v=.agg xs)->t.agg=true):=by
 cases t<;>simp only[eqOk] at ht<;>try cases ht
 ·obtain⟨rfl,_⟩:=rep_int r;exact⟨by simp,by rintro⟨_,h⟩;cases h⟩
 ·have:=rep_bool r;subst this;exact⟨by simp,by rintro⟨_,h⟩;cases h⟩
 ·obtain⟨s,rfl,_⟩:=rep_str r;exact⟨by simp,by rintro⟨_,h⟩;cases h⟩
 ·obtain⟨cs,rfl,_⟩:=r;exact⟨by simp,fun _=>rfl⟩
 ·obtain⟨cs,rfl,_⟩:=r;exact⟨by simp,fun _=>rfl⟩
theorem run_bin_eq{P:Program} {op:BinOp} (ho:op=.eql\/op=.neq) {t:TypeId} {u v:Value} {w:World} {b:Bool} (hr:(Op.equalIn 10000 t u v).run P w=.ok b w)
  (hu:(∃ x,u=.bool x)\/(∃ x,u=.agg x)\/(∃ p,u=.pointer p)\/(∃ p n c,u=.slice p n c)) (hv:(∃ x,v=.bool x)\/(∃ x,v=.agg x)\/(v=.pointer none)\/(v=.slice none 0 0)) :
  (Go.binOp op t u v).run P w=.ok (.bool (if op=.eql then b else !b)) w:=by
 have hr':(Op.equal t u v).run P w=.ok b w:=hr
 rcases ho with rfl | rfl<;>rcases hu with⟨x,rfl⟩ | ⟨x,rfl⟩ | ⟨x,rfl⟩ | ⟨x,n,c,rfl⟩<;>rcases hv with⟨y,rfl⟩ | ⟨y,rfl⟩ | rfl | rfl <;>
  simp only[Go.binOp,Sem.run_bind,hr',Result.andThen_ok,Sem.run_pure,reduceCtorEq,if_true,if_false]<;>rfl
theorem exec_bin{P:Program} {o:Oper} {a:Act} {w:World} {op:BinOp} {t yt:TypeId} {x y:Operand} (ho:o.op=.binOp op t x y yt) (hg:(eqGuard op t x y (a.eval x) (a.eval y)).run P w=.ok () w) :
  (execOp a.eval o).run P w=((Go.binOp op t (a.eval x) (a.eval y)).run P w).andThen fun v w'=>.ok (.value v) w':=by
 simp only[execOp,ho,Sem.run_bind,hg,Result.andThen_ok]
 rfl
theorem rep_ptr{P:Program} {w:World} {O:Own} {M:Mp} {x:Ty.ptr.D} {h:Sh} {v:Value} (r:RepV P .ptr w O M x h v):∃ p,v=.pointer p/\PtrSh M h p:=by
 have:RepC P .ptr w O M x h [v]:=r
 simpa [RepC] using this
theorem rep_sl{P:Program} {e:Ty} {w:World} {O:Own} {M:Mp} {x:List e.D} {h:Sh} {v:Value} (r:RepV P (.sl e) w O M x h v) :
  ∃ a n c,SlV h a n c [v]/\n=x.length/\LeC n c/\(a=none->c=0)/\SlSh M h a n c e.size (∀ p,a=some p->Elems (fun y es=>RepC P e w O M y .o es) w O e.size p x):=by
 have:RepC P (.sl e) w O M x h [v]:=r
 simpa [RepC] using this
theorem SlV.val{h:Sh} {a:Option (Nat×Nat)} {n c:Nat} {v:Value} (k:SlV h a n c [v]) (hl:h.loose=false):v=.slice (a.map adr) n c:=by
 have:=k.strict hl;simpa using this
theorem SlV.valPos{h:Sh} {a:Option (Nat×Nat)} {n c:Nat} {v:Value} (k:SlV h a n c [v]) (hc:0<c):v=.slice (a.map adr) n c:=by
 have:=k.pos hc;simpa using this
theorem SlV.valApp{h:Sh} {a:Option (Nat×Nat)} {n c:Nat} {v:Value} (k:SlV h a n c [v]):∃ x:Option Addr,v=.slice x n c/\(∀ y,x=some y->c=0\/∃ p,a=some p/\y=adr p)/\(x=none->a=none):=by
 rcases k with k | ⟨_,rfl,x,p,k,rfl⟩
 ·refine⟨_,List.singleton_inj.1 k,fun y hy=>?_,fun h=>by simpa using h⟩
  obtain⟨q,hq,rfl⟩:=Option.map_eq_some_iff.1 hy
  exact .inr ⟨q,hq,rfl⟩
 ·exact⟨_,List.singleton_inj.1 k,fun _ _=>.inl rfl,fun h=>by cases h⟩
theorem SlV.valAny{h:Sh} {a:Option (Nat×Nat)} {n c:Nat} {v:Value} (k:SlV h a n c [v]):∃ x:Option Addr,v=.slice x n c/\x.isNone=a.isNone:=by
 obtain⟨x,h1,h2⟩:=k.any;exact⟨x,by simpa using h1,h2⟩
theorem goes_amb{st:St} {ω b:Bool} {k:Bool->RM} {p:Patch} {f:List Loc} (g:Goes st ω (.amb b k) p f):∃ f',Goes st ω (k (b&&ω)) p f':=by
 cases g with | amb g=>exact⟨_,g⟩
theorem eqin_ptr{P:Program} {t e:TypeId} (h:P.underlying t=some (.pointer e)) (d:Nat) (p:Option Addr) (w:World):(Op.equalIn (d+1) t (.pointer p) (.pointer none)).run P w=.ok p.isNone w:=by
 cases p<;>simp [Op.equalIn,run_underlying h]
theorem eqin_sl{P:Program} {t e:TypeId} (h:P.underlying t=some (.slice e)) (d:Nat) (p:Option Addr) (n c:Nat) (w:World):(Op.equalIn (d+1) t (.slice p n c) (.slice none 0 0)).run P w=.ok p.isNone w:=by
 cases p<;>simp [Op.equalIn,run_underlying h]
theorem bin_eq_any{P:Program} {t:Ty} (ht:eqOk t=true) {op:BinOp} (ho:op=.eql\/op=.neq) {i:TypeId} {w:World} {O O':Own} {M M':Mp} {x y:t.D} {h h':Sh} {v u:Value}
  (rv:RepV P t w O M x h v) (ru:RepV P t w O' M' y h' u) (hr:(Op.equalIn 10000 i v u).run P w=.ok (eqT t x y) w) :
  (Go.binOp op i v u).run P w=.ok (.bool (if op=.eql then eqT t x y else !eqT t x y)) w:=by
 cases t with
 | int k =>
  obtain⟨rfl,_⟩:=rep_int rv
  obtain⟨rfl,_⟩:=rep_int ru
  rcases ho with rfl | rfl
  ·simp [Go.binOp,Op.intCmp,eqT];rfl
  ·simp [Go.binOp,Op.intCmp,eqT,bne];rfl
 | str =>
  obtain⟨s1,rfl,rfl,_⟩:=rep_str rv
  obtain⟨s2,rfl,rfl,_⟩:=rep_str ru
  rcases ho with rfl | rfl<;>simp only[Go.binOp,Op.stringOp,strOf_inj,eqT,if_true,if_false,reduceCtorEq]<;>rfl
 | bool =>
  have:=rep_bool rv
  have:=rep_bool ru
  subst_vars
  exact run_bin_eq ho hr (.inl ⟨_,rfl⟩) (.inl ⟨_,rfl⟩)
 | unit =>
  obtain⟨cs,rfl,_⟩:=rv
  obtain⟨ds,rfl,_⟩:=ru
  exact run_bin_eq ho hr (.inr (.inl ⟨_,rfl⟩)) (.inr (.inl ⟨_,rfl⟩))
 | pr a b =>
  obtain⟨cs,rfl,_⟩:=rv
  obtain⟨ds,rfl,_⟩:=ru
  exact run_bin_eq ho hr (.inr (.inl ⟨_,rfl⟩)) (.inr (.inl ⟨_,rfl⟩))
 | _=>cases ht
def isNilV:Value->Bool
 | .slice none _ _=>true
 | _=>false
theorem ok_binOp{P:Program} {E:Env} (hE:EnvOk P E) (hQ:EqsOk P E) {o:Oper} {m:Bool} {op:BinOp} {t yt:TypeId} {x y:Operand} (ho:o.op=.binOp op t x y yt):OpOk P E o m:=by
 intro w0 I nt U M st a w id h hd
 refine⟨isNilV (a.eval x),fun ω hω0 p f hg hfr=>?_⟩
 have hω:isNilC y=true->ω=isNilV (a.eval x):=fun hy=>hω0 (by simp only[nilCmp,ho];exact hy)
 simp only[evOp,ho] at hg
 obtain⟨u,_,hu,hg,_⟩:=goes_opd hg
 obtain⟨v,_,hv,hg,_⟩:=goes_opd hg
 obtain⟨ru,_⟩:=opd_rep hE h hu
 obtain⟨rv,_⟩:=opd_rep hE h hv
 unfold binV at hg
 split at hg
 ·
  obtain⟨eu,hu1,hu2⟩:=rep_int ru
  obtain⟨ev,_,_⟩:=rep_int rv
  dsimp only at eu ev
  have hyc:∀ c,constInt y=some c->c=_:=fun c hc=>by
   obtain⟨_,e⟩:=opd_const hv hc
   cases e;rfl
  have hge:(eqGuard op t x y (a.eval x) (a.eval y)).run P w=.ok () w:=run_eqGuard (fun xs e=>by rw[eu] at e;cases e) (by rw[eu];simp)
  have hx:=exec_bin ho hge
  rw[eu,ev] at hx
  split at hg
  ·exact op_gives h hd (binShift_ok hg hyc hu1 hu2 (.inl rfl) t w) hx
  ·exact op_gives h hd (binShift_ok hg hyc hu1 hu2 (.inr rfl) t w) hx
  ·rename_i h1 h2
   split at hg
   ·rename_i hk
    have hk:=of_decide_eq_true hk
    subst hk
    exact op_gives h hd (binI_ok hg hyc hu1 hu2 h1 h2 t w) hx
   ·cases hg
 ·
  obtain⟨su,eu,e1,_⟩:=rep_str ru
  obtain⟨sv,ev,e2,_⟩:=rep_str rv
  dsimp only at eu ev e1 e2
  subst e1 e2
  have hge:(eqGuard op t x y (a.eval x) (a.eval y)).run P w=.ok () w:=run_eqGuard (fun xs e=>by rw[eu] at e;cases e) (by rw[eu];simp)
  have hx:=exec_bin ho hge
  rw[eu,ev] at hx
  exact op_gives h hd (binS_ok hg t w) hx
 ·
  obtain⟨pu,eu,e1⟩:=rep_ptr ru
  obtain⟨pv,ev,e2⟩:=rep_ptr rv
  dsimp only[PtrSh] at eu ev e1 e2
  subst e2
  have hge:(eqGuard op t x y (a.eval x) (a.eval y)).run P w=.ok () w:=run_eqGuard (fun xs e=>by rw[eu] at e;cases e) (by rw[eu];simp)
  have hx:=exec_bin ho hge
  rw[eu,ev] at hx
  have hrun:∀ (b:Bool),decide (look E.ty t=some Ty.ptr)=true->b=pu.isNone->(op=.eql\/op=.neq)->(Go.binOp op t (.pointer pu) (.pointer none)).run P w=.ok (.bool (if op=.eql then b else !b)) w:=fun b hty hb hop=>by
   obtain⟨e',he'⟩:=chk_ptr (hE.ty _ _ (of_decide_eq_true hty))
   refine run_bin_eq hop ?_ (.inr (.inr (.inl ⟨_,rfl⟩))) (.inr (.inr (.inl rfl)))
   subst hb
   exact eqin_ptr he' 9999 pu w
  split at hg
  ·exact op_gives h hd (gives_bool hg (hrun true (by assumption) (by rw[show pu=none from e1];rfl) (.inl rfl))) hx
  ·exact op_gives h hd (gives_bool hg (hrun true (by assumption) (by rw[show pu=none from e1];rfl) (.inr rfl))) hx
  ·exact op_gives h hd (gives_bool hg (hrun false (by assumption) (by rw[show pu=some _ from e1];rfl) (.inl rfl))) hx
  ·exact op_gives h hd (gives_bool hg (hrun false (by assumption) (by rw[show pu=some _ from e1];rfl) (.inr rfl))) hx
  ·cases hg
 ·
  obtain⟨pa,n,c,eu,e1,e2,e3,e4⟩:=rep_sl ru
  obtain⟨pb,n',c',ev,f1,f2,f3,f4⟩:=rep_sl rv
  dsimp only[SlSh] at e1 e2 f4
  obtain⟨ua,eu,hua⟩:=eu.valAny
  replace ev:=ev.val rfl
  subst f4
  have:=f3 rfl
  subst this
  have:n'=0:=by omega
  subst this
  have hge:(eqGuard op t x y (a.eval x) (a.eval y)).run P w=.ok () w:=run_eqGuard (fun xs e=>by rw[eu] at e;cases e) (by rw[eu];simp)
  have hx:=exec_bin ho hge
  rw[eu,ev] at hx
  have hω':isNilC y=true->ω=pa.isNone:=fun hy=>by
   rw[hω hy,eu,← hua]
   cases ua<;>rfl
  have hb:∀ {α:Type} (l:List α),n=List.length l->isNilC y=true->(l.isEmpty&&ω)=pa.isNone:=fun l hl hy=>by
   rw[hω' hy]
   cases hpa:pa with
   | none =>
    have:=e3 hpa
    have:l=[]:=List.length_eq_zero_iff.1 (by omega)
    subst this
    rfl
   | some q=>simp
  have hrun:∀ {e:Ty},decide (look E.ty t=some (Ty.sl e))=true->(op=.eql\/op=.neq)->(Go.binOp op t (.slice ua n c) (.slice none 0 0)).run P w=.ok (.bool (if op=.eql then pa.isNone else !pa.isNone)) w:=fun {e} hty hop=>by
   obtain⟨j,hj,_⟩:=chk_sl (hE.ty _ _ (of_decide_eq_true hty))
   refine run_bin_eq hop ?_ (.inr (.inr (.inr ⟨_,_,_,rfl⟩))) (.inr (.inr (.inr rfl)))
   have:=eqin_sl hj 9999 ua n c w
   rwa [hua] at this
  split at hg
  ·have hty:=Bool.and_eq_true_iff.1 (by assumption)
   obtain⟨_,hg⟩:=goes_amb hg
   rw[hb _ e1 hty.1] at hg
   exact op_gives h hd (gives_bool hg (hrun hty.2 (.inl rfl))) hx
  ·have hty:=Bool.and_eq_true_iff.1 (by assumption)
   obtain⟨_,hg⟩:=goes_amb hg
   rw[hb _ e1 hty.1] at hg
   exact op_gives h hd (gives_bool hg (hrun hty.2 (.inr rfl))) hx
  ·cases hg
 ·
  split at hg
  ·rename_i b' hc hq
   simp only[Bool.and_eq_true] at hq
   obtain⟨hok,hmem,hty⟩:=hq
   obtain⟨e,rfl⟩:=castTo_eq hc
   dsimp only at e ru rv hg
   subst e
   have hty:=of_decide_eq_true hty
   obtain⟨q1,q2,q3⟩:=hQ.eqs t _ hmem hty
   have hr:=(equalIn_ok _ hok).1 t 10000 (hE.ty _ _ hty) q1 q2 ru rv
   obtain⟨n1,n2⟩:=rep_ne ru hok
   have hge:(eqGuard op t x y (a.eval x) (a.eval y)).run P w=.ok () w:=run_eqGuard (fun xs e=>q3) n1
   have hx:=exec_bin ho hge
   split at hg
   ·exact op_gives h hd (gives_bool hg (bin_eq_any hok (.inl rfl) ru rv hr)) hx
   ·exact op_gives h hd (gives_bool hg (bin_eq_any hok (.inr rfl) ru rv hr)) hx
   ·cases hg
  ·cases hg
end Go.VX
/- VX, part 11: more operations that only compute. -/
set_option linter.unusedVariables false
set_option linter.unusedSimpArgs false
namespace Go.VX
theorem ok_unOp{P:Program} {E:Env} (hE:EnvOk P E) {o:Oper} {m:Bool} {op:UnOp} {t:TypeId} {x:Operand} (ho:o.op=.unOp op t x):OpOk P E o m:=by
 intro w0 I nt U M st a w id h hd
 refine⟨false,fun ω _ p f hg hfr=>?_⟩
 simp only[evOp,ho] at hg
 obtain⟨u,_,hu,hg,_⟩:=goes_opd hg
 obtain⟨ru,_⟩:=opd_rep hE h hu
 have hx:(execOp a.eval o).run P w=((Op.unary op (a.eval x)).run P w).andThen fun v w'=>.ok (.value v) w':=by
  simp only[execOp,ho,Sem.run_bind]
  rfl
 unfold unV at hg
 split at hg
 ·obtain⟨eu,_⟩:=rep_int ru
  rw[eu] at hx
  exact op_gives h hd (gives_int hg (by simp [Op.unary,Op.intArith,wr]) (wrap_in _ _).1 (wrap_in _ _).2) hx
 ·have eu:=rep_bool ru
  rw[eu] at hx
  exact op_gives h hd (gives_bool hg (by simp [Op.unary])) hx
 ·cases hg
theorem noM_forget{P:Program} {t:Ty} {w:World} {O:Own} {M:Mp} {x:t.D} {h:Sh} {v:Value} (r:RepV P t w O M x h v) (hp:h.plain=true) (M':Mp):RepV P t w O M' x .o v:=by
 by_cases ht:t.tup=true
 ·cases t<;>first | cases ht | skip
  ·obtain⟨vs,e,r⟩:=r
   exact⟨vs,e,r.forget _ hp M'⟩
  ·exact RepC.forget .nx (show RepC P .nx w O M x h [v] from r) hp M'
 ·have ht:t.tup=false:=by simpa using ht
  exact(repV_of ht).2 (((repV_of ht).1 r).imp fun cs hc=>RepC.forget _ hc hp M')
theorem ok_pick{P:Program} {E:Env} (hE:EnvOk P E) {o:Oper} {m:Bool} {c x y:Operand} (ho:o.op=.pick c x y):OpOk P E o m:=by
 intro w0 I nt U M st a w id h hd
 refine⟨false,fun ω _ p f hg hfr=>?_⟩
 simp only[evOp,ho] at hg
 obtain⟨u,_,hu,hg,_⟩:=goes_opd hg
 obtain⟨v,_,hv,hg,_⟩:=goes_opd hg
 obtain⟨z,_,hz,hg,_⟩:=goes_opd hg
 obtain⟨ru,_⟩:=opd_rep hE h hu
 obtain⟨rv,_⟩:=opd_rep hE h hv
 obtain⟨rz,_⟩:=opd_rep hE h hz
 obtain⟨tu,q,squ⟩:=u
 cases tu<;>first | (dsimp only at hg;cases hg;done) | skip
 ·dsimp only at hg
  have eu:=rep_bool ru
  split at hg
  ·rename_i y' hc hpl
   have hp:=goes_retV hg
   subst hp
   obtain⟨hpz,hc⟩:=castV_eq hc
   obtain⟨e,rfl⟩:=castTo_eq hc
   obtain⟨tv,vv,sv⟩:=v
   obtain⟨tz,vz,sz⟩:=z
   dsimp only at e
   subst e
   refine op_ret h hd (v':=cnd q (a.eval x) (a.eval y)) ?_ ?_ trivial
   ·dsimp only at eu
    simp only[execOp,ho,eu,Sem.run_bind,asBool,Sem.run_pure,Result.andThen_ok]
    cases q<;>rfl
   ·cases q
    ·simpa [cnd] using noM_forget rz hpz M
    ·simpa [cnd] using noM_forget rv hpl M
  ·cases hg
theorem getTu_rep{P:Program}:∀ (t:Ty) {w:World} {O:Own} {M:Mp} {x:t.D} {h:Sh} {vs:List Value} {f:Nat} {u:Vl} {U:Nat->Prop},RepC P t w O M x h vs->t.tup=true->getTu t x h f=some u->ShIn U h ->
  ∃ v,vs[f]?=some v/\RepV P u.ty w O M u.val u.sh v/\ShIn U u.sh
 | .tu a b,w,O,M,x,h,vs,0,u,U,r,_,e,hs=>by
  obtain⟨v,vs',rfl,t1,r1,r2⟩:=r
  simp only[getTu,Option.some.injEq] at e
  subst e
  exact⟨v,rfl,(repV_of t1).2 r1,hs.fst⟩
 | .tu a b,w,O,M,x,h,vs,f+1,u,U,r,_,e,hs=>by
  obtain⟨v,vs',rfl,t1,r1,r2⟩:=r
  simp only[getTu] at e
  have tb:b.tup=true:=by cases b<;>first | rfl | (cases f<;>cases e)
  obtain⟨v',h1,h2⟩:=getTu_rep b r2 tb e hs.snd
  exact⟨v',by simpa using h1,h2⟩
 | .int _,_,_,_,_,_,_,_,_,_,_,ht,_,_=>by cases ht
 | .bool,_,_,_,_,_,_,_,_,_,_,ht,_,_=>by cases ht
 | .str,_,_,_,_,_,_,_,_,_,_,ht,_,_=>by cases ht
 | .ptr,_,_,_,_,_,_,_,_,_,_,ht,_,_=>by cases ht
 | .unit,_,_,_,_,_,_,_,_,_,_,ht,_,_=>by cases ht
 | .sl _,_,_,_,_,_,_,_,_,_,_,ht,_,_=>by cases ht
 | .ms _,_,_,_,_,_,_,_,_,_,_,ht,_,_=>by cases ht
 | .pr _ _,_,_,_,_,_,_,_,_,_,_,ht,_,_=>by cases ht
 | .fn _ _,_,_,_,_,_,_,_,_,_,_,ht,_,_=>by cases ht
 | .rref _,_,_,_,_,_,_,_,_,_,_,ht,_,_=>by cases ht
 | .eref,_,_,_,_,_,_,_,_,_,_,ht,_,_=>by cases ht
 | .mh,_,_,_,_,_,_,_,_,_,_,ht,_,_=>by cases ht
 | .nx,_,_,_,_,_,_,f,_,_,_,_,e,_=>by cases f<;>cases e
theorem ok_extract{P:Program} {E:Env} (hE:EnvOk P E) {o:Oper} {m:Bool} {x:Operand} {i:Nat} (ho:o.op=.extract x i):OpOk P E o m:=by
 intro w0 I nt U M st a w id h hd
 refine⟨false,fun ω _ p f hg hfr=>?_⟩
 simp only[evOp,ho] at hg
 obtain⟨u,_,hu,hg,_⟩:=goes_opd hg
 obtain⟨ru,su⟩:=opd_rep hE h hu
 split at hg
 ·rename_i q
  have rq:RepC P .nx w (own st M) M q .o [a.eval x]:=ru
  obtain⟨e,hb⟩:=rq
  have e:=(List.cons.inj e).1
  have hex:∀ (z:Value) (vs:Array Value),a.eval x=.tuple vs->vs[i]?=some z->(execOp a.eval o).run P w=.ok (.value z) w:=fun z vs h1 h2=>by
   simp only[execOp,ho,h1,Sem.run_bind,Instr.extract,h2,Sem.run_pure,Result.andThen_ok]
  split at hg
  ·have hp:=goes_retV hg
   subst hp
   cases hq:q.1 with
   | true=>simp only[hq] at e;exact op_ret h hd (hex (.bool true) _ e rfl) rep_bool_mk trivial
   | false=>simp only[hq] at e;exact op_ret h hd (hex (.bool false) _ e rfl) rep_bool_mk trivial
  ·cases hg with
   | eff hx hg =>
    cases hq:q.1 with
    | false=>rw[hq] at hx;cases hx
    | true =>
     rw[hq] at hx
     simp only[hq] at e
     cases hx
     have hp:=goes_retV hg
     subst hp
     exact op_ret h hd (hex _ _ e rfl) (rep_int_mk (hb hq).1.1 (hb hq).1.2) trivial
  ·cases hg with
   | eff hx hg =>
    cases hq:q.1 with
    | false=>rw[hq] at hx;cases hx
    | true =>
     rw[hq] at hx
     simp only[hq] at e
     cases hx
     have hp:=goes_retV hg
     subst hp
     exact op_ret h hd (hex _ _ e rfl) (rep_int_mk (hb hq).2.1 (hb hq).2.2) trivial
  ·cases hg
 split at hg
 ·rename_i hnx z hz
  have hp:=goes_retV hg
  subst hp
  obtain⟨tu,vu,shu⟩:=u
  have ht:tu.tup=true:=by
   cases tu<;>first | rfl | (cases i<;>cases hz)
  cases tu<;>first | (cases ht;done) | (cases i<;>cases hz;done) | skip
  rename_i ta tb
  obtain⟨vs,e,r⟩:=ru
  obtain⟨v,h1,h2,h3⟩:=getTu_rep _ r rfl hz su
  refine op_ret h hd ?_ h2 h3
  simp only[execOp,ho,e,Sem.run_bind,Instr.extract,List.getElem?_toArray,h1,Sem.run_pure,Result.andThen_ok]
 ·cases hg
theorem getF_in{U:Nat->Prop}:∀ (t:Ty) (x:t.D) (h:Sh) (f:Nat) (u:Vl),getF t x h f=some u->ShIn U h->ShIn U u.sh
 | .pr a b,x,h,0,u,e,hs=>by simp only[getF,Option.some.injEq] at e;subst e;exact hs.fst
 | .pr a b,x,h,f+1,u,e,hs=>getF_in b x.2 h.snd f u (by simpa only[getF] using e) hs.snd
 | .int _,_,_,f,_,e,_=>by cases f<;>cases e
 | .bool,_,_,f,_,e,_=>by cases f<;>cases e
 | .str,_,_,f,_,e,_=>by cases f<;>cases e
 | .ptr,_,_,f,_,e,_=>by cases f<;>cases e
 | .unit,_,_,f,_,e,_=>by cases f<;>cases e
 | .sl _,_,_,f,_,e,_=>by cases f<;>cases e
 | .ms _,_,_,f,_,e,_=>by cases f<;>cases e
 | .tu _ _,_,_,f,_,e,_=>by cases f<;>cases e
 | .fn _ _,_,_,f,_,e,_=>by cases f<;>cases e
 | .rref _,_,_,f,_,e,_=>by cases f<;>cases e
 | .eref,_,_,f,_,e,_=>by cases f<;>cases e
 | .mh,_,_,f,_,e,_=>by cases f<;>cases e
 | .nx,_,_,f,_,e,_=>by cases f<;>cases e
theorem getP_in{U:Nat->Prop}:∀ (p:List Nat) (v u:Vl),getP v p=some u->ShIn U v.sh->ShIn U u.sh
 | [],v,u,e,hs=>by simp only[getP,Option.some.injEq] at e;subst e;exact hs
 | f::p,v,u,e,hs=>by
  simp only[getP] at e
  split at e
  ·rename_i x hx
   exact getP_in p x u e (getF_in _ _ _ _ _ hx hs)
  ·cases e
theorem mem_std{t:Ty} (h:t.mem=true):t.std=true:=by cases t<;>simp_all [Ty.mem,Ty.std]
theorem part_mem:∀ (t:Ty) {f:Nat} {u:Ty},t.mem=true->tyF t f=some u->u.mem=true
 | .pr a b,0,u,h,e=>by simp only[Ty.mem,Bool.and_eq_true] at h;simp only[tyF,Option.some.injEq] at e;subst e;exact h.1
 | .pr a b,f+1,u,h,e=>by simp only[Ty.mem,Bool.and_eq_true] at h;exact part_mem b h.2 (by simpa only[tyF] using e)
 | .int _,f,_,_,e=>by cases f<;>cases e
 | .bool,f,_,_,e=>by cases f<;>cases e
 | .str,f,_,_,e=>by cases f<;>cases e
 | .ptr,f,_,_,e=>by cases f<;>cases e
 | .unit,f,_,_,e=>by cases f<;>cases e
 | .sl _,f,_,_,e=>by cases f<;>cases e
 | .ms _,f,_,_,e=>by cases f<;>cases e
 | .tu _ _,f,_,_,e=>by cases f<;>cases e
 | .fn _ _,f,_,_,e=>by cases f<;>cases e
 | .rref _,f,_,_,e=>by cases f<;>cases e
 | .eref,f,_,_,e=>by cases f<;>cases e
 | .mh,f,_,_,e=>by cases f<;>cases e
 | .nx,f,_,_,e=>by cases f<;>cases e
theorem ok_field{P:Program} {E:Env} (hE:EnvOk P E) {o:Oper} {m:Bool} {t:TypeId} {x:Operand} {i:Nat} (ho:o.op=.field t x i):OpOk P E o m:=by
 intro w0 I nt U M st a w id h hd
 refine⟨false,fun ω _ p f hg hfr=>?_⟩
 simp only[evOp,ho] at hg
 obtain⟨u,_,hu,hg,_⟩:=goes_opd hg
 obtain⟨ru,su⟩:=opd_rep hE h hu
 split at hg
 ·rename_i z hz hτ
  have hp:=goes_retV hg
  subst hp
  simp only[Bool.and_eq_true,Bool.not_eq_true'] at hτ
  have harr:=hτ.2
  have hτ:=of_decide_eq_true hτ.1
  have hzin:=getF_in (U:=U) _ _ _ _ _ hz su
  obtain⟨tu,vu,shu⟩:=u
  dsimp only at ru hz su hτ
  cases tu<;>first | (cases i<;>cases hz;done) | skip
  rename_i ta tb
  obtain⟨cs,e,r⟩:=ru
  obtain⟨n,k1,k2,k3,k4,k5⟩:=getF_rep _ r hz
  have hchk:=hE.ty _ _ hτ
  rcases chk_pr hchk with⟨l,hl,hfs⟩ | ⟨n',e',hl,_⟩
  ·obtain⟨fd,tf,f1,f2,f3,f4⟩:=chk_field _ l.toList 0 i n hfs k1
   rw[k2] at f3
   cases f3
   have hstd:z.ty.std=true:=mem_std (part_mem _ (infoB_spec (chk_info hchk rfl)).1 k2)
   have hpart:=run_part (chk_info f4 hstd) (w:=w) (cs:=cs) (off:=n) (by omega)
   have f1':l[i]?=some fd:=by rw[← f1];simp
   refine op_ret h hd (v':=valOf z.ty.agg ((cs.drop n).take z.ty.size)) ?_ ((repV_of k4).2 (valOf_ValOf k5 fun ha=>by rw[List.length_take,List.length_drop,size_one ha];have:=size_one ha;omega)) hzin
   simp only[execOp,ho,e,Sem.run_bind,Instr.field,run_underlying hl,Result.andThen_ok,f1',asAgg,Sem.run_pure,f2,Nat.zero_add,hpart]
  ·have:=(hE.arr _ _ hτ).2 ⟨_,_,hl⟩
   rw[harr] at this
   cases this
 ·cases hg
end Go.VX
/- VX, part 12: new variables; loads. -/
set_option linter.unusedVariables false
set_option linter.unusedSimpArgs false
namespace Go.VX
def Mp.setBox(M:Mp) (id:Nat) (p:Nat×Nat):Mp:={ M with box:=fun k=>if k=id then p else M.box k }
theorem Mp.setBox_same{M:Mp} {id:Nat} {p:Nat×Nat}:(M.setBox id p).box id=p:=by simp [Mp.setBox]
theorem Mp.setBox_agree{U:Nat->Prop} {M:Mp} {id:Nat} {p:Nat×Nat} (h:¬ U id):Agree U M (M.setBox id p):=by
 refine⟨rfl,fun k hk=>?_⟩
 have:k≠id:=fun e=>h (e ▸ hk)
 simp [Mp.setBox,this]
theorem Rel.own_lt{P:Program} {w0:World} {I:Own} {nt:Nat} {U:Nat->Prop} {M:Mp} {st:St} {a:Act} {w:World} (h:Rel P w0 I nt U M st a w) {b o:Nat} (ho:own st M b o):b<w.heap.size:=by
 obtain⟨hc,_⟩:=h.live b o ho
 obtain⟨v,hv⟩:=Option.isSome_iff_exists.1 hc
 exact cell_lt hv
theorem inBox_congr{M M':Mp} {id:Nat} {t:Ty} {b o:Nat} (h1:M'.box id=M.box id) (h2:M'.row id=M.row id):inBox M' id t b o↔inBox M id t b o:=by
 cases t<;>simp only[inBox,h1,h2]
theorem inTok_congr{M M':Mp} {k:Nat} {b o:Nat} (h:M'.tok k=M.tok k):inTok M' k b o↔inTok M k b o:=by simp only[inTok,h]
theorem reg_old{P:Program} {w0:World} {I:Own} {nt:Nat} {U:Nat->Prop} {M M':Mp} {st:St} {a:Act} {w:World} (h:Rel P w0 I nt U M st a w) (hM:Agree U M M') {st':St} {l:Loc} {b o:Nat}
  (hb:∀ id v,l=.b id->look st'.bx id=some (.rw v)->look st.bx id=some (.rw v)) (ht:∀ k,l=.t k->look st'.tk k=some true->look st.tk k=some true) (hr:reg st' M' l b o):reg st M l b o:=by
 cases l with
 | s n =>
  cases n with
  | zero =>
   show M.fr b o
   rw[← hM.1]
   exact hr
  | succ n=>exact hr.elim
 | b id =>
  obtain⟨v,h1,h2⟩:=hr
  have h1:=hb id v rfl h1
  have hu:=(h.bx id v h1).2.2
  exact⟨v,h1,(inBox_congr (hM.2 id hu).1 (hM.2 id hu).2.2).1 h2⟩
 | t k =>
  obtain⟨h1,h2⟩:=hr
  have h1:=ht k rfl h1
  have hu:=h.tk k h1
  exact⟨h1,(inTok_congr (hM.2 k hu).2.1).1 h2⟩
theorem cell_alloc_old{w:World} {x:Obj} {b o:Nat} (h:b<w.heap.size):(w.alloc x).cell? ⟨b,o,none⟩=w.cell? ⟨b,o,none⟩:=World.cell?_alloc_lt w x ⟨b,o,none⟩ h
theorem cell_alloc_new{w:World} {cs:List Value} {t:TypeId} {o:Nat}:(w.alloc (.cells cs.toArray t)).cell? ⟨w.heap.size,o,none⟩=cs[o]?:=by
 rw[World.cell?_alloc_new];simp
theorem frozen_alloc_new{w:World} {cs:List Value} {t:TypeId} {o:Nat}:(w.alloc (.cells cs.toArray t)).frozen? ⟨w.heap.size,o,none⟩=false:=World.frozen?_alloc_new w _ t o
theorem frozen_alloc_old{w:World} {x:Obj} {b o:Nat} (h:b<w.heap.size):(w.alloc x).frozen? ⟨b,o,none⟩=w.frozen? ⟨b,o,none⟩:=World.frozen?_alloc_old w x ⟨b,o,none⟩ (Nat.ne_of_lt h)
theorem clean_alloc_new{w:World} {cs:List Value} {t:TypeId}:Clean (w.alloc (.cells cs.toArray t)) w.heap.size:=fun _=>frozen_alloc_new
theorem clean_alloc_old{w:World} {x:Obj} {b:Nat} (h:b<w.heap.size):Clean (w.alloc x) b=Clean w b:=by
 unfold Clean
 simp only[frozen_alloc_old h]
theorem alloc_size{w:World} {x:Obj}:(w.alloc x).heap.size=w.heap.size+1:=by show(w.heap.push x).size=_;simp
theorem Ext.alloc(O:Own) (w:World) (x:Obj):Ext O w (w.alloc x):=⟨by rw[alloc_size];omega,fun b o hb _=>cell_alloc_old hb⟩
theorem ms_std{t:Ty} (h:t.std=true):isMs t=false:=by cases t<;>first | rfl | cases h
theorem msP{c v:Vl} {p:List Nat} (h:getP c p=some v) (hv:isMs v.ty=false):isMs c.ty=false:=by
 obtain⟨tc,vc,sc⟩:=c
 cases tc<;>first | rfl | skip
 all_goals cases p with
 | nil=>simp only[getP,Option.some.injEq] at h;subst h;cases hv
 | cons q r=>cases q<;>cases h
theorem Rel.obj_keep{P:Program} {w0:World} {I I':Own} {nt:Nat} {U:Nat->Prop} {M:Mp} {st:St} {a:Act} {w w':World} (h:Rel P w0 I nt U M st a w) (hk:Keeps I' w w') :
  ∀ id v,look st.bx id=some (.rw v)->v.ty.tup=true->w'.heap[(M.box id).1]?=w.heap[(M.box id).1]?:=by
 intro id v hv ht
 have hb:=(h.bx id v hv).1
 obtain⟨t,x,s⟩:=v
 cases t<;>first | (cases ht;done) | skip
 ·have hb:ObOk P w (own st M) M id (.tu _ _) x:=hb
  unfold ObOk at hb
  split at hb
  ·obtain⟨s,pos,h1,_⟩:=hb
   rw[h1]
   exact hk.block _ _ h1
  ·obtain⟨_,_,es,h1,_⟩:=hb
   rw[h1]
   exact hk.block _ _ h1
  ·obtain⟨es,clock,h1,_⟩:=hb
   rw[h1]
   exact hk.block _ _ h1
  ·exact hb.elim
 ·cases hb.1
theorem Rel.ob_lt{P:Program} {w0:World} {I:Own} {nt:Nat} {U:Nat->Prop} {M:Mp} {st:St} {a:Act} {w:World} (h:Rel P w0 I nt U M st a w) {id:Nat} {v:Vl} (hv:look st.bx id=some (.rw v)) (ht:v.ty.tup=true):(M.box id).1<w.heap.size:=by
 have hb:=(h.bx id v hv).1
 obtain⟨t,x,s⟩:=v
 cases t<;>first | (cases ht;done) | skip
 ·have hb:ObOk P w (own st M) M id (.tu _ _) x:=hb
  unfold ObOk at hb
  split at hb
  ·obtain⟨s,pos,h1,_⟩:=hb
   exact(Array.getElem?_eq_some_iff.1 h1).1
  ·obtain⟨_,_,es,h1,_⟩:=hb
   exact(Array.getElem?_eq_some_iff.1 h1).1
  ·obtain⟨es,clock,h1,_⟩:=hb
   exact(Array.getElem?_eq_some_iff.1 h1).1
  ·exact hb.elim
 ·cases hb.1
theorem Rel.newBox{P:Program} {w0:World} {I:Own} {nt:Nat} {U U':Nat->Prop} {M:Mp} {st:St} {a:Act} {w:World} (h:Rel P w0 I nt U M st a w) {dst:Option Tmp}
  (hd:∀ d,dst=some d->d<nt) {u:Vl} {cs:List Value} {t:TypeId} {id:Nat} (hr:RepC P u.ty w (own st M) M u.val u.sh cs) (ht:u.ty.tup=false) (hms:isMs u.ty=false) (hin:ShIn U u.sh)
  (hid:¬ U id) (hU:∀ k,U k->U' k) (hU':U' id) {fr:Nat} :
  Rel P w0 I nt U' (M.setBox id (w.heap.size,0)) (st.patch dst { v:=some ⟨.ptr,(),.box id [] 0⟩,bs:=[(id,.rw u)],fr:=fr }) (a.put dst (.pointer (some ⟨w.heap.size,0,none⟩))) (w.alloc (.cells cs.toArray t)):=by
 have hA:=Mp.setBox_agree (M:=M) (p:=(w.heap.size,0)) hid
 have hx:Ext (own st M) w (w.alloc (.cells cs.toArray t)):=Ext.alloc _ _ _
 have hlen:=hr.len ht
 have hreg:∀ l b o,reg (st.patch dst { v:=some ⟨.ptr,(),.box id [] 0⟩,bs:=[(id,.rw u)],fr:=fr }) (M.setBox id (w.heap.size,0)) l b o ->
   (l=.b id/\b=w.heap.size/\o<cs.length)\/(reg st M l b o/\b<w.heap.size):=by
  intro l b o hl
  by_cases hlid:l=.b id
  ·subst hlid
   left
   obtain⟨v,h1,h2⟩:=hl
   simp only[St.patch,putL,look_cons,if_true,Option.some.injEq,Bx.rw.injEq] at h1
   subst h1
   rw[inBox.plain hms,Mp.setBox_same] at h2
   exact⟨rfl,h2.1.symm,by omega⟩
  ·right
   have:reg st M l b o:=reg_old (st':=st.patch dst { v:=some ⟨.ptr,(),.box id [] 0⟩,bs:=[(id,.rw u)],fr:=fr }) h hA (fun k v e hk=>by
    subst e
    have hne:¬ id=k:=fun e=>hlid (by rw[e])
    simpa only[St.patch,putL,look_cons,if_neg hne] using hk) (fun k _ hk=>hk) hl
   exact⟨this,h.own_lt ⟨l,this⟩⟩
 have ho:∀ b o,b<w.heap.size->own (st.patch dst { v:=some ⟨.ptr,(),.box id [] 0⟩,bs:=[(id,.rw u)],fr:=fr }) (M.setBox id (w.heap.size,0)) b o->own st M b o:=by
  rintro b o hb ⟨l,hl⟩
  rcases hreg l b o hl with⟨_,e,_⟩ | ⟨h1,_⟩
  ·omega
  ·exact⟨l,h1⟩
 have hoN:∀ b o,b<w.heap.size->ownN (st.patch dst { v:=some ⟨.ptr,(),.box id [] 0⟩,bs:=[(id,.rw u)],fr:=fr }) (M.setBox id (w.heap.size,0)) b o->ownN st M b o:=by
  rintro b o hb ⟨l,h0,hl⟩
  rcases hreg l b o hl with⟨_,e,_⟩ | ⟨h1,_⟩
  ·omega
  ·exact⟨l,h0,h1⟩
 refine h.upd hU hA hx ho ?_ ?_ (Ext.alloc _ _ _) hoN ?_ (fun k hk=>hU k (h.tk k hk)) ?_ ?_ (h.keep.trans (Keeps.alloc (I:=noOwn) w _) (fun _ _ _ h=>h.elim)) (by rw[put_size];exact h.size) (by rw[put_defers];exact h.defs) (h.obj_keep (Keeps.alloc (I:=noOwn) w _)) (fun k v hk hv=>by
  by_cases hkid:id=k
  ·subst hkid
   simp only[St.patch,putL,look_cons,if_true,Option.some.injEq,Bx.rw.injEq] at hk
   subst hk
   rw[ht] at hv
   cases hv
  ·simpa only[St.patch,putL,look_cons,if_neg hkid] using hk)
 ·intro n x hn
  cases dst with
  | none=>exact .inl ⟨hn,rfl⟩
  | some d =>
   simp only[St.patch,look_cons] at hn
   split at hn
   ·rename_i hdn
    subst hdn
    right
    cases hn
    rw[put_getD_same (by rw[h.size];exact hd d rfl)]
    refine⟨?_,hU'⟩
    refine⟨_,rfl,?_⟩
    show _=some _
    rw[Mp.setBox_same]
   ·rename_i hdn
    exact .inl ⟨hn,put_getD (by simpa using hdn)⟩
 ·intro k v hk
  by_cases hkid:id=k
  ·subst hkid
   right
   simp only[St.patch,putL,look_cons,if_true,Option.some.injEq,Bx.rw.injEq] at hk
   subst hk
   refine⟨(BoxOk.plain hms).2 ⟨ht,cs,hr.mono P _ hx ho (hA.sh _ hin),fun j y hj=>?_⟩,hin.mono hU _,hU'⟩
   rw[Mp.setBox_same]
   show(w.alloc (.cells cs.toArray t)).cell? ⟨w.heap.size,0+j,none⟩=_
   rw[cell_alloc_new,Nat.zero_add,hj]
  ·left
   have hk':look st.bx k=some (.rw v):=by simpa only[St.patch,putL,look_cons,if_neg hkid] using hk
   exact⟨hk',fun b o hb=>cell_alloc_old (h.own_lt ⟨.b k,v,hk',hb⟩)⟩
 ·intro k z v hk
  by_cases hkid:id=k
  ·subst hkid
   simp only[St.patch,putL,look_cons,if_true] at hk
   cases hk
  ·exact .inl (by simpa only[St.patch,putL,look_cons,if_neg hkid] using hk)
 ·rintro b o ⟨l,hl⟩
  rcases hreg l b o hl with⟨_,rfl,e⟩ | ⟨h1,h2⟩
  ·refine⟨?_,clean_alloc_new,.inl h.keep.size⟩
   rw[cell_alloc_new,List.getElem?_eq_getElem e];rfl
  ·rw[cell_alloc_old h2,clean_alloc_old h2]
   exact h.live b o ⟨l,h1⟩
 ·intro l l' b o h1 h2
  rcases hreg l b o h1 with⟨e1,e2,_⟩ | ⟨k1,k2⟩<;>rcases hreg l' b o h2 with⟨f1,f2,_⟩ | ⟨k3,k4⟩
  ·rw[e1,f1]
  ·omega
  ·omega
  ·exact h.dis l l' b o k1 k3
theorem memTup{t:Ty} (h:t.mem=true):t.tup=false/\isMs t=false:=by cases t<;>simp_all [Ty.mem,Ty.tup,isMs]
theorem run_zero{P:Program} {t:Ty} {i:TypeId} (hi:infoB P t i=true) (w:World):(zeroValue i).run P w=.ok (valOf t.agg (zc t)) w:=by
 obtain⟨_,x,d,hx,hd,hs,ha,hz⟩:=infoB_spec hi
 simp only[zeroValue,typeInfo,Sem.run_bind,run_program,Result.andThen_ok,hx,Sem.run_pure,hz]
 cases t.agg<;>rfl
theorem valOf_cells{agg:Bool} {cs:List Value} (h1:∀ v∈cs,v.oneCell'=true) (hl:agg=false->cs.length=1):(valOf agg cs).cells=cs.toArray:=by
 cases agg with
 | true=>rfl
 | false =>
  match cs,hl rfl,h1 with
  | [v],_,h1 =>
   have:=h1 v (by simp)
   cases v<;>simp_all [valOf,Value.cells,Value.oneCell']
theorem ok_alloc{P:Program} {E:Env} (hE:EnvOk P E) {o:Oper} {m:Bool} {t:TypeId} (ho:o.op=.alloc t):OpOk P E o m:=by
 intro w0 I nt U M st a w id h hd
 refine⟨false,fun ω _ p f hg hfr=>?_⟩
 simp only[evOp,ho] at hg
 split at hg
 ·rename_i τ hτ
  split at hg
  ·rename_i hstd
   cases hg
   have hi:=chk_info (hE.ty _ _ hτ) hstd
   have hm:=(infoB_spec hi).1
   have hrep:=zero_rep P τ hm w (own st M) M
   have hone:=hrep.one τ (memTup hm).1
   have hid:¬ U id:=hfr id (Nat.le_refl _) (by show id<id+1;omega)
   refine StepOk.value (v:=.pointer (some ⟨w.heap.size,0,none⟩)) (w':=w.alloc (.cells (zc τ).toArray t)) ?_
    ⟨_,Mp.setBox_agree hid,h.newBox hd hrep (memTup hm).1 (memTup hm).2 (zsh_in U τ) hid (fun k hk=>.inl hk) (.inr ⟨Nat.le_refl _,by show id<id+1;omega⟩)⟩
   simp only[execOp,ho,Instr.alloc,Sem.run_bind,run_zero hi,Result.andThen_ok,newVar,newRow,run_newObj,Sem.run_pure]
   rw[valOf_cells hone (fun e=>by rw[hrep.len (memTup hm).1];exact size_one e)]
   rfl
  ·cases hg
 ·cases hg
theorem ok_box{P:Program} {E:Env} (hE:EnvOk P E) {o:Oper} {m:Bool} {t:TypeId} {x:Operand} (ho:o.op=.box t x):OpOk P E o m:=by
 intro w0 I nt U M st a w id h hd
 refine⟨false,fun ω _ p f hg hfr=>?_⟩
 simp only[evOp,ho] at hg
 obtain⟨u,_,hu,hg,_⟩:=goes_opd hg
 obtain⟨ru,su⟩:=opd_rep hE h hu
 split at hg
 ·rename_i hstd
  cases hg
  have ht:u.ty.tup=false:=by cases hu:u.ty<;>rw[hu] at hstd<;>first | rfl | cases hstd
  have hms:isMs u.ty=false:=by cases hu:u.ty<;>rw[hu] at hstd<;>first | rfl | cases hstd
  have hid:¬ U id:=hfr id (Nat.le_refl _) (by show id<id+1;omega)
  have:∃ cs:List Value,RepC P u.ty w (own st M) M u.val u.sh cs/\(a.eval x).cells=cs.toArray:=by
   have r:=(repV_of ht).1 ru
   cases hagg:u.ty.agg with
   | true=>rw[hagg] at r;obtain⟨cs,e,r⟩:=r;exact⟨cs,r,by rw[e];rfl⟩
   | false =>
    rw[hagg] at r
    refine⟨[a.eval x],r,?_⟩
    have:=r.one _ ht (a.eval x) (by simp)
    cases hv:a.eval x<;>rw[hv] at this<;>first | rfl | cases this
  obtain⟨cs,r,hc⟩:=this
  refine StepOk.value (v:=.pointer (some ⟨w.heap.size,0,none⟩)) (w':=w.alloc (.cells cs.toArray t)) ?_
   ⟨_,Mp.setBox_agree hid,h.newBox hd r ht hms su hid (fun k hk=>.inl hk) (.inr ⟨Nat.le_refl _,by show id<id+1;omega⟩)⟩
  simp only[execOp,ho,Instr.box,Sem.run_bind,Result.andThen_ok,newVar,newRow,run_newObj,Sem.run_pure,hc]
  rfl
 ·cases hg
end Go.VX
/- VX, part 13: addresses; loads. -/
set_option linter.unusedVariables false
set_option linter.unusedSimpArgs false
namespace Go.VX
theorem arrL_rep{P:Program} {e:Ty}:∀ (t:Ty) {w:World} {O:Own} {M:Mp} {x:t.D} {h:Sh} {cs:List Value} {l:List e.D},RepC P t w O M x h cs->h.plain=true->arrL e t x=some l ->
  cs.length=l.length*e.size/\∀ i z,l[i]?=some z->∀ M',RepC P e w O M' z .o ((cs.drop (i*e.size)).take e.size)
 | .unit,w,O,M,x,h,cs,l,r,hp,e1=>by
  have:cs=[]:=r
  simp only[arrL,Option.some.injEq] at e1
  subst this e1
  exact⟨by simp,fun i z hz=>by simp at hz⟩
 | .pr a b,w,O,M,x,h,cs,l,r,hp,e1=>by
  obtain⟨c1,c2,rfl,l1,l2,t1,t2,r1,r2⟩:=r
  simp only[arrL] at e1
  split at e1
  ·rename_i y r' hy hr
   cases e1
   obtain⟨e2,rfl⟩:=castTo_eq hy
   dsimp only at e2
   subst e2
   obtain⟨k1,k2⟩:=arrL_rep b r2 (Sh.plain_snd hp) hr
   refine⟨by rw[List.length_append,k1,l1,List.length_cons,Nat.succ_mul];omega,fun i z hz M'=>?_⟩
   cases i with
   | zero =>
    simp only[List.getElem?_cons_zero,Option.some.injEq] at hz
    subst hz
    simp only[Nat.zero_mul,List.drop_zero]
    rw[← l1,List.take_left]
    exact r1.forget _ (Sh.plain_fst hp) M'
   | succ i =>
    simp only[List.getElem?_cons_succ] at hz
    have:=k2 i z hz M'
    have e3:(c1++c2).drop ((i+1)*a.size)=c2.drop (i*a.size):=by
     rw[Nat.succ_mul,Nat.add_comm,← l1,List.drop_append,List.drop_of_length_le (by omega)]
     simp
    rw[e3]
    exact this
  ·cases e1
 | .int _,_,_,_,_,_,_,_,_,_,e1=>by cases e1
 | .bool,_,_,_,_,_,_,_,_,_,e1=>by cases e1
 | .str,_,_,_,_,_,_,_,_,_,e1=>by cases e1
 | .ptr,_,_,_,_,_,_,_,_,_,e1=>by cases e1
 | .sl _,_,_,_,_,_,_,_,_,_,e1=>by cases e1
 | .ms _,_,_,_,_,_,_,_,_,_,e1=>by cases e1
 | .tu _ _,_,_,_,_,_,_,_,_,_,e1=>by cases e1
 | .fn _ _,_,_,_,_,_,_,_,_,_,e1=>by cases e1
 | .rref _,_,_,_,_,_,_,_,_,_,e1=>by cases e1
 | .eref,_,_,_,_,_,_,_,_,_,e1=>by cases e1
 | .mh,_,_,_,_,_,_,_,_,_,e1=>by cases e1
 | .nx,_,_,_,_,_,_,_,_,_,e1=>by cases e1
theorem ati_some{α:Type} {l:List α} {i:Int} {x:α} (h:ati l i=some x):0<=i/\l[i.toNat]?=some x/\i<l.length:=by
 unfold ati at h
 split at h
 ·rename_i h0
  have:=(List.getElem?_eq_some_iff.1 h).1
  exact⟨h0,h,by omega⟩
 ·cases h
theorem rep_rref{P:Program} {e:Ty} {w:World} {O:Own} {M:Mp} {x:e.D} {h:Sh} {v:Value} (r:RepV P (.rref e) w O M x h v) :
  ∃ b o es,v=.pointer (some ⟨b,o,none⟩)/\e.tup=false/\es.length=e.size/\Cells w O b o es/\RepC P e w O M x .o es:=by
 have:RepC P (.rref e) w O M x h [v]:=r
 obtain⟨b,o,es,h1,h2⟩:=this
 exact⟨b,o,es,by simpa using h1,h2⟩
theorem rep_eref{P:Program} {w:World} {O:Own} {M:Mp} {x:Int} {id off str poff:Nat} {path post:List Nat} {v:Value} (r:RepV P .eref w O M x (.elem id path off str post poff) v) :
  v=.pointer (some ⟨(M.box id).1,(M.box id).2+off+x.toNat*str+poff,none⟩)/\0<=x:=by
 have:RepC P .eref w O M x (.elem id path off str post poff) [v]:=r
 obtain⟨b,o,h1,h2,h3,h4⟩:=this
 subst h3 h4
 exact⟨by simpa using h1,h2⟩
theorem box_cells{P:Program} {w0:World} {I:Own} {nt:Nat} {U:Nat->Prop} {M:Mp} {st:St} {a:Act} {w:World} (h:Rel P w0 I nt U M st a w) {id:Nat} {c:Vl}
  (hc:look st.bx id=some (.rw c)\/∃ z,look st.bx id=some (.ro z c)) (hms:isMs c.ty=false) :
  c.ty.tup=false/\∃ cs,RepC P c.ty w (own st M) M c.val c.sh cs/\∀ j u,cs[j]?=some u->w.cell? ⟨(M.box id).1,(M.box id).2+j,none⟩=some u:=by
 rcases hc with hc | ⟨z,hc⟩
 ·exact(BoxOk.plain hms).1 (h.bx id c hc).1
 ·obtain⟨h1,h2,cs,r,k⟩:=(h.ro id z c hc).1
  exact⟨h1,cs,r,fun j u hj=>(k j u hj).1⟩
theorem box_in{P:Program} {w0:World} {I:Own} {nt:Nat} {U:Nat->Prop} {M:Mp} {st:St} {a:Act} {w:World} (h:Rel P w0 I nt U M st a w) {id:Nat} {c:Vl}
  (hc:look st.bx id=some (.rw c)\/∃ z,look st.bx id=some (.ro z c)):ShIn U c.sh/\U id:=by
 rcases hc with hc | ⟨z,hc⟩
 ·exact(h.bx id c hc).2
 ·exact(h.ro id z c hc).2
theorem goes_rdB{st:St} {ω:Bool} {id:Nat} {k:Vl->RM} {p:Patch} {f:List Loc} (g:Goes st ω (.rdB id k) p f) :
  ∃ c f',(look st.bx id=some (.rw c)\/∃ z,look st.bx id=some (.ro z c))/\Goes st ω (k c) p f'/\f=.b id::f':=by
 cases g with
 | rdBw h g=>exact⟨_,_,.inl h,g,rfl⟩
 | rdBo h g=>exact⟨_,_,.inr ⟨_,h⟩,g,rfl⟩
theorem goes_rdW{st:St} {ω:Bool} {id:Nat} {k:Vl->RM} {p:Patch} {f:List Loc} (g:Goes st ω (.rdW id k) p f) :
  ∃ c f',look st.bx id=some (.rw c)/\Goes st ω (k c) p f'/\f=.b id::f':=by
 cases g with
 | rdW h g=>exact⟨_,_,h,g,rfl⟩
theorem goes_eff{st:St} {ω:Bool} {t:Ty} {x:Option t.D} {k:t.D->RM} {p:Patch} {f:List Loc} (g:Goes st ω (.eff t x k) p f):∃ a,x=some a/\Goes st ω (k a) p f:=by
 cases g with
 | eff h g=>exact⟨_,h,g⟩
theorem exec_load{P:Program} {o:Oper} {a:Act} {w:World} {t:TypeId} {x:Operand} (ho:o.op=.load t x) {b f:Nat} (hx:a.eval x=.pointer (some ⟨b,f,none⟩)) {τ:Ty} (hi:infoB P τ t=true) {cs:List Value}
  (hl:cs.length=τ.size) (hc:∀ j v,cs[j]?=some v->w.cell? ⟨b,f+j,none⟩=some v):(execOp a.eval o).run P w=.ok (.value (valOf τ.agg cs)) w:=by
 simp only[execOp,ho,hx,Instr.loadAt,Instr.sureAddr,Sem.run_bind,Sem.run_pure,Result.andThen_ok,run_loadVar hi hl hc]
theorem rep_val{P:Program} {t:Ty} {w:World} {O:Own} {M:Mp} {x:t.D} {h:Sh} {cs:List Value} (r:RepC P t w O M x h cs) (ht:t.tup=false):RepV P t w O M x h (valOf t.agg cs) :=
 (repV_of ht).2 (valOf_ValOf r fun e=>by rw[r.len ht];exact size_one e)
theorem drop_take_get{cs:List Value} {n k j:Nat} {v:Value} (h:((cs.drop n).take k)[j]?=some v):cs[n+j]?=some v:=by
 rw[List.getElem?_take] at h
 split at h
 ·rwa [List.getElem?_drop] at h
 ·cases h
theorem ms_elem{P:Program} {w:World} {O:Own} {M:Mp} {id:Nat} {e:Ty} {l:List e.D} {s:Sh} (h:BoxOk P w O M id ⟨.ms e,l,s⟩) {i:Nat} {x:e.D} (hi:l[i]?=some x) :
  e.tup=false/\∃ es:List Value,es.length=e.size/\(∀ j u,es[j]?=some u->w.cell? ⟨(M.box id).1,(M.box id).2+i*e.size+j,none⟩=some u)/\RepC P e w O M x .o es:=by
 obtain⟨h0,a,n,c,h1,h2,h3,h4,h5⟩:=h
 refine⟨h0,?_⟩
 have hlt:=(List.getElem?_eq_some_iff.1 hi).1
 cases ha:a with
 | none=>have:=h4 ha;omega
 | some p =>
  obtain⟨k1,k2⟩:=h5 p ha
  rw[k1]
  exact k2 i x hi
theorem ok_load{P:Program} {E:Env} (hE:EnvOk P E) {o:Oper} {m:Bool} {t:TypeId} {x:Operand} (ho:o.op=.load t x):OpOk P E o m:=by
 intro w0 I nt U M st a w id h hd
 refine⟨false,fun ω _ p f hg hfr=>?_⟩
 simp only[evOp,ho] at hg
 obtain⟨u,_,hu,hg,_⟩:=goes_opd hg
 obtain⟨ru,su⟩:=opd_rep hE h hu
 split at hg
 ·rename_i τ hτ
  have hchk:=hE.ty _ _ hτ
  split at hg
  ·
   rename_i b path off
   obtain⟨c,_,hc,hg,_⟩:=goes_rdB hg
   split at hg
   ·rename_i v hv
    split at hg
    ·rename_i h1 h2
     have hp:=goes_retV hg
     subst hp
     have h1:=of_decide_eq_true h1
     simp only[Bool.and_eq_true] at h2
     obtain⟨h2,hstd⟩:=h2
     have h2:=of_decide_eq_true h2
     subst h2
     have hms:isMs c.ty=false:=msP hv (ms_std hstd)
     obtain⟨ht,cs,r,k⟩:=box_cells h hc hms
     obtain⟨n,g1,g2,g3,g4⟩:=getP_rep path r ht hv
     rw[g1] at h1
     cases h1
     obtain⟨pp,e1,e2⟩:=rep_ptr ru
     dsimp only[PtrSh] at e1 e2
     subst e2
     have hl:=g4.len g3
     refine op_ret h hd (exec_load ho e1 (chk_info hchk (chk_std hchk g3)) hl fun j y hj=>?_) (rep_val g4 g3) (getP_in _ _ _ hv (box_in h hc).1)
     have:=k _ _ (drop_take_get hj)
     rwa [← Nat.add_assoc] at this
    ·cases hg
   ·cases hg
  ·
   rename_i e y s
   split at hg
   ·rename_i h1
    have hp:=goes_retV hg
    subst hp
    have h1:=of_decide_eq_true h1
    subst h1
    obtain⟨b,o',es,e1,ht,e2,e3,e4⟩:=rep_rref ru
    dsimp only at e1 ht e2 e3 e4
    exact op_ret h hd (exec_load ho e1 (chk_info hchk (chk_std hchk ht)) e2 fun j y hj=>(e3 j y hj).1) (rep_val e4 ht) trivial
   ·cases hg
  ·
   rename_i j b path off str post poff
   obtain⟨e1,e0⟩:=rep_eref ru
   obtain⟨c,_,hc,hg,_⟩:=goes_rdB hg
   split at hg
   ·rename_i e l s hv
    obtain⟨y,hy,hg⟩:=goes_eff hg
    split at hg
    ·rename_i v hv2
     split at hg
     ·rename_i q1 q2 q3 q4 q5
      have hp:=goes_retV hg
      subst hp
      have q1:=of_decide_eq_true q1
      have q2:=of_decide_eq_true q2
      have q3:=of_decide_eq_true q3
      have q4:=of_decide_eq_true q4
      have q5:=of_decide_eq_true q5
      subst q1 q2 q3 q5
      simp only[getP,Option.some.injEq] at hv
      subst hv
      obtain⟨a0,a1,a2⟩:=ati_some hy
      have hbox:BoxOk P w (own st M) M b ⟨.ms e,l,s⟩:=by
       rcases hc with hc | ⟨z,hc⟩
       ·exact(h.bx _ _ hc).1
       ·have:=(h.ro _ _ _ hc).1.2.1;cases this
      obtain⟨ht,es,k1,k2,k3⟩:=ms_elem hbox a1
      obtain⟨n,g1,g2,g3,g4⟩:=getP_rep post (v:=⟨e,y,.o⟩) k3 ht hv2
      dsimp only at g1
      rw[g1] at q4
      cases q4
      refine op_ret h hd (exec_load ho e1 (chk_info hchk (chk_std hchk g3)) (g4.len g3) fun i z hi=>?_) (rep_val g4 g3) (getP_in _ _ _ hv2 trivial)
      have:=k2 _ _ (drop_take_get hi)
      rw[← this]
      congr 2
      dsimp only
      omega
     ·cases hg
    ·cases hg
   ·rename_i e b' y sh hv
    split at hg
    ·rename_i l hl
     split at hl
     ·rename_i hpl
      obtain⟨z,hz,hg⟩:=goes_eff hg
      split at hg
      ·rename_i v hv2
       split at hg
       ·rename_i q1 q2 q3 q4
        have hp:=goes_retV hg
        subst hp
        have q1:=of_decide_eq_true q1
        have q2:=of_decide_eq_true q2
        have q3:=of_decide_eq_true q3
        have q4:=of_decide_eq_true q4
        subst q2 q4
        obtain⟨a0,a1,a2⟩:=ati_some hz
        have hms:isMs c.ty=false:=msP hv rfl
        obtain⟨ht,cs,r,k⟩:=box_cells h hc hms
        obtain⟨n,g1,g2,g3,g4⟩:=getP_rep path r ht hv
        rw[g1] at q1
        cases q1
        obtain⟨m1,m2⟩:=arrL_rep _ g4 hpl hl
        have m3:=m2 _ _ a1 M
        have hte:e.tup=false:=by obtain⟨_,_,_,_,_,t1,_⟩:=g4;exact t1
        obtain⟨n',f1,f2,f3,f4⟩:=getP_rep post (v:=⟨e,z,.o⟩) m3 hte hv2
        dsimp only at f1
        rw[f1] at q3
        cases q3
        refine op_ret h hd (exec_load ho e1 (chk_info hchk (chk_std hchk f3)) (f4.len f3) fun i q hi=>?_) (rep_val f4 f3) (getP_in _ _ _ hv2 trivial)
        have:=k _ _ (drop_take_get (drop_take_get (drop_take_get hi)))
        rw[← this]
        congr 2
        dsimp only
        omega
       ·cases hg
      ·cases hg
     ·cases hl
    ·cases hg
   ·cases hg
  ·cases hg
 ·cases hg
end Go.VX
/- VX, part 14: addresses of fields and elements. -/
set_option linter.unusedVariables false
set_option linter.unusedSimpArgs false
namespace Go.VX
theorem getF_o:∀ (t:Ty) (x:t.D) (f:Nat) (u:Vl),getF t x .o f=some u->u.sh=.o
 | .pr a b,x,0,u,e=>by simp only[getF,Option.some.injEq] at e;subst e;rfl
 | .pr a b,x,f+1,u,e=>getF_o b x.2 f u e
 | .int _,_,f,_,e=>by cases f<;>cases e
 | .bool,_,f,_,e=>by cases f<;>cases e
 | .str,_,f,_,e=>by cases f<;>cases e
 | .ptr,_,f,_,e=>by cases f<;>cases e
 | .unit,_,f,_,e=>by cases f<;>cases e
 | .sl _,_,f,_,e=>by cases f<;>cases e
 | .ms _,_,f,_,e=>by cases f<;>cases e
 | .tu _ _,_,f,_,e=>by cases f<;>cases e
 | .fn _ _,_,f,_,e=>by cases f<;>cases e
 | .rref _,_,f,_,e=>by cases f<;>cases e
 | .eref,_,f,_,e=>by cases f<;>cases e
 | .mh,_,f,_,e=>by cases f<;>cases e
 | .nx,_,f,_,e=>by cases f<;>cases e
theorem rep_ptr_mk{P:Program} {w:World} {O:Own} {M:Mp} {x:Ty.ptr.D} {h:Sh} {p:Option Addr} (e:PtrSh M h p):RepV P .ptr w O M x h (.pointer p):=⟨p,rfl,e⟩
theorem run_fieldAt{P:Program} {s:TypeId} {l:Array Field} (hu:P.underlying s=some (.struct l)) {i:Nat} {fd:Field} (hf:l[i]?=some fd) {x:TypeInfo} (hx:P.info? fd.type=some x) (hs:x.size≠0) {b o:Nat} {w:World} :
  (Instr.fieldAt s (.pointer (some ⟨b,o,none⟩)) i).run P w=.ok (.pointer (some ⟨b,o+fd.offset,none⟩)) w:=by
 simp only[Instr.fieldAt,Sem.run_bind,run_underlying hu,Result.andThen_ok,hf,Instr.sureAddr,Sem.run_pure,fieldPlace,run_sizeOf hx,Sem.run_ite,if_neg hs,adr_add]
theorem ok_fieldAddr{P:Program} {E:Env} (hE:EnvOk P E) {o:Oper} {m:Bool} {s:TypeId} {x:Operand} {i:Nat} (ho:o.op=.fieldAddr s x i):OpOk P E o m:=by
 intro w0 I nt U M st a w id h hd
 refine⟨false,fun ω _ p f hg hfr=>?_⟩
 simp only[evOp,ho] at hg
 obtain⟨u,_,hu,hg,_⟩:=goes_opd hg
 obtain⟨ru,su⟩:=opd_rep hE h hu
 split at hg
 ·rename_i τ hτ
  have hchk:=hE.ty _ _ hτ
  split at hg
  ·rename_i n hn hz
   simp only[Bool.and_eq_true,Bool.not_eq_true'] at hz
   obtain⟨hz,harr⟩:=hz
   have hτp:∃ a b,τ=.pr a b:=by cases τ<;>first | exact⟨_,_,rfl⟩ | (cases i<;>cases hn)
   obtain⟨τa,τb,rfl⟩:=hτp
   rcases chk_pr hchk with⟨l,hl,hfs⟩ | ⟨n',e',hl,_⟩
   ·obtain⟨fd,tf,f1,f2,f3,f4⟩:=chk_field _ l.toList 0 i n hfs hn
    have f1':l[i]?=some fd:=by rw[← f1];simp
    rw[f3] at hz
    have hz:=Nat.le_of_ble_eq_true hz
    have hstd:tf.std=true:=mem_std (part_mem _ (infoB_spec (chk_info hchk rfl)).1 f3)
    obtain⟨_,xi,d,hx,_,hs,_⟩:=infoB_spec (chk_info f4 hstd)
    have hrun:∀ b o',(Instr.fieldAt s (.pointer (some ⟨b,o',none⟩)) i).run P w=.ok (.pointer (some ⟨b,o'+n,none⟩)) w:=fun b o'=>by
     rw[run_fieldAt hl f1' hx (by omega),f2,Nat.zero_add]
    have hex:∀ b o',a.eval x=.pointer (some ⟨b,o',none⟩)->(execOp a.eval o).run P w=.ok (.value (.pointer (some ⟨b,o'+n,none⟩))) w:=fun b o' e=>by
     simp only[execOp,ho,e,Sem.run_bind,hrun,Result.andThen_ok,Sem.run_pure]
    split at hg
    ·have hp:=goes_retV hg
     subst hp
     obtain⟨pp,e1,e2⟩:=rep_ptr ru
     dsimp only[PtrSh] at e1 e2
     subst e2
     refine op_ret h hd (hex _ _ e1) (rep_ptr_mk ?_) su
     show some _=some _
     rw[Nat.add_assoc]
    ·rename_i e y sh
     split at hg
     ·rename_i z hz' he
      have hp:=goes_retV hg
      subst hp
      have he:=of_decide_eq_true he
      obtain⟨b,o',es,e1,ht,e2,e3,e4⟩:=rep_rref ru
      dsimp only at e1 ht e2 e3 e4
      obtain⟨k,k1,k2,k3,k4,k5⟩:=getF_rep _ e4 hz'
      rw[he,hn] at k1
      cases k1
      refine op_ret h hd (hex _ _ e1) ?_ trivial
      have hsh:=getF_o _ _ _ _ hz'
      rw[hsh] at k5
      refine⟨b,o'+n,(es.drop n).take z.ty.size,rfl,k4,by rw[List.length_take,List.length_drop];omega,fun j q hj=>?_,k5⟩
      have:=e3 _ _ (drop_take_get hj)
      rwa [← Nat.add_assoc] at this
     ·cases hg
    ·rename_i j b path off str post poff
     have hp:=goes_retV hg
     subst hp
     obtain⟨e1,e0⟩:=rep_eref ru
     refine op_ret h hd (hex _ _ e1) ?_ su
     exact⟨_,_,rfl,e0,rfl,by simp only[Nat.add_assoc]⟩
    ·cases hg
   ·have:=(hE.arr _ _ hτ).2 ⟨_,_,hl⟩
    rw[harr] at this
    cases this
  ·cases hg
 ·cases hg
theorem inR_some{n:Nat} {i q:Int} (h:inR n i=some q):q=i/\0<=i/\i<n:=by
 unfold inR at h
 split at h
 ·rename_i h1;cases h;exact⟨rfl,h1.1,h1.2⟩
 ·cases h
theorem slSh_plain{M:Mp} {h:Sh} {a:Option (Nat×Nat)} {n c sz:Nat} {E:Nat×Nat->Prop} (k:SlSh M h a n c sz (∀ p,a=some p->E p)) (hp:h.plain=true):∀ p,a=some p->E p:=by
 cases h<;>simp only[SlSh,Sh.plain] at*<;> first | exact k | exact k.1 | (subst k;intro p hp;cases hp) | cases hp
theorem run_indexAt_arr{P:Program} {t e:TypeId} {len:Nat} (hu:P.underlying t=some (.array len e)) {xi:TypeInfo} (hx:P.info? e=some xi) {b o:Nat} {k:IntKind} {i:Int} (h0:0<=i) (h1:i<len) {w:World} :
  (Instr.indexAt t (.pointer (some ⟨b,o,none⟩)) (.int k i)).run P w=.ok (.pointer (some ⟨b,o+i.toNat*xi.size,none⟩)) w:=by
 simp only[Instr.indexAt,asIntOf,Sem.run_bind,Sem.run_pure,Result.andThen_ok,run_underlying hu,Instr.sureAddr,Sem.run_ite,if_pos (And.intro h0 h1),run_sizeOf hx,adr_add]
theorem run_indexAt_sl{P:Program} {t j:TypeId} (hu:P.underlying t=some (.slice j)) {xi:TypeInfo} (hx:P.info? j=some xi) {b o n c:Nat} {k:IntKind} {i:Int} (h0:0<=i) (h1:i<n) {w:World} :
  (Instr.indexAt t (.slice (some ⟨b,o,none⟩) n c) (.int k i)).run P w=.ok (.pointer (some ⟨b,o+i.toNat*xi.size,none⟩)) w:=by
 simp only[Instr.indexAt,asIntOf,Sem.run_bind,Sem.run_pure,Result.andThen_ok,run_underlying hu,Sem.run_ite,if_pos (And.intro h0 h1),run_sizeOf hx,adr_add]
theorem hex_sl{P:Program} {t j:TypeId} (hu:P.underlying t=some (.slice j)) {xi:TypeInfo} (hx:P.info? j=some xi) {pp:Nat×Nat} {n c:Nat} {k:IntKind} {i:Int} {xv iv:Value} {w:World}
  (e1:xv=.slice (Option.map adr (some pp)) n c) (ei:iv=.int k i) (h0:0<=i) (h1:i<n) :
  (Instr.indexAt t xv iv).run P w=.ok (.pointer (some ⟨pp.1,pp.2+i.toNat*xi.size,none⟩)) w:=by
 subst e1 ei
 exact run_indexAt_sl hu hx h0 h1
theorem hex_arr{P:Program} {t e:TypeId} {len:Nat} (hu:P.underlying t=some (.array len e)) {xi:TypeInfo} (hx:P.info? e=some xi) {b o:Nat} {k:IntKind} {i:Int} {xv iv:Value} {w:World}
  (e1:xv=.pointer (some ⟨b,o,none⟩)) (ei:iv=.int k i) (h0:0<=i) (h1:i<len) :
  (Instr.indexAt t xv iv).run P w=.ok (.pointer (some ⟨b,o+i.toNat*xi.size,none⟩)) w:=by
 subst e1 ei
 exact run_indexAt_arr hu hx h0 h1
theorem box_ms{P:Program} {w0:World} {I:Own} {nt:Nat} {U:Nat->Prop} {M:Mp} {st:St} {a:Act} {w:World} (h:Rel P w0 I nt U M st a w) {id:Nat} {e:Ty} {l:List e.D} {s:Sh}
  (hc:look st.bx id=some (.rw ⟨.ms e,l,s⟩)\/∃ z,look st.bx id=some (.ro z ⟨.ms e,l,s⟩)):BoxOk P w (own st M) M id ⟨.ms e,l,s⟩:=by
 rcases hc with hc | ⟨z,hc⟩
 ·exact(h.bx _ _ hc).1
 ·have:=(h.ro _ _ _ hc).1.2.1;cases this
theorem arr_off{P:Program}:∀ (t:Ty) (n:Nat) (e:TypeId) (f k:Nat) (xi:TypeInfo),(chk P t).ar n e=true->t.mem=true->P.info? e=some xi->offF t f=some k->k=f*xi.size/\f<n
 | .pr a b,0,e,f,k,xi,h,_,_,_=>by simp [chk] at h
 | .pr a b,n+1,e,f,k,xi,h,hm,hx,hf=>by
  simp only[chk,Bool.and_eq_true] at h
  simp only[Ty.mem,Bool.and_eq_true] at hm
  obtain⟨_,x',d,hx',_,hs,_⟩:=infoB_spec (chk_info h.1 (mem_std hm.1))
  rw[hx] at hx'
  cases hx'
  cases f with
  | zero=>simp only[offF,Option.some.injEq] at hf;subst hf;exact⟨by omega,by omega⟩
  | succ f =>
   simp only[offF] at hf
   split at hf
   ·rename_i k' hk'
    cases hf
    obtain⟨e1,e2⟩:=arr_off b n e f k' xi h.2 hm.2 hx hk'
    refine⟨?_,by omega⟩
    rw[e1,Nat.succ_mul,hs,Nat.add_comm]
   ·cases hf
 | .unit,_,_,f,_,_,_,_,_,hf=>by cases f<;>cases hf
 | .int _,_,_,f,_,_,_,_,_,hf=>by cases f<;>cases hf
 | .bool,_,_,f,_,_,_,_,_,hf=>by cases f<;>cases hf
 | .str,_,_,f,_,_,_,_,_,hf=>by cases f<;>cases hf
 | .ptr,_,_,f,_,_,_,_,_,hf=>by cases f<;>cases hf
 | .sl _,_,_,f,_,_,_,_,_,hf=>by cases f<;>cases hf
 | .ms _,_,_,f,_,_,_,_,_,hf=>by cases f<;>cases hf
 | .tu _ _,_,_,f,_,_,_,_,_,hf=>by cases f<;>cases hf
 | .fn _ _,_,_,f,_,_,_,_,_,hf=>by cases f<;>cases hf
 | .rref _,_,_,f,_,_,_,_,_,hf=>by cases f<;>cases hf
 | .eref,_,_,f,_,_,_,_,_,hf=>by cases f<;>cases hf
 | .mh,_,_,f,_,_,_,_,_,hf=>by cases f<;>cases hf
 | .nx,_,_,f,_,_,_,_,_,hf=>by cases f<;>cases hf
theorem ok_indexAddr{P:Program} {E:Env} (hE:EnvOk P E) {o:Oper} {m:Bool} {t:TypeId} {x i:Operand} (ho:o.op=.indexAddr t x i):OpOk P E o m:=by
 intro w0 I nt U M st a w id h hd
 refine⟨false,fun ω _ p f hg hfr=>?_⟩
 simp only[evOp,ho] at hg
 obtain⟨u,_,hu,hg,_⟩:=goes_opd hg
 obtain⟨v,_,hv,hg,_⟩:=goes_opd hg
 obtain⟨ru,su⟩:=opd_rep hE h hu
 obtain⟨rv,sv⟩:=opd_rep hE h hv
 have hex:∀ r,(Instr.indexAt t (a.eval x) (a.eval i)).run P w=.ok r w->(execOp a.eval o).run P w=.ok (.value r) w:=fun r e=>by
  simp only[execOp,ho,Sem.run_bind,e,Result.andThen_ok,Sem.run_pure]
 split at hg
 ·
  obtain⟨ei,_,_⟩:=rep_int rv
  split at hg
  ·rename_i e' hτ
   have hchk:=hE.ty _ _ hτ
   split at hg
   ·rename_i he
    have he:=of_decide_eq_true he
    subst he
    obtain⟨cb,_,hcb,hg,_⟩:=goes_rdB hg
    split at hg
    ·rename_i hty
     have hty:=of_decide_eq_true hty
     obtain⟨q,hq,hg⟩:=goes_eff hg
     have hp:=goes_retV hg
     subst hp
     obtain⟨rfl,q0,q1⟩:=inR_some hq
     obtain⟨pa,n,c,e1,e2,e3,e4,e5⟩:=rep_sl ru
     dsimp only[SlSh] at e2 e5 ei
     replace e1:=e1.val rfl
     obtain⟨j,hj,hjc,hjm⟩:=chk_sl hchk
     obtain⟨_,xi,d,hx,_,hs,_⟩:=infoB_spec (chk_info hjc (mem_std hjm))
     obtain⟨tc,vc,sc⟩:=cb
     dsimp only at hty
     subst hty
     obtain⟨_,a',n',c',k1,k2,k3,k4,k5⟩:=box_ms h hcb
     rw[e5] at k1
     cases k1
     cases pa with
     | none=>have:=e4 rfl;omega
     | some pp =>
      have hb:=(k5 pp rfl).1
      refine op_ret h hd (hex (.pointer (some ⟨pp.1,pp.2+q.toNat*xi.size,none⟩)) ?_) ?_ su
      ·rw[e1,ei]
       exact run_indexAt_sl hj hx q0 (by omega)
      ·exact⟨_,_,rfl,q0,by rw[hb],by rw[hb,hs];simp⟩
    ·cases hg
   ·cases hg
  ·cases hg
 ·
  obtain⟨ei,_,_⟩:=rep_int rv
  split at hg
  ·rename_i e' hτ
   have hchk:=hE.ty _ _ hτ
   split at hg
   ·rename_i he
    simp only[Bool.and_eq_true] at he
    have hpl:=he.2
    have he:=of_decide_eq_true he.1
    subst he
    obtain⟨y,hy,hg⟩:=goes_eff hg
    have hp:=goes_retV hg
    subst hp
    obtain⟨q0,q1,q2⟩:=ati_some hy
    obtain⟨pa,n,c,e1,e2,e3,e4,e5⟩:=rep_sl ru
    dsimp only at e2 e5 ei
    replace e1:=e1.valPos (by omega)
    obtain⟨j,hj,hjc,hjm⟩:=chk_sl hchk
    obtain⟨_,xi,d,hx,_,hs,_⟩:=infoB_spec (chk_info hjc (mem_std hjm))
    cases pa with
    | none=>have:=e4 rfl;omega
    | some pp =>
     obtain⟨es,k1,k2,k3⟩:=slSh_plain e5 hpl pp rfl _ _ q1
     exact op_ret h hd (hex _ (hex_sl hj hx e1 ei q0 (by omega))) ⟨_,_,es,rfl,(memTup hjm).1,k1,by rw[hs];exact k2,k3⟩ trivial
   ·cases hg
  ·cases hg
 ·
  obtain⟨ei,_,_⟩:=rep_int rv
  split at hg
  ·rename_i e r hτ'
   split at hτ'<;>try cases hτ'
   rename_i harr
   have hτ:=hτ'
   have hchk:=hE.ty _ _ hτ
   obtain⟨len,et,hun⟩:=(hE.arr _ _ hτ).1 harr
   have har:(chk P (.pr e r)).ar len et=true:=by
    rcases chk_pr hchk with⟨l,hl,_⟩ | ⟨n',e',hl,hn⟩
    ·rw[hun] at hl;cases hl
    ·rw[hun] at hl;cases hl;exact hn
   obtain⟨hlen,hall⟩:=chk_arr _ _ _ har
   have hem:e.mem=true:=part_mem _ (infoB_spec (chk_info hchk rfl)).1 (f:=0) rfl
   obtain⟨_,xi,d,hx,_,hs,_⟩:=infoB_spec (chk_info (hall 0 e rfl) (mem_std hem))
   obtain⟨pp,e1,e2⟩:=rep_ptr ru
   dsimp only[PtrSh] at e1 e2 ei
   subst e2
   split at hg
   ·rename_i c hc
    split at hg
    ·rename_i n hn h0
     have h0:=of_decide_eq_true h0
     have hp:=goes_retV hg
     subst hp
     obtain⟨kc,hcv⟩:=opd_const hv hc
     cases hcv
     obtain⟨g1,g2⟩:=arr_off _ _ _ _ _ xi har (infoB_spec (chk_info hchk rfl)).1 hx hn
     refine op_ret h hd (hex _ (hex_arr hun hx e1 ei h0 (by omega))) (rep_ptr_mk ?_) su
     show some _=some _
     rw[g1,Nat.add_assoc]
    ·cases hg
   ·split at hg
    ·obtain⟨q,hq,hg⟩:=goes_eff hg
     have hp:=goes_retV hg
     subst hp
     obtain⟨rfl,q0,q1⟩:=inR_some hq
     exact op_ret h hd (hex _ (hex_arr hun hx e1 ei q0 (by omega))) ⟨_,_,rfl,q0,rfl,by rw[hs];simp⟩ su
    ·cases hg
  ·cases hg
 ·cases hg
theorem ok_nilCheck{P:Program} {E:Env} (hE:EnvOk P E) {o:Oper} {m:Bool} {x:Operand} (ho:o.op=.nilCheck x):OpOk P E o m:=by
 intro w0 I nt U M st a w id h hd
 refine⟨false,fun ω _ p f hg hfr=>?_⟩
 simp only[evOp,ho] at hg
 obtain⟨u,_,hu,hg,_⟩:=goes_opd hg
 obtain⟨ru,su⟩:=opd_rep hE h hu
 split at hg
 ·have hp:=goes_retV hg
  subst hp
  obtain⟨pp,e1,e2⟩:=rep_ptr ru
  dsimp only[PtrSh] at e1 e2
  subst e2
  have hex:(execOp a.eval o).run P w=.ok (.value (a.eval x)) w:=by simp only[execOp,ho,e1,Sem.run_pure]
  exact op_ret h hd hex ru su
 ·have hp:=goes_retV hg
  subst hp
  obtain⟨b,o',es,e1,ht,e2,e3,e4⟩:=rep_rref ru
  have hex:(execOp a.eval o).run P w=.ok (.value (a.eval x)) w:=by simp only[execOp,ho,e1,Sem.run_pure]
  exact op_ret h hd hex ru su
 ·cases hg
end Go.VX
/- VX, part 15: a step from state to state. -/
set_option linter.unusedVariables false
set_option linter.unusedSimpArgs false
namespace Go.VX
theorem reg_congr{st st':St} {M:Mp} (hb:∀ n,look st'.bx n=look st.bx n) (ht:∀ n,look st'.tk n=look st.tk n) (l:Loc) (b o:Nat):reg st' M l b o↔reg st M l b o:=by
 rcases l with(_ | n) | n | n<;>simp only[reg,hb,ht]
theorem Rel.congr{P:Program} {w0:World} {I:Own} {nt:Nat} {U:Nat->Prop} {M:Mp} {st st':St} {a:Act} {w:World} (h:Rel P w0 I nt U M st a w)
  (hs:∀ n,look st'.sl n=look st.sl n) (hb:∀ n,look st'.bx n=look st.bx n) (ht:∀ n,look st'.tk n=look st.tk n):Rel P w0 I nt U M st' a w:=by
 have ho:own st' M=own st M:=own_congr hb ht
 refine⟨fun n v hn=>?_,fun id v hv=>?_,fun id z v hv=>?_,fun k hk=>?_,fun b o=>?_,fun l l' b o h1 h2=>?_,h.keep,h.size,h.defs,fun id v hv ht=>?_⟩
 rotate_right
 ·rw[hb] at hv
  refine⟨(h.ob id v hv ht).1,fun id' v' hv' ht' he=>(h.ob id v hv ht).2 id' v' (by rw[← hb];exact hv') ht' he⟩
 ·rw[ho];exact h.sl n v (by rw[← hs];exact hn)
 ·rw[ho];exact h.bx id v (by rw[← hb];exact hv)
 ·rw[ho,show ownN st' M=ownN st M from ownN_congr hb ht];exact h.ro id z v (by rw[← hb];exact hv)
 ·exact h.tk k (by rw[← ht];exact hk)
 ·rw[ho];exact h.live b o
 ·exact h.dis l l' b o ((reg_congr hb ht l b o).1 h1) ((reg_congr hb ht l' b o).1 h2)
theorem Rel.step{P:Program} {w0:World} {I:Own} {nt:Nat} {U U':Nat->Prop} {M M':Mp} {st st':St} {a:Act} {w w':World} (h:Rel P w0 I nt U M st a w)
  {dst:Option Tmp} (hd:∀ d,dst=some d->d<nt) {W:Own} {v':Value} {pv:Option Vl} (τ:Loc->Loc) (L:Loc)
  (hU:∀ k,U k->U' k) (hA:Agree U M M') (hk:Keeps W w w') (hW:∀ b o,W b o->∃ l,l≠.s 0/\reg st M l b o)
  (hsl:∀ n,look st'.sl n=if dst=some n then some pv else look st.sl n)
  (hv:∀ x,pv=some x->RepV P x.ty w' (own st' M') M' x.val x.sh v'/\ShIn U' x.sh)
  (hreg:∀ l b o,reg st' M' l b o->(∃ l0,reg st M l0 b o/\τ l0=l)\/(w.heap.size<=b/\l=L/\(w'.cell? ⟨b,o,none⟩).isSome=true/\Clean w' b))
  (hbx:∀ id v,look st'.bx id=some (.rw v)->(look st.bx id=some (.rw v)/\∀ b o,reg st M (.b id) b o->¬ W b o)\/(BoxOk P w' (own st' M') M' id v/\ShIn U' v.sh/\U' id))
  (hro:∀ id z v,look st'.bx id=some (.ro z v)->look st.bx id=some (.ro z v)\/(RoOk P w' (own st' M') (ownN st' M') M' id z v/\ShIn U' v.sh/\U' id))
  (htk:∀ k,look st'.tk k=some true->U' k) (hob:∀ id v,look st'.bx id=some (.rw v)->v.ty.tup=true->look st.bx id=some (.rw v)) (hτ:τ (.s 0)=.s 0:=by rfl):Rel P w0 I nt U' M' st' (a.put dst v') w':=by
 have hx:Ext (own st M) w w':=hk.ext.mono fun b o _ hw=>(hW b o hw).imp fun _ h=>h.2
 have ho:∀ b o,b<w.heap.size->own st' M' b o->own st M b o:=by
  rintro b o hb ⟨l,hl⟩
  rcases hreg l b o hl with⟨l0,h1,_⟩ | ⟨h1,_⟩
  ·exact⟨l0,h1⟩
  ·omega
 have hoN:∀ b o,b<w.heap.size->ownN st' M' b o->ownN st M b o:=by
  rintro b o hb ⟨l,h0,hl⟩
  rcases hreg l b o hl with⟨l0,h1,h2⟩ | ⟨h1,_⟩
  ·exact⟨l0,fun e=>h0 (by rw[← h2,e,hτ]),h1⟩
  ·omega
 have hxN:Ext (ownN st M) w w':=hk.ext.mono fun b o _ hw=>hW b o hw
 refine h.upd hU hA hx ho ?_ ?_ hxN hoN hro htk ?_ ?_ (h.keep.trans hk fun b o hb hw=>?_) (by rw[put_size];exact h.size) (by rw[put_defers];exact h.defs) (h.obj_keep hk) hob
 ·intro n x hn
  rw[hsl] at hn
  split at hn
  ·rename_i e
   right
   rw[e,put_getD_same (by rw[h.size];exact hd n e)]
   exact hv x (Option.some.inj hn)
  ·rename_i e
   exact .inl ⟨hn,put_getD e⟩
 ·intro id v hv
  rcases hbx id v hv with⟨h1,h2⟩ | h1
  ·refine .inl ⟨h1,fun b o hb=>?_⟩
   have hr:reg st M (.b id) b o:=⟨v,h1,hb⟩
   exact hk.cell b o (h.own_lt ⟨_,hr⟩) (h2 b o hr)
  ·exact .inr h1
 ·rintro b o ⟨l,hl⟩
  rcases hreg l b o hl with⟨l0,h1,_⟩ | ⟨h1,_,h2,h3⟩
  ·obtain⟨k1,k2,k3⟩:=h.live b o ⟨l0,h1⟩
   exact⟨hk.isSome b o k1,hk.cleanF b (h.own_lt ⟨l0,h1⟩) k2,by rw[hA.1];exact k3⟩
  ·exact⟨h2,h3,.inl (Nat.le_trans h.keep.size h1)⟩
 ·intro l l' b o h1 h2
  rcases hreg l b o h1 with⟨l0,k1,k2⟩ | ⟨k1,k2,_⟩<;>rcases hreg l' b o h2 with⟨l1,k3,k4⟩ | ⟨k3,k4,_⟩
  ·rw[← k2,← k4,h.dis _ _ _ _ k1 k3]
  ·have:=h.own_lt ⟨l0,k1⟩;omega
  ·have:=h.own_lt ⟨l1,k3⟩;omega
  ·rw[k2,k4]
 ·obtain⟨l,hl,hr⟩:=hW b o hw
  rcases (h.live b o ⟨l,hr⟩).2.2 with h1 | h1 | h1
  ·omega
  ·exact h1
  ·exact(hl (h.dis _ _ _ _ hr (show reg st M (.s 0) b o from h1))).elim
theorem hob1{l:List (Nat×Bx)} {id k:Nat} {u v:Vl} (hu:u.ty.tup=false) (hk:look ((id,.rw u)::l) k=some (.rw v)) (hv:v.ty.tup=true):look l k=some (.rw v):=by
 rw[look_cons] at hk
 split at hk
 ·cases hk;rw[hu] at hv;cases hv
 ·exact hk
theorem reg_kill{st:St} {M:Mp} {id:Nat} {l:Loc} {b o:Nat} (h:reg { st with bx:=(id,.dead)::st.bx } M l b o):reg st M l b o/\l≠.b id:=by
 cases l with
 | s n =>
  cases n with
  | zero=>exact⟨h,fun e=>by cases e⟩
  | succ n=>exact h.elim
 | b k =>
  obtain⟨v,h1,h2⟩:=h
  simp only[look_cons] at h1
  split at h1
  ·cases h1
  ·rename_i e
   exact⟨⟨v,h1,h2⟩,fun e'=>e (by cases e';rfl)⟩
 | t k=>exact⟨h,fun e=>by cases e⟩
theorem own_kill{st:St} {M:Mp} {id:Nat} {b o:Nat} (h:own { st with bx:=(id,.dead)::st.bx } M b o):own st M b o:=by
 obtain⟨l,h⟩:=h
 exact⟨l,(reg_kill h).1⟩
theorem Rel.kill{P:Program} {w0:World} {I:Own} {nt:Nat} {U:Nat->Prop} {M:Mp} {st:St} {a:Act} {w:World} (h:Rel P w0 I nt U M st a w) (id:Nat) :
  Rel P w0 I nt U M { st with bx:=(id,.dead)::st.bx } a w:=by
 refine h.upd (fun _ k=>k) (Agree.refl _ _) (Ext.refl _ _) (fun b o _=>own_kill) (fun n v hn=>.inl ⟨hn,rfl⟩) (fun k v hv=>?_) (Ext.refl _ _) (fun b o _ ⟨l,h0,hl⟩=>⟨l,h0,(reg_kill hl).1⟩) (fun k z v hv=>?_) h.tk
  (fun b o ho=>h.live b o (own_kill ho)) (fun l l' b o h1 h2=>h.dis l l' b o (reg_kill h1).1 (reg_kill h2).1) h.keep h.size h.defs (fun _ _ _ _=>rfl) (fun k v hv _=>?_)
 rotate_right
 ·simp only[look_cons] at hv
  split at hv
  ·cases hv
  ·exact hv
 ·simp only[look_cons] at hv
  split at hv
  ·cases hv
  ·exact .inl ⟨hv,fun _ _ _=>rfl⟩
 ·simp only[look_cons] at hv
  split at hv
  ·cases hv
  ·exact .inl hv
theorem row_in{P:Program} {w:World} {O:Own} {M:Mp} {id:Nat} {e:Ty} {l:List e.D} {s:Sh} (hb:BoxOk P w O M id ⟨.ms e,l,s⟩) {p:Nat×Nat} (hp:(M.row id).1=some p) {i j:Nat} (hi:i<l.length) (hj:j<e.size) :
  inBox M id (.ms e) p.1 (p.2+i*e.size+j):=by
 obtain⟨_,a,n,c,h1,h2,h3,_⟩:=hb
 rw[h1] at hp
 dsimp only at hp
 refine⟨p.2,by rw[h1];exact hp,by omega,?_⟩
 rw[h1]
 dsimp only
 have:(i+1)*e.size<=c*e.size:=Nat.mul_le_mul_right _ (by omega)
 rw[Nat.succ_mul] at this
 omega
theorem Rel.freeze{P:Program} {w0:World} {I:Own} {nt:Nat} {U:Nat->Prop} {M:Mp} {st:St} {a:Act} {w:World} (h:Rel P w0 I nt U M st a w) {id:Nat} {e:Ty} {l:List e.D} {s:Sh}
  (hc:look st.bx id=some (.rw ⟨.ms e,l,s⟩)) {x:List e.D} {v:Value} (r:RepV P (.sl e) w (own st M) M x (.mref id) v) :
  RepV P (.sl e) w (own { st with bx:=(id,.dead)::st.bx } M) M l .o v:=by
 obtain⟨pa,n,c,e1,e2,e3,e4,e5⟩:=rep_sl r
 have hb:=(h.bx _ _ hc).1
 have hrow:=hb
 obtain⟨t0,a',n',c',k1,k2,k3,k4,k5⟩:=hb
 dsimp only[SlSh] at e5
 rw[e5] at k1
 cases k1
 refine(repV_of rfl).2 ⟨pa,n,c,.inl (by rw[e1.val rfl]),k2,e3,e4,fun p hp i y hi=>?_⟩
 obtain⟨es,f1,f2,f3⟩:=(k5 p hp).2 i y hi
 refine⟨es,f1,fun j u hj=>⟨f2 j u hj,?_⟩,f3.mono P _ (Ext.refl _ _) (fun b o _=>own_kill) trivial⟩
 rintro⟨l',hl'⟩
 obtain⟨g1,g2⟩:=reg_kill hl'
 refine g2 (h.dis _ _ _ _ g1 ⟨_,hc,?_⟩)
 have hj':j<e.size:=f1 ▸ (List.getElem?_eq_some_iff.1 hj).1
 exact row_in hrow (by rw[e5,hp]) (List.getElem?_eq_some_iff.1 hi).1 hj'
def AllDead(ds:List (Nat×Bx)):Prop:=∀ p∈ds,p.2=.dead
theorem asVal_ok{P:Program} {w0:World} {I:Own} {nt:Nat} {U:Nat->Prop} {M:Mp} {st st1:St} {a:Act} {w:World} (h:Rel P w0 I nt U M st1 a w) {ω:Bool} {v:Vl} {k:Vl->List (Nat×Bx)->RM} {p:Patch} {f:List Loc}
  (g:Goes st ω (asVal v k) p f) {va:Value} (r:RepV P v.ty w (own st1 M) M v.val v.sh va) (hs:ShIn U v.sh)
  (hst:∀ id e x l s,v=⟨.sl e,x,.mref id⟩->look st.bx id=some (.rw ⟨.ms e,l,s⟩)->look st1.bx id=some (.rw ⟨.ms e,l,s⟩)) :
  ∃ u ds f',Goes st ω (k u ds) p f'/\Rel P w0 I nt U M { st1 with bx:=putL ds st1.bx } a w/\RepV P u.ty w (own { st1 with bx:=putL ds st1.bx } M) M u.val u.sh va/\ShIn U u.sh/\u.sh.plain=true /\
   u.ty=v.ty/\AllDead ds/\(∀ l∈f',l∈f)/\(ds=[]\/∃ id,v.sh=.mref id/\ds=[(id,.dead)]):=by
 unfold asVal at g
 split at g
 ·rename_i e x id
  obtain⟨c,f',hc,g,hf⟩:=goes_rdW g
  split at g
  ·rename_i l hl
   obtain⟨e2,rfl⟩:=castTo_eq hl
   obtain⟨tc,vc,sc⟩:=c
   dsimp only at e2
   subst e2
   exact⟨_,_,_,g,h.kill id,h.freeze (hst _ _ _ _ _ rfl hc) r,trivial,rfl,rfl,fun p hp=>by simp at hp;rw[hp],fun l hl=>by rw[hf];exact List.mem_cons_of_mem _ hl,.inr ⟨id,rfl,rfl⟩⟩
  ·cases g
 ·split at g
  ·rename_i hp
   exact⟨_,_,_,g,h,r,hs,hp,rfl,fun p hp=>by simp at hp,fun _ h=>h,.inl rfl⟩
  ·cases g
end Go.VX
/- VX, part 16: new rows of elements. -/
set_option linter.unusedVariables false
set_option linter.unusedSimpArgs false
namespace Go.VX
def Mp.setTok(M:Mp) (id:Nat) (p:Option (Nat×Nat)×Nat×Nat×Nat):Mp:={ M with tok:=fun k=>if k=id then p else M.tok k }
def Mp.setRow(M:Mp) (id:Nat) (p:Option (Nat×Nat)×Nat×Nat):Mp :=
 { M with row:=fun k=>if k=id then p else M.row k,box:=fun k=>if k=id then p.1.getD (0,0) else M.box k }
theorem Mp.setTok_same{M:Mp} {id:Nat} {p:Option (Nat×Nat)×Nat×Nat×Nat}:(M.setTok id p).tok id=p:=by simp [Mp.setTok]
theorem Mp.setRow_same{M:Mp} {id:Nat} {p:Option (Nat×Nat)×Nat×Nat}:(M.setRow id p).row id=p:=by simp [Mp.setRow]
theorem Mp.setRow_box{M:Mp} {id:Nat} {p:Option (Nat×Nat)×Nat×Nat}:(M.setRow id p).box id=p.1.getD (0,0):=by simp [Mp.setRow]
theorem Mp.setTok_agree{U:Nat->Prop} {M:Mp} {id:Nat} {p:Option (Nat×Nat)×Nat×Nat×Nat} (h:¬ U id):Agree U M (M.setTok id p):=by
 refine⟨rfl,fun k hk=>?_⟩
 have:k≠id:=fun e=>h (e ▸ hk)
 simp [Mp.setTok,this]
theorem Mp.setRow_agree{U:Nat->Prop} {M:Mp} {id:Nat} {p:Option (Nat×Nat)×Nat×Nat} (h:¬ U id):Agree U M (M.setRow id p):=by
 refine⟨rfl,fun k hk=>?_⟩
 have:k≠id:=fun e=>h (e ▸ hk)
 simp [Mp.setRow,this]
theorem look_put1{α:Type} {k:Nat} {x:α} {l:List (Nat×α)} {n:Nat}:look (putL [(k,x)] l) n=if k=n then some x else look l n:=look_cons
structure Fresh (w w':World) (B:Nat) (cs:List Value):Prop where
 keep:Keeps noOwn w w'
 old:w.heap.size<=B
 cell:∀ j v,cs[j]?=some v->w'.cell? ⟨B,j,none⟩=some v
 fr:Clean w' B
theorem Fresh.alloc{w:World} {cs:List Value} {t:TypeId}:Fresh w (w.alloc (.cells cs.toArray t)) w.heap.size cs :=
 ⟨Keeps.alloc w _,Nat.le_refl _,fun j v h=>by rw[cell_alloc_new,h],fun j=>frozen_alloc_new⟩
theorem Fresh.drew{w:World} {cs:List Value} {t:TypeId}:Fresh w (w.drew.alloc (.cells cs.toArray t)) w.heap.size cs :=
 ⟨(Keeps.drewN w _).trans (Keeps.alloc w.drew _) (fun _ _ _ h=>h),Nat.le_refl _,fun j v h=>by
  have:(w.drew.alloc (.cells cs.toArray t)).cell? ⟨w.drew.heap.size,j,none⟩=cs[j]?:=cell_alloc_new
  exact this.trans h,fun j=>frozen_alloc_new (w:=w.drew)⟩
theorem Fresh.isSome{w w':World} {B:Nat} {cs:List Value} (h:Fresh w w' B cs) {j:Nat} (hj:j<cs.length):(w'.cell? ⟨B,j,none⟩).isSome=true:=by
 rw[h.cell j _ (List.getElem?_eq_getElem hj)];rfl
theorem Fresh.ext{w w':World} {B:Nat} {cs:List Value} (h:Fresh w w' B cs) (O:Own):Ext O w w':=h.keep.ext.mono fun _ _ _ h=>h.elim
theorem mul_cell{i c s j:Nat} (h1:i<c) (h2:j<s):i*s+j<c*s:=by
 have:(i+1)*s<=c*s:=Nat.mul_le_mul_right _ h1
 rw[Nat.succ_mul] at this
 omega
theorem chunk_get{cs:List Value} {i s c:Nat} (hl:cs.length=c*s) (hi:i<c):((cs.drop (i*s)).take s).length=s:=by
 rw[List.length_take,List.length_drop,hl]
 have:(i+1)*s<=c*s:=Nat.mul_le_mul_right _ hi
 rw[Nat.succ_mul] at this
 omega
theorem Rel.newTok{P:Program} {w0:World} {I:Own} {nt:Nat} {U U':Nat->Prop} {M:Mp} {st:St} {a:Act} {w w':World} (h:Rel P w0 I nt U M st a w)
  {dst:Option Tmp} (hd:∀ d,dst=some d->d<nt) {id:Nat} (hid:¬ U id) (hU:∀ k,U k->U' k) (hU':U' id) {e:Ty} {l:List e.D} {cs:List Value} {B c:Nat} (hf:Fresh w w' B cs)
  (hl:cs.length=c*e.size) (hc:LeC l.length c) (hch:∀ i y,l[i]?=some y->RepC P e w (own st M) M y .o ((cs.drop (i*e.size)).take e.size)) {fr:Nat} :
  Rel P w0 I nt U' (M.setTok id (some (B,0),l.length,c,e.size)) (st.patch dst { v:=some ⟨.sl e,l,.tok id⟩,ts:=[(id,true)],fr:=fr }) (a.put dst (.slice (some ⟨B,0,none⟩) l.length c)) w':=by
 have hA:=Mp.setTok_agree (M:=M) (p:=(some (B,0),l.length,c,e.size)) hid
 have hreg:∀ k b o,reg (st.patch dst { v:=some ⟨.sl e,l,.tok id⟩,ts:=[(id,true)],fr:=fr }) (M.setTok id (some (B,0),l.length,c,e.size)) k b o ->
   (reg st M k b o)\/(k=.t id/\b=B/\l.length*e.size<=o/\o<c*e.size):=by
  intro k b o hk
  by_cases hkid:k=.t id
  ·subst hkid
   right
   obtain⟨_,q,h1,h2,h3⟩:=hk
   simp only[Mp.setTok_same] at h1 h2 h3
   cases h1
   exact⟨rfl,rfl,by omega,by omega⟩
  ·left
   refine reg_old (st':=st.patch dst { v:=some ⟨.sl e,l,.tok id⟩,ts:=[(id,true)],fr:=fr }) h hA (fun _ _ _ h=>h) (fun n e hn=>?_) hk
   subst e
   simp only[St.patch] at hn
   rw[look_put1,if_neg (fun e=>hkid (by rw[e]))] at hn
   exact hn
 have hown:∀ b o,b<w.heap.size->own (st.patch dst { v:=some ⟨.sl e,l,.tok id⟩,ts:=[(id,true)],fr:=fr }) (M.setTok id (some (B,0),l.length,c,e.size)) b o->own st M b o:=by
  rintro b o hb ⟨k,hk⟩
  rcases hreg k b o hk with h1 | ⟨_,h1,_⟩
  ·exact⟨k,h1⟩
  ·have:=hf.old;omega
 refine h.step hd (W:=noOwn) (fun l=>l) (.t id) hU hA hf.keep (fun _ _ h=>h.elim) (pv:=some ⟨.sl e,l,.tok id⟩) (fun n=>?_) (fun x hx=>?_) (fun k b o hk=>?_) (fun k v hv=>.inl ⟨hv,fun _ _ _ h=>h⟩) (fun k z v hv=>.inl hv) (fun k hk=>?_) (fun _ _ hk _=>hk)
 ·cases dst with
  | none=>simp [St.patch]
  | some d=>simp only[St.patch,look_cons,Option.some.injEq]
 ·cases hx
  refine⟨?_,hU'⟩
  refine(repV_of rfl).2 ⟨some (B,0),l.length,c,.inl rfl,rfl,hc,fun h=>(by cases h),?_,.inl Mp.setTok_same⟩
  intro p hp i y hi
  cases hp
  have hi':i<l.length:=(List.getElem?_eq_some_iff.1 hi).1
  refine⟨_,chunk_get hl (by omega),fun j u hj=>?_,(hch i y hi).mono P _ (hf.ext _) hown trivial⟩
  have hj':j<e.size:=by
   have:=(List.getElem?_eq_some_iff.1 hj).1
   rwa [chunk_get hl (by omega)] at this
  have hcell:=hf.cell _ _ (drop_take_get hj)
  refine⟨by simpa using hcell,?_⟩
  rintro⟨k,hk⟩
  rcases hreg k _ _ hk with h1 | ⟨_,_,h2,_⟩
  ·have:=h.own_lt ⟨k,h1⟩;have:=hf.old;omega
  ·have:=mul_cell hi' hj';omega
 ·rcases hreg k b o hk with h1 | ⟨h1,rfl,h2,h3⟩
  ·exact .inl ⟨k,h1,rfl⟩
  ·exact .inr ⟨hf.old,h1,hf.isSome (by omega),hf.fr⟩
 ·simp only[St.patch] at hk
  rw[look_put1] at hk
  split at hk
  ·rename_i e;rw[← e];exact hU'
  ·exact hU k (h.tk k hk)
theorem Rel.newMs{P:Program} {w0:World} {I:Own} {nt:Nat} {U U':Nat->Prop} {M:Mp} {st:St} {a:Act} {w w':World} (h:Rel P w0 I nt U M st a w)
  {dst:Option Tmp} (hd:∀ d,dst=some d->d<nt) {id:Nat} (hid:¬ U id) (hU:∀ k,U k->U' k) (hU':U' id) {e:Ty} (het:e.tup=false) {l:List e.D} {cs:List Value} {B c:Nat} (hf:Fresh w w' B cs)
  (hl:cs.length=c*e.size) (hc:LeC l.length c) (hch:∀ i y,l[i]?=some y->RepC P e w (own st M) M y .o ((cs.drop (i*e.size)).take e.size)) {fr:Nat} :
  Rel P w0 I nt U' (M.setRow id (some (B,0),l.length,c)) (st.patch dst { v:=some ⟨.sl e,l,.mref id⟩,bs:=[(id,.rw ⟨.ms e,l,.o⟩)],fr:=fr }) (a.put dst (.slice (some ⟨B,0,none⟩) l.length c)) w':=by
 have hA:=Mp.setRow_agree (M:=M) (p:=(some (B,0),l.length,c)) hid
 have hreg:∀ k b o,reg (st.patch dst { v:=some ⟨.sl e,l,.mref id⟩,bs:=[(id,.rw ⟨.ms e,l,.o⟩)],fr:=fr }) (M.setRow id (some (B,0),l.length,c)) k b o ->
   (reg st M k b o)\/(k=.b id/\b=B/\o<c*e.size):=by
  intro k b o hk
  by_cases hkid:k=.b id
  ·subst hkid
   right
   obtain⟨v,h0,h1⟩:=hk
   simp only[St.patch] at h0
   rw[look_put1,if_pos rfl] at h0
   cases h0
   obtain⟨q,h1,h2,h3⟩:=h1
   simp only[Mp.setRow_same] at h1 h2 h3
   cases h1
   exact⟨rfl,rfl,by omega⟩
  ·left
   refine reg_old (st':=st.patch dst { v:=some ⟨.sl e,l,.mref id⟩,bs:=[(id,.rw ⟨.ms e,l,.o⟩)],fr:=fr }) h hA (fun n v e hn=>?_) (fun _ _ h=>h) hk
   subst e
   simp only[St.patch] at hn
   rw[look_put1,if_neg (fun e=>hkid (by rw[e]))] at hn
   exact hn
 have hown:∀ b o,b<w.heap.size->own (st.patch dst { v:=some ⟨.sl e,l,.mref id⟩,bs:=[(id,.rw ⟨.ms e,l,.o⟩)],fr:=fr }) (M.setRow id (some (B,0),l.length,c)) b o->own st M b o:=by
  rintro b o hb ⟨k,hk⟩
  rcases hreg k b o hk with h1 | ⟨_,h1,_⟩
  ·exact⟨k,h1⟩
  ·have:=hf.old;omega
 refine h.step hd (W:=noOwn) (fun l=>l) (.b id) hU hA hf.keep (fun _ _ h=>h.elim) (pv:=some ⟨.sl e,l,.mref id⟩) (fun n=>?_) (fun x hx=>?_) (fun k b o hk=>?_) (fun k v hv=>?_) (fun k z v hv=>?_) (fun k hk=>hU k (h.tk k hk)) (fun k v hk hv=>hob1 rfl hk hv)
 ·cases dst with
  | none=>simp [St.patch]
  | some d=>simp only[St.patch,look_cons,Option.some.injEq]
 ·cases hx
  exact⟨(repV_of rfl).2 ⟨some (B,0),l.length,c,.inl rfl,rfl,hc,fun h=>(by cases h),Mp.setRow_same⟩,hU'⟩
 ·rcases hreg k b o hk with h1 | ⟨h1,rfl,h3⟩
  ·exact .inl ⟨k,h1,rfl⟩
  ·exact .inr ⟨hf.old,h1,hf.isSome (by omega),hf.fr⟩
 ·simp only[St.patch] at hv
  rw[look_put1] at hv
  split at hv
  ·rename_i e'
   subst e'
   cases hv
   right
   refine⟨⟨het,_,_,_,Mp.setRow_same,rfl,hc,fun h=>(by cases h),fun p hp=>?_⟩,trivial,hU'⟩
   cases hp
   refine⟨Mp.setRow_box,fun i y hi=>?_⟩
   have hi':i<l.length:=(List.getElem?_eq_some_iff.1 hi).1
   refine⟨_,chunk_get hl (by omega),fun j u hj=>?_,(hch i y hi).mono P _ (hf.ext _) hown trivial⟩
   have hcell:=hf.cell _ _ (drop_take_get hj)
   simpa using hcell
  ·exact .inl ⟨hv,fun _ _ _ h=>h⟩
 ·simp only[St.patch] at hv
  rw[look_put1] at hv
  split at hv
  ·cases hv
  ·exact .inl hv
theorem Rel.nilMs{P:Program} {w0:World} {I:Own} {nt:Nat} {U U':Nat->Prop} {M:Mp} {st:St} {a:Act} {w:World} (h:Rel P w0 I nt U M st a w)
  {dst:Option Tmp} (hd:∀ d,dst=some d->d<nt) {id:Nat} (hid:¬ U id) (hU:∀ k,U k->U' k) (hU':U' id) {e:Ty} (het:e.tup=false) {fr:Nat} :
  Rel P w0 I nt U' (M.setRow id (none,0,0)) (st.patch dst { v:=some ⟨.sl e,([]:List e.D),.mref id⟩,bs:=[(id,.rw ⟨.ms e,([]:List e.D),.o⟩)],fr:=fr }) (a.put dst (.slice none 0 0)) w:=by
 have hA:=Mp.setRow_agree (M:=M) (p:=(none,0,0)) hid
 have hreg:∀ k b o,reg (st.patch dst { v:=some ⟨.sl e,([]:List e.D),.mref id⟩,bs:=[(id,.rw ⟨.ms e,([]:List e.D),.o⟩)],fr:=fr }) (M.setRow id (none,0,0)) k b o->reg st M k b o:=by
  intro k b o hk
  by_cases hkid:k=.b id
  ·subst hkid
   exfalso
   obtain⟨v,h0,h1⟩:=hk
   simp only[St.patch] at h0
   rw[look_put1,if_pos rfl] at h0
   cases h0
   obtain⟨q,h1,h2,h3⟩:=h1
   simp only[Mp.setRow_same] at h1
   cases h1
  ·refine reg_old (st':=st.patch dst { v:=some ⟨.sl e,([]:List e.D),.mref id⟩,bs:=[(id,.rw ⟨.ms e,([]:List e.D),.o⟩)],fr:=fr }) h hA (fun n v e hn=>?_) (fun _ _ h=>h) hk
   subst e
   simp only[St.patch] at hn
   rw[look_put1,if_neg (fun e=>hkid (by rw[e]))] at hn
   exact hn
 refine h.step hd (W:=noOwn) (fun l=>l) (.b id) hU hA (Keeps.refl _ _) (fun _ _ h=>h.elim) (pv:=some ⟨.sl e,([]:List e.D),.mref id⟩) (fun n=>?_) (fun x hx=>?_) (fun k b o hk=>.inl ⟨k,hreg k b o hk,rfl⟩) (fun k v hv=>?_) (fun k z v hv=>?_) (fun k hk=>hU k (h.tk k hk)) (fun k v hk hv=>hob1 rfl hk hv)
 ·cases dst with
  | none=>simp [St.patch]
  | some d=>simp only[St.patch,look_cons,Option.some.injEq]
 ·cases hx
  exact⟨(repV_of rfl).2 ⟨none,0,0,.inl rfl,rfl,⟨Nat.le_refl _,Nat.zero_le _⟩,fun _=>rfl,Mp.setRow_same⟩,hU'⟩
 ·simp only[St.patch] at hv
  rw[look_put1] at hv
  split at hv
  ·rename_i e'
   subst e'
   cases hv
   right
   exact⟨⟨het,_,_,_,Mp.setRow_same,rfl,⟨Nat.le_refl _,Nat.zero_le _⟩,fun _=>rfl,fun p hp=>(by cases hp)⟩,trivial,hU'⟩
  ·exact .inl ⟨hv,fun _ _ _ h=>h⟩
 ·simp only[St.patch] at hv
  rw[look_put1] at hv
  split at hv
  ·cases hv
  ·exact .inl hv
end Go.VX
/- VX, part 17: moves, indices, what is built. -/
set_option linter.unusedVariables false
set_option linter.unusedSimpArgs false
namespace Go.VX
theorem rep_nils{P:Program} {e:Ty} {w:World} {O:Own} {M:Mp} {l:List e.D} {v:Value} (r:RepV P (.sl e) w O M l .nils v):l=[]/\v=.slice none 0 0:=by
 obtain⟨pa,n,c,e1,e2,e3,e4,e5⟩:=rep_sl r
 dsimp only[SlSh] at e5
 subst e5
 have:=e4 rfl
 have:n=0:=by omega
 subst this
 exact⟨List.eq_nil_of_length_eq_zero e2.symm,by rw[e1.val rfl,‹c=0›];rfl⟩
theorem ok_move{P:Program} {E:Env} (hE:EnvOk P E) {o:Oper} {m:Bool} {x:Operand} (ho:o.op=.move x\/o.op=.assign x):OpOk P E o m:=by
 intro w0 I nt U M st a w id h hd
 refine⟨false,fun ω _ p f hg hfr=>?_⟩
 have hg:Goes st ω (opd E x (look E.ty o.type) (moveV E id m o.type)) p f:=by rcases ho with ho | ho<;>simpa only[evOp,ho] using hg
 have hex:(execOp a.eval o).run P w=.ok (.value (a.eval x)) w:=by rcases ho with ho | ho<;>simp only[execOp,ho,Sem.run_pure]
 obtain⟨u,_,hu,hg,_⟩:=goes_opd hg
 obtain⟨ru,su⟩:=opd_rep hE h hu
 unfold moveV at hg
 split at hg
 ·rename_i e l
  split at hg
  ·rename_i he
   have he:=of_decide_eq_true he
   cases hg
   obtain⟨hl,hv⟩:=rep_nils ru
   obtain⟨j,hj,hjc,hjm⟩:=chk_sl (hE.ty _ _ he)
   have hid:¬ U id:=hfr id (Nat.le_refl _) (by show id<id+1;omega)
   subst hl
   refine StepOk.value hex ⟨M.setRow id (none,0,0),Mp.setRow_agree hid,?_⟩
   rw[hv]
   exact h.nilMs hd hid (fun k hk=>.inl hk) (.inr ⟨Nat.le_refl _,by show id<id+1;omega⟩) (memTup hjm).1
  ·cases hg
 ·have hp:=goes_retV hg
  subst hp
  exact op_ret h hd hex ru su
theorem strOf_get{s:ByteArray} {n:Nat} {y:Int} (h:(strOf s)[n]?=some y):∃ b:UInt8,s[n]?=some b/\(b.toNat:Int)=y:=by
 unfold strOf at h
 rw[List.getElem?_map,Option.map_eq_some_iff] at h
 obtain⟨b,h1,h2⟩:=h
 refine⟨b,?_,h2⟩
 rw[Array.getElem?_toList] at h1
 have hlt:=(Array.getElem?_eq_some_iff.1 h1).1
 have hs:n<s.size:=hlt
 rw[getElem?_pos s n hs]
 have:=(Array.getElem?_eq_some_iff.1 h1).2
 exact congrArg some this
theorem u8_in(b:UInt8):IntKind.u8.min<=(b.toNat:Int)/\(b.toNat:Int)<=IntKind.u8.max:=by
 have:=b.toNat_lt
 have h1:IntKind.u8.min=0:=by decide
 have h2:IntKind.u8.max=255:=by decide
 rw[h1,h2]
 omega
theorem arr_of{P:Program} {a b:Ty} {t et:TypeId} {len:Nat} (hchk:(chk P (.pr a b)).ty t=true) (hun:P.underlying t=some (.array len et)):(chk P (.pr a b)).ar len et=true:=by
 rcases chk_pr hchk with⟨l,hl,_⟩ | ⟨n',e',hl,hn⟩
 ·rw[hun] at hl;cases hl
 ·rw[hun] at hl;cases hl;exact hn
theorem arrL_len{e:Ty}:∀ (t:Ty) (x:t.D) {l:List e.D},arrL e t x=some l->l.length=arrLen t
 | .unit,x,l,h=>by simp only[arrL,Option.some.injEq] at h;subst h;rfl
 | .pr a b,x,l,h=>by
  simp only[arrL] at h
  split at h
  ·rename_i y r _ hr
   cases h
   simp [arrLen,arrL_len b x.2 hr]
  ·cases h
 | .int _,_,_,h=>by cases h
 | .bool,_,_,h=>by cases h
 | .str,_,_,h=>by cases h
 | .ptr,_,_,h=>by cases h
 | .sl _,_,_,h=>by cases h
 | .ms _,_,_,h=>by cases h
 | .tu _ _,_,_,h=>by cases h
 | .fn _ _,_,_,h=>by cases h
 | .rref _,_,_,h=>by cases h
 | .eref,_,_,h=>by cases h
 | .mh,_,_,h=>by cases h
 | .nx,_,_,h=>by cases h
theorem run_index_arr{P:Program} {t et:TypeId} {len:Nat} (hun:P.underlying t=some (.array len et)) {e:Ty} (hi:infoB P e et=true) {w:World} {cs:List Value} {n:Nat} (hl:cs.length=n*e.size)
  {k:IntKind} {j:Int} (h0:0<=j) (h1:j<n) (hn:n=len) {xv iv:Value} (ex:xv=.agg cs.toArray) (ei:iv=.int k j) :
  (Instr.index t xv iv).run P w=.ok (valOf e.agg ((cs.drop (j.toNat*e.size)).take e.size)) w:=by
 subst ex ei hn
 obtain⟨_,xi,d,hx,_,hs,_⟩:=infoB_spec hi
 have hfit:j.toNat*e.size+e.size<=cs.length:=by
  have:(j.toNat+1)*e.size<=n*e.size:=Nat.mul_le_mul_right _ (by omega)
  rw[Nat.succ_mul] at this
  omega
 have hpart:=run_part hi (w:=w) (cs:=cs) (off:=j.toNat*e.size) hfit
 simp only[Instr.index,asIntOf,Sem.run_bind,Sem.run_pure,Result.andThen_ok,run_underlying hun,Sem.run_ite,if_pos (And.intro h0 h1),run_sizeOf hx,hs,hpart]
theorem ok_index{P:Program} {E:Env} (hE:EnvOk P E) {o:Oper} {m:Bool} {t:TypeId} {x i:Operand} (ho:o.op=.index t x i):OpOk P E o m:=by
 intro w0 I nt U M st a w id h hd
 refine⟨false,fun ω _ p f hg hfr=>?_⟩
 simp only[evOp,ho] at hg
 obtain⟨u,_,hu,hg,_⟩:=goes_opd hg
 obtain⟨v,_,hv,hg,_⟩:=goes_opd hg
 obtain⟨ru,su⟩:=opd_rep hE h hu
 obtain⟨rv,sv⟩:=opd_rep hE h hv
 have hex:∀ r,(Instr.index t (a.eval x) (a.eval i)).run P w=.ok r w->(execOp a.eval o).run P w=.ok (.value r) w:=fun r e=>by
  simp only[execOp,ho,Sem.run_bind,e,Result.andThen_ok,Sem.run_pure]
 split at hg
 ·
  split at hg
  ·rename_i hty
   have hty:=of_decide_eq_true hty
   obtain⟨y,hy,hg⟩:=goes_eff hg
   have hp:=goes_retV hg
   subst hp
   obtain⟨q0,q1,q2⟩:=ati_some hy
   obtain⟨s,e1,e2,_⟩:=rep_str ru
   obtain⟨ei,_,_⟩:=rep_int rv
   dsimp only at e1 e2 ei
   rw[← e2] at q1
   obtain⟨b,k1,rfl⟩:=strOf_get q1
   refine op_ret h hd (hex (.int .u8 b.toNat) ?_) (rep_int_mk (u8_in b).1 (u8_in b).2) trivial
   rw[e1,ei]
   simp only[Instr.index,asIntOf,Sem.run_bind,Sem.run_pure,Result.andThen_ok,run_underlying (chk_str (hE.ty _ _ hty)),if_pos q0,k1]
  ·cases hg
 ·
  split at hg
  ·rename_i hty hpl
   simp only[Bool.and_eq_true] at hty
   have hτ:=of_decide_eq_true hty.1
   have hchk:=hE.ty _ _ hτ
   split at hg
   ·rename_i l hl
    obtain⟨z,hz,hg⟩:=goes_eff hg
    have hp:=goes_retV hg
    subst hp
    obtain⟨q0,q1,q2⟩:=ati_some hz
    obtain⟨len,et,hun⟩:=(hE.arr _ _ hτ).1 hty.2
    have har:=arr_of hchk hun
    obtain⟨hlen,hall⟩:=chk_arr _ _ _ har
    obtain⟨cs,e1,r⟩:=(repV_of rfl).1 ru
    obtain⟨ei,_,_⟩:=rep_int rv
    dsimp only at e1 ei r
    obtain⟨k1,k2⟩:=arrL_rep _ r hpl hl
    have hem:Ty.mem _=true:=part_mem _ (infoB_spec (chk_info hchk rfl)).1 (f:=0) rfl
    have hi:=chk_info (hall 0 _ rfl) (mem_std hem)
    obtain⟨_,xi,d,hx,_,hs,_⟩:=infoB_spec hi
    have hll:=arrL_len _ _ hl
    exact op_ret h hd (hex _ (run_index_arr hun hi k1 q0 q2 (hll.trans hlen.symm) e1 ei)) (rep_val (k2 _ _ q1 M) (memTup hem).1) trivial
   ·cases hg
  ·cases hg
 ·cases hg
end Go.VX
/- VX, part 18: what is built. -/
set_option linter.unusedVariables false
set_option linter.unusedSimpArgs false
namespace Go.VX
theorem foldl_set(off:Nat):∀ (us:List Value) (k:Nat) (cs:Array Value),off+k+us.length<=cs.size ->
  ((us.zipIdx k).foldl (fun cs (c,j)=>cs.setIfInBounds (off+j) c) cs).toList=splice cs.toList us (off+k)
 | [],k,cs,h=>by simp [splice]
 | u::us,k,cs,h=>by
  simp only[List.length_cons] at h
  rw[List.zipIdx_cons,List.foldl_cons,foldl_set off us (k+1) _ (by simp;omega)]
  simp only[Array.toList_setIfInBounds,splice]
  apply List.ext_getElem?
  intro i
  simp only[List.append_assoc,List.getElem?_append,List.length_take,List.length_set,List.getElem?_take,List.getElem?_drop,Array.length_toList,List.getElem?_set,List.length_cons,List.getElem?_cons]
  repeat' split
  all_goals first
   | rfl
   | omega
   | (congr 1;omega)
   | skip
theorem fill_foldl{off:Nat} {v:Value} {cs:Array Value} (h:off+v.cells.size<=cs.size) :
  (v.cells.zipIdx.foldl (fun cs (c,j)=>cs.setIfInBounds (off+j) c) cs)=(splice cs.toList v.cells.toList off).toArray:=by
 apply Array.toList_inj.1
 have:=foldl_set off v.cells.toList 0 cs (by simpa using h)
 rw[Nat.add_zero] at this
 rw[← this,← Array.foldl_toList,Array.toList_zipIdx]
theorem rep_cells{P:Program} {t:Ty} {w:World} {O:Own} {M:Mp} {x:t.D} {h:Sh} {v:Value} (ht:t.tup=false) (r:RepV P t w O M x h v) :
  ∃ cs:List Value,RepC P t w O M x h cs/\v.cells=cs.toArray/\v=valOf t.agg cs:=by
 have r:=(repV_of ht).1 r
 cases hagg:t.agg with
 | true=>rw[hagg] at r;obtain⟨cs,e,r⟩:=r;exact⟨cs,r,by rw[e];rfl,e⟩
 | false =>
  rw[hagg] at r
  refine⟨[v],r,?_,rfl⟩
  have:=r.one _ ht v (by simp)
  cases hv:v<;>rw[hv] at this<;>first | rfl | cases this
theorem setF_ty:∀ (t:Ty) (x:t.D) (h:Sh) (f:Nat) (u v:Vl),setF t x h f u=some v->v.ty=t->tyF t f=some u.ty
 | .pr a b,x,h,0,u,v,e,ht=>by
  simp only[setF,Option.some.injEq] at e
  subst e
  dsimp only at ht
  injection ht with h1 h2
  rw[tyF,h1]
 | .pr a b,x,h,f+1,u,v,e,ht=>by
  simp only[setF] at e
  split at e
  ·rename_i y hy
   cases e
   dsimp only at ht
   injection ht with h1 h2
   exact setF_ty b x.2 h.snd f u y hy h2
  ·cases e
 | .int _,_,_,f,_,_,e,_=>by cases f<;>cases e
 | .bool,_,_,f,_,_,e,_=>by cases f<;>cases e
 | .str,_,_,f,_,_,e,_=>by cases f<;>cases e
 | .ptr,_,_,f,_,_,e,_=>by cases f<;>cases e
 | .unit,_,_,f,_,_,e,_=>by cases f<;>cases e
 | .sl _,_,_,f,_,_,e,_=>by cases f<;>cases e
 | .ms _,_,_,f,_,_,e,_=>by cases f<;>cases e
 | .tu _ _,_,_,f,_,_,e,_=>by cases f<;>cases e
 | .fn _ _,_,_,f,_,_,e,_=>by cases f<;>cases e
 | .rref _,_,_,f,_,_,e,_=>by cases f<;>cases e
 | .eref,_,_,f,_,_,e,_=>by cases f<;>cases e
 | .mh,_,_,f,_,_,e,_=>by cases f<;>cases e
 | .nx,_,_,f,_,_,e,_=>by cases f<;>cases e
theorem setF_in{U:Nat->Prop}:∀ (t:Ty) (x:t.D) (h:Sh) (f:Nat) (u v:Vl),setF t x h f u=some v->ShIn U h->ShIn U u.sh->ShIn U v.sh
 | .pr a b,x,h,0,u,v,e,hh,hu=>by
  simp only[setF,Option.some.injEq] at e
  subst e
  exact⟨hu,hh.snd⟩
 | .pr a b,x,h,f+1,u,v,e,hh,hu=>by
  simp only[setF] at e
  split at e
  ·rename_i y hy
   cases e
   exact⟨hh.fst,setF_in b x.2 h.snd f u y hy hh.snd hu⟩
  ·cases e
 | .int _,_,_,f,_,_,e,_,_=>by cases f<;>cases e
 | .bool,_,_,f,_,_,e,_,_=>by cases f<;>cases e
 | .str,_,_,f,_,_,e,_,_=>by cases f<;>cases e
 | .ptr,_,_,f,_,_,e,_,_=>by cases f<;>cases e
 | .unit,_,_,f,_,_,e,_,_=>by cases f<;>cases e
 | .sl _,_,_,f,_,_,e,_,_=>by cases f<;>cases e
 | .ms _,_,_,f,_,_,e,_,_=>by cases f<;>cases e
 | .tu _ _,_,_,f,_,_,e,_,_=>by cases f<;>cases e
 | .fn _ _,_,_,f,_,_,e,_,_=>by cases f<;>cases e
 | .rref _,_,_,f,_,_,e,_,_=>by cases f<;>cases e
 | .eref,_,_,f,_,_,e,_,_=>by cases f<;>cases e
 | .mh,_,_,f,_,_,e,_,_=>by cases f<;>cases e
 | .nx,_,_,f,_,_,e,_,_=>by cases f<;>cases e
theorem setP_in{U:Nat->Prop}:∀ (p:List Nat) (v u v':Vl),setP v p u=some v'->ShIn U v.sh->ShIn U u.sh->ShIn U v'.sh
 | [],v,u,v',e,hv,hu=>by
  simp only[setP] at e
  split at e
  ·cases e;exact hu
  ·cases e
 | f::p,v,u,v',e,hv,hu=>by
  simp only[setP] at e
  split at e
  ·rename_i x hx
   split at e
   ·rename_i y hy
    exact setF_in _ _ _ _ _ _ e hv (setP_in p x u y hy (getF_in _ _ _ _ _ hx hv) hu)
   ·cases e
  ·cases e
def PartsOk(P:Program) (w:World) (O:Own) (M:Mp) (U:Nat->Prop):List (Nat×Vl)->List (Nat×Value)->Prop
 | [],[]=>True
 | (i,v)::vs,(j,x)::xs=>i=j/\RepV P v.ty w O M v.val v.sh x/\ShIn U v.sh/\PartsOk P w O M U vs xs
 | _,_=>False
theorem goes_opds{P:Program} {E:Env} (hE:EnvOk P E) {w0:World} {I:Own} {nt:Nat} {U:Nat->Prop} {M:Mp} {st:St} {a:Act} {w:World} (h:Rel P w0 I nt U M st a w) {ω:Bool} {hint:Nat->Option Ty} :
  ∀ (ps:List (Nat×Operand)) (k:List (Nat×Vl)->RM) (p:Patch) (f:List Loc),Goes st ω (opds E ps hint k) p f ->
   ∃ vs f',PartsOk P w (own st M) M U vs (ps.map fun(i,x)=>(i,a.eval x))/\Goes st ω (k vs) p f'/\(∀ l∈f',l∈f)
 | [],k,p,f,g=>⟨[],f,trivial,g,fun _ h=>h⟩
 | (i,x)::ps,k,p,f,g=>by
  simp only[opds] at g
  obtain⟨v,f1,hv,g,h1⟩:=goes_opd g
  obtain⟨rv,sv⟩:=opd_rep hE h hv
  obtain⟨vs,f2,h2,g,h3⟩:=goes_opds hE h ps _ p f1 g
  exact⟨(i,v)::vs,f2,⟨rfl,rv,sv,h2⟩,g,fun l hl=>h1 l (h3 l hl)⟩
theorem fill_ok{P:Program} {w:World} {O:Own} {M:Mp} {U:Nat->Prop} {place:Nat->Option (Nat×Nat)}:∀ (vs:List (Nat×Vl)) (xs:List (Nat×Value)) (acc fin:Vl) (cs:List Value),
  PartsOk P w O M U vs xs->acc.ty.tup=false->RepC P acc.ty w O M acc.val acc.sh cs->ShIn U acc.sh->buildF acc vs=some fin ->
  (∀ i n u,offF acc.ty i=some n->tyF acc.ty i=some u->place i=some (n,u.size)) ->
  ∃ cs':List Value,Instr.fill place cs.toArray xs=some cs'.toArray/\RepC P fin.ty w O M fin.val fin.sh cs'/\ShIn U fin.sh/\fin.ty=acc.ty
 | [],[],acc,fin,cs,_,ht,r,hs,e,hp=>by
  simp only[buildF,Option.some.injEq] at e
  subst e
  exact⟨cs,rfl,r,hs,rfl⟩
 | (i,v)::vs,(j,x)::xs,acc,fin,cs,⟨hij,rv,sv,hps⟩,ht,r,hs,e,hp=>by
  subst hij
  simp only[buildF] at e
  split at e
  ·rename_i acc' hacc
   split at e
   ·rename_i hty
    have hty:=of_decide_eq_true hty
    have hin:=setP_in _ _ _ _ hacc hs sv
    have hacc0:=hacc
    simp only[setP] at hacc
    split at hacc
    ·rename_i y hy
     split at hacc
     ·rename_i y' hy'
      split at hy'
      ·cases hy'
       obtain⟨n,g1,g2,g3,g4,g5⟩:=getF_rep _ r hy
       have g6:=setF_ty _ _ _ _ _ _ hacc hty
       rw[g2] at g6
       have g6:=Option.some.inj g6
       have tv:v.ty.tup=false:=by rw[← g6];exact g4
       obtain⟨us,u1,u2,u3⟩:=rep_cells tv rv
       obtain⟨k1,k2,k3,k4,k5⟩:=setF_rep _ r hacc u1 tv g2 (by rw[g6]) g1
       have hul:=u1.len tv
       obtain⟨cs',f1,f2,f3,f4⟩:=fill_ok vs xs acc' fin _ hps k4 k1 hin e (fun i n u h1 h2=>hp i n u (by rw[← hty];exact h1) (by rw[← hty];exact h2))
       refine⟨cs',?_,f2,f3,f4.trans hty⟩
       have hpl:=hp i n _ g1 g2
       unfold Instr.fill
       rw[hpl]
       dsimp only
       have c1:x.cells.size=y.ty.size:=by rw[u2,g6];simpa using hul
       have c2:n+x.cells.size<=cs.toArray.size:=by rw[u2];simpa using k5
       rw[if_neg (by simp only[c1,ne_eq,not_true_eq_false,decide_false,Bool.false_or,decide_eq_true_eq];omega),fill_foldl c2]
       rw[← f1,u2]
      ·cases hy'
     ·cases hacc
    ·cases hacc
   ·cases e
  ·cases e
 | [],_::_,_,_,_,h,_,_,_,_,_=>h.elim
 | _::_,[],_,_,_,h,_,_,_,_,_=>h.elim
theorem fs_places{P:Program}:∀ (t:Ty) (l:List Field) (off:Nat),(chk P t).fs l off=true->t.mem=true ->
  ∃ ps:List (Nat×Nat),l.mapM (fun f=>(P.info? f.type).map fun i=>(f.offset,i.size))=some ps/\∀ i n u,offF t i=some n->tyF t i=some u->ps[i]?=some (off+n,u.size)
 | .pr a b,[],off,h,_=>by simp [chk] at h
 | .pr a b,x::l,off,h,hm=>by
  simp only[chk,Bool.and_eq_true] at h
  simp only[Ty.mem,Bool.and_eq_true] at hm
  obtain⟨ps,p1,p2⟩:=fs_places b l (off+a.size) h.2 hm.2
  obtain⟨_,xi,d,hx,_,hs,_⟩:=infoB_spec (chk_info h.1.2 (mem_std hm.1))
  have ho:=Nat.eq_of_beq_eq_true h.1.1
  refine⟨(x.offset,xi.size)::ps,by simp [List.mapM_cons,hx,p1],fun i n u h1 h2=>?_⟩
  cases i with
  | zero =>
   simp only[offF,Option.some.injEq] at h1
   simp only[tyF,Option.some.injEq] at h2
   subst h1 h2
   simp [ho,hs]
  | succ i =>
   simp only[offF] at h1
   split at h1
   ·rename_i m hm'
    cases h1
    have:=p2 i m u hm' (by simpa only[tyF] using h2)
    simp only[List.getElem?_cons_succ,this]
    congr 2
    omega
   ·cases h1
 | .unit,l,off,h,_=>by
  simp only[chk,List.isEmpty_iff] at h
  subst h
  exact⟨[],rfl,fun i n u h1=>by cases i<;>cases h1⟩
 | .int _,_,_,h,_=>by cases h
 | .bool,_,_,h,_=>by cases h
 | .str,_,_,h,_=>by cases h
 | .ptr,_,_,h,_=>by cases h
 | .sl _,_,_,h,_=>by cases h
 | .ms _,_,_,h,_=>by cases h
 | .tu _ _,_,_,h,_=>by cases h
 | .fn _ _,_,_,h,_=>by cases h
 | .rref _,_,_,h,_=>by cases h
 | .eref,_,_,h,_=>by cases h
 | .mh,_,_,h,_=>by cases h
 | .nx,_,_,h,_=>by cases h
theorem ok_build{P:Program} {E:Env} (hE:EnvOk P E) {o:Oper} {m:Bool} {t:TypeId} {parts:Array (Nat×Operand)} (ho:o.op=.build t parts):OpOk P E o m:=by
 intro w0 I nt U M st a w id h hd
 refine⟨false,fun ω _ p f hg hfr=>?_⟩
 simp only[evOp,ho] at hg
 split at hg
 ·rename_i τ hτ
  have hchk:=hE.ty _ _ hτ
  split at hg
  ·rename_i hagg
   obtain⟨vs,_,hps,hg,_⟩:=goes_opds hE h _ _ _ _ hg
   split at hg
   ·rename_i v hv
    have hp:=goes_retV hg
    subst hp
    have hstd:τ.std=true:=by cases τ<;>first | rfl | cases hagg
    have hi:=chk_info hchk hstd
    obtain⟨hm,x,d,hx,hud,hsz,hag,hz⟩:=infoB_spec hi
    rw[hagg] at hz
    dsimp only at hz
    have hzr:=zero_rep P τ hm w (own st M) M
    have hpl:∃ place:Nat->Option (Nat×Nat),(∀ i n u,offF τ i=some n->tyF τ i=some u->place i=some (n,u.size)) /\
      ∀ ps,P.built t ps=Instr.fill place (zc τ).toArray ps:=by
     cases τ<;>first | (cases hagg;done) | skip
     ·
      simp only[chk,Bool.and_eq_true] at hchk
      have hc2:=hchk.2
      split at hc2
      ·rename_i fs hun
       have hfs:fs=#[]:=by
        have:fs.toList=[]:=by simpa using hc2
        exact Array.toList_inj.1 this
       subst hfs
       refine⟨((#[]:Array (Nat×Nat))[·]?),fun i n u h1=>(by cases i<;>cases h1),fun ps=>?_⟩
       unfold Program.built
       rw[hx,hun]
       dsimp only
       rw[hz]
       rfl
      ·cases hc2
     ·rename_i ta tb
      rcases chk_pr hchk with⟨l,hl,hfs⟩ | ⟨len,et,hun,har⟩
      ·obtain⟨ps,p1,p2⟩:=fs_places _ l.toList 0 hfs hm
       refine⟨(ps.toArray[·]?),fun i n u h1 h2=>by simpa using p2 i n u h1 h2,fun qs=>?_⟩
       unfold Program.built
       rw[hx,hl]
       dsimp only
       rw[hz,p1]
       rfl
      ·obtain⟨_,hall⟩:=chk_arr _ _ _ har
       have hmem:ta.mem=true:=part_mem _ hm (f:=0) rfl
       obtain⟨_,xi,_,hxe,_,hse,_⟩:=infoB_spec (chk_info (hall 0 ta rfl) (mem_std hmem))
       refine⟨fun i=>some (i*xi.size,xi.size),fun i n u h1 h2=>?_,fun qs=>?_⟩
       ·obtain⟨e1,e2⟩:=arr_off _ _ _ _ _ xi har hm hxe h1
        obtain⟨_,xi',_,hxe',_,hse',_⟩:=infoB_spec (chk_info (hall i u h2) (mem_std (part_mem _ hm h2)))
        rw[hxe] at hxe'
        cases hxe'
        rw[e1,hse']
       ·unfold Program.built
        rw[hx,hun]
        dsimp only
        rw[hz,hxe]
        rfl
    obtain⟨place,hpl1,hpl2⟩:=hpl
    obtain⟨cs',f1,f2,f3,f4⟩:=fill_ok vs _ ⟨τ,τ.zero,τ.zsh⟩ v (zc τ) hps (memTup hm).1 hzr (zsh_in U τ) hv hpl1
    have hrun:(execOp a.eval o).run P w=.ok (.value (.agg cs'.toArray)) w:=by
     have:=run_build (P:=P) w t (parts.map fun(i,x)=>(i,a.eval x)) cs'.toArray (by rw[hpl2,Array.toList_map];exact f1)
     simp only[execOp,ho,Sem.run_bind,this,Result.andThen_ok,Sem.run_pure]
    refine op_ret h hd hrun ?_ f3
    have hvt:v.ty.tup=false:=by rw[f4];exact(memTup hm).1
    refine(repV_of hvt).2 ?_
    rw[show v.ty.agg=true by rw[f4];exact hagg]
    exact⟨cs',rfl,f2⟩
   ·cases hg
  ·cases hg
 ·cases hg
end Go.VX
/- VX, part 19: new slices. -/
set_option linter.unusedVariables false
set_option linter.unusedSimpArgs false
namespace Go.VX
theorem zsh_plain:∀ t:Ty,t.zsh.plain=true
 | .pr a b=>by simp [Ty.zsh,Sh.plain,zsh_plain a,zsh_plain b]
 | .ptr | .sl _ | .int _ | .bool | .str | .unit | .fn _ _ | .ms _ | .tu _ _ | .rref _ | .eref | .mh | .nx=>rfl
theorem splice_chunk{cs us:List Value} {s n i j:Nat} (hl:cs.length=n*s) (hu:us.length=s) (hi:i<n) (hj:j<n) :
  ((splice cs us (i*s)).drop (j*s)).take s=if i=j then us else(cs.drop (j*s)).take s:=by
 have h1:(i+1)*s<=n*s:=Nat.mul_le_mul_right _ hi
 have h2:(j+1)*s<=n*s:=Nat.mul_le_mul_right _ hj
 rw[Nat.succ_mul] at h1 h2
 have h3:i<j->i*s+s<=j*s:=fun h=>by have:=Nat.mul_le_mul_right s (show i+1<=j from h);rwa [Nat.succ_mul] at this
 have h4:j<i->j*s+s<=i*s:=fun h=>by have:=Nat.mul_le_mul_right s (show j+1<=i from h);rwa [Nat.succ_mul] at this
 apply List.ext_getElem?
 intro k
 simp only[splice,List.append_assoc,List.getElem?_take,List.getElem?_drop,List.getElem?_append,List.length_take]
 by_cases hij:i=j
 ·subst hij
  simp only[if_true]
  by_cases hk:k<s
  ·rw[if_pos hk,if_neg (by omega),if_pos (by omega)]
   congr 1
   omega
  ·rw[if_neg hk,List.getElem?_eq_none (by omega)]
 ·simp only[if_neg hij,List.getElem?_take,List.getElem?_drop]
  by_cases hk:k<s
  ·rw[if_pos hk,if_pos hk]
   by_cases hlt:i<j
   ·have:=h3 hlt
    rw[if_neg (by omega),if_neg (by omega)]
    congr 1
    omega
   ·have:=h4 (by omega)
    rw[if_pos (by omega),if_pos (by omega)]
  ·rw[if_neg hk,if_neg hk]
theorem fillS_ok{e:Ty} {P:Program} {w:World} {O:Own} {M:Mp} {U:Nat->Prop} (he:e.tup=false) {n:Nat}:∀ (vs:List (Nat×Vl)) (xs:List (Nat×Value)) (lo:Nat) (cs:List Value),
  PartsOk P w O M U vs xs->ascOk e n vs lo=true->cs.length=n*e.size ->
  (∀ j,j<lo->look vs j=none) /\
  ∃ cs':List Value,Instr.fill (fun i=>some (i*e.size,e.size)) cs.toArray xs=some cs'.toArray/\cs'.length=n*e.size /\
   ∀ j,j<n->match look vs j with
    | some v=>∃ x:e.D,castTo e v=some x/\RepC P e w O M x v.sh ((cs'.drop (j*e.size)).take e.size)
    | none=>(cs'.drop (j*e.size)).take e.size=(cs.drop (j*e.size)).take e.size
 | [],[],lo,cs,_,_,hl=>⟨fun _ _=>rfl,cs,rfl,hl,fun j _=>rfl⟩
 | (i,v)::vs,(i',x)::xs,lo,cs,⟨hii,rv,sv,hps⟩,ha,hl=>by
  subst hii
  simp only[ascOk,Bool.and_eq_true] at ha
  obtain⟨⟨⟨a1,a2⟩,a3⟩,a4⟩:=ha
  have a1:=Nat.le_of_ble_eq_true a1
  have a2:i<n:=Nat.le_of_ble_eq_true a2
  have a3:=of_decide_eq_true a3
  obtain⟨tv,vv,shv⟩:=v
  dsimp only at a3
  subst a3
  obtain⟨us,u1,u2,_⟩:=rep_cells he rv
  dsimp only at u1
  have hul:=u1.len he
  have hfit:i*tv.size+x.cells.size<=cs.toArray.size:=by
   rw[u2]
   simp only[List.size_toArray,hul,hl]
   have:=Nat.mul_le_mul_right tv.size (show i+1<=n from a2)
   rwa [Nat.succ_mul] at this
  have hsl:(splice cs us (i*tv.size)).length=n*tv.size:=by
   rw[splice_length,hl]
   rw[u2] at hfit
   simpa using hfit
  obtain⟨k0,cs',k1,k2,k3⟩:=fillS_ok he vs xs (i+1) (splice cs us (i*tv.size)) hps a4 hsl
  refine⟨fun j hj=>?_,cs',?_,k2,fun j hj=>?_⟩
  ·rw[look_cons,if_neg (by omega)]
   exact k0 j (by omega)
  ·unfold Instr.fill
   dsimp only
   have c1:x.cells.size=tv.size:=by rw[u2];simpa using hul
   rw[if_neg (by simp only[c1,ne_eq,not_true_eq_false,decide_false,Bool.false_or,decide_eq_true_eq];omega),fill_foldl hfit,u2]
   exact k1
  ·have hk:=k3 j hj
   rw[look_cons]
   by_cases hij:i=j
   ·subst hij
    rw[if_pos rfl]
    rw[k0 i (by omega)] at hk
    dsimp only at hk ⊢
    refine⟨vv,by simp [castTo],?_⟩
    rw[hk,splice_chunk hl hul a2 a2,if_pos rfl]
    exact u1
   ·rw[if_neg hij]
    revert hk
    cases look vs j with
    | some y=>exact fun h=>h
    | none =>
     dsimp only
     rw[splice_chunk hl hul a2 hj,if_neg hij]
     exact fun h=>h
 | [],_::_,_,_,h,_,_=>h.elim
 | _::_,[],_,_,h,_,_=>h.elim
theorem listV_ok{e:Ty} {ps:List (Nat×Vl)}:∀ (n i:Nat) (l:List e.D),listV e n ps i=some l->l.length=n/\∀ j y,l[j]?=some y->match look ps (i+j) with
  | some v=>castV e v=some y
  | none=>y=e.zero
 | 0,i,l,h=>by simp only[listV,Option.some.injEq] at h;subst h;exact⟨rfl,fun j y hj=>by simp at hj⟩
 | n+1,i,l,h=>by
  simp only[listV] at h
  split at h
  ·rename_i r hr
   obtain⟨k1,k2⟩:=listV_ok n (i+1) r hr
   have hrest:∀ (z:e.D) j y,(z::r)[j+1]?=some y->match look ps (i+(j+1)) with
     | some v=>castV e v=some y
     | none=>y=e.zero:=fun z j y hj=>by
    have:=k2 j y (by simpa using hj)
    rwa [show i+1+j=i+(j+1) by omega] at this
   split at h
   ·rename_i v hv
    split at h
    ·rename_i x hx
     cases h
     refine⟨by simp [k1],fun j y hj=>?_⟩
     cases j with
     | zero=>simp only[List.getElem?_cons_zero,Option.some.injEq] at hj;subst hj;rw[Nat.add_zero,hv];exact hx
     | succ j=>exact hrest x j y hj
    ·cases h
   ·rename_i hv
    cases h
    refine⟨by simp [k1],fun j y hj=>?_⟩
    cases j with
    | zero=>simp only[List.getElem?_cons_zero,Option.some.injEq] at hj;subst hj;rw[Nat.add_zero,hv]
    | succ j=>exact hrest _ j y hj
  ·cases h
theorem made_length{z:Array Value} {n:Nat}:(madeCells z n).toList.length=n:=by rw[Array.length_toList,size_madeCells]
theorem made_chunk{z:List Value} {n i:Nat} (hi:i<n):(((madeCells z.toArray (n*z.length)).toList.drop (i*z.length)).take z.length)=z:=by
 apply List.ext_getElem?
 intro k
 rw[List.getElem?_take]
 by_cases hk:k<z.length
 ·have h1:i*z.length+k<n*z.length:=mul_cell hi hk
  have h2:(i*z.length+k) % z.length=k:=by rw[Nat.add_comm,Nat.add_mul_mod_self_right,Nat.mod_eq_of_lt hk]
  rw[if_pos hk,List.getElem?_drop]
  simp only[madeCells,Array.getElem?_toList,Array.getElem?_map,Array.getElem?_range,h1,if_true,Option.map_some,List.size_toArray,h2]
  rw[List.getElem?_eq_getElem hk]
  simp [hk]
 ·rw[if_neg hk,List.getElem?_eq_none (by omega)]
theorem run_newRow{P:Program} {t:TypeId} {cs:Array Value} {w:World}:(newRow t cs).run P w=.ok ⟨w.heap.size,0,none⟩ (w.alloc (.cells cs t)):=by
 simp only[newRow,Sem.run_bind,run_newObj,Result.andThen_ok,Sem.run_pure];rfl
theorem run_buildSlice{P:Program} {t et:TypeId} (hun:P.underlying t=some (.slice et)) {e:Ty} (hi:infoB P e et=true) {n:Nat} (hn:n*e.size<=16777216) {parts:Array (Nat×Value)} {cs':List Value}
  (hf:Instr.fill (fun i=>some (i*e.size,e.size)) (madeCells (zc e).toArray (n*e.size)) parts.toList=some cs'.toArray) {w:World} :
  (Instr.buildSlice t n parts).run P w=.ok (.slice (some ⟨w.heap.size,0,none⟩) n n) (w.alloc (.cells cs'.toArray et)):=by
 obtain⟨hm,x,d,hx,hd,hs,ha,hz⟩:=infoB_spec hi
 have hzr:∀ w:World,(zeroValue et).run P w=.ok (valOf e.agg (zc e)) w:=run_zero hi
 have hzc:(valOf e.agg (zc e)).cells=(zc e).toArray:=valOf_cells ((zero_rep P e hm w noOwn default).one e (memTup hm).1) (fun h=>by rw[zc_length e hm];exact size_one h)
 have hgt:¬ (n*e.size>2 ^ 24):=by omega
 by_cases h0:n*e.size=0
 ·have:madeCells (zc e).toArray (n*e.size)=(Array.range (n*e.size)).map ((#[]:Array Value)[· % (#[]:Array Value).size]!):=by rw[h0];simp [madeCells]
  rw[this] at hf
  simp only[Instr.buildSlice,Sem.run_bind,run_underlying hun,Result.andThen_ok,run_sizeOf hx,hs,Sem.run_ite,if_neg hgt,if_pos h0,Sem.run_pure,hf,run_newRow]
 ·have hf':Instr.fill (fun i=>some (i*e.size,e.size)) ((Array.range (n*e.size)).map ((zc e).toArray[· % (zc e).toArray.size]!)) parts.toList=some cs'.toArray:=hf
  simp only[Instr.buildSlice,Sem.run_bind,run_underlying hun,Result.andThen_ok,run_sizeOf hx,hs,Sem.run_ite,if_neg hgt,if_neg h0,hzr,hzc,Sem.run_pure,hf',run_newRow]
theorem ok_buildSlice{P:Program} {E:Env} (hE:EnvOk P E) {o:Oper} {m:Bool} {t:TypeId} {n:Nat} {parts:Array (Nat×Operand)} (ho:o.op=.buildSlice t n parts):OpOk P E o m:=by
 intro w0 I nt U M st a w id h hd
 refine⟨false,fun ω _ p f hg hfr=>?_⟩
 simp only[evOp,ho] at hg
 split at hg
 ·rename_i e hτ
  obtain⟨vs,_,hps,hg,_⟩:=goes_opds hE h _ _ _ _ hg
  obtain⟨et,hun,hec,hem⟩:=chk_sl (hE.ty _ _ hτ)
  have hi:=chk_info hec (mem_std hem)
  split at hg
  ·rename_i l hl
   split at hl
   ·rename_i hasc
    obtain⟨l1,l2⟩:=listV_ok n 0 l hl
    have hzl:(zc e).length=e.size:=zc_length e hem
    have hml:(madeCells (zc e).toArray (n*e.size)).toList.length=n*e.size:=made_length
    obtain⟨_,cs',c1,c2,c3⟩:=fillS_ok (memTup hem).1 vs _ 0 (madeCells (zc e).toArray (n*e.size)).toList hps hasc hml
    have hch:∀ i y,l[i]?=some y->RepC P e w (own st M) M y .o ((cs'.drop (i*e.size)).take e.size):=fun i y hy=>by
     have hin:i<n:=by rw[← l1];exact(List.getElem?_eq_some_iff.1 hy).1
     have h1:=l2 i y hy
     have h2:=c3 i hin
     rw[Nat.zero_add] at h1
     revert h1 h2
     cases look vs i with
     | some v =>
      dsimp only
      rintro h1 ⟨x,h2,h3⟩
      obtain⟨p1,p2⟩:=castV_eq h1
      rw[h2] at p2
      cases p2
      exact h3.forget _ p1 M
     | none =>
      dsimp only
      intro h1 h2
      rw[h1,h2]
      have:=made_chunk (z:=zc e) hin
      rw[hzl] at this
      rw[this]
      exact(zero_rep P e hem w _ M).forget _ (zsh_plain e) M
    have hrun:n*e.size<=16777216->(execOp a.eval o).run P w=.ok (.value (.slice (some ⟨w.heap.size,0,none⟩) n n)) (w.alloc (.cells cs'.toArray et)):=fun hn=>by
     have:=run_buildSlice (P:=P) (w:=w) hun hi hn (parts:=parts.map fun(i,x)=>(i,a.eval x)) (cs':=cs') (by rw[Array.toList_map];simpa using c1)
     simp only[execOp,ho,Sem.run_bind,this,Result.andThen_ok,Sem.run_pure]
    have hle:Nat.ble n 16777216=true->LeC l.length n:=fun hb=>by
     have:=Nat.le_of_ble_eq_true hb
     exact⟨by omega,by omega⟩
    split at hg
    ·rename_i hb _
     simp only[Bool.and_eq_true] at hb
     have hid:¬ U id:=hfr id (Nat.le_refl _) (by cases hg;show id<id+1;omega)
     cases hg
     have hR:=h.newTok (U':=fun k=>U k\/(id<=k/\k<id+1)) hd hid (fun k hk=>.inl hk) (.inr ⟨Nat.le_refl _,by show id<id+1;omega⟩) (l:=l) (Fresh.alloc (t:=et)) c2 (hle hb.2) hch (fr:=1)
     rw[l1] at hR
     exact StepOk.value (hrun (Nat.le_of_ble_eq_true hb.1)) ⟨_,Mp.setTok_agree hid,hR⟩
    ·rename_i hb _
     simp only[Bool.and_eq_true] at hb
     have hid:¬ U id:=hfr id (Nat.le_refl _) (by cases hg;show id<id+1;omega)
     cases hg
     have hR:=h.newMs (U':=fun k=>U k\/(id<=k/\k<id+1)) hd hid (fun k hk=>.inl hk) (.inr ⟨Nat.le_refl _,by show id<id+1;omega⟩) (memTup hem).1 (l:=l) (Fresh.alloc (t:=et)) c2 (hle hb.2) hch (fr:=1)
     rw[l1] at hR
     exact StepOk.value (hrun (Nat.le_of_ble_eq_true hb.1)) ⟨_,Mp.setRow_agree hid,hR⟩
    ·cases hg
   ·cases hl
  ·cases hg
 ·cases hg
theorem opd_same{st:St} {E:Env} {x y:Operand} {u v:Vl} {k k':IntKind} {n n':Int} {s s':Sh} (hx:Opd st E x none ⟨.int k,n,s⟩) (hy:Opd st E y none ⟨.int k',n',s'⟩) (h:sameOpd x y=true):n=n':=by
 unfold sameOpd at h
 split at h
 ·have:=Nat.eq_of_beq_eq_true h
  subst this
  unfold Opd at hx hy
  dsimp only at hx hy
  rw[hx] at hy
  cases hy
  rfl
 ·have:=of_decide_eq_true h
  subst this
  unfold Opd at hx hy
  simp only[ofConst] at hx hy
  split at hx
  ·split at hy
   ·cases hx;cases hy;rfl
   ·cases hy
  ·cases hx
 ·cases h
theorem ok_makeSlice{P:Program} {E:Env} (hE:EnvOk P E) {o:Oper} {m:Bool} {t:TypeId} {lx cx:Operand} (ho:o.op=.makeSlice t lx cx):OpOk P E o m:=by
 intro w0 I nt U M st a w id h hd
 refine⟨false,fun ω _ p f hg hfr=>?_⟩
 simp only[evOp,ho] at hg
 obtain⟨u,_,hu,hg,_⟩:=goes_opd hg
 obtain⟨v,_,hv,hg,_⟩:=goes_opd hg
 obtain⟨ru,su⟩:=opd_rep hE h hu
 obtain⟨rv,sv⟩:=opd_rep hE h hv
 split at hg
 ·rename_i e lim hτ hlim
  obtain⟨et,hun,hec,hem⟩:=chk_sl (hE.ty _ _ hτ)
  have hi:=chk_info hec (mem_std hem)
  obtain⟨e2,xi,l1,l2,l3,l4⟩:=hE.lim _ _ hlim
  rw[hun] at l1
  cases l1
  obtain⟨_,x,d,hx,hd',hs,ha,hz⟩:=infoB_spec hi
  rw[l2] at hx
  cases hx
  split at hg
  ·rename_i k1 n s1 k2 n' s2
   split at hg
   ·rename_i hsame
    obtain⟨l,hl,hg⟩:=goes_eff hg
    have hnn:=opd_same (u:=⟨.ptr,(),.o⟩) (v:=⟨.ptr,(),.o⟩) hu hv hsame
    obtain⟨eu,_,hu2⟩:=rep_int ru
    obtain⟨ev,_,_⟩:=rep_int rv
    dsimp only at eu ev hu2
    rw[← hnn] at ev
    unfold mkN at hl
    split at hl
    ·rename_i hn
     cases hl
     have hzl:(zc e).length=e.size:=zc_length e hem
     have hzc:(valOf e.agg (zc e)).cells=(zc e).toArray:=valOf_cells ((zero_rep P e hem w noOwn default).one e (memTup hem).1) (fun h=>by rw[hzl];exact size_one h)
     have hml:(madeCells (zc e).toArray (n.toNat*e.size)).toList.length=n.toNat*e.size:=made_length
     have h63:n<=9223372036854775807:=hu2
     have hby:(xi.bytes:Int)*n<=281474976710656:=by
      have h1:n.toNat*xi.bytes<=lim*xi.bytes:=Nat.mul_le_mul_right _ (by omega)
      have h2:((n.toNat*xi.bytes:Nat):Int)<=281474976710656:=by omega
      rw[Int.natCast_mul,Int.toNat_of_nonneg hn.1,Int.mul_comm] at h2
      exact h2
     have hz':xi.zero=some (valOf e.agg (zc e)):=by rw[hz];cases e.agg<;>rfl
     have hrun:(execOp a.eval o).run P w=.ok (.value (.slice (some ⟨w.heap.size,0,none⟩) n.toNat n.toNat)) (w.alloc (.cells (madeCells (zc e).toArray (n.toNat*e.size)).toList.toArray et)):=by
      have:=run_make (P:=P) w t et xi _ hun l2 hz' .i64 .i64 n n hn.1 (Int.le_refl _) hby h63
      rw[hzc,hs] at this
      simp only[execOp,ho,Sem.run_bind,eu,ev,this,Result.andThen_ok,Sem.run_pure,Array.toArray_toList]
     have hch:∀ i y,(List.replicate n.toNat e.zero)[i]?=some y->RepC P e w (own st M) M y .o (((madeCells (zc e).toArray (n.toNat*e.size)).toList.drop (i*e.size)).take e.size):=fun i y hy=>by
      rw[List.getElem?_replicate] at hy
      split at hy
      ·rename_i hin
       cases hy
       have:=made_chunk (z:=zc e) hin
       rw[hzl] at this
       rw[this]
       exact(zero_rep P e hem w _ M).forget _ (zsh_plain e) M
      ·cases hy
     have hle:LeC (List.replicate n.toNat e.zero).length n.toNat:=by rw[List.length_replicate];exact⟨Nat.le_refl _,Int.toNat_le.2 h63⟩
     split at hg
     ·have hid:¬ U id:=hfr id (Nat.le_refl _) (by cases hg;show id<id+1;omega)
      cases hg
      have hR:=h.newTok (U':=fun k=>U k\/(id<=k/\k<id+1)) hd hid (fun k hk=>.inl hk) (.inr ⟨Nat.le_refl _,by show id<id+1;omega⟩) (Fresh.alloc (t:=et)) hml hle hch (fr:=1)
      rw[List.length_replicate] at hR
      exact StepOk.value hrun ⟨_,Mp.setTok_agree hid,hR⟩
     ·have hid:¬ U id:=hfr id (Nat.le_refl _) (by cases hg;show id<id+1;omega)
      cases hg
      have hR:=h.newMs (U':=fun k=>U k\/(id<=k/\k<id+1)) hd hid (fun k hk=>.inl hk) (.inr ⟨Nat.le_refl _,by show id<id+1;omega⟩) (memTup hem).1 (Fresh.alloc (t:=et)) hml hle hch (fr:=1)
      rw[List.length_replicate] at hR
      exact StepOk.value hrun ⟨_,Mp.setRow_agree hid,hR⟩
    ·cases hl
   ·cases hg
  ·cases hg
 ·cases hg
end Go.VX

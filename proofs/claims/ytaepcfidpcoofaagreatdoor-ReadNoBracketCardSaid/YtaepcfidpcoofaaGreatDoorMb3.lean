/- Texts: Jr, Js, Jt, Jrd, Jrw, Jtab, Ju, Jw, Jv, Jy, Jvs, Jra, Xb, Xe1, Xe2a, Xe2b, Xe2c, Xe2d, Xe3, Jca, Jcb, Jcc, Jcd, Jce, Jcf, Jcg. -/
import Derived.Test.YtaepcfidpcoofaaGreatDoorMb2
import Derived.SizedLaws
import Derived.ProofKit
import Derived.Deep.Slices
import Derived.Lib.SmallJoins
import Derived.Carry
import Derived.Test.YtaepcfidpcoofaaGreatDoorProg
import Derived.KernelRfl
import Derived.Test.YtaepcfidpcoofaaGreatDoorMb1
import Derived.Laws.RangeAny
import Derived.Lib.Strings
import Derived.Lib.Slices
import Derived.Lib.Walk
import Derived.Lib.Bytealg
import Derived.Lib.Builder
import Derived.Lib.UnsafeStr
import Derived.OwnWalk
import Derived.Shelf.RegionOpenPlain
import Derived.WalkKit
import Derived.Laws.Externs
set_option linter.unusedVariables false
set_option linter.unusedSectionVars false
set_option linter.unusedSimpArgs false
set_option linter.unnecessarySimpa false
open Array renaming replicate->fg
open Bool renaming false->eb,true->i7
open ByteArray renaming size->m9
open Classical renaming propDecidable->ie
open Go renaming Addr->f9,Calls->mi,CallsIn->mf,Code->fw,Ending->aw,Field->ic,IntKind->ff,LeavesInM->il,Oper->o8,Operand->fh,Program->om,TypeId->ov,Value->oc,World->oh
open Go.Builtin renaming unsafeSliceData_->m7,unsafeString_->aq
open Go.Departure renaming mixedOrders->ar
open Go.Fence renaming wide->ox
open Go.IntKind renaming bits->az,signed->m8,wrap->ag
open Go.Proofs.Tryz renaming prog->oa
open Go.Result renaming andThen->ij
open Go.Utf8 renaming decode->fj
open Go.Value renaming int->mq
open Go.World renaming cell?->fu,setCell->fp
open Int renaming add->oe,ofNat->we
open List renaming findIdx?->ia,length->oq,map->fc,range->fv
open Nat renaming beq->od,ble->og,blt->oo,lor->o9,mul->o7,one_pos->aa
open Option renaming none->i6,some->iz
open SizeOf renaming sizeOf->ap
open UInt8 renaming ofNat->mm
noncomputable section
namespace Go.Jx
open Go Go.Sx Go.RowKit
universe u

def ob{R:Type}(x:Oq Res)(k:Res->Oq R):Oq R:=match x with|some r=>k r|none=>i6
theorem qp{R:Type}(k:Res->Oq R)(b:Bool)(x y:Oq Res):ob (cond b x y) k=cond b (ob x k) (ob y k):=by cases b<;>rfl
def slEl(tt:Nat->Oq TI)(ty:Nat):Oq TI:=match tt ty with
 | none=>i6
 | some ti=>match ti.und with
  | .slice e=>tt e
  | _=>i6
section
variable {R : Type}
def qte(tt:Nat->Oq TI)(S:IS)(ty:ov)(v:IV)(kk:Res->Oq R):Oq R:=match v with
 | .aptr id s i off=>match tt ty with
  | none=>i6
  | some ti=>match S.heap.get id with
   | some (.arr c l)=>cond (od s (csz c)) (match l[i]? with
    | none=>i6
    | some x=>ob (cond (qv ti.und) (match (cel c x)[off]? with|some v=>iz ⟨v,S,2 ^ id,0⟩|none=>i6)
     (cond (og (off+ti.sz) (csz c)) (iz ⟨.agg (((cel c x).drop off).take ti.sz),S,2 ^ id,0⟩) i6)) kk) i6
   | _=>i6
 | v=>ob (yk tt S ty v) kk
theorem zvz(tt:Nat->Oq TI)(S:IS)(ty:ov)(v:IV)(kk:Res->Oq R):qte tt S ty v kk=ob (yk tt S ty v) kk:=by
 cases v<;>try rfl
 rename_i b s i a;simp only[qte,yk];cases tt ty with
 | none=>rfl
 | some ti =>
  simp only;cases S.heap.get b with
  | none=>rfl
  | some o =>
   cases o<;>try rfl
   simp only[qp];rename_i c l;cases od s (csz c)
   ·rfl
   ·simp only[xa];cases l[i]? with
    | none=>rfl
    | some x=>simp only[qp];rfl
def qkb(tt:Nat->Oq TI)(S:IS)(ty:Nat)(n m:Int)(kk:Res->Oq R):Oq R:=match tt ty with
 | none=>i6
 | some ti=>match ti.und with
  | .slice e=>match tt e with
   | none=>i6
   | some te=>match tcOf tt 8 e with
    | none=>i6
    | some c=>match zC c te.zero.cells.toList with
     | some []=>cond (od te.sz (csz c)&&(oo 0 te.bytes&&(og (bsz c) te.bytes&&u8ok c e)))
      (cond (iltI n 0) i6 (cond (og (o7 m.toNat te.bytes) 140737488355328) (kk ⟨.arr S.next,S.new (.arr c (Go.Jx.S.rep n (zEl c))),0,0⟩) i6)) i6
     | _=>i6
  | _=>i6
theorem q8b(tt:Nat->Oq TI)(S:IS)(ty:Nat)(n m:Int)(kk:Res->Oq R):qkb tt S ty n m kk=ob (imkC tt S ty n m) kk:=by
 unfold qkb imkC;cases tt ty with
 | none=>rfl
 | some ti =>
  simp only;cases ti.und<;>try rfl
  rename_i e;simp only;cases tt e with
  | none=>rfl
  | some te =>
   simp only;cases tcOf tt 8 e with
   | none=>rfl
   | some c =>
    simp only;cases zC c te.zero.cells.toList with
    | none=>rfl
    | some l =>
     cases l with
     | cons _ _=>rfl
     | nil=>simp only[qp];rfl
def q9e(tt:Nat->Oq TI)(S:IS)(ty:Nat)(v:IV)(kk:Res->Oq R):Oq R:=match v with
 | .int _ n=>qkb tt S ty n n kk
 | _=>i6
def qrh(tt:Nat->Oq TI)(S:IS)(ty:Nat)(v u:IV)(kk:Res->Oq R):Oq R:=match v,u with
 | .int _ n,.int _ m=>cond (iltI m n) i6 (qkb tt S ty n m kk)
 | _,_=>i6
theorem zdf(tt:Nat->Oq TI)(S:IS)(ty:Nat)(v:IV)(kk:Res->Oq R):q9e tt S ty v kk=ob (qdf tt S ty v) kk:=by
 cases v<;>first|rfl|exact q8b ..
theorem zk0(tt:Nat->Oq TI)(S:IS)(ty:Nat)(v u:IV)(kk:Res->Oq R):qrh tt S ty v u kk=ob (qaa tt S ty v u) kk:=by
 cases v<;>cases u<;>try rfl
 simp only[qrh,qaa,qp,q8b];rfl
def qp4(tt:Nat->Oq TI)(S:IS)(ty:ov)(v u:IV)(kk:Res->Oq R):Oq R:=match v with
 | .aptr id s i off=>match tt ty with
  | none=>i6
  | some ti=>match S.heap.get id with
   | some (.arr c l)=>cond (od s (csz c)&&od (cellsOf u).length ti.sz&&og (off+ti.sz) (csz c)&&(cellsOf u).all one1)
    (match l[i]? with
    | none=>i6
    | some x=>match icl c S (putI (cel c x) off (cellsOf u)) with
     | some (x2,[],S2,w)=>cond (Nat.testBit w id) i6 (kk ⟨.tup [],S2.set id (.arr c (l.set i x2)),0,w ||| 2 ^ id⟩)
     | _=>i6) i6
   | _=>i6
 | v=>ob (nq tt S ty v u) kk
theorem zmg(tt:Nat->Oq TI)(S:IS)(ty:ov)(v u:IV)(kk:Res->Oq R):qp4 tt S ty v u kk=ob (nq tt S ty v u) kk:=by
 cases v<;>try rfl
 rename_i d s i b;simp only[qp4,nq];cases tt ty with
 | none=>rfl
 | some ti =>
  simp only;cases S.heap.get d with
  | none=>rfl
  | some o =>
   cases o<;>try rfl
   rename_i c l;simp only[qp];cases (od s (csz c)&&od (cellsOf u).length ti.sz&&og (b+ti.sz) (csz c)&&(cellsOf u).all one1)
   ·rfl
   ·simp only[xa];cases l[i]? with
    | none=>rfl
    | some x =>
     simp only;cases icl c S (putI (cel c x) b (cellsOf u)) with
     | none=>rfl
     | some q =>
      obtain⟨e,r,f,w⟩:=q;cases r with
      | nil =>
       simp only;rw[qp];rfl
      | cons a r=>rfl
def qmj(tt:Nat->Oq TI)(S:IS)(ty:Nat)(v u:IV)(kk:Res->Oq R):Oq R:=match v,u with
 | .lst c l,.int _ i=>match slEl tt ty with
  | none=>i6
  | some te=>cond (od te.sz (csz c)) (match jget l i with
   | none=>i6
   | some x=>kk ⟨.eptr c x 0,S,0,0⟩) i6
 | .arr id,.int _ i=>match slEl tt ty with
  | none=>i6
  | some te=>match S.heap.get id with
   | some (.arr c l)=>cond (od te.sz (csz c)) (match jget l i with
    | none=>i6
    | some x=>kk ⟨.aptr id (csz c) i.toNat 0,S,2 ^ id,0⟩) i6
   | some (.frz c l)=>cond (od te.sz (csz c)) (match jget l i with
    | none=>i6
    | some x=>kk ⟨.eptr c x 0,S,2 ^ id,0⟩) i6
   | _=>i6
 | v,u=>ob (cf tt S ty v u) kk
theorem zou(tt:Nat->Oq TI)(S:IS)(ty:Nat)(v u:IV)(kk:Res->Oq R):qmj tt S ty v u kk=ob (cf tt S ty v u) kk:=by
 cases v<;>try rfl
 ·cases u<;>try rfl
  rename_i c l k i;simp only[qmj,cf,slEl];cases tt ty with
  | none=>rfl
  | some ti =>
   simp only;cases ti.und<;>try rfl
   rename_i e;simp only;cases tt e with
   | none=>rfl
   | some te =>
    simp only[qp];cases od te.sz (csz c)
    ·rfl
    ·simp only[xa];cases jget l i<;>rfl
 ·cases u<;>try rfl
  rename_i a k i;simp only[qmj,cf,slEl];cases tt ty with
  | none=>rfl
  | some ti =>
   simp only;cases ti.und<;>try rfl
   rename_i e;simp only;cases tt e with
   | none=>rfl
   | some te =>
    simp only;cases S.heap.get a with
    | none=>rfl
    | some o =>
     cases o<;>try rfl
     all_goals
      rename_i c l;simp only[qp];cases od te.sz (csz c)
      ·rfl
      ·simp only[xa];cases jget l i<;>rfl
def qur(tt:Nat->Oq TI)(S:IS)(ty:Nat)(lo hi mx:Oq IV)(v:IV)(kk:Res->Oq R):Oq R:=match v with
 | .lst c l=>match slEl tt ty with
  | none=>i6
  | some te=>match bndI lo 0,bndI hi l.length with
   | some a,iz b=>match mx with
    | none=>cond (od te.sz (csz c)) (cond (lchk a b l.length l.length) (kk ⟨.lst c (lsub l a b),S,0,0⟩) i6) i6
    | some mx=>match hi,bndI (iz mx) 0 with
     | some _,iz m=>cond (od te.sz (csz c)) (cond (lchk a b m l.length) (kk ⟨.lst c (lsub l a b),S,0,0⟩) i6) i6
     | _,_=>i6
   | _,_=>i6
 | v=>ob (cn tt S ty lo hi mx v) kk
theorem ztd(tt:Nat->Oq TI)(S:IS)(ty:Nat)(lo hi mx:Oq IV)(v:IV)(kk:Res->Oq R):qur tt S ty lo hi mx v kk=ob (cn tt S ty lo hi mx v) kk:=by
 cases v<;>try rfl
 rename_i c l;simp only[qur,cn,slEl];cases tt ty with
 | none=>rfl
 | some ti =>
  simp only;cases ti.und<;>try rfl
  rename_i e;simp only;cases tt e with
  | none=>rfl
  | some te =>
   simp only;cases bndI lo 0<;>cases bndI hi l.length<;>try rfl
   simp only;cases mx with
   | none=>simp only[qp];rfl
   | some mx =>
    simp only;cases hi<;>cases bndI (iz mx) 0<;>try rfl
    simp only[qp];rfl
def qn2(tt:Nat->Oq TI)(S:IS)(ty:Nat)(lo hi mx:Oq IV)(s:Bq)(kk:Res->Oq R):Oq R :=
 match tt ty,mx with
 | some ti,i6=>match ti.und with
  | .string=>match bndI lo 0,bndI hi s.size with
   | some a,iz b=>cond (lchk a b s.size s.size) (kk ⟨.str (s.extract a.toNat b.toNat),S,0,0⟩) i6
   | _,_=>i6
  | _=>i6
 | _,_=>i6
theorem zjj(tt:Nat->Oq TI)(S:IS)(ty:Nat)(lo hi mx:Oq IV)(s:Bq)(kk:Res->Oq R):qn2 tt S ty lo hi mx s kk=ob (qal tt S ty lo hi mx s) kk:=by
 simp only[qn2,qal];cases tt ty<;>cases mx<;>try rfl
 rename_i a;simp only;cases a.und<;>try rfl
 simp only;cases bndI lo 0<;>cases bndI hi s.size<;>try rfl
 simp only[qp];rfl
def qp5(tt:Nat->Oq TI)(S:IS)(ty:Nat)(lo hi mx:Oq IV)(id:Nat)(wh:Bool)(kk:Res->Oq R):Oq R :=
 match tt ty,mx with
 | some ti,i6=>match ti.und with
  | .slice e=>match tt e with
   | none=>i6
   | some te=>match S.heap.get id with
    | some (.arr c l)=>match bndI lo 0,bndI hi l.length with
     | some a,iz b=>cond wh (cond (ieqI a 0&&ieqI b l.length) (kk ⟨.arr id,S,2 ^ id,0⟩) i6)
      (cond (od te.sz (csz c)&&lchk a b l.length l.length) (kk ⟨.lst c (lsub l a b),S.set id (.frz c l),0,2 ^ id⟩) i6)
     | _,_=>i6
    | some (.frz c l)=>match bndI lo 0,bndI hi l.length with
     | some a,iz b=>cond (od te.sz (csz c)&&lchk a b l.length l.length) (kk ⟨.lst c (lsub l a b),S,2 ^ id,0⟩) i6
     | _,_=>i6
    | _=>i6
  | _=>i6
 | _,_=>i6
theorem zzd(tt:Nat->Oq TI)(S:IS)(ty:Nat)(lo hi mx:Oq IV)(id:Nat)(wh:Bool)(kk:Res->Oq R):qp5 tt S ty lo hi mx id wh kk=ob (qao tt S ty lo hi mx id wh) kk:=by
 simp only[qp5,qao];cases tt ty<;>cases mx<;>try rfl
 rename_i a;simp only;cases a.und<;>try rfl
 rename_i e;simp only;cases tt e<;>try rfl
 simp only;cases S.heap.get id<;>try rfl
 rename_i o;cases o<;>try rfl
 all_goals simp only
 ·rename_i c l;cases bndI lo 0<;>cases bndI hi l.length<;>try rfl
  simp only[qp];rfl
 ·rename_i c l;cases bndI lo 0<;>cases bndI hi l.length<;>try rfl
  simp only[qp];rfl
def qqe(tt:Nat->Oq TI)(S:IS)(ty:Nat)(s:Bq)(i:Int)(kk:Res->Oq R):Oq R :=
 match tt ty with
 | some ti=>match ti.und with
  | .string=>match jget (za s) i with
   | some x=>kk ⟨.int .u8 x,S,0,0⟩
   | none=>i6
  | _=>i6
 | none=>i6
theorem zw4(tt:Nat->Oq TI)(S:IS)(ty:Nat)(s:Bq)(i:Int)(kk:Res->Oq R):qqe tt S ty s i kk=ob (qaw tt S ty s i) kk:=by
 simp only[qqe,qaw];cases tt ty<;>try rfl
 rename_i a;simp only;cases a.und<;>try rfl
 simp only;cases jget (za s) i<;>rfl
def qsd(S:IS)(v:IV)(b:Bool)(kk:Res->Oq R):Oq R:=match v,b with
 | .ptr id 0,i7=>match S.heap.get id with
  | some (.iter s p)=>cond (oo p s.size) (kk ⟨.tup [.bool i7,.int .i64 p,.int .i32 (fj s p).1],S.set id (.iter s (p+(fj s p).2)),0,2 ^ id⟩)
   (kk ⟨.tup [.bool eb],S,2 ^ id,0⟩)
  | _=>i6
 | _,_=>i6
theorem zea(S:IS)(v:IV)(b:Bool)(kk:Res->Oq R):qsd S v b kk=ob (nb S v b) kk:=by
 have e:∀a,nb S (.ptr a 0) i7=(match S.heap.get a with
  | some (.iter s p)=>cond (oo p s.size) (iz ⟨.tup [.bool i7,.int .i64 p,.int .i32 (fj s p).1],S.set a (.iter s (p+(fj s p).2)),0,2 ^ a⟩) (iz ⟨.tup [.bool eb],S,2 ^ a,0⟩)
  | _=>i6):=fun a=>rfl
 unfold qsd;split
 ·rename_i a;rw[e];cases S.heap.get a with
  | none=>rfl
  | some o =>
   cases o<;>first|rfl|(simp only[qp];rfl)
 ·rename_i h;unfold nb;split
  ·grind
  ·rfl
def qme(tt:Nat->Oq TI)(S:IS)(ty ty2 id:Nat)(y:IV)(kk:Res->Oq R):Oq R :=
 match S.heap.get id with
 | some (.arr c _)=>match nr tt ty ty2 c with
  | none=>i6
  | some b=>match tsrc S c y with
   | none=>i6
   | some (ly,S1,rd,wr)=>match S1.heap.get id with
    | some (.arr c2 lx)=>match q3 c c2 ly with
     | none=>i6
     | some ly2=>cond (og ((lx.length+ly2.length)*b) 140737488355328) (kk ⟨.arr S1.next,(S1.set id .dead).new (.arr c2 (lx++ly2)),rd,wr ||| 2 ^ id⟩) i6
    | _=>i6
 | _=>i6
theorem q1u(tt:Nat->Oq TI)(S:IS)(ty ty2 id:Nat)(y:IV)(kk:Res->Oq R):qme tt S ty ty2 id y kk=ob (cg tt S ty ty2 id y) kk:=by
 simp only[qme,cg];cases S.heap.get id with
 | none=>rfl
 | some o =>
  cases o<;>try rfl
  rename_i c l;simp only;cases nr tt ty ty2 c with
  | none=>rfl
  | some b =>
   simp only;cases tsrc S c y with
   | none=>rfl
   | some q =>
    obtain⟨a,e,f,wr⟩:=q;simp only;cases e.heap.get id with
    | none=>rfl
    | some o =>
     cases o<;>try rfl
     rename_i d g;simp only;cases q3 c d a with
     | none=>rfl
     | some ly2=>simp only[qp];rfl
def n8(tt:Nat->Oq TI)(S:IS)(ty ty2:Nat)(c:TC)(l:Lz (El c))(rd:Nat)(kk:Res->Oq R):Oq R :=
 match nr tt ty ty2 c with
 | none=>i6
 | some b=>cond (og ((0+l.length)*b) 140737488355328) (kk ⟨.arr (S.next+1),((S.new (.arr c [])).set S.next .dead).new (.arr c l),rd,0⟩) i6
theorem q6v(tt:Nat->Oq TI)(S:IS)(ty ty2:Nat)(c:TC)(l:Lz (El c))(rd:Nat)(kk:Res->Oq R):n8 tt S ty ty2 c l rd kk=ob (vk tt S ty ty2 c l rd) kk:=by
 simp only[n8,vk];cases nr tt ty ty2 c with
 | none=>rfl
 | some b=>simp only[qp];rfl
def qkk(tt:Nat->Oq TI)(S:IS)(ty ty2:Nat)(c:TC)(x y:IV)(kk:Res->Oq R):Oq R :=
 match coeV S c x with
 | some (.arr id,S1,w)=>qme tt S1 ty ty2 id y fun r=>kk ⟨r.v,r.S,r.rd,w ||| r.wr % 2 ^ S.next⟩
 | _=>i6
theorem zq1(tt:Nat->Oq TI)(S:IS)(ty ty2:Nat)(c:TC)(x y:IV)(kk:Res->Oq R):qkk tt S ty ty2 c x y kk=ob (ng tt S ty ty2 c x y) kk:=by
 unfold qkk ng;cases coeV S c x with
 | none=>rfl
 | some q =>
  obtain⟨v,a,w⟩:=q;cases v<;>try rfl
  simp only[q1u];cases cg tt a ty ty2 _ y<;>rfl
def qhg(tt:Nat->Oq TI)(S:IS)(ty ty2:Nat)(x y:IV)(kk:Res->Oq R):Oq R :=
 match x with
 | .arr id=>qme tt S ty ty2 id y kk
 | x=>match y with
  | .lst c l=>cond (empS c x) (n8 tt S ty ty2 c l 0 kk) (qkk tt S ty ty2 c x (.lst c l) kk)
  | .arr id=>match S.heap.get id with
   | some (.arr c l)=>cond (empS c x) (n8 tt S ty ty2 c l (2 ^ id) kk) i6
   | some (.frz c l)=>cond (empS c x) (n8 tt S ty ty2 c l (2 ^ id) kk) i6
   | _=>i6
  | y=>ob (qc9 tt S ty ty2 x y) kk
theorem zfi(tt:Nat->Oq TI)(S:IS)(ty ty2:Nat)(x y:IV)(kk:Res->Oq R):qhg tt S ty ty2 x y kk=ob (iapp tt S ty ty2 x y) kk:=by
 have d:∀(z:Oq IObj) (b:TC->Bool) (a:Nat),(match z with
   | some (.arr c l)=>cond (b c) (n8 tt S ty ty2 c l (2 ^ a) kk) i6
   | some (.frz c l)=>cond (b c) (n8 tt S ty ty2 c l (2 ^ a) kk) i6
   | _=>i6)=ob (match z with
   | some (.arr c l)=>cond (b c) (vk tt S ty ty2 c l (2 ^ a)) i6
   | some (.frz c l)=>cond (b c) (vk tt S ty ty2 c l (2 ^ a)) i6
   | _=>i6) kk:=fun z b a=>by
  cases z with
  | none=>rfl
  | some o =>
   cases o<;>try rfl
   all_goals (simp only[qp,q6v];rfl)
 have e:∀(b:Bool) (c:TC) (l:Lz (El c)) (x:IV),cond b (n8 tt S ty ty2 c l 0 kk) (qkk tt S ty ty2 c x (.lst c l) kk)=ob (cond b (vk tt S ty ty2 c l 0) (ng tt S ty ty2 c x (.lst c l))) kk:=fun b c l x=>by simp only[qp,q6v,zq1]
 cases x<;>first|exact q1u _ _ _ _ _ _ _|(cases y<;>first|rfl|(simp only[qhg,iapp];exact e _ _ _ _)|(simp only[qhg,iapp];exact d _ (fun c=>empS c _) _))
def qg5(P:om)(tt:Nat->Oq TI)(nt:Nat)(fr:PT IV)(S:IS)(o:o8)(op:BinOp)(T:ov)(ti:TI)(v u:IV)(kk:Res->Oq R):Oq R:=match v,u with
 | .str a,.str b=>match op with
  | .add=>cond (oo (a.size+b.size) 9223372036854775808) (kk ⟨.str (a++b),S,0,0⟩) i6
  | op=>ob (vr P tt nt fr S o op T ti (.str a) (.str b)) kk
 | .int k a,.int k' b=>match op with
  | .shl=>cond (iltI b 0) i6 (kk ⟨.int k (ishl k a b),S,0,0⟩)
  | .shr=>cond (iltI b 0) i6 (kk ⟨.int k (a.fdiv (2 ^ (min b.toNat k.bits))),S,0,0⟩)
  | .quo=>cond (decide (k=k')) (cond (ieqI b 0) i6 (kk ⟨.int k (k.wrap (a.tdiv b)),S,0,0⟩)) (ob (qt P nt fr S o) kk)
  | .rem=>cond (decide (k=k')) (cond (ieqI b 0) i6 (kk ⟨.int k (a.tmod b),S,0,0⟩)) (ob (qt P nt fr S o) kk)
  | op=>ob (vr P tt nt fr S o op T ti (.int k a) (.int k' b)) kk
 | .lst _ l,.nilsl=>cond (isSl ti.und) (match l with
  | []=>i6
  | _::_=>match op with
   | .eql=>kk ⟨.bool eb,S,0,0⟩
   | .neq=>kk ⟨.bool i7,S,0,0⟩
   | _=>i6) i6
 | v,u=>ob (vr P tt nt fr S o op T ti v u) kk
theorem zf3(P:om)(tt:Nat->Oq TI)(nt:Nat)(fr:PT IV)(S:IS)(o:o8)(op:BinOp)(T:ov)(ti:TI)(v u:IV)(kk:Res->Oq R):qg5 P tt nt fr S o op T ti v u kk=ob (vr P tt nt fr S o op T ti v u) kk:=by
 cases v<;>cases u<;>try rfl
 ·cases op<;>try rfl
  all_goals
   rename_i k a d b;simp only[qg5,vr,qiq,ibin];first
   | (cases iltI b 0<;>rfl)
   | (cases decide (k=d) with
    | false=>rfl
    | true =>
     simp only[xa];cases ieqI b 0<;>rfl)
 ·cases op<;>try rfl
  simp only[qg5,vr,qp];rfl
 ·simp only[qg5,vr,qp];rename_i c l;cases l<;>cases op<;>rfl
def exfK(s:Sm)(vs:Lz IV)(S:IS)(kk:Res->Oq R):Oq R :=
 match uh s.pts S vs with
 | none=>i6
 | some (x,S1,w)=>match s.f x with
  | none=>i6
  | some y=>cond s.flat (kk ⟨tupI (resV s.rts S.next y),addO (resO s.rts y) S,w,0⟩) (kk ⟨tupI (resV s.rts S1.next y),addO (resO s.rts y) S1,0,w⟩)
theorem zh9(s:Sm)(vs:Lz IV)(S:IS)(kk:Res->Oq R):exfK s vs S kk=ob (exf s vs S) kk:=by
 simp only[exfK,exf];cases uh s.pts S vs with
 | none=>rfl
 | some q =>
  obtain⟨x,a,w⟩:=q;simp only;cases s.f x with
  | none=>rfl
  | some y=>simp only[qp];rfl
def quj(tt:Nat->Oq TI)(S:IS)(ty:Nat)(v:IV)(kk:Res->Oq R):Oq R:=match v with
 | .map id=>match tt ty with
  | some ti=>match ti.und with
   | .map _ _=>match S.heap.get id with
    | some (.tmap _ _ es)=>cond (oo es.length 9223372036854775808) (kk ⟨.int .i64 es.length,S,2 ^ id,0⟩) i6
    | _=>ob (ilen tt S ty (.map id)) kk
   | _=>i6
  | none=>i6
 | v=>ob (ilen tt S ty v) kk
theorem zoz(tt:Nat->Oq TI)(S:IS)(ty:Nat)(v:IV)(kk:Res->Oq R):quj tt S ty v kk=ob (ilen tt S ty v) kk:=by
 cases v<;>try rfl
 rename_i c;simp only[quj];cases a:tt ty with
 | none=>simp only[ilen,a];rfl
 | some ti =>
  simp only;cases b:ti.und<;>try (simp only[ilen,a,b];rfl)
  simp only;cases d:S.heap.get c with
  | none=>rfl
  | some o =>
   cases o<;>try rfl
   simp only[ilen,a,b,d,qp];rfl
def qkr(k:IV)(kk:Oq IV->Oq R):Lz (IV × IV)->Oq R
 | []=>kk i6
 | e::es=>match yf k e.1 with
  | some b=>cond b (kk (iz e.2)) (qkr k kk es)
  | none=>i6
theorem qxb(k:IV)(kk:Oq IV->Oq R):∀es:Lz (IV × IV),qkr k kk es=match uj k es with
  | some x=>kk x
  | none=>i6
 | []=>rfl
 | e::es=>by
  simp only[qkr,uj];cases yf k e.1 with
  | none=>rfl
  | some b=>cases b with
   | true=>rfl
   | false=>exact qxb k kk es
def qsu(tt:Nat->Oq TI)(S:IS)(ty:Nat)(x k:IV)(ok:Bool)(kk:Res->Oq R):Oq R:=match x with
 | .map id=>match S.heap.get id with
  | some (.map es)=>match tt ty with
   | some ti=>match ti.und with
    | .map K V=>match tt K,tt V with
     | some tk,iz tv=>cond (jw tk.und k) (qkr k (fun r=>match r with
      | some v=>kk ⟨cond ok (.tup [v,.bool i7]) v,S,2 ^ id,0⟩
      | none=>match ofV tv.zero with
       | some z=>kk ⟨cond ok (.tup [z,.bool eb]) z,S,2 ^ id,0⟩
       | none=>i6) es) i6
     | _,_=>i6
    | _=>i6
   | none=>i6
  | _=>ob (cr tt S ty (.map id) k ok) kk
 | x=>ob (cr tt S ty x k ok) kk
theorem zy0(tt:Nat->Oq TI)(S:IS)(ty:Nat)(x k:IV)(ok:Bool)(kk:Res->Oq R):qsu tt S ty x k ok kk=ob (cr tt S ty x k ok) kk:=by
 cases x<;>try rfl
 rename_i b;simp only[qsu];cases c:S.heap.get b with
 | none=>rfl
 | some o =>
  cases o<;>try rfl
  simp only[cr];cases tt ty with
  | none=>rfl
  | some ti =>
   simp only;cases ti.und<;>try rfl
   rename_i K V;simp only;cases tt K<;>try rfl
   cases tt V<;>try rfl
   simp only[qp,c,qxb];rename_i d a tv;cases jw a.und k
   ·rfl
   ·simp only[xa];cases uj k d with
    | none=>rfl
    | some r =>
     cases r with
     | some v=>rfl
     | none=>simp only;cases ofV tv.zero<;>rfl
end
end Go.Jx
end

noncomputable section
namespace Go.Jx
open Go Go.Sx Go.RowKit
universe u

def bd{α R:Type}(x:Oq α)(k:α->Oq R):Oq R:=match x with|some a=>k a|none=>i6
theorem qm4{α R:Type}(k:α->Oq R)(b:Bool)(x y:Oq α):bd (cond b x y) k=cond b (bd x k) (bd y k):=by cases b<;>rfl
theorem cj{α R:Type}(x:Oq α)(f:α->Oq Res)(k:Res->Oq R):ob (oget x f) k=bd x fun a=>ob (f a) k:=by cases x<;>rfl
section
variable {R : Type}
def iopK(P:om)(tt:Nat->Oq TI)(nt:Nat)(fr:PT IV)(S:IS)(o:o8)(kk:Res->Oq R):Oq R :=
 match o.op with
 | .load T x=>bd (evo nt fr x) fun v=>qte tt S T v kk
 | .store T x y=>bd (evo nt fr x) fun v=>bd (evo nt fr y) fun u=>qp4 tt S T v u kk
 | .binOp op T x y _=>bd (evo nt fr x) fun v=>bd (evo nt fr y) fun u=>match tt T with
  | some ti=>qg5 P tt nt fr S o op T ti v u kk
  | none=>i6
 | .slice T x lo hi mx=>bd (evo nt fr x) fun v=>match v with
  | .lst c l=>bd (evM nt fr lo) fun lo=>bd (evM nt fr hi) fun hi=>bd (evM nt fr mx) fun mx=>qur tt S T lo hi mx (.lst c l) kk
  | .str s=>bd (evM nt fr lo) fun lo=>bd (evM nt fr hi) fun hi=>bd (evM nt fr mx) fun mx=>qn2 tt S T lo hi mx s kk
  | .arr id=>bd (evM nt fr lo) fun lo=>bd (evM nt fr hi) fun hi=>bd (evM nt fr mx) fun mx=>qp5 tt S T lo hi mx id (q24 o.pos) kk
  | _=>ob (iop P tt nt fr S o) kk
 | .indexAddr T x y=>bd (evo nt fr x) fun v=>bd (evo nt fr y) fun u=>qmj tt S T v u kk
 | .makeSlice T x y=>bd (evo nt fr x) fun v=>cond (qlq x y) (q9e tt S T v kk) (bd (evo nt fr y) fun u=>qrh tt S T v u kk)
 | .next x b=>bd (evo nt fr x) fun v=>qsd S v b kk
 | .index T x y=>bd (evo nt fr x) fun v=>bd (evo nt fr y) fun u=>match v,u with
  | .str s,.int _ i=>qqe tt S T s i kk
  | _,_=>ob (iop P tt nt fr S o) kk
 | .lookup T x y ok=>bd (evo nt fr x) fun v=>bd (evo nt fr y) fun u=>match v with
  | .map id=>qsu tt S T (.map id) u ok kk
  | _=>ob (iop P tt nt fr S o) kk
 | .call ⟨.builtin .append,args,ts⟩=>match args.toList,ts.toList with
  | [x,y],[t1,t2]=>bd (evo nt fr x) fun v=>bd (evo nt fr y) fun u=>qhg tt S t1 t2 v u kk
  | _,_=>i6
 | .call ⟨.builtin .len,args,ts⟩=>match args.toList,ts.toList with
  | [x],[t1]=>bd (evo nt fr x) fun v=>match v with
   | .map id=>quj tt S t1 (.map id) kk
   | _=>ob (iop P tt nt fr S o) kk
  | _,_=>i6
 | _=>ob (iop P tt nt fr S o) kk
theorem q3y(P:om)(tt:Nat->Oq TI)(nt:Nat)(fr:PT IV)(S:IS)(o:o8)(kk:Res->Oq R):iopK P tt nt fr S o kk=ob (iop P tt nt fr S o) kk:=by
 obtain⟨j,h,l,i,k,g⟩:=o;cases h<;>try rfl
 case load T x=>simp only[iopK,iop,cj,zvz]
 case store T x y=>simp only[iopK,iop,cj,zmg]
 case binOp h T x y t2 =>
  simp only[iopK,iop,cj];cases evo nt fr x<;>try rfl
  cases evo nt fr y<;>try rfl
  simp only[bd];cases tt T<;>first|rfl|exact zf3 ..
 case slice T x lo hi mx =>
  simp only[iopK];cases a:evo nt fr x with
  | none=>simp only[iop,a];rfl
  | some v =>
   simp only[bd];cases v<;>try rfl
   ·simp only[iop,a,oget];cases evM nt fr lo<;>try rfl
    cases evM nt fr hi<;>try rfl
    cases evM nt fr mx<;>try rfl
    exact zjj ..
   ·simp only[iop,a,oget];cases evM nt fr lo<;>try rfl
    cases evM nt fr hi<;>try rfl
    cases evM nt fr mx<;>try rfl
    exact ztd ..
   ·simp only[iop,a,oget];cases evM nt fr lo<;>try rfl
    cases evM nt fr hi<;>try rfl
    cases evM nt fr mx<;>try rfl
    exact zzd ..
 case indexAddr T x y=>simp only[iopK,iop,cj,zou]
 case makeSlice T x y=>simp only[iopK,iop,cj,qp,zdf,zk0]
 case next x b=>simp only[iopK,iop,cj,zea]
 case lookup T x y ok =>
  simp only[iopK];cases a:evo nt fr x with
  | none=>simp only[iop,a];rfl
  | some v =>
   simp only[bd];cases d:evo nt fr y with
   | none=>simp only[iop,a,d,oget];rfl
   | some u =>
    simp only;cases v<;>try rfl
    simp only[iop,a,d,oget];exact zy0 ..
 case index T x y =>
  simp only[iopK];cases a:evo nt fr x with
  | none=>simp only[iop,a];rfl
  | some v =>
   simp only[bd];cases d:evo nt fr y with
   | none=>simp only[iop,a,d,oget];rfl
   | some u =>
    simp only;cases v<;>cases u<;>try rfl
    simp only[iop,a,d,oget];exact zw4 ..
 case call c =>
  obtain⟨e,args,f⟩:=c;cases e<;>try rfl
  rename_i b;cases b<;>try rfl
  case append =>
   simp only[iopK,iop];generalize args.toList=la;generalize f.toList=lt;cases la with
   | nil=>rfl
   | cons x la=>cases la with
    | nil=>rfl
    | cons y la=>cases la with
     | cons z la=>rfl
     | nil=>cases lt with
      | nil=>rfl
      | cons t1 lt=>cases lt with
       | nil=>rfl
       | cons t2 lt=>cases lt with
        | cons t3 lt=>rfl
        | nil=>simp only[cj,zfi]
  case len =>
   simp only[iopK,iop];generalize args.toList=la;generalize f.toList=lt;cases la with
   | nil=>rfl
   | cons x la=>cases la with
    | cons y la=>rfl
    | nil=>cases lt with
     | nil=>rfl
     | cons t1 lt=>cases lt with
      | cons t2 lt=>rfl
      | nil =>
       simp only;cases a:evo nt fr x with
       | none=>rfl
       | some v =>
        simp only[bd,oget];cases v<;>try rfl
        exact zoz ..
abbrev ClK(R:Type):=Tgt->Lz IV->IS->(Res->Oq R)->Oq R
def qas(P:om)(tt:Nat->Oq TI)(nt:Nat)(cl:ClK R)(fr:PT IV)(S:IS)(o:o8)(kk:Res->Oq R):Oq R :=
 match o.op with
 | .call ⟨.value x,args,_⟩=>bd (evo nt fr x) fun v=>bd (evL nt fr args.toList) fun vs=>match v with
  | .fn f caps=>cl (.fn f) (vs++caps) S kk
  | .bfn f bs=>cl (.fn f) (bs++vs) S kk
  | .yield id=>cl (.yield id) vs S kk
  | _=>i6
 | .panic x=>bd (evo nt fr x) fun v=>match v with
  | .iface t u=>kk ⟨.pan (.iface t u),S,0,0⟩
  | _=>i6
 | _=>iopK P tt nt fr S o kk
def ClEq(cl:Cl)(clK:ClK R):Prop:=∀tgt vs S kk,clK tgt vs S kk=ob (cl tgt vs S) kk
variable {P : om} {tt : Nat -> Oq TI} {nt : Nat} {cl : Cl} {clK : ClK R}
theorem zak(h:ClEq cl clK)(fr:PT IV)(S:IS)(o:o8)(kk:Res->Oq R):qas P tt nt clK fr S o kk=ob (q0 P tt nt cl fr S o) kk:=by
 obtain⟨e,d,j,b,f,g⟩:=o;cases d
 case call c =>
  obtain⟨a,args,k⟩:=c;cases a
  case value x =>
   simp only[qas,q0,cj];cases evo nt fr x<;>try rfl
   rename_i v;cases evL nt fr args.toList<;>try rfl
   rename_i i;cases v<;>try rfl
   ·exact h ..
   ·exact h ..
   ·exact h ..
  all_goals (simp only[qas,q0];exact q3y ..)
 case panic x =>
  simp only[qas,q0,cj];cases evo nt fr x<;>try rfl
  rename_i v;cases v<;>rfl
 all_goals (simp only[qas,q0];exact q3y ..)
theorem PT.set_same{α:Type u}{x:α}:∀{t:PT α} {n:Nat},t.get n=iz x->t.set x n=t
 | .leaf,n,h=>by cases h
 | .node v l r,n,h=>by
  unfold PT.get at h;unfold PT.set;cases h0:od n 0 with
  | true=>rw[h0,xa] at h;subst h;rfl
  | false =>
   rw[h0,xe] at h;simp only[xe];cases h1:od (n % 2) 1 with
   | true=>rw[h1,xa] at h;simp only[xa];rw[PT.set_same h]
   | false=>rw[h1,xe] at h;simp only[xe];rw[PT.set_same h]
theorem zp5{fr:PT IV}{t:Nat}{v:IV}(h:slot fr t=v)(hv:v≠.unk):fr.set v t=fr:=by
 unfold slot at h;cases a:fr.get t with
 | none=>rw[a] at h;exact absurd h.symm hv
 | some x=>rw[a] at h;subst h;exact PT.set_same a
def guK(ops:Lz o8)(nt:Nat)(fr:PT IV)(g:Oq (Nat × Bool))(yes no:PT IV->Oq R):Oq R :=
 match g with
 | none=>yes fr
 | some (j,want)=>match jv ops j with
  | none=>no fr
  | some t=>match slot fr t with
   | .bool b=>cond (oo t nt) (cond b (cond want yes no (fr.set (.bool i7) t)) (cond want no yes (fr.set (.bool eb) t))) (no fr)
   | v=>cond (wd v) (no fr) i6
theorem qxd(ops:Lz o8)(nt:Nat)(fr:PT IV)(g:Oq (Nat × Bool))(yes no:PT IV->Oq R):guK ops nt fr g yes no=cond (gOK ops fr g) (cond (jn ops nt fr g) (yes fr) (no fr)) i6:=by
 unfold guK gOK jn qhn;cases g with
 | none=>rfl
 | some q =>
  obtain⟨j,a⟩:=q;simp only;cases jv ops j with
  | none=>rfl
  | some t =>
   simp only;cases c:slot fr t
   case bool b =>
    have d:fr.set (.bool b) t=fr:=zp5 c (by simp);simp only[wd,xa];cases oo t nt
    ·rfl
    ·cases b<;>cases a<;>simp only[xa,xe,d,gd,gh]
   all_goals (cases oo t nt<;>rfl)
def qbi(P:om)(tt:Nat->Oq TI)(nt:Nat)(cl:ClK R)(ops:Lz o8):Lz o8->PT IV->IS->(FRes->Oq R)->Oq R
 | [],fr,S,kk=>kk ⟨fr,S,0,0,i6⟩
 | o::l,fr,S,kk=>guK ops nt fr o.guard
  (fun fr=>qas P tt nt cl fr S o fun r=>match qy r.v with
   | some p=>kk ⟨fr,r.S,r.rd,r.wr,iz p⟩
   | none=>qbi P tt nt cl ops l (putD o.dst r.v fr) r.S fun q=>kk ⟨q.fr,q.S,r.rd ||| q.rd,r.wr ||| q.wr,q.p⟩)
  (fun fr=>qbi P tt nt cl ops l (putD o.dst (.tup []) fr) S kk)
theorem qs9(h:ClEq cl clK)(ops:Lz o8):∀(l:Lz o8) (fr:PT IV) (S:IS) (kk:FRes->Oq R),qbi P tt nt clK ops l fr S kk=bd (iseq P tt nt cl ops l fr S) kk
 | [],fr,S,kk=>rfl
 | o::l,fr,S,kk=>by
  simp only[qbi,iseq,qxd,qm4,zak h,qs9 h ops l];refine cond_congr' ?_;refine cond_congr' ?_;cases q0 P tt nt cl fr S o with
  | none=>rfl
  | some r =>
   simp only[ob];cases qy r.v with
   | some p=>rfl
   | none=>simp only;cases iseq P tt nt cl ops l (putD o.dst r.v fr) r.S<;>rfl
where cond_congr' {b:Bool} {x x' y:Oq R} (h:x=x'):cond b x y=cond b x' y:=by rw[h]
def qai(P:om)(tt:Nat->Oq TI)(nt:Nat)(cl:ClK R)(ops:Lz o8)(bs:Lz Nat):Lz o8->Nat->Oq (Nat × IV)->PT IV->IS->(Recs->Oq R)->Oq R
 | [],_,pn,fr,S,kk=>kk ⟨[],fr,S,pn⟩
 | o::l,k,pn,fr,S,kk=>cond (y4 bs k pn)
  (qai P tt nt cl ops bs l (k+1) pn (putD o.dst .unk fr) S fun q=>kk ⟨⟨fr,S,.unk,0,0,eb⟩::q.l,q.fr,q.S,q.pn⟩)
  (guK ops nt fr o.guard
  (fun fr=>qas P tt nt cl fr S o fun r=>match qy r.v with
   | some p=>match pn with
    | some _=>i6
    | none=>cond (jg p) (qai P tt nt cl ops bs l (k+1) (iz (k,p)) (putD o.dst .unk fr) r.S fun q=>kk ⟨⟨fr,S,.unk,r.rd,r.wr,i7⟩::q.l,q.fr,q.S,q.pn⟩) i6
   | none=>qai P tt nt cl ops bs l (k+1) pn (putD o.dst r.v fr) r.S fun q=>kk ⟨⟨fr,S,r.v,r.rd,r.wr,i7⟩::q.l,q.fr,q.S,q.pn⟩)
  (fun fr=>qai P tt nt cl ops bs l (k+1) pn (putD o.dst (.tup []) fr) S fun q=>kk ⟨⟨fr,S,.tup [],0,0,eb⟩::q.l,q.fr,q.S,q.pn⟩))
theorem q0j(h:ClEq cl clK)(ops:Lz o8)(bs:Lz Nat):∀(l:Lz o8) (k:Nat) (pn:Oq (Nat × IV)) (fr:PT IV) (S:IS) (kk:Recs->Oq R),qai P tt nt clK ops bs l k pn fr S kk=bd (qr P tt nt cl ops bs l k pn fr S) kk
 | [],k,pn,fr,S,kk=>rfl
 | o::l,k,pn,fr,S,kk=>by
  simp only[qai,qr,qxd,qm4,zak h,q0j h ops bs l];cases y4 bs k pn
  case true =>
   simp only[xa];cases qr P tt nt cl ops bs l (k+1) pn (putD o.dst .unk fr) S<;>rfl
  simp only[xe];cases gOK ops fr o.guard
  ·rfl
  cases jn ops nt fr o.guard
  ·simp only[xa,xe];cases qr P tt nt cl ops bs l (k+1) pn (putD o.dst (.tup []) fr) S<;>rfl
  ·simp only[xa];cases q0 P tt nt cl fr S o with
   | none=>rfl
   | some r =>
    simp only[ob];cases qy r.v with
    | some p =>
     cases pn with
     | some x=>rfl
     | none =>
      simp only;cases jg p
      ·rfl
      ·simp only[xa];cases qr P tt nt cl ops bs l (k+1) (iz (k,p)) (putD o.dst .unk fr) r.S<;>rfl
    | none=>simp only;cases qr P tt nt cl ops bs l (k+1) pn (putD o.dst r.v fr) r.S<;>rfl
def qk7(P:om)(tt:Nat->Oq TI)(nt:Nat)(cl:ClK R)(ops:Lz o8)(fr:PT IV)(S:IS)(kk:FRes->Oq R):Oq R :=
 qai P tt nt cl ops (befs ops []) ops 0 i6 fr S fun q=>cond (ichk q.l q.S (befs ops []) []) (match q.pn with
  | none=>kk ⟨q.fr,q.S,orRd q.l,orWr q.l,i6⟩
  | some x=>kk ⟨.leaf,kill (orWr q.l) S,orRd q.l,orWr q.l,iz x.2⟩) i6
theorem q63(h:ClEq cl clK)(ops:Lz o8)(fr:PT IV)(S:IS)(kk:FRes->Oq R):qk7 P tt nt clK ops fr S kk=bd (iany P tt nt cl ops fr S) kk:=by
 simp only[qk7,iany,q0j h];cases qr P tt nt cl ops (befs ops []) ops 0 i6 fr S with
 | none=>rfl
 | some q =>
  simp only[qm4];obtain⟨l,f,s,a⟩:=q;cases a<;>rfl

abbrev CdK(R:Type):=PT IV->IS->Lz Nat->(CRes->Oq R)->Oq R
def qlk(f:CdK R):Nat->CdK R
 | 0,_,_,_,_=>i6
 | n+1,fr,S,ds,kk=>f fr S ds fun r=>match r.e with
  | .normal=>qlk f n r.fr r.S r.ds fun q=>kk (q.or r.rd r.wr)
  | _=>kk r
def ca(f:CdK R)(mr mw:Nat):Nat->CdK R
 | 0,_,_,_,_=>i6
 | n+1,fr,S,ds,kk=>f fr S ds fun r=>cond (subm r.rd mr&&subm r.wr mw) (match r.e with
  | .normal=>ca f mr mw n r.fr r.S r.ds kk
  | e=>kk ⟨e,r.fr,r.S,r.ds,mr,mw⟩) i6
def qlc(cl:ClK R)(f:Nat)(caps:Lz IV)(S:IS)(id:Nat)(fr:PT IV)(ds:Lz Nat)(rd:Nat)(kk:CRes->Oq R):Oq R :=
 cl (.fn f) (.yield id::caps) S fun r=>match qy r.v with
  | some _=>i6
  | none=>match r.S.heap.get id with
   | some (.loop st pend nt fr2 ps assign body D)=>match st with
    | .busy=>i6
    | _=>match pend with
     | none=>kk ⟨.normal,fr,r.S.set id (.loop .exhausted pend nt fr2 ps assign body D),ds,rd ||| (r.rd ||| 2 ^ id),r.wr ||| 2 ^ id⟩
     | some c=>match qcv c with
      | none=>i6
      | some e=>kk ⟨e,fr,r.S.set id (.loop .exhausted pend nt fr2 ps assign body D),ds,rd ||| (r.rd ||| 2 ^ id),r.wr ||| 2 ^ id⟩
   | _=>i6
theorem q0l(h:ClEq cl clK)(f:Nat)(caps:Lz IV)(S:IS)(id:Nat)(fr:PT IV)(ds:Lz Nat)(rd:Nat)(kk:CRes->Oq R):qlc clK f caps S id fr ds rd kk=bd (ifin cl f caps S id fr ds rd) kk:=by
 simp only[qlc,ifin,h (.fn f)];cases cl (.fn f) (.yield id::caps) S with
 | none=>rfl
 | some r =>
  simp only[ob];cases qy r.v with
  | some p=>rfl
  | none =>
  simp only;cases r.S.heap.get id with
  | none=>rfl
  | some o =>
   cases o<;>try rfl
   rename_i e a j g i b d D;cases e<;>try rfl
   all_goals
    cases a with
    | none=>rfl
    | some c =>
     simp only;cases qcv c<;>rfl
theorem qr5{B:Nat}(x:Oq CRes)(kk:CRes->Oq R):bd (mbO B x) kk=bd x fun r=>kk (mbR B r):=by cases x<;>rfl
def zy(P:om)(tt:Nat->Oq TI)(nm:Nat->Oq Nm)(B:Nat)(nt:Nat)(cl:ClK R)(lf:Nat)(round:Oq Nat):fw->CdK R
 | .skip,fr,S,ds,kk=>kk ⟨.normal,fr,S,ds,0,0⟩
 | .label _,fr,S,ds,kk=>kk ⟨.normal,fr,S,ds,0,0⟩
 | .exit id,fr,S,ds,kk=>kk ⟨.exit id,fr,S,ds,0,0⟩
 | .goto l,fr,S,ds,kk=>kk ⟨.goto l,fr,S,ds,0,0⟩
 | .ret,fr,S,ds,kk=>kk ⟨.ret,fr,S,ds,0,0⟩
 | .refuse _,_,_,_,_=>i6
 | .region id ops draw,fr,S,ds,kk=>bd (jy nt (nm id) B fr S ds) fun x =>
  cond draw (qk7 P tt nt cl ops.toList x.fr x.S fun q=>kk (mbR (mB nm B) ⟨exP q.p,q.fr,q.S,x.ds,q.rd,x.wr ||| q.wr⟩))
   (qbi P tt nt cl ops.toList ops.toList x.fr x.S fun q=>kk (mbR (mB nm B) ⟨exP q.p,q.fr,q.S,x.ds,q.rd,x.wr ||| q.wr⟩))
 | .seq x y,fr,S,ds,kk=>zy P tt nm B nt cl lf round x fr S ds fun r=>match r.e with
  | .normal=>zy P tt nm B nt cl lf round y r.fr r.S r.ds fun q=>kk (q.or r.rd r.wr)
  | _=>kk r
 | .cond c x y,fr,S,ds,kk=>match evo nt fr c with
  | some (.bool b)=>cond b (zy P tt nm B nt cl lf round x fr S ds kk) (zy P tt nm B nt cl lf round y fr S ds kk)
  | _=>i6
 | .block id c,fr,S,ds,kk=>zy P tt nm B nt cl lf round c fr S ds fun r=>match r.e with
  | .exit id'=>cond (od id' id) (kk ⟨.normal,r.fr,r.S,r.ds,r.rd,r.wr⟩) (kk r)
  | _=>kk r
 | .scope c,fr,S,ds,kk=>zy P tt nm B nt cl lf round c fr S ds fun r=>match r.e with
  | .goto _=>i6
  | _=>kk r
 | .loop c,fr,S,ds,kk=>match vz nm c with
  | some m=>ca (zy P tt nm B nt cl lf round c) m.1 m.2 lf fr S ds fun r=>kk (mbR (mB nm B) r)
  | none=>qlk (zy P tt nm B nt cl lf round c) lf fr S ds kk
 | .rangeFunc g ps assign body,fr,S,ds,kk=>match evo nt fr g with
  | some (.fn f caps)=>match round with
   | none=>qlc cl f caps ((S.new (.defs i7)).new (.loop .ready i6 nt fr ps.toList assign body S.next)) (S.next+1) fr (S.next::ds) 0 fun r=>kk (mbR (mB nm B) r)
   | some l=>match S.heap.get l with
    | some (.loop _ _ _ _ _ _ _ D)=>qlc cl f caps (S.new (.loop .ready i6 nt fr ps.toList assign body D)) S.next fr ds (2 ^ l) fun r=>kk (mbR (mB nm B) r)
    | _=>i6
  | _=>i6
variable {nm : Nat -> Oq Nm} {B lf : Nat} {round : Oq Nat}
theorem qzt{g:PT IV->IS->Lz Nat->Oq CRes}{f:CdK R}(h:∀fr S ds kk,f fr S ds kk=bd (g fr S ds) kk):∀n fr S ds kk,qlk f n fr S ds kk=bd (yo g n fr S ds) kk
 | 0,_,_,_,_=>rfl
 | n+1,fr,S,ds,kk=>by
  simp only[qlk,yo,h,qzt h n];cases g fr S ds with
  | none=>rfl
  | some r =>
   simp only[bd]
   grind
theorem q4k{g:PT IV->IS->Lz Nat->Oq CRes}{f:CdK R}{mr mw:Nat}(h:∀fr S ds kk,f fr S ds kk=bd (g fr S ds) kk):∀n fr S ds kk,ca f mr mw n fr S ds kk=bd (je g mr mw n fr S ds) kk
 | 0,_,_,_,_=>rfl
 | n+1,fr,S,ds,kk=>by
  simp only[ca,je,h,q4k h n];cases g fr S ds with
  | none=>rfl
  | some r =>
   simp only[qm4];simp only[bd]
   grind
theorem y1(hcl:ClEq cl clK):∀(c:fw) (fr:PT IV) (S:IS) (ds:Lz Nat) (kk:CRes->Oq R),zy P tt nm B nt clK lf round c fr S ds kk=bd (zh P tt nm B nt cl lf round c fr S ds) kk:=by
 intro c;induction c with
 | skip=>intros;rfl
 | label l=>intros;rfl
 | exit id=>intros;rfl
 | goto l=>intros;rfl
 | ret=>intros;rfl
 | refuse _=>intros;rfl
 | region id ops draw =>
  intro fr S ds kk;simp only[zy,zh,qr5];cases jy nt (nm id) B fr S ds with
  | none=>rfl
  | some x =>
   simp only[bd,q63 hcl,qs9 hcl]
   grind
 | seq x y ihx ihy =>
  intro fr S ds kk;simp only[zy,zh,ihx,ihy];cases zh P tt nm B nt cl lf round x fr S ds with
  | none=>rfl
  | some r =>
   simp only[bd]
   grind
 | cond c x y ihx ihy =>
  intro fr S ds kk;simp only[zy,zh];cases evo nt fr c with
  | none=>rfl
  | some v =>
   cases v<;>try rfl
   grind
 | block id c ih =>
  intro fr S ds kk;simp only[zy,zh,ih];cases zh P tt nm B nt cl lf round c fr S ds with
  | none=>rfl
  | some r =>
   simp only[bd]
   grind
 | scope c ih =>
  intro fr S ds kk;simp only[zy,zh,ih];cases zh P tt nm B nt cl lf round c fr S ds with
  | none=>rfl
  | some r =>
   simp only[bd]
   grind
 | loop c ih =>
  intro fr S ds kk;simp only[zy,zh];cases vz nm c with
  | none=>exact qzt ih _ _ _ _ _
  | some m=>exact(q4k ih _ _ _ _ _).trans (qr5 _ _).symm
 | rangeFunc g ps assign body ih1 ih2 =>
  intro fr S ds kk;simp only[zy,zh,qr5];cases evo nt fr g with
  | none=>rfl
  | some v =>
   cases v<;>try rfl
   simp only;cases round with
   | none=>exact q0l hcl ..
   | some l =>
    simp only;cases S.heap.get l with
    | none=>rfl
    | some o =>
     cases o<;>try rfl
     exact q0l hcl ..
def qrc(P:om)(tt:Nat->Oq TI)(cl:ClK R)(lf:Nat)(id:Nat)(vs:Lz IV)(S:IS)(kk:Res->Oq R):Oq R :=
 match S.heap.get id with
 | some (.loop .ready _ nt fr ps assign body _)=>cond (od vs.length ps.length&&qi assign&&qi body)
  (zy P tt (fun _=>i6) S.next nt cl lf (iz id) assign (vt ps vs fr) S [] fun r1=>match r1.e with
   | .normal=>match r1.S.heap.get id with
    | some (.loop .ready pend nt2 fr2 ps2 as2 bd2 D2)=>zy P tt (fun _=>i6) S.next nt cl lf (iz id) body r1.fr (r1.S.set id (.loop .busy pend nt2 fr2 ps2 as2 bd2 D2)) r1.ds fun r2 =>
     cond r2.e.isPan i6 <| match r2.S.heap.get id with
     | some (.loop _ _ nt3 fr3 ps3 as3 bd3 D3)=>kk ⟨.bool (yj r2.e).isNone,r2.S.set id (.loop (if (yj r2.e).isNone then .ready else .done) (yj r2.e) nt3 fr3 ps3 as3 bd3 D3),2 ^ id ||| (r1.rd ||| r2.rd),(r1.wr ||| 2 ^ id) ||| (r2.wr ||| 2 ^ id)⟩
     | _=>i6
    | _=>i6
   | _=>i6) i6
 | _=>i6
theorem zw0(hcl:ClEq cl clK)(id:Nat)(vs:Lz IV)(S:IS)(kk:Res->Oq R):qrc P tt clK lf id vs S kk=ob (bu P tt cl lf id vs S) kk:=by
 simp only[qrc,bu];cases S.heap.get id with
 | none=>rfl
 | some o =>
  cases o<;>try rfl
  rename_i d l m n k a b D;cases d<;>try rfl
  simp only[qp,y1 hcl];cases (od vs.length k.length&&qi a&&qi b)
  ·rfl
  ·simp only[xa];cases zh P tt (fun _=>i6) S.next m cl lf (iz id) a (vt k vs n) S [] with
   | none=>rfl
   | some r1 =>
    simp only[bd];cases r1.e<;>try rfl
    simp only;cases r1.S.heap.get id with
    | none=>rfl
    | some o =>
     cases o<;>try rfl
     rename_i d c g h f j i p;cases d<;>try rfl
     simp only;cases zh P tt (fun _=>i6) S.next m cl lf (iz id) b r1.fr (r1.S.set id (.loop .busy c g h f j i p)) r1.ds with
     | none=>rfl
     | some r2 =>
      simp only;cases r2.e.isPan with
      | true=>rfl
      | false =>
      simp only[xe];cases r2.S.heap.get id with
      | none=>rfl
      | some o=>cases o<;>rfl
abbrev ClP:=(R:Type)->ClK R
structure Hx where
 f:Cl->List IV->IS->Option Res
 k:ClP->(R:Type)->List IV->IS->(Res->Option R)->Option R
 eq:∀(cl:Cl) (clP:ClP),(∀R,ClEq cl (clP R))->∀R vs S kk,k clP R vs S kk=ob (f cl vs S) kk
def exH(sm:Nat->Oq Sm)(hx:Nat->Oq Hx):Ex:=fun f=>match sm f with
 | some s=>iz (fun _=>exf s)
 | none=>match hx f with
  | some h=>iz h.f
  | none=>i6
def zn(P:om)(tt:Nat->Oq TI)(ft:Nat->Oq FI)(nm:Nat->Nat->Oq Nm)(sm:Nat->Oq Sm)(hx:Nat->Oq Hx)(lf:Nat):Nat->ClP
 | 0,_,_,_,_,_=>i6
 | n+1,R,tgt,vs,S,kk=>match tgt with
  | .yield id=>qrc P tt (zn P tt ft nm sm hx lf n R) lf id vs S kk
  | .fn f=>match sm f with
   | some s=>exfK s vs S kk
   | none=>match hx f with
    | some h=>h.k (zn P tt ft nm sm hx lf n) R vs S kk
    | none=>match ft f with
     | none=>i6
     | some fi=>cond (frzF (nm f)) i6 (cond (og vs.length fi.nt) (zy P tt (nm f) S.next fi.nt (zn P tt ft nm sm hx lf n R) lf i6 fi.body (zk vs 0 .leaf) S [] fun r=>cond r.e.leaves (bd (yt tt fi.nt fi.res S r) kk) i6) i6)
theorem qg{ft:Nat->Oq FI}{nm:Nat->Nat->Oq Nm}{sm:Nat->Oq Sm}{hx:Nat->Oq Hx}:∀n R,ClEq (jz P tt ft nm (exH sm hx) lf n) (zn P tt ft nm sm hx lf n R)
 | 0,_=>fun _ _ _ _=>rfl
 | n+1,R=>fun tgt vs S kk=>by
  unfold zn jz;cases tgt with
  | yield id=>exact zw0 (qg n R) ..
  | fn f =>
   simp only[exH];cases sm f with
   | some s=>exact zh9 ..
   | none =>
    simp only;cases hx f with
    | some h=>exact h.eq _ _ (qg n) R vs S kk
    | none =>
     simp only;cases ft f with
     | none=>rfl
     | some fi =>
      simp only[qp,y1 (qg n R)];cases frzF (nm f)
      case true=>rfl
      simp only[xe];cases og vs.length fi.nt
      ·rfl
      ·simp only[xa];cases zh P tt (nm f) S.next fi.nt (jz P tt ft nm (exH sm hx) lf n) lf i6 fi.body (zk vs 0 .leaf) S [] with
       | none=>rfl
       | some r =>
        simp only[bd,qp];cases r.e.leaves
        ·rfl
        ·cases yt tt fi.nt fi.res S r<;>rfl
end
end Go.Jx
end

noncomputable section
namespace Go.Jx
open Go Go.Sx Go.RowKit
universe u

def PT.Fa{α:Type u}:PT α->(Nat->α->Prop)->Prop
 | .leaf,_=>True
 | .node v l r,p=>(match v with|none=>True|some x=>p 0 x)/\l.Fa (fun k=>p (2*k+1))/\r.Fa (fun k=>p (2*k+2))
theorem PT.fa{α:Type u}:∀{t:PT α} {p:Nat->α->Prop},t.Fa p->∀k v,t.get k=iz v->p k v
 | .leaf,p,h,k,v,hk=>by cases hk
 | .node x l r,p,h,k,v,hk=>by
  obtain⟨h1,h2,h3⟩:=h;unfold PT.get at hk;by_cases h0:k=0
  ·subst h0;rw[wk rfl,xa] at hk
   grind
  ·rw[qm h0,xe] at hk;by_cases h4:k % 2=1
   ·rw[wk h4,xa] at hk;have:=PT.fa h2 _ _ hk
    grind
   ·rw[qm h4,xe] at hk;have:=PT.fa h3 _ _ hk
    grind
def FIok (P:om) (f:Nat) (fi:FI):Prop:=∃fn,P.funcs[f]?=iz fn/\fn.body=iz fi.body/\fn.ntmps=fi.nt/\fn.results=fi.res.toArray/\(fn.name == "runtime.NumGoroutine") = eb/\qi fi.body=i7

inductive Wfi:(c:TC)->El c->Prop
 | int (k:ff) (n:Int) (h:k.wrap n=n):Wfi (.int k) n
 | bool (b:Bool):Wfi .bool b
 | str (s:ByteArray) (h:s.size<9223372036854775808):Wfi .str s
 | list (c:TC) (l:List (El c)) (h:l.length*bsz c<=140737488355328) (hl:∀x∈l,Wfi c x):Wfi (.list c) l
 | rl (k:Nat) (l:List (RT k)) (h:l.length*bsz (rcC k)<=140737488355328) (hl:∀x∈l,Wfi (rcC k) (un k x)):Wfi (.rl k) l
 | two (a b:TC) (x:El a × El b) (h1:Wfi a x.1) (h2:Wfi b x.2):Wfi (.two a b) x
def WfE:(c:TC)->El c->Prop
 | .int k=>fun(n:Int)=>k.wrap n=n
 | .bool=>fun _=>True
 | .str=>fun(s:Bq)=>s.size<9223372036854775808
 | .list c=>fun(l:Lz (El c))=>l.length*bsz c<=140737488355328/\∀x∈l,WfE c x
 | .rl k=>fun(l:Lz (RT k))=>Wfi (.rl k) l
 | .two a b=>fun(x:El a × El b)=>WfE a x.1/\WfE b x.2
def WfA:(cs:Lz TC)->ElA cs->Prop
 | [],_=>True
 | c::cs,x=>WfE c x.1/\WfA cs x.2
def WfM(v:IV):Prop:=(∀k n,v=.int k n->k.wrap n=n)/\(∀s,v=.str s->s.size<9223372036854775808)/\∀c (l:Lz (El c)),v=.lst c l->l.length*bsz c<=140737488355328/\∀x∈l,Wfi c x
theorem qjn:∀(c:TC) (x:El c),(∀j (h:j<(cel c x).length),WfM (cel c x)[j])->Wfi c x
 | .int k,x,h=>.int k x ((h 0 (by simp[cel])).1 _ _ rfl)
 | .bool,x,h=>.bool x
 | .str,x,h=>.str x ((h 0 (by simp[cel])).2.1 _ rfl)
 | .list c,l,h=>by
  obtain⟨h1,h2⟩:=(h 0 (by simp[cel])).2.2 c l rfl;exact .list c l h1 h2
 | .rl k,l,h=>by
  obtain⟨h1,h2⟩:=(h 0 (by simp[cel])).2.2 (rcC k) (l.map (un k)) rfl;exact .rl k l (py (dk (xy (·*bsz (rcC k)) (@List.length_map _ _ (l:Lz (RT k)) (un k)).symm)) h1) fun x hx=>h2 _ (List.mem_map_of_mem hx)
 | .two a b,x,h=>by
  have e:cel (.two a b) x=cel a x.1++cel b x.2:=rfl;refine .two a b x (qjn a x.1 fun j hj=>?_) (qjn b x.2 fun j hj=>?_)
  ·have:=h j (by rw[e,xp];omega)
   grind
  ·have:=h ((cel a x.1).length+j) (by rw[e,xp];omega)
   grind
theorem zo2{E:Env}{v:IV}{u:oc}(h:VR E v u):WfM v:=by
 induction h with
 | int k n h=>exact⟨fun b a e=>(by cases e;exact h),fun s e=>(by cases e),fun c l e=>(by cases e)⟩
 | str s h=>exact⟨fun b a e=>(by cases e),fun d e=>(by cases e;exact h),fun c l e=>(by cases e)⟩
 | lst0 h=>exact⟨fun b a e=>(by cases e),fun d e=>(by cases e),fun c l e=>(by cases e;exact⟨by simp,fun x f=>(by cases f)⟩)⟩
 | lst us h1 h2 h3 hb hh hc hu ih =>
  refine⟨fun b a e=>(by cases e),fun d e=>(by cases e),fun c l e=>?_⟩;cases e;refine⟨h3,fun x f=>?_⟩;obtain⟨i,m,rfl⟩:=db.1 f;exact qjn _ _ fun j g=>ih i m j g
 | _=>exact⟨fun b a e=>(by cases e),fun d e=>(by cases e),fun c l e=>(by cases e)⟩
theorem wf_cells{E:Env}:∀(c:TC) (x:El c) (us:Nat->oc),(∀j (h:j<(cel c x).length),VR E (cel c x)[j] (us j))->WfE c x
 | .int k,x,us,h=>by
  have:=h 0 (by simp[cel]);have h0:VR E (.int k x) (us 0):=this;generalize us 0=u at h0;cases h0;assumption
 | .bool,x,us,h=>trivial
 | .str,x,us,h=>by
  have:=h 0 (by simp[cel]);have h0:VR E (.str x) (us 0):=this;generalize us 0=u at h0;cases h0;assumption
 | .list c,l,us,h=>by
  have:=h 0 (by simp[cel]);have h0:VR E (.lst c l) (us 0):=this;generalize us 0=u at h0;cases h0 with
  | lst0 hc=>exact⟨by simp,fun x hx=>by cases hx⟩
  | lst us2 h1 h2 h3 hb hh hc hu =>
   refine⟨h3,fun x hx=>?_⟩;obtain⟨i,hi,rfl⟩:=db.1 hx;exact wf_cells c _ (us2 i) (hu i hi)
 | .rl k,l,us,h=>by
  have:=h 0 (by simp[cel]);exact qjn (.rl k) l fun j hj=>by
   have:j=0:=by simp[cel] at hj;exact hj
   subst this;exact zo2 (h 0 (by simp[cel]))
 | .two a b,x,us,h=>by
  have e:cel (.two a b) x=cel a x.1++cel b x.2:=rfl;refine⟨wf_cells (E:=E) a x.1 us fun j hj=>?_,wf_cells (E:=E) b x.2 (fun j=>us ((cel a x.1).length+j)) fun j hj=>?_⟩
  ·grind
  ·grind
theorem qmr{E:Env}{c:TC}{x:El c}{u:oc}(hc:cel c x=[asIV c x])(h:VR E (asIV c x) u):WfE c x :=
 wf_cells (E:=E) c x (fun _=>u) fun j a=>by
  grind
theorem qic{E:Env}{c:TC}{x:El c}{u:oc}(h:VR E (asIV c x) u):WfE c x:=by
 cases c with
 | two a b =>
  cases h with
  | agg hl hh =>
   rename_i d;refine wf_cells (E:=E) (.two a b) x (fun j=>d.getD j .nilFunc) fun j e=>?_
   grind
 | int k=>exact qmr rfl h
 | bool=>trivial
 | str=>exact qmr rfl h
 | list c=>exact qmr rfl h
 | rl k=>exact qmr rfl h
theorem q13{E:Env}:∀{cs:Lz TC} {x:ElA cs} {us:Lz oc},VRs E (argV cs x) us->WfA cs x
 | [],x,us,h=>trivial
 | c::cs,x,us,h=>by
  obtain⟨u,us,rfl,a1,a2⟩:=VRs.inv (v:=asIV c x.1) (cs:=argV cs x.2) h;exact⟨qic a1,q13 a2⟩
theorem conW{P:om}{tt:Nat->Oq TI}{ft:Nat->Oq FI}{nm:Nat->Nat->Oq Nm}{ex:Ex}{f:Nat}{s:Sm}(hm:P.follows .mixedOrders=i7)(htt:TT P tt)(hft:FT P ft)(hex:ExOK P ex)(hC:zg P f)
  (hrun:∀(x:ElA s.pts) (y:ElR s.rts),WfA s.pts x->s.f x=iz y->∃n lf r,jz P tt ft nm ex lf n (.fn f) (argV s.pts x) S0=iz r/\runR s r=iz y):Con P f s:=by
 refine⟨hC,fun M w x g y h d c b=>?_⟩;obtain⟨n,lf,r,k,j⟩:=hrun x y (q13 b) h;obtain⟨_,a⟩:=(qcu (lf:=lf) hm htt hft hex n).fn f _ S0 r k T0 (EM M w) g (preM d c) (fun _ _=>trivial) (fun _ _=>trivial) b;exact a.mono fun e l i=>zxb d c j i
theorem qsq{P:om}{sm:Nat->Oq Sm}{hx:Nat->Oq Hx}(h:∀f s,sm f=iz s->Con P f s)(h2:∀f g,hx f=iz g->HxOK P f g.f):ExOK P (exH sm hx):=by
 have d:∀f g,exH sm hx f=iz g->(∃s,sm f=iz s/\g=fun _=>exf s)\/∃q,hx f=iz q/\g=q.f:=fun f g e=>by
  unfold exH at e
  grind
 refine⟨fun f g e o a b c i S r m T E v p l j k=>?_,fun f g e o a i S=>?_,fun f g e o a i S r m u k=>?_⟩
 ·rcases d f g e with ⟨s,t,rfl⟩|⟨q,n,rfl⟩
  ·exact(fun x=>⟨x.1,x.2.mono fun _ _=>RetX.of⟩) (zwh (h f s t) m p l j k)
  ·exact(h2 f q n).fn o a b c i S r m T E v p l j k
 ·rcases d f g e with ⟨s,t,rfl⟩|⟨q,n,rfl⟩
  ·exact zge
  ·exact(h2 f q n).fr o a i S
 ·rcases d f g e with ⟨s,t,rfl⟩|⟨q,n,rfl⟩
  ·exact zp7 m u k
  ·exact(h2 f q n).calm o a i S r m u k
theorem conK{P:om}{tt:Nat->Oq TI}{ft:Nat->Oq FI}{nm:Nat->Nat->Oq Nm}{sm:Nat->Oq Sm}{hx:Nat->Oq Hx}{f:Nat}{s:Sm}(hm:P.follows .mixedOrders=i7)(htt:TT P tt)(hft:FT P ft)(hsm:∀f s,sm f=iz s->Con P f s)
  (hhx:∀f g,hx f=iz g->HxOK P f g.f) (hC:zg P f)
  (hrun:∀(x:ElA s.pts) (y:ElR s.rts),WfA s.pts x->s.f x=iz y->∃n lf,zn P tt ft nm sm hx lf n _ (.fn f) (argV s.pts x) S0 (runR s)=iz y):Con P f s:=by
 refine conW (nm:=nm) hm htt hft (qsq hsm hhx) hC fun x y a c=>?_;obtain⟨n,lf,h⟩:=hrun x y a c;rw[qg n] at h;cases b:jz P tt ft nm (exH sm hx) lf n (.fn f) (argV s.pts x) S0 with
 | none=>rw[b] at h;cases h
 | some r=>rw[b] at h;exact⟨n,lf,r,b,h⟩
end Go.Jx
end

noncomputable section
namespace Go.Jx
open Go Go.Sx Go.ChangeShapes Go.RowKit
def TRW(P:om)(W:oh)(T:ov)(cs:Lz oc):Prop :=
 ∃(H:Type) (en:ov × oc->H) (fuel:Nat) (x:DataW H × Lz MemPlace),DataW.trod en P W 0 (fun _=>i7) i7 fuel T cs=iz x/\∀n∈x.1.weights P T,n<=reachBytes
def TRN(P:om)(W:oh)(T:ov)(cs:Lz oc)(N:Nat):Prop :=
 ∃(H:Type) (en:ov × oc->H) (fuel:Nat) (x:DataW H × Lz MemPlace),ap x.1<N/\DataW.trod en P W 0 (fun _=>i7) i7 fuel T cs=iz x/\∀n∈x.1.weights P T,n<=reachBytes
structure RdN (P:om) (c:TC) (T:ov) (N:Nat):Prop where
 sz:P.cellsOf T=csz c
 by_:bsz c<=P.bytesOf T
 rd:∀W cs,TRN P W T cs N->∃x:El c,VRs (EM [] W) (cel c x) cs
def RdT(P:om)(c:TC)(T:ov):Prop:=∀N,RdN P c T N
theorem RdT.rd{P:om}{c:TC}{T:ov}(h:RdT P c T)(W:oh)(cs:Lz oc)(ht:TRW P W T cs):∃x:El c,VRs (EM [] W) (cel c x) cs:=by
 obtain⟨H,e,a,x,d,b⟩:=ht;exact(h (ap x.1+1)).rd W cs ⟨H,e,a,x,dy _,d,b⟩
theorem zvr{k:ff}{n:Int}(h:(Lit.int k n).wf=i7):k.wrap n=n:=by
 have a:k.min<=n/\n<=k.max:=by simpa [Lit.wf] using h
 cases k<;>simp only[IntKind.min,IntKind.max,ag,az,m8] at *<;>simp at *<;>omega
section
variable {P : om} {W : oh} {T : ov} {cs : Lz oc} {N : Nat}
theorem VRs.one{E:Env}{v:IV}{u:oc}(h:VR E v u):VRs E [v] [u]:=VRs.cons h VRs.nil
theorem zjb(hT:P.underlying T=iz .string)(hs:P.cellsOf T=1)(hb:P.bytesOf T=16):RdN P .str T N:=⟨hs,dk hb.symm,fun W g h=>by
 obtain⟨H,f,a,x,e,h,d⟩:=h;obtain⟨s,c,_,b⟩:=DataW.trod_string hT h;exact⟨s,c▸VRs.one (.str s (by unfold maxLen at b;omega))⟩⟩
theorem qxq{k:ff}(hT:P.underlying T=iz (.int k))(hs:P.cellsOf T=1)(hb:P.bytesOf T=bsz (.int k)):RdN P (.int k) T N:=⟨hs,dk hb.symm,fun W g h=>by
 obtain⟨H,f,a,x,e,h,d⟩:=h;obtain⟨n,c,_,b⟩:=DataW.trod_int hT h;exact⟨n,c▸VRs.one (.int k n (zvr b))⟩⟩
theorem TRN.fields{fs:Array ic}(hT:P.underlying T=iz (.struct fs))(h:TRN P W T cs N):cs.length=P.cellsOf T/\∀(i:Nat) (f:ic),fs[i]?=iz f->TRN P W f.type ((cs.drop f.offset).take (P.cellsOf f.type)) N:=by
 obtain⟨H,r,e,x,l,h,g⟩:=h;obtain⟨a,n,rfl,rfl,q,p,o⟩:=DataW.trod_struct hT h;refine⟨q,fun i f c=>?_⟩;have b:i<a.length:=by rw[p];exact(jax.1 c).1
 have s:ap a[i].1<ap (a.map (·.1)):=List.sizeOf_lt_of_mem (dh.2 ⟨a[i],p5 b,rfl⟩);simp only[DataW.agg.sizeOf_spec] at l;refine⟨H,r,n,a[i],by omega,by rw[o i f c,xc b],fun m k=>g m ?_⟩;simp only[DataW.weights,hT];refine DataW.weights_mem_each (j:=i) (t:=f.type) (d:=a[i].1) ?_ ?_ m k
 ·grind
 ·grind
theorem q6m{H:Type}{e:ov}:∀{l:Lz (DataW H)} {d:DataW H},d∈l->∀n∈d.weights P e,n∈DataW.weightsAll P e l
 | [],d,h,_,_=>absurd h (by simp)
 | a::l,d,h,n,hn=>by
  rw[DataW.weightsAll,p4];rcases po.1 h with e|e
  ·grind
  ·exact .inr (q6m e n hn)
theorem zmz{M:Nat}{c:TC}{e:ov}(hM:N<=M+1)(hT:P.underlying T=iz (.slice e))(he:RdN P c e M)(hpos:0<csz c)(hs:P.cellsOf T=1)(hb:P.bytesOf T=24):RdN P (.list c) T N:=⟨hs,dk hb.symm,fun W τ h=>by
 obtain⟨H,ξ,ζ,x,ν,h,Z⟩:=h;rcases Go.Deep.open_slice hT h with ⟨rfl,_⟩|⟨a,d,U,m,n,D,Pl,rfl,_,α,κ,K,rfl,s⟩
 ·exact⟨([]:Lz (El c)),VRs.one (.lst0 (by decide))⟩
 have μ:d<=m:=by rw[K];simp;exact α
 have Y:∀i,i<d->∃(x:El c) (b:Lz oc),VRs (EM [] W) (cel c x) b/\W.cells? 0 (a.add (i*P.cellsOf e)) (P.cellsOf e)=iz b:=fun i E=>by
  obtain⟨b,B,F⟩:=s i (by omega);have hs:ap (D i)<ap ((fv d).map D):=List.sizeOf_lt_of_mem (dh.2 ⟨i,jbs.2 E,rfl⟩);simp only[DataW.slice.sizeOf_spec] at ν;obtain⟨x,Y⟩:=he.rd W b ⟨H,ξ,n,_,by show ap (D i)<M;omega,F,fun k β=>Z k (by
   simp only[DataW.weights,hT,po,p4];exact .inr (.inl (q6m (dh.2 ⟨i,jbs.2 E,rfl⟩) k β)))⟩
  grind
 have r:d*bsz c<=140737488355328:=by
  have B:=Z ((((fv d).map D).length+((fv (m-d)).map fun j=>D (d+j)).length)*P.bytesOf e) (by simp only[DataW.weights,hT,po,true_or]);rw[gt,List.length_range,rb] at B;have F:=rt d he.by_;unfold reachBytes at B;omega
 have y:∀k,k<=d->∃l:Lz (El c),l.length=k/\∀i (h:i<l.length),∃b,VRs (EM [] W) (cel c l[i]) b/\W.cells? 0 (a.add (i*P.cellsOf e)) (P.cellsOf e)=iz b:=fun k=>by
  induction k with
  | zero=>intro _;exact⟨[],rfl,fun i h=>by simp at h⟩
  | succ k ih =>
   intro β;obtain⟨l,B,F⟩:=ih (by omega);obtain⟨x,b,ε,δ⟩:=Y k (by omega);refine⟨l++[x],by simp[B],fun i s=>?_⟩
   grind
 obtain⟨l,C,v⟩:=y d (xl _);subst C;have u:U<9223372036854775808:=by unfold maxLen at κ;omega
 refine⟨l,VRs.one ?_⟩;cases l with
 | nil=>exact .lst0 u
 | cons x0 l =>
 obtain⟨S,_,X⟩:=v 0 (by simp);obtain⟨_,_,θ⟩:=jce X;have w:=θ 0 (by rw[he.sz];exact hpos);have z:0<S.length:=by
  obtain⟨_,ι,_⟩:=jce X;rw[ι,he.sz];exact hpos
 rw[xc z] at w;have Q:a.add (0*P.cellsOf e)=a:=by simp[Addr.add]
 rw[Q] at w;have O:a.add 0=a:=by simp[Addr.add]
 rw[O] at w;unfold fu at w;split at w<;>try cases w
 rename_i o t σ γ;obtain⟨η,I,V⟩:=a;cases V with
 | some p=>simp at w
 | none =>
 have g:∀i (h:i<(x0::l).length),∃b,VRs (EM [] W) (cel c (x0::l)[i]) b/\∀j,j<csz c->o[I+i*csz c+j]?=b[j]?:=fun i s=>by
  obtain⟨b,B,F⟩:=v i s;refine⟨b,B,fun j A=>?_⟩;obtain⟨_,_,ε⟩:=jce F;have δ:=ε j (by rw[he.sz];exact A);rw[<- δ];have ρ:(Addr.add ⟨η,I,i6⟩ (i*P.cellsOf e)).add j=⟨η,I+i*csz c+j,i6⟩:=by
   rw[he.sz];unfold Addr.add;by_cases J:i*csz c=0
   ·rw[xx J];by_cases f:j=0
    ·rw[xx f];simp
    ·rw[xr f];simp [J]
   ·rw[xr J];by_cases f:j=0
    ·rw[xx f];simp [f]
    ·rw[xr f]
  rw[ρ];simp[fu,γ]
 refine .lst (fun i j=>(o[I+i*csz c+j]?).getD .nilIface) α u r (by simp[EM]) γ (fun i s j A=>?_) (fun i s j A=>?_)
 ·obtain⟨b,G,R⟩:=g i s;have q:j<b.length:=by have:=G.1;rw[jr] at this;omega
  rw[R j A,xc q];rfl
 ·obtain⟨b,G,R⟩:=g i s;have L:j<csz c:=by rw[jr] at A;exact A
  have q:j<b.length:=by have:=G.1;rw[jr] at this;omega
  have:=G.2 j A q;rw[R j L,xc q];exact this⟩
theorem zfz{M k:Nat}{e:ov}(hM:N<=M+1)(hT:P.underlying T=iz (.slice e))(he:RdN P (rcC k) e M)(hpos:0<csz (rcC k))(hs:P.cellsOf T=1)(hb:P.bytesOf T=24):RdN P (.rl k) T N:=⟨hs,dk hb.symm,fun W b h=>by
 obtain⟨l,a⟩:=(zmz hM hT he hpos hs hb).rd W b h;exact⟨fc (mk k) l,(show cel (.rl k) (fc (mk k) l)=cel (.list (rcC k)) l from xy (fun q=>[IV.lst (rcC k) q]) (ql3 l))▸a⟩⟩
theorem ziv{c:TC}(hs:P.cellsOf T=csz c)(hb:og (bsz c) (P.bytesOf T)=i7):RdN P c T 0:=⟨hs,xk hb,fun W e h=>by
 obtain⟨H,d,a,x,b,_⟩:=h;exact absurd b (Nat.not_lt_zero _)⟩
theorem zkj{a b c d:TC}{f0 f1 f2 f3:ic}(hT:P.underlying T=iz (.struct #[f0,f1,f2,f3]))(h0:RdN P a f0.type N)(h1:RdN P b f1.type N)(h2:RdN P c f2.type N)(h3:RdN P d f3.type N)(o0:f0.offset=0)(o1:f1.offset=csz a)(o2:f2.offset=csz a+csz b)(o3:f3.offset=csz a+csz b+csz c)(hs:P.cellsOf T=csz a+(csz b+(csz c+csz d)))(hb:og (bsz (.two a (.two b (.two c d)))) (P.bytesOf T)=i7):RdN P (.two a (.two b (.two c d))) T N:=⟨hs,xk hb,fun W n h=>by
 obtain⟨m,g⟩:=TRN.fields hT h;obtain⟨x,k⟩:=h0.rd W _ (g 0 f0 rfl);obtain⟨y,j⟩:=h1.rd W _ (g 1 f1 rfl);obtain⟨z,i⟩:=h2.rd W _ (g 2 f2 rfl);obtain⟨v,l⟩:=h3.rd W _ (g 3 f3 rfl);refine⟨(x,(y,(z,v))),?_⟩;rw[o0,jb9,h0.sz] at k;rw[o1,h1.sz] at j;rw[o2,h2.sz,<- ja4] at i;rw[o3,h3.sz,r9 (by rw[gy];omega),<- ja4,<- ja4] at l;have e:=VRs.append i l;rw[dz] at e;have f:=VRs.append j e;rw[dz] at f;have:=VRs.append k f;rw[dz] at this;exact this⟩
end
end Go.Jx
end

noncomputable section
namespace Go.Jx
open Go Go.Sx Go.RowKit
theorem con_true{P:om}{f:Nat}{pts:Lz TC}(h:Con P f ⟨pts,[(eb,.bool)],fun _=>iz (i7,())⟩)(w:oh)(hg:Gl [] w)(x:ElA pts)(us:Lz oc)(hv:VRs (EM [] w) (argV pts x) us) :
  mi P f us.toArray w (Ret fun v w'=>v=.bool i7/\Upd [] w w') :=
 (dc.1 (h.calls [] w x us (i7,()) rfl (fun b c=>by cases c) hg hv)).mono fun e w' g=>by
  obtain⟨v,l,rfl,rfl,d,a,j⟩:=g;exact⟨by cases d;rfl,a.stp.os,a.stp.tape,a.stp.output,a.stp.size,fun b c _=>a.stp.same b c fun k _ i _=>i.elim⟩
theorem vr_two{a b:TC}{E:Env}{cs:Array oc}{x:El (.two a b)}(h:VRs E (cel (.two a b) x) (Value.agg cs).cells.toList):VR E (asIV (.two a b) x) (.agg cs):=by
 have:=VR.agg h.1 h.2;have e:(Value.agg cs).cells.toList.toArray=cs:=by simp[Value.cells]
 rw[e] at this;exact this
theorem vr_int{k:ff}{E:Env}{n:Int}{x:El (.int k)}(h:VRs E (cel (.int k) x) (mq k n).cells.toList):VR E (asIV (.int k) x) (.int k n) :=
 h.2 0 (by simp[cel]) (by simp[Value.cells])
section
open Go.ChangeShapes
variable {H : Type} {enc : ov × oc -> H} {P : om} {w : oh} {base : Nat} {spare : Nat -> Bool} {held : Bool}
end
end Go.Jx
end

noncomputable section
set_option maxRecDepth 100000
namespace Go.Proofs.YtaepcfidpcoofaaGreatDoor
open Go Go.Sx Go.RowKit Go.Jx
abbrev jl:TC:=(.two (.int .i64) (.int .i64))
abbrev cExpr:TC:=(.two (.int .i64) (.two .str (.two (.int .i64) (.rl 1))))
abbrev zd:TC:=(.two (.int .i64) (.two .str jl))
abbrev cLexPiece:TC:=(.two zd (.two (.int .i64) (.int .i64)))
theorem tv:True:=trivial
def pN{α:Type}(l r:PT α):PT α:=.node i6 l r
def pS{α:Type}(x:α)(l r:PT α):PT α:=.node (iz x) l r
def pL{α:Type}(x:α):PT α:=.node (iz x) .leaf .leaf
abbrev TyT(T:Nat)(ti:TI):Prop:=Ty oa T ti.und ti.sz ti.bytes ti.zero
theorem tyO{T:Nat}{ti:TI}(h1:Tryz.prog.underlying T=iz ti.und:=by kernel_rfl)(h2:(Tryz.prog.info? T).map (fun i=>(i.size,i.bytes,i.zero))=iz (ti.sz,ti.bytes,iz ti.zero):=by kernel_rfl):TyT T ti:=Ty.mk' h1 h2
def ti1:TI:=⟨1,8,(.func #[] #[] eb),(.nilFunc)⟩
theorem ty1:TyT 1 ti1:=tyO
def ti2:TI:=⟨1,8,(.int .i64),(.int .i64 0)⟩
theorem ty2:TyT 2 ti2:=tyO
def ti3:TI:=⟨1,8,(.int .i64),(.int .i64 0)⟩
theorem ty3:TyT 3 ti3:=tyO
def ti4:TI:=⟨1,1,(.bool),(.bool eb)⟩
theorem ty4:TyT 4 ti4:=tyO
def ti5:TI:=⟨1,1,(.int .u8),(.int .u8 0)⟩
def ti6:TI:=⟨1,1,(.int .u8),(.int .u8 0)⟩
def ti7:TI:=⟨4,24,(.struct #[⟨"x", 2,0, eb, "", "runtime", 0⟩, ⟨"y", 3,1, eb, "", "runtime", 8⟩, ⟨"signed", 4,2, eb, "", "runtime", 16⟩, ⟨"code", 6,3, eb, "", "runtime", 17⟩]),(.agg #[.int .i64 0,.int .i64 0,.bool eb,.int .u8 0])⟩
def ti8:TI:=⟨4,24,(.struct #[⟨"x", 2,0, eb, "", "runtime", 0⟩, ⟨"y", 3,1, eb, "", "runtime", 8⟩, ⟨"signed", 4,2, eb, "", "runtime", 16⟩, ⟨"code", 6,3, eb, "", "runtime", 17⟩]),(.agg #[.int .i64 0,.int .i64 0,.bool eb,.int .u8 0])⟩
def ti9:TI:=⟨1,16,(.string),(.string ⟨#[]⟩)⟩
theorem ty9:TyT 9 ti9:=tyO
def ti10:TI:=⟨1,16,(.string),(.string ⟨#[]⟩)⟩
def ti11:TI:=⟨1,16,(.string),(.string ⟨#[]⟩)⟩
def ti21:TI:=⟨1,4,(.int .i32),(.int .i32 0)⟩
def ti22:TI:=⟨1,24,(.slice 9),(.slice i6 0 0)⟩
theorem ty22:TyT 22 ti22:=tyO
def ti25:TI:=⟨1,24,(.slice 27),(.slice i6 0 0)⟩
def ti27:TI:=⟨5,56,(.struct #[⟨"Kind", 3,0, eb, "", "", 0⟩, ⟨"Name", 9,1, eb, "", "", 8⟩, ⟨"Args", 25,2, eb, "", "", 24⟩, ⟨"Void", 4,3, eb, "", "", 48⟩, ⟨"Sep", 4,4, eb, "", "", 49⟩]),(.agg #[.int .i64 0,.string ⟨#[]⟩,.slice i6 0 0,.bool eb,.bool eb])⟩
def ti29:TI:=⟨2,16,(.struct #[⟨"Line", 3,0, eb, "", "", 0⟩, ⟨"Column", 3,1, eb, "", "", 8⟩]),(.agg #[.int .i64 0,.int .i64 0])⟩
def ti30:TI:=⟨1,8,(.int .i64),(.int .i64 0)⟩
theorem ty30:TyT 30 ti30:=tyO
def ti33:TI:=⟨1,24,(.slice 35),(.slice i6 0 0)⟩
def ti35:TI:=⟨4,56,(.struct #[⟨"Kind", 3,0, eb, "", "", 0⟩, ⟨"Name", 9,1, eb, "", "", 8⟩, ⟨"N", 3,2, eb, "", "", 24⟩, ⟨"Kids", 33,3, eb, "", "", 32⟩]),(.agg #[.int .i64 0,.string ⟨#[]⟩,.int .i64 0,.slice i6 0 0])⟩
theorem ty35:TyT 35 ti35:=tyO
def ti36:TI:=⟨1,24,(.slice 134),(.slice i6 0 0)⟩
def ti46:TI:=⟨1,8,(.func #[35,35] #[4] eb),(.nilFunc)⟩
def ti49:TI:=⟨1,24,(.slice 96),(.slice i6 0 0)⟩
def ti55:TI:=⟨1,24,(.slice 67),(.slice i6 0 0)⟩
def ti67:TI:=⟨3,24,(.struct #[⟨"At", 29,0, eb, "", "", 0⟩, ⟨"Err", 30,2, eb, "", "", 16⟩]),(.agg #[.int .i64 0,.int .i64 0,.int .i64 0])⟩
def ti70:TI:=⟨1,24,(.slice 76),(.slice i6 0 0)⟩
def ti76:TI:=⟨4,40,(.struct #[⟨"Kind", 3,0, eb, "", "", 0⟩, ⟨"Text", 9,1, eb, "", "", 8⟩, ⟨"At", 29,2, eb, "", "", 24⟩]),(.agg #[.int .i64 0,.string ⟨#[]⟩,.int .i64 0,.int .i64 0])⟩
theorem ty76:TyT 76 ti76:=tyO
def ti78:TI:=⟨1,8,(.pointer 3),(.pointer i6)⟩
def ti81:TI:=⟨1,24,(.slice 3),(.slice i6 0 0)⟩
def ti91:TI:=⟨1,24,(.slice 207),(.slice i6 0 0)⟩
def ti92:TI:=⟨1,24,(.slice 196),(.slice i6 0 0)⟩
theorem ty92:TyT 92 ti92:=tyO
def ti93:TI:=⟨1,24,(.slice 111),(.slice i6 0 0)⟩
def ti94:TI:=⟨1,24,(.slice 217),(.slice i6 0 0)⟩
def ti96:TI:=⟨7,144,(.struct #[⟨"Name", 9,0, eb, "", "", 0⟩, ⟨"Deferred", 4,1, eb, "", "", 16⟩, ⟨"Formals", 91,2, eb, "", "", 24⟩, ⟨"Parents", 92,3, eb, "", "", 48⟩, ⟨"Create", 22,4, eb, "", "", 72⟩, ⟨"Features", 93,5, eb, "", "", 96⟩, ⟨"Invariant", 94,6, eb, "", "", 120⟩]),(.agg #[.string ⟨#[]⟩,.bool eb,.slice i6 0 0,.slice i6 0 0,.slice i6 0 0,.slice i6 0 0,.slice i6 0 0])⟩
def q5p:TI:=⟨1,24,(.slice 281),(.slice i6 0 0)⟩
theorem q5b:TyT 109 q5p:=tyO
def zer:TI:=⟨15,256,(.struct #[⟨"Kind", 3,0, eb, "", "", 0⟩, ⟨"Name", 9,1, eb, "", "", 8⟩, ⟨"Clients", 22,2, eb, "", "", 24⟩, ⟨"Args", 109,3, eb, "", "", 48⟩, ⟨"Type", 27,4, eb, "", "", 72⟩, ⟨"Locals", 109,9, eb, "", "", 128⟩, ⟨"Require", 94,10, eb, "", "", 152⟩, ⟨"Ensure", 94,11, eb, "", "", 176⟩, ⟨"Body", 36,12, eb, "", "", 200⟩, ⟨"Rescue", 36,13, eb, "", "", 224⟩, ⟨"Rescues", 4,14, eb, "", "", 248⟩]),(.agg #[.int .i64 0,.string ⟨#[]⟩,.slice i6 0 0,.slice i6 0 0,.int .i64 0,.string ⟨#[]⟩,.slice i6 0 0,.bool eb,.bool eb,.slice i6 0 0,.slice i6 0 0,.slice i6 0 0,.slice i6 0 0,.slice i6 0 0,.bool eb])⟩
def zce:TI:=⟨3,24,(.struct #[⟨"at", 29,0, eb, "", "cosigner/read", 0⟩, ⟨"err", 30,2, eb, "", "cosigner/read", 16⟩]),(.agg #[.int .i64 0,.int .i64 0,.int .i64 0])⟩
def ze3:TI:=⟨1,8,(.pointer 154),(.pointer i6)⟩
def zcu:TI:=⟨1,8,(.func #[] #[27] eb),(.nilFunc)⟩
def zqw:TI:=⟨1,8,(.func #[] #[35] eb),(.nilFunc)⟩
def zt8:TI:=⟨1,8,(.func #[116] #[35] eb),(.nilFunc)⟩
def zic:TI:=⟨1,8,(.func #[116] #[36] eb),(.nilFunc)⟩
def z0g:TI:=⟨8,152,(.struct #[⟨"Kind", 3,0, eb, "", "", 0⟩, ⟨"Name", 9,1, eb, "", "", 8⟩, ⟨"N", 3,2, eb, "", "", 24⟩, ⟨"Exprs", 33,3, eb, "", "", 32⟩, ⟨"Tags", 94,4, eb, "", "", 56⟩, ⟨"Init", 36,5, eb, "", "", 80⟩, ⟨"Body", 36,6, eb, "", "", 104⟩, ⟨"Else", 36,7, eb, "", "", 128⟩]),(.agg #[.int .i64 0,.string ⟨#[]⟩,.int .i64 0,.slice i6 0 0,.slice i6 0 0,.slice i6 0 0,.slice i6 0 0,.slice i6 0 0])⟩
def zht:TI:=⟨1,8,(.func #[116] #[49] eb),(.nilFunc)⟩
def q76:TI:=⟨1,8,(.func #[233] #[] eb),(.nilFunc)⟩
theorem ty151:TyT 151 q76:=tyO
def zij:TI:=⟨5,72,(.struct #[⟨"toks", 70,0, eb, "", "cosigner/read", 0⟩, ⟨"at", 3,1, eb, "", "cosigner/read", 24⟩, ⟨"end", 29,2, eb, "", "cosigner/read", 32⟩, ⟨"formals", 22,4, eb, "", "cosigner/read", 48⟩]),(.agg #[.slice i6 0 0,.int .i64 0,.int .i64 0,.int .i64 0,.slice i6 0 0])⟩
def zyj:TI:=⟨2,16,(.struct #[⟨"from", 3,0, eb, "", "cosigner/read", 0⟩, ⟨"to", 3,1, eb, "", "cosigner/read", 8⟩]),(.agg #[.int .i64 0,.int .i64 0])⟩
def zov:TI:=⟨1,8,(.func #[3] #[4] eb),(.nilFunc)⟩
def zrp:TI:=⟨1,24,(.struct #[⟨"words", 22,0, eb, "", "cosigner/read", 0⟩]),(.agg #[.slice i6 0 0])⟩
def zg4:TI:=⟨1,8,(.func #[35] #[] eb),(.nilFunc)⟩
def zqe:TI:=⟨1,8,(.pointer 166),(.pointer i6)⟩
def zop:TI:=⟨1,8,(.func #[76,76] #[4] eb),(.nilFunc)⟩
def zhj:TI:=⟨1,24,(.slice 301),(.slice i6 0 0)⟩
def ztz:TI:=⟨6,136,(.struct #[⟨"Name", 9,0, eb, "", "", 0⟩, ⟨"Args", 25,1, eb, "", "", 16⟩, ⟨"Rename", 194,2, eb, "", "", 40⟩, ⟨"Undefine", 22,3, eb, "", "", 64⟩, ⟨"Redefine", 22,4, eb, "", "", 88⟩, ⟨"Select", 22,5, eb, "", "", 112⟩]),(.agg #[.string ⟨#[]⟩,.slice i6 0 0,.slice i6 0 0,.slice i6 0 0,.slice i6 0 0,.slice i6 0 0])⟩
def zvc:TI:=⟨2,32,(.struct #[⟨"Name", 9,0, eb, "", "", 0⟩, ⟨"Bound", 9,1, eb, "", "", 16⟩]),(.agg #[.string ⟨#[]⟩,.string ⟨#[]⟩])⟩
def zt2:TI:=⟨5,72,(.struct #[⟨"Tag", 9,0, eb, "", "", 0⟩, ⟨"Expr", 35,1, eb, "", "", 16⟩]),(.agg #[.string ⟨#[]⟩,.int .i64 0,.string ⟨#[]⟩,.int .i64 0,.slice i6 0 0])⟩
def zzh:TI:=⟨1,8,(.func #[3,9] #[4] eb),(.nilFunc)⟩
def zi5:TI:=⟨1,8,(.func #[156] #[4] eb),(.nilFunc)⟩
def zny:TI:=⟨1,8,(.func #[321] #[] eb),(.nilFunc)⟩
def q52:TI:=⟨6,56,(.struct #[⟨"Token", 76,0, i7, "", "", 0⟩, ⟨"at", 3,4, eb, "", "cosigner/lex", 40⟩, ⟨"err", 30,5, eb, "", "cosigner/lex", 48⟩]),(.agg #[.int .i64 0,.string ⟨#[]⟩,.int .i64 0,.int .i64 0,.int .i64 0,.int .i64 0])⟩
theorem nh:TyT 240 q52:=tyO
def zz5:TI:=⟨1,8,(.map 4 9),(.map i6)⟩
def zzb:TI:=⟨1,8,(.func #[76] #[4] eb),(.nilFunc)⟩
def zeo:TI:=⟨1,8,(.pointer 253),(.pointer i6)⟩
def zhg:TI:=⟨1,24,(.slice 5),(.slice i6 0 0)⟩
def q8q:TI:=⟨2,32,(.struct #[⟨"addr", 250,0, eb, "", "strings", 0⟩, ⟨"buf", 251,1, eb, "", "strings", 8⟩]),(.agg #[.pointer i6,.slice i6 0 0])⟩
theorem q1s:TyT 253 q8q:=tyO
def zwk:TI:=⟨1,8,(.func #[] #[9] eb),(.nilFunc)⟩
def zg8:TI:=⟨6,72,(.struct #[⟨"Name", 9,0, eb, "", "", 0⟩, ⟨"Type", 27,1, eb, "", "", 16⟩]),(.agg #[.string ⟨#[]⟩,.int .i64 0,.string ⟨#[]⟩,.slice i6 0 0,.bool eb,.bool eb])⟩
def zn1:TI:=⟨1,8,(.func #[] #[207] eb),(.nilFunc)⟩
def zfm:TI:=⟨2,32,(.struct #[⟨"From", 9,0, eb, "", "", 0⟩, ⟨"To", 9,1, eb, "", "", 16⟩]),(.agg #[.string ⟨#[]⟩,.string ⟨#[]⟩])⟩
def zim:TI:=⟨1,8,(.map 9 35),(.map i6)⟩
def zl6:TI:=⟨1,8,(.pointer 134),(.pointer i6)⟩
def zjn:TI:=⟨1,8,(.func #[5] #[4] eb),(.nilFunc)⟩
def zdh:TI:=⟨1,8,(.func #[240] #[4] eb),(.nilFunc)⟩
def zq6:TI:=⟨1,8,(.func #[21] #[4] eb),(.nilFunc)⟩
def zxa:TI:=⟨1,8,(.map 9 3),(.map i6)⟩
def zup:TI:=⟨1,8,(.pointer 5),(.pointer i6)⟩
def zv5:TI:=⟨1,24,(.slice 70),(.slice i6 0 0)⟩
def zbw:TI:=⟨1,24,(.slice 109),(.slice i6 0 0)⟩
def ziz:TI:=⟨1,8,(.func #[] #[301] eb),(.nilFunc)⟩
def zvv:TI:=⟨1,8,(.func #[] #[281] eb),(.nilFunc)⟩
def zh5:TI:=⟨22,352,(.array 22 9),(.agg (fg 22 (.string ⟨#[]⟩)))⟩
def zty:TI:=⟨1,8,(.int .u64),(.int .u64 0)⟩
def zni:TI:=⟨24,24,(.array 24 5),(.agg (fg 24 (.int .u8 0)))⟩
def zix:TI:=⟨1,8,(.int .u64),(.int .u64 0)⟩
def zko:TI:=⟨256,256,(.array 256 5),(.agg (fg 256 (.int .u8 0)))⟩
def zfl:TI:=⟨1,4,(.int .u32),(.int .u32 0)⟩
def zr8:TI:=⟨20,160,(.array 20 372),(.agg #[.int .u64 0,.int .u64 0,.int .u64 0,.int .u64 0,.int .u64 0,.int .u64 0,.int .u64 0,.int .u64 0,.int .u64 0,.int .u64 0,.int .u64 0,.int .u64 0,.int .u64 0,.int .u64 0,.int .u64 0,.int .u64 0,.int .u64 0,.int .u64 0,.int .u64 0,.int .u64 0])⟩
def zef:TI:=⟨65,65,(.array 65 5),(.agg (fg 65 (.int .u8 0)))⟩
def zqk:TI:=⟨32,32,(.array 32 5),(.agg (fg 32 (.int .u8 0)))⟩
def zjl:TI:=⟨64,64,(.array 64 5),(.agg (fg 64 (.int .u8 0)))⟩
noncomputable def ttT:PT TI:=(pN (pS ti1 (pS ti3 (pS ti7 (pN (pN .leaf (pN .leaf (pN (pL ziz) .leaf))) (pN (pN .leaf (pL zvc)) (pL zer))) (pN (pN .leaf (pN (pL zg4) .leaf)) (pS ti55 (pN (pL q76) (pN (pL zv5) .leaf)) (pN (pN (pL zl6) .leaf) .leaf)))) (pS ti11 (pN (pS ti35 (pL ti67) .leaf) (pN .leaf (pN (pN (pL zim) .leaf) (pN (pL zni) .leaf)))) (pS ti27 (pN (pN (pN .leaf (pL zqk)) .leaf) .leaf) (pN (pL ti91) (pN .leaf (pL zhg)))))) (pS ti5 (pS ti9 (pN (pS ti33 (pN (pN .leaf (pL zr8)) (pN (pL zdh) .leaf)) .leaf) (pS ti49 (pL ti81) (pL zce))) (pS ti25 (pN (pN .leaf (pN (pL zxa) .leaf)) (pN .leaf (pS zi5 (pL zh5) .leaf))) (pN (pN (pN (pL zg8) .leaf) (pL zt2)) (pN .leaf (pS zzb (pL zko) .leaf))))) (pN (pS ti21 (pN (pN .leaf (pN (pL zq6) .leaf)) .leaf) (pN .leaf (pL zcu))) (pS ti29 (pN .leaf (pS q5p (pS zop (pL zfm) .leaf) (pL zny))) (pN (pL ti93) (pS zt8 .leaf (pS q8q (pL zfl) .leaf))))))) (pS ti2 (pS ti4 (pS ti8 (pN (pN .leaf (pL ti96)) (pN .leaf (pN .leaf (pL q52)))) (pN (pN .leaf (pN .leaf (pL zzh))) (pN (pN .leaf (pN (pL zbw) .leaf)) .leaf))) (pN (pN (pS ti36 (pN (pN (pL zwk) .leaf) (pL ztz)) (pN (pS zov (pL zn1) .leaf) .leaf)) (pN .leaf (pS ze3 .leaf (pS zz5 (pL zix) .leaf)))) (pN (pN (pS ti76 (pN .leaf (pL zjl)) (pN (pL zup) .leaf)) .leaf) (pN (pS ti92 (pL zyj) .leaf) (pS zqw (pN (pL zjn) .leaf) .leaf))))) (pS ti6 (pS ti10 (pN (pN (pN (pS zic .leaf (pL zef)) (pL zhj)) (pN .leaf (pN (pL zvv) .leaf))) (pN .leaf (pN .leaf (pN (pL zty) .leaf)))) (pN (pN (pN (pL zht) .leaf) (pN (pL zqe) .leaf)) (pN (pN (pL zij) .leaf) (pN .leaf (pL zeo))))) (pN (pS ti22 (pN (pS ti70 (pL z0g) .leaf) (pN (pL zrp) .leaf)) .leaf) (pS ti30 (pS ti46 (pL ti78) .leaf) (pN (pL ti94) .leaf))))))
theorem ttFa:ttT.Fa TyT:=⟨tv,⟨tyO,⟨tyO,⟨tyO,⟨tv,⟨tv,tv,⟨tv,tv,⟨tv,⟨tyO,tv,tv⟩,tv⟩⟩⟩,⟨tv,⟨tv,tv,⟨tyO,tv,tv⟩⟩,⟨tyO,tv,tv⟩⟩⟩,⟨tv,⟨tv,tv,⟨tv,⟨tyO,tv,tv⟩,tv⟩⟩,⟨tyO,⟨tv,⟨tyO,tv,tv⟩,⟨tv,⟨tyO,tv,tv⟩,tv⟩⟩,⟨tv,⟨tv,⟨tyO,tv,tv⟩,tv⟩,tv⟩⟩⟩⟩,⟨tyO,⟨tv,⟨tyO,⟨tyO,tv,tv⟩,tv⟩,⟨tv,tv,⟨tv,⟨tv,⟨tyO,tv,tv⟩,tv⟩,⟨tv,⟨tyO,tv,tv⟩,tv⟩⟩⟩⟩,⟨tyO,⟨tv,⟨tv,⟨tv,tv,⟨tyO,tv,tv⟩⟩,tv⟩,tv⟩,⟨tv,⟨tyO,tv,tv⟩,⟨tv,tv,⟨tyO,tv,tv⟩⟩⟩⟩⟩⟩,⟨tyO,⟨tyO,⟨tv,⟨tyO,⟨tv,⟨tv,tv,⟨tyO,tv,tv⟩⟩,⟨tv,⟨tyO,tv,tv⟩,tv⟩⟩,tv⟩,⟨tyO,⟨tyO,tv,tv⟩,⟨tyO,tv,tv⟩⟩⟩,⟨tyO,⟨tv,⟨tv,tv,⟨tv,⟨tyO,tv,tv⟩,tv⟩⟩,⟨tv,tv,⟨tyO,⟨tyO,tv,tv⟩,tv⟩⟩⟩,⟨tv,⟨tv,⟨tv,⟨tyO,tv,tv⟩,tv⟩,⟨tyO,tv,tv⟩⟩,⟨tv,tv,⟨tyO,⟨tyO,tv,tv⟩,tv⟩⟩⟩⟩⟩,⟨tv,⟨tyO,⟨tv,⟨tv,tv,⟨tv,⟨tyO,tv,tv⟩,tv⟩⟩,tv⟩,⟨tv,tv,⟨tyO,tv,tv⟩⟩⟩,⟨tyO,⟨tv,tv,⟨tyO,⟨tyO,⟨tyO,tv,tv⟩,tv⟩,⟨tyO,tv,tv⟩⟩⟩,⟨tv,⟨tyO,tv,tv⟩,⟨tyO,tv,⟨tyO,⟨tyO,tv,tv⟩,tv⟩⟩⟩⟩⟩⟩⟩,⟨tyO,⟨tyO,⟨tyO,⟨tv,⟨tv,tv,⟨tyO,tv,tv⟩⟩,⟨tv,tv,⟨tv,tv,⟨tyO,tv,tv⟩⟩⟩⟩,⟨tv,⟨tv,tv,⟨tv,tv,⟨tyO,tv,tv⟩⟩⟩,⟨tv,⟨tv,tv,⟨tv,⟨tyO,tv,tv⟩,tv⟩⟩,tv⟩⟩⟩,⟨tv,⟨tv,⟨tyO,⟨tv,⟨tv,⟨tyO,tv,tv⟩,tv⟩,⟨tyO,tv,tv⟩⟩,⟨tv,⟨tyO,⟨tyO,tv,tv⟩,tv⟩,tv⟩⟩,⟨tv,tv,⟨tyO,tv,⟨tyO,⟨tyO,tv,tv⟩,tv⟩⟩⟩⟩,⟨tv,⟨tv,⟨tyO,⟨tv,tv,⟨tyO,tv,tv⟩⟩,⟨tv,⟨tyO,tv,tv⟩,tv⟩⟩,tv⟩,⟨tv,⟨tyO,⟨tyO,tv,tv⟩,tv⟩,⟨tyO,⟨tv,⟨tyO,tv,tv⟩,tv⟩,tv⟩⟩⟩⟩⟩,⟨tyO,⟨tyO,⟨tv,⟨tv,⟨tv,⟨tyO,tv,⟨tyO,tv,tv⟩⟩,⟨tyO,tv,tv⟩⟩,⟨tv,tv,⟨tv,⟨tyO,tv,tv⟩,tv⟩⟩⟩,⟨tv,tv,⟨tv,tv,⟨tv,⟨tyO,tv,tv⟩,tv⟩⟩⟩⟩,⟨tv,⟨tv,⟨tv,⟨tyO,tv,tv⟩,tv⟩,⟨tv,⟨tyO,tv,tv⟩,tv⟩⟩,⟨tv,⟨tv,⟨tyO,tv,tv⟩,tv⟩,⟨tv,tv,⟨tyO,tv,tv⟩⟩⟩⟩⟩,⟨tv,⟨tyO,⟨tv,⟨tyO,⟨tyO,tv,tv⟩,tv⟩,⟨tv,⟨tyO,tv,tv⟩,tv⟩⟩,tv⟩,⟨tyO,⟨tyO,⟨tyO,tv,tv⟩,tv⟩,⟨tv,⟨tyO,tv,tv⟩,tv⟩⟩⟩⟩⟩⟩
theorem ttOK:TT oa ttT.get:=fun T a h=>PT.fa ttFa T a h
def fbO(f:Func):fw:=match f.body with|some c=>c|none=>.skip
def mkF(f:Func):FI:=⟨f.ntmps,f.results.toList,fbO f⟩
def okF (f:Func):Bool:=f.body.isSome&&(!(f.name == "runtime.NumGoroutine") && qi (fbO f))
theorem qe4 {f:Func} (h:okF f=i7):f.body=iz (fbO f)/\(f.name == "runtime.NumGoroutine") = eb/\qi (fbO f)=i7:=by
 unfold okF at h;rw[xf,xf,dt] at h;refine⟨?_,h.2⟩;unfold fbO;cases a:f.body with
 | none=>rw[a] at h;exact absurd h.1 (by decide)
 | some c=>rfl
theorem foO{k:Nat}{f:Func}(h:Tryz.prog.funcs[k]?=iz f)(c:okF f=i7:=by kernel_rfl):FIok oa k (mkF f):=⟨f,h,(qe4 c).1,rfl,(Array.toArray_toList).symm,(qe4 c).2.1,(qe4 c).2.2⟩
theorem cOf{k:Nat}{f:Func}(h:Tryz.prog.funcs[k]?=iz f)(c:okF f=i7:=by kernel_rfl):zg oa k:=⟨f,h,by rw[(qe4 c).1];rfl,(qe4 c).2.1⟩
noncomputable def fi6:FI:=mkF Tryz.f6
theorem cal6:zg oa 6:=cOf Tryz.func6
theorem zxz:zg oa 12:=cOf Tryz.func12
noncomputable def fi16:FI:=mkF Tryz.f16
theorem zi2:zg oa 16:=cOf Tryz.func16
noncomputable def fi21:FI:=mkF Tryz.f21
theorem q07:zg oa 21:=cOf Tryz.func21
noncomputable def fi31:FI:=mkF Tryz.f31
theorem zpy:zg oa 31:=cOf Tryz.func31
noncomputable def fi32:FI:=mkF Tryz.f32
noncomputable def fi33:FI:=mkF Tryz.f33
theorem q5m:zg oa 33:=cOf Tryz.func33
noncomputable def fi34:FI:=mkF Tryz.f34
theorem zeg:zg oa 34:=cOf Tryz.func34
noncomputable def fi35:FI:=mkF Tryz.f35
theorem zml:zg oa 35:=cOf Tryz.func35
noncomputable def fi45:FI:=mkF Tryz.f45
noncomputable def fi54:FI:=mkF Tryz.f54
theorem q47:zg oa 54:=cOf Tryz.func54
noncomputable def fi56:FI:=mkF Tryz.f56
theorem zbq:zg oa 56:=cOf Tryz.func56
noncomputable def fi57:FI:=mkF Tryz.f57
theorem zd4:zg oa 57:=cOf Tryz.func57
noncomputable def fi58:FI:=mkF Tryz.f58
theorem ztu:zg oa 58:=cOf Tryz.func58
noncomputable def fi67:FI:=mkF Tryz.f67
theorem q8t:zg oa 67:=cOf Tryz.func67
noncomputable def fi73:FI:=mkF Tryz.f73
theorem zq4:zg oa 73:=cOf Tryz.func73
noncomputable def fi86:FI:=mkF Tryz.f86
theorem q9x:zg oa 86:=cOf Tryz.func86
theorem zno:zg oa 87:=cOf Tryz.func87
noncomputable def fi89:FI:=mkF Tryz.f89
theorem qxz:zg oa 89:=cOf Tryz.func89
noncomputable def fi91:FI:=mkF Tryz.f91
theorem q7x:zg oa 91:=cOf Tryz.func91
noncomputable def fi93:FI:=mkF Tryz.f93
theorem qzc:zg oa 93:=cOf Tryz.func93
noncomputable def ze4:FI:=mkF Tryz.f113
theorem zvq:zg oa 115:=cOf Tryz.func115
noncomputable def q14:FI:=mkF Tryz.f116
theorem zyt:zg oa 116:=cOf Tryz.func116
noncomputable def ui:FI:=mkF Tryz.f137
theorem zw6:zg oa 137:=cOf Tryz.func137
noncomputable def uc:FI:=mkF Tryz.f138
theorem zv8:zg oa 138:=cOf Tryz.func138
noncomputable def tq:FI:=mkF Tryz.f139
theorem zos:zg oa 139:=cOf Tryz.func139
noncomputable def q5a:FI:=mkF Tryz.f140
theorem zc7:zg oa 140:=cOf Tryz.func140
noncomputable def uq:FI:=mkF Tryz.f141
theorem zoh:zg oa 141:=cOf Tryz.func141
noncomputable def bo:FI:=mkF Tryz.f142
theorem zkp:zg oa 142:=cOf Tryz.func142
noncomputable def uu:FI:=mkF Tryz.f144
theorem zh2:zg oa 144:=cOf Tryz.func144
noncomputable def vb:FI:=mkF Tryz.f146
theorem q9l:zg oa 146:=cOf Tryz.func146
noncomputable def q0y:FI:=mkF Tryz.f157
theorem zs9:zg oa 157:=cOf Tryz.func157
noncomputable def y5:FI:=mkF Tryz.f163
theorem zxm:zg oa 163:=cOf Tryz.func163
noncomputable def qaf:FI:=mkF Tryz.f165
theorem zdd:zg oa 165:=cOf Tryz.func165
theorem zcq:zg oa 166:=cOf Tryz.func166
noncomputable def tx:FI:=mkF Tryz.f167
theorem zpa:zg oa 167:=cOf Tryz.func167
noncomputable def qat:FI:=mkF Tryz.f168
theorem zkd:zg oa 168:=cOf Tryz.func168
noncomputable def q0v:FI:=mkF Tryz.f169
theorem zot:zg oa 169:=cOf Tryz.func169
noncomputable def uf:FI:=mkF Tryz.f170
theorem zca:zg oa 170:=cOf Tryz.func170
noncomputable def ut:FI:=mkF Tryz.f172
theorem zmi:zg oa 172:=cOf Tryz.func172
noncomputable def q3b:FI:=mkF Tryz.f175
theorem zsv:zg oa 175:=cOf Tryz.func175
theorem zky:zg oa 179:=cOf Tryz.func179
noncomputable def uz:FI:=mkF Tryz.f204
theorem zw9:zg oa 204:=cOf Tryz.func204
noncomputable def ug:FI:=mkF Tryz.f205
theorem ze1:zg oa 205:=cOf Tryz.func205
noncomputable def ta:FI:=mkF Tryz.f217
theorem zc4:zg oa 217:=cOf Tryz.func217
noncomputable def bh:FI:=mkF Tryz.f242
theorem zro:zg oa 242:=cOf Tryz.func242
noncomputable def bi:FI:=mkF Tryz.f243
theorem zpu:zg oa 243:=cOf Tryz.func243
noncomputable def bn:FI:=mkF Tryz.f244
theorem q7p:zg oa 244:=cOf Tryz.func244
noncomputable def wo:FI:=mkF Tryz.f245
theorem zo0:zg oa 245:=cOf Tryz.func245
noncomputable def q9n:FI:=mkF Tryz.f246
theorem zeb:zg oa 246:=cOf Tryz.func246
noncomputable def y0:FI:=mkF Tryz.f249
theorem zsh:zg oa 249:=cOf Tryz.func249
noncomputable def ua:FI:=mkF Tryz.f250
theorem zaa:zg oa 250:=cOf Tryz.func250
noncomputable def q41:FI:=mkF Tryz.f254
theorem zrt:zg oa 254:=cOf Tryz.func254
theorem zk9:zg oa 268:=cOf Tryz.func268
theorem zsg:zg oa 269:=cOf Tryz.func269
theorem zx9:zg oa 270:=cOf Tryz.func270
noncomputable def ue:FI:=mkF Tryz.f271
theorem q7d:zg oa 271:=cOf Tryz.func271
noncomputable def q84:FI:=mkF Tryz.f272
theorem q00:zg oa 272:=cOf Tryz.func272
noncomputable def qba:FI:=mkF Tryz.f273
theorem qzl:zg oa 273:=cOf Tryz.func273
noncomputable def q7w:FI:=mkF Tryz.f275
theorem qxo:zg oa 275:=cOf Tryz.func275
theorem qy7:zg oa 276:=cOf Tryz.func276
theorem zsr:zg oa 278:=cOf Tryz.func278
noncomputable def u7:FI:=mkF Tryz.f280
theorem zxd:zg oa 280:=cOf Tryz.func280
noncomputable def qm7:fw:=fbO Tryz.f282
noncomputable def qwd:FI:=mkF Tryz.f282
theorem z0i:FIok oa 282 qwd:=foO Tryz.func282
theorem znp:zg oa 283:=cOf Tryz.func283
theorem zys:zg oa 305:=cOf Tryz.func305
noncomputable def wz:FI:=mkF Tryz.f327
theorem q7g:zg oa 327:=cOf Tryz.func327
noncomputable def wx:FI:=mkF Tryz.f328
theorem znn:zg oa 328:=cOf Tryz.func328
noncomputable def uw:FI:=mkF Tryz.f331
theorem zgy:zg oa 331:=cOf Tryz.func331
noncomputable def bj:FI:=mkF Tryz.f337
theorem zcc:zg oa 337:=cOf Tryz.func337
noncomputable def qnh:fw:=fbO Tryz.f340
noncomputable def qve:FI:=mkF Tryz.f340
theorem zv1:FIok oa 340 qve:=foO Tryz.func340
noncomputable def qw9:FI:=mkF Tryz.f342
theorem zpc:zg oa 342:=cOf Tryz.func342
noncomputable def y7:FI:=mkF Tryz.f358
theorem q72:zg oa 358:=cOf Tryz.func358
noncomputable def qu:FI:=mkF Tryz.f359
theorem qv4:zg oa 359:=cOf Tryz.func359
theorem zzw:zg oa 364:=cOf Tryz.func364
theorem zhi:zg oa 366:=cOf Tryz.func366
noncomputable def ftT:PT FI:=(pN (pN (pN (pN (pN (pS fi31 (pS (mkF Tryz.f63) (pN .leaf (pL (mkF Tryz.f383))) (pN (pL (mkF Tryz.f319)) .leaf)) (pN (pL (mkF Tryz.f159)) (pL (mkF Tryz.f223)))) (pN (pN (pS (mkF Tryz.f143) (pL ue) .leaf) (pL (mkF Tryz.f207))) (pN (pL q3b) .leaf))) (pS (mkF Tryz.f23) (pN (pS (mkF Tryz.f71) .leaf (pN (pL wz) .leaf)) (pN (pL tx) (pN (pL qu) .leaf))) (pN (pS (mkF Tryz.f87) (pS (mkF Tryz.f151) (pL (mkF Tryz.f279)) .leaf) (pN (pL (mkF Tryz.f343)) .leaf)) (pN (pN (pL (mkF Tryz.f311)) .leaf) (pL (mkF Tryz.f247)))))) (pN (pN (pS fi35 (pS fi67 .leaf (pN (pL (mkF Tryz.f323)) .leaf)) (pN (pL y5) (pL (mkF Tryz.f227)))) (pN (pS (mkF Tryz.f83) (pS (mkF Tryz.f147) (pL q7w) .leaf) (pN (pL (mkF Tryz.f339)) .leaf)) (pS (mkF Tryz.f115) (pL (mkF Tryz.f179)) (pS bi (pL (mkF Tryz.f371)) .leaf)))) (pN (pN (pS (mkF Tryz.f75) (pL tq) (pN (pL uw) .leaf)) (pN (pL (mkF Tryz.f171)) (pN (pL (mkF Tryz.f363)) .leaf))) (pN (pS fi91 (pN (pL (mkF Tryz.f283)) .leaf) (pL (mkF Tryz.f219))) (pN (pN (pL (mkF Tryz.f315)) .leaf) (pL (mkF Tryz.f251))))))) (pN (pN (pN (pS fi33 (pS (mkF Tryz.f65) (pN .leaf (pL (mkF Tryz.f385))) (pN (pL (mkF Tryz.f321)) .leaf)) (pN .leaf (pL (mkF Tryz.f225)))) (pN (pS (mkF Tryz.f81) (pS (mkF Tryz.f145) (pL qba) .leaf) (pN (pL bj) .leaf)) (pS ze4 (pS (mkF Tryz.f177) (pL (mkF Tryz.f305)) .leaf) .leaf))) (pS (mkF Tryz.f25) (pN (pS fi73 (pL ui) (pN (pL (mkF Tryz.f329)) .leaf)) (pN (pL q0v) (pN (pL (mkF Tryz.f361)) .leaf))) (pS fi57 (pS fi89 (pN (pL (mkF Tryz.f281)) .leaf) (pS ta (pL (mkF Tryz.f345)) .leaf)) (pS (mkF Tryz.f121) (pN (pL (mkF Tryz.f313)) .leaf) (pL y0))))) (pN (pS fi21 (pN (pS (mkF Tryz.f69) (pN .leaf (pL (mkF Tryz.f389))) .leaf) (pN (pL qaf) (pL (mkF Tryz.f229)))) (pN (pN (pL (mkF Tryz.f149)) (pN (pL (mkF Tryz.f341)) .leaf)) (pN .leaf (pS wo (pL (mkF Tryz.f373)) .leaf)))) (pN (pS fi45 (pN (pS uq (pL (mkF Tryz.f269)) .leaf) (pL ug)) (pN (pL (mkF Tryz.f173)) .leaf)) (pS (mkF Tryz.f61) (pS fi93 (pL q0y) (pL (mkF Tryz.f221))) (pN (pN (pL (mkF Tryz.f317)) .leaf) (pS (mkF Tryz.f253) (pL (mkF Tryz.f381)) .leaf))))))) (pN (pN (pN (pS fi16 (pS fi32 (pN (pN .leaf (pL (mkF Tryz.f384))) (pN (pL (mkF Tryz.f320)) .leaf)) (pN .leaf (pL (mkF Tryz.f224)))) (pN (pS (mkF Tryz.f80) (pS uu (pL q84) .leaf) .leaf) (pN (pL (mkF Tryz.f176)) .leaf))) (pN (pN (pN .leaf (pN (pL wx) .leaf)) (pN (pL qat) (pN (pL (mkF Tryz.f360)) .leaf))) (pS fi56 (pS (mkF Tryz.f88) (pN (pL u7) .leaf) .leaf) (pN (pN (pL (mkF Tryz.f312)) .leaf) (pL (mkF Tryz.f248)))))) (pS (mkF Tryz.f12) (pN (pN (pS (mkF Tryz.f68) .leaf (pN (pL (mkF Tryz.f324)) .leaf)) (pN (pL (mkF Tryz.f164)) (pL (mkF Tryz.f228)))) (pN (pN (pS (mkF Tryz.f148) (pL (mkF Tryz.f276)) .leaf) (pN (pL qve) .leaf)) (pS q14 .leaf (pS bn (pL (mkF Tryz.f372)) .leaf)))) (pN (pN (pS (mkF Tryz.f76) (pS q5a (pL (mkF Tryz.f268)) .leaf) (pL uz)) (pN (pL ut) (pN (pL (mkF Tryz.f364)) .leaf))) (pN (pS (mkF Tryz.f92) .leaf (pL (mkF Tryz.f220))) (pN (pN (pL (mkF Tryz.f316)) .leaf) (pL (mkF Tryz.f252))))))) (pS fi6 (pN (pS (mkF Tryz.f18) (pS fi34 (pS (mkF Tryz.f66) .leaf (pN (pL (mkF Tryz.f322)) .leaf)) (pN (pL (mkF Tryz.f162)) (pL (mkF Tryz.f226)))) (pN (pN (pS vb (pL (mkF Tryz.f274)) .leaf) (pN (pL (mkF Tryz.f338)) .leaf)) (pN (pL (mkF Tryz.f178)) (pS bh (pL (mkF Tryz.f370)) .leaf)))) (pN (pN (pN (pL uc) (pN (pL (mkF Tryz.f330)) .leaf)) (pN (pL uf) (pN (pL (mkF Tryz.f362)) .leaf))) (pS fi58 (pS (mkF Tryz.f90) (pN (pL qwd) .leaf) (pS (mkF Tryz.f218) (pL (mkF Tryz.f346)) .leaf)) (pN (pN (pL (mkF Tryz.f314)) .leaf) (pS ua (pL (mkF Tryz.f378)) .leaf))))) (pN (pN (pN (pS (mkF Tryz.f70) (pN .leaf (pL (mkF Tryz.f390))) (pL (mkF Tryz.f198))) (pN (pL (mkF Tryz.f166)) (pS (mkF Tryz.f230) (pL y7) .leaf))) (pS fi54 (pS fi86 (pS (mkF Tryz.f150) (pL (mkF Tryz.f278)) .leaf) (pN (pL qw9) .leaf)) (pS (mkF Tryz.f118) (pN (pL (mkF Tryz.f310)) .leaf) (pL q9n)))) (pN (pN (pN (pS bo (pL (mkF Tryz.f270)) .leaf) (pL (mkF Tryz.f206))) (pN (pL (mkF Tryz.f174)) (pN (pL (mkF Tryz.f366)) .leaf))) (pS (mkF Tryz.f62) (pS (mkF Tryz.f94) (pL (mkF Tryz.f158)) (pL (mkF Tryz.f222))) (pN (pN (pL (mkF Tryz.f318)) .leaf) (pS q41 (pL (mkF Tryz.f382)) .leaf))))))))
theorem ftFa:ftT.Fa (FIok oa):=⟨tv,⟨tv,⟨tv,⟨tv,⟨tv,⟨foO Tryz.func31,⟨foO Tryz.func63,⟨tv,tv,⟨foO Tryz.func383,tv,tv⟩⟩,⟨tv,⟨foO Tryz.func319,tv,tv⟩,tv⟩⟩,⟨tv,⟨foO Tryz.func159,tv,tv⟩,⟨foO Tryz.func223,tv,tv⟩⟩⟩,⟨tv,⟨tv,⟨foO Tryz.func143,⟨foO Tryz.func271,tv,tv⟩,tv⟩,⟨foO Tryz.func207,tv,tv⟩⟩,⟨tv,⟨foO Tryz.func175,tv,tv⟩,tv⟩⟩⟩,⟨foO Tryz.func23,⟨tv,⟨foO Tryz.func71,tv,⟨tv,⟨foO Tryz.func327,tv,tv⟩,tv⟩⟩,⟨tv,⟨foO Tryz.func167,tv,tv⟩,⟨tv,⟨foO Tryz.func359,tv,tv⟩,tv⟩⟩⟩,⟨tv,⟨foO Tryz.func87,⟨foO Tryz.func151,⟨foO Tryz.func279,tv,tv⟩,tv⟩,⟨tv,⟨foO Tryz.func343,tv,tv⟩,tv⟩⟩,⟨tv,⟨tv,⟨foO Tryz.func311,tv,tv⟩,tv⟩,⟨foO Tryz.func247,tv,tv⟩⟩⟩⟩⟩,⟨tv,⟨tv,⟨foO Tryz.func35,⟨foO Tryz.func67,tv,⟨tv,⟨foO Tryz.func323,tv,tv⟩,tv⟩⟩,⟨tv,⟨foO Tryz.func163,tv,tv⟩,⟨foO Tryz.func227,tv,tv⟩⟩⟩,⟨tv,⟨foO Tryz.func83,⟨foO Tryz.func147,⟨foO Tryz.func275,tv,tv⟩,tv⟩,⟨tv,⟨foO Tryz.func339,tv,tv⟩,tv⟩⟩,⟨foO Tryz.func115,⟨foO Tryz.func179,tv,tv⟩,⟨foO Tryz.func243,⟨foO Tryz.func371,tv,tv⟩,tv⟩⟩⟩⟩,⟨tv,⟨tv,⟨foO Tryz.func75,⟨foO Tryz.func139,tv,tv⟩,⟨tv,⟨foO Tryz.func331,tv,tv⟩,tv⟩⟩,⟨tv,⟨foO Tryz.func171,tv,tv⟩,⟨tv,⟨foO Tryz.func363,tv,tv⟩,tv⟩⟩⟩,⟨tv,⟨foO Tryz.func91,⟨tv,⟨foO Tryz.func283,tv,tv⟩,tv⟩,⟨foO Tryz.func219,tv,tv⟩⟩,⟨tv,⟨tv,⟨foO Tryz.func315,tv,tv⟩,tv⟩,⟨foO Tryz.func251,tv,tv⟩⟩⟩⟩⟩⟩,⟨tv,⟨tv,⟨tv,⟨foO Tryz.func33,⟨foO Tryz.func65,⟨tv,tv,⟨foO Tryz.func385,tv,tv⟩⟩,⟨tv,⟨foO Tryz.func321,tv,tv⟩,tv⟩⟩,⟨tv,tv,⟨foO Tryz.func225,tv,tv⟩⟩⟩,⟨tv,⟨foO Tryz.func81,⟨foO Tryz.func145,⟨foO Tryz.func273,tv,tv⟩,tv⟩,⟨tv,⟨foO Tryz.func337,tv,tv⟩,tv⟩⟩,⟨foO Tryz.func113,⟨foO Tryz.func177,⟨foO Tryz.func305,tv,tv⟩,tv⟩,tv⟩⟩⟩,⟨foO Tryz.func25,⟨tv,⟨foO Tryz.func73,⟨foO Tryz.func137,tv,tv⟩,⟨tv,⟨foO Tryz.func329,tv,tv⟩,tv⟩⟩,⟨tv,⟨foO Tryz.func169,tv,tv⟩,⟨tv,⟨foO Tryz.func361,tv,tv⟩,tv⟩⟩⟩,⟨foO Tryz.func57,⟨foO Tryz.func89,⟨tv,⟨foO Tryz.func281,tv,tv⟩,tv⟩,⟨foO Tryz.func217,⟨foO Tryz.func345,tv,tv⟩,tv⟩⟩,⟨foO Tryz.func121,⟨tv,⟨foO Tryz.func313,tv,tv⟩,tv⟩,⟨foO Tryz.func249,tv,tv⟩⟩⟩⟩⟩,⟨tv,⟨foO Tryz.func21,⟨tv,⟨foO Tryz.func69,⟨tv,tv,⟨foO Tryz.func389,tv,tv⟩⟩,tv⟩,⟨tv,⟨foO Tryz.func165,tv,tv⟩,⟨foO Tryz.func229,tv,tv⟩⟩⟩,⟨tv,⟨tv,⟨foO Tryz.func149,tv,tv⟩,⟨tv,⟨foO Tryz.func341,tv,tv⟩,tv⟩⟩,⟨tv,tv,⟨foO Tryz.func245,⟨foO Tryz.func373,tv,tv⟩,tv⟩⟩⟩⟩,⟨tv,⟨foO Tryz.func45,⟨tv,⟨foO Tryz.func141,⟨foO Tryz.func269,tv,tv⟩,tv⟩,⟨foO Tryz.func205,tv,tv⟩⟩,⟨tv,⟨foO Tryz.func173,tv,tv⟩,tv⟩⟩,⟨foO Tryz.func61,⟨foO Tryz.func93,⟨foO Tryz.func157,tv,tv⟩,⟨foO Tryz.func221,tv,tv⟩⟩,⟨tv,⟨tv,⟨foO Tryz.func317,tv,tv⟩,tv⟩,⟨foO Tryz.func253,⟨foO Tryz.func381,tv,tv⟩,tv⟩⟩⟩⟩⟩⟩⟩,⟨tv,⟨tv,⟨tv,⟨foO Tryz.func16,⟨foO Tryz.func32,⟨tv,⟨tv,tv,⟨foO Tryz.func384,tv,tv⟩⟩,⟨tv,⟨foO Tryz.func320,tv,tv⟩,tv⟩⟩,⟨tv,tv,⟨foO Tryz.func224,tv,tv⟩⟩⟩,⟨tv,⟨foO Tryz.func80,⟨foO Tryz.func144,⟨foO Tryz.func272,tv,tv⟩,tv⟩,tv⟩,⟨tv,⟨foO Tryz.func176,tv,tv⟩,tv⟩⟩⟩,⟨tv,⟨tv,⟨tv,tv,⟨tv,⟨foO Tryz.func328,tv,tv⟩,tv⟩⟩,⟨tv,⟨foO Tryz.func168,tv,tv⟩,⟨tv,⟨foO Tryz.func360,tv,tv⟩,tv⟩⟩⟩,⟨foO Tryz.func56,⟨foO Tryz.func88,⟨tv,⟨foO Tryz.func280,tv,tv⟩,tv⟩,tv⟩,⟨tv,⟨tv,⟨foO Tryz.func312,tv,tv⟩,tv⟩,⟨foO Tryz.func248,tv,tv⟩⟩⟩⟩⟩,⟨foO Tryz.func12,⟨tv,⟨tv,⟨foO Tryz.func68,tv,⟨tv,⟨foO Tryz.func324,tv,tv⟩,tv⟩⟩,⟨tv,⟨foO Tryz.func164,tv,tv⟩,⟨foO Tryz.func228,tv,tv⟩⟩⟩,⟨tv,⟨tv,⟨foO Tryz.func148,⟨foO Tryz.func276,tv,tv⟩,tv⟩,⟨tv,⟨foO Tryz.func340,tv,tv⟩,tv⟩⟩,⟨foO Tryz.func116,tv,⟨foO Tryz.func244,⟨foO Tryz.func372,tv,tv⟩,tv⟩⟩⟩⟩,⟨tv,⟨tv,⟨foO Tryz.func76,⟨foO Tryz.func140,⟨foO Tryz.func268,tv,tv⟩,tv⟩,⟨foO Tryz.func204,tv,tv⟩⟩,⟨tv,⟨foO Tryz.func172,tv,tv⟩,⟨tv,⟨foO Tryz.func364,tv,tv⟩,tv⟩⟩⟩,⟨tv,⟨foO Tryz.func92,tv,⟨foO Tryz.func220,tv,tv⟩⟩,⟨tv,⟨tv,⟨foO Tryz.func316,tv,tv⟩,tv⟩,⟨foO Tryz.func252,tv,tv⟩⟩⟩⟩⟩⟩,⟨foO Tryz.func6,⟨tv,⟨foO Tryz.func18,⟨foO Tryz.func34,⟨foO Tryz.func66,tv,⟨tv,⟨foO Tryz.func322,tv,tv⟩,tv⟩⟩,⟨tv,⟨foO Tryz.func162,tv,tv⟩,⟨foO Tryz.func226,tv,tv⟩⟩⟩,⟨tv,⟨tv,⟨foO Tryz.func146,⟨foO Tryz.func274,tv,tv⟩,tv⟩,⟨tv,⟨foO Tryz.func338,tv,tv⟩,tv⟩⟩,⟨tv,⟨foO Tryz.func178,tv,tv⟩,⟨foO Tryz.func242,⟨foO Tryz.func370,tv,tv⟩,tv⟩⟩⟩⟩,⟨tv,⟨tv,⟨tv,⟨foO Tryz.func138,tv,tv⟩,⟨tv,⟨foO Tryz.func330,tv,tv⟩,tv⟩⟩,⟨tv,⟨foO Tryz.func170,tv,tv⟩,⟨tv,⟨foO Tryz.func362,tv,tv⟩,tv⟩⟩⟩,⟨foO Tryz.func58,⟨foO Tryz.func90,⟨tv,⟨foO Tryz.func282,tv,tv⟩,tv⟩,⟨foO Tryz.func218,⟨foO Tryz.func346,tv,tv⟩,tv⟩⟩,⟨tv,⟨tv,⟨foO Tryz.func314,tv,tv⟩,tv⟩,⟨foO Tryz.func250,⟨foO Tryz.func378,tv,tv⟩,tv⟩⟩⟩⟩⟩,⟨tv,⟨tv,⟨tv,⟨foO Tryz.func70,⟨tv,tv,⟨foO Tryz.func390,tv,tv⟩⟩,⟨foO Tryz.func198,tv,tv⟩⟩,⟨tv,⟨foO Tryz.func166,tv,tv⟩,⟨foO Tryz.func230,⟨foO Tryz.func358,tv,tv⟩,tv⟩⟩⟩,⟨foO Tryz.func54,⟨foO Tryz.func86,⟨foO Tryz.func150,⟨foO Tryz.func278,tv,tv⟩,tv⟩,⟨tv,⟨foO Tryz.func342,tv,tv⟩,tv⟩⟩,⟨foO Tryz.func118,⟨tv,⟨foO Tryz.func310,tv,tv⟩,tv⟩,⟨foO Tryz.func246,tv,tv⟩⟩⟩⟩,⟨tv,⟨tv,⟨tv,⟨foO Tryz.func142,⟨foO Tryz.func270,tv,tv⟩,tv⟩,⟨foO Tryz.func206,tv,tv⟩⟩,⟨tv,⟨foO Tryz.func174,tv,tv⟩,⟨tv,⟨foO Tryz.func366,tv,tv⟩,tv⟩⟩⟩,⟨foO Tryz.func62,⟨foO Tryz.func94,⟨foO Tryz.func158,tv,tv⟩,⟨foO Tryz.func222,tv,tv⟩⟩,⟨tv,⟨tv,⟨foO Tryz.func318,tv,tv⟩,tv⟩,⟨foO Tryz.func254,⟨foO Tryz.func382,tv,tv⟩,tv⟩⟩⟩⟩⟩⟩⟩⟩
theorem ftOK:FT oa ftT.get:=fun f a h=>PT.fa ftFa f a h
theorem mixed:Tryz.prog.follows .mixedOrders=i7:=by kernel_rfl
theorem cm3:Tryz.prog.follows .mixedOrders=i7/\TT oa ttT.get/\FT oa ftT.get:=⟨mixed,ttOK,ftOK⟩
end Go.Proofs.YtaepcfidpcoofaaGreatDoor
end

noncomputable section
namespace Go.Jx
open Go Go.Sx Go.RowKit
universe u

def regs:fw->Lz Nat
 | .region id _ _=>[id]
 | .seq a b=>regs a++regs b
 | .cond _ a b=>regs a++regs b
 | .block _ c=>regs c
 | .scope c=>regs c
 | .loop c=>regs c
 | _=>[]
def hasR(k:Nat)(c:fw):Bool:=(regs c).any fun i=>od i k
section
variable {R : Type} (P : om) (tt : Nat -> Oq TI) (nm : Nat -> Oq Nm) (B : Nat) (nt : Nat) (cl : ClK R) (lf : Nat)
def vy(ops:Lz o8)(draw:Bool)(x:NRes)(kk:CRes->Oq R):Oq R :=
 cond draw (qk7 P tt nt cl ops x.fr x.S fun q=>kk (mbR (mB nm B) ⟨exP q.p,q.fr,q.S,x.ds,q.rd,x.wr ||| q.wr⟩))
  (qbi P tt nt cl ops ops x.fr x.S fun q=>kk (mbR (mB nm B) ⟨exP q.p,q.fr,q.S,x.ds,q.rd,x.wr ||| q.wr⟩))
def qo(k:Nat):fw->Lz Nat->NRes->(CRes->Oq R)->Oq R
 | .region id ops draw,ns,x,kk=>cond (od id k) (vy P tt nm B nt cl ops.toList draw x kk) i6
 | .seq a b,ns,x,kk=>cond (hasR k a) (qo k a ns x fun r=>match r.e with
  | .normal=>zy P tt nm B nt cl lf i6 b r.fr r.S r.ds fun q=>kk (q.or r.rd r.wr)
  | _=>kk r) (qo k b ns x kk)
 | .cond c a b,ns,x,kk=>cond (hasR k a) (qo k a ns x kk) (qo k b ns x kk)
 | .block id c,ns,x,kk=>qo k c ns x fun r=>match r.e with
  | .exit id'=>cond (od id' id) (kk ⟨.normal,r.fr,r.S,r.ds,r.rd,r.wr⟩) (kk r)
  | _=>kk r
 | .scope c,ns,x,kk=>qo k c ns x fun r=>match r.e with
  | .goto _=>i6
  | _=>kk r
 | .loop c,ns,x,kk=>match ns with
  | []=>i6
  | n::ns=>match vz nm c with
   | none=>i6
   | some m=>qo k c ns x fun r=>cond (subm r.rd m.1&&subm r.wr m.2) (match r.e with
    | .normal=>ca (zy P tt nm B nt cl lf i6 c) m.1 m.2 n r.fr r.S r.ds fun r=>kk (mbR (mB nm B) r)
    | e=>kk (mbR (mB nm B) ⟨e,r.fr,r.S,r.ds,m.1,m.2⟩)) i6
 | _,_,_,_=>i6
end
theorem qmv{k:Nat}{c:fw}:hasR k c=i7↔k∈regs c:=by
 unfold hasR;rw[r6];constructor
 ·rintro⟨i,a,h⟩;rw[<- xg h];exact a
 ·intro h;exact⟨k,h,dg k⟩
theorem zkr{q:CRes}{a b:Nat}(ha:a=0)(hb:b=0):q.or a b=q:=by
 subst ha;subst hb;show (⟨q.e,q.fr,q.S,q.ds,0 ||| q.rd,0 ||| q.wr⟩:CRes)=q;rw[jav,jav]
def jf(tt:Nat->Oq TI)(fi:FI)(s:Sm)(r:CRes):Oq (ElR s.rts):=cond r.e.leaves (bd (yt tt fi.nt fi.res S0 r) (runR s)) i6
end Go.Jx
end

noncomputable section
namespace Go.Jx
open Go Go.Sx Go.RowKit
universe u

def nz(x:NRes):NRes:=⟨x.fr,x.S,x.ds,0⟩
section
variable {R : Type} (P : om) (tt : Nat -> Oq TI) (nm : Nat -> Oq Nm) (B : Nat) (nt : Nat) (cl : ClK R) (lf : Nat) (st hd : Nat -> Bool) (J : Nat -> Lz Nat -> NRes -> Oq R)
def qh9(c:fw)(ns:Lz Nat)(fr:PT IV)(S:IS)(ds:Lz Nat):Oq R:=match fk c with
 | none=>i6
 | some h=>bd (jy nt (nm h) B fr S ds) fun x=>J h ns (nz x)
def zm:fw->Lz Nat->CdK R
 | .region id ops draw,ps,fr,S,ds,kk=>bd (jy nt (nm id) B fr S ds) fun x=>cond (st id) (J id ps (nz x)) (vy P tt nm B nt cl ops.toList draw x kk)
 | .seq a b,ps,fr,S,ds,kk=>zm a ps fr S ds fun r=>match r.e with
  | .normal=>zm b ps r.fr r.S r.ds kk
  | _=>kk r
 | .cond c a b,ps,fr,S,ds,kk=>match evo nt fr c with
  | some (.bool b')=>cond b' (zm a ps fr S ds kk) (zm b ps fr S ds kk)
  | _=>i6
 | .block id c,ps,fr,S,ds,kk=>zm c ps fr S ds fun r=>match r.e with
  | .exit id'=>cond (od id' id) (kk ⟨.normal,r.fr,r.S,r.ds,r.rd,r.wr⟩) (kk r)
  | _=>kk r
 | .scope c,ps,fr,S,ds,kk=>zm c ps fr S ds fun r=>match r.e with
  | .goto _=>i6
  | _=>kk r
 | .loop c,ps,fr,S,ds,kk=>qh9 nm B nt J c (ps++[lf]) fr S ds
 | c,ps,fr,S,ds,kk=>zy P tt nm B nt cl lf i6 c fr S ds kk
def qj(k:Nat):fw->Lz Nat->Lz Nat->NRes->(CRes->Oq R)->Oq R
 | .region id ops draw,ps,ns,x,kk=>cond (od id k) (vy P tt nm B nt cl ops.toList draw x kk) i6
 | .seq a b,ps,ns,x,kk=>cond (hasR k a) (qj k a ps ns x fun r=>match r.e with
  | .normal=>zm P tt nm B nt cl lf st J b ps r.fr r.S r.ds kk
  | _=>kk r) (qj k b ps ns x kk)
 | .cond c a b,ps,ns,x,kk=>cond (hasR k a) (qj k a ps ns x kk) (qj k b ps ns x kk)
 | .block id c,ps,ns,x,kk=>qj k c ps ns x fun r=>match r.e with
  | .exit id'=>cond (od id' id) (kk ⟨.normal,r.fr,r.S,r.ds,r.rd,r.wr⟩) (kk r)
  | _=>kk r
 | .scope c,ps,ns,x,kk=>qj k c ps ns x fun r=>match r.e with
  | .goto _=>i6
  | _=>kk r
 | .loop c,ps,ns,x,kk=>match ns with
  | []=>i6
  | n::ns=>match vz nm c with
   | none=>i6
   | some m=>qj k c (ps++[n]) ns x fun r=>cond (subm r.rd m.1&&subm r.wr m.2) (match r.e with
    | .normal=>qh9 nm B nt J c (ps++[n]) r.fr r.S r.ds
    | e=>kk (mbR (mB nm B) ⟨e,r.fr,r.S,r.ds,m.1,m.2⟩)) i6
 | _,_,_,_,_=>i6
end
def okC(nm:Nat->Oq Nm)(st hd:Nat->Bool):fw->Oq Nat->Bool
 | .region id _ _,o=>match o with|none=>!hd id|some h=>od id h&&(st id&&hd id)
 | .seq a b,o=>okC nm st hd a o&&okC nm st hd b i6
 | .cond _ a b,o=>o.isNone&&(okC nm st hd a i6&&okC nm st hd b i6)
 | .block _ c,o=>okC nm st hd c o
 | .scope c,o=>okC nm st hd c o
 | .loop c,o=>o.isNone&&((vz nm c).isSome&&(match fk c with|some h=>okC nm st hd c (iz h)|none=>eb))
 | _,o=>o.isNone
def dnL:Lz Nat->Oq (Lz Nat)
 | []=>i6
 | [n]=>match n with|0=>i6|m+1=>iz [m]
 | n::m::l=>match dnL (m::l) with|none=>i6|some l'=>iz (n::l')
def dn(b:Bool)(ns:Lz Nat):Oq (Lz Nat):=cond b (dnL ns) (iz ns)
theorem zh4{b:Bool}{n:Nat}{ns:Lz Nat}(h:b=i7->ns≠[]):dn b (n::ns)=match dn b ns with|none=>i6|some l=>iz (n::l):=by
 cases b with
 | false=>rfl
 | true=>cases ns with
  | nil=>exact absurd rfl (h rfl)
  | cons m l=>rfl
section
variable {R : Type} {P : om} {tt : Nat -> Oq TI} {nm : Nat -> Oq Nm} {B : Nat} {nt : Nat} {cl : Cl} {clK : ClK R} {lf : Nat} {st hd : Nat -> Bool} {J : Nat -> Lz Nat -> NRes -> Oq R}
def Keq(k k':CRes->Oq R):Prop:=∀r,r.rd=0->r.wr=0->k r=k' r
theorem mz(hB0:mB nm B=0)(a:Nat):mb (mB nm B) a=0:=by rw[hB0];rfl
theorem q73(hB0:mB nm B=0)(h:ClEq cl clK){ops:Lz o8}{draw:Bool}{x:NRes}{k k':CRes->Oq R}(hk:Keq k k'):vy P tt nm B nt clK ops draw x k=vy P tt nm B nt clK ops draw x k':=by
 unfold vy;cases draw with
 | true =>
  simp only[xa,q63 h];cases iany P tt nt cl ops x.fr x.S with
  | none=>rfl
  | some q=>exact hk _ (mz hB0 _) (mz hB0 _)
 | false =>
  simp only[xe,qs9 h];cases iseq P tt nt cl ops ops x.fr x.S with
  | none=>rfl
  | some q=>exact hk _ (mz hB0 _) (mz hB0 _)
theorem qgh{h:Nat}:∀{c:fw},okC nm st hd c (iz h)=i7->fk c=iz h/\st h=i7/\hd h=i7/\h∈regs c
 | .region id _ _,hc=>by
  simp only[okC,xf] at hc;obtain rfl:=xg hc.1;exact⟨rfl,hc.2.1,hc.2.2,by simp[regs]⟩
 | .seq a b,hc=>by
  simp only[okC,xf] at hc;obtain⟨h1,h2,h3,h4⟩:=qgh hc.1;exact⟨by simp only[fk,h1],h2,h3,by simp[regs,h4]⟩
 | .cond _ a b,hc=>by simp[okC] at hc
 | .block _ c,hc=>qgh (c:=c) hc
 | .scope c,hc=>qgh (c:=c) hc
 | .loop c,hc=>by simp[okC] at hc
 | .skip,hc=>by simp[okC] at hc
 | .label _,hc=>by simp[okC] at hc
 | .exit _,hc=>by simp[okC] at hc
 | .goto _,hc=>by simp[okC] at hc
 | .ret,hc=>by simp[okC] at hc
 | .refuse _,hc=>by simp[okC] at hc
 | .rangeFunc ..,hc=>by simp[okC] at hc
theorem qj0{h:Nat}:∀{c:fw} {fr:PT IV} {S:IS} {ds:Lz Nat} {kk:CRes->Oq R},okC nm st hd c (iz h)=i7 ->
  zy P tt nm B nt clK lf i6 c fr S ds kk=bd (jy nt (nm h) B fr S ds) fun x=>qo P tt nm B nt clK lf h c [] x kk
 | .region id ops draw,fr,S,ds,kk,hc=>by
  simp only[okC,xf] at hc;obtain rfl:=xg hc.1;show bd (jy nt (nm id) B fr S ds) (fun x=>vy P tt nm B nt clK ops.toList draw x kk)=_;simp only[qo,dg,xa]
 | .seq a b,fr,S,ds,kk,hc=>by
  simp only[okC,xf] at hc;simp only[zy,qo,qmv.2 (qgh hc.1).2.2.2,xa];exact qj0 (c:=a) hc.1
 | .cond _ a b,fr,S,ds,kk,hc=>by simp[okC] at hc
 | .block _ c,fr,S,ds,kk,hc=>qj0 (c:=c) hc
 | .scope c,fr,S,ds,kk,hc=>qj0 (c:=c) hc
 | .loop c,fr,S,ds,kk,hc=>by simp[okC] at hc
 | .skip,fr,S,ds,kk,hc=>by simp[okC] at hc
 | .label _,fr,S,ds,kk,hc=>by simp[okC] at hc
 | .exit _,fr,S,ds,kk,hc=>by simp[okC] at hc
 | .goto _,fr,S,ds,kk,hc=>by simp[okC] at hc
 | .ret,fr,S,ds,kk,hc=>by simp[okC] at hc
 | .refuse _,fr,S,ds,kk,hc=>by simp[okC] at hc
 | .rangeFunc ..,fr,S,ds,kk,hc=>by simp[okC] at hc
def wn(P:om)(tt:Nat->Oq TI)(nm:Nat->Oq Nm)(B:Nat)(nt:Nat)(clK:ClK R)(lf:Nat)(hd:Nat->Bool)(k:Nat)(c:fw)(ns:Lz Nat)(x:NRes)(kk:CRes->Oq R):Oq R:=match dn (hd k) ns with
 | none=>i6
 | some ns'=>qo P tt nm B nt clK lf k c ns' x kk
def JeqB(P:om)(tt:Nat->Oq TI)(nm:Nat->Oq Nm)(B:Nat)(nt:Nat)(clK:ClK R)(lf:Nat)(st hd:Nat->Bool)(J:Nat->Lz Nat->NRes->Oq R)(c:fw)(ps:Lz Nat)(k':CRes->Oq R):Prop :=
 ∀k ns x,k∈regs c->st k=i7->(hd k=i7->ns≠[])->J k (ps++ns) x=wn P tt nm B nt clK lf hd k c ns x k'
theorem q7i{k:Nat}{a b:fw}(n3:∀x∈regs a,∀y∈regs b,x≠y)(hi:k∈regs b):hasR k a=eb:=by
 cases c:hasR k a with
 | false=>rfl
 | true=>exact absurd rfl (n3 k (qmv.1 c) k hi)
theorem JeqB.fst{a b:fw}{ps:Lz Nat}{k':CRes->Oq R}(hJ:JeqB P tt nm B nt clK lf st hd J (.seq a b) ps k'):JeqB P tt nm B nt clK lf st hd J a ps (fun r=>match r.e with
  | .normal=>zy P tt nm B nt clK lf i6 b r.fr r.S r.ds fun q=>k' (q.or r.rd r.wr)
  | _=>k' r):=fun i ns x hi hs hn=>by
 rw[hJ i ns x (by simp[regs,hi]) hs hn];simp only[wn,qo,qmv.2 hi,xa];all_goals grind
theorem JeqB.snd{a b:fw}{ps:Lz Nat}{k':CRes->Oq R}(n3:∀x∈regs a,∀y∈regs b,x≠y)(hJ:JeqB P tt nm B nt clK lf st hd J (.seq a b) ps k'):JeqB P tt nm B nt clK lf st hd J b ps k':=fun i d x c e f=>by
 rw[hJ i d x (by simp[regs,c]) e f];simp only[wn,qo,q7i n3 c,xe]
theorem JeqB.cond1{c:fh}{a b:fw}{ps:Lz Nat}{k':CRes->Oq R}(hJ:JeqB P tt nm B nt clK lf st hd J (.cond c a b) ps k'):JeqB P tt nm B nt clK lf st hd J a ps k':=fun i e x d f g=>by
 rw[hJ i e x (by simp[regs,d]) f g];simp only[wn,qo,qmv.2 d,xa]
theorem JeqB.cond2{c:fh}{a b:fw}{ps:Lz Nat}{k':CRes->Oq R}(n3:∀x∈regs a,∀y∈regs b,x≠y)(hJ:JeqB P tt nm B nt clK lf st hd J (.cond c a b) ps k'):JeqB P tt nm B nt clK lf st hd J b ps k':=fun i e x d f g=>by
 rw[hJ i e x (by simp[regs,d]) f g];simp only[wn,qo,q7i n3 d,xe]
theorem JeqB.body{c:fw}{ps:Lz Nat}{k':CRes->Oq R}{m:Nat × Nat}(hm:vz nm c=iz m)(hJ:JeqB P tt nm B nt clK lf st hd J (.loop c) ps k')(n:Nat):JeqB P tt nm B nt clK lf st hd J c (ps++[n]) (fun r=>cond (subm r.rd m.1&&subm r.wr m.2) (match r.e with
    | .normal=>ca (zy P tt nm B nt clK lf i6 c) m.1 m.2 n r.fr r.S r.ds fun r=>k' (mbR (mB nm B) r)
    | e=>k' (mbR (mB nm B) ⟨e,r.fr,r.S,r.ds,m.1,m.2⟩)) i6):=fun i ns x hi hs hn=>by
 have:=hJ i (n::ns) x hi hs (fun _=>by simp);rw[show ps++(n::ns)=(ps++[n])++ns by simp] at this;rw[this];simp only[wn,zh4 hn];cases dn (hd i) ns with
 | none=>rfl
 | some ns'=>simp only[qo,hm];all_goals rfl
theorem zai(hB0:mB nm B=0)(ops:Lz o8)(draw:Bool)(x:NRes)(kk:CRes->Oq R):vy P tt nm B nt clK ops draw (nz x) kk=vy P tt nm B nt clK ops draw x kk:=by
 unfold vy nz mbR;rw[hB0];rfl
theorem n0(hB0:mB nm B=0){k:Nat}:∀(c:fw) (ns:Lz Nat) (x:NRes) (kk:CRes->Oq R),qo P tt nm B nt clK lf k c ns (nz x) kk=qo P tt nm B nt clK lf k c ns x kk
 | .region id ops draw,ns,x,kk=>by simp only[qo,zai hB0]
 | .seq a b,ns,x,kk=>by
  simp only[qo];rw[n0 hB0 a,n0 hB0 b]
 | .cond c a b,ns,x,kk=>by
  simp only[qo];rw[n0 hB0 a,n0 hB0 b]
 | .block id c,ns,x,kk=>by simp only[qo];rw[n0 hB0 c]
 | .scope c,ns,x,kk=>by simp only[qo];rw[n0 hB0 c]
 | .loop c,ns,x,kk=>by
  cases ns with
  | nil=>rfl
  | cons n ns =>
   simp only[qo];cases vz nm c with
   | none=>rfl
   | some m=>simp only;rw[n0 hB0 c]
 | .skip,ns,x,kk=>rfl
 | .label _,ns,x,kk=>rfl
 | .exit _,ns,x,kk=>rfl
 | .goto _,ns,x,kk=>rfl
 | .ret,ns,x,kk=>rfl
 | .refuse _,ns,x,kk=>rfl
 | .rangeFunc ..,ns,x,kk=>rfl
theorem q0e(hB0:mB nm B=0){c:fw}{h:Nat}{ps:Lz Nat}{k':CRes->Oq R}{m:Nat × Nat}(hc:okC nm st hd c (iz h)=i7)(hm:vz nm c=iz m)(hJ:JeqB P tt nm B nt clK lf st hd J (.loop c) ps k')(n:Nat)(fr:PT IV)(S:IS)(ds:Lz Nat) :
  qh9 nm B nt J c (ps++[n]) fr S ds=ca (zy P tt nm B nt clK lf i6 c) m.1 m.2 n fr S ds fun r=>k' (mbR (mB nm B) r):=by
 obtain⟨f,d,b,a⟩:=qgh hc;have e:∀x,J h (ps++[n]) (nz x)=wn P tt nm B nt clK lf hd h (.loop c) [n] x k':=fun x=>by
  rw[hJ h [n] (nz x) a d (fun _=>by simp)];unfold wn;cases dn (hd h) [n] with
  | none=>rfl
  | some ns'=>exact n0 hB0 _ _ _ _
 simp only[qh9,f,e,wn,b,dn,xa];cases n with
 | zero =>
  simp only[dnL,ca];cases jy nt (nm h) B fr S ds<;>rfl
 | succ n =>
  simp only[dnL,qo,hm,ca];rw[qj0 hc];all_goals grind
theorem q39{b:fw}{ps:Lz Nat}{k k':CRes->Oq R}(ihb:∀fr S ds,zm P tt nm B nt clK lf st J b ps fr S ds k=zy P tt nm B nt clK lf i6 b fr S ds k')(hk:Keq k k'):Keq (fun r=>match r.e with
  | .normal=>zm P tt nm B nt clK lf st J b ps r.fr r.S r.ds k
  | _=>k r) (fun r=>match r.e with
  | .normal=>zy P tt nm B nt clK lf i6 b r.fr r.S r.ds fun q=>k' (q.or r.rd r.wr)
  | _=>k' r):=fun r h1 h2=>by
 have e:(fun q:CRes=>k' (q.or r.rd r.wr))=k':=by funext q;rw[zkr h1 h2]
 cases he:r.e<;>simp only[he]<;>first|exact hk r h1 h2|(rw[e];exact ihb _ _ _)
theorem q21{id:Nat}{k k':CRes->Oq R}(hk:Keq k k'):Keq (fun r=>match r.e with
  | .exit id'=>cond (od id' id) (k ⟨.normal,r.fr,r.S,r.ds,r.rd,r.wr⟩) (k r)
  | _=>k r) (fun r=>match r.e with
  | .exit id'=>cond (od id' id) (k' ⟨.normal,r.fr,r.S,r.ds,r.rd,r.wr⟩) (k' r)
  | _=>k' r):=fun r h1 h2=>by
 cases he:r.e<;>simp only[he]<;>first|exact hk r h1 h2|skip
 rename_i id';cases od id' id
 ·exact hk r h1 h2
 ·exact hk _ h1 h2
theorem qzh{k k':CRes->Oq R}(hk:Keq k k'):Keq (fun r=>match r.e with
  | .goto _=>i6
  | _=>k r) (fun r=>match r.e with
  | .goto _=>i6
  | _=>k' r):=fun r h1 h2=>by
 cases he:r.e<;>simp only[he]<;>exact hk r h1 h2
theorem q4y(hB0:mB nm B=0)(h:ClEq cl clK):∀(c:fw) (ps:Lz Nat) (fr:PT IV) (S:IS) (ds:Lz Nat) (k k':CRes->Oq R),(regs c).Nodup->okC nm st hd c i6=i7->JeqB P tt nm B nt clK lf st hd J c ps k'->Keq k k' ->
  zm P tt nm B nt clK lf st J c ps fr S ds k=zy P tt nm B nt clK lf i6 c fr S ds k':=by
 intro c;induction c with
 | skip=>intro ps fr S ds k k' j d f e;exact e _ rfl rfl
 | label l=>intro ps fr S ds k k' j d f e;exact e _ rfl rfl
 | exit id=>intro ps fr S ds k k' j d f e;exact e _ rfl rfl
 | goto l=>intro ps fr S ds k k' j d f e;exact e _ rfl rfl
 | ret=>intro ps fr S ds k k' j d f e;exact e _ rfl rfl
 | refuse _=>intro ps fr S ds k k' j d f e;rfl
 | region id ops draw =>
  intro ps fr S ds k k' j d f e;simp only[okC,dt] at d;show bd (jy nt (nm id) B fr S ds) (fun x=>cond (st id) (J id ps (nz x)) (vy P tt nm B nt clK ops.toList draw x k))=bd (jy nt (nm id) B fr S ds) (fun x=>vy P tt nm B nt clK ops.toList draw x k');cases jy nt (nm id) B fr S ds with
  | none=>rfl
  | some x =>
   simp only[bd];cases o:st id with
   | true =>
    have:=f id [] (nz x) (by simp[regs]) o (fun h=>by rw[d] at h;cases h);rw[gz] at this;rw[xa,this];simp only[wn,d,dn,xe,qo,dg,xa];exact zai hB0 _ _ _ _
   | false=>rw[xe];exact q73 hB0 h e
 | seq a b iha ihb =>
  intro ps fr S ds k k' j d f e;simp only[regs,dr] at j;obtain⟨u,t,s⟩:=j;simp only[okC,xf] at d;exact iha ps fr S ds _ _ u d.1 f.fst (q39 (fun fr S ds=>ihb ps fr S ds k k' t d.2 (f.snd s) e) e)
 | cond c a b iha ihb =>
  intro ps fr S ds k k' j d f e;simp only[regs,dr] at j;obtain⟨u,t,s⟩:=j;simp only[okC,xf] at d;simp only[zm,zy];cases evo nt fr c with
  | none=>rfl
  | some v =>
   cases v<;>try rfl
   simp only;rw[iha ps fr S ds k k' u d.2.1 f.cond1 e,ihb ps fr S ds k k' t d.2.2 (f.cond2 s) e]
 | block id c ih =>
  intro ps fr S ds k k' j d f e;exact ih ps fr S ds _ _ j d (fun i q x p o n=>f i q x p o n) (q21 e)
 | scope c ih =>
  intro ps fr S ds k k' j d f e;exact ih ps fr S ds _ _ j d (fun i q x p o n=>f i q x p o n) (qzh e)
 | loop c ih =>
  intro ps fr S ds k k' j d f e;simp only[okC,xf,Option.isSome_iff_exists] at d;obtain⟨_,⟨m,y⟩,d⟩:=d;split at d
  ·rename_i i p;simp only[zm,zy,y];exact q0e hB0 d y f _ _ _ _
  ·grind
 | rangeFunc g ps' assign body ih1 ih2 =>
  intro ps fr S ds k k' j d f e;show zy P tt nm B nt clK lf i6 (.rangeFunc g ps' assign body) fr S ds k=_;rw[y1 h,y1 h];cases w:zh P tt nm B nt cl lf i6 (.rangeFunc g ps' assign body) fr S ds with
  | none=>rfl
  | some r =>
   simp only[zh] at w;obtain⟨z,_,rfl⟩:=c6 w;exact e _ (mz hB0 _) (mz hB0 _)
theorem zmh(hB0:mB nm B=0)(h:ClEq cl clK){i0:Nat}:∀(c:fw) (o:Oq Nat) (ps ns:Lz Nat) (x:NRes) (k k':CRes->Oq R),(regs c).Nodup->okC nm st hd c o=i7->JeqB P tt nm B nt clK lf st hd J c ps k'->Keq k k' ->
  qj P tt nm B nt clK lf st J i0 c ps ns x k=qo P tt nm B nt clK lf i0 c ns x k':=by
 intro c;induction c with
 | skip=>intros;rfl
 | label l=>intros;rfl
 | exit id=>intros;rfl
 | goto l=>intros;rfl
 | ret=>intros;rfl
 | refuse _=>intros;rfl
 | region id ops draw =>
  intro o ps ns x k k' p d j f;simp only[qj,qo];rw[q73 hB0 h f]
 | seq a b iha ihb =>
  intro o ps ns x k k' p d j f;simp only[regs,dr] at p;obtain⟨v,t,s⟩:=p;simp only[okC,xf] at d;simp only[qj,qo];rw[ihb i6 ps ns x k k' t d.2 (j.snd s) f];rw[iha o ps ns x _ _ v d.1 j.fst (q39 (fun z S A=>q4y hB0 h b ps z S A k k' t d.2 (j.snd s) f) f)];all_goals grind
 | cond c a b iha ihb =>
  intro o ps ns x k k' p d j f;simp only[regs,dr] at p;obtain⟨v,t,s⟩:=p;simp only[okC,xf] at d;simp only[qj,qo];rw[iha i6 ps ns x k k' v d.2.1 j.cond1 f,ihb i6 ps ns x k k' t d.2.2 (j.cond2 s) f]
 | block id c ih =>
  intro o ps ns x k k' p d j f;exact ih o ps ns x _ _ p d (fun i ns x u w q=>j i ns x u w q) (q21 f)
 | scope c ih =>
  intro o ps ns x k k' p d j f;exact ih o ps ns x _ _ p d (fun i ns x u w q=>j i ns x u w q) (qzh f)
 | loop c ih =>
  intro o ps ns x k k' p d j f;cases ns with
  | nil=>rfl
  | cons n ns =>
  simp only[okC,xf,Option.isSome_iff_exists] at d;obtain⟨_,⟨m,y⟩,d⟩:=d;split at d
  ·rename_i i u;simp only[qj,qo,y];refine ih (iz i) (ps++[n]) ns x _ _ p d (j.body y n) (fun r D C=>?_);cases (subm r.rd m.1&&subm r.wr m.2) with
   | false=>rfl
   | true =>
    simp only[xa];cases r.e<;>simp only<;>first|exact q0e hB0 d y j _ _ _ _|exact f _ (mz hB0 _) (mz hB0 _)
  ·grind
 | rangeFunc g ps' assign body ih1 ih2=>intros;rfl

def atNB(P:om)(tt:Nat->Oq TI)(nm:Nat->Oq Nm)(B:Nat)(nt:Nat)(body:fw)(clK:ClK R)(lf:Nat)(hd:Nat->Bool)(kk:CRes->Oq R)(k:Nat)(ns:Lz Nat)(x:NRes):Oq R :=
 wn P tt nm B nt clK lf hd k body ns x kk
theorem qol(hB0:mB nm B=0){body:fw}{kk:CRes->Oq R}(h:ClEq cl clK)(hn:(regs body).Nodup)(hl:okC nm st hd body i6=i7)(k:Nat)(ns ns':Lz Nat)(hd':dn (hd k) ns=iz ns')(x:NRes) :
  atNB P tt nm B nt body clK lf hd kk k ns x=qj P tt nm B nt clK lf st (atNB P tt nm B nt body clK lf hd kk) k body [] ns' x kk:=by
 unfold atNB;simp only[wn,hd'];exact(zmh hB0 h body i6 [] ns' x _ _ hn hl (fun i ns x _ _ _=>rfl) (fun _ _ _=>rfl)).symm
theorem qsh{body:fw}{kk:CRes->Oq R}(k:Nat)(ns:Lz Nat)(hd':dn (hd k) ns=i6)(x:NRes):atNB P tt nm B nt body clK lf hd kk k ns x=i6:=by
 unfold atNB;simp only[wn,hd']
theorem qtw(hB0:mB nm B=0){body:fw}{kk:CRes->Oq R}(h:ClEq cl clK)(hn:(regs body).Nodup)(hl:okC nm st hd body i6=i7)(fr:PT IV)(S:IS) :
  zy P tt nm B nt clK lf i6 body fr S [] kk=zm P tt nm B nt clK lf st (atNB P tt nm B nt body clK lf hd kk) body [] fr S [] kk :=
 (q4y hB0 h body [] fr S [] _ _ hn hl (fun i a x _ _ _=>rfl) (fun _ _ _=>rfl)).symm
end
theorem mB_z(nm:Nat->Oq Nm):mB nm 0=0:=by unfold mB;cases frzF nm<;>rfl
def yr{R:Type}(P:om)(tt:Nat->Oq TI)(nm:Nat->Oq Nm)(nt:Nat)(cl:ClK R)(lf:Nat)(st:Nat->Bool)(J:Nat->Lz Nat->NRes->Oq R)(c:fw)(ps:Lz Nat):CdK R:=zm P tt nm 0 nt cl lf st J c ps
def nn{R:Type}(P:om)(tt:Nat->Oq TI)(nm:Nat->Oq Nm)(nt:Nat)(cl:ClK R)(lf:Nat)(st:Nat->Bool)(J:Nat->Lz Nat->NRes->Oq R)(k:Nat)(c:fw)(ps ns:Lz Nat)(x:NRes)(kk:CRes->Oq R):Oq R:=qj P tt nm 0 nt cl lf st J k c ps ns x kk
section
variable {P : om} {tt : Nat -> Oq TI} {nm : Nat -> Oq Nm} {lf : Nat} {st hd : Nat -> Bool} {cl : Cl}
def atN(P:om)(tt:Nat->Oq TI)(nm:Nat->Oq Nm)(fi:FI)(s:Sm)(clK:ClK (ElR s.rts))(lf:Nat)(hd:Nat->Bool)(k:Nat)(ns:Lz Nat)(x:NRes):Oq (ElR s.rts) :=
 atNB P tt nm 0 fi.nt fi.body clK lf hd (jf tt fi s) k ns x
theorem c8{fi:FI}{s:Sm}{clK:ClK (ElR s.rts)}(h:ClEq cl clK)(hn:(regs fi.body).Nodup)(hl:okC nm st hd fi.body i6=i7)(k:Nat)(ns ns':Lz Nat)(hd':dn (hd k) ns=iz ns')(x:NRes) :
  atN P tt nm fi s clK lf hd k ns x=nn P tt nm fi.nt clK lf st (atN P tt nm fi s clK lf hd) k fi.body [] ns' x (jf tt fi s):=qol (mB_z nm) h hn hl k ns ns' hd' x
theorem sn{fi:FI}{s:Sm}{clK:ClK (ElR s.rts)}(k:Nat)(ns:Lz Nat)(hd':dn (hd k) ns=i6)(x:NRes):atN P tt nm fi s clK lf hd k ns x=i6:=qsh k ns hd' x
theorem zz8{fi:FI}{s:Sm}{clK:ClK (ElR s.rts)}(h:ClEq cl clK)(hn:(regs fi.body).Nodup)(hl:okC nm st hd fi.body i6=i7)(fr:PT IV) :
  zy P tt nm 0 fi.nt clK lf i6 fi.body fr S0 [] (jf tt fi s)=yr P tt nm fi.nt clK lf st (atN P tt nm fi s clK lf hd) fi.body [] fr S0 [] (jf tt fi s):=qtw (mB_z nm) h hn hl fr S0
end

def rounds{α R:Type}(T:(α->Oq R)->α->Oq R):Nat->α->Oq R
 | 0,_=>i6
 | n+1,a=>T (rounds T n) a
theorem qq6{α R:Type}{T:(α->Oq R)->α->Oq R}(μ:α->Nat)(g:α->Oq R)(I:α->Prop)
  (h:∀(K:α->Oq R) a,I a->(∀b,I b->μ b<μ a->K b=g b)->T K a=g a):∀n a,I a->μ a<n->rounds T n a=g a
 | 0,a,hI,hm=>by omega
 | n+1,a,hI,hm=>h _ a hI fun b hb hlt=>qq6 μ g I h n b hb (by omega)
end Go.Jx
end

noncomputable section
namespace Go.Jx
open Go Go.Sx Go.RowKit
universe u

def idxO{α:Type}(p:α->Oq Bool):Lz α->Nat->Oq Int
 | [],_=>iz (-1)
 | x::l,i=>match p x with
  | none=>i6
  | some b=>cond b (iz (we i)) (idxO p l (i+1))
theorem q9r{α:Type}{p:α->Oq Bool}{q:α->Bool}:∀{l:Lz α} {i:Nat},(∀x∈l,p x=iz (q x))->idxO p l i=iz (match l.findIdx? q with|some j=>we (i+j)|none=>-1)
 | [],i,h=>rfl
 | x::l,i,h=>by
  unfold idxO;rw[h x x8,ri];cases hq:q x with
  | true=>rfl
  | false =>
   simp only[xe];rw[q9r fun y hy=>h y (xv _ hy)];all_goals grind
def below(N:Nat):Nat:=2 ^ N-1
def ansB(m:Nat)(r:Res):Oq Bool:=match r.v with
 | .bool b=>cond (od r.wr 0&&subm r.rd m) (iz b) i6
 | _=>i6
def idxF(c:TC)(cl:Cl)(vs:Lz IV)(S:IS):Oq Res:=match vs with
 | [.lst c' l,.fn g caps]=>match q3 c' c l with
  | none=>i6
  | some l=>match idxO (fun x=>ob (cl (.fn g) (asIV c x::caps) S) (ansB (below S.next))) l 0 with
   | none=>i6
   | some i=>iz ⟨.int .i64 i,S,below S.next,0⟩
 | _=>i6
def idxK(c:TC)(clP:ClP)(R:Type)(vs:Lz IV)(S:IS)(kk:Res->Oq R):Oq R:=match vs with
 | [.lst c' l,.fn g caps]=>match q3 c' c l with
  | none=>i6
  | some l=>match idxO (fun x=>clP Bool (.fn g) (asIV c x::caps) S (ansB (below S.next))) l 0 with
   | none=>i6
   | some i=>kk ⟨.int .i64 i,S,below S.next,0⟩
 | _=>i6
theorem zli(c:TC)(cl:Cl)(clP:ClP)(h:∀R,ClEq cl (clP R))(R:Type)(vs:Lz IV)(S:IS)(kk:Res->Oq R):idxK c clP R vs S kk=ob (idxF c cl vs S) kk:=by
 unfold idxK idxF;split
 ·rename_i b l g a;cases q3 b c l with
  | none=>rfl
  | some l =>
   simp only[h Bool _ _ _ _];cases idxO (fun x=>ob (cl (.fn g) (asIV c x::a) S) (ansB (below S.next))) l 0<;>rfl
 ·rfl
def qy4(c:TC):Hx:=⟨idxF c,idxK c,zli c⟩
theorem qwq{c:TC}{cl:Cl}{vs:Lz IV}{S:IS}{r:Res}(h:idxF c cl vs S=iz r):∃c' l0 g caps l i,vs=[.lst c' l0,.fn g caps]/\q3 c' c l0=iz l/\idxO (fun x=>ob (cl (.fn g) (asIV c x::caps) S) (ansB (below S.next))) l 0=iz i/\r=⟨.int .i64 i,S,below S.next,0⟩:=by
 unfold idxF at h;all_goals grind

def tup(ss:Lz Nat)(r:CRes):IEx × Lz IV × IS × Lz Nat × Nat × Nat:=(r.e,ss.map (slot r.fr),r.S,r.ds,r.rd,r.wr)
theorem n7(B:Nat):mb B 0=0:=by unfold mb;cases od B 0<;>rfl
theorem qa7(a:Nat):o9 a 0=a:=jbq a
theorem qv1(a:Nat):o9 0 a=a:=jav a
theorem qad{P:om}{tt:Nat->Oq TI}{nm:Nat->Oq Nm}{B nt lf:Nat}{cl:Cl}{c:fw}{fr:PT IV}{S:IS}{ds:Lz Nat}{ss:Lz Nat}{y:IEx × Lz IV × IS × Lz Nat × Nat × Nat}
  (h:zy P tt nm B nt (fun t vs S kk=>ob (cl t vs S) kk) lf i6 c fr S ds (fun r=>iz (tup ss r))=iz y):∃r,zh P tt nm B nt cl lf i6 c fr S ds=iz r/\tup ss r=y:=by
 rw[y1 (cl:=cl) (fun _ _ _ _=>rfl)] at h;cases a:zh P tt nm B nt cl lf i6 c fr S ds with
 | none=>rw[a] at h;cases h
 | some r=>rw[a] at h;cases h;exact⟨r,rfl,rfl⟩
theorem q6i{fr fr':PT IV}:∀{l:Lz Nat} {r:PT IV},(∀t∈l,slot fr t=slot fr' t)->qc7 fr l r=qc7 fr' l r
 | [],r,h=>rfl
 | t::l,r,h=>by
  unfold qc7;rw[h t x8];exact q6i fun k hk=>h k (xv _ hk)
theorem qbu{P:om}{tt:Nat->Oq TI}{nm:Nat->Oq Nm}{B nt lf:Nat}{cl:Cl}{m:Nm}{h:Nat}(hm:nm h=iz m)(hf:m.fo=i7){fr fr':PT IV}(hs:∀t∈m.keep,slot fr t=slot fr' t) :
  ∀{c:fw} {S:IS} {ds:Lz Nat},okC nm (fun k=>od k h) (fun k=>od k h) c (iz h)=i7->zh P tt nm B nt cl lf i6 c fr S ds=zh P tt nm B nt cl lf i6 c fr' S ds
 | .region id ops draw,S,ds,hc=>by
  simp only[okC,xf] at hc;obtain rfl:=xg hc.1;simp only[zh,hm,jy,hf,xa,q6i hs]
 | .seq a b,S,ds,hc=>by
  simp only[okC,xf] at hc;simp only[zh];rw[qbu hm hf hs (c:=a) hc.1]
 | .cond _ a b,S,ds,hc=>by simp[okC] at hc
 | .block _ c,S,ds,hc=>by
  simp only[zh];rw[qbu hm hf hs (c:=c) hc]
 | .scope c,S,ds,hc=>by
  simp only[zh];rw[qbu hm hf hs (c:=c) hc]
 | .loop c,S,ds,hc=>by simp[okC] at hc
 | .skip,S,ds,hc=>by simp[okC] at hc
 | .label _,S,ds,hc=>by simp[okC] at hc
 | .exit _,S,ds,hc=>by simp[okC] at hc
 | .goto _,S,ds,hc=>by simp[okC] at hc
 | .ret,S,ds,hc=>by simp[okC] at hc
 | .refuse _,S,ds,hc=>by simp[okC] at hc
 | .rangeFunc ..,S,ds,hc=>by simp[okC] at hc
def nmI(k:Nat)(keep:Lz Nat)(mr:Nat):Nat->Oq Nm:=fun j=>cond (od j k) (iz ⟨keep,[],[],[],[],mr,0,i7⟩) i6
theorem mB_I(keep:Lz Nat)(mr B:Nat):mB (nmI 2 keep mr) B=B:=rfl
def frI(c:TC)(l:Lz (El c))(g:Nat)(caps:Lz IV)(i:Int):PT IV:=(((PT.leaf.set (.lst c l) 0).set (.fn g caps) 1).set (.int .i64 (we l.length)) 7).set (.int .i64 i) 8
def frA(c:TC)(l:Lz (El c))(g:Nat)(caps:Lz IV):PT IV:=(zk [.lst c l,.fn g caps] 0 .leaf).set (.int .i64 0) 4
def frB(c:TC)(l:Lz (El c))(g:Nat)(caps:Lz IV):PT IV:=(((frA c l g caps).set (.lst c l) 6).set (.int .i64 (we l.length)) 7).set (.int .i64 0) 8
structure IdxFacts (P:om) (tt:Nat->Option TI) (c:TC) (fi:FI) (A B L C:fw):Prop where
 body:fi.body=.seq A (.seq (.seq B (.block 0 (.loop L))) C)
 two:og 2 fi.nt=i7
 head:∀mr,okC (nmI 2 [0,1,7,8] mr) (fun k=>od k 2) (fun k=>od k 2) L (iz 2)=i7
 a:∀(R:Type) (clK:ClK R) (B0 mr lf:Nat) (l:List (El c)) (g:Nat) (caps:List IV) (S:IS) (kk:CRes->Option R),zy P tt (nmI 2 [0,1,7,8] mr) B0 fi.nt clK lf i6 A (zk [.lst c l,.fn g caps] 0 .leaf) S [] kk=kk ⟨.normal,frA c l g caps,S,[],mb B0 0,mb B0 0⟩
 b:∀(R:Type) (clK:ClK R) (B0 mr lf:Nat) (l:List (El c)) (g:Nat) (caps:List IV) (S:IS) (kk:CRes->Option R),zy P tt (nmI 2 [0,1,7,8] mr) B0 fi.nt clK lf i6 B (frA c l g caps) S [] kk=kk ⟨.normal,frB c l g caps,S,[],mb B0 0,mb B0 0⟩
 l:∀(R:Type) (clK:ClK R) (B0 mr lf:Nat) (l:List (El c)) (g:Nat) (caps:List IV) (S:IS) (i:Int) (kk:_->Option R),zy P tt (nmI 2 [0,1,7,8] mr) B0 fi.nt clK lf i6 L (frI c l g caps i) S [] (fun r=>kk (tup [0,1,4,7,8] r)) =
   cond (iltI i (we l.length)) (match jget l i with
     | none=>i6
     | some x=>clK (.fn g) (asIV c x::caps) S fun r=>match qy r.v with
      | some p=>kk (.pan p,[.lst c l,.fn g caps,.unk,.int .i64 (we l.length),.int .i64 i],r.S,[],(mb B0 0).lor (o9 0 ((mb B0 0).lor (mb B0 (o9 0 (o9 0 (o9 0 (o9 0 (o9 0 r.rd)))))))),(mb B0 0).lor (o9 0 ((mb B0 0).lor (mb B0 (o9 0 (o9 0 (o9 0 (o9 0 (o9 0 (o9 0 r.wr))))))))))
      | none=>match r.v with
       | .bool b=>cond b
         (kk (.ret,[.lst c l,.fn g caps,.int .i64 i,.int .i64 (we l.length),.int .i64 i],r.S,[],(mb B0 0).lor (o9 0 ((mb B0 0).lor ((mb B0 (o9 0 (o9 0 (o9 0 (o9 0 (o9 0 (r.rd.lor 0))))))).lor ((mb B0 0).lor 0)))),
           (mb B0 0).lor (o9 0 ((mb B0 0).lor ((mb B0 (o9 0 (o9 0 (o9 0 (o9 0 (o9 0 (o9 0 (r.wr.lor 0)))))))).lor ((mb B0 0).lor 0))))))
         (kk (.normal,[.lst c l,.fn g caps,.unk,.int .i64 (we l.length),.int .i64 (IntKind.i64.wrap (i+1))],r.S,[],(mb B0 0).lor (o9 0 (((mb B0 0).lor ((mb B0 (o9 0 (o9 0 (o9 0 (o9 0 (o9 0 (r.rd.lor 0))))))).lor 0)).lor (mb B0 0))),
           (mb B0 0).lor (o9 0 (((mb B0 0).lor ((mb B0 (o9 0 (o9 0 (o9 0 (o9 0 (o9 0 (o9 0 (r.wr.lor 0)))))))).lor 0)).lor (mb B0 0)))))
       | _=>i6)
     (kk (.exit 0,[.lst c l,.fn g caps,.unk,.int .i64 (we l.length),.int .i64 i],S,[],(mb B0 0).lor 0,(mb B0 0).lor 0))
 e:∀(R:Type) (clK:ClK R) (B0 mr lf:Nat) (fr:PT IV) (S:IS) (kk:CRes->Option R),zy P tt (nmI 2 [0,1,7,8] mr) B0 fi.nt clK lf i6 C fr S [] kk=kk ⟨.ret,fr.set (.int .i64 (-1)) 4,S,[],(mb B0 0).lor 0,(mb B0 0).lor 0⟩
 res:fi.res=[.tmp 4]
 nt4:oo 4 fi.nt=i7
 lm:∀mr,vz (nmI 2 [0,1,7,8] mr) L=iz (mr,0)
variable {P : om} {tt : Nat -> Oq TI} {c : TC} {fi : FI} {A B L C : fw}
theorem zwj(a:Nat):subm a a=i7:=by unfold subm;rw[Nat.or_self];exact dg a
theorem qf8(a:Nat):subm 0 a=i7:=by unfold subm;rw[jav];exact dg a
theorem qht{B0 a m:Nat}(h:subm a m=i7):subm (mb B0 a) m=i7:=by
 unfold mb;cases od B0 0
 ·grind
 ·exact qf8 m
theorem zk2(F:IdxFacts P tt c fi A B L C){cl:Cl}(hcalm:Calm cl){l:Lz (El c)}(hl:l.length*bsz c<=140737488355328){g:Nat}{caps:Lz IV}{S:IS}{i:Int}{lf:Nat}:∀(rest pre:Lz (El c)) (fuel:Nat) (fr:PT IV),
  l=pre++rest->rest.length<fuel->(slot fr 0=.lst c l/\slot fr 1=.fn g caps/\slot fr 7=.int .i64 (we l.length)/\slot fr 8=.int .i64 (we pre.length)) ->
  idxO (fun x=>ob (cl (.fn g) (asIV c x::caps) S) (ansB (below S.next))) rest pre.length=iz i ->
  ∃r,je (zh P tt (nmI 2 [0,1,7,8] (below S.next)) S.next fi.nt cl lf i6 L) (below S.next) 0 fuel fr S []=iz r/\r.S=S/\r.ds=[]/\r.wr=0/\((r.e=.ret/\slot r.fr 4=.int .i64 i)\/(r.e=.exit 0/\i=-1)):=by
 intro rest;induction rest with
 | nil =>
  intro pre fuel fr J K s d;cases fuel with
  | zero=>exact absurd K (by simp)
  | succ n =>
  cases d;have M:=qbu (P:=P) (tt:=tt) (B:=S.next) (nt:=fi.nt) (lf:=lf) (cl:=cl) (h:=2) (m:=⟨[0,1,7,8],[],[],[],[],below S.next,0,i7⟩) rfl rfl (fr:=fr) (fr':=frI c l g caps (we pre.length)) (by
   intro t f;simp only[po,jan,or_false] at f;rcases f with rfl|rfl|rfl|rfl
   ·exact s.1
   ·exact s.2.1
   ·exact s.2.2.1
   ·exact s.2.2.2) (c:=L) (S:=S) (ds:=[]) (F.head _)
  have j:=F.l (IEx × Lz IV × IS × Lz Nat × Nat × Nat) (fun t N S O=>ob (cl t N S) O) S.next (below S.next) lf l g caps S (we pre.length) iz
  rw[show iltI (we pre.length) (we l.length)=eb by rw[qc,J];simp,xe] at j;obtain⟨r,I,f⟩:=qad j;simp only[tup,rg,n7,qa7] at f;obtain⟨E,u,D,z,y,w⟩:=f;refine⟨⟨.exit 0,r.fr,S,[],below S.next,0⟩,?_,rfl,rfl,rfl,.inr ⟨rfl,rfl⟩⟩;unfold je;rw[M];have o:zh P tt (nmI 2 [0,1,7,8] (below S.next)) S.next fi.nt cl lf i6 L (frI c l g caps (we pre.length)) S []=iz r:=I
  simp only[o,y,w,qf8,dx,xa,E,D,z]
 | cons x rest ih =>
  intro pre fuel fr J K s d;cases fuel with
  | zero=>exact absurd K (by simp)
  | succ n =>
  have M:=qbu (P:=P) (tt:=tt) (B:=S.next) (nt:=fi.nt) (lf:=lf) (cl:=cl) (h:=2) (m:=⟨[0,1,7,8],[],[],[],[],below S.next,0,i7⟩) rfl rfl (fr:=fr) (fr':=frI c l g caps (we pre.length)) (by
   intro t f;simp only[po,jan,or_false] at f;rcases f with rfl|rfl|rfl|rfl
   ·exact s.1
   ·exact s.2.1
   ·exact s.2.2.1
   ·exact s.2.2.2) (c:=L) (S:=S) (ds:=[]) (F.head _)
  have j:=F.l (IEx × Lz IV × IS × Lz Nat × Nat × Nat) (fun t N S O=>ob (cl t N S) O) S.next (below S.next) lf l g caps S (we pre.length) iz
  have T:l.length=pre.length+(rest.length+1):=by rw[J];simp
  rw[show iltI (we pre.length) (we l.length)=i7 by rw[qc];simp;omega,xa,
   show jget l (we pre.length)=iz x by unfold jget;rw[xx (by simp)];rw[J];simp] at j
  simp only at j;unfold idxO at d;cases R:cl (.fn g) (asIV c x::caps) S with
  | none=>rw[R] at d;cases d
  | some r0 =>
  rw[R] at d j;simp only[ob] at d j;cases Q:r0.v<;>simp only[ansB,Q] at d<;>try (cases d;done)
  rename_i b;cases p:(od r0.wr 0&&subm r0.rd (below S.next)) with
  | false=>rw[p] at d;cases d
  | true =>
  rw[p] at d;simp only[xf] at p;have G:r0.wr=0:=xg p.1;have X:r0.S=S:=hcalm _ _ _ _ R G (by rw[Q];rfl);simp only[Q,qy,X,G,n7,qa7,qv1] at j;simp only[xa] at d;have H:subm (mb S.next r0.rd) (below S.next)=i7:=qht p.2;cases b with
  | true =>
   cases d;rw[xa] at j;obtain⟨r,I,f⟩:=qad j;simp only[tup,rg,ga,ry] at f;obtain⟨E,u,D,z,y,w⟩:=f;refine⟨⟨.ret,r.fr,S,[],below S.next,0⟩,?_,rfl,rfl,rfl,.inl ⟨rfl,u.2.2.1⟩⟩;unfold je;rw[M];have o:zh P tt (nmI 2 [0,1,7,8] (below S.next)) S.next fi.nt cl lf i6 L (frI c l g caps (we pre.length)) S []=iz r:=I
   simp only[o,y,w,H,qf8,dx,xa,E,D,z]
  | false =>
   rw[xe] at j d;obtain⟨r,I,f⟩:=qad j;simp only[tup,rg,ga,ry] at f;obtain⟨E,u,D,z,y,w⟩:=f;have V:IntKind.i64.wrap (we pre.length+1)=we (pre++[x]).length:=by
    rw[show we (pre++[x]).length=we pre.length+1 by simp];refine kn ?_;have W:1<=bsz c:=qgj c;have:l.length*1<=l.length*bsz c:=rt _ W;all_goals grind
   obtain⟨q,q1,U⟩:=ih (pre++[x]) n r.fr (by rw[J];simp) (by simp at K;omega) ⟨u.1,u.2.1,u.2.2.2.1,by rw[<- V];exact u.2.2.2.2.1⟩ (by rw[show (pre++[x]).length=pre.length+1 by simp];exact d);refine⟨q,?_,U⟩;unfold je;rw[M];have o:zh P tt (nmI 2 [0,1,7,8] (below S.next)) S.next fi.nt cl lf i6 L (frI c l g caps (we pre.length)) S []=iz r:=I
   simp only[o,y,w,H,qf8,dx,xa,E,D,z];all_goals grind
where qgj:∀c:TC,1<=bsz c
 | .int k=>by cases k<;>simp [bsz]
 | .bool=>by simp[bsz]
 | .str=>by simp[bsz]
 | .list _=>by simp[bsz]
 | .rl _=>by simp[bsz]
 | .two a b=>by have:=qgj a;simp only[bsz];omega

theorem runK{nm:Nat->Oq Nm}{B nt lf:Nat}{cl:Cl}{c:fw}{fr:PT IV}{S:IS}{ds:Lz Nat}{y:CRes}
  (h:zy P tt nm B nt (fun t vs S kk=>ob (cl t vs S) kk) lf i6 c fr S ds iz=iz y):zh P tt nm B nt cl lf i6 c fr S ds=iz y:=by
 rw[y1 (cl:=cl) (fun _ _ _ _=>rfl)] at h;cases a:zh P tt nm B nt cl lf i6 c fr S ds with
 | none=>rw[a] at h;cases h
 | some r=>rw[a] at h;cases h;rfl
theorem q2d{T:Nat->Prop}{n a:Nat}(h:tin T (below n)):tin T (a % 2 ^ n):=fun j b=>h j (by
 rw[jaj] at b;simp only[xf,rp] at b;unfold below;rw[jaw];simpa using b.1)
theorem zmw{E:Env}{c:TC}{l:Lz (El c)}{u:oc}(h:VR E (.lst c l) u):l.length*bsz c<=140737488355328:=by
 cases h with
 | lst0 hc=>simp
 | lst us h1 h2 h3 hb hh hc hu=>exact h3
theorem q1k{f:Nat}{nm:Nat->Oq Nm}{lf:Nat}{cl:Cl}{vs:Lz IV}{S:IS}{fr:PT IV}{e:IEx}{rd:Nat}{k:ff}{i:Int}{t:Nat}(hz:frzF nm=eb)(hm:P.follows .mixedOrders=i7)(htt:TT P tt)(hfi:FIok P f fi)(hcl:ClOK P cl)(hfr:ClFr cl)
  (hb:og vs.length fi.nt=i7) (hr:zh P tt nm S.next fi.nt cl lf i6 fi.body (zk vs 0 .leaf) S []=iz ⟨e,fr,S,[],rd,0⟩) (he:e.leaves=i7) (hres:fi.res=[.tmp t]) (hnt:oo t fi.nt=i7) (hs:slot fr t=.int k i)
  {T:TW} {E:Env} {us:Lz oc} (p:Pre T E S) (hrd:tin T.r (below S.next)) (hv:VRs E vs us) (hnp:e.isPan=eb:=by rfl):zg P f/\mf ox 0 P f us.toArray E.w (RetE T E S ⟨.int k i,S,below S.next,0⟩):=by
 refine(fun x=>⟨x.1,x.2.mono fun _ _ h=>RetX.val h rfl⟩) <| qwk (fi:=fi) (r:=⟨.int k i,S,(rd ||| 0) % 2 ^ S.next,0⟩) hz hm htt hfi hcl hfr hb hr he ?_ p (q2d hrd) (fun j a=>by simp at a) hv;have b:ul ([]:Lz Nat) S=iz (S,0):=rfl;simp only[yt,b,hres,ires,hnt,xa,hs];cases e<;>first|(cases hnp;done)|skip
 all_goals simp only[tupI,Nat.or_self,igc,Nat.zero_mod,low2,low0,dg,dx,xa]
theorem znm{f:Nat}(F:IdxFacts P tt c fi A B L C)(hm:P.follows .mixedOrders=i7)(htt:TT P tt)(hfi:FIok P f fi):HxOK P f (idxF c):=by
 refine HxOK.of (fun D z q m vs S r h T E U p w X H=>?_) (fun D q vs S r h=>?_) (fun D m vs S r h _ _=>?_)
 ·obtain⟨G,δ,g,d,j,i,rfl,I,Z,rfl⟩:=qwq h;obtain⟨rfl,rfl⟩:=kl I;have x:j.length*bsz G<=140737488355328:=by
   obtain⟨u,U,_,β,_⟩:=H.inv;exact zmw β
  have Q:=runK (F.a CRes (fun t vs S v=>ob (D t vs S) v) S.next (below S.next) (j.length+1) j g d S iz);have O:=runK (F.b CRes (fun t vs S v=>ob (D t vs S) v) S.next (below S.next) (j.length+1) j g d S iz);obtain⟨r,N,R,y,M,l⟩:=zk2 F m x (lf:=j.length+1) j [] (j.length+1) (frB G j g d) rfl (dy _) ⟨rfl,rfl,rfl,rfl⟩ Z;obtain⟨γ,n,o,W,s,V⟩:=r;simp only at R y M l;subst R;subst y;subst M;rcases l with ⟨K,Y⟩|⟨K,J⟩
  ·subst K;refine q1k (vs:=[.lst G j,.fn g d]) (nm:=nmI 2 [0,1,7,8] (below o.next)) (lf:=j.length+1) (fr:=n) (e:=.ret) (k:=.i64) (i:=i) (t:=4) (rd:=mb o.next s) rfl hm htt hfi z q F.two ?_ rfl F.res F.nt4 Y p w H;rw[F.body];simp only[zh,Q,O,F.lm,N,mbO,mbR,mB_I,n7,CRes.or,jav]
  ·subst K;subst J;have α:=runK (F.e CRes (fun t vs S v=>ob (D t vs S) v) o.next (below o.next) (j.length+1) n o iz);refine q1k (vs:=[.lst G j,.fn g d]) (nm:=nmI 2 [0,1,7,8] (below o.next)) (lf:=j.length+1) (fr:=n.set (.int .i64 (-1)) 4) (e:=.ret) (k:=.i64) (i:=-1) (t:=4) (rd:=mb o.next s) rfl hm htt hfi z q F.two ?_ rfl F.res F.nt4 (by rw[vp,xx rfl]) p w H;rw[F.body];simp only[zh,Q,O,F.lm,N,mbO,mbR,mB_I,n7,CRes.or,jav,dg,xa,α,qa7,jbq]
 ·obtain⟨_,_,_,_,_,_,_,_,_,rfl⟩:=qwq h;exact FrO.same _ rfl
 ·obtain⟨_,_,_,_,_,_,_,_,_,rfl⟩:=qwq h;rfl
def cL:fw->fw
 | .seq a _=>a
 | c=>c
def cR:fw->fw
 | .seq _ b=>b
 | c=>c
def cB:fw->fw
 | .block _ c=>c
 | .loop c=>c
 | .scope c=>c
 | c=>c
end Go.Jx
end

noncomputable section
namespace Go.Jx
open Go Go.Sx Go.RowKit
universe u

def smL:Lz (Nat × Sm)->Nat->Oq Sm
 | [],_=>i6
 | e::l,f=>cond (od f e.1) (iz e.2) (smL l f)
def SmOK(P:om):Lz (Nat × Sm)->Prop
 | []=>True
 | e::l=>Con P e.1 e.2/\SmOK P l
theorem u6{P:om}:∀{l:Lz (Nat × Sm)},SmOK P l->∀f s,smL l f=iz s->Con P f s
 | [],_,f,s,h=>by cases h
 | e::l,hl,f,s,h=>by
  unfold smL at h;cases hb:od f e.1 with
  | true=>rw[hb,xa] at h;cases h;rw[xg hb];exact hl.1
  | false=>rw[hb,xe] at h;exact u6 hl.2 f s h
def hxL:Lz (Nat × Hx)->Nat->Oq Hx
 | [],_=>i6
 | e::l,f=>cond (od f e.1) (iz e.2) (hxL l f)
def zv(P:om):Lz (Nat × Hx)->Prop
 | []=>True
 | e::l=>HxOK P e.1 e.2.f/\zv P l
theorem bp{P:om}:∀{l:Lz (Nat × Hx)},zv P l->∀f s,hxL l f=iz s->HxOK P f s.f
 | [],_,f,s,h=>by cases h
 | e::l,hl,f,s,h=>by
  unfold hxL at h;cases hb:od f e.1 with
  | true=>rw[hb,xa] at h;cases h;rw[xg hb];exact hl.1
  | false=>rw[hb,xe] at h;exact bp hl.2 f s h
def nm1(f:Nat)(nmf:Nat->Oq Nm):Nat->Nat->Oq Nm:=fun g=>cond (od g f) nmf fun _=>i6
theorem zho(f:Nat)(nmf:Nat->Oq Nm):nm1 f nmf f=nmf:=by unfold nm1;rw[dg,xa]
theorem conT{P:om}{tt:Nat->Oq TI}{ft:Nat->Oq FI}{sml:Lz (Nat × Sm)}{hxl:Lz (Nat × Hx)}{f:Nat}{s:Sm}{fi:FI}{nmf:Nat->Oq Nm}{st hd:Nat->Bool}(n:Nat)(hm:P.follows .mixedOrders=i7)(htt:TT P tt)(hft:FT P ft)(hsm:SmOK P sml)
  (hhx:zv P hxl) (hC:zg P f) (h1:smL sml f=i6) (h2:hxL hxl f=i6) (h3:ft f=iz fi) (h4:∀x,og (argV s.pts x).length fi.nt=i7) (hn:(regs fi.body).Nodup) (hl:okC nmf st hd fi.body i6=i7)
  (hrun:∀(x:ElA s.pts) (y:ElR s.rts),WfA s.pts x->s.f x=iz y->∃lf,
   yr P tt nmf fi.nt (zn P tt ft (nm1 f nmf) (smL sml) (hxL hxl) lf n (ElR s.rts)) lf st (atN P tt nmf fi s (zn P tt ft (nm1 f nmf) (smL sml) (hxL hxl) lf n (ElR s.rts)) lf hd) fi.body [] (zk (argV s.pts x) 0 .leaf) S0 [] (jf tt fi s)=iz y) (hz:frzF nmf=eb:=by rfl):Con P f s:=by
 refine conK (nm:=nm1 f nmf) (sm:=smL sml) (hx:=hxL hxl) hm htt hft (u6 hsm) (bp hhx) hC fun x y a c=>?_;obtain⟨lf,b⟩:=hrun x y a c;refine⟨n+1,lf,?_⟩;rw[<- zz8 (qg n _) hn hl] at b;have e:=zho f nmf;unfold zn;simp only[h1,h2,h3,h4,xa,e,hz,xe];exact b
theorem conU{P:om}{tt:Nat->Oq TI}{ft:Nat->Oq FI}{sml:Lz (Nat × Sm)}{hxl:Lz (Nat × Hx)}{f:Nat}{pts:Lz TC}{rts:Lz (Bool × TC)}{g:ElA pts->Oq (ElR rts)}{fi:FI}(F:Nat->ElA pts->Oq (ElR rts))(hm:P.follows .mixedOrders=i7/\TT P tt/\FT P ft)
  (hC:zg P f) (hhx:zv P hxl) (hsm:SmOK P sml) (hg:∀x y,WfA pts x->g x=iz y->∃lf,F lf x=iz y) (h1:smL sml f=i6:=by rfl) (h2:hxL hxl f=i6:=by rfl) (h3:ft f=iz fi:=by kernel_rfl) (h4:∀x,og (argV pts x).length fi.nt=i7:=by intro x;kernel_rfl) (hn:(regs fi.body).Nodup:=by decide +kernel)
  (hl:okC (fun _=>i6) (fun _=>eb) (fun _=>eb) fi.body i6=i7:=by kernel_rfl)
  (hrun:∀lf J x,yr P tt (fun _=>i6) fi.nt (zn P tt ft (nm1 f fun _=>i6) (smL sml) (hxL hxl) lf 20 (ElR rts)) lf (fun _=>eb) J fi.body [] (zk (argV pts x) 0 .leaf) S0 [] (jf tt fi ⟨pts,rts,g⟩)=F lf x:=by intro lf J x;kernel_rfl):Con P f ⟨pts,rts,g⟩ :=
 conT 20 hm.1 hm.2.1 hm.2.2 hsm hhx hC h1 h2 h3 h4 hn hl fun x y b a=>by
  obtain⟨lf,h⟩:=hg x y b a;exact⟨lf,(hrun lf _ x).trans h⟩
theorem conV{P:om}{tt:Nat->Oq TI}{ft:Nat->Oq FI}{sml:Lz (Nat × Sm)}{hxl:Lz (Nat × Hx)}{f:Nat}{pts:Lz TC}{rts:Lz (Bool × TC)}{g:ElA pts->Oq (ElR rts)}{fi:FI}{nmf:Nat->Oq Nm}{st hd:Nat->Bool}(F:Nat->ElA pts->Oq (ElR rts))(hm:P.follows .mixedOrders=i7/\TT P tt/\FT P ft)
  (hC:zg P f) (hhx:zv P hxl) (hn:(regs fi.body).Nodup) (hl:okC nmf st hd fi.body i6=i7)
  (hrun:∀lf x,yr P tt nmf fi.nt (zn P tt ft (nm1 f nmf) (smL sml) (hxL hxl) lf 20 (ElR rts)) lf st (atN P tt nmf fi ⟨pts,rts,g⟩ (zn P tt ft (nm1 f nmf) (smL sml) (hxL hxl) lf 20 (ElR rts)) lf hd) fi.body [] (zk (argV pts x) 0 .leaf) S0 [] (jf tt fi ⟨pts,rts,g⟩)=F lf x)
  (hsm:SmOK P sml) (hg:∀x y,WfA pts x->g x=iz y->∃lf,F lf x=iz y) (h1:smL sml f=i6:=by rfl) (h2:hxL hxl f=i6:=by rfl) (h3:ft f=iz fi:=by kernel_rfl) (h4:∀x,og (argV pts x).length fi.nt=i7:=by intro x;kernel_rfl) (hz:frzF nmf=eb:=by rfl):Con P f ⟨pts,rts,g⟩ :=
 conT 20 hm.1 hm.2.1 hm.2.2 hsm hhx hC h1 h2 h3 h4 hn hl (fun x y b a=>by
  obtain⟨lf,h⟩:=hg x y b a;exact⟨lf,(hrun lf x).trans h⟩) hz
def S.lit(l:Lz Nat):Bq:=⟨⟨l.map mm⟩⟩
end Go.Jx
end

noncomputable section
namespace Go.Jx
open Go Go.Sx Go.RowKit
universe u

section
variable {P : om} {tt : Nat -> Oq TI} {nm : Nat -> Oq Nm} {B nt lf : Nat} {round : Oq Nat} {cl cl' : Cl}
def ClLe(cl cl':Cl):Prop:=∀t vs S r,cl t vs S=iz r->cl' t vs S=iz r
theorem q55(h:ClLe cl cl'){fr:PT IV}{S:IS}{o:o8}{r:Res}(hr:q0 P tt nt cl fr S o=iz r):q0 P tt nt cl' fr S o=iz r:=by
 obtain⟨e,d,i,b,f,g⟩:=o;cases d<;>try exact hr
 rename_i c;obtain⟨a,args,j⟩:=c;cases a<;>try exact hr
 rename_i x;simp only[q0,oget] at hr ⊢;generalize evo nt fr x=e1 at hr ⊢;cases e1 with
 | none=>cases hr
 | some v =>
  simp only at hr ⊢;generalize evL nt fr args.toList=e2 at hr ⊢;cases e2 with
  | none=>cases hr
  | some vs =>
   cases v<;>simp only at hr ⊢<;>first|(cases hr;done)|exact h _ _ _ _ hr
theorem qpd(h:ClLe cl cl'){ops:Lz o8}:∀{l:Lz o8} {fr:PT IV} {S:IS} {q:FRes},iseq P tt nt cl ops l fr S=iz q->iseq P tt nt cl' ops l fr S=iz q
 | [],fr,S,q,hq=>hq
 | o::l,fr,S,q,hq=>by
  unfold iseq at hq ⊢;cases hgk:gOK ops fr o.guard with
  | false=>rw[hgk] at hq;cases hq
  | true =>
  rw[hgk,xa] at hq;rw[xa];cases hw:jn ops nt fr o.guard with
  | true =>
   rw[hw,xa] at hq;rw[xa];cases hs:q0 P tt nt cl fr S o with
   | none=>rw[hs] at hq;cases hq
   | some r =>
    rw[hs] at hq;rw[q55 h hs];simp only at hq ⊢;cases hpn:qy r.v with
    | some p=>rw[hpn] at hq;exact hq
    | none =>
    rw[hpn] at hq;simp only at hq ⊢;cases hn:iseq P tt nt cl ops l (putD o.dst r.v fr) r.S with
    | none=>rw[hn] at hq;cases hq
    | some q2=>rw[hn] at hq;rw[qpd h hn];exact hq
  | false =>
   rw[hw,xe] at hq;rw[xe];exact qpd h hq
theorem qfn(h:ClLe cl cl'){ops:Lz o8}{bs:Lz Nat}:∀{l:Lz o8} {k:Nat} {pn:Oq (Nat × IV)} {fr:PT IV} {S:IS} {q:Recs},qr P tt nt cl ops bs l k pn fr S=iz q->qr P tt nt cl' ops bs l k pn fr S=iz q
 | [],k,pn,fr,S,q,hq=>hq
 | o::l,k,pn,fr,S,q,hq=>by
  unfold qr at hq ⊢;cases hsk:y4 bs k pn with
  | true =>
   rw[hsk,xa] at hq;rw[xa];cases hn:qr P tt nt cl ops bs l (k+1) pn (putD o.dst .unk fr) S with
   | none=>rw[hn] at hq;cases hq
   | some q2=>rw[hn] at hq;rw[qfn h hn];exact hq
  | false =>
  rw[hsk,xe] at hq;rw[xe];cases hgk:gOK ops fr o.guard with
  | false=>rw[hgk] at hq;cases hq
  | true =>
  rw[hgk,xa] at hq;rw[xa];cases hw:jn ops nt fr o.guard with
  | true =>
   rw[hw,xa] at hq;rw[xa];cases hs:q0 P tt nt cl fr S o with
   | none=>rw[hs] at hq;cases hq
   | some r =>
    rw[hs] at hq;rw[q55 h hs];simp only at hq ⊢;cases hpn:qy r.v with
    | some p =>
     rw[hpn] at hq;cases pn with
     | some x=>cases hq
     | none =>
     simp only at hq ⊢;cases hf:jg p with
     | false=>rw[hf] at hq;cases hq
     | true =>
     rw[hf,xa] at hq;rw[xa];cases hn:qr P tt nt cl ops bs l (k+1) (iz (k,p)) (putD o.dst .unk fr) r.S with
     | none=>rw[hn] at hq;cases hq
     | some q2=>rw[hn] at hq;rw[qfn h hn];exact hq
    | none =>
    rw[hpn] at hq;simp only at hq ⊢;cases hn:qr P tt nt cl ops bs l (k+1) pn (putD o.dst r.v fr) r.S with
    | none=>rw[hn] at hq;cases hq
    | some q2=>rw[hn] at hq;rw[qfn h hn];exact hq
  | false =>
   rw[hw,xe] at hq;rw[xe];cases hn:qr P tt nt cl ops bs l (k+1) pn (putD o.dst (.tup []) fr) S with
   | none=>rw[hn] at hq;cases hq
   | some q2=>rw[hn] at hq;rw[qfn h hn];exact hq
theorem zpk(h:ClLe cl cl'){ops:Lz o8}{fr:PT IV}{S:IS}{q:FRes}(hq:iany P tt nt cl ops fr S=iz q):iany P tt nt cl' ops fr S=iz q:=by
 unfold iany at hq ⊢;cases a:qr P tt nt cl ops (befs ops []) ops 0 i6 fr S with
 | none=>rw[a] at hq;cases hq
 | some q2=>rw[a] at hq;rw[qfn h a];exact hq
theorem qy1(h:ClLe cl cl'){f:Nat}{caps:Lz IV}{S:IS}{id:Nat}{fr:PT IV}{ds:Lz Nat}{rd:Nat}{q:CRes}(hq:ifin cl f caps S id fr ds rd=iz q):ifin cl' f caps S id fr ds rd=iz q:=by
 unfold ifin at hq ⊢;cases a:cl (.fn f) (.yield id::caps) S with
 | none=>rw[a] at hq;cases hq
 | some r=>rw[a] at hq;rw[h _ _ _ _ a];exact hq
theorem qqd(h:ClLe cl cl'):∀(c:fw) {fr:PT IV} {S:IS} {ds:Lz Nat} {q:CRes},zh P tt nm B nt cl lf round c fr S ds=iz q->zh P tt nm B nt cl' lf round c fr S ds=iz q:=by
 intro c;induction c with
 | skip=>intro fr S ds q a;exact a
 | label l=>intro fr S ds q a;exact a
 | exit id=>intro fr S ds q a;exact a
 | goto l=>intro fr S ds q a;exact a
 | ret=>intro fr S ds q a;exact a
 | refuse _=>intro fr S ds q a;exact a
 | region id ops draw =>
  intro fr S ds q a;simp only[zh] at a ⊢;cases f:jy nt (nm id) B fr S ds with
  | none=>rw[f] at a;cases a
  | some x =>
   rw[f] at a;simp only at a ⊢;cases draw with
   | true =>
    simp only[xa] at a ⊢;cases d:iany P tt nt cl ops.toList x.fr x.S with
    | none=>rw[d] at a;cases a
    | some r=>rw[d] at a;rw[zpk h d];exact a
   | false =>
    simp only[xe] at a ⊢;cases d:iseq P tt nt cl ops.toList ops.toList x.fr x.S with
    | none=>rw[d] at a;cases a
    | some r=>rw[d] at a;rw[qpd h d];exact a
 | seq x y ihx ihy =>
  intro fr S ds q a;simp only[zh] at a ⊢;cases d:zh P tt nm B nt cl lf round x fr S ds with
  | none=>rw[d] at a;cases a
  | some r =>
   rw[d] at a
   grind
 | cond c x y ihx ihy =>
  intro fr S ds q a;simp only[zh] at a ⊢
  grind
 | block id c ih =>
  intro fr S ds q a;simp only[zh] at a ⊢
  grind
 | scope c ih =>
  intro fr S ds q a;simp only[zh] at a ⊢
  grind
 | loop c ih =>
  intro fr S ds q a;simp only[zh] at a ⊢;cases k:vz nm c with
  | some m =>
   rw[k] at a;simp only at a ⊢;obtain⟨p,b,rfl⟩:=c6 a;have e:∀n fr S ds q,je (zh P tt nm B nt cl lf round c) m.1 m.2 n fr S ds=iz q->je (zh P tt nm B nt cl' lf round c) m.1 m.2 n fr S ds=iz q:=by
    intro n;induction n with
    | zero=>intro fr S ds q a;exact a
    | succ n ihn =>
     intro fr S ds q a;unfold je at a ⊢
     grind
   grind
  | none =>
   rw[k] at a;simp only at a ⊢;have e:∀n fr S ds q,yo (zh P tt nm B nt cl lf round c) n fr S ds=iz q->yo (zh P tt nm B nt cl' lf round c) n fr S ds=iz q:=by
    intro n;induction n with
    | zero=>intro fr S ds q a;exact a
    | succ n ihn =>
     intro fr S ds q a;unfold yo at a ⊢;cases d:zh P tt nm B nt cl lf round c fr S ds with
     | none=>rw[d] at a;cases a
     | some r =>
      rw[d] at a
      grind
   grind
 | rangeFunc g ps assign body ih1 ih2 =>
  intro fr S ds q a;simp only[zh] at a ⊢;obtain⟨p,b,rfl⟩:=c6 a;cases i:evo nt fr g with
  | none=>rw[i] at b;cases b
  | some v =>
   rw[i] at b;cases v<;>simp only at b ⊢<;>try (cases b;done)
   cases round with
   | none=>simp only at b ⊢;rw[qy1 h b];rfl
   | some l =>
    simp only at b ⊢;cases j:S.heap.get l with
    | none=>rw[j] at b;cases b
    | some o =>
     rw[j] at b;cases o<;>simp only at b ⊢<;>try (cases b;done)
     rw[qy1 h b];rfl
end

def sixO(p:Nat->Int->Oq Bool)(s:Bq)(b:Bool):Nat->Nat->Oq Int
 | 0,_=>i6
 | n+1,i=>cond (oo i s.size) (match p (i+(fj s i).2) (we (fj s i).1) with
  | none=>i6
  | some a=>cond (decide (a=b)) (iz (we i)) (sixO p s b n (i+(fj s i).2))) (iz (-1))
def sixF(cl:Cl)(vs:Lz IV)(S:IS):Oq Res:=match vs with
 | [.str s,.fn g caps,.bool b]=>match sixO (fun q x=>ob (cl (.fn g) (.int .i32 x::caps) (S.new (.iter s q))) (ansB (below S.next))) s b (s.size+1) 0 with
  | none=>i6
  | some i=>iz ⟨.int .i64 i,S,below S.next,0⟩
 | _=>i6
def sixK(clP:ClP)(R:Type)(vs:Lz IV)(S:IS)(kk:Res->Oq R):Oq R:=match vs with
 | [.str s,.fn g caps,.bool b]=>match sixO (fun q x=>clP Bool (.fn g) (.int .i32 x::caps) (S.new (.iter s q)) (ansB (below S.next))) s b (s.size+1) 0 with
  | none=>i6
  | some i=>kk ⟨.int .i64 i,S,below S.next,0⟩
 | _=>i6
theorem zd2(cl:Cl)(clP:ClP)(h:∀R,ClEq cl (clP R))(R:Type)(vs:Lz IV)(S:IS)(kk:Res->Oq R):sixK clP R vs S kk=ob (sixF cl vs S) kk:=by
 unfold sixK sixF;split
 ·rename_i s g a b;simp only[h Bool _ _ _ _];cases sixO (fun q x=>ob (cl (.fn g) (.int .i32 x::a) (S.new (.iter s q))) (ansB (below S.next))) s b (s.size+1) 0<;>rfl
 ·rfl
def zjk:Hx:=⟨sixF,sixK,zd2⟩
theorem qv8{cl:Cl}{vs:Lz IV}{S:IS}{r:Res}(h:sixF cl vs S=iz r):∃s g caps b i,vs=[.str s,.fn g caps,.bool b]/\sixO (fun q x=>ob (cl (.fn g) (.int .i32 x::caps) (S.new (.iter s q))) (ansB (below S.next))) s b (s.size+1) 0=iz i/\r=⟨.int .i64 i,S,below S.next,0⟩:=by
 unfold sixF at h
 grind
def nmS(mr mw:Nat):Nat->Oq Nm:=fun j=>cond (od j 2) (iz ⟨[1,2,10],[],[],[],[],mr,mw,i7⟩) i6
theorem mB_S(mr mw B:Nat):mB (nmS mr mw) B=B:=rfl
def frS(g:Nat)(caps:Lz IV)(b:Bool)(id:Nat):PT IV:=((PT.leaf.set (.fn g caps) 1).set (.bool b) 2).set (.ptr id 0) 10
def clT(test:Tgt->Lz IV->IS->Bool)(c:Res):Cl:=fun t vs S=>cond (test t vs S) (iz c) i6
structure SixFacts (P:om) (tt:Nat->Option TI) (fi:FI) (A B L C:fw):Prop where
 body:fi.body=.seq A (.seq (.seq B (.block 0 (.loop L))) C)
 three:og 3 fi.nt=i7
 head:∀mr mw,okC (nmS mr mw) (fun k=>od k 2) (fun k=>od k 2) L (iz 2)=i7
 ab:∀(R:Type) (clK:ClK R) (B0 mr mw lf:Nat) (s:ByteArray) (g:Nat) (caps:List IV) (b:Bool) (S:IS) (kk:_->Option R),zy P tt (nmS mr mw) B0 fi.nt clK lf i6 (.seq A B) (zk [.str s,.fn g caps,.bool b] 0 .leaf) S [] (fun r=>kk (tup [1,2,10] r)) =
  kk (.normal,[.fn g caps,.bool b,.ptr S.next 0],S.new (.iter s 0),[],(mb B0 0).lor (mb B0 0),(mb B0 0).lor (mb B0 0))
 l:∀(R:Type) (B0 mr mw lf:Nat) (g:Nat) (caps:List IV) (b a:Bool) (id rd:Nat) (S S':IS) (test:Tgt->List IV->IS->Bool) (kk:_->Option R),zy P tt (nmS mr mw) B0 fi.nt (fun t vs S kk=>cond (test t vs S) (kk ⟨.bool a,S',rd,0⟩) i6) lf i6 L (frS g caps b id) S [] (fun r=>kk (tup [1,2,6,10] r)) =
  match S.heap.get id with
  | some (.iter s p)=>cond (oo p s.size)
   (cond (test (.fn g) (.int .i32 (we (fj s p).1)::caps) (S.set id (.iter s (p+(fj s p).2))))
    (cond (decide (a=b))
     (kk (.ret,[.fn g caps,.bool b,.int .i64 (we p),.ptr id 0],S',[],(mb B0 0).lor (o9 0 ((mb B0 0).lor ((mb B0 (o9 0 (o9 0 (rd.lor 0)))).lor ((mb B0 0).lor 0)))),
      (mb B0 (o9 0 ((Nat.pow 2 id).lor 0))).lor (o9 0 ((mb B0 0).lor ((mb B0 0).lor ((mb B0 0).lor 0))))))
     (kk (.normal,[.fn g caps,.bool b,.unk,.ptr id 0],S',[],(mb B0 0).lor (o9 0 ((mb B0 0).lor ((mb B0 (o9 0 (o9 0 (rd.lor 0)))).lor 0))),
      (mb B0 (o9 0 ((Nat.pow 2 id).lor 0))).lor (o9 0 ((mb B0 0).lor ((mb B0 0).lor 0))))))
    i6)
   (kk (.exit 0,[.fn g caps,.bool b,.unk,.ptr id 0],S,[],(mb B0 ((Nat.pow 2 id).lor 0)).lor 0,(mb B0 0).lor 0))
  | _=>i6
 e:∀(R:Type) (clK:ClK R) (B0 mr mw lf:Nat) (fr:PT IV) (S:IS) (kk:CRes->Option R),zy P tt (nmS mr mw) B0 fi.nt clK lf i6 C fr S [] kk=kk ⟨.ret,fr.set (.int .i64 (-1)) 6,S,[],(mb B0 0).lor 0,(mb B0 0).lor 0⟩
 res:fi.res=[.tmp 6]
 nt6:oo 6 fi.nt=i7
 lm:∀mr mw,vz (nmS mr mw) L=iz (mr,mw)
theorem PT.one_set{α:Type u}(x y:α):∀(f n:Nat),n<=f->(PT.one x f n).set y n=PT.one y f n
 | 0,n,h=>by
  obtain rfl:n=0:=by omega
  rfl
 | f+1,n,h=>by
  by_cases hn:n=0
  ·subst hn;rfl
  ·by_cases h2:n % 2=1
   ·simp only[PT.one,qm hn,xe,wk h2,xa,PT.set];rw[PT.one_set x y f _ (by omega)]
   ·simp only[PT.one,qm hn,xe,qm h2,PT.set];rw[PT.one_set x y f _ (by omega)]
theorem PT.set_set{α:Type u}(x y:α):∀(t:PT α) (n:Nat),(t.set x n).set y n=t.set y n
 | .leaf,n=>PT.one_set x y n n (xl _)
 | .node v l r,n=>by
  by_cases hn:n=0
  ·subst hn;rfl
  ·by_cases h2:n % 2=1
   ·simp only[PT.set,qm hn,xe,wk h2,xa];rw[PT.set_set x y l]
   ·simp only[PT.set,qm hn,xe,qm h2];rw[PT.set_set x y r]
theorem IS.new_set(S:IS)(o o':IObj):(S.new o).set S.next o'=S.new o':=by
 unfold IS.new IS.set;simp only[PT.set_set]
theorem IS.new_get(S:IS)(o:IObj):(S.new o).heap.get S.next=iz o:=by
 unfold IS.new;simp only[PT.get_set,dv]
theorem zaj{a m:Nat}:subm a m=i7↔∀j,a.testBit j=i7->m.testBit j=i7:=by
 constructor
 ·intro h j b;exact qtl (T:=fun j=>m.testBit j=i7) h (fun j b=>b) j b
 ·intro h;unfold subm;have:a ||| m=m:=Nat.eq_of_testBit_eq fun j=>by
   grind
  rw[this];exact dg m
theorem q6l(n j:Nat):(below n).testBit j=decide (j<n):=by unfold below;exact jaw ..
theorem qzq{P:om}{tt:Nat->Oq TI}{fi:FI}{f:Nat}{nm:Nat->Oq Nm}{lf:Nat}{cl:Cl}{vs:Lz IV}{S S1:IS}{fr:PT IV}{e:IEx}{rd wr:Nat}{k:ff}{i:Int}{t:Nat}(hz:frzF nm=eb)(hm:P.follows .mixedOrders=i7)(htt:TT P tt)(hfi:FIok P f fi)(hcl:ClOK P cl)(hfr:ClFr cl)
  (hb:og vs.length fi.nt=i7) (hr:zh P tt nm S.next fi.nt cl lf i6 fi.body (zk vs 0 .leaf) S []=iz ⟨e,fr,S1,[],rd,wr⟩) (hw:wr % 2 ^ S.next=0) (he:e.leaves=i7) (hres:fi.res=[.tmp t]) (hnt:oo t fi.nt=i7) (hs:slot fr t=.int k i)
  {T:TW} {E:Env} {us:Lz oc} (p:Pre T E S) (hrd:tin T.r (below S.next)) (hv:VRs E vs us) (hnp:e.isPan=eb:=by rfl):zg P f/\mf ox 0 P f us.toArray E.w (RetE T E S ⟨.int k i,S,below S.next,0⟩):=by
 refine(fun x=>⟨x.1,x.2.mono fun _ _ h=>RetX.val h rfl⟩) <| qwk (fi:=fi) (r:=⟨.int k i,S,(rd ||| 0) % 2 ^ S.next,0⟩) hz hm htt hfi hcl hfr hb hr he ?_ p (q2d hrd) (fun j a=>by simp at a) hv;have b:ul ([]:Lz Nat) S1=iz (S1,0):=rfl;simp only[yt,b,hres,ires,hnt,xa,hs];cases e<;>first|(cases hnp;done)|skip
 all_goals simp only[tupI,igc,low2,low0,jbq,hw,dg,dx,xa]
variable {P : om} {tt : Nat -> Oq TI} {fi : FI} {A B L C : fw}
theorem zsf(F:SixFacts P tt fi A B L C){cl:Cl}(hcalm:Calm cl){s:Bq}{b:Bool}{g:Nat}{caps:Lz IV}{S:IS}{i:Int}{lf:Nat}:∀(fuel p:Nat) (fr:PT IV),(slot fr 1=.fn g caps/\slot fr 2=.bool b/\slot fr 10=.ptr S.next 0) ->
  sixO (fun q x=>ob (cl (.fn g) (.int .i32 x::caps) (S.new (.iter s q))) (ansB (below S.next))) s b fuel p=iz i ->
  ∃r,je (zh P tt (nmS (below (S.next+1)) (2 ^ S.next)) S.next fi.nt cl lf i6 L) (below (S.next+1)) (2 ^ S.next) fuel fr (S.new (.iter s p)) []=iz r/\r.ds=[]/\r.rd=below (S.next+1)/\r.wr=2 ^ S.next/\((r.e=.ret/\slot r.fr 6=.int .i64 i)\/(r.e=.exit 0/\i=-1)):=by
 intro fuel;induction fuel with
 | zero=>intro p fr W d;cases d
 | succ n ih =>
  intro p fr W d;have γ:=fun cl=>qbu (P:=P) (tt:=tt) (B:=S.next) (nt:=fi.nt) (lf:=lf) (cl:=cl) (h:=2) (m:=⟨[1,2,10],[],[],[],[],below (S.next+1),2 ^ S.next,i7⟩) rfl rfl (fr:=fr) (fr':=frS g caps b S.next) (by
   intro t k;simp only[po,jan,or_false] at k;rcases k with rfl|rfl|rfl
   ·exact W.1
   ·exact W.2.1
   ·exact W.2.2) (c:=L) (S:=S.new (.iter s p)) (ds:=[]) (F.head _ _)
  have β:∀x,subm x (below S.next)=i7->subm (mb S.next x) (below (S.next+1))=i7:=fun x ε=>qht (by
   rw[zaj] at ε ⊢;intro j X;have:=ε j X;rw[q6l] at this ⊢;simp only[rp] at this ⊢;omega)
  have T:subm (mb S.next (2 ^ S.next)) (2 ^ S.next)=i7:=qht (zwj _);have α:subm (mb S.next (2 ^ S.next)) (below (S.next+1))=i7:=qht (by
   rw[zaj];intro j X;rw[Nat.testBit_two_pow] at X;rw[q6l];simp only[rp] at X ⊢;omega)
  have G:Nat.pow 2 S.next=2 ^ S.next:=rfl
  unfold sixO at d;cases z:oo p s.size with
  | false =>
   rw[z,xe] at d;cases d;have o:=F.l (IEx × Lz IV × IS × Lz Nat × Nat × Nat) S.next (below (S.next+1)) (2 ^ S.next) lf g caps b eb S.next 0 (S.new (.iter s p)) S (fun _ _ _=>eb) iz
   rw[IS.new_get] at o;simp only[z,xe,n7,qa7,qv1] at o;have V:(fun(t:Tgt) (f:Lz IV) (S:IS) (u:Res->Oq (IEx × Lz IV × IS × Lz Nat × Nat × Nat))=>(i6:Oq (IEx × Lz IV × IS × Lz Nat × Nat × Nat)))=fun t f S u=>ob ((fun _ _ _=>i6:Cl) t f S) u:=rfl;rw[V] at o;obtain⟨r,w,k⟩:=qad o;have w:=qqd (cl':=cl) (fun t f S r h=>by cases h) _ w;simp only[tup,rg] at k;obtain⟨O,H,N,M,K,J⟩:=k;refine⟨⟨.exit 0,r.fr,S.new (.iter s p),[],below (S.next+1),2 ^ S.next⟩,?_,rfl,rfl,rfl,.inr ⟨rfl,rfl⟩⟩;unfold je;rw[γ cl];have v:zh P tt (nmS (below (S.next+1)) (2 ^ S.next)) S.next fi.nt cl lf i6 L (frS g caps b S.next) (S.new (.iter s p)) []=iz r:=w
   simp only[v,K,J,G,α,qf8,dx,xa,O,N,M]
  | true =>
   rw[z,xa] at d;cases Y:cl (.fn g) (.int .i32 (we (fj s p).1)::caps) (S.new (.iter s (p+(fj s p).2))) with
   | none=>rw[Y] at d;cases d
   | some r0 =>
   rw[Y] at d;simp only[ob] at d;obtain⟨ζ,δ,D,I⟩:=r0;cases ζ<;>simp only[ansB] at d<;>try (cases d;done)
   rename_i a;cases y:(od I 0&&subm D (below S.next)) with
   | false=>rw[y] at d;cases d
   | true =>
   rw[y] at d;simp only[xf] at y;have Z:I=0:=xg y.1;subst Z;have θ:δ=S.new (.iter s (p+(fj s p).2)):=hcalm _ _ _ _ Y rfl rfl;subst θ;simp only[xa] at d;have Q:=β _ y.2
   let c0:Res:=⟨.bool a,S.new (.iter s (p+(fj s p).2)),D,0⟩
   let test:Tgt->Lz IV->IS->Bool:=fun t f S=>@decide (cl t f S=iz c0) (ie _)
   have R:ClLe (clT test c0) cl:=fun t f S r h=>by
    unfold clT at h;cases k:test t f S with
    | false=>rw[k] at h;cases h
    | true =>
     rw[k] at h;cases h;exact @of_decide_eq_true _ (ie _) k
   have o:=F.l (IEx × Lz IV × IS × Lz Nat × Nat × Nat) S.next (below (S.next+1)) (2 ^ S.next) lf g caps b a S.next D (S.new (.iter s p)) (S.new (.iter s (p+(fj s p).2))) test iz
   rw[IS.new_get] at o;have E:test (.fn g) (.int .i32 (we (fj s p).1)::caps) ((S.new (.iter s p)).set S.next (.iter s (p+(fj s p).2)))=i7:=by
    rw[IS.new_set];exact @decide_eq_true _ (ie _) Y
   simp only[z,E,xa,n7,qa7,qv1] at o;cases U:decide (a=b) with
   | true =>
    rw[U,xa] at o d;cases d;have V:(fun(t:Tgt) (f:Lz IV) (S:IS) (u:Res->Oq (IEx × Lz IV × IS × Lz Nat × Nat × Nat))=>cond (test t f S) (u c0) i6)=fun t f S u=>ob (clT test c0 t f S) u:=by
     funext t f S u;unfold clT;cases test t f S<;>rfl
    rw[V] at o;obtain⟨r,w,k⟩:=qad o;have w:=qqd R _ w;simp only[tup,rg,ga,ry] at k;obtain⟨O,H,N,M,K,J⟩:=k;refine⟨⟨.ret,r.fr,S.new (.iter s (p+(fj s p).2)),[],below (S.next+1),2 ^ S.next⟩,?_,rfl,rfl,rfl,.inl ⟨rfl,H.2.2.1⟩⟩;unfold je;rw[γ cl];have v:zh P tt (nmS (below (S.next+1)) (2 ^ S.next)) S.next fi.nt cl lf i6 L (frS g caps b S.next) (S.new (.iter s p)) []=iz r:=w
    simp only[v,K,J,G,Q,T,dx,xa,O,N,M]
   | false =>
    rw[U,xe] at o d;have V:(fun(t:Tgt) (f:Lz IV) (S:IS) (u:Res->Oq (IEx × Lz IV × IS × Lz Nat × Nat × Nat))=>cond (test t f S) (u c0) i6)=fun t f S u=>ob (clT test c0 t f S) u:=by
     funext t f S u;unfold clT;cases test t f S<;>rfl
    rw[V] at o;obtain⟨r,w,k⟩:=qad o;have w:=qqd R _ w;simp only[tup,rg,ga,ry] at k;obtain⟨O,H,N,M,K,J⟩:=k;obtain⟨q,q1,η⟩:=ih (p+(fj s p).2) r.fr ⟨H.1,H.2.1,H.2.2.2.1⟩ d;refine⟨q,?_,η⟩;unfold je;rw[γ cl];have v:zh P tt (nmS (below (S.next+1)) (2 ^ S.next)) S.next fi.nt cl lf i6 L (frS g caps b S.next) (S.new (.iter s p)) []=iz r:=w
    simp only[v,K,J,G,Q,T,dx,xa,O,N,M];exact q1
theorem q7u(n:Nat):mb n (2 ^ n) % 2 ^ n=0:=by
 unfold mb;cases od n 0
 ·exact Nat.mod_self _
 ·exact Nat.zero_mod _
theorem zqx{f:Nat}(F:SixFacts P tt fi A B L C)(hm:P.follows .mixedOrders=i7)(htt:TT P tt)(hfi:FIok P f fi):HxOK P f sixF:=by
 refine HxOK.of (fun cl y o j vs S r h T E φ p w ν W=>?_) (fun cl o vs S r h=>?_) (fun cl j vs S r h _ _=>?_)
 ·obtain⟨s,g,c,b,i,rfl,ρ,rfl⟩:=qv8 h;obtain⟨ι,a,v⟩:=qad (cl:=cl) (F.ab (IEx × Lz IV × IS × Lz Nat × Nat × Nat) (fun t vs S M=>ob (cl t vs S) M) S.next (below (S.next+1)) (2 ^ S.next) (s.size+1) s g c b S iz);obtain⟨η,q,θ,V,U,R⟩:=ι;simp only[tup,rg,ga,jcj,ry,n7,qa7] at v;obtain⟨rfl,⟨γ,β,α,_⟩,rfl,rfl,rfl,rfl⟩:=v;obtain⟨r,X,x,m,l,d⟩:=zsf F j (lf:=s.size+1) (s.size+1) 0 q ⟨γ,β,α⟩ ρ;obtain⟨χ,n,H,ζ,ε,δ⟩:=r;simp only at x m l d;subst x;subst m;subst l;simp only[zh] at a;cases G:zh P tt (nmS (below (S.next+1)) (2 ^ S.next)) S.next fi.nt cl (s.size+1) i6 A (zk [.str s,.fn g c,.bool b] 0 .leaf) S [] with
  | none=>rw[G] at a;cases a
  | some qa =>
  rw[G] at a;simp only at a;obtain⟨κ,J,μ,K,u,I⟩:=qa;cases κ<;>simp only at a<;>try (cases a;done)
  cases D:zh P tt (nmS (below (S.next+1)) (2 ^ S.next)) S.next fi.nt cl (s.size+1) i6 B J μ K with
  | none=>rw[D] at a;cases a
  | some qb =>
  rw[D] at a;obtain⟨be,τ,bS,υ,z,Q⟩:=qb;simp only[CRes.or,pj,CRes.mk.injEq] at a;obtain⟨rfl,rfl,rfl,rfl,ω,ψ⟩:=a;obtain⟨Z,Y⟩:I=0/\Q=0:=by
   grind
  subst Z;subst Y;rcases d with ⟨O,ξ⟩|⟨O,N⟩
  ·subst O;refine qzq (vs:=[.str s,.fn g c,.bool b]) (nm:=nmS (below (S.next+1)) (2 ^ S.next)) (lf:=s.size+1) (fr:=n) (e:=.ret) (k:=.i64) (i:=i) (t:=6) (S1:=H) (rd:=u ||| (z ||| mb S.next (below (S.next+1)))) (wr:=mb S.next (2 ^ S.next)) rfl hm htt hfi y o F.three ?_ (q7u _) rfl F.res F.nt6 ξ p w W;rw[F.body];simp only[zh,G,D,F.lm,X,mbO,mbR,mB_S,CRes.or,jav]
  ·subst O;subst N;have σ:=runK (F.e CRes (fun t vs S M=>ob (cl t vs S) M) S.next (below (S.next+1)) (2 ^ S.next) (s.size+1) n H iz);refine qzq (vs:=[.str s,.fn g c,.bool b]) (nm:=nmS (below (S.next+1)) (2 ^ S.next)) (lf:=s.size+1) (fr:=n.set (.int .i64 (-1)) 6) (e:=.ret) (k:=.i64) (i:=-1) (t:=6) (S1:=H) (rd:=u ||| ((z ||| mb S.next (below (S.next+1))) ||| 0)) (wr:=mb S.next (2 ^ S.next)) rfl hm htt hfi y o F.three ?_ (q7u _) rfl F.res F.nt6 (by rw[vp,xx rfl]) p w W;rw[F.body];simp only[zh,G,D,F.lm,X,mbO,mbR,mB_S,n7,CRes.or,jav,dg,xa,σ,qa7,jbq]
 ·obtain⟨_,_,_,_,_,_,_,rfl⟩:=qv8 h;exact FrO.same _ rfl
 ·obtain⟨_,_,_,_,_,_,_,rfl⟩:=qv8 h;rfl
end Go.Jx
end

noncomputable section
namespace Go.Jx
open Go Go.Sx Go.RowKit
universe u

theorem oL:we 0=0/\we 1=1/\we 2=2/\we 3=3/\we 4=4/\we 5=5/\we 6=6/\we 7=7/\we 8=8/\we 9=9/\we 10=10/\we 12=12/\we 16=16/\we 20=20/\we 24=24/\we 30=30/\we 31=31/\we 40=40/\we 45=45/\we 48=48/\we 57=57/\we 60=60/\we 64=64/\we 65=65/\we 70=70/\we 90=90/\we 95=95/\we 97=97/\we 100=100/\we 122=122/\we 127=127/\we 128=128/\we 200=200/\we 256=256/\we 400=400/\we 410=410/\we 1500=1500/\we 60000=60000/\we 60010=60010/\we 65536=65536/\we 16777216=16777216/\we 2147483647=2147483647/\we 1099511627776=1099511627776 :=
 ⟨rfl,rfl,rfl,rfl,rfl,rfl,rfl,rfl,rfl,rfl,rfl,rfl,rfl,rfl,rfl,rfl,rfl,rfl,rfl,rfl,rfl,rfl,rfl,rfl,rfl,rfl,rfl,rfl,rfl,rfl,rfl,rfl,rfl,rfl,rfl,rfl,rfl,rfl,rfl,rfl,rfl,rfl,rfl⟩
theorem bm{α:Type}{l:Lz α}{i:Nat}:jget l (we i)=l[i]?:=by unfold jget;rw[xx (by simp)];simp
theorem q88{α:Type}{l:Lz α}{i:Int}(h0:0<=i)(h1:i<l.length):∃x,jget l i=iz x/\l[i.toNat]?=iz x/\x∈l:=by
 have a:i.toNat<l.length:=by omega
 refine⟨l[i.toNat],?_,xc a,p5 a⟩;unfold jget;rw[xx h0,xc a]
theorem qgj:∀c:TC,1<=bsz c
 | .int k=>by cases k<;>simp [bsz]
 | .bool=>by simp[bsz]
 | .str=>by simp[bsz]
 | .list _=>by simp[bsz]
 | .rl _=>by simp[bsz]
 | .two a b=>by have:=qgj a;simp only[bsz];omega
def LF:Nat:=9223372036854775808
theorem q94{c:TC}{l:El (.list c)}(h:WfE (.list c) l):oq (α:=El c) l<LF:=by
 have b:=h.1;have a:=qgj c;have:oq (α:=El c) l*1<=oq (α:=El c) l*bsz c:=rt _ a;unfold LF;omega
theorem qi8{n:Nat}(h:n+1<LF):IntKind.i64.wrap (oe (we n) (we 1))=we (n+1):=by
 unfold LF at h;rw[show oe (we n) (we 1)=we (n+1) from rfl];exact kn (by simp;omega)
structure Rnd {α:Type} (l:List α) (i:Nat) (v:α) (rest:List α):Prop where
 drop:l.drop i=v::rest
 mem:v∈l
 lt:i<l.length
 ilt:iltI (we i) (we l.length)=i7
 get:jget l (we i)=iz v
 get?:l[i]?=iz v
 next:IntKind.i64.wrap (oe (we i) (we 1))=we (i+1)
 tail:l.drop (i+1)=rest
 take:l.take (i+1)=l.take i++[v]
theorem jt(n:Nat):iltI (we n) (we n)=eb:=by rw[qc];simp
theorem qob{α:Type}{l:Lz α}{i:Nat}(h:i<l.length)(hl:l.length<LF):∃v rest,Rnd l i v rest:=by
 refine⟨l[i],l.drop (i+1),dw h,p5 h,h,by rw[qc];simp;omega,?_,xc h,qi8 (by omega),rfl,?_⟩
 ·rw[bm];exact xc h
 ·rw[jbn h]
theorem q7e{α σ A R:Type}{T:(A->Oq R)->A->Oq R}(l:Lz α)(mk:Int->σ->A)(I:Nat->σ->Prop)(g:Lz α->Nat->σ->Oq R)(hl:l.length<LF)
  (hnil:∀K s,I l.length s->T K (mk (we l.length) s)=g [] l.length s)
  (hcons:∀K i v rest s,I i s->Rnd l i v rest->(∀s',I (i+1) s'->K (mk (we (i+1)) s')=g rest (i+1) s')->T K (mk (we i) s)=g (v::rest) i s) :
  ∀n i s,i<=l.length->I i s->l.length-i<n->rounds T n (mk (we i) s)=g (l.drop i) i s
 | 0,i,s,_,_,h=>by omega
 | n+1,i,s,hi,hI,h=>by
  show T (rounds T n) (mk (we i) s)=_;by_cases e:i=l.length
  ·subst e;rw[hnil _ _ hI,jb0]
  ·obtain⟨v,rest,r⟩:=qob (l:=l) (i:=i) (by omega) hl;rw[hcons (rounds T n) i v rest s hI r fun s' hI'=>?_,r.drop];rw[q7e l mk I g hl hnil hcons n (i+1) s' (by have:=r.lt;omega) hI' (by omega),r.tail]
theorem range0{α σ A R:Type}{T:(A->Oq R)->A->Oq R}(l:Lz α)(mk:Int->σ->A)(I:Nat->σ->Prop)(g:Lz α->Nat->σ->Oq R)(hl:l.length<LF)
  (hnil:∀K s,I l.length s->T K (mk (we l.length) s)=g [] l.length s)
  (hcons:∀K i v rest s,I i s->Rnd l i v rest->(∀s',I (i+1) s'->K (mk (we (i+1)) s')=g rest (i+1) s')->T K (mk (we i) s)=g (v::rest) i s)
  (s:σ) (hI:I 0 s):rounds T LF (mk (we 0) s)=g l 0 s:=by
 have:=q7e l mk I g hl hnil hcons LF 0 s (pm _) hI (by omega)
 rwa [jb9] at this
theorem zst{α R:Type}{T:(Int->Oq R)->Int->Oq R}(l:Lz α)(g:Lz α->Nat->Oq R)(hl:l.length<LF)
  (hnil:∀K,T K (we l.length)=g [] l.length)
  (hcons:∀K i v rest,Rnd l i v rest->K (we (i+1))=g rest (i+1)->T K (we i)=g (v::rest) i):rounds T LF (we 0)=g l 0 :=
 range0 (σ:=Unit) l (fun i _=>i) (fun _ _=>True) (fun rest i _=>g rest i) hl (fun K _ _=>hnil K) (fun K i v rest _ _ r h=>hcons K i v rest r (h () trivial)) () trivial
namespace S
def idx{α:Type}(p:α->Bool)(l:Lz α):Int:=match l.findIdx? p with
 | some j=>we j
 | none=>-1
theorem idx_nonneg{α:Type}(p:α->Bool)(l:Lz α):0<=idx p l↔l.any p=i7:=by
 unfold idx;cases h:l.findIdx? p with
 | none =>
  simp only;rw[List.findIdx?_eq_none_iff] at h;constructor
  ·intro h;omega
  ·intro a;rw[r6] at a;obtain⟨x,c,b⟩:=a;rw[h x c] at b;cases b
 | some j =>
  simp only;obtain⟨d,a,e⟩:=jbk.1 h;constructor
  ·intro _;rw[r6];exact⟨_,p5 d,a⟩
  ·intro _;exact dj _
end S
theorem q9u{α:Type}{p:α->Oq Bool}(q:α->Bool){l:Lz α}(h:∀x∈l,p x=iz (q x)):idxO p l 0=iz (S.idx q l):=by
 rw[q9r h];unfold S.idx;cases l.findIdx? q<;>simp
end Go.Jx
end

noncomputable section
namespace Go.Jx
open Go Go.Sx Go.RowKit
theorem yq(a b:Nat):iltI (we a) (we b)=decide (a<b):=by
 rw[qc];simp
theorem qom(a b:Nat):ieqI (we a) (we b)=decide (a=b):=by
 rw[zx];by_cases h:a=b
 ·rw[xt h,h];exact xt rfl
 ·rw[xq h];exact xq fun e=>h (jak e)
theorem sc{x y:Int}(h:x<y):iltI x y=i7:=by rw[qc];exact xt h
theorem bq{x y:Int}(h:¬x<y):iltI x y=eb:=by rw[qc];exact xq h
theorem qep{x y:Int}(h:x=y):ieqI x y=i7:=by rw[zx];exact xt h
theorem sg{x y:Int}(h:¬x=y):ieqI x y=eb:=by rw[zx];exact xq h
theorem zt(s:Bq):(za s).length=s.size:=by
 unfold za;rw[gt];exact jb2
theorem ql0{s:Bq}{i:Nat}(h:i<s.size):(za s)[i]?=iz ((s[i]'h).toNat:Int):=by
 unfold za;rw[ru,xc (by simpa using h)];rfl
theorem ce{s:Bq}{b:Int}(h:b∈za s):0<=b/\b<256:=by
 unfold za at h;obtain⟨x,_,rfl⟩:=dh.1 h;have:=x.toNat_lt;constructor<;>omega
theorem yc(s:Bq):zq (za s)=s:=by
 obtain⟨⟨l⟩⟩:=s;unfold zq za;congr 2;simp only[jbx]
 conv=>rhs;rw[<- List.map_id l]
 refine rq fun x _=>?_;simp
theorem qmf{l:Lz Int}(h:∀b∈l,0<=b/\b<256):za (zq l)=l:=by
 unfold zq za;simp only[jbx]
 conv=>rhs;rw[<- List.map_id l]
 refine rq fun x a=>?_;obtain⟨d,c⟩:=h x a;simp only[Function.comp,jaq,id];omega
theorem q9z{s t:Bq}(h:za s=za t):s=t:=by rw[<- yc s,<- yc t,h]
theorem qxe(s:Bq)(a b:Nat):za (s.extract a b)=(za s).extract a b:=by
 unfold za;rw[ByteArray.data_extract,Array.toList_extract];simp[ja5,List.map_take,List.map_drop]
theorem qvx(s:Bq)(a b:Nat)(h:s.size<=b):za (s.extract a b)=(za s).drop a:=by
 rw[qxe,ja5];refine r9 ?_;rw[gy,zt];omega
theorem qjm(s:Bq)(b:Nat):za (s.extract 0 b)=(za s).take b:=by
 rw[qxe,ja5];rfl
theorem zlq(s t:Bq):za (s++t)=za s++za t:=by
 unfold za;rw[ByteArray.data_append,jbb,jas]
theorem qtx(a b:Bq):keqS a b=decide (za a=za b):=by
 unfold keqS;by_cases h:a=b
 ·rw[xt h,xt (xy za h)]
 ·rw[xq h,xq fun e=>h (q9z e)]
theorem q66{s:Bq}{q:Int->Bool}(hq:∀r,128<=r->q r=i7):∀(n i:Nat),s.size-i<n->sixO (fun _ r=>iz (q r)) s i7 n i=iz (match ((za s).drop i).findIdx? q with|some j=>we (i+j)|none=>-1)
 | 0,i,h=>by omega
 | n+1,i,h=>by
  unfold sixO;by_cases hlt:i<s.size
  ·have hb:oo i s.size=i7:=by simpa using hlt
   rw[hb,xa];simp only;have hg:=ql0 hlt;have hd0:(za s).drop i=((s[i]'hlt).toNat:Int)::(za s).drop (i+1):=by
    obtain⟨h1,h2⟩:=x9.1 hg;rw[dw h1,h2]
   rw[hd0,ri];by_cases ha:(s[i]'hlt).toNat<128
   ·rw[decode_ascii s i hlt ha];simp only;have e:q (we (s[i]'hlt).toNat)=q (((s[i]'hlt).toNat:Nat):Int):=rfl;rw[e];cases hb2:q (((s[i]'hlt).toNat:Nat):Int) with
    | true=>rfl
    | false =>
     simp only[pu,decide_false,xe,p9];rw[q66 hq n (i+1) (by omega)];cases ia q ((za s).drop (i+1)) with
     | none=>rfl
     | some j=>simp only[jau];exact xy (fun n=>iz (we n)) (by omega)
   ·have hd:=decode_high s i hlt (by omega);have e:q (we (fj s i).1)=i7:=hq _ (by have:=hd.1;show (128:Int)<=((fj s i).1:Int);omega);rw[e,hq _ (by omega)];rfl
  ·have hb:oo i s.size=eb:=by
    cases hbb:oo i s.size with
    | false=>rfl
    | true=>exact absurd (by simpa using hbb) hlt
   rw[hb,xe,jbo (by rw[zt];omega)];rfl
end Go.Jx
end

noncomputable section
namespace Go.Proofs.YtaepcfidpcoofaaGreatDoor
open Go Go.RowKit
set_option maxHeartbeats 1000000 in
set_option maxRecDepth 100000 in
theorem zoa(s:Bq)(c:UInt8)(w:oh) :
  mi oa 268 #[.string s,.string ⟨#[c]⟩] w fun e w'=>e=.returned (.int .i64 (Lib.countByte s.data.toList c))/\w'=w:=by
 go_enter Tryz.func268,Tryz.ntmps268
 go_wp2
 rw[jb3 Tryz.func336 (by kernel_rfl) (by kernel_rfl) (by kernel_rfl) (e:=Extern.BytealgCount.count) (by kernel_rfl),Lib.run_countString];simp only[ij];rw[jar]
 go_wp2
 go_ret
 exact⟨rfl,rfl⟩
set_option maxHeartbeats 1000000 in
set_option maxRecDepth 100000 in
theorem zha(s:Bq)(c:Int)(w:oh) :
  mi oa 366 #[.string s,.int .u8 c] w fun e w'=>e=.returned (.int .i64 (Lib.indexByte s.data.toList c.toNat.toUInt8))/\w'=w:=by
 go_enter Tryz.func366,Tryz.ntmps366
 go_wp2
 rw[jb3 Tryz.func379 (by kernel_rfl) (by kernel_rfl) (by kernel_rfl) (e:=Extern.BytealgIndexByte.indexByte) (by kernel_rfl),Lib.run_indexByteString];simp only[ij];rw[jar]
 go_wp2
 go_ret
 exact⟨rfl,rfl⟩
set_option maxHeartbeats 1000000 in
set_option maxRecDepth 100000 in
theorem zuu(b:Nat)(w:oh)(h0:w.cell? ⟨b,0,i6⟩=iz (.pointer (iz ⟨b,0,i6⟩))) :
  mi oa 283 #[.pointer (iz ⟨b,0,i6⟩)] w fun e w'=>e=.returned (.tuple #[])/\w'=w:=by
 obtain⟨j,a,_⟩:=q1s.inf
 go_enter Tryz.func283,Tryz.ntmps283
 go_wp2
 rw[Lib.run_neq_ptr_same w _ Tryz.underlying250 a]
 go_wp2
 go_end0
 exact⟨rfl,rfl⟩
set_option maxHeartbeats 1000000 in
set_option maxRecDepth 100000 in
theorem zib(b:Nat)(w:oh)(h0:w.cell? ⟨b,0,i6⟩=iz (.pointer i6))(hsh:w.shape? b=iz (253,2))(hfz:w.frozen? ⟨b,0,i6⟩=eb) :
  mi oa 283 #[.pointer (iz ⟨b,0,i6⟩)] w fun e w'=>e=.returned (.tuple #[])/\w'=w.setCell ⟨b,0,i6⟩ (.pointer (iz ⟨b,0,i6⟩)):=by
 obtain⟨j,c,a,_⟩:=q1s.inf
 go_enter Tryz.func283,Tryz.ntmps283
 go_wp2
 rw[Lib.run_to_unsafe w ⟨b,0,i6⟩ Tryz.underlying250 Tryz.underlying364 c (by rw[a];decide) hsh (Nat.zero_lt_succ 1)];simp only[ij];rw[jar]
 go_wp2
 rw[jb3 Tryz.func347 (by kernel_rfl) (by kernel_rfl) (by kernel_rfl) (e:=Extern.AbiNoEscape.same) (by kernel_rfl)];rw[Lib.run_noEscape];simp only[ij];rw[jar]
 go_wp2
 rw[Lib.run_from_unsafe w ⟨b,0,i6⟩ Tryz.underlying364 Tryz.underlying250 c hsh (by kernel_rfl)];simp only[ij];rw[jar]
 go_wp2
 go_end0
 exact⟨rfl,rfl⟩
end Go.Proofs.YtaepcfidpcoofaaGreatDoor
end

noncomputable section
namespace Go.Proofs.YtaepcfidpcoofaaGreatDoor
open Go Go.RowKit
set_option maxHeartbeats 2000000 in
set_option maxRecDepth 100000 in
theorem zmp(b:Nat)(p:oc)(w:oh)(hbk:w.heap[b]?=iz (.cells #[p,.slice i6 0 0] 253 (0,0))) :
  mi oa 179 #[.pointer (iz ⟨b,0,i6⟩)] w fun e w'=>e=.returned (.string ⟨#[]⟩)/\w'=w.drew:=by
 have a:∀(W:oh) (q:Oq f9),(aq #[332,3] 9 #[.pointer q,.int .i64 0]).run oa W=.ok (.string .empty) W:=fun W q=>ja6 W _ _ _ q;have d:w.drew.cell? ⟨b,1,i6⟩=iz (.slice i6 0 0):=by
  have:w.drew.heap[b]?=iz (.cells #[p,.slice i6 0 0] 253 (0,0)):=hbk;rw[r7 this];rfl
 have c:(m7 #[251] 332 #[.slice i6 0 0]).run oa w.drew=.ok (.pointer i6) w.drew:=rfl;have mixed:Tryz.prog.follows ar=i7:=mixed
 go_enter Tryz.func179,Tryz.ntmps179
 go_wp2
 go_region_o
 all_goals (go_wp2;go_ret;exact⟨rfl,rfl⟩)
end Go.Proofs.YtaepcfidpcoofaaGreatDoor
end

noncomputable section
namespace Go.Proofs.YtaepcfidpcoofaaGreatDoor
open Go Go.RowKit
set_option maxHeartbeats 2000000 in
set_option maxRecDepth 100000 in
theorem zx6(b g:Nat)(p:oc)(cur:Array oc)(w:oh)(hbk:w.heap[b]?=iz (.cells #[p,.slice (iz ⟨g,0,i6⟩) 0 0] 253 (0,0)))(hg:w.heap[g]?=iz (.cells cur 5 (0,0))) :
  mi oa 179 #[.pointer (iz ⟨b,0,i6⟩)] w fun e w'=>e=.returned (.string ⟨#[]⟩)/\w'=w.drew.alloc (.view ⟨g,0,i6⟩ 5):=by
 have d:∀(W:oh) (q:Oq f9),(aq #[332,3] 9 #[.pointer q,.int .i64 0]).run oa W=.ok (.string .empty) W:=fun W q=>ja6 W _ _ _ q;have a:b<w.heap.size:=by
  rcases dm b w.heap.size with h'|h'
  ·exact h'
  ·simp[Array.getElem?_eq_none h'] at hbk
 have i:w.drew.cell? ⟨b,1,i6⟩=iz (.slice (iz ⟨g,0,i6⟩) 0 0):=by
  have:w.drew.heap[b]?=iz (.cells #[p,.slice (iz ⟨g,0,i6⟩) 0 0] 253 (0,0)):=hbk;rw[r7 this];rfl
 have f:(m7 #[251] 332 #[.slice (iz ⟨g,0,i6⟩) 0 0]).run oa w.drew=.ok (.pointer (iz ⟨w.drew.heap.size,0,i6⟩)) (w.drew.alloc (.view ⟨g,0,i6⟩ 5)) :=
  Lib.run_unsafeSliceData_zero w.drew _ _ 5 Tryz.underlying332 ⟨g,0,i6⟩ 0 (5,cur.size) (by have c:w.drew.heap[g]?=iz (.cells cur 5 (0,0)):=hg;simp [World.shape?,c])
 have h:(w.drew.alloc (.view ⟨g,0,i6⟩ 5)).cell? ⟨b,1,i6⟩=iz (.slice (iz ⟨g,0,i6⟩) 0 0):=by
  have:(w.drew.alloc (.view ⟨g,0,i6⟩ 5)).heap[b]?=_:=(Lib.alloc_old w.drew _ b a).trans hbk;rw[r7 this];rfl
 have j:(w.alloc (.view ⟨g,0,i6⟩ 5)).drew.cell? ⟨b,1,i6⟩=iz (.slice (iz ⟨g,0,i6⟩) 0 0):=h;have k:w.cell? ⟨b,1,i6⟩=iz (.slice (iz ⟨g,0,i6⟩) 0 0):=i;have mixed:Tryz.prog.follows ar=i7:=mixed
 go_enter Tryz.func179,Tryz.ntmps179
 go_wp2
 go_region_o
 all_goals (go_wp2;go_ret;exact⟨rfl,rfl⟩)
end Go.Proofs.YtaepcfidpcoofaaGreatDoor
end

noncomputable section
namespace Go.Proofs.YtaepcfidpcoofaaGreatDoor
open Go Go.RowKit
set_option maxHeartbeats 2000000 in
set_option maxRecDepth 100000 in
theorem zmr(b g cap:Nat)(p:oc)(w:oh)(hc0:cap≠0)(hbk:w.heap[b]?=iz (.cells #[p,.slice (iz ⟨g,0,i6⟩) 0 cap] 253 (0,0))) :
  mi oa 179 #[.pointer (iz ⟨b,0,i6⟩)] w fun e w'=>e=.returned (.string ⟨#[]⟩)/\w'=w.drew:=by
 have a:∀(W:oh) (q:Oq f9),(aq #[332,3] 9 #[.pointer q,.int .i64 0]).run oa W=.ok (.string .empty) W:=fun W q=>ja6 W _ _ _ q;have d:w.drew.cell? ⟨b,1,i6⟩=iz (.slice (iz ⟨g,0,i6⟩) 0 cap):=by
  have:w.drew.heap[b]?=iz (.cells #[p,.slice (iz ⟨g,0,i6⟩) 0 cap] 253 (0,0)):=hbk;rw[r7 this];rfl
 have c:(m7 #[251] 332 #[.slice (iz ⟨g,0,i6⟩) 0 cap]).run oa w.drew=.ok (.pointer (iz ⟨g,0,i6⟩)) w.drew :=
  Lib.run_unsafeSliceData_row _ _ _ _ _ _ hc0
 clear hc0;have mixed:Tryz.prog.follows ar=i7:=mixed
 go_enter Tryz.func179,Tryz.ntmps179
 go_wp2
 go_region_o
 all_goals (go_wp2;go_ret;exact⟨rfl,rfl⟩)
end Go.Proofs.YtaepcfidpcoofaaGreatDoor
end

noncomputable section
namespace Go.Proofs.YtaepcfidpcoofaaGreatDoor
open Go Go.RowKit
set_option maxHeartbeats 2000000 in
set_option maxRecDepth 100000 in
theorem zk6(b g cap:Nat)(p:oc)(cur:Array oc)(l:Lz UInt8)(w:oh)(h0:l≠[])(hcap:l.length<=cap)(h63:cap<9223372036854775808)(hcs:cap<=cur.size)(hbk:w.heap[b]?=iz (.cells #[p,.slice (iz ⟨g,0,i6⟩) l.length cap] 253 (0,0)))(hg:w.heap[g]?=iz (.cells cur 5 (0,0)))
  (hcur:∀(j:Nat) (x:UInt8),l[j]?=iz x->cur[j]?=iz (mq .u8 x.toNat)) :
  mi oa 179 #[.pointer (iz ⟨b,0,i6⟩)] w fun e w'=>e=.returned (.string ⟨l.toArray⟩)/\w'=w.drew.freeze ⟨g,0,i6⟩ l.length:=by
 have c:l.length≠0:=by simpa using h0
 have i:w.drew.cell? ⟨b,1,i6⟩=iz (.slice (iz ⟨g,0,i6⟩) l.length cap):=by
  have:w.drew.heap[b]?=iz (.cells #[p,.slice (iz ⟨g,0,i6⟩) l.length cap] 253 (0,0)):=hbk;rw[r7 this];rfl
 have h:(m7 #[251] 332 #[.slice (iz ⟨g,0,i6⟩) l.length cap]).run oa w.drew=.ok (.pointer (iz ⟨g,0,i6⟩)) w.drew :=
  Lib.run_unsafeSliceData_row _ _ _ _ _ _ (by omega)
 have f:(aq #[332,3] 9 #[.pointer (iz ⟨g,0,i6⟩),.int .i64 l.length]).run oa w.drew=.ok (.string ⟨l.toArray⟩) (w.drew.freeze ⟨g,0,i6⟩ l.length):=by
  refine Lib.run_unsafeString_row w.drew 332 3 9 5 Tryz.underlying332 (by kernel_rfl) g cur.size (by have a:w.drew.heap[g]?=iz (.cells cur 5 (0,0)):=hg;simp [World.shape?,a]) l h0 (by omega) (by omega) ?_;intro j x d;have a:w.drew.heap[g]?=iz (.cells cur 5 (0,0)):=hg;have e:(⟨g,0,i6⟩:f9).add j=⟨g,j,i6⟩:=by simp[Addr.add];omega
  rw[e,r7 a];exact hcur j x d
 clear hcap h63 hcs hcur c;have mixed:Tryz.prog.follows ar=i7:=mixed
 go_enter Tryz.func179,Tryz.ntmps179
 go_wp2
 go_region_o
 all_goals (go_wp2;go_ret;exact⟨rfl,rfl⟩)
end Go.Proofs.YtaepcfidpcoofaaGreatDoor
end

noncomputable section
set_option maxRecDepth 100000
namespace Go.Proofs.YtaepcfidpcoofaaGreatDoor
open Go Go.Sx Go.RowKit Go.Jx
theorem q6f{f:Nat}{s:Sm}(hC:zg oa f)(hr:∀y,resO s.rts y=[])
  (h:∀(M:Lz Nat) (w:oh) (x:ElA s.pts) (us:Lz oc) (y:ElR s.rts),s.f x=iz y->VRs (EM M w) (argV s.pts x) us->∃v,VR (EM M w) (tupI (resV s.rts 0 y)) v/\mi oa f us.toArray w fun e w'=>e=.returned v/\w'=w):Con oa f s :=
 ⟨hC,fun M w x us y a g c b=>by
  obtain⟨v,j,i⟩:=h M w x us y a b;refine(dc.2 i).mono fun e w' d=>?_;obtain⟨rfl,rfl⟩:=d;rw[hr y];exact⟨v,EM M w',rfl,rfl,j,Post.refl (preM g c),Fresh.refl _ _⟩⟩
namespace S
def countB(l:Lz Int)(c:Int):Int:=we (l.count c)
def indexB(l:Lz Int)(c:Int):Int:=Go.Jx.S.idx (fun x=>decide (x=c)) l
end S
theorem qz5{a b:UInt8}(h:((a.toNat:Nat):Int)=((b.toNat:Nat):Int)):a=b:=UInt8.toNat_inj.1 (by omega)
theorem zvn(l:Lz UInt8)(c:UInt8):(l.map fun x=>((x.toNat:Nat):Int)).count ((c.toNat:Nat):Int)=l.count c:=by
 induction l with
 | nil=>rfl
 | cons x l ih =>
  rw[ga,List.count_cons,List.count_cons,ih];by_cases h:x=c
  ·grind
  ·have a:¬((x.toNat:Nat):Int)=((c.toNat:Nat):Int):=fun e=>h (qz5 e)
   grind
theorem zi6(l:Lz UInt8)(c:UInt8):S.indexB (l.map fun x=>((x.toNat:Nat):Int)) ((c.toNat:Nat):Int)=Lib.indexByte l c:=by
 unfold S.indexB;induction l with
 | nil=>rfl
 | cons x l ih =>
  unfold Lib.indexByte;rw[ga];unfold Go.Jx.S.idx at ih ⊢;rw[ri];by_cases h:x=c
  ·grind
  ·have a:¬((x.toNat:Nat):Int)=((c.toNat:Nat):Int):=fun e=>h (qz5 e)
   grind
def qw1:Sm:=⟨[.str,.str],[(eb,.int .i64)],fun x=>cond (keqS x.2.1 (S.lit [10])) (iz (S.countB (za x.1) 10,())) i6⟩
def qti:Sm:=⟨[.str,.int .u8],[(eb,.int .i64)],fun x=>iz (S.indexB (za x.1) x.2.1,())⟩
theorem vr_int{E:Env}{n:Int}(h0:-9223372036854775808<=n)(h1:n<9223372036854775808):VR E (.int .i64 n) (.int .i64 n):=.int _ _ (kn ⟨h0,h1⟩)
theorem zg1{E:Env}(s t:Bq){us:Lz oc}{y:Int × Unit}(hy:cond (keqS t (S.lit [10])) (iz (S.countB (za s) 10,())) i6=iz y)(hv:VRs E [.str s,.str t] us) :
  ∃v,VR E (.int .i64 y.1) v/\mi oa 268 us.toArray E.w fun e w'=>e=.returned v/\w'=E.w:=by
 cases c:keqS t (S.lit [10]) with
 | false=>rw[c] at hy;cases hy
 | true =>
  rw[c] at hy;cases hy;have g:t=S.lit [10]:=xu c;subst g;obtain⟨p,f,rfl,n,m⟩:=hv.inv;obtain⟨o,b,rfl,k,j⟩:=m.inv;have e:b=[]:=by have:=j.1;simpa using this.symm
  subst e;cases n with
  | str _ hs =>
  cases k;have d:S.countB (za s) 10=((s.data.toList.count 10:Nat):Int):=by
   show we (List.count ((UInt8.toNat 10:Nat):Int) (s.data.toList.map fun x=>((x.toNat:Nat):Int)))=_;rw[zvn];rfl
  have i:s.data.toList.count 10<=s.size:=by
   have:=jay (a:=(10:UInt8)) (l:=s.data.toList)
   rwa [jb2] at this
  refine⟨.int .i64 (S.countB (za s) 10),vr_int (by rw[d];omega) (by rw[d];omega),(zoa s 10 E.w).mono fun e w' h=>?_⟩;rw[d];exact h
theorem zao:Con oa 268 qw1 :=
 q6f zk9 (fun y=>rfl) fun M w x c y a b=>zg1 x.1 x.2.1 a b
theorem zrc{E:Env}(s:Bq)(c:Int){us:Lz oc}(hv:VRs E [.str s,.int .u8 c] us) :
  ∃v,VR E (.int .i64 (S.indexB (za s) c)) v/\mi oa 366 us.toArray E.w fun e w'=>e=.returned v/\w'=E.w:=by
 obtain⟨o,f,rfl,m,l⟩:=hv.inv;obtain⟨n,a,rfl,k,i⟩:=l.inv;have e:a=[]:=by have:=i.1;simpa using this.symm
 subst e;cases m with
 | str _ hs =>
 cases k with
 | int _ _ d =>
 have d:c % 256=c:=d;have b:c=(((c.toNat.toUInt8).toNat:Nat):Int):=by
  simp only[Nat.toUInt8,jaq];omega
 have p:S.indexB (za s) c=Lib.indexByte s.data.toList c.toNat.toUInt8:=by
  conv=>lhs;rw[b]
  exact zi6 _ _
 have g:-1<=S.indexB (za s) c/\S.indexB (za s) c<9223372036854775808:=by
  unfold S.indexB Go.Jx.S.idx;cases h:ia (fun x=>decide (x=c)) (za s) with
  | none=>simp
  | some j =>
   have:=(jbk.1 h).1;rw[zt] at this
   grind
 refine⟨.int .i64 (S.indexB (za s) c),vr_int (by omega) g.2,(zha s c E.w).mono fun e w' h=>?_⟩
 grind
theorem zvi:Con oa 366 qti :=
 q6f zhi (fun y=>rfl) fun M w x e y a b=>by
  obtain⟨v,d,c⟩:=zrc x.1 x.2.1 b;cases a;exact⟨v,d,c⟩
def ccF(vs:Lz IV)(Z:IS):Oq Res:=match vs with
 | [.ptr id 0]=>match Z.heap.get id with
  | some (.bld _)=>iz ⟨.tup [],Z,2 ^ id,2 ^ id⟩
  | _=>i6
 | _=>i6
def ccK(R:Type)(vs:Lz IV)(Z:IS)(kk:Res->Oq R):Oq R:=match vs with
 | [.ptr id 0]=>match Z.heap.get id with
  | some (.bld _)=>kk ⟨.tup [],Z,2 ^ id,2 ^ id⟩
  | _=>i6
 | _=>i6
theorem qvn{vs:Lz IV}{Z:IS}{r:Res}(h:ccF vs Z=iz r):∃id j,vs=[.ptr id 0]/\Z.heap.get id=iz (.bld j)/\r=⟨.tup [],Z,2 ^ id,2 ^ id⟩:=by
 unfold ccF at h
 grind
theorem zr5(R:Type)(vs:Lz IV)(Z:IS)(kk:Res->Oq R):ccK R vs Z kk=ob (ccF vs Z) kk:=by
 unfold ccK ccF;split
 ·split<;>rfl
 ·rfl
def ccHx:Hx:=⟨fun _ vs Z=>ccF vs Z,fun _ R vs Z kk=>ccK R vs Z kk,fun _ _ _ R vs Z kk=>zr5 R vs Z kk⟩
theorem zxh{w:oh}{b o:Nat}(v:oc)(hb:b<w.heap.size):Upd [b] w (w.setCell ⟨b,o,i6⟩ v):=by
 refine⟨rfl,rfl,rfl,by simp[fp],fun c d a=>?_⟩;simp only[fp,gv]
 grind
theorem qx5:HxOK oa 283 ccHx.f:=⟨fun z _ _ _ s Z r h T E t p D m C=>by
  obtain⟨a,j,rfl,c,rfl⟩:=qvn h;obtain⟨L,t,rfl,K,J⟩:=C.inv;have e:t=[]:=by have:=J.1;simpa using this.symm
  subst e;cases K with
  | ptr hA =>
  have l:=zi m;obtain⟨M,v,d,I,G⟩:=p.st.objs a (T.sub _ l) hA _ c;have F:=p.st.blk a (T.sub _ l) hA _ c rfl;have y:Live E Z.H a:=⟨F,_,c,rfl⟩;have n:=qk d;refine⟨znp,?_⟩;rcases I with rfl|rfl
  ·refine(dc.2 (zib (E.ρ a) E.w (by rw[r7 d];rfl) (by simp[World.shape?,d,bldT]) (Lib.frozen_of_heap d 0))).mono fun e A q=>?_;obtain⟨rfl,rfl⟩:=q;have u:=zxh (w:=E.w) (b:=E.ρ a) (o:=0) (.pointer (iz ⟨E.ρ a,0,i6⟩)) n;have g:=Env.at_le p.st l hA y u;obtain⟨q1,B⟩:=Post.write p (o':=.bld j) l hA y u ⟨.pointer (iz ⟨E.ρ a,0,i6⟩),v,by
    show (E.w.setCell ⟨E.ρ a,0,i6⟩ _).heap[E.ρ a]?=_;simp[fp,gv,d],.inr rfl,G.mono g⟩
   refine⟨.tuple #[],_,rfl,rfl,.tup rfl (fun i h=>by simp at h),?_,B⟩;refine Post.congr (S':=Z.set a (.bld j)) ?_ rfl q1;funext k;by_cases x:k=a
   ·subst x;rw[IS.H_set,zj];exact c.symm
   ·rw[IS.H_set,up_ne _ _ x]
  ·refine(dc.2 (zuu (E.ρ a) E.w (by rw[r7 d];rfl))).mono fun e A q=>?_;obtain⟨rfl,rfl⟩:=q;exact⟨.tuple #[],E,rfl,rfl,.tup rfl (fun i h=>by simp at h),Post.refl p,Fresh.refl _ _⟩,
 fun z _ s Z r h=>by
  obtain⟨a,j,rfl,c,rfl⟩:=qvn h;exact FrX.refl _ _,
 fun z _ s Z r h N _=>by
  obtain⟨a,j,rfl,c,rfl⟩:=qvn h;rfl⟩
def bsF(vs:Lz IV)(Z:IS):Oq Res:=match vs with
 | [.ptr id 0]=>match Z.heap.get id with
  | some (.bld j)=>match Z.heap.get j with
   | some (.arr (.int .u8) l)=>iz ⟨.str (zq l),Z.set j .dead,2 ^ id,2 ^ j⟩
   | _=>i6
  | _=>i6
 | _=>i6
def bsK(R:Type)(vs:Lz IV)(Z:IS)(kk:Res->Oq R):Oq R:=match vs with
 | [.ptr id 0]=>match Z.heap.get id with
  | some (.bld j)=>match Z.heap.get j with
   | some (.arr (.int .u8) l)=>kk ⟨.str (zq l),Z.set j .dead,2 ^ id,2 ^ j⟩
   | _=>i6
  | _=>i6
 | _=>i6
theorem qtd{vs:Lz IV}{Z:IS}{r:Res}(h:bsF vs Z=iz r):∃(id j:Nat) (l:Lz Int),vs=[.ptr id 0]/\Z.heap.get id=iz (.bld j)/\Z.heap.get j=iz (.arr (.int .u8) l)/\r=⟨.str (zq l),Z.set j .dead,2 ^ id,2 ^ j⟩:=by
 unfold bsF at h
 grind
theorem zr3(R:Type)(vs:Lz IV)(Z:IS)(kk:Res->Oq R):bsK R vs Z kk=ob (bsF vs Z) kk:=by
 unfold bsK bsF;split
 ·split
  ·split<;>rfl
  ·rfl
 ·rfl
def bsHx:Hx:=⟨fun _ vs Z=>bsF vs Z,fun _ R vs Z kk=>bsK R vs Z kk,fun _ _ _ R vs Z kk=>zr3 R vs Z kk⟩
theorem qr2(w:oh):Upd [] w w.drew:=⟨rfl,rfl,rfl,xl _,fun _ _ _=>rfl⟩
theorem znt(w:oh)(o:Obj):Upd [] w (w.drew.alloc o):=⟨rfl,rfl,rfl,by simp,fun b a _=>by
 show (w.heap.push o)[b]?=_;rw[jah,xr (by omega)]⟩
theorem zma(w:oh)(g n:Nat):Upd [g] w (w.drew.freeze ⟨g,0,i6⟩ n):=by
 unfold World.freeze;split
 ·exact(qr2 w).mono (by simp)
 ·refine⟨rfl,rfl,rfl,by simp,fun b c a=>?_⟩;simp only[gv];rw[xr (by simp at a;exact fun e=>a e.symm)];rfl
theorem zp4{E:Env}{l:Lz Int}{us:Nat->Nat->oc}{cells:Array oc}(h1:∀i,i<l.length->∀j,j<csz (.int .u8)->cells[i*csz (.int .u8)+j]?=iz (us i j))(h2:∀i (h:i<l.length) j (h':j<(cel (.int .u8) l[i]).length),VR E (cel (.int .u8) l[i])[j] (us i j)) :
  ∀(j:Nat) (x:UInt8),(l.map fun n=>mm n.toNat)[j]?=iz x->cells[j]?=iz (mq .u8 x.toNat):=fun j x a=>by
 rw[ru] at a;cases c:l[j]? with
 | none=>rw[c] at a;cases a
 | some n =>
  rw[c] at a;cases a;obtain⟨b,rfl⟩:=x9.1 c;have f:=h1 j b 0 aa;have e:VR E (.int .u8 l[j]) (us j 0):=h2 j b 0 aa;rw[show j*csz (.int .u8)+0=j by simp[csz]] at f;rw[f];generalize us j 0=q at e;cases e with
  | int _ _ d =>
  have d:l[j] % 256=l[j]:=d;congr 2;simp only[jaq];omega
theorem zaw:HxOK oa 179 bsHx.f:=⟨fun S _ _ _ K Z r h T E C p I G α=>by
  obtain⟨id,j,l,rfl,J,d,rfl⟩:=qtd h;obtain⟨ι,C,rfl,η,ζ⟩:=α.inv;have e:C=[]:=by have:=ζ.1;simpa using this.symm
  subst e;cases η with
  | ptr hA =>
  have R:=zi G;obtain⟨q,v,o,κ,ε⟩:=p.st.objs id (zi I) hA _ J;have o:E.w.heap[E.ρ id]?=iz (.cells #[q,v] 253 (0,0)):=o;cases ε with
  | @arr _ len cap a hAj hhj =>
  obtain⟨θ,z,P,O,X,N,B⟩:=p.st.objs j (T.sub _ R) hAj _ d;rw[hhj] at P;obtain⟨rfl,rfl,rfl⟩:a=θ/\len=l.length/\cap=z:=by cases P;exact⟨rfl,rfl,rfl⟩
  have s:(zq l).size<9223372036854775808:=by
   have:(zq l).size=l.length:=by simp[zq,m9]
   have W:l.length*1<=140737488355328:=N;rw[this];clear N;omega
  have c:∀g,Upd [] E.w g->RetE T E Z ⟨.str (zq l),Z.set j .dead,2 ^ id,2 ^ j⟩ (.returned (.string (zq l))) g:=fun g u=>by
   obtain⟨q1,A⟩:=Post.idle p u;have k:=Post.kill (id:=j) (q1.pre p);exact⟨_,E.at_ g,rfl,rfl,.str _ s,Post.trans p q1 A k,A⟩
  refine⟨zky,?_⟩;rcases B with ⟨B,D,U⟩|⟨B,D,b,t,M,L,C,V,F⟩
  ·have Y:l.length<=cap:=O;have β:l=[]:=p8.1 (by omega);subst β;subst D;have:=U rfl;subst this;refine(dc.2 (zmp (E.ρ id) q E.w o)).mono fun e g m=>?_;obtain⟨rfl,rfl⟩:=m;exact c _ (qr2 _)
  ·have:=L.2 rfl;subst this;subst D;have γ:cap*1<=b.size:=L.1;by_cases x:l=[]
   ·subst x;by_cases y:cap=0
    ·subst y;refine(dc.2 (zx6 (E.ρ id) (E.ρ j) q b E.w o M)).mono fun e g m=>?_;obtain⟨rfl,rfl⟩:=m;exact c _ (znt _ _)
    ·refine(dc.2 (zmr (E.ρ id) (E.ρ j) cap q E.w y o)).mono fun e g m=>?_;obtain⟨rfl,rfl⟩:=m;exact c _ (qr2 _)
   ·have i:(l.map fun n=>mm n.toNat).length=l.length:=gt _;refine(dc.2 (zk6 (E.ρ id) (E.ρ j) cap q b (l.map fun n=>mm n.toNat) E.w (fun e=>x (List.map_eq_nil_iff.1 e)) (by rw[i];exact O) X (by omega) (by rw[i];exact o) M (zp4 V F))).mono fun e g m=>?_;obtain⟨rfl,rfl⟩:=m;have δ:Live E Z.H j:=⟨B,_,d,rfl⟩;obtain⟨q1,A⟩:=Post.write p (o':=.dead) R hAj δ (zma E.w (E.ρ j) _) trivial;exact⟨_,_,rfl,rfl,.str _ s,q1,A⟩,
 fun S _ K Z r h=>by
  obtain⟨id,j,l,rfl,J,d,rfl⟩:=qtd h;exact FrX.set Z j .dead,
 fun S _ K Z r h Q _=>by
  obtain⟨id,j,l,rfl,J,d,rfl⟩:=qtd h;have:=Nat.one_le_two_pow (n:=j);have Q:2 ^ j=0:=Q;omega⟩
end Go.Proofs.YtaepcfidpcoofaaGreatDoor
end

noncomputable section
namespace Go.Jx
open Go Go.Sx Go.RowKit
universe u

structure ObjTo (E:Env) (S:IS) (E':Env) (id k:Nat) (o:IObj):Prop where
 rel:OR E' k o
 live:o.live=i7->∃o0,S.H id=iz o0/\o0.live=i7
 blk:o.blk=i7->E'.hb k=i7
theorem qy9{B:Nat}{q:Lz Nat}(hnd:q.Nodup)(hqB:∀id∈q,B<=id):∀i j,i<B+q.length->j<B+q.length->ol B q i=ol B q j->i=j:=fun i j g f h=>by
 have d:∀id,B<=id->id<B+q.length->B<=ol B q id:=fun id h1 h2=>by
  have a:id-B<q.length:=by omega
  unfold ol;rw[xr (by omega),xn,xc a];exact hqB _ (p5 a)
 rcases dm i B with h1|h1
 ·have b:ol B q i=i:=xx h1;rcases dm j B with h2|h2
  ·rwa [b,show ol B q j=j from xx h2] at h
  ·grind
 ·rcases dm j B with h2|h2
  ·have c:ol B q j=j:=xx h2
   grind
  ·have a:i-B<q.length:=by omega
   have e:j-B<q.length:=by omega
   have b:ol B q i=q[i-B]:=by unfold ol;rw[xr (by omega),xn,xc a];rfl
   have c:ol B q j=q[j-B]:=by unfold ol;rw[xr (by omega),xn,xc e];rfl
   rw[b,c] at h;have:=(List.getElem_inj hnd).1 h;omega
theorem q8{q:Lz Nat}{k:Nat}(h:k<q.length):ol 0 q k∈q/\q[k]?=iz (ol 0 q k):=by
 have e:ol 0 q k=q[k]:=by unfold ol;rw[xr (by omega),rz,xn,xc h];rfl
 grind
theorem qs7{q:Lz Nat}{id:Nat}(h:id∈q):∃k,k<q.length/\ol 0 q k=id:=by
 obtain⟨k,a,rfl⟩:=db.1 h;refine⟨k,a,?_⟩;unfold ol;rw[xr (by omega),rz,xn,xc a];rfl
theorem Pre.re{T:TW}{E:Env}{S S':IS}{q:Lz Nat}(p:Pre T E S)(hn:q.Nodup)(hT:∀id∈q,T.r id)(hN:S'.next=q.length)
  (ho:∀k o,k<q.length->E.A (ol 0 q k)->S'.H k=iz o->ObjTo E S (renE 0 q E) (ol 0 q k) k o):Pre T0 (renE 0 q E) S':=by
 have b:∀k,(renE 0 q E).A k->k<q.length:=fun k h=>by have:=h.1;omega
 have l:∀k,k<q.length->T.r (ol 0 q k):=fun k h=>hT _ (q8 h).1;have g:∀k,(renE 0 q E).A k->Live (renE 0 q E) S'.H k->Live E S.H (ol 0 q k):=fun k a ⟨t,o,s,n⟩=>⟨t,(ho k o (b k a) a.2 s).live n⟩
 refine⟨⟨fun k _ a o h=>(ho k o (b k a) a.2 h).rel,fun k _ a o h m=>(ho k o (b k a) a.2 h).blk m,fun k _ a h=>p.st.own _ (l k (b k a)) a.2 (g k a h),
  fun i j _ _ c d e f h=>qy9 hn (fun _ _=>pm _) i j (by have:=b i c;omega) (by have:=b j d;omega) (p.st.inj _ _ (l i (b i c)) (l j (b j d)) c.2 d.2 (g i c e) (g j d f) h),p.st.lo⟩,fun k a=>by rw[hN];exact b k a,fun _ _=>trivial,p.gl⟩
theorem PostB.re{T:TW}{E:Env}{S S':IS}{B:Nat}{q:Lz Nat}(p:Pre T E S)(hT:∀id,B<=id->T.w id)(hn:q.Nodup)(hqB:∀id∈q,B<=id)(hN:S'.next=B+q.length)
  (ho:∀k o,k<B+q.length->E.A (ol B q k)->S'.H k=iz o->ObjTo E S (renE B q E) (ol B q k) k o):PostB B T E S (renE B q E) S':=by
 have s:∀id,B<=id->id<B+q.length->B<=ol B q id:=fun id v u=>by
  have h3:id-B<q.length:=by omega
  unfold ol;rw[xr (by omega),xn,xc h3];exact hqB _ (p5 h3)
 have n:∀id,id<B+q.length->T.r id->T.r (ol B q id):=fun id v u=>by
  rcases dm id B with h3|h3
  ·rw[show ol B q id=id from xx h3];exact u
  ·exact T.sub _ (hT _ (s id h3 v))
 have l:∀k,(renE B q E).A k->Live (renE B q E) S'.H k->Live E S.H (ol B q k):=fun k g ⟨z,o,v,u⟩=>⟨z,(ho k o g.1 g.2 v).live u⟩
 refine⟨⟨fun k t g o h=>(ho k o g.1 g.2 h).rel,fun k t g o h m=>(ho k o g.1 g.2 h).blk m,fun k t g h=>p.st.own _ (n k g.1 t) g.2 (l k g h),
  fun i j a b c d e f h=>qy9 hn hqB i j c.1 d.1 (p.st.inj _ _ (n i c.1 a) (n j d.1 b) c.2 d.2 (l i c e) (l j d f) h),p.st.lo⟩,
  rfl,rfl,rfl,xl _,fun _ _ _=>rfl,fun id m y=>?_,fun id m g x=>.inr ⟨ol B q id,hT _ (s id m g.1),g.2,l id g x,rfl⟩,fun id m t g x=>?_,fun b h=>.inl h,fun b h _=>.inl h,fun id g=>by rw[hN];exact g.1,by rw[hN];exact jal _ _,fun id m g=>?_⟩
 ·have e:ol B q id=id:=xx m;exact⟨⟨by omega,by rw[e];exact y⟩,by simp only[renE,e],by simp only[renE,e],by simp only[renE,e],by simp only[renE,e]⟩
 ·have e:ol B q id=id:=xx m;have:=l id ⟨by omega,by rw[e];exact g⟩ x
  grind
 ·have e:ol B q id=id:=xx m;have:=g.2
  grind
def mrgR(E Er:Env)(n m:Nat):Env :=
 ⟨fun id=>if id<n then E.ρ id else Er.ρ (id-n+m),fun id=>if id<n then E.κ id else Er.κ (id-n+m),fun id=>if id<n then E.hd id else Er.hd (id-n+m),fun id=>if id<n then E.hb id else Er.hb (id-n+m),
  fun id=>(id<n/\E.A id)\/(n<=id/\Er.A (id-n+m)),Er.m,Er.w⟩
section
variable {E Er : Env} {n m : Nat}
theorem kv{id:Nat}(h:id<n):(mrgR E Er n m).ρ id=E.ρ id/\(mrgR E Er n m).κ id=E.κ id/\(mrgR E Er n m).hd id=E.hd id/\(mrgR E Er n m).hb id=E.hb id:=by
 refine⟨?_,?_,?_,?_⟩<;>simp only[mrgR,xx h]
theorem qdd{k:Nat}(h:m<=k):(mrgR E Er n m).ρ (n+(k-m))=Er.ρ k/\(mrgR E Er n m).κ (n+(k-m))=Er.κ k/\(mrgR E Er n m).hd (n+(k-m))=Er.hd k/\(mrgR E Er n m).hb (n+(k-m))=Er.hb k/\(Er.A k->(mrgR E Er n m).A (n+(k-m))):=by
 have c:¬n+(k-m)<n:=by omega
 have a:n+(k-m)-n+m=k:=by omega
 refine⟨?_,?_,?_,?_,fun b=>.inr ⟨by omega,by rw[a];exact b⟩⟩<;>simp only[mrgR,xr c,a]
theorem q16{T:TW}{S Sx Sr S':IS}{q:Lz Nat}(p:Pre T E S)(hnd:q.Nodup)(hT:∀id∈q,T.w id)(hA:∀id∈q,E.A id)(hm:m<=q.length)(hn:n=S.next)
   (hsx:∀k,k<q.length->Live (renE 0 q E) Sx.H k->Live E S.H (ol 0 q k)) (h:PostB m T0 (renE 0 q E) Sx Er Sr)
   (hN:S'.next=n+(Sr.next-m))
   (h1:∀id,id<n->id ∉ q->S'.H id=S.H id)
   (h2:∀k o,k<m->S'.H (ol 0 q k)=iz o->ObjTo Er Sr (mrgR E Er n m) k (ol 0 q k) o)
   (h3:∀k o,m<=k->k<q.length->S'.H (ol 0 q k)=iz o->o=.dead)
   (h4:∀k o,m<=k->Er.A k->S'.H (n+(k-m))=iz o->ObjTo Er Sr (mrgR E Er n m) k (n+(k-m)) o) :
   Post T E S (mrgR E Er n m) S'/\Fresh E S (mrgR E Er n m):=by
 have M:∀id,E.A id->id<n:=fun id h=>by rw[hn];exact p.bnd id h
 have θ:∀k,k<q.length->(renE 0 q E).A k:=fun k d=>⟨by omega,hA _ (q8 d).1⟩
 -- a live object of the caller's beside these is at no block of theirs
 have l:∀id,id ∉ q->T.r id->E.A id->Live E S.H id->∀k,(renE 0 q E).A k->Live (renE 0 q E) Sx.H k->(renE 0 q E).ρ k≠E.ρ id:=fun id ι F c B k d t e=>by
   have C:k<q.length:=by have:=d.1;omega
   have h5:=(q8 C).1;have:=p.st.inj _ _ (T.sub _ (hT _ h5)) F d.2 c (hsx k C t) B e;exact ι (this▸h5)
 have I:∀b,b<E.w.heap.size->(∀k,(renE 0 q E).A k->Live (renE 0 q E) Sx.H k->(renE 0 q E).ρ k≠b)->Er.w.heap[b]?=E.w.heap[b]?:=fun b D d=>h.same b D fun k _=>d k;have Y:∀k,(renE 0 q E).A k->Live (renE 0 q E) Sx.H k->(renE 0 q E).ρ k∈E.m:=fun k d t=>by
   have C:k<q.length:=by have:=d.1;omega
   exact p.st.own _ (T.sub _ (hT _ (q8 C).1)) d.2 (hsx k C t)
 have Z:E.Le (mrgR E Er n m):=⟨fun id c=>by
   obtain⟨η,ξ,ν,ζ⟩:=kv (E:=E) (Er:=Er) (m:=m) (M id c);exact⟨.inl ⟨M id c,c⟩,η,ξ,ν,ζ⟩,⟨fun b D β=>⟨fun h'=>by
     rcases h.memo b h' with h5|h5
     · exact β h5
     · have:(renE 0 q E).w.heap.size=E.w.heap.size:=rfl;omega,I b D fun k d t e=>β (e▸Y k d t)⟩⟩⟩
 -- rows
 have v:∀k,k<m->(renE 0 q E).A k/\Er.A k/\Er.ρ k=E.ρ (ol 0 q k)/\Er.hb k=E.hb (ol 0 q k)/\ol 0 q k<n:=fun k d=>by
   have c:=θ k (by omega);obtain⟨P,X,W,R,a5⟩:=h.alw k d c;exact⟨c,P,X,a5,M _ c.2⟩
 -- where a live object of the new state comes from
 have s:∀id,(mrgR E Er n m).A id->Live (mrgR E Er n m) S'.H id ->
     (id<n/\id ∉ q/\E.A id/\Live E S.H id)\/∃k,Er.A k/\Live Er Sr.H k/\(mrgR E Er n m).ρ id=Er.ρ k/\((k<m/\id=ol 0 q k)\/(m<=k/\id=n+(k-m))):=fun id c ⟨z,o,u,y⟩=>by
   rcases c with ⟨x,c⟩|⟨x,c⟩
   · by_cases J:id∈q
     · obtain⟨k,d,rfl⟩:=qs7 J;by_cases f:k<m
       · obtain⟨r1,χ,φ,υ,r5⟩:=v k f;refine .inr ⟨k,χ,⟨?_,(h2 k o f u).live y⟩,(kv x).1.trans φ.symm,.inl ⟨f,rfl⟩⟩;rw[υ,<- (kv (E:=E) (Er:=Er) (m:=m) x).2.2.2];exact z
       · have:=h3 k o (by omega) d u;subst this;cases y
     · rw[h1 id x J] at u;exact .inl ⟨x,J,c,by rw[<- (kv (E:=E) (Er:=Er) (m:=m) x).2.2.2];exact z,o,u,y⟩
   · obtain⟨k,d,rfl⟩:∃k,m<=k/\id=n+(k-m):=⟨id-n+m,by omega,by omega⟩;have e:n+(k-m)-n+m=k:=by omega
     rw[e] at c;obtain⟨η,ξ,ν,ζ,m5⟩:=qdd (E:=E) (Er:=Er) (n:=n) d;exact .inr ⟨k,c,⟨by rw[<- ζ];exact z,(h4 k o d c u).live y⟩,η,.inr ⟨d,rfl⟩⟩
 have Q:∀id,id<n->id ∉ q->T.r id->E.A id->Live E S.H id->(mrgR E Er n m).ρ id∈Er.m/\∀k,Er.A k->Live Er Sr.H k->Er.ρ k≠E.ρ id:=fun id x J F c B=>by
   have L:=p.st.own id F c B;refine⟨?_,fun k d t e=>?_⟩
   · rw[(kv x).1];rcases h.mem _ L (p.st.lo _ L) with g|⟨k,_,z,u,y⟩
     · exact g
     · exact absurd y (l id J F c B k z u)
   · by_cases f:k<m
     · exact l id J F c B k (v k f).1 (h.old k f trivial (v k f).1 t) (by rw[<- e];exact(v k f).2.2.1.symm)
     · rcases h.new k (by omega) d t with g|⟨j,_,z,u,y⟩
       · have:=p.st.lo _ L;have e2:(renE 0 q E).w.heap.size=E.w.heap.size:=rfl;omega
       · exact l id J F c B j z u (by rw[<- y];exact e)
 refine⟨⟨⟨?_,?_,?_,?_,h.st.lo⟩,⟨h.os,h.tape,h.output,h.size,fun b D d=>?_,Z.alw,?_,?_,fun b D=>h.memo b D,fun b D B=>?_⟩,?_,?_⟩,⟨?_⟩⟩
 · intro id F c o K;rcases c with ⟨x,c⟩|⟨x,c⟩
   · by_cases J:id∈q
     · obtain⟨k,d,rfl⟩:=qs7 J;by_cases f:k<m
       · exact(h2 k o f K).rel
       · have:=h3 k o (by omega) d K;subst this;trivial
     · rw[h1 id x J] at K;exact(p.st.objs id F c o K).mono Z c (p.st.blk id F c o K) fun B D=>I _ ((p.st.objs id F c o K).lt B D) (l id J F c ⟨D,o,K,B⟩)
   · obtain⟨k,d,rfl⟩:∃k,m<=k/\id=n+(k-m):=⟨id-n+m,by omega,by omega⟩;have e:n+(k-m)-n+m=k:=by omega
     rw[e] at c;exact(h4 k o d c K).rel
 · intro id F c o K D;rcases c with ⟨x,c⟩|⟨x,c⟩
   · by_cases J:id∈q
     · obtain⟨k,d,rfl⟩:=qs7 J;by_cases f:k<m
       · exact(h2 k o f K).blk D
       · have:=h3 k o (by omega) d K;subst this;cases D
     · rw[h1 id x J] at K;rw[(kv x).2.2.2];exact p.st.blk id F c o K D
   · obtain⟨k,d,rfl⟩:∃k,m<=k/\id=n+(k-m):=⟨id-n+m,by omega,by omega⟩;have e:n+(k-m)-n+m=k:=by omega
     rw[e] at c;exact(h4 k o d c K).blk D
 · intro id F c B;rcases s id c B with ⟨z,u,y,G⟩|⟨k,z,u,y,_⟩
   · exact(Q id z u F y G).1
   · rw[y];exact h.st.own k trivial z u
 · intro i j μ κ x δ ω ψ O;rcases s i x ω with ⟨P,X,W,R⟩|⟨k,P,X,W,R⟩<;>rcases s j δ ψ with ⟨V,ε,γ,U⟩|⟨σ,V,ε,γ,U⟩
   · rw[(kv P).1,(kv V).1] at O;exact p.st.inj i j μ κ W γ R U O
   · rw[(kv P).1,γ] at O;exact absurd O.symm ((Q i P X μ W R).2 σ V ε)
   · rw[(kv V).1,W] at O;exact absurd O ((Q j V ε κ γ U).2 k P X)
   · rw[W,γ] at O;have:=h.st.inj k σ trivial trivial P V X ε O;subst this;rcases R with ⟨R,rfl⟩|⟨R,rfl⟩<;>rcases U with ⟨U,rfl⟩|⟨U,rfl⟩<;>first|rfl|omega
 · refine I b D fun k C t e=>?_;have α:k<q.length:=by have:=C.1;omega
   exact d _ (hT _ (q8 α).1) C.2 (hsx k α t) e
 · intro id c N B;rcases s id c B with ⟨z,u,y,G⟩|⟨k,z,u,y,G⟩
   · exact absurd y N
   · rcases G with ⟨G,rfl⟩|⟨G,rfl⟩
     · exact absurd (v k G).1.2 N
     · rw[y];rcases h.new k G z u with g|⟨j,_,τ,j2,j3⟩
       · exact .inl g
       · have δ:j<q.length:=by have:=τ.1;omega
         exact .inr ⟨_,hT _ (q8 δ).1,τ.2,hsx j δ j2,j3⟩
 · intro id F c B;rcases s id (.inl ⟨M id c,c⟩) B with ⟨z,u,y,G⟩|⟨k,z,u,y,G⟩
   · exact G
   · rcases G with ⟨G,rfl⟩|⟨G,rfl⟩
     · exact hsx k (by omega) (h.old k G trivial (v k G).1 u)
     · have:=M _ c;omega
 · rcases h.mem b D B with g|⟨k,_,z,u,y⟩
   · exact .inl g
   · have d:k<q.length:=by have:=z.1;omega
     exact .inr ⟨_,hT _ (q8 d).1,z.2,hsx k d u,y⟩
 · intro id c;rw[hN];rcases c with ⟨x,_⟩|⟨x,c⟩
   · omega
   · have:=h.bnd _ c;omega
 · rw[hN];omega
 · intro id c N;rcases c with ⟨_,c⟩|⟨x,_⟩
   · exact absurd c N
   · omega
end
end Go.Jx
end

noncomputable section
namespace Go.Jx
open Go Go.Sx Go.RowKit
universe u

inductive CT:Type
 | dat (c:TC)
 | arr (c:TC)
 | map (k v:TC)
 | fn (f:Nat)
def ElC:CT->Type
 | .dat c=>El c
 | .arr c=>Lz (El c)
 | .map k v=>Lz (El k × El v)
 | .fn _=>Unit
def jx:Lz CT->Type
 | []=>Unit
 | c::cs=>ElC c × jx cs
inductive RK:Type
 | box (r:List CT)
 | sl (c:TC)
 | mp (k v:TC)
 | clo (f:Nat) (is:List Nat)
def ElK:RK->Type
 | .box r=>jx r
 | .sl c=>Oq (Lz (El c))
 | .mp k v=>Oq (Lz (El k × El v))
 | .clo _ _=>Unit
inductive PK:Type
 | dat (c:TC)
 | ref (r:RK)
 | fn (f:Nat)
 | bnd (f i:Nat)
def ElP:Lz PK->Type
 | []=>Unit
 | .dat c::l=>El c × ElP l
 | .fn _::l=>ElP l
 | .bnd _ _::l=>ElP l
 | .ref r::l=>ElK r × ElP l
def refs:Lz PK->Lz PK
 | []=>[]
 | .dat _::l=>refs l
 | .fn _::l=>refs l
 | .bnd _ _::l=>refs l
 | .ref r::l=>.ref r::refs l
def nC:CT->Nat
 | .dat _=>0
 | .fn _=>0
 | _=>1
def nR:Lz CT->Nat
 | []=>0
 | c::cs=>nC c+nR cs
def nK:RK->Nat
 | .box r=>nR r
 | .sl _=>0
 | .mp _ _=>0
 | .clo _ _=>0
def nP:Lz PK->Nat
 | []=>0
 | .dat _::l=>nP l
 | .fn _::l=>nP l
 | .bnd _ _::l=>nP l
 | .ref r::l=>nK r+nP l
def mP:Lz PK->Nat
 | []=>0
 | .dat _::l=>mP l
 | .fn _::l=>mP l
 | .bnd _ _::l=>mP l
 | .ref _::l=>mP l+1
def wy:(c:CT)->(Nat->Nat)->Nat->ElC c->Lz IV
 | .dat c,_,_,x=>cel c x
 | .arr _,ι,n,_=>[.arr (ι n)]
 | .map _ _,ι,n,_=>[.map (ι n)]
 | .fn f,_,_,_=>[.fn f []]
def jm:(r:Lz CT)->(Nat->Nat)->Nat->jx r->Lz IV
 | [],_,_,_=>[]
 | c::cs,ι,n,x=>wy c ι n x.1++jm cs ι (n+nC c) x.2
def subC:(c:CT)->ElC c->Lz IObj
 | .dat _,_=>[]
 | .arr c,l=>[.arr c l]
 | .map k v,es=>[.tmap k v es]
 | .fn _,_=>[]
def subR:(r:Lz CT)->jx r->Lz IObj
 | [],_=>[]
 | c::cs,x=>subC c x.1++subR cs x.2
def objK:(k:RK)->(Nat->Nat)->Nat->ElK k->IObj
 | .box r,ι,n,x=>.row (jm r ι n x)
 | .sl c,_,_,x=>match x with
  | some l=>.arr c l
  | none=>.dead
 | .mp k v,_,_,x=>match x with
  | some l=>.tmap k v l
  | none=>.dead
 | .clo f is,ι,_,_=>.row [.fn f (is.map fun k=>.ptr (ι k) 0)]
def isK:RK->Lz Nat
 | .clo _ is=>is
 | _=>[]
def okPs(N:Nat):Lz PK->Bool
 | []=>i7
 | .ref r::l=>(isK r).all (fun k=>oo k N)&&okPs N l
 | .dat _::l=>okPs N l
 | .fn _::l=>okPs N l
 | .bnd _ i::l=>oo i N&&okPs N l
def vw:Lz PK->Bool
 | []=>i7
 | .ref r::l=>(match r with
  | .clo _ _=>eb
  | _=>i7)&&vw l
 | .dat _::l=>vw l
 | .fn _::l=>vw l
 | .bnd _ _::l=>eb
def subK:(k:RK)->ElK k->Lz IObj
 | .box r,x=>subR r x
 | .sl _,_=>[]
 | .mp _ _,_=>[]
 | .clo _ _,_=>[]
def argK:RK->Nat->IV
 | .box _,id=>.ptr id 0
 | .sl _,id=>.arr id
 | .mp _ _,id=>.map id
 | .clo _ _,id=>.ptr id 0
def zr:(l:Lz PK)->(Nat->Nat)->Nat->ElP l->Lz IObj
 | [],_,_,_=>[]
 | .dat _::l,ι,n,x=>zr l ι n x.2
 | .fn _::l,ι,n,x=>zr l ι n x
 | .bnd _ _::l,ι,n,x=>zr l ι n x
 | .ref r::l,ι,n,x=>objK r ι n x.1::zr l ι (n+nK r) x.2
def jp:(l:Lz PK)->ElP l->Lz IObj
 | [],_=>[]
 | .dat _::l,x=>jp l x.2
 | .fn _::l,x=>jp l x
 | .bnd _ _::l,x=>jp l x
 | .ref r::l,x=>subK r x.1++jp l x.2
def ze:(l:Lz PK)->(Nat->Nat)->Nat->ElP l->Lz IV
 | [],_,_,_=>[]
 | .dat c::l,ρ,k,x=>asIV c x.1::ze l ρ k x.2
 | .fn f::l,ρ,k,x=>.fn f []::ze l ρ k x
 | .bnd f i::l,ρ,k,x=>.bfn f [.ptr (ρ i) 0]::ze l ρ k x
 | .ref r::l,ρ,k,x=>argK r (ρ k)::ze l ρ (k+1) x.2
def idN(k:Nat):Nat:=k
def Sc(l:Lz PK)(x:ElP l):IS:=addO (zr l idN (mP l) x++jp l x) S0
theorem qdu:∀(c:CT) (x:ElC c),(subC c x).length=nC c
 | .dat _,_=>rfl
 | .arr _,_=>rfl
 | .map _ _,_=>rfl
 | .fn _,_=>rfl
theorem qkg:∀(r:Lz CT) (x:jx r),(subR r x).length=nR r
 | [],_=>rfl
 | c::cs,x=>by simp only[subR,nR,xp,qdu,qkg cs]
theorem qu5:∀(k:RK) (x:ElK k),(subK k x).length=nK k
 | .box r,x=>qkg r x
 | .sl _,_=>rfl
 | .mp _ _,_=>rfl
 | .clo _ _,_=>rfl
theorem tm:∀(l:Lz PK) (x:ElP l),(jp l x).length=nP l
 | [],_=>rfl
 | .dat _::l,x=>tm l x.2
 | .fn _::l,x=>tm l x
 | .bnd _ _::l,x=>tm l x
 | .ref r::l,x=>by simp only[jp,nP,xp,qu5,tm l]
theorem qe:∀(l:Lz PK) (ι:Nat->Nat) (n:Nat) (x:ElP l),(zr l ι n x).length=mP l
 | [],_,_,_=>rfl
 | .dat _::l,ι,n,x=>qe l ι n x.2
 | .fn _::l,ι,n,x=>qe l ι n x
 | .bnd _ _::l,ι,n,x=>qe l ι n x
 | .ref r::l,ι,n,x=>by simp only[zr,mP,xw,qe l]
theorem um:∀(l:Lz PK) (ι:Nat->Nat) (n:Nat) (x:ElP l) (j:Nat) (o:IObj),(zr l ι n x)[j]?=iz o ->
  ∃r nj xj,o=objK r ι nj xj/\n<=nj/\nj+nK r<=n+nP l/\(∀ι',(zr l ι' n x)[j]?=iz (objK r ι' nj xj))/\∀N,okPs N l=i7->∀k∈isK r,k<N
 | [],ι,n,x,j,o,h=>by simp[zr] at h
 | .dat _::l,ι,n,x,j,o,h=>um l ι n x.2 j o h
 | .fn _::l,ι,n,x,j,o,h=>um l ι n x j o h
 | .bnd _ _::l,ι,n,x,j,o,h=>by
  obtain⟨r,nj,xj,h1,h2,h3,h4,h5⟩:=um l ι n x j o h;exact⟨r,nj,xj,h1,h2,h3,h4,fun N hN=>by
   simp only[okPs,xf] at hN;exact h5 N hN.2⟩
 | .ref r::l,ι,n,x,j,o,h=>by
  cases j with
  | zero =>
   simp only[zr,xo,pj] at h;refine⟨r,n,x.1,h.symm,xl _,by simp only[nP];omega,fun ι'=>rfl,fun N hN k hk=>?_⟩;simp only[okPs,xf] at hN;simpa using xz.1 hN.1 k hk
  | succ j =>
   simp only[zr,px] at h;obtain⟨r',nj,xj,h1,h2,h3,h4,h5⟩:=um l ι _ x.2 j o h;refine⟨r',nj,xj,h1,by omega,by simp only[nP];omega,fun ι'=>by simpa only [zr,px] using h4 ι',fun N hN k hk=>?_⟩;simp only[okPs,xf] at hN;exact h5 N hN.2 k hk
theorem qau(l:Lz PK)(x:ElP l):(Sc l x).next=mP l+nP l:=by
 unfold Sc;rw[wc,xp,qe,tm];show 0+_=_;omega
theorem sw(l:Lz IObj)(k:Nat):(addO l S0).H k=l[k]?:=by
 rw[kf];have e:S0.next=0:=rfl
 rw[e,xr (by omega),x6,rz];by_cases h:k<l.length
 ·grind
 ·rw[xr h,p6 (by omega)];rfl

section
variable {E E' : Env}
def js(E E':Env)(i j:Nat):Prop:=E.A i->E'.A j/\E'.ρ j=E.ρ i/\E'.κ j=E.κ i/\E'.hd j=E.hd i/\E'.hb j=E.hb i
theorem zhu(hm:∀b,b∈E'.m->b∈E.m)(hw:E'.w=E.w){ι ι':Nat->Nat}:∀(c:CT) {n:Nat} {x:ElC c} {us:Lz oc},(∀j,n<=j->j<n+nC c->js E E' (ι j) (ι' j)) ->
  VRs E (wy c ι n x) us->VRs E' (wy c ι' n x) us
 | .dat c,n,x,us,hn,h=>⟨h.1,fun i a b=>(VR.noid hm hw (h.2 i a b)).2.2 _ _ (p5 a)⟩
 | .arr c,n,x,us,hn,h=>by
  obtain⟨u,us,rfl,a1,a2⟩:=VRs.inv (v:=.arr (ι n)) (cs:=[]) h;have e:us=[]:=by have:=a2.1;simpa using this.symm
  subst e;cases a1 with
  | arr hA hh =>
   obtain⟨b1,b2,b3,b4,b5⟩:=hn n (xl _) (by simp[nC]) hA;exact VRs.cons (.arr b1 (b4.trans hh)) VRs.nil
 | .map k v,n,x,us,hn,h=>by
  obtain⟨u,us,rfl,a1,a2⟩:=VRs.inv (v:=.map (ι n)) (cs:=[]) h;have e:us=[]:=by have:=a2.1;simpa using this.symm
  subst e;cases a1 with
  | map hA =>
   obtain⟨b1,b2,b3,b4,b5⟩:=hn n (xl _) (by simp[nC]) hA;rw[<- b2];exact VRs.cons (.map b1) VRs.nil
 | .fn f,n,x,us,hn,h=>by
  obtain⟨u,us,rfl,a1,a2⟩:=VRs.inv (v:=.fn f []) (cs:=[]) h;have e:us=[]:=by have:=a2.1;simpa using this.symm
  subst e;cases a1 with
  | fn hl hh =>
   rename_i us1;have e:us1=[]:=by simpa using hl.symm
   subst e;exact VRs.cons (.fn rfl (fun i h=>by simp at h)) VRs.nil
theorem VRs.split{E:Env}{cs ds:Lz IV}{us:Lz oc}(h:VRs E (cs++ds) us):∃us1 us2,us=us1++us2/\VRs E cs us1/\VRs E ds us2:=by
 have b:=h.take cs.length;have a:=h.drop cs.length;rw[jca] at b;rw[List.drop_left] at a;exact⟨_,_,(dz _ _).symm,b,a⟩
theorem qxr(hm:∀b,b∈E'.m->b∈E.m)(hw:E'.w=E.w){ι ι':Nat->Nat}:∀(r:Lz CT) {n:Nat} {x:jx r} {us:Lz oc},(∀j,n<=j->j<n+nR r->js E E' (ι j) (ι' j)) ->
  VRs E (jm r ι n x) us->VRs E' (jm r ι' n x) us
 | [],n,x,us,hn,h=>by have:=h.1;cases us with|nil=>exact VRs.nil|cons _ _=>simp [jm] at this
 | c::cs,n,x,us,hn,h=>by
  obtain⟨us1,us2,rfl,h1,h2⟩:=VRs.split (cs:=wy c ι n x.1) (ds:=jm cs ι (n+nC c) x.2) h;exact VRs.append (zhu hm hw c (fun j a b=>hn j a (by simp only[nR];omega)) h1) (qxr hm hw cs (fun j a b=>hn j (by omega) (by simp only[nR];omega)) h2)
theorem zfv(c:CT)(ι ι':Nat->Nat)(n:Nat)(x:ElC c):(wy c ι n x).length=(wy c ι' n x).length:=by cases c<;>rfl
theorem qn0:∀(r:Lz CT) (ι ι':Nat->Nat) (n:Nat) (x:jx r),(jm r ι n x).length=(jm r ι' n x).length
 | [],_,_,_,_=>rfl
 | c::cs,ι,ι',n,x=>by simp only[jm,xp,zfv c ι ι',qn0 cs ι ι']
theorem OR.row_to(hm:∀b,b∈E'.m->b∈E.m)(hw:E'.w=E.w){ι ι':Nat->Nat}{r:Lz CT}{n i j:Nat}{x:jx r}(hA:E.A i)(hi:js E E' i j)(hn:∀j,n<=j->j<n+nR r->js E E' (ι j) (ι' j))
  (h:OR E i (.row (jm r ι n x))):OR E' j (.row (jm r ι' n x)):=by
 obtain⟨a,t,f,e,d,c⟩:=h;obtain⟨p,k,g,o,l⟩:=hi hA;refine⟨a,t,by rw[hw,k];exact f,by rw[g];exact e,by rw[qn0 r ι' ι];exact d,?_⟩;rw[qn0 r ι' ι];exact qxr hm hw r hn c
def datO:IObj->Bool
 | .arr _ _=>i7
 | .tmap _ _ _=>i7
 | _=>eb
theorem OR.dat_to(hm:∀b,b∈E'.m->b∈E.m)(hw:E'.w=E.w){i j:Nat}{o:IObj}(hA:E.A i)(hi:js E E' i j)(ho:datO o=i7)(h:OR E i o):OR E' j o:=by
 obtain⟨L,q,K,J,s⟩:=hi hA;have k:∀{v:IV} {u:oc},VR E v u->_:=fun h=>VR.noid (E:=E) (E':=E') hm hw h;cases o<;>try (cases ho;done)
 ·obtain⟨a,p,n,g,f,l,B⟩:=h;exact⟨a,p,by rw[J];exact n,g,f,l,B.imp (fun⟨x,y⟩=>⟨by rw[s];exact x,y⟩) fun⟨I,H,d,t,G,F,z,D,C⟩=>⟨by rw[s];exact I,by rw[q];exact H,d,t,by rw[hw,q];exact G,F,z,D,fun i hi j r=>(k (C i hi j r)).2.2 _ _ (p5 r)⟩⟩
 ·obtain⟨e,c,n,g,f,l⟩:=h;refine⟨e,c,by rw[hw,q];exact n,⟨g.1,fun i a b=>?_⟩,⟨f.1,fun i a b=>?_⟩,l⟩
  ·have:=g.2 i a b;simp only[tmEs,de] at this ⊢;exact na hm hw this
  ·have:=f.2 i a b;simp only[tmEs,de] at this ⊢;exact na hm hw this
theorem OR.objK_to(hm:∀b,b∈E'.m->b∈E.m)(hw:E'.w=E.w){ι ι':Nat->Nat}:∀{r:RK} {n i j:Nat} {x:ElK r} (hA:E.A i) (hi:js E E' i j) (hn:∀j,n<=j->j<n+nK r->js E E' (ι j) (ι' j)) (hs:∀k∈isK r,js E E' (ι k) (ι' k))
  (h:OR E i (objK r ι n x)),OR E' j (objK r ι' n x)
 | .box r,n,i,j,x,hA,hi,hn,hs,h=>OR.row_to hm hw hA hi hn h
 | .sl c,n,i,j,iz l,hA,hi,hn,hs,h=>OR.dat_to hm hw hA hi (o:=.arr c l) rfl h
 | .sl c,n,i,j,i6,hA,hi,hn,hs,h=>trivial
 | .mp k v,n,i,j,iz l,hA,hi,hn,hs,h=>OR.dat_to hm hw hA hi (o:=.tmap k v l) rfl h
 | .mp k v,n,i,j,i6,hA,hi,hn,hs,h=>trivial
 | .clo f is,n,i,j,x,hA,hi,hn,hs,h=>by
  obtain⟨cells,t,h1,h2,h3,h4⟩:=h;obtain⟨b1,b2,b3,b4,b5⟩:=hi hA;refine⟨cells,t,by rw[hw,b2];exact h1,by rw[b3];exact h2,h3,?_⟩;obtain⟨u,us,e,a1,a2⟩:=h4.inv;have a2:VRs E [] us:=a2;have e0:us=[]:=p8.1 a2.1.symm;subst e0;show VRs E' [.fn f (is.map fun k=>.ptr (ι' k) 0)] (cells.toList.take 1);rw[show cells.toList.take 1=[u] from e];refine VRs.cons ?_ VRs.nil;cases a1 with
  | fn hl hh =>
   rename_i us1;refine .fn (by simpa using hl) fun i h1 h2=>?_;have hi1:i<is.length:=by simpa using h1
   have:=hh i (by simpa using hi1) h2;simp only[de] at this ⊢;generalize us1[i]=u0 at this ⊢;cases this with
   | ptr hA =>
    obtain⟨c1,c2,_⟩:=hs is[i] (p5 hi1) hA;rw[<- c2];exact .ptr c1
theorem qfp:∀{r:RK} {ι ι':Nat->Nat} {n:Nat} {x:ElK r},(objK r ι n x).live=(objK r ι' n x).live
 | .box r,ι,ι',n,x=>rfl
 | .sl c,ι,ι',n,iz l=>rfl
 | .sl c,ι,ι',n,i6=>rfl
 | .mp k v,ι,ι',n,iz l=>rfl
 | .mp k v,ι,ι',n,i6=>rfl
 | .clo f is,ι,ι',n,x=>rfl
theorem qbe:∀{r:RK} {ι ι':Nat->Nat} {n:Nat} {x:ElK r},(objK r ι n x).blk=(objK r ι' n x).blk
 | .box r,ι,ι',n,x=>rfl
 | .sl c,ι,ι',n,iz l=>rfl
 | .sl c,ι,ι',n,i6=>rfl
 | .mp k v,ι,ι',n,iz l=>rfl
 | .mp k v,ι,ι',n,i6=>rfl
 | .clo f is,ι,ι',n,x=>rfl
theorem q2g{r:RK}{id:Nat}{u:oc}(h:VR E (argK r id) u):E.A id:=by
 cases r with
 | box r=>cases h;assumption
 | sl c=>cases h;assumption
 | mp k v=>cases h;assumption
 | clo f is=>cases h;assumption
theorem q75{r:RK}{i j:Nat}{u:oc}(hi:js E E' i j)(h:VR E (argK r i) u):VR E' (argK r j) u:=by
 cases r with
 | box r =>
  cases h with
  | ptr hA =>
   obtain⟨a,b,g,d,e⟩:=hi hA;show VR E' (.ptr j 0) _;rw[<- b];exact .ptr a
 | sl c =>
  cases h with
  | arr hA hh =>
   obtain⟨a,b,g,d,e⟩:=hi hA;exact .arr a (d.trans hh)
 | mp k v =>
  cases h with
  | map hA =>
   obtain⟨a,b,g,d,e⟩:=hi hA;show VR E' (.map j) _;rw[<- b];exact .map a
 | clo f is =>
  cases h with
  | ptr hA =>
   obtain⟨a,b,g,d,e⟩:=hi hA;show VR E' (.ptr j 0) _;rw[<- b];exact .ptr a
theorem argsP_env(hm:∀b,b∈E'.m->b∈E.m)(hw:E'.w=E.w){ρ ρ':Nat->Nat}:∀(l:Lz PK) {k N:Nat} {x:ElP l} {us:Lz oc},okPs N l=i7->k+mP l<=N->(∀j,j<N->js E E' (ρ j) (ρ' j)) ->
  VRs E (ze l ρ k x) us->VRs E' (ze l ρ' k x) us
 | [],k,N,x,us,hb,hN,hn,h=>by have:=h.1;cases us with|nil=>exact VRs.nil|cons _ _=>simp [ze] at this
 | .dat c::l,k,N,x,us,hb,hN,hn,h=>by
  obtain⟨u,us,rfl,a1,a2⟩:=VRs.inv (v:=asIV c x.1) (cs:=ze l ρ k x.2) h;exact VRs.cons (na hm hw a1) (argsP_env hm hw l hb hN hn a2)
 | .fn f::l,k,N,x,us,hb,hN,hn,h=>by
  obtain⟨u,us,rfl,a1,a2⟩:=VRs.inv (v:=.fn f []) (cs:=ze l ρ k x) h;refine VRs.cons ?_ (argsP_env hm hw l hb hN hn a2);cases a1 with
  | fn hl hh =>
   rename_i us0;have:us0=[]:=p8.1 hl.symm;subst this;exact .fn (cs:=[]) rfl (fun i h=>by simp at h)
 | .bnd f i::l,k,N,x,us,hb,hN,hn,h=>by
  simp only[okPs,xf] at hb;obtain⟨u,us,rfl,a1,a2⟩:=VRs.inv (v:=.bfn f [.ptr (ρ i) 0]) (cs:=ze l ρ k x) h;refine VRs.cons ?_ (argsP_env hm hw l hb.2 hN hn a2);cases a1 with
  | bfn hl hh =>
   rename_i us0;refine .bfn (cs:=[.ptr (ρ' i) 0]) hl fun j h1 h2=>?_;have hj:j=0:=by simpa using h1
   subst hj;have:=hh 0 (by simp) h2;simp only[List.getElem_cons_zero] at this ⊢;generalize us0[0]=u0 at this ⊢;cases this with
   | ptr hA =>
    obtain⟨c1,c2,_⟩:=hn i (by simpa using hb.1) hA;rw[<- c2];exact .ptr c1
 | .ref r::l,k,N,x,us,hb,hN,hn,h=>by
  simp only[okPs,xf] at hb;simp only[mP] at hN;obtain⟨u,us,rfl,a1,a2⟩:=VRs.inv (v:=argK r (ρ k)) (cs:=ze l ρ (k+1) x.2) h;exact VRs.cons (q75 (hn k (by omega)) a1) (argsP_env hm hw l hb.2 (by omega) hn a2)
theorem qgn{ρ:Nat->Nat}:∀(l:Lz PK) {k:Nat} {x:ElP l} {us:Lz oc} (z:ElP (refs l)),VRs E (ze l ρ k x) us->∃us',VRs E (ze (refs l) ρ k z) us'
 | [],k,x,us,z,h=>⟨[],VRs.nil⟩
 | .dat c::l,k,x,us,z,h=>by
  obtain⟨u,us,rfl,a1,a2⟩:=VRs.inv (v:=asIV c x.1) (cs:=ze l ρ k x.2) h;exact qgn l z a2
 | .fn f::l,k,x,us,z,h=>by
  obtain⟨u,us,rfl,a1,a2⟩:=VRs.inv (v:=.fn f []) (cs:=ze l ρ k x) h;exact qgn l z a2
 | .bnd f i::l,k,x,us,z,h=>by
  obtain⟨u,us,rfl,a1,a2⟩:=VRs.inv (v:=.bfn f [.ptr (ρ i) 0]) (cs:=ze l ρ k x) h;exact qgn l z a2
 | .ref r::l,k,x,us,z,h=>by
  obtain⟨u,us,rfl,a1,a2⟩:=VRs.inv (v:=argK r (ρ k)) (cs:=ze l ρ (k+1) x.2) h;obtain⟨us',h'⟩:=qgn l z.2 a2;exact⟨u::us',VRs.cons a1 h'⟩
end

def rdC:(c:CT)->IS->Lz IV->Oq (ElC c × Lz Nat × Lz IV × IS × Nat)
 | .dat c,S,cs=>match icl c S cs with
  | some (x,r,S1,w)=>iz (x,[],r,S1,w)
  | none=>i6
 | .arr c,S,cs=>match cs with
  | v::r=>match coeV S c v with
   | some (.arr id,S1,w)=>iz ([],[id],r,S1,w)
   | _=>i6
  | []=>i6
 | .map k v,S,cs=>match cs with
  | .map id::r=>match n6 S k v (.map id) with
   | some (S1,w)=>iz ([],[id],r,S1,w)
   | none=>i6
  | _=>i6
 | .fn f,S,cs=>match cs with
  | .fn g []::r=>cond (od g f) (iz ((),[],r,S,0)) i6
  | _=>i6
def rdR:(r:Lz CT)->IS->Lz IV->Oq (jx r × Lz Nat × Lz IV × IS × Nat)
 | [],S,cs=>iz ((),[],cs,S,0)
 | c::l,S,cs=>match rdC c S cs with
  | none=>i6
  | some (x,i1,r1,S1,w1)=>match rdR l S1 r1 with
   | none=>i6
   | some (y,i2,r2,S2,w2)=>iz ((x,y),i1++i2,r2,S2,w1 ||| w2)
def rdS(c:TC)(S:IS)(v:IV):Oq (Nat × IS × Nat) :=
 match v with
 | .arr id=>iz (id,S,2 ^ id)
 | _=>match coeV S c v with
  | some (.arr id,S1,w)=>iz (id,S1,w)
  | _=>i6
def rdM(k v:TC)(S:IS)(x:IV):Oq (Nat × IS × Nat) :=
 match x with
 | .map id=>match n6 S k v (.map id) with
  | some (S1,w)=>iz (id,S1,w)
  | none=>i6
 | _=>i6
def rdP0:(l:Lz PK)->IS->Lz IV->Oq (ElP l × Lz Nat × Lz Nat × IS × Nat)
 | [],S,vs=>match vs with
  | []=>iz ((),[],[],S,0)
  | _=>i6
 | .dat c::l,S,vs=>match vs with
  | v::vs=>cond (fitV c v) (match icl c S (cellsOf v) with
   | some (x,[],S1,w1)=>match rdP0 l S1 vs with
    | some (y,q1,q2,S2,w2)=>iz ((x,y),q1,q2,S2,w1 ||| w2)
    | none=>i6
   | _=>i6) i6
  | []=>i6
 | .fn f::l,S,vs=>match vs with
  | .fn g []::vs=>cond (od g f) (rdP0 l S vs) i6
  | _=>i6
 | .bnd f _::l,S,vs=>match vs with
  | .bfn g [.ptr _ 0]::vs=>cond (od g f) (rdP0 l S vs) i6
  | _=>i6
 | .ref (.sl c)::l,S,vs=>match vs with
  | v::vs=>match rdS c S v with
   | some (id,S1,w1)=>match rdP0 l S1 vs with
    | some (y,q1,q2,S2,w2)=>iz ((i6,y),id::q1,q2,S2,w1 ||| w2)
    | none=>i6
   | none=>i6
  | []=>i6
 | .ref (.mp kc vc)::l,S,vs=>match vs with
  | v::vs=>match rdM kc vc S v with
   | some (id,S1,w1)=>match rdP0 l S1 vs with
    | some (y,q1,q2,S2,w2)=>iz ((i6,y),id::q1,q2,S2,w1 ||| w2)
    | none=>i6
   | none=>i6
  | []=>i6
 | .ref (.box r)::l,S,vs=>match vs with
  | .ptr id 0::vs=>match S.heap.get id with
   | some (.row cs)=>match rdR r S cs with
    | some (x,i1,[],S1,w1)=>match rdP0 l S1 vs with
     | some (y,q1,q2,S2,w2)=>iz ((x,y),id::q1,i1++q2,S2,2 ^ id ||| (w1 ||| w2))
     | none=>i6
    | _=>i6
   | _=>i6
  | _=>i6
 | .ref (.clo f is)::l,S,vs=>match vs with
  | .ptr id 0::vs=>match S.heap.get id with
   | some (.row [.fn _ _])=>match rdP0 l S vs with
    | some (y,q1,q2,S2,w2)=>iz (((),y),id::q1,q2,S2,2 ^ id ||| w2)
    | none=>i6
   | _=>i6
  | _=>i6
def sf(rows:Lz Nat):Lz IV->Lz Nat->Bool
 | [],[]=>i7
 | .ptr a 0::cs,k::is=>(match rows[k]? with
  | some b=>od a b
  | none=>eb)&&sf rows cs is
 | _,_=>eb
def cloL(S:IS)(all:Lz Nat):Lz PK->Lz Nat->Bool
 | [],_=>i7
 | .dat _::l,q=>cloL S all l q
 | .fn _::l,q=>cloL S all l q
 | .bnd _ _::l,q=>cloL S all l q
 | .ref r::l,q=>match q with
  | id::q=>(match r with
   | .clo f is=>match S.heap.get id with
    | some (.row [.fn g cs])=>od g f&&sf all cs is
    | _=>eb
   | _=>i7)&&cloL S all l q
  | []=>eb
def bn1(ρ:Nat->Nat):PK->IV->Prop
 | .bnd _ i,.bfn _ [.ptr a 0]=>a=ρ i
 | _,_=>True
def BndP(ρ:Nat->Nat):Lz PK->Lz IV->Prop
 | k::l,v::vs=>bn1 ρ k v/\BndP ρ l vs
 | _,_=>True
def bb1(q:Lz Nat):PK->IV->Bool
 | .bnd _ i,.bfn _ [.ptr a 0]=>match q[i]? with
  | some b=>od a b
  | none=>eb
 | _,_=>i7
def bndB(q:Lz Nat):Lz PK->Lz IV->Bool
 | k::l,v::vs=>bb1 q k v&&bndB q l vs
 | _,_=>i7
theorem q26{ρ:Nat->Nat}{q:Lz Nat}(hq:∀(j id:Nat),q[j]?=iz id->ρ j=id):∀{l:Lz PK} {vs:Lz IV},bndB q l vs=i7->BndP ρ l vs
 | [],_,_=>by unfold BndP;trivial
 | _::_,[],_=>by unfold BndP;trivial
 | k::l,v::vs,h=>by
  simp only[bndB,xf] at h;refine⟨?_,q26 hq h.2⟩;have h1:=h.1;unfold bb1 at h1;unfold bn1;split
  ·rename_i i _ a;simp only at h1;cases hk:q[i]? with
   | none=>rw[hk] at h1;cases h1
   | some b=>rw[hk] at h1;rw[hq i b hk];exact xg h1
  ·grind
theorem qko{ρ:Nat->Nat}:∀{l:Lz PK} {vs:Lz IV},vw l=i7->BndP ρ l vs
 | [],_,_=>by unfold BndP;trivial
 | _::_,[],_=>by unfold BndP;trivial
 | .dat _::l,v::vs,h=>⟨trivial,qko (l:=l) h⟩
 | .fn _::l,v::vs,h=>⟨trivial,qko (l:=l) h⟩
 | .bnd _ _::l,v::vs,h=>(by cases h)
 | .ref _::l,v::vs,h=>by
  simp only[vw,xf] at h;exact⟨trivial,qko (l:=l) h.2⟩
def rdP(l:Lz PK)(S:IS)(vs:Lz IV):Oq (ElP l × Lz Nat × Lz Nat × IS × Nat):=match rdP0 l S vs with
 | some (x,q1,q2,S',w)=>cond (okPs (mP l) l&&(cloL S' q1 l q1&&bndB q1 l vs)) (iz (x,q1,q2,S',w)) i6
 | none=>i6
theorem quc{l:Lz PK}{S S':IS}{vs:Lz IV}{x:ElP l}{q1 q2:Lz Nat}{w:Nat}(h:rdP l S vs=iz (x,q1,q2,S',w)):rdP0 l S vs=iz (x,q1,q2,S',w)/\okPs (mP l) l=i7/\cloL S' q1 l q1=i7/\bndB q1 l vs=i7:=by
 unfold rdP at h
 grind
section
variable {T : TW} {E : Env} {S : IS}
def Nums(ι:Nat->Nat)(n:Nat)(q:Lz Nat):Prop:=∀(j id:Nat),q[j]?=iz id->ι (n+j)=id
theorem Nums.fst{ι:Nat->Nat}{n:Nat}{a b:Lz Nat}(h:Nums ι n (a++b)):Nums ι n a:=fun j d c=>h j d (by rw[pa (x9.1 c).1];exact c)
theorem Nums.snd{ι:Nat->Nat}{n:Nat}{a b:Lz Nat}(h:Nums ι n (a++b)):Nums ι (n+a.length) b:=fun j c d=>by
 have:=h (a.length+j) c (by rw[pg (by omega),ph];exact d)
 grind
theorem zz3:∀(c:CT) {E:Env} {S:IS} {cs:Lz IV} {x:ElC c} {ids:Lz Nat} {r:Lz IV} {S':IS} {w:Nat} {us:Lz oc},rdC c S cs=iz (x,ids,r,S',w)->Pre T E S->tin T.w w->VRs E cs us ->
  ∃E',E'.w=E.w/\Post T E S E' S'/\Fresh E S E'/\ids.length=nC c/\(∀id∈ids,E'.A id)/\∃us1 us2,us=us1++us2/\(∀ι n,Nums ι n ids->VRs E' (wy c ι n x) us1)/\VRs E' r us2
 | .dat c,E,S,cs,x,ids,r,S',w,us,h,p,hw,hv=>by
  simp only[rdC] at h;split at h<;>cases h;rename_i h1;obtain⟨E1,e1,q1,f1,us1,us2,e2,v1,v2⟩:=tn c h1 p hw hv;exact⟨E1,e1,q1,f1,rfl,fun id h=>(by cases h),us1,us2,e2,fun ι n _=>v1,v2⟩
 | .arr c,E,S,cs,x,ids,r,S',w,us,h,p,hw,hv=>by
  simp only[rdC] at h;cases cs with
  | nil=>cases h
  | cons v cs =>
  simp only at h;split at h<;>cases h;rename_i id h1;obtain⟨u,us,rfl,a1,a2⟩:=hv.inv;obtain⟨E1,e1,q1,f1,v1⟩:=qb8 p h1 hw a1;have hA:E1.A id:=by cases v1;assumption
  refine⟨E1,e1,q1,f1,rfl,fun id' h=>by rw[gn.1 h];exact hA,[u],us,rfl,fun ι n hn=>?_,a2.mono (q1.env p)⟩;have:=hn 0 id rfl;simp only[wy];rw[g8] at this;rw[this];exact VRs.cons v1 VRs.nil
 | .map kc vc,E,S,cs,x,ids,r,S',w,us,h,p,hw,hv=>by
  cases cs with
  | nil=>cases h
  | cons v cs =>
  cases v<;>try (cases h;done)
  rename_i id;simp only[rdC] at h;split at h<;>cases h;rename_i h1;obtain⟨u,us,rfl,a1,a2⟩:=hv.inv;obtain⟨E1,e1,q1,f1⟩:=qng p h1 hw a1;have v1:=a1.mono (q1.env p);have hA:E1.A id:=by cases v1;assumption
  refine⟨E1,e1,q1,f1,rfl,fun id' h=>by rw[gn.1 h];exact hA,[u],us,rfl,fun ι n hn=>?_,a2.mono (q1.env p)⟩;have:=hn 0 id rfl;simp only[wy];rw[g8] at this;rw[this];exact VRs.cons v1 VRs.nil
 | .fn f,E,S,cs,x,ids,r,S',w,us,h,p,hw,hv=>by
  simp only[rdC] at h;split at h<;>try cases h
  rename_i g cs;cases hb:od g f with
  | false=>rw[hb] at h;cases h
  | true =>
  rw[hb] at h;cases h;obtain rfl:=xg hb;obtain⟨u,us,rfl,a1,a2⟩:=hv.inv;exact⟨E,rfl,Post.refl p,Fresh.refl E S,rfl,fun id h=>(by cases h),[u],us,rfl,fun ι n _=>VRs.cons a1 VRs.nil,a2⟩
theorem q3j:∀(c:Lz CT) {E:Env} {S:IS} {cs:Lz IV} {x:jx c} {ids:Lz Nat} {r:Lz IV} {S':IS} {w:Nat} {us:Lz oc},rdR c S cs=iz (x,ids,r,S',w)->Pre T E S->tin T.w w->VRs E cs us ->
  ∃E',E'.w=E.w/\Post T E S E' S'/\Fresh E S E'/\ids.length=nR c/\(∀id∈ids,E'.A id)/\∃us1 us2,us=us1++us2/\(∀ι n,Nums ι n ids->VRs E' (jm c ι n x) us1)/\VRs E' r us2
 | [],E,S,cs,x,ids,r,S',w,us,h,p,hw,hv=>by
  cases h;exact⟨E,rfl,Post.refl p,Fresh.refl E S,rfl,fun id h=>(by cases h),[],us,rfl,fun _ _ _=>VRs.nil,hv⟩
 | c::l,E,S,cs,x,ids,r,S',w,us,h,p,hw,hv=>by
  simp only[rdR] at h;split at h
  ·grind
  rename_i x1 i1 r1 S1 w1 h1;split at h<;>cases h;rename_i y i2 w2 h2;obtain⟨g1,g2⟩:=zp hw;obtain⟨E1,e1,q1,f1,l1,A1,us1,us2,rfl,v1,v2⟩:=zz3 c h1 p g1 hv;obtain⟨E2,e2,q2,f2,l2,A2,us3,us4,rfl,v3,v4⟩:=q3j l h2 (q1.pre p) g2 v2;have hle:=q2.env (q1.pre p);refine⟨E2,e2.trans e1,Post.trans p q1 f1 q2,f1.trans f2 q1.le,by simp[l1,l2,nR],fun id h=>?_,us1++us3,us4,(gq _ _ _).symm,fun ι n hn=>?_,v4⟩
  ·rcases p4.1 h with h|h
   ·exact(hle.alw _ (A1 id h)).1
   ·grind
  ·refine VRs.append ((v1 ι n hn.fst).mono hle) (v3 ι _ ?_);rw[<- l1];exact hn.snd
def qdy(E:Env)(rows:Lz Nat)(os:Lz IObj):Prop:=∀(j:Nat) (o:IObj),os[j]?=iz o->∃id,rows[j]?=iz id/\E.A id/\(o.blk=i7->E.hb id=i7)/\OR E id o
theorem zbc{c:TC}{v:IV}{id:Nat}{S':IS}{w:Nat}{u:oc}(h:rdS c S v=iz (id,S',w))(p:Pre T E S)(hw:tin T.w w)(hv:VR E v u) :
  ∃E',E'.w=E.w/\Post T E S E' S'/\Fresh E S E'/\E'.A id/\VR E' (.arr id) u:=by
 unfold rdS at h;split at h
 ·cases h;have a:E.A id:=by cases hv;assumption
  exact⟨E,rfl,Post.refl p,Fresh.refl E S,a,hv⟩
 ·split at h<;>cases h;rename_i d;obtain⟨e,g,q1,f,b⟩:=qb8 p d hw hv;have a:e.A id:=by cases b;assumption
  grind
theorem zkn{kc vc:TC}{v:IV}{id:Nat}{S':IS}{w:Nat}{u:oc}(h:rdM kc vc S v=iz (id,S',w))(p:Pre T E S)(hw:tin T.w w)(hv:VR E v u) :
  ∃E',E'.w=E.w/\Post T E S E' S'/\Fresh E S E'/\E'.A id/\VR E' (.map id) u:=by
 unfold rdM at h;split at h<;>try cases h
 split at h<;>cases h;rename_i b;obtain⟨c,f,q1,e⟩:=qng p b hw hv;have a:=hv.mono (q1.env p);have d:c.A id:=by cases a;assumption
 grind
theorem zap{ι:Nat->Nat}{all:Lz Nat}(hn:Nums ι 0 all):∀{cs:Lz IV} {is:Lz Nat},sf all cs is=i7->cs=is.map fun k=>.ptr (ι k) 0
 | [],[],_=>rfl
 | [],k::is,h=>by simp[sf] at h
 | v::cs,[],h=>by cases v<;>simp [sf] at h
 | v::cs,k::is,h=>by
  cases v<;>try (simp [sf] at h;done)
  rename_i a off;cases off with
  | succ _=>simp [sf] at h
  | zero =>
  simp only[sf,xf] at h;obtain⟨h1,h2⟩:=h;cases hk:all[k]? with
  | none=>rw[hk] at h1;cases h1
  | some b =>
   rw[hk] at h1;have e1:a=b:=xg h1;have e2:=hn k b hk;rw[x6] at e2;rw[ga,<- zap hn h2,e2,e1]
def CloP(S:IS)(ι:Nat->Nat)(l:Lz PK)(rows:Lz Nat):Prop:=vw l=i7\/∃all,Nums ι 0 all/\cloL S all l rows=i7
theorem CloP.tail{S:IS}{ι:Nat->Nat}{r:RK}{l:Lz PK}{id:Nat}{q:Lz Nat}(h:CloP S ι (.ref r::l) (id::q)):CloP S ι l q:=by
 rcases h with h|⟨a,c,b⟩
 ·simp only[vw,xf] at h;exact .inl h.2
 ·simp only[cloL,xf] at b;exact .inr ⟨a,c,b.2⟩
theorem CloP.head{S:IS}{ι:Nat->Nat}{f:Nat}{is:Lz Nat}{l:Lz PK}{id:Nat}{q:Lz Nat}(h:CloP S ι (.ref (.clo f is)::l) (id::q)):True/\S.heap.get id=iz (.row [.fn f (is.map fun k=>.ptr (ι k) 0)]):=by
 rcases h with h|⟨e,d,b⟩
 ·simp[vw] at h
 ·simp only[cloL,xf] at b;have a:=b.1;split at a
  ·rename_i g i c;simp only[xf] at a;rw[c,xg a.1,zap d a.2]
   grind
  ·grind
theorem si:∀(l:Lz PK) {E:Env} {S:IS} {vs:Lz IV} {x:ElP l} {rows subs:Lz Nat} {S':IS} {w:Nat} {us:Lz oc},rdP0 l S vs=iz (x,rows,subs,S',w)->Pre T E S->tin T.w w->VRs E vs us ->
  ∃E',E'.w=E.w/\Post T E S E' S'/\Fresh E S E'/\rows.length=mP l/\subs.length=nP l/\(∀id∈subs,E'.A id)/\(∀ρ k,Nums ρ k rows->BndP ρ l vs->VRs E' (ze l ρ k x) us)/\(∀ι n,Nums ι n subs->CloP S' ι l rows->qdy E' rows (zr l ι n x))
 | [],E,S,vs,x,rows,subs,S',w,us,h,p,hw,hv=>by
  cases vs with
  | cons v vs=>cases h
  | nil=>cases h;exact⟨E,rfl,Post.refl p,Fresh.refl E S,rfl,rfl,fun id h=>(by cases h),fun _ _ _ _=>hv,fun _ _ _ _ j o h=>(by simp[zr] at h)⟩
 | .dat c::l,E,S,vs,x,rows,subs,S',w,us,h,p,hw,hv=>by
  cases vs with
  | nil=>cases h
  | cons v vs =>
  simp only[rdP0] at h;cases hb:fitV c v with
  | false=>rw[hb] at h;cases h
  | true =>
  rw[hb,xa] at h;split at h<;>try cases h
  rename_i x1 S1 w1 h1;split at h<;>cases h;rename_i y w2 h2;obtain⟨g1,g2⟩:=zp hw;obtain⟨u,us,rfl,a1,a2⟩:=hv.inv;obtain⟨E1,e1,q1,f1,us1,us2,e2,v1,v2⟩:=tn c h1 p g1 (a1.cells (qou hb));have:us2=[]:=by have:=v2.1;simpa using this.symm
  subst this;rw[gz] at e2;rw[<- e2] at v1;have b1:=qum hb a1 v1;obtain⟨E2,e3,q2,f2,l1,l2,A2,b2,b3⟩:=si l h2 (q1.pre p) g2 (a2.mono (q1.env p));exact⟨E2,e3.trans e1,Post.trans p q1 f1 q2,f1.trans f2 q1.le,l1,l2,A2,fun ρ k hk hb=>VRs.cons (b1.mono (q2.env (q1.pre p))) (b2 ρ k hk hb.2),b3⟩
 | .fn f::l,E,S,vs,x,rows,subs,S',w,us,h,p,hw,hv=>by
  simp only[rdP0] at h;split at h<;>try cases h
  rename_i g vs;cases hb:od g f with
  | false=>rw[hb] at h;cases h
  | true =>
  rw[hb] at h;have h:rdP0 l S vs=iz (x,rows,subs,S',w):=h;obtain rfl:=xg hb;obtain⟨u,us,rfl,a1,a2⟩:=hv.inv;obtain⟨E2,e3,q2,f2,l1,l2,A2,b2,b3⟩:=si l h p hw a2;exact⟨E2,e3,q2,f2,l1,l2,A2,fun ρ k hk hb=>VRs.cons (a1.mono (q2.env p)) (b2 ρ k hk hb.2),b3⟩
 | .bnd f i::l,E,S,vs,x,rows,subs,S',w,us,h,p,hw,hv=>by
  simp only[rdP0] at h;split at h<;>try cases h
  rename_i g a vs;cases hb:od g f with
  | false=>rw[hb] at h;cases h
  | true =>
  rw[hb] at h;have h:rdP0 l S vs=iz (x,rows,subs,S',w):=h;obtain rfl:=xg hb;obtain⟨u,us,rfl,a1,a2⟩:=hv.inv;obtain⟨E2,e3,q2,f2,l1,l2,A2,b2,b3⟩:=si l h p hw a2;refine⟨E2,e3,q2,f2,l1,l2,A2,fun ρ k hk hb=>VRs.cons ?_ (b2 ρ k hk hb.2),fun ι n hn hc=>b3 ι n hn (hc.elim (fun h=>by cases h) .inr)⟩;have h1:a=ρ i:=hb.1;rw[<- h1];exact a1.mono (q2.env p)
 | .ref (.sl c)::l,E,S,vs,x,rows,subs,S',w,us,h,p,hw,hv=>by
  cases vs with
  | nil=>cases h
  | cons v vs =>
  simp only[rdP0] at h;split at h<;>try cases h
  rename_i id S1 w1 h1;split at h<;>cases h;rename_i y q1 w2 h2;obtain⟨g1,g2⟩:=zp hw;obtain⟨u,us,rfl,a1,a2⟩:=hv.inv;obtain⟨E1,e1,p1,f1,A1,v1⟩:=zbc h1 p g1 a1;have hle1:=p1.env p;obtain⟨E2,e3,p2,f2,l2,l3,A2,b2,b3⟩:=si l h2 (p1.pre p) g2 (a2.mono hle1);have hle2:=p2.env (p1.pre p);have v2:=v1.mono hle2;have hA2:E2.A id:=by cases v2;assumption
  refine⟨E2,e3.trans e1,Post.trans p p1 f1 p2,f1.trans f2 p1.le,by simp[l2,mP],by simp[l3,nP,nK],A2,fun ρ k hk hb=>?_,fun ι n hn hc j o hj=>?_⟩
  ·refine VRs.cons ?_ (b2 ρ (k+1) (fun j id' hj=>?_) hb.2)
   ·have:=hk 0 id rfl;rw[g8] at this;rw[this];exact v2
   ·have:=hk (j+1) id' (by simpa using hj)
    grind
  ·cases j with
   | zero =>
    simp only[zr,xo,pj] at hj;subst hj;exact⟨id,rfl,hA2,fun h=>(by cases h),trivial⟩
   | succ j =>
    simp only[zr,px] at hj;obtain⟨id',d1,d2,d3,d4⟩:=b3 ι _ hn hc.tail j o hj
    grind
 | .ref (.mp kc vc)::l,E,S,vs,x,rows,subs,S',w,us,h,p,hw,hv=>by
  cases vs with
  | nil=>cases h
  | cons v vs =>
  simp only[rdP0] at h;split at h<;>try cases h
  rename_i id S1 w1 h1;split at h<;>cases h;rename_i y q1 w2 h2;obtain⟨g1,g2⟩:=zp hw;obtain⟨u,us,rfl,a1,a2⟩:=hv.inv;obtain⟨E1,e1,p1,f1,A1,v1⟩:=zkn h1 p g1 a1;have hle1:=p1.env p;obtain⟨E2,e3,p2,f2,l2,l3,A2,b2,b3⟩:=si l h2 (p1.pre p) g2 (a2.mono hle1);have hle2:=p2.env (p1.pre p);have v2:=v1.mono hle2;have hA2:E2.A id:=by cases v2;assumption
  refine⟨E2,e3.trans e1,Post.trans p p1 f1 p2,f1.trans f2 p1.le,by simp[l2,mP],by simp[l3,nP,nK],A2,fun ρ k hk hb=>?_,fun ι n hn hc j o hj=>?_⟩
  ·refine VRs.cons ?_ (b2 ρ (k+1) (fun j id' hj=>?_) hb.2)
   ·have:=hk 0 id rfl;rw[g8] at this;rw[this];exact v2
   ·have:=hk (j+1) id' (by simpa using hj)
    grind
  ·cases j with
   | zero =>
    simp only[zr,xo,pj] at hj;subst hj;exact⟨id,rfl,hA2,fun h=>(by cases h),trivial⟩
   | succ j =>
    simp only[zr,px] at hj;obtain⟨id',d1,d2,d3,d4⟩:=b3 ι _ hn hc.tail j o hj
    grind
 | .ref (.box r)::l,E,S,vs,x,rows,subs,S',w,us,h,p,hw,hv=>by
  cases vs with
  | nil=>cases h
  | cons v vs =>
  cases v<;>try (cases h;done)
  rename_i id off;cases off with
  | succ _=>cases h
  | zero =>
  simp only[rdP0] at h;split at h<;>try cases h
  rename_i cs ho;split at h<;>try cases h
  rename_i x1 i1 S1 w1 h1;split at h<;>cases h;rename_i y q1 q2 w2 h2;obtain⟨g0,g3⟩:=zp hw;obtain⟨g1,g2⟩:=zp g3;have hT:=zi g0;obtain⟨u,us,rfl,a1,a2⟩:=hv.inv;have hA:E.A id:=by cases a1;assumption
  obtain⟨cells,t,k1,k2,k3,k4⟩:=p.st.objs id (T.sub _ hT) hA _ ho;have hblk:=p.st.blk id (T.sub _ hT) hA _ ho rfl;obtain⟨E1,e1,p1,f1,l1,A1,us1,us2,e2,v1,v2⟩:=q3j r h1 p g1 k4;have:us2=[]:=by have:=v2.1;simpa using this.symm
  subst this;rw[gz] at e2;have hle1:=p1.env p;obtain⟨E2,e3,p2,f2,l2,l3,A2,b2,b3⟩:=si l h2 (p1.pre p) g2 (a2.mono hle1);have hle2:=p2.env (p1.pre p);obtain⟨c1,c2,c3,c4,c5⟩:=(hle1.trans hle2).alw id hA;refine⟨E2,e3.trans e1,Post.trans p p1 f1 p2,f1.trans f2 p1.le,by simp[l2,mP],by simp[l1,l3,nP,nK],fun id' h=>?_,fun ρ k hk hb=>?_,fun ι n hn hc j o hj=>?_⟩
  ·rcases p4.1 h with h|h
   ·exact(hle2.alw _ (A1 id' h)).1
   ·grind
  ·refine VRs.cons ?_ (b2 ρ (k+1) (fun j id' hj=>?_) hb.2)
   ·have:=hk 0 id rfl;rw[g8] at this;rw[this];exact a1.mono (hle1.trans hle2)
   ·have:=hk (j+1) id' (by simpa using hj)
    grind
  ·cases j with
   | zero =>
    simp only[zr,xo,pj] at hj;subst hj;refine⟨id,rfl,c1,fun _=>c5.trans hblk,?_⟩;have hv1:=(v1 ι n hn.fst).mono hle2;have hl:(jm r ι n x1).length=cs.length:=by rw[hv1.1,<- e2,<- k4.1]
    refine⟨cells,t,by rw[c2,e3,e1];exact k1,by rw[c3];exact k2,by rw[hl];exact k3,?_⟩
    grind
   | succ j =>
    simp only[zr,px] at hj;have hn2:Nums ι (n+nK (.box r)) q2:=by show Nums ι (n+nR r) q2;rw[<- l1];exact hn.snd
    obtain⟨id',d1,d2,d3,d4⟩:=b3 ι _ hn2 hc.tail j o hj
    grind
 | .ref (.clo f is)::l,E,S,vs,x,rows,subs,S',w,us,h,p,hw,hv=>by
  cases vs with
  | nil=>cases h
  | cons v vs =>
  cases v<;>try (cases h;done)
  rename_i id off;cases off with
  | succ _=>cases h
  | zero =>
  simp only[rdP0] at h;split at h<;>try cases h
  rename_i g cs ho;split at h<;>cases h;rename_i y q1 w2 h2;obtain⟨g0,g2⟩:=zp hw;have hT:=zi g0;obtain⟨u,us,rfl,a1,a2⟩:=hv.inv;have hA:E.A id:=by cases a1;assumption
  have hblk:=p.st.blk id (T.sub _ hT) hA _ ho rfl;obtain⟨E2,e3,p2,f2,l2,l3,A2,b2,b3⟩:=si l h2 p g2 a2;have hle2:=p2.env p;obtain⟨c1,c2,c3,c4,c5⟩:=hle2.alw id hA;refine⟨E2,e3,p2,f2,by simp[l2,mP],by simp[l3,nP,nK],A2,fun ρ k hk hb=>?_,fun ι n hn hc j o hj=>?_⟩
  ·refine VRs.cons ?_ (b2 ρ (k+1) (fun j id' hj=>?_) hb.2)
   ·have:=hk 0 id rfl;rw[g8] at this;rw[this];exact a1.mono hle2
   ·have:=hk (j+1) id' (by simpa using hj)
    grind
  ·cases j with
   | zero =>
    simp only[zr,xo,pj] at hj;subst hj;obtain⟨k1,k2⟩:=hc.head;exact⟨id,rfl,c1,fun _=>c5.trans hblk,(p2.pre p).st.objs id (T.sub _ hT) c1 _ k2⟩
   | succ j =>
    simp only[zr,px] at hj;obtain⟨id',d1,d2,d3,d4⟩:=b3 ι _ hn hc.tail j o hj
    grind
theorem qdm(l:Lz PK){E:Env}{S:IS}{vs:Lz IV}{x:ElP l}{rows subs:Lz Nat}{S':IS}{w:Nat}{us:Lz oc}(h:rdP l S vs=iz (x,rows,subs,S',w))(p:Pre T E S)(hw:tin T.w w)(hv:VRs E vs us) :
  ∃E',E'.w=E.w/\Post T E S E' S'/\Fresh E S E'/\rows.length=mP l/\subs.length=nP l/\(∀id∈subs,E'.A id)/\(∀ρ k,Nums ρ k rows->vw l=i7\/Nums ρ 0 rows->VRs E' (ze l ρ k x) us)/\(∀ι n,Nums ι n subs->vw l=i7\/Nums ι 0 rows->qdy E' rows (zr l ι n x))/\okPs (mP l) l=i7:=by
 obtain⟨i,g,f,e⟩:=quc h;obtain⟨E',v,u,t,s,r,q,o,m⟩:=si l i p hw hv;exact⟨E',v,u,t,s,r,q,fun ρ k c a=>o ρ k c (a.elim qko fun h=>q26 (fun j id d=>by have:=h j id d;rwa [x6] at this) e),fun ι n b a=>m ι n b (a.imp (fun h=>h) fun h=>⟨rows,h,f⟩),g⟩
end

def qlb(k v k' v':TC)(l:Lz (El k × El v)):Oq (Lz (El k' × El v')) :=
 if h:TC.beq k k'=i7/\TC.beq v v'=i7 then iz (TC.beq_eq h.1▸TC.beq_eq h.2▸l) else i6
theorem qz8{k v k' v':TC}{l:Lz (El k × El v)}{l':Lz (El k' × El v')}(h:qlb k v k' v' l=iz l'):IObj.tmap k v l=.tmap k' v' l':=by
 unfold qlb at h
 grind
theorem q2s{c d:TC}{l:Lz (El c)}{l':Lz (El d)}(h:q3 c d l=iz l'):IObj.arr c l=.arr d l':=by
 obtain⟨rfl,rfl⟩:=kl h;rfl
def fiC:(c:CT)->Lz Nat->IS->ElC c->Oq (ElC c × Lz Nat)
 | .dat _,q,_,x=>iz (x,q)
 | .arr c,q,S,_=>match q with
  | id::q=>match S.heap.get id with
   | some (.arr c' l)=>match q3 c' c l with
    | some l'=>iz (l',q)
    | none=>i6
   | _=>i6
  | []=>i6
 | .map k v,q,S,_=>match q with
  | id::q=>match S.heap.get id with
   | some (.tmap k' v' es)=>match qlb k' v' k v es with
    | some l'=>iz (l',q)
    | none=>i6
   | _=>i6
  | []=>i6
 | .fn _,q,_,x=>iz (x,q)
def fiR:(r:Lz CT)->Lz Nat->IS->jx r->Oq (jx r × Lz Nat)
 | [],q,_,_=>iz ((),q)
 | c::cs,q,S,x=>match fiC c q S x.1 with
  | none=>i6
  | some (x1,q1)=>match fiR cs q1 S x.2 with
   | none=>i6
   | some (x2,q2)=>iz ((x1,x2),q2)
def rowB(S:IS)(id:Nat):Bool:=match S.heap.get id with
 | some (.row _)=>i7
 | _=>eb
theorem qod{S:IS}{id:Nat}(h:rowB S id=i7):∃cs,S.H id=iz (.row cs):=by
 unfold rowB at h;split at h
 ·rename_i cs a;exact⟨cs,a⟩
 ·grind
def fiS(c:TC)(id:Nat)(S:IS):Oq (Oq (Lz (El c))):=match S.heap.get id with
 | some (.arr c' l)=>match q3 c' c l with
  | some l'=>iz (iz l')
  | none=>i6
 | some .dead=>iz i6
 | _=>i6
def fiM(k v:TC)(id:Nat)(S:IS):Oq (Oq (Lz (El k × El v))):=match S.heap.get id with
 | some (.tmap k' v' l)=>match qlb k' v' k v l with
  | some l'=>iz (iz l')
  | none=>i6
 | some .dead=>iz i6
 | _=>i6
def fiP:(l:Lz PK)->Lz Nat->Lz Nat->IS->ElP l->Oq (ElP l)
 | [],_,_,_,_=>iz ()
 | .dat _::l,r,q,S,x=>match fiP l r q S x.2 with
  | some y=>iz (x.1,y)
  | none=>i6
 | .fn _::l,r,q,S,x=>fiP l r q S x
 | .bnd _ _::l,r,q,S,x=>fiP l r q S x
 | .ref (.box k)::l,r,q,S,x=>match r with
  | id::r=>cond (rowB S id) (match fiR k q S x.1 with
   | none=>i6
   | some (x1,q1)=>match fiP l r q1 S x.2 with
    | some y=>iz (x1,y)
    | none=>i6) i6
  | []=>i6
 | .ref (.sl c)::l,r,q,S,x=>match r with
  | id::r=>match fiS c id S with
   | none=>i6
   | some x1=>match fiP l r q S x.2 with
    | some y=>iz (x1,y)
    | none=>i6
  | []=>i6
 | .ref (.mp kc vc)::l,r,q,S,x=>match r with
  | id::r=>match fiM kc vc id S with
   | none=>i6
   | some x1=>match fiP l r q S x.2 with
    | some y=>iz (x1,y)
    | none=>i6
  | []=>i6
 | .ref (.clo _ _)::l,r,q,S,x=>match r with
  | id::r=>cond (rowB S id) (match fiP l r q S x.2 with
   | some y=>iz ((),y)
   | none=>i6) i6
  | []=>i6
theorem zyk{S:IS}:∀(c:CT) {q q':Lz Nat} {x x':ElC c},fiC c q S x=iz (x',q')->(∀ι n,wy c ι n x'=wy c ι n x)/\∃q1,q=q1++q'/\q1.length=nC c/\∀j:Nat,(subC c x')[j]?=(q1[j]?).bind fun id=>S.heap.get id
 | .dat c,q,q',x,x',h=>by cases h;exact⟨fun _ _=>rfl,[],rfl,rfl,fun j=>by simp[subC]⟩
 | .arr c,q,q',x,x',h=>by
  cases q with
  | nil=>cases h
  | cons id q =>
  simp only[fiC] at h;split at h<;>try cases h
  rename_i c' l ho;split at h<;>cases h;rename_i hl;refine⟨fun _ _=>rfl,[id],rfl,rfl,fun j=>?_⟩;cases j with
  | zero=>simp only[subC,xo,ja9,ho,q2s hl]
  | succ j=>simp [subC]
 | .map k v,q,q',x,x',h=>by
  cases q with
  | nil=>cases h
  | cons id q =>
  simp only[fiC] at h;split at h<;>try cases h
  rename_i k' v' es ho;split at h<;>cases h;rename_i hl;refine⟨fun _ _=>rfl,[id],rfl,rfl,fun j=>?_⟩;cases j with
  | zero=>simp only[subC,xo,ja9,ho,qz8 hl]
  | succ j=>simp [subC]
 | .fn _,q,q',x,x',h=>by cases h;exact⟨fun _ _=>rfl,[],rfl,rfl,fun j=>by simp[subC]⟩
theorem qwa{α β:Type}{f:α->Oq β}{a1 a2:Lz β}{q1 q2:Lz α}(hl:a1.length=q1.length)(h1:∀j:Nat,a1[j]?=(q1[j]?).bind f)(h2:∀j:Nat,a2[j]?=(q2[j]?).bind f)(j:Nat) :
  (a1++a2)[j]?=((q1++q2)[j]?).bind f:=by
 grind
theorem q4d{S:IS}:∀(c:Lz CT) {q q':Lz Nat} {x x':jx c},fiR c q S x=iz (x',q')->(∀ι n,jm c ι n x'=jm c ι n x)/\∃q1,q=q1++q'/\q1.length=nR c/\∀j:Nat,(subR c x')[j]?=(q1[j]?).bind fun id=>S.heap.get id
 | [],q,q',x,x',h=>by cases h;exact⟨fun _ _=>rfl,[],rfl,rfl,fun j=>by simp[subR]⟩
 | c::cs,q,q',x,x',h=>by
  simp only[fiR] at h;split at h
  ·grind
  rename_i x1 q1 h1;split at h<;>cases h;rename_i x2 h2;obtain⟨a1,p1,rfl,a2,a3⟩:=zyk c h1;obtain⟨b1,p2,rfl,b2,b3⟩:=q4d cs h2;refine⟨fun ι n=>by simp only[jm,a1,b1],p1++p2,(gq _ _ _).symm,by simp[a2,b2,nR],fun j=>?_⟩;exact qwa (by rw[qdu,a2]) a3 b3 j
theorem zb4{c:TC}{id:Nat}{S:IS}{x:Oq (Lz (El c))}(h:fiS c id S=iz x)(ι:Nat->Nat)(n:Nat):S.heap.get id=iz (objK (.sl c) ι n x):=by
 unfold fiS at h;split at h<;>try cases h
 ·rename_i e l a;split at h<;>cases h;rename_i d b;rw[a];exact xy iz (q2s b)
 ·rename_i a;exact a
theorem zul{k v:TC}{id:Nat}{S:IS}{x:Oq (Lz (El k × El v))}(h:fiM k v id S=iz x)(ι:Nat->Nat)(n:Nat):S.heap.get id=iz (objK (.mp k v) ι n x):=by
 unfold fiM at h;split at h<;>try cases h
 ·rename_i e c l a;split at h<;>cases h;rename_i d b;rw[a];exact xy iz (qz8 b)
 ·rename_i a;exact a
theorem vq{S:IS}:∀(l:Lz PK) {r q:Lz Nat} {x x':ElP l},fiP l r q S x=iz x'->q.length=nP l ->
  (∀(ι:Nat->Nat) (n j:Nat) (o:IObj),(zr l ι n x')[j]?=iz o->∃id,r[j]?=iz id/\(((zr l ι n x)[j]?=iz o/\rowB S id=i7)\/S.heap.get id=iz o))/\(∀ρ k,ze l ρ k x'=ze l ρ k x)/\∀j:Nat,(jp l x')[j]?=(q[j]?).bind fun id=>S.heap.get id
 | [],r,q,x,x',h,hl=>by
  cases h;have:q=[]:=by simpa [nP] using hl
  subst this;exact⟨fun _ _ j o hj=>by simp[zr] at hj,fun _ _=>rfl,fun j=>by simp[jp]⟩
 | .dat _::l,r,q,x,x',h,hl=>by
  simp only[fiP] at h;split at h<;>cases h;rename_i y h1;obtain⟨a1,a2,a3⟩:=vq l h1 hl;exact⟨fun ι n=>a1 ι n,fun ρ k=>by simp only[ze,a2],a3⟩
 | .fn f::l,r,q,x,x',h,hl=>by
  obtain⟨a1,a2,a3⟩:=vq l h hl;exact⟨fun ι n=>a1 ι n,fun ρ k=>xy (fun q=>IV.fn f []::q) (a2 ρ k),a3⟩
 | .bnd f i::l,r,q,x,x',h,hl=>by
  obtain⟨a1,a2,a3⟩:=vq l h hl;exact⟨fun ι n=>a1 ι n,fun ρ k=>xy (fun q=>IV.bfn f [.ptr (ρ i) 0]::q) (a2 ρ k),a3⟩
 | .ref (.box k)::l,r,q,x,x',h,hl=>by
  cases r with
  | nil=>cases h
  | cons id r =>
  simp only[fiP] at h;cases hb:rowB S id with
  | false=>rw[hb] at h;cases h
  | true =>
  rw[hb,xa] at h;split at h
  ·grind
  rename_i x1 q1 h1;split at h<;>cases h;rename_i y h2;obtain⟨a1,p1,rfl,a2,a3⟩:=q4d k h1;obtain⟨b1,b2,b3⟩:=vq l h2 (by simp only[xp,nP,nK] at hl;omega);refine⟨fun ι n j o hj=>?_,fun ρ k=>by simp only[ze,b2],fun j=>?_⟩
  ·cases j with
   | zero =>
    simp only[zr,xo,pj] at hj;refine⟨id,rfl,.inl ⟨?_,hb⟩⟩;rw[<- hj];simp only[zr,xo,objK,a1]
   | succ j=>exact b1 ι _ j o hj
  ·exact qwa ((qkg k x1).trans a2.symm) a3 b3 j
 | .ref (.sl c)::l,r,q,x,x',h,hl=>by
  cases r with
  | nil=>cases h
  | cons id r =>
  simp only[fiP] at h;split at h
  ·grind
  rename_i x1 h1;split at h<;>cases h;rename_i y h2;obtain⟨b1,b2,b3⟩:=vq l h2 (by simpa only [nP,nK,x6] using hl);refine⟨fun ι n j o hj=>?_,fun ρ k=>by simp only[ze,b2],b3⟩;cases j with
  | zero =>
   simp only[zr,xo,pj] at hj;exact⟨id,rfl,.inr (by rw[<- hj];exact zb4 h1 ι n)⟩
  | succ j=>exact b1 ι _ j o hj
 | .ref (.mp kc vc)::l,r,q,x,x',h,hl=>by
  cases r with
  | nil=>cases h
  | cons id r =>
  simp only[fiP] at h;split at h
  ·grind
  rename_i x1 h1;split at h<;>cases h;rename_i y h2;obtain⟨b1,b2,b3⟩:=vq l h2 (by simpa only [nP,nK,x6] using hl);refine⟨fun ι n j o hj=>?_,fun ρ k=>by simp only[ze,b2],b3⟩;cases j with
  | zero =>
   simp only[zr,xo,pj] at hj;exact⟨id,rfl,.inr (by rw[<- hj];exact zul h1 ι n)⟩
  | succ j=>exact b1 ι _ j o hj
 | .ref (.clo f is)::l,r,q,x,x',h,hl=>by
  cases r with
  | nil=>cases h
  | cons id r =>
  simp only[fiP] at h;cases hb:rowB S id with
  | false=>rw[hb] at h;cases h
  | true =>
  rw[hb,xa] at h;split at h<;>cases h;rename_i y h2;obtain⟨b1,b2,b3⟩:=vq l h2 (by simpa only [nP,nK,x6] using hl);refine⟨fun ι n j o hj=>?_,fun ρ k=>by simp only[ze,b2],b3⟩;cases j with
  | zero =>
   simp only[zr,xo,pj] at hj;exact⟨id,rfl,.inl ⟨by rw[<- hj];rfl,hb⟩⟩
  | succ j=>exact b1 ι _ j o hj
def ze8(E:Env)(S:IS)(rows:Lz Nat)(os:Lz IObj):Prop:=∀(j:Nat) (o:IObj),os[j]?=iz o->∃id,rows[j]?=iz id/\E.A id/\(o.blk=i7->E.hb id=i7)/\OR E id o/\(o.live=i7->∃o0,S.H id=iz o0/\o0.live=i7)
theorem qik{T:TW}{E:Env}{S:IS}{l:Lz PK}{rows q:Lz Nat}{x x':ElP l}(h:fiP l rows q S x=iz x')(hl:q.length=nP l)(p:Pre T E S)(hT:∀id∈rows,T.r id){ι:Nat->Nat}{n:Nat}
  (hr:qdy E rows (zr l ι n x)):ze8 E S rows (zr l ι n x'):=fun j o i=>by
 obtain⟨id,d,d2⟩:=(vq l h hl).1 ι n j o i;rcases d2 with ⟨d2,t⟩|d2
 ·obtain⟨e,c,b,m,k⟩:=hr j o d2;rw[d] at c;cases c;obtain⟨u,g⟩:=qod t;exact⟨id,d,b,m,k,fun _=>⟨_,g,rfl⟩⟩
 ·have f:j<(zr l ι n x).length:=by
   have:=(x9.1 i).1;rw[qe] at this ⊢;exact this
  obtain⟨e,c,b,m,k⟩:=hr j _ (xc f);rw[d] at c;cases c;have a:=hT id (p7 d);exact⟨id,d,b,fun s=>p.st.blk id a b o d2 s,p.st.objs id a b o d2,fun hl=>⟨o,d2,hl⟩⟩
end Go.Jx
end

noncomputable section
namespace Go.Jx
open Go Go.Sx Go.RowKit
universe u

structure SmR where
 ps:List PK
 rts:List (Bool × TC)
 f:ElP ps->Option (ElR rts × ElP (refs ps))
def RetB(B:Nat)(T:TW)(E:Env)(S:IS)(r:Res):aw->oh->Prop:=fun e w'=>∃u E',e=.returned u/\E'.w=w'/\VR E' r.v u/\PostB B T E S E' r.S
def newO(s:SmR)(y:ElR s.rts)(z:ElP (refs s.ps)):Lz IObj:=jp (refs s.ps) z++resO s.rts y
def ScB(s:SmR)(y:ElR s.rts)(z:ElP (refs s.ps)):IS:=addO (zr (refs s.ps) idN (mP s.ps) z++newO s y z) S0
def vB(s:SmR)(base:Nat)(y:ElR s.rts):IV:=tupI (resV s.rts (base+nP (refs s.ps)) y)
structure ConR (P:om) (f:Nat) (s:SmR):Prop where
 callable:zg P f
 calls:∀(E:Env) (x:ElP s.ps) (us:List oc) (y:ElR s.rts) (z:ElP (refs s.ps)),s.f x=iz (y,z)->Pre T0 E (Sc s.ps x)->VRs E (ze s.ps idN 0 x) us ->
  mf ox 0 P f us.toArray E.w (RetB (mP s.ps) T0 E (Sc s.ps x) ⟨vB s (mP s.ps) y,ScB s y z,0,0⟩)
theorem qb0{N:Nat}:∀l:Lz PK,okPs N l=i7->okPs N (refs l)=i7
 | [],_=>rfl
 | .dat _::l,h=>qb0 l h
 | .fn _::l,h=>qb0 l h
 | .bnd _ _::l,h=>qb0 l (by simp only[okPs,xf] at h;exact h.2)
 | .ref _::l,h=>by simp only[refs,okPs,xf] at h ⊢;exact⟨h.1,qb0 l h.2⟩
def nuB(rows:Lz Nat)(m n k:Nat):Nat:=if k<m then rows.getD k 0 else n+(k-m)
theorem q5y{rows:Lz Nat}{m n k:Nat}(h:m<=k):nuB rows m n k=n+(k-m):=xr (by omega)
theorem q6o{rows:Lz Nat}{m n k id:Nat}(h:k<m)(hr:rows[k]?=iz id):nuB rows m n k=id:=by
 unfold nuB;rw[xx h,xn,hr];rfl
theorem q7:∀l:Lz PK,mP (refs l)=mP l
 | []=>rfl
 | .dat _::l=>q7 l
 | .fn _::l=>q7 l
 | .bnd _ _::l=>q7 l
 | .ref _::l=>by simp only[refs,mP,q7 l]
def qn:Lz Nat->Nat
 | []=>0
 | id::l=>2 ^ id ||| qn l
theorem qmu{T:Nat->Prop}:∀{l:Lz Nat},tin T (qn l)->∀id∈l,T id
 | [],_,id,h=>by cases h
 | i::l,ht,id,h=>by
  obtain⟨h1,h2⟩:=zp ht;rcases po.1 h with h|h
  ·rw[h];exact zi h1
  ·exact qmu h2 id h
theorem qin:∀{l:Lz Nat} {id:Nat},id∈l->(qn l).testBit id=i7
 | [],id,h=>by cases h
 | i::l,id,h=>by
  simp only[qn,dq,jbi];rcases po.1 h with h|h
  ·grind
  ·exact .inr (qin h)
def ud:Lz Nat->IS->IS
 | [],S=>S
 | id::l,S=>ud l (S.set id .dead)
def setL:Lz Nat->Lz IObj->IS->IS
 | id::l,o::os,S=>setL l os (S.set id o)
 | _,_,S=>S
theorem qm5:∀(l:Lz Nat) (S:IS),(ud l S).next=S.next
 | [],S=>rfl
 | id::l,S=>qm5 l _
theorem qh5:∀(l:Lz Nat) (os:Lz IObj) (S:IS),(setL l os S).next=S.next
 | [],os,S=>rfl
 | _::_,[],S=>rfl
 | id::l,o::os,S=>qh5 l os _
theorem qdv:∀{l:Lz Nat} {S:IS} {k:Nat},k ∉ l->(ud l S).H k=S.H k
 | [],S,k,h=>rfl
 | id::l,S,k,h=>by
  simp only[po,not_or] at h;unfold ud;rw[qdv h.2,IS.H_set,up_ne _ _ h.1]
theorem qro:∀{l:Lz Nat} {S:IS} {k:Nat},k∈l->(ud l S).H k=iz .dead
 | [],S,k,h=>by cases h
 | id::l,S,k,h=>by
  unfold ud;by_cases hk:k∈l
  ·exact qro hk
  ·rw[qdv hk,IS.H_set];rcases po.1 h with h|h
   ·rw[h,zj]
   ·grind
theorem s6:∀{l:Lz Nat} {os:Lz IObj} {S:IS} {k:Nat},k ∉ l->(setL l os S).H k=S.H k
 | [],os,S,k,h=>rfl
 | _::_,[],S,k,h=>rfl
 | id::l,o::os,S,k,h=>by
  simp only[po,not_or] at h;unfold setL;rw[s6 h.2,IS.H_set,up_ne _ _ h.1]
theorem qsj:∀{l:Lz Nat} {os:Lz IObj} {S:IS} {j k:Nat},l.Nodup->os.length=l.length->l[j]?=iz k->(setL l os S).H k=os[j]?
 | [],os,S,j,k,hn,hl,h=>by simp at h
 | _::_,[],S,j,k,hn,hl,h=>by simp at hl
 | id::l,o::os,S,j,k,hn,hl,h=>by
  obtain⟨h1,h2⟩:=jbj.1 hn;unfold setL;cases j with
  | zero =>
   simp only[xo,pj] at h;subst h;rw[s6 h1,IS.H_set,zj];rfl
  | succ j =>
   rw[px] at h ⊢;exact qsj h2 (by simpa using hl) h
def jd(s:SmR)(n:Nat)(rows subs:Lz Nat)(y:ElR s.rts)(z:ElP (refs s.ps))(S:IS):IS :=
 addO (newO s y z) (setL rows (zr (refs s.ps) (nuB rows (mP s.ps) n) (mP s.ps) z) (ud subs S))
def exR(s:SmR)(vs:Lz IV)(S:IS):Oq Res :=
 match rdP s.ps S vs with
 | none=>i6
 | some (x0,rows,subs,S1,w)=>cond (ndB (rows++subs)) (match fiP s.ps rows subs S1 x0 with
  | none=>i6
  | some x=>match s.f x with
   | none=>i6
   | some (y,z)=>iz ⟨vB s S1.next y,jd s S1.next rows subs y z S1,0,(w ||| qn (rows++subs)) ||| cond (oo 0 rows.length) 0 (2 ^ S1.next)⟩) i6
theorem qkp:∀(l:Lz PK) (x:ElP l) (o:IObj),o∈jp l x->datO o=i7:=by
 have a:∀(r:Lz CT) (x:jx r) (o:IObj),o∈subR r x->datO o=i7:=by
  intro r;induction r with
  | nil=>intro x o h;cases h
  | cons c cs ih =>
   intro x o h;rcases p4.1 h with h|h
   ·cases c with
    | dat c=>cases h
    | arr c=>rw[gn.1 h];rfl
    | map k v=>rw[gn.1 h];rfl
    | fn f=>cases h
   ·grind
 intro l;induction l with
 | nil=>intro x o h;cases h
 | cons p l ih =>
  intro x o h;cases p with
  | dat c=>exact ih x.2 o h
  | fn f=>exact ih x o h
  | bnd f i=>exact ih x o h
  | ref r =>
   rcases p4.1 h with h|h
   ·cases r with
    | box r=>exact a r x.1 o h
    | sl c=>cases h
    | mp k v=>cases h
    | clo f is=>cases h
   ·grind
theorem qo3{s:SmR}{y:ElR s.rts}{z:ElP (refs s.ps)}{o:IObj}(h:o∈newO s y z):datO o=i7:=by
 rcases p4.1 h with h|h
 ·exact qkp _ _ o h
 ·obtain⟨c,l,rfl⟩:=qf3 _ _ _ h;rfl
theorem quq{E E':Env}(hm:∀b,b∈E'.m->b∈E.m)(hw:E'.w=E.w):∀(cs:Lz (Bool × TC)) {k k':Nat} {y:ElR cs} {us:Lz oc},(∀j,js E E' (k+j) (k'+j))->VRs E (resV cs k y) us->VRs E' (resV cs k' y) us
 | [],k,k',y,us,hn,h=>by have:=h.1;cases us with|nil=>exact VRs.nil|cons _ _=>simp [resV] at this
 | (i7,c)::cs,k,k',y,us,hn,h=>by
  obtain⟨u,us,rfl,a1,a2⟩:=VRs.inv (v:=.arr k) (cs:=resV cs (k+1) y.2) h;refine VRs.cons ?_ (quq hm hw cs (fun j=>?_) a2)
  ·cases a1 with
   | arr hA hh =>
    obtain⟨b1,b2,b3,b4,b5⟩:=hn 0 hA;exact .arr b1 (b4.trans hh)
  ·have:=hn (j+1)
   grind
 | (eb,c)::cs,k,k',y,us,hn,h=>by
  obtain⟨u,us,rfl,a1,a2⟩:=VRs.inv (v:=asIV c y.1) (cs:=resV cs k y.2) h;exact VRs.cons (na hm hw a1) (quq hm hw cs hn a2)
theorem qfm:∀(cs:Lz (Bool × TC)) (i:Nat) (y:ElR cs),(resV cs i y).length=cs.length
 | [],_,_=>rfl
 | (i7,_)::cs,i,y=>by simp only[resV,xw,qfm cs]
 | (eb,_)::cs,i,y=>by simp only[resV,xw,qfm cs]
theorem zxr{E E':Env}{vs ws:Lz IV}{u:oc}(h:∀us,VRs E vs us->VRs E' ws us)(hl:vs.length=ws.length)(hu:VR E (tupI vs) u):VR E' (tupI ws) u:=by
 match vs,ws,hl with
 | [],[],_ =>
  cases hu with
  | tup hl hh=>have:=h _ ⟨hl,hh⟩;exact .tup this.1 this.2
 | [v],[w],_ =>
  have:=h [u] (VRs.cons hu VRs.nil);exact this.2 0 (by simp) (by simp)
 | v1::v2::vs,w1::w2::ws,_ =>
  cases hu with
  | tup hl hh=>have:=h _ ⟨hl,hh⟩;exact .tup this.1 this.2
section
variable {P : om} {T : TW} {E : Env} {S : IS}
theorem q0g{f:Nat}{s:SmR}(hc:ConR P f s){vs:Lz IV}{r:Res}(h:exR s vs S=iz r){us:Lz oc}(p:Pre T E S)(hwr:tin T.w r.wr)(hv:VRs E vs us) :
  zg P f/\mf ox 0 P f us.toArray E.w (RetE T E S r):=by
 refine⟨hc.callable,?_⟩;unfold exR at h;split at h
 ·grind
 rename_i x0 c g t w hrd;cases θ:ndB (c++g) with
 | false=>rw[θ] at h;cases h
 | true =>
 rw[θ,xa] at h;split at h
 ·grind
 rename_i x hfi;split at h
 ·grind
 rename_i y z hf;cases h;obtain⟨g1,g2⟩:=zp (zp hwr).1;obtain⟨d,e1,q1,f1,l1,l2,A2,b2,b3,hok⟩:=qdm s.ps hrd p g1 hv;have φ:=q1.pre p;obtain⟨_,c2,c3⟩:=vq s.ps hfi l2;have F:=qc6 θ;have χ:=qmu g2;generalize R:c++g=q at F χ;have hql:q.length=mP s.ps+nP s.ps:=by rw[<- R,xp,l1,l2]
 have I:Nums (ol 0 q) 0 q:=fun j l hj=>by
  rw[x6];unfold ol;rw[xr (by omega),rz,xn,hj];rfl
 have U:Nums (ol 0 q) 0 c:=by rw[<- R] at I ⊢;exact I.fst
 have hns:Nums (ol 0 q) (mP s.ps) g:=by
  have:=I;rw[<- R] at this;have:=this.snd
  grind
 have hTr:∀l∈c,T.r l:=fun l hid=>T.sub _ (χ l (by rw[<- R];exact ge _ hid));have δ:=qik hfi l2 φ hTr (b3 _ _ hns (.inr U));have hrk:∀k,k<mP s.ps->c[k]?=iz (ol 0 q k):=fun k v=>by
  have G:k<c.length:=by omega
  rw[xc G,<- U k _ (xc G),x6]
 have ω:∀k,mP s.ps<=k->k<q.length->g[k-mP s.ps]?=iz (ol 0 q k):=fun k G ν=>by
  have h3:k-mP s.ps<g.length:=by omega
  rw[xc h3,<- hns _ _ (xc h3),jb4 G]
 have K:∀k,k<mP s.ps->∃r Q X,(∀ι,(zr s.ps ι (mP s.ps) x)[k]?=iz (objK r ι Q X))/\mP s.ps<=Q/\Q+nK r<=q.length/\d.A (ol 0 q k)/\((objK r (ol 0 q) Q X).blk=i7->d.hb (ol 0 q k)=i7)/\OR d (ol 0 q k) (objK r (ol 0 q) Q X)/\((objK r (ol 0 q) Q X).live=i7->∃o0,t.H (ol 0 q k)=iz o0/\o0.live=i7)/\∀k'∈isK r,k'<mP s.ps:=fun k v=>by
  have G:k<(zr s.ps (ol 0 q) (mP s.ps) x).length:=by rw[qe];exact v
  obtain⟨r,Q,X,d1,d2,d3,d4,ψ⟩:=um s.ps (ol 0 q) (mP s.ps) x k _ (xc G);obtain⟨l,i1,i2,i3,i4,i5⟩:=δ k _ (d4 (ol 0 q))
  grind
 have W:∀l∈q,d.A l:=fun l hid=>by
  rw[<- R] at hid;rcases p4.1 hid with hid|hid
  ·obtain⟨k,v,rfl⟩:=db.1 hid
   grind
  ·grind
 have C:∀k,k<q.length->js d (renE 0 q d) (ol 0 q k) k:=fun k v W=>⟨⟨by omega,W⟩,rfl,rfl,rfl,rfl⟩;have Y:∀k o,k<q.length->d.A (ol 0 q k)->(Sc s.ps x).H k=iz o->ObjTo d t (renE 0 q d) (ol 0 q k) k o:=fun k o v B i=>by
  unfold Sc at i;rw[sw] at i;by_cases hkm:k<mP s.ps
  ·rw[pa (by rw[qe];exact hkm)] at i;obtain⟨r,Q,X,d1,d2,d3,d4,ψ,d6,d7,d8⟩:=K k hkm;rw[d1 idN] at i;cases i;exact⟨OR.objK_to (E:=d) (E':=renE 0 q d) (fun _ h=>h) rfl B (C k v) (fun j a b=>C j (by omega)) (fun j hj=>C j (by have:=d8 j hj;omega)) d6,fun ε=>d7 (qfp.trans ε),fun hb=>ψ (qbe.trans hb)⟩
  ·rw[pg (by rw[qe];omega),qe] at i;have hd:=qkp _ _ _ (p7 i);rw[c3,ω k (by omega) v] at i;have hid:=(q8 v).1;exact⟨OR.dat_to (E:=d) (E':=renE 0 q d) (fun _ h=>h) rfl B (C k v) hd (φ.st.objs _ (T.sub _ (χ _ hid)) B _ i),fun ε=>⟨_,i,ε⟩,fun η=>φ.st.blk _ (T.sub _ (χ _ hid)) B _ i η⟩
 have hpre:Pre T0 (renE 0 q d) (Sc s.ps x):=Pre.re φ F (fun l h=>T.sub _ (χ l h)) (by rw[qau,hql]) Y;have μ:VRs (renE 0 q d) (ze s.ps idN 0 x) us:=argsP_env (E:=d) (E':=renE 0 q d) (ρ:=ol 0 q) (fun _ h=>h) rfl s.ps hok (dk (x6 _)) (fun j a=>C j (by omega)) (by rw[c2];exact b2 _ _ U (.inr U));have N:=hc.calls _ x us y z hf hpre μ;rw[show (renE 0 q d).w=E.w from e1] at N;refine N.mono fun e w' hR=>?_;obtain⟨u,Er,rfl,rfl,k1,γ⟩:=hR;have J:∀l,l∈q->l<t.next:=fun l h=>φ.bnd l (W l h)
 have hsb:∀k,k<q.length->Live (renE 0 q d) (Sc s.ps x).H k->Live d t.H (ol 0 q k):=fun k v ⟨h0,o,G,ν⟩=>⟨h0,(Y k o v (W _ (q8 v).1) G).live ν⟩;have O:(setL c (zr (refs s.ps) (nuB c (mP s.ps) t.next) (mP s.ps) z) (ud g t)).next=t.next:=by rw[qh5,qm5]
 have hndr:c.Nodup:=by rw[<- R] at F;exact(dr.1 F).1
 have hrs:∀l,l∈c->l ∉ g:=fun l G ν=>by
  rw[<- R] at F;exact(dr.1 F).2.2 l G l ν rfl
 have α:∀k,(ScB s y z).H k=(zr (refs s.ps) idN (mP s.ps) z++newO s y z)[k]?:=fun k=>sw _ k;have hEA:∀k,k<mP s.ps->Er.A k/\Er.ρ k=d.ρ (ol 0 q k)/\Er.κ k=d.κ (ol 0 q k)/\Er.hd k=d.hd (ol 0 q k)/\Er.hb k=d.hb (ol 0 q k):=fun k v=>by
  obtain⟨a1,a2,a3,a4,a5⟩:=γ.alw k v ⟨by omega,W _ (q8 (by omega)).1⟩;exact⟨a1,a2,a3,a4,a5⟩
 obtain⟨m1,m2⟩:=q16 (n:=t.next) (m:=mP s.ps) (S':=jd s t.next c g y z t) φ F χ W (by omega) rfl hsb γ (by
   unfold jd ScB;rw[wc,wc,O,xp,qe,q7];have:S0.next=0:=rfl
   omega) (fun l hid I=>by
   unfold jd;rw[kf,O,xx hid,s6 (fun h=>I (by rw[<- R];exact ge _ h)),qdv (fun h=>I (by rw[<- R];exact gg _ h))]) (fun k o v i=>by
   unfold jd at i;have M:=(q8 (q:=q) (k:=k) (by omega)).1;rw[kf,O,xx (J _ M),qsj hndr (by rw[qe,q7,l1]) (hrk k v)] at i;obtain⟨r,Q,X,rfl,d2,d3,d4,ψ⟩:=um _ _ _ _ _ _ i;have ψ:=ψ (mP s.ps) (qb0 _ hok);have D:(ScB s y z).H k=iz (objK r idN Q X):=by
    rw[α,pa (by rw[qe,q7];exact v)];exact d4 idN
   obtain⟨a1,a2,a3,a4,a5⟩:=hEA k v;obtain⟨o1,o2,o3,o4⟩:=kv (E:=d) (Er:=Er) (n:=t.next) (m:=mP s.ps) (J _ M);obtain⟨_,_,_,_,_,_,i2,_⟩:=K k v;exact⟨OR.objK_to (E:=Er) (E':=mrgR d Er t.next (mP s.ps)) (fun _ h=>h) rfl a1 (fun _=>⟨.inl ⟨J _ M,i2⟩,o1.trans a2.symm,o2.trans a3.symm,o3.trans a4.symm,o4.trans a5.symm⟩) (fun j a b V=>by
    obtain⟨υ,τ,σ,β,ξ⟩:=qdd (E:=d) (Er:=Er) (n:=t.next) (m:=mP s.ps) (k:=j) (by omega);rw[q5y (by omega)];exact⟨ξ V,υ,τ,σ,β⟩) (fun j hj V=>by
    have ζ:=ψ j hj;obtain⟨a1',a2',a3',a4',a5'⟩:=hEA j ζ;have L:=(q8 (q:=q) (k:=j) (by omega)).1;obtain⟨o1',o2',o3',o4'⟩:=kv (E:=d) (Er:=Er) (n:=t.next) (m:=mP s.ps) (J _ L);rw[q6o ζ (hrk j ζ)];exact⟨.inl ⟨J _ L,W _ L⟩,o1'.trans a2'.symm,o2'.trans a3'.symm,o3'.trans a4'.symm,o4'.trans a5'.symm⟩) (γ.st.objs k trivial a1 _ D),fun ε=>⟨_,D,qfp.trans ε⟩,fun hb=>(o4.trans a5.symm).trans (γ.st.blk k trivial a1 _ D (qbe.trans hb))⟩) (fun k o G ν i=>by
   unfold jd at i;have M:=(q8 (q:=q) (k:=k) ν).1;have Z:=p7 (ω k G ν);rw[kf,O,xx (J _ M),s6 (fun h=>hrs _ h Z),qro Z] at i;cases i;rfl) (fun k o G B i=>by
   unfold jd at i;have hkb:=γ.bnd k B;unfold ScB at hkb;rw[wc,xp,qe,q7] at hkb;have e0:S0.next=0:=rfl
   rw[kf,O,xr (by omega),xx (by omega),ph] at i;have hd:=qo3 (p7 i);have D:(ScB s y z).H k=iz o:=by
    rw[α,pg (by rw[qe,q7];exact G),qe,q7];exact i
   obtain⟨υ,τ,σ,β,ξ⟩:=qdd (E:=d) (Er:=Er) (n:=t.next) (m:=mP s.ps) (k:=k) G;exact⟨OR.dat_to (E:=Er) (E':=mrgR d Er t.next (mP s.ps)) (fun _ h=>h) rfl B (fun W=>⟨ξ W,υ,τ,σ,β⟩) hd (γ.st.objs k trivial B _ D),fun ε=>⟨_,D,ε⟩,fun η=>β.trans (γ.st.blk k trivial B _ D η)⟩)
 refine⟨u,mrgR d Er t.next (mP s.ps),rfl,rfl,?_,Post.trans p q1 f1 m1,f1.trans m2 q1.le⟩;refine zxr (E:=Er) (E':=mrgR d Er t.next (mP s.ps)) (fun us h=>quq (E:=Er) (E':=mrgR d Er t.next (mP s.ps)) (fun _ h=>h) rfl s.rts (fun j V=>?_) h) (by rw[qfm,qfm]) k1;obtain⟨υ,τ,σ,β,ξ⟩:=qdd (E:=d) (Er:=Er) (n:=t.next) (m:=mP s.ps) (k:=mP s.ps+nP (refs s.ps)+j) (by omega);have e:t.next+(mP s.ps+nP (refs s.ps)+j-mP s.ps)=t.next+nP (refs s.ps)+j:=by omega
 rw[e] at υ τ σ β ξ;exact⟨ξ V,υ,τ,σ,β⟩
end
end Go.Jx
end

noncomputable section
namespace Go.Jx
open Go Go.Sx Go.RowKit
universe u

def exRK{R:Type}(s:SmR)(vs:Lz IV)(S:IS)(kk:Res->Oq R):Oq R :=
 match rdP s.ps S vs with
 | none=>i6
 | some (x0,rows,subs,S1,w)=>cond (ndB (rows++subs)) (match fiP s.ps rows subs S1 x0 with
  | none=>i6
  | some x=>match s.f x with
   | none=>i6
   | some (y,z)=>kk ⟨vB s S1.next y,jd s S1.next rows subs y z S1,0,(w ||| qn (rows++subs)) ||| cond (oo 0 rows.length) 0 (2 ^ S1.next)⟩) i6
theorem zw1{R:Type}(s:SmR)(vs:Lz IV)(S:IS)(kk:Res->Oq R):exRK s vs S kk=ob (exR s vs S) kk:=by
 simp only[exRK,exR];cases rdP s.ps S vs with
 | none=>rfl
 | some q =>
  obtain⟨c,b,a,d,w⟩:=q;simp only[qp];cases fiP s.ps b a d c with
  | none=>rfl
  | some x =>
   simp only;cases s.f x with
   | none=>rfl
   | some q=>rfl
def hxR(s:SmR):Hx:=⟨fun _ vs S=>exR s vs S,fun _ _ vs S kk=>exRK s vs S kk,fun _ _ _ _ vs S kk=>zw1 s vs S kk⟩
theorem zrh{S S':IS}:∀(c:CT) {cs:Lz IV} {x:ElC c} {ids:Lz Nat} {r:Lz IV} {w:Nat},rdC c S cs=iz (x,ids,r,S',w)->FrX S S' w
 | .dat c,cs,x,ids,r,w,h=>by
  simp only[rdC] at h;split at h<;>cases h;rename_i h1;obtain⟨a1,a2⟩:=qan c _ _ _ _ _ _ h1;exact⟨dk a1.symm,fun id _ hb=>a2 id hb⟩
 | .arr c,cs,x,ids,r,w,h=>by
  cases cs with
  | nil=>cases h
  | cons v cs =>
  simp only[rdC] at h;split at h<;>cases h;rename_i h1;exact qnc h1
 | .map k v,cs,x,ids,r,w,h=>by
  cases cs with
  | nil=>cases h
  | cons u cs =>
  cases u<;>try (cases h;done)
  simp only[rdC] at h;split at h<;>cases h;rename_i h1;exact qjx h1
 | .fn f,cs,x,ids,r,w,h=>by
  simp only[rdC] at h;split at h<;>try cases h
  rename_i g cs;cases hb:od g f with
  | false=>rw[hb] at h;cases h
  | true =>
  rw[hb] at h;cases h;exact FrX.refl _ _
theorem q1j:∀(c:Lz CT) {S S':IS} {cs:Lz IV} {x:jx c} {ids:Lz Nat} {r:Lz IV} {w:Nat},rdR c S cs=iz (x,ids,r,S',w)->FrX S S' w
 | [],S,S',cs,x,ids,r,w,h=>by cases h;exact FrX.refl _ _
 | c::l,S,S',cs,x,ids,r,w,h=>by
  simp only[rdR] at h;split at h
  ·grind
  rename_i h1;split at h<;>cases h;rename_i h2;exact(zrh c h1).trans (q1j l h2)
theorem zlb{S S':IS}{c:TC}{v:IV}{id w:Nat}(h:rdS c S v=iz (id,S',w)):FrX S S' w:=by
 unfold rdS at h;split at h
 ·cases h;exact FrX.refl _ _
 ·split at h<;>cases h;rename_i a;exact qnc a
theorem zf8{kc vc:TC}{S S':IS}{v:IV}{id w:Nat}(h:rdM kc vc S v=iz (id,S',w)):FrX S S' w:=by
 unfold rdM at h;split at h<;>try cases h
 split at h<;>cases h;rename_i a;exact qjx a
theorem sj:∀(l:Lz PK) {S S':IS} {vs:Lz IV} {x:ElP l} {q1 q2:Lz Nat} {w:Nat},rdP0 l S vs=iz (x,q1,q2,S',w)->FrX S S' w
 | [],S,S',vs,x,q1,q2,w,h=>by
  cases vs with
  | cons v vs=>cases h
  | nil=>cases h;exact FrX.refl _ _
 | .dat c::l,S,S',vs,x,q1,q2,w,h=>by
  cases vs with
  | nil=>cases h
  | cons v vs =>
  simp only[rdP0] at h;cases hb:fitV c v with
  | false=>rw[hb] at h;cases h
  | true =>
  rw[hb,xa] at h;split at h<;>try cases h
  rename_i h1;split at h<;>cases h;rename_i h2;obtain⟨a1,a2⟩:=qan c _ _ _ _ _ _ h1;exact FrX.trans ⟨dk a1.symm,fun id _ hb=>a2 id hb⟩ (sj l h2)
 | .fn f::l,S,S',vs,x,q1,q2,w,h=>by
  simp only[rdP0] at h;split at h<;>try cases h
  rename_i g vs;cases hb:od g f with
  | false=>rw[hb] at h;cases h
  | true =>
  rw[hb] at h;have h:rdP0 l S vs=iz (x,q1,q2,S',w):=h;exact sj l h
 | .bnd f i::l,S,S',vs,x,q1,q2,w,h=>by
  simp only[rdP0] at h;split at h<;>try cases h
  rename_i g a vs;cases hb:od g f with
  | false=>rw[hb] at h;cases h
  | true =>
  rw[hb] at h;have h:rdP0 l S vs=iz (x,q1,q2,S',w):=h;exact sj l h
 | .ref (.sl c)::l,S,S',vs,x,q1,q2,w,h=>by
  cases vs with
  | nil=>cases h
  | cons v vs =>
  simp only[rdP0] at h;split at h<;>try cases h
  rename_i h1;split at h<;>cases h;rename_i h2;exact(zlb h1).trans (sj l h2)
 | .ref (.mp kc vc)::l,S,S',vs,x,q1,q2,w,h=>by
  cases vs with
  | nil=>cases h
  | cons v vs =>
  simp only[rdP0] at h;split at h<;>try cases h
  rename_i h1;split at h<;>cases h;rename_i h2;exact(zf8 h1).trans (sj l h2)
 | .ref (.box r)::l,S,S',vs,x,q1,q2,w,h=>by
  cases vs with
  | nil=>cases h
  | cons v vs =>
  cases v<;>try (cases h;done)
  rename_i id off;cases off with
  | succ _=>cases h
  | zero =>
  simp only[rdP0] at h;split at h<;>try cases h
  split at h<;>try cases h
  rename_i h1;split at h<;>cases h;rename_i h2;have:=(FrX.refl S (2 ^ id)).trans ((q1j r h1).trans (sj l h2))
  grind
 | .ref (.clo f is)::l,S,S',vs,x,q1,q2,w,h=>by
  cases vs with
  | nil=>cases h
  | cons v vs =>
  cases v<;>try (cases h;done)
  rename_i id off;cases off with
  | succ _=>cases h
  | zero =>
  simp only[rdP0] at h;split at h<;>try cases h
  split at h<;>cases h;rename_i h2;exact(FrX.refl S (2 ^ id)).trans (sj l h2)
theorem qeh(l:Lz PK){S S':IS}{vs:Lz IV}{x:ElP l}{q1 q2:Lz Nat}{w:Nat}(h:rdP l S vs=iz (x,q1,q2,S',w)):FrX S S' w:=sj l (quc h).1
theorem qk9:∀(l:Lz Nat) (S:IS),FrX S (ud l S) (qn l)
 | [],S=>FrX.refl _ _
 | id::l,S=>(FrX.set S id .dead).trans (qk9 l _)
theorem qjo:∀(l:Lz Nat) (os:Lz IObj) (S:IS),FrX S (setL l os S) (qn l)
 | [],os,S=>FrX.refl _ _
 | _::_,[],S=>FrX.refl _ _
 | id::l,o::os,S=>(FrX.set S id o).trans (qjo l os _)
theorem qma:∀(a b:Lz Nat),qn (a++b)=qn a ||| qn b
 | [],b=>by simp[qn]
 | x::a,b=>by simp only[rn,qn,qma a,Nat.or_assoc]
theorem za3{s:SmR}{vs:Lz IV}{S:IS}:FrO S (exR s vs S):=fun r h=>by
 unfold exR at h;split at h
 ·grind
 rename_i k a b d w c;cases e:ndB (a++b) with
 | false=>rw[e] at h;cases h
 | true =>
 rw[e,xa] at h;split at h
 ·grind
 split at h
 ·grind
 rename_i y z l;cases h;have j:=qeh _ c;have i:=(qk9 b d).trans ((qjo a (zr (refs s.ps) (nuB a (mP s.ps) d.next) (mP s.ps) z) _).trans (qfc (newO s y z) _ 0));have f:=j.trans i;rw[jbq,Nat.or_comm (qn b),<- qma] at f;have g:=f.trans (FrX.refl _ (cond (oo 0 a.length) 0 (2 ^ d.next)));exact g
theorem zga{s:SmR}{vs:Lz IV}{S:IS}{r:Res}(h:exR s vs S=iz r)(hw:r.wr=0):False:=by
 unfold exR at h;split at h
 ·grind
 rename_i f a b e w d;cases c:ndB (a++b) with
 | false=>rw[c] at h;cases h
 | true =>
 rw[c,xa] at h;split at h
 ·grind
 split at h
 ·grind
 cases h;have i:qn (a++b)=0:=(or_zero (or_zero hw).1).2;cases a with
 | nil =>
  have g:2 ^ e.next=0:=(or_zero hw).2
  grind
 | cons id a =>
  have:=qin (l:=id::a++b) (id:=id) (by simp)
  grind
theorem z8{P:om}{f:Nat}{s:SmR}(hc:ConR P f s):HxOK P f (hxR s).f :=
 .of (fun c _ _ _ b S r h T E e p _ a d=>q0g hc h p a d) (fun c _ b S=>za3) (fun c _ b S r h a _=>(zga h a).elim)

def ptrP:Lz PK->Nat->Lz IV
 | [],_=>[]
 | .dat _::l,k=>ptrP l k
 | .fn _::l,k=>ptrP l k
 | .bnd _ _::l,k=>ptrP l k
 | .ref r::l,k=>argK r k::ptrP l (k+1)
theorem qd7:∀(l:Lz PK) (k:Nat) (z:ElP (refs l)),ze (refs l) idN k z=ptrP l k
 | [],_,_=>rfl
 | .dat _::l,k,z=>qd7 l k z
 | .fn _::l,k,z=>qd7 l k z
 | .bnd _ _::l,k,z=>qd7 l k z
 | .ref r::l,k,z=>by
  show argK r (idN k)::ze (refs l) idN (k+1) z.2=_;rw[qd7 l];rfl
theorem qgp{E E':Env}:∀(l:Lz PK) {k:Nat} {us:Lz oc},(∀j,j<mP l->js E E' (k+j) (k+j))->VRs E (ptrP l k) us->VRs E' (ptrP l k) us
 | [],k,us,hn,h=>by have:=h.1;cases us with|nil=>exact VRs.nil|cons _ _=>simp [ptrP] at this
 | .dat _::l,k,us,hn,h=>qgp l hn h
 | .fn _::l,k,us,hn,h=>qgp l hn h
 | .bnd _ _::l,k,us,hn,h=>qgp l hn h
 | .ref r::l,k,us,hn,h=>by
  obtain⟨u,us,rfl,a1,a2⟩:=VRs.inv (v:=argK r k) (cs:=ptrP l (k+1)) h;refine VRs.cons (q75 (hn 0 (by simp only[mP];omega)) a1) (qgp l (fun j hj=>?_) a2);have:=hn (j+1) (by simp only[mP];omega)
  grind
theorem sv:∀(l:Lz PK) {k:Nat} {S S':IS} {x:ElP (refs l)} {q1 q2:Lz Nat} {w:Nat},rdP0 (refs l) S (ptrP l k)=iz (x,q1,q2,S',w)->∀j,j<mP l->q1[j]?=iz (k+j)
 | [],k,S,S',x,q1,q2,w,h,j,hj=>by simp[mP] at hj
 | .dat _::l,k,S,S',x,q1,q2,w,h,j,hj=>sv l h j hj
 | .fn _::l,k,S,S',x,q1,q2,w,h,j,hj=>sv l h j hj
 | .bnd _ _::l,k,S,S',x,q1,q2,w,h,j,hj=>sv l h j hj
 | .ref (.sl c)::l,k,S,S',x,q1,q2,w,h,j,hj=>by
  simp only[refs,ptrP,argK,rdP0,rdS] at h;split at h<;>cases h;rename_i h2;cases j with
  | zero=>rfl
  | succ j =>
   have:=sv l h2 j (by simp only[mP] at hj;omega)
   grind
 | .ref (.mp kc vc)::l,k,S,S',x,q1,q2,w,h,j,hj=>by
  simp only[refs,ptrP,argK,rdP0,rdM] at h;split at h<;>try cases h
  rename_i h1;split at h1<;>cases h1;split at h<;>cases h;rename_i h2;cases j with
  | zero=>rfl
  | succ j =>
   have:=sv l h2 j (by simp only[mP] at hj;omega)
   grind
 | .ref (.box r)::l,k,S,S',x,q1,q2,w,h,j,hj=>by
  simp only[refs,ptrP,argK,rdP0] at h;split at h<;>try cases h
  split at h<;>try cases h
  split at h<;>cases h;rename_i h2;cases j with
  | zero=>rfl
  | succ j =>
   have:=sv l h2 j (by simp only[mP] at hj;omega)
   grind
 | .ref (.clo f is)::l,k,S,S',x,q1,q2,w,h,j,hj=>by
  simp only[refs,ptrP,argK,rdP0] at h;split at h<;>try cases h
  split at h<;>cases h;rename_i h2;cases j with
  | zero=>rfl
  | succ j =>
   have:=sv l h2 j (by simp only[mP] at hj;omega)
   grind
theorem qr7(l:Lz PK){k:Nat}{S S':IS}{x:ElP (refs l)}{q1 q2:Lz Nat}{w:Nat}(h:rdP (refs l) S (ptrP l k)=iz (x,q1,q2,S',w)):∀j,j<mP l->q1[j]?=iz (k+j):=sv l (quc h).1
def lowN:Nat->Nat->Lz Nat
 | 0,_=>[]
 | m+1,k=>k::lowN m (k+1)
theorem q0d:∀(m k:Nat),(lowN m k).length=m
 | 0,_=>rfl
 | m+1,k=>xy (·+1) (q0d m (k+1))
theorem q28:∀(m k j:Nat),j<m->(lowN m k)[j]?=iz (k+j)
 | 0,k,j,h=>absurd h (Nat.not_lt_zero j)
 | m+1,k,0,h=>rfl
 | m+1,k,j+1,h=>by
  have:=q28 m (k+1) j (by omega);unfold lowN;rw[px,this];congr 1;omega
def runQ(s:SmR)(r:Res):Oq (ElR s.rts × ElP (refs s.ps)) :=
 match qgq s.rts.length r.v with
 | none=>i6
 | some vs=>match clR s.rts r.S vs with
  | none=>i6
  | some (a,S2,_)=>match rdP (refs s.ps) S2 (ptrP s.ps 0) with
   | none=>i6
   | some (b,_,subs,S3,_)=>cond (ndB (subs++idsQ s.rts a)&&(subs++idsQ s.rts a).all (og (mP s.ps))) (match wv s.rts a S3 with
    | none=>i6
    | some y=>match fiP (refs s.ps) (lowN (mP s.ps) 0) subs S3 b with
     | none=>i6
     | some z=>iz (y,z)) i6
theorem qub{E E':Env}(hm:∀b,b∈E'.m->b∈E.m)(hw:E'.w=E.w):∀(cs:Lz (Bool × TC)) {a:ElQ cs} {S:IS} {y:ElR cs} {k:Nat} {us:Lz oc},wv cs a S=iz y->(∀(j id:Nat),(idsQ cs a)[j]?=iz id->js E E' id (k+j))->VRs E (valQ cs a) us->VRs E' (resV cs k y) us
 | [],a,S,y,k,us,h,hn,hv=>by have:=hv.1;cases us with|nil=>exact VRs.nil|cons _ _=>simp [valQ] at this
 | (i7,c)::cs,a,S,y,k,us,h,hn,hv=>by
  obtain⟨u,us,rfl,a1,a2⟩:=VRs.inv (v:=.arr a.1) (cs:=valQ cs a.2) hv;simp only[wv] at h;split at h<;>try cases h
  split at h<;>try cases h
  split at h<;>cases h;rename_i y' hy;refine VRs.cons ?_ (qub hm hw cs hy (fun j id hj=>?_) a2)
  ·cases a1 with
   | arr hA hh =>
    obtain⟨b1,b2,b3,b4,b5⟩:=hn 0 a.1 rfl hA;exact .arr b1 (b4.trans hh)
  ·have:=hn (j+1) id (by simp only[idsQ,px];exact hj)
   grind
 | (eb,c)::cs,a,S,y,k,us,h,hn,hv=>by
  obtain⟨u,us,rfl,a1,a2⟩:=VRs.inv (v:=asIV c a.1) (cs:=valQ cs a.2) hv;simp only[wv] at h;split at h<;>cases h;rename_i y' hy;exact VRs.cons (na hm hw a1) (qub hm hw cs hy hn a2)
theorem zc8{n:Nat}{v:IV}{vs:Lz IV}{E:Env}{u:oc}(h:qgq n v=iz vs)(hv:VR E v u):∃us:Lz oc,VRs E vs us/\∀(E':Env) (ws:Lz IV),ws.length=n->VRs E' ws us->VR E' (tupI ws) u:=by
 replace h:=(qww h).2
 unfold qln at h;cases c:od n 1 with
 | true =>
  rw[c,xa] at h;cases h;have f:=xg c;exact⟨[u],VRs.cons hv VRs.nil,fun E' ws g e=>by
   rw[f] at g;match ws,g with
   | [a],_=>exact e.2 0 (by simp) (by simp)⟩
 | false =>
  rw[c,xe] at h;split at h<;>try cases h
  rename_i i;cases j:od i.length n with
  | false=>rw[j] at h;cases h
  | true =>
  rw[j,xa] at h;cases h;cases hv with
  | tup g hh =>
  refine⟨_,⟨g,hh⟩,fun E' ws d e=>?_⟩;match ws,d with
  | [],_=>exact .tup e.1 e.2
  | [a],d=>rw[<- d] at c;cases c
  | a::b::ws,_=>exact .tup e.1 e.2
theorem q08{s:SmR}{r:Res}{x:ElP s.ps}{y:ElR s.rts}{z:ElP (refs s.ps)}{E E1:Env}{us:Lz oc}{u:oc}(h:runQ s r=iz (y,z))(p0:Pre T0 E (Sc s.ps x))(hargs:VRs E (ze s.ps idN 0 x) us)
   (hpb:PostB (mP s.ps) T0 E (Sc s.ps x) E1 r.S) (hv:VR E1 r.v u):∃E',E'.w=E1.w/\VR E' (vB s (mP s.ps) y) u/\PostB (mP s.ps) T0 E (Sc s.ps x) E' (ScB s y z):=by
 have hT:∀p,mP s.ps<=p->T0.w p:=fun _ _=>trivial;have η:=hpb.pre hT p0;unfold runQ at h;split at h
 · cases h
 rename_i vs σ;split at h
 · cases h
 rename_i a S2 w2 ha;split at h
 · cases h
 rename_i b J d S3 w3 V;cases θ:(ndB (d++idsQ s.rts a)&&(d++idsQ s.rts a).all (og (mP s.ps))) with
 | false=>rw[θ] at h;cases h
 | true =>
 rw[θ,xa] at h;simp only[xf] at θ;obtain⟨hc1,hc2⟩:=θ;split at h
 · cases h
 rename_i y' hy;split at h<;>cases h;rename_i ρ;obtain⟨us1,υ,γ⟩:=zc8 σ hv;obtain⟨E2,e2,ε,f2,τ⟩:=ql6 s.rts ha η (fun _ _=>trivial) υ;have ν:=ε.pre η
 -- the pointers
 have hA0:∀k,k<mP s.ps->E.A k:=by
   have ξ:∀(l:Lz PK) (k:Nat) (x:ElP l) (us:Lz oc),VRs E (ze l idN k x) us->∀j,j<mP l->E.A (k+j):=by
     intro l;induction l with
     | nil=>intro k x us _ j g;simp [mP] at g
     | cons pk l ih =>
       intro k x us hv j g;cases pk with
       | dat c =>
         obtain⟨u,us,rfl,Y,I⟩:=VRs.inv (v:=asIV c x.1) (cs:=ze l idN k x.2) hv;exact ih k x.2 us I j g
       | fn f =>
         obtain⟨u,us,rfl,Y,I⟩:=VRs.inv (v:=.fn f []) (cs:=ze l idN k x) hv;exact ih k x us I j g
       | bnd f i =>
         obtain⟨u,us,rfl,Y,I⟩:=VRs.inv (v:=.bfn f [.ptr (idN i) 0]) (cs:=ze l idN k x) hv;exact ih k x us I j g
       | ref r =>
         obtain⟨u,us,rfl,Y,I⟩:=VRs.inv (v:=argK r (idN k)) (cs:=ze l idN (k+1) x.2) hv;cases j with
         | zero=>exact q2g Y
         | succ j =>
           have:=ih (k+1) x.2 us I j (by simp only[mP] at g;omega)
           rwa [show k+(j+1)=k+1+j by omega]
   intro k G;have:=ξ s.ps 0 x us hargs k G
   rwa [x6] at this
 have t:∃D,VRs E2 (ptrP s.ps 0) D:=by
   obtain⟨D,h'⟩:=qgn s.ps b hargs;rw[qd7] at h';refine⟨D,qgp s.ps (fun j g ι=>?_) h'⟩;rw[x6] at ι ⊢;obtain⟨Y,I,a3,a4,a5⟩:=hpb.alw j g ι;obtain⟨b1,b2,b3,b4,b5⟩:=(ε.env η).alw _ Y;exact⟨b1,b2.trans I,b3.trans a3,b4.trans a4,b5.trans a5⟩
 obtain⟨D,t⟩:=t;obtain⟨C,e3,μ,f3,l1,U,A3,b2,b3,α⟩:=qdm (refs s.ps) V ν (fun _ _=>trivial) t;have ζ:=μ.pre ν;obtain⟨_,c2,c3⟩:=vq (refs s.ps) ρ U;obtain⟨g1,g2⟩:=qh0 s.rts hy;have β:=qc6 hc1;have Z:∀p∈d++idsQ s.rts a,mP s.ps<=p:=fun p hi=>xk ((xz.1 hc2) p hi);have K:∀j:Nat,(newO s y z)[j]?=((d++idsQ s.rts a)[j]?).bind fun p=>S3.heap.get p:=qwa (by rw[tm,U]) c3 g2;have M:(newO s y z).length=(d++idsQ s.rts a).length:=by
   unfold newO;rw[xp,xp,tm,U,g1]
 generalize O:d++idsQ s.rts a=q at β Z K M;have L:∀k,k<mP s.ps->ol (mP s.ps) q k=k:=fun k G=>xx G;have n:∀k,mP s.ps<=k->k<mP s.ps+q.length->q[k-mP s.ps]?=iz (ol (mP s.ps) q k):=fun k X W=>by
   have κ:k-mP s.ps<q.length:=by omega
   unfold ol;rw[xr (by omega),xn,xc κ];rfl
 have m:∀k,k<mP s.ps+q.length->js C (renE (mP s.ps) q C) (ol (mP s.ps) q k) k:=fun k G ι=>⟨⟨G,ι⟩,rfl,rfl,rfl,rfl⟩;have χ:Nums (ol (mP s.ps) q) (mP s.ps) d:=fun j p g=>by
   have X:j<d.length:=(x9.1 g).1;have W:=n (mP s.ps+j) (by omega) (by rw[<- O,xp];omega);rw[ph,<- O,pa X,g,O] at W;exact(gk W).symm
 have ω:J=lowN (mP s.ps) 0:=d9 fun j=>by
   by_cases g:j<mP s.ps
   · rw[qr7 s.ps V j g,q28 _ _ _ g]
   · rw[p6 (by rw[l1,q7];omega),p6 (by rw[q0d];omega)]
 rw[<- ω] at ρ;have ψ:Nums (ol (mP s.ps) q) 0 J:=fun j p g=>by
   have X:j<mP s.ps:=by have:=(x9.1 g).1;rwa [l1,q7] at this
   rw[qr7 s.ps V j X,x6] at g;rw[x6,L j X];exact gk g
 have N:=qik ρ U ζ (fun _ _=>trivial) (b3 _ _ χ (.inr ψ));have δ:∀k,(ScB s y z).H k=(zr (refs s.ps) idN (mP s.ps) z++newO s y z)[k]?:=fun k=>sw _ k;have hsl:nP (refs s.ps)<=q.length:=by rw[<- O,xp,U];omega
 have φ:=PostB.re (T:=T0) (B:=mP s.ps) (q:=q) (S':=ScB s y z) ζ hT β Z (by
     unfold ScB;rw[wc,xp,qe,q7,M];have:S0.next=0:=rfl
     omega) (fun k o G R F=>by
     rw[δ] at F;by_cases Q:k<mP s.ps
     · rw[pa (by rw[qe,q7];exact Q)] at F;obtain⟨r',nj,xj,rfl,d2,d3,d4,d5⟩:=um _ _ _ _ _ _ F;have d5:=d5 (mP s.ps) (by rw[q7] at α;exact α);obtain⟨p,i1,i2,i3,i4,i5⟩:=N k _ (d4 _);have:=qr7 s.ps V k Q;rw[x6,i1] at this;cases this;have e:=L k Q;rw[e];refine⟨OR.objK_to (E:=C) (E':=renE (mP s.ps) q C) (fun _ h=>h) rfl i2 (by have:=m k G;rwa [e] at this) (fun j a b=>m j (by omega)) (fun j g=>m j (by have:=d5 j g;omega)) i4,fun hl=>i5 (qfp.trans hl),fun V=>?_⟩;show C.hb (ol (mP s.ps) q k)=i7;rw[e];exact i3 (qbe.trans V)
     · rw[pg (by rw[qe,q7];omega),qe,q7] at F;have hd:=qo3 (p7 F);rw[K,n k (by omega) G] at F;exact⟨OR.dat_to (E:=C) (E':=renE (mP s.ps) q C) (fun _ h=>h) rfl R (m k G) hd (ζ.st.objs _ trivial R _ F),fun hl=>⟨_,F,hl⟩,fun hbk=>ζ.st.blk _ trivial R _ F hbk⟩)
 have P:=Post.trans η ε f2 μ;have hfr:=f2.trans f3 ε.le;refine⟨renE (mP s.ps) q C,e3.trans e2,?_,(hpb.trans (PostB.of hpb.le hT P hfr)).trans φ⟩;refine γ _ _ (qfm _ _ _) (qub (E:=C) (E':=renE (mP s.ps) q C) (fun _ h=>h) rfl s.rts hy (fun j p g=>?_) (τ.mono (μ.env ν)));have X:j<(idsQ s.rts a).length:=(x9.1 g).1;have W:mP s.ps+nP (refs s.ps)+j<mP s.ps+q.length:=by rw[<- O,xp,U];omega
 have κ:=n _ (by omega) W;rw[show mP s.ps+nP (refs s.ps)+j-mP s.ps=d.length+j by omega,<- O,pg (by omega),ph,g,O] at κ;have h4:=gk κ;have:=m _ W
 rwa [<- h4] at this
end Go.Jx
end

noncomputable section
namespace Go.Jx
open Go Go.Sx Go.RowKit
universe u

def WfC:(c:CT)->ElC c->Prop
 | .dat c=>fun x=>WfE c x
 | .arr c=>fun(l:Lz (El c))=>l.length*bsz c<=140737488355328/\∀x∈l,WfE c x
 | .map k v=>fun(es:Lz (El k × El v))=>∀e∈es,WfE k e.1/\WfE v e.2
 | .fn _=>fun _=>True
def WfR:(r:Lz CT)->jx r->Prop
 | [],_=>True
 | c::cs,x=>WfC c x.1/\WfR cs x.2
def WfK:(r:RK)->ElK r->Prop
 | .box r,x=>WfR r x
 | .sl c,x=>match x with
  | some l=>l.length*bsz c<=140737488355328/\∀y∈l,WfE c y
  | none=>True
 | .mp k v,x=>match x with
  | some (es:Lz (El k × El v))=>∀e∈es,WfE k e.1/\WfE v e.2
  | none=>True
 | .clo _ _,_=>True
def WfP:(l:Lz PK)->ElP l->Prop
 | [],_=>True
 | .dat c::l,x=>WfE c x.1/\WfP l x.2
 | .fn _::l,x=>WfP l x
 | .bnd _ _::l,x=>WfP l x
 | .ref r::l,x=>WfK r x.1/\WfP l x.2
section
variable {E : Env}
theorem zsd{c:TC}{x:El c}{us:Lz oc}(h:VRs E (cel c x) us):WfE c x :=
 wf_cells (E:=E) c x (fun j=>us.getD j .nilFunc) fun j b=>by
  have a:j<us.length:=by rw[<- h.1];exact b
  show VR E _ (us.getD j .nilFunc);rw[xn,xc a];exact h.2 j b a
theorem qxt{k v:TC}{id:Nat}{x:Lz (El k × El v)}(h:OR E id (.tmap k v x)):∀e∈x,WfE k e.1/\WfE v e.2:=by
 obtain⟨l,o,n,j,g,_⟩:=h;intro e m;obtain⟨i,c,rfl⟩:=db.1 m;have d:(tmEs k v x).length=oq x:=gt _;have b:i<((tmEs k v x).map (·.1)).length:=by rw[gt,d];exact c
 have a:i<((tmEs k v x).map (·.2)).length:=by rw[gt,d];exact c
 have q1:=j.2 i b (by rw[<- j.1];exact b);have f:=g.2 i a (by rw[<- g.1];exact a);have e:(tmEs k v x)[i]'(by rw[d];exact c)=(asIV k (List.get x ⟨i,c⟩).1,asIV v (List.get x ⟨i,c⟩).2):=de _;rw[de,e] at q1;rw[de,e] at f;exact⟨qic q1,qic f⟩
theorem wfC{H:Nat->Oq IObj}{ι:Nat->Nat}(hH:∀id o,E.A id->H id=iz o->OR E id o):∀(c:CT) {n:Nat} {x:ElC c} {us:Lz oc},VRs E (wy c ι n x) us->(∀j:Nat,j<nC c->H (ι (n+j))=(subC c x)[j]?)->WfC c x
 | .dat c,n,x,us,h,_=>zsd h
 | .arr c,n,x,us,h,hs=>by
  obtain⟨u,us,rfl,a1,a2⟩:=VRs.inv (v:=.arr (ι n)) (cs:=[]) h;have hA:E.A (ι n):=by cases a1;assumption
  have h0:=hs 0 (aa);rw[g8] at h0;obtain⟨a,cap,h1,h2,h3,h4,h5⟩:=hH _ (.arr c x) hA h0;refine⟨h4,fun y hy=>?_⟩;obtain⟨i,hi,rfl⟩:=db.1 hy;rcases h5 with ⟨_,h5,_⟩|⟨_,_,cells,t,_,_,us,_,h6⟩
  ·omega
  ·exact wf_cells c _ (us i) (h6 i hi)
 | .map k v,n,x,us,h,hs=>by
  obtain⟨u,us,rfl,a1,a2⟩:=VRs.inv (v:=.map (ι n)) (cs:=[]) h;have hA:E.A (ι n):=by cases a1;assumption
  have h0:=hs 0 (aa);rw[g8] at h0;exact qxt (hH _ (.tmap k v x) hA h0)
 | .fn _,n,x,us,h,hs=>trivial
theorem zbx{c:TC}{id:Nat}{l:Lz (El c)}(h:OR E id (.arr c l)):l.length*bsz c<=140737488355328/\∀y∈l,WfE c y:=by
 obtain⟨a,m,p,o,n,k,d⟩:=h;refine⟨k,fun y f=>?_⟩;obtain⟨i,g,rfl⟩:=db.1 f;rcases d with ⟨_,d,_⟩|⟨_,_,b,t,_,_,e,_,j⟩
 ·omega
 ·exact wf_cells c _ (e i) (j i g)
theorem wfR{H:Nat->Oq IObj}{ι:Nat->Nat}(hH:∀id o,E.A id->H id=iz o->OR E id o):∀(r:Lz CT) {n:Nat} {x:jx r} {us:Lz oc},VRs E (jm r ι n x) us->(∀j:Nat,j<nR r->H (ι (n+j))=(subR r x)[j]?)->WfR r x
 | [],n,x,us,h,hs=>trivial
 | c::cs,n,x,us,h,hs=>by
  obtain⟨us1,us2,rfl,h1,h2⟩:=VRs.split (cs:=wy c ι n x.1) (ds:=jm cs ι (n+nC c) x.2) h;refine⟨wfC hH c h1 fun j hj=>?_,wfR hH cs h2 fun j hj=>?_⟩
  ·rw[hs j (by simp only[nR];omega)];simp only[subR];rw[pa (by rw[qdu];exact hj)]
  ·have:=hs (nC c+j) (by simp only[nR];omega);rw[<- jai] at this;rw[this];simp only[subR];rw[pg (by rw[qdu];omega),qdu,ph]
theorem wfP{H:Nat->Oq IObj}(hH:∀id o,E.A id->H id=iz o->OR E id o):∀(l:Lz PK) {k n:Nat} {x:ElP l} {us:Lz oc},VRs E (ze l idN k x) us ->
  (∀j:Nat,j<mP l->H (k+j)=(zr l idN n x)[j]?)->(∀j:Nat,j<nP l->H (n+j)=(jp l x)[j]?)->WfP l x
 | [],k,n,x,us,h,_,_=>trivial
 | .dat c::l,k,n,x,us,h,h1,h2=>by
  obtain⟨u,us,rfl,a1,a2⟩:=VRs.inv (v:=asIV c x.1) (cs:=ze l idN k x.2) h;exact⟨qic a1,wfP hH l a2 h1 h2⟩
 | .fn f::l,k,n,x,us,h,h1,h2=>by
  obtain⟨u,us,rfl,a1,a2⟩:=VRs.inv (v:=.fn f []) (cs:=ze l idN k x) h;exact wfP (x:=x) hH l a2 h1 h2
 | .bnd f i::l,k,n,x,us,h,h1,h2=>by
  obtain⟨u,us,rfl,a1,a2⟩:=VRs.inv (v:=.bfn f [.ptr (idN i) 0]) (cs:=ze l idN k x) h;exact wfP (x:=x) hH l a2 h1 h2
 | .ref r::l,k,n,x,us,h,h1,h2=>by
  obtain⟨u,us,rfl,a1,a2⟩:=VRs.inv (v:=argK r (idN k)) (cs:=ze l idN (k+1) x.2) h;have hA:E.A k:=q2g a1;have h0:=h1 0 (by simp only[mP];omega);rw[g8] at h0;have h0:H k=iz (objK r idN n x.1):=h0;refine⟨?_,wfP hH l (n:=n+nK r) a2 (fun j hj=>?_) fun j hj=>?_⟩
  ·match r,x,h0,h2 with
   | .box r,x,h0,h2 =>
    obtain⟨cells,t,k1,k2,k3,k4⟩:=hH k _ hA (h0.trans (show _=iz (.row (jm r idN n x.1)) from rfl));refine wfR (ι:=idN) hH r k4 fun j hj=>?_;have:=h2 j (by simp only[nP,nK];omega);show H (n+j)=_;rw[this];exact pa (l₂:=jp l x.2) (jb6 hj (qkg r x.1).symm)
   | .sl c,(iz l,x),h0,h2=>exact zbx (c:=c) (l:=l) (hH k _ hA (h0.trans rfl))
   | .sl c,(i6,x),h0,h2=>trivial
   | .mp kc vc,(iz l,x),h0,h2=>exact qxt (k:=kc) (v:=vc) (x:=l) (hH k _ hA (h0.trans rfl))
   | .mp kc vc,(i6,x),h0,h2=>trivial
   | .clo f is,(_,x),h0,h2=>trivial
  ·have:=h1 (j+1) (by simp only[mP];omega);rw[show k+1+j=k+(j+1) by omega,this];simp only[zr,px]
  ·have:=h2 (nK r+j) (by simp only[nP];omega);rw[<- jai] at this;rw[this];simp only[jp];rw[pg (by rw[qu5];omega),qu5,ph]
end
theorem qxi{l:Lz PK}{x:ElP l}{E:Env}{us:Lz oc}(p:Pre T0 E (Sc l x))(h:VRs E (ze l idN 0 x) us):WfP l x:=by
 refine wfP (H:=(Sc l x).H) (n:=mP l) (fun b o d c=>p.st.objs b trivial d o c) l h (fun j a=>?_) fun j a=>?_
 ·unfold Sc;rw[x6,sw,pa (by rw[qe];exact a)]
 ·unfold Sc;rw[sw,pg (by rw[qe];omega),qe,ph]

def z6(tt:Nat->Oq TI)(fi:FI)(s:SmR)(r:CRes):Oq (ElR s.rts × ElP (refs s.ps)) :=
 cond r.e.rets (match ul r.ds r.S with
  | none=>i6
  | some (S',_)=>match ires tt fi.nt r.fr S' fi.res with
   | none=>i6
   | some (vs,_)=>runQ s ⟨tupI vs,S',0,0⟩) i6
section
variable {P : om} {tt : Nat -> Oq TI} {ft : Nat -> Oq FI}
theorem qyf{fi:FI}{f:Nat}{nm:Nat->Oq Nm}{cl:Cl}{lf:Nat}{s:SmR}{x:ElP s.ps}{y:ElR s.rts}{z:ElP (refs s.ps)}{r1:CRes}(hm:P.follows .mixedOrders=i7)(htt:TT P tt)
  (hfi:∃fn,P.funcs[f]?=iz fn/\fn.body=iz fi.body/\fn.ntmps=fi.nt/\fn.results=fi.res.toArray/\(fn.name == "runtime.NumGoroutine") = eb/\qi fi.body=i7) (hcl:ClOK P cl) (hfr:ClFr cl)
  (hb:og (ze s.ps idN 0 x).length fi.nt=i7) (hr1:zh P tt nm (mP s.ps) fi.nt cl lf i6 fi.body (zk (ze s.ps idN 0 x) 0 .leaf) (Sc s.ps x) []=iz r1) (h:z6 tt fi s r1=iz (y,z))
  {E:Env} {us:Lz oc} (p:Pre T0 E (Sc s.ps x)) (hv:VRs E (ze s.ps idN 0 x) us) :
  mf ox 0 P f us.toArray E.w (RetB (mP s.ps) T0 E (Sc s.ps x) ⟨vB s (mP s.ps) y,ScB s y z,0,0⟩):=by
 unfold z6 at h;cases a:r1.e.rets with
 | false=>rw[a] at h;cases h
 | true =>
 rw[a,xa] at h;split at h
 ·grind
 rename_i X wr o;split at h
 ·grind
 rename_i j D b;obtain⟨fn,V,U,δ,R,γ,Q⟩:=hfi;refine jbc V U trivial ?_;refine nk (T:=T0) (E:=E) (S:=Sc s.ps x) (ds:=[]) (round:=i6) (B:=mP s.ps) (fun _ _=>trivial) hm rfl hcl hfr htt fi.body Q p (by rw[qau];omega) (fun _ _=>trivial) ?_ (DS.nil (N:=E.w.heap.size) (xl _)) (fun _=>rfl) hr1 (fun _ _=>trivial) (fun _ _=>trivial) ?_
 ·have:=FR.enter (nt:=fi.nt) hv (xk hb)
  grind
 intro α A β g v I u;have H:=u.pre (fun _ _=>trivial) p;have c:il ox 0 P fn A.tmps (RetB (mP s.ps) T0 E (Sc s.ps x) ⟨vB s (mP s.ps) y,ScB s y z,0,0⟩) A.defers .returning α.w:=by
  refine qgf (E0:=E) (S0':=Sc s.ps x) (B:=mP s.ps) (by simp) (xl _) (fun _ _=>trivial) H I u o (fun _ _=>trivial) fun Z n G m=>?_;obtain⟨k,O,M⟩:=qmt htt G ⟨v.size,fun t J=>m _ _ (v.get t J)⟩ b (fun _ _=>trivial);have L:=q9c (P:=P) (w:=Z.w) R O;refine⟨qbm k,L,?_⟩;have K:=n;obtain⟨Y,W,C,F⟩:=q08 (r:=⟨tupI j,X,0,0⟩) h p hv K (q3o M);exact⟨_,Y,rfl,W,C,F⟩
 cases d:r1.e with
 | normal=>rw[d] at g;cases g;exact c
 | ret=>rw[d] at g;cases g;exact c
 | exit i=>rw[d] at a;cases a
 | goto l=>rw[d] at a;cases a
 | pan q=>rw[d] at a;cases a
theorem conTR{sml:Lz (Nat × Sm)}{hxl:Lz (Nat × Hx)}{f:Nat}{s:SmR}{fi:FI}{nmf:Nat->Oq Nm}{st hd:Nat->Bool}(n:Nat)(hm:P.follows .mixedOrders=i7)(htt:TT P tt)(hft:FT P ft)(hsm:SmOK P sml)
  (hhx:zv P hxl) (hC:zg P f) (h3:ft f=iz fi) (h4:∀x,og (ze s.ps idN 0 x).length fi.nt=i7) (hn:(regs fi.body).Nodup) (hl:okC nmf st hd fi.body i6=i7)
  (hrun:∀(x:ElP s.ps) (y:ElR s.rts) (z:ElP (refs s.ps)),WfP s.ps x->s.f x=iz (y,z)->∃lf,
   zm P tt nmf (mP s.ps) fi.nt (zn P tt ft (fun _ _=>i6) (smL sml) (hxL hxl) lf n (ElR s.rts × ElP (refs s.ps))) lf st
    (atNB P tt nmf (mP s.ps) fi.nt fi.body (zn P tt ft (fun _ _=>i6) (smL sml) (hxL hxl) lf n (ElR s.rts × ElP (refs s.ps))) lf hd (z6 tt fi s)) fi.body [] (zk (ze s.ps idN 0 x) 0 .leaf) (Sc s.ps x) [] (z6 tt fi s)=iz (y,z))
  (hz:frzF nmf=i7:=by rfl):ConR P f s:=by
 have d:mB nmf (mP s.ps)=0:=by unfold mB;rw[hz];rfl
 have c:ExOK P (exH (smL sml) (hxL hxl)):=qsq (u6 hsm) (bp hhx);refine⟨hC,fun E x h y z g p e=>?_⟩;obtain⟨lf,b⟩:=hrun x y z (qxi p e) g;rw[<- qtw d (qg n _) hn hl,y1 (qg n _)] at b;cases a:zh P tt nmf (mP s.ps) fi.nt (jz P tt ft (fun _ _=>i6) (exH (smL sml) (hxL hxl)) lf n) lf i6 fi.body (zk (ze s.ps idN 0 x) 0 .leaf) (Sc s.ps x) [] with
 | none=>rw[a] at b;cases b
 | some r1 =>
  rw[a] at b;exact qyf hm htt (hft f fi h3) (qcu hm htt hft c n) (sr c n) (h4 x) a b p e
end
end Go.Jx
end

noncomputable section
namespace Go.Jx
open Go Go.Sx Go.RowKit
universe u

section
variable {P : om} {tt : Nat -> Oq TI} {nm : Nat -> Oq Nm} {lf : Nat} {st hd : Nat -> Bool} {cl : Cl}
def atQ(P:om)(tt:Nat->Oq TI)(nm:Nat->Oq Nm)(fi:FI)(s:SmR)(clK:ClK (ElR s.rts × ElP (refs s.ps)))(lf:Nat)(hd:Nat->Bool)(k:Nat)(ns:Lz Nat)(x:NRes):Oq (ElR s.rts × ElP (refs s.ps)) :=
 atNB P tt nm (mP s.ps) fi.nt fi.body clK lf hd (z6 tt fi s) k ns x
theorem q0z{B:Nat}(hz:frzF nm=i7):mB nm B=0:=by unfold mB;rw[hz];rfl
theorem ki(hz:frzF nm=i7){fi:FI}{s:SmR}{clK:ClK (ElR s.rts × ElP (refs s.ps))}(h:ClEq cl clK)(hn:(regs fi.body).Nodup)(hl:okC nm st hd fi.body i6=i7)(k:Nat)(ns ns':Lz Nat)(hd':dn (hd k) ns=iz ns')(x:NRes) :
  atQ P tt nm fi s clK lf hd k ns x=qj P tt nm (mP s.ps) fi.nt clK lf st (atQ P tt nm fi s clK lf hd) k fi.body [] ns' x (z6 tt fi s):=qol (q0z hz) h hn hl k ns ns' hd' x
theorem wg{fi:FI}{s:SmR}{clK:ClK (ElR s.rts × ElP (refs s.ps))}(k:Nat)(ns:Lz Nat)(hd':dn (hd k) ns=i6)(x:NRes):atQ P tt nm fi s clK lf hd k ns x=i6:=qsh k ns hd' x
end
end Go.Jx
end

noncomputable section
namespace Go.Jx
open Go Go.Sx Go.RowKit
universe u

def updP:(l:Lz PK)->ElP l->ElP (refs l)->ElP l
 | [],_,_=>()
 | .dat _::l,x,z=>(x.1,updP l x.2 z)
 | .fn _::l,x,z=>updP l x z
 | .bnd _ _::l,x,z=>updP l x z
 | .ref _::l,x,z=>(z.1,updP l x.2 z.2)
theorem qd0:∀(l:Lz PK) (ι:Nat->Nat) (n:Nat) (x:ElP l) (z:ElP (refs l)),zr l ι n (updP l x z)=zr (refs l) ι n z
 | [],_,_,_,_=>rfl
 | .dat _::l,ι,n,x,z=>qd0 l ι n x.2 z
 | .fn _::l,ι,n,x,z=>qd0 l ι n x z
 | .bnd _ _::l,ι,n,x,z=>qd0 l ι n x z
 | .ref r::l,ι,n,x,z=>by
  show objK r ι n z.1::zr l ι (n+nK r) (updP l x.2 z.2)=_;rw[qd0 l];rfl
theorem qhd:∀(l:Lz PK) (x:ElP l) (z:ElP (refs l)),jp l (updP l x z)=jp (refs l) z
 | [],_,_=>rfl
 | .dat _::l,x,z=>qhd l x.2 z
 | .fn _::l,x,z=>qhd l x z
 | .bnd _ _::l,x,z=>qhd l x z
 | .ref r::l,x,z=>by
  show subK r z.1++jp l (updP l x.2 z.2)=_;rw[qhd l];rfl
theorem qdg:∀(l:Lz PK) (ρ:Nat->Nat) (k:Nat) (x:ElP l) (z:ElP (refs l)),ze l ρ k (updP l x z)=ze l ρ k x
 | [],_,_,_,_=>rfl
 | .dat c::l,ρ,k,x,z=>xy (fun q=>asIV c x.1::q) (qdg l ρ k x.2 z)
 | .fn f::l,ρ,k,x,z=>xy (fun q=>IV.fn f []::q) (qdg l ρ k x z)
 | .bnd f i::l,ρ,k,x,z=>xy (fun q=>IV.bfn f [.ptr (ρ i) 0]::q) (qdg l ρ k x z)
 | .ref r::l,ρ,k,x,z=>xy (fun q=>argK r (ρ k)::q) (qdg l ρ (k+1) x.2 z.2)
def nPI(l:Lz PK):Nat:=nP l+cond (vw l) 0 1
theorem qpx{l:Lz PK}(h:nPI l=0):nP l=0/\vw l=i7:=by
 unfold nPI at h
 grind
def sQ(l:Lz PK):SmR:=⟨l,[],fun _=>i6⟩
theorem qyi(l:Lz PK)(x:ElP l)(z:ElP (refs l)):ScB (sQ l) () z=Sc l (updP l x z):=by
 unfold ScB Sc newO;rw[qd0,qhd];show addO (zr (refs l) idN (mP l) z++(jp (refs l) z++[])) S0=_
 grind
structure Held (T:TW) (E:Env) (S:IS) (l:List PK) (x:ElP l) (rows subs:List Nat):Prop where
 l1:rows.length=mP l
 l2:subs.length=nP l
 nd:(rows++subs).Nodup
 w:∀id∈rows++subs,T.w id
 A:∀id∈subs,E.A id
 ok:okPs (mP l) l=i7
 at_:∀ι,Nums ι 0 rows->Nums ι (mP l) subs->qdy E rows (zr l ι (mP l) x)
 row:∀id∈rows,∃cs,S.H id=iz (.row cs)
 sub:∀j:Nat,(jp l x)[j]?=(subs[j]?).bind fun id=>S.heap.get id
section
variable {T : TW} {E : Env} {S : IS} {l : Lz PK} {x : ElP l} {rows subs : Lz Nat}
theorem Held.num(h:Held T E S l x rows subs):Nums (ol 0 (rows++subs)) 0 rows/\Nums (ol 0 (rows++subs)) (mP l) subs:=by
 have a:Nums (ol 0 (rows++subs)) 0 (rows++subs):=fun j c b=>by
  rw[x6];unfold ol;rw[xr (by omega),rz,xn,b];rfl
 refine⟨a.fst,?_⟩;have:=a.snd
 rwa [x6,h.l1] at this
theorem Held.len(h:Held T E S l x rows subs):(rows++subs).length=mP l+nP l:=by rw[xp,h.l1,h.l2]
theorem Held.rk(h:Held T E S l x rows subs){k:Nat}(hk:k<mP l):rows[k]?=iz (ol 0 (rows++subs) k):=by
 have a:k<rows.length:=by rw[h.l1];exact hk
 rw[xc a,<- h.num.1 k _ (xc a),x6]
theorem Held.sk(h:Held T E S l x rows subs){k:Nat}(h1:mP l<=k)(h2:k<(rows++subs).length):subs[k-mP l]?=iz (ol 0 (rows++subs) k):=by
 have a:k-mP l<subs.length:=by rw[h.len] at h2;rw[h.l2];omega
 rw[xc a,<- h.num.2 _ _ (xc a),jb4 h1]
theorem Held.rowA(h:Held T E S l x rows subs){k:Nat}(hk:k<mP l):∃r nj xj,(∀ι,(zr l ι (mP l) x)[k]?=iz (objK r ι nj xj))/\mP l<=nj/\nj+nK r<=(rows++subs).length/\E.A (ol 0 (rows++subs) k)/\((objK r (ol 0 (rows++subs)) nj xj).blk=i7->E.hb (ol 0 (rows++subs) k)=i7)/\OR E (ol 0 (rows++subs) k) (objK r (ol 0 (rows++subs)) nj xj)/\∀k∈isK r,k<mP l:=by
 have f:k<(zr l (ol 0 (rows++subs)) (mP l) x).length:=by rw[qe];exact hk
 obtain⟨r,nj,xj,n,i,m,b,g⟩:=um l (ol 0 (rows++subs)) (mP l) x k _ (xc f);obtain⟨j,a,e,d,c⟩:=h.at_ _ h.num.1 h.num.2 k _ (b (ol 0 (rows++subs)));rw[h.rk hk] at a;cases a;exact⟨r,nj,xj,b,i,by rw[h.len];omega,e,d,c,g _ h.ok⟩
theorem Held.allA(h:Held T E S l x rows subs):∀id∈rows++subs,E.A id:=fun id hid=>by
 rcases p4.1 hid with hid|hid
 ·obtain⟨k,a,rfl⟩:=db.1 hid;obtain⟨_,_,_,_,_,_,b,_⟩:=h.rowA (k:=k) (by rw[<- h.l1];exact a);have:=h.rk (k:=k) (by rw[<- h.l1];exact a)
  grind
 ·exact h.A id hid
theorem Held.numTo(E:Env)(q:Lz Nat){k:Nat}(hk:k<q.length):js E (renE 0 q E) (ol 0 q k) k:=fun a=>⟨⟨by omega,a⟩,rfl,rfl,rfl,rfl⟩
theorem Held.obj(h:Held T E S l x rows subs)(p:Pre T E S){k:Nat}{o:IObj}(hk:k<(rows++subs).length)(hAk:E.A (ol 0 (rows++subs) k))(ho:(Sc l x).H k=iz o):ObjTo E S (renE 0 (rows++subs) E) (ol 0 (rows++subs) k) k o:=by
 unfold Sc at ho;rw[sw] at ho;have c:∀j,j<(rows++subs).length->js E (renE 0 (rows++subs) E) (ol 0 (rows++subs) j) j:=fun j f=>Held.numTo E _ f;by_cases d:k<mP l
 ·rw[pa (by rw[qe];exact d)] at ho;obtain⟨r,z,y,v,D,C,B,u,t,s⟩:=h.rowA d;rw[v idN] at ho;cases ho;obtain⟨F,g⟩:=h.row _ (p7 (h.rk d));exact⟨OR.objK_to (E:=E) (E':=renE 0 (rows++subs) E) (fun _ h=>h) rfl hAk (c k hk) (fun j a b=>c j (by omega)) (fun j f=>c j (by have:=s j f;have:=h.len;omega)) t,fun _=>⟨_,g,rfl⟩,fun q=>u (qbe.trans q)⟩
 ·rw[pg (by rw[qe];omega),qe] at ho;have n:=qkp _ _ _ (p7 ho);rw[h.sub,h.sk (by omega) hk] at ho;have e:=(q8 hk).1;exact⟨OR.dat_to (E:=E) (E':=renE 0 (rows++subs) E) (fun _ h=>h) rfl hAk (c k hk) n (p.st.objs _ (T.sub _ (h.w _ e)) hAk _ ho),fun m=>⟨_,ho,m⟩,fun i=>p.st.blk _ (T.sub _ (h.w _ e)) hAk _ ho i⟩
theorem Held.pre(h:Held T E S l x rows subs)(p:Pre T E S):Pre T0 (renE 0 (rows++subs) E) (Sc l x) :=
 Pre.re p h.nd (fun b e=>T.sub _ (h.w b e)) (by rw[qau,h.len]) fun k o d a c=>h.obj p d a c
theorem Held.back{s:SmR}{x:ElP s.ps}{y:ElR s.rts}{z:ElP (refs s.ps)}{Er:Env}(h:Held T E S s.ps x rows subs)(p:Pre T E S)(k2:PostB (mP s.ps) T0 (renE 0 (rows++subs) E) (Sc s.ps x) Er (ScB s y z)) :
  Post T E S (mrgR E Er S.next (mP s.ps)) (jd s S.next rows subs y z S)/\Fresh E S (mrgR E Er S.next (mP s.ps)):=by
 have I:=h.allA;have e:∀c,c∈rows++subs->c<S.next:=fun c hi=>p.bnd c (I c hi)
 have ζ:∀k,k<(rows++subs).length->Live (renE 0 (rows++subs) E) (Sc s.ps x).H k->Live E S.H (ol 0 (rows++subs) k):=fun k f ⟨h0,o,u,D⟩=>⟨h0,(h.obj p f (I _ (q8 f).1) u).live D⟩;have t:(setL rows (zr (refs s.ps) (nuB rows (mP s.ps) S.next) (mP s.ps) z) (ud subs S)).next=S.next:=by rw[qh5,qm5]
 have L:rows.Nodup:=(dr.1 h.nd).1;have η:∀c,c∈rows->c ∉ subs:=fun c u D=>(dr.1 h.nd).2.2 c u c D rfl;have C:∀k,(ScB s y z).H k=(zr (refs s.ps) idN (mP s.ps) z++newO s y z)[k]?:=fun k=>sw _ k;have hql:=h.len;have l1:=h.l1;have J:=fun k (f:k<mP s.ps)=>h.rk f;have ε:=fun k (u:mP s.ps<=k) (D:k<(rows++subs).length)=>h.sk u D;have F:=fun k (f:k<mP s.ps)=>h.rowA f;have ι:=h.nd;have θ:=h.ok;have hT:=h.w;have O:∀c,c∈rows->c∈rows++subs:=fun c h=>ge _ h;have N:∀c,c∈subs->c∈rows++subs:=fun c h=>gg _ h;generalize hq:rows++subs=q at *;have P:∀k,k<mP s.ps->Er.A k/\Er.ρ k=E.ρ (ol 0 q k)/\Er.κ k=E.κ (ol 0 q k)/\Er.hd k=E.hd (ol 0 q k)/\Er.hb k=E.hb (ol 0 q k):=fun k f=>by
  obtain⟨R,a2,ψ,φ,V⟩:=k2.alw k f ⟨by omega,I _ (q8 (by omega)).1⟩;exact⟨R,a2,ψ,φ,V⟩
 exact q16 (n:=S.next) (m:=mP s.ps) (S':=jd s S.next rows subs y z S) p ι hT I (by omega) rfl ζ k2 (by
   unfold jd ScB;rw[wc,wc,t,xp,qe,q7];have:S0.next=0:=rfl
   omega) (fun c ν K=>by
   unfold jd;rw[kf,t,xx ν,s6 (fun h=>K (O _ h)),qdv (fun h=>K (N _ h))]) (fun k o f g=>by
   unfold jd at g;have l:=(q8 (q:=q) (k:=k) (by omega)).1;rw[kf,t,xx (e _ l),qsj L (by rw[qe,q7,l1]) (J k f)] at g;obtain⟨r,nj,xj,rfl,d2,d3,d4,σ⟩:=um _ _ _ _ _ _ g;have σ:=σ (mP s.ps) (qb0 _ θ);have d:(ScB s y z).H k=iz (objK r idN nj xj):=by
    rw[C,pa (by rw[qe,q7];exact f)];exact d4 idN
   obtain⟨R,a2,ψ,φ,V⟩:=P k f;obtain⟨o1,o2,o3,o4⟩:=kv (E:=E) (Er:=Er) (n:=S.next) (m:=mP s.ps) (e _ l);obtain⟨_,_,_,_,_,_,i2,_⟩:=F k f;exact⟨OR.objK_to (E:=Er) (E':=mrgR E Er S.next (mP s.ps)) (fun _ h=>h) rfl R (fun _=>⟨.inl ⟨e _ l,i2⟩,o1.trans a2.symm,o2.trans ψ.symm,o3.trans φ.symm,o4.trans V.symm⟩) (fun j a b Q=>by
    obtain⟨Z,Y,X,U,W⟩:=qdd (E:=E) (Er:=Er) (n:=S.next) (m:=mP s.ps) (k:=j) (by omega);rw[q5y (by omega)];exact⟨W Q,Z,Y,X,U⟩) (fun j hj Q=>by
    have G:=σ j hj;obtain⟨a1',ω,χ,υ,τ⟩:=P j G;have i:=(q8 (q:=q) (k:=j) (by omega)).1;obtain⟨δ,γ,β,α⟩:=kv (E:=E) (Er:=Er) (n:=S.next) (m:=mP s.ps) (e _ i);rw[q6o G (J j G)];exact⟨.inl ⟨e _ i,I _ i⟩,δ.trans ω.symm,γ.trans χ.symm,β.trans υ.symm,α.trans τ.symm⟩) (k2.st.objs k trivial R _ d),fun μ=>⟨_,d,qfp.trans μ⟩,fun hb=>(o4.trans V.symm).trans (k2.st.blk k trivial R _ d (qbe.trans hb))⟩) (fun k o u D g=>by
   unfold jd at g;have l:=(q8 (q:=q) (k:=k) D).1;have B:=p7 (ε k u D);rw[kf,t,xx (e _ l),s6 (fun h=>η _ h B),qro B] at g;cases g;rfl) (fun k o u v g=>by
   unfold jd at g;have M:=k2.bnd k v;unfold ScB at M;rw[wc,xp,qe,q7] at M;have e0:S0.next=0:=rfl
   rw[kf,t,xr (by omega),xx (by omega),ph] at g;have hd:=qo3 (p7 g);have d:(ScB s y z).H k=iz o:=by
    rw[C,pg (by rw[qe,q7];exact u),qe,q7];exact g
   obtain⟨Z,Y,X,U,W⟩:=qdd (E:=E) (Er:=Er) (n:=S.next) (m:=mP s.ps) (k:=k) u;exact⟨OR.dat_to (E:=Er) (E':=mrgR E Er S.next (mP s.ps)) (fun _ h=>h) rfl v (fun I=>⟨W I,Z,Y,X,U⟩) hd (k2.st.objs k trivial v _ d),fun μ=>⟨_,d,μ⟩,fun ξ=>U.trans (k2.st.blk k trivial v _ d ξ)⟩)
end
end Go.Jx
end

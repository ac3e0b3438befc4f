/- Texts: ALS, Sx, Ops, App, App2, Qui, Tail, Own, Eq, In, Map, Jgl, Jrt, Ja, Jb, Jc, Jd, Elt, Je, Jet, Jf, Jmk. -/
import Derived.Tactics
import Derived.Below
import Derived.Deep.Quiet
import Derived.WalkKit
import Derived.Laws.Append
import Derived.StillTail
import Derived.RangeFuncNested
import Derived.TacticsIn
import Derived.WideMake
import Derived.Laws.BytesString
import Derived.Laws.RangeAny
import Derived.Laws.MakeOwn
import Derived.OrdersIn
import Derived.RangeFuncLeaves
import Derived.Scope
import Derived.SizedLaws
import Derived.ProofKit
import Derived.Deep.Slices
import Derived.Lib.SmallJoins
import Derived.Carry
import Derived.Test.YtaepcfidpcoofaaGreatDoorProg
import Derived.KernelRfl
import Derived.Lib.Strings
import Derived.Lib.Slices
import Derived.Lib.Walk
import Derived.Lib.Bytealg
import Derived.Lib.Builder
import Derived.Lib.UnsafeStr
import Derived.OwnWalk
import Derived.Shelf.RegionOpenPlain
import Derived.Laws.Externs
import Derived.Lib.ItoaNum
import Derived.Handy
import Derived.Defers
import Derived.Recover
import Derived.BigRegion
import Derived.Shelf.Strings.OnBuilder
import Derived.Shelf.Strconv.Itoa3
import Derived.Lib.ItoaLen
import Derived.Lib.AppendIntMem
import Derived.Test.YtaepcfidpcoofaaGreatDoorRows
import Derived.OpenShut
import Derived.LaidMore
import Derived.Lay
import Derived.Lib.LaidTab
import Derived.Stop.LaidErr
set_option linter.unusedVariables false
set_option linter.unusedSectionVars false
set_option linter.unusedSimpArgs false
set_option linter.unnecessarySimpa false
open Array renaming eraseIdxIfInBounds->a7,replicate->fg
open Bool renaming false->eb,true->i7
open ByteArray renaming size->m9
open Go renaming Addr->f9,Calls->mi,CallsIn->mf,Code->fw,Ending->aw,Field->ic,IntKind->ff,MapEntry->mt,Oper->o8,Operand->fh,Program->om,ResultVar->iu,TypeDesc->fd,TypeId->ov,Value->oc,World->oh
open Go.Builtin renaming append_->fb,delete_->ib,firstCells->oy,lenOf->am,len_->ah,zeroCells->iy
open Go.Deferred renaming ofValue->ma
open Go.Fence renaming wide->ox
open Go.Instr renaming buildSlice->mc,fill->ax,findKey->fx,findNow->a8,indexAt->me,loadAt->af,lookup->ir,mapUpdate->ak,sameBits->ii,slice->io,sliceAt->f8,sliceBound->fy,sliceBounds->o6,storeAt->m6,sureAddr->mh,typeAssert->ik
open Go.IntKind renaming bits->az,signed->m8,wrap->ag
open Go.Op renaming equalIn->mj,intArith->im,intCmp->al
open Go.Question renaming appendCap->ai
open Go.Region renaming wanted->my
open Go.Sem renaming run->ay
open Go.TypeDesc renaming int->iq
open Go.Utf8 renaming decode->fj
open Go.Value renaming int->mq
open Go.World renaming cell?->fu,setCell->fp
open Int renaming ofNat->we
open List renaming drop->iv,length->oq,range->fv,take->ao
open Nat renaming beq->od,ble->og,blt->oo,lor->o9,mul->o7,one_pos->aa
open Option renaming none->i6,some->iz
open Or renaming inr->ig
open UInt8 renaming ofNat->mm
noncomputable section
namespace Go
abbrev xa:=@cond_true
abbrev xb:=@Go.Result.andThen_ok
abbrev xc:=@List.getElem?_eq_getElem
abbrev xd:=@Go.Sem.run_pure
abbrev xe:=@cond_false
abbrev xf:=@Bool.and_eq_true
abbrev xg:=@Nat.eq_of_beq_eq_true
abbrev xh:=@Go.Sem.run_bind
abbrev xk:=@Nat.le_of_ble_eq_true
abbrev xl:=@Nat.le_refl
abbrev xm:=@Go.run_underlying
abbrev xn:=@List.getD_eq_getElem?_getD
abbrev xo:=@List.getElem?_cons_zero
abbrev xp:=@List.length_append
abbrev xq:=@decide_eq_false
abbrev xr:=@if_neg
abbrev xt:=@decide_eq_true
abbrev xu:=@of_decide_eq_true
abbrev xv:=@List.mem_cons_of_mem
abbrev xw:=@List.length_cons
abbrev xx:=@if_pos
abbrev xy:=@congrArg
abbrev xz:=@List.all_eq_true
abbrev x6:=@Nat.zero_add
abbrev x7:=@Nat.ble_eq_true_of_le
abbrev x8:=@List.mem_cons_self
abbrev x9:=@List.getElem?_eq_some_iff
abbrev pa:=@List.getElem?_append_left
abbrev pf:=@List.getElem?_toArray
abbrev pg:=@List.getElem?_append_right
abbrev ph:=@Nat.add_sub_cancel_left
abbrev pj:=@Option.some.injEq
abbrev pm:=@Nat.zero_le
abbrev po:=@List.mem_cons
abbrev pq:=@not_true_eq_false
abbrev pu:=@Bool.false_eq_true
abbrev pw:=@Nat.mul_le_mul_right
abbrev px:=@List.getElem?_cons_succ
abbrev py:=@Nat.le_trans
abbrev pz:=@Nat.lt_of_lt_of_le
abbrev p4:=@List.mem_append
abbrev p5:=@List.getElem_mem
abbrev p6:=@List.getElem?_eq_none
abbrev p7:=@List.mem_of_getElem?
abbrev p8:=@List.length_eq_zero_iff
abbrev p9:=@if_false
abbrev ga:=@List.map_cons
abbrev gb:=@List.getElem?_take
abbrev gc:=@Go.World.putObj_heap_same
abbrev gd:=@Bool.not_true
abbrev ge:=@List.mem_append_left
abbrev gg:=@List.mem_append_right
abbrev gh:=@Bool.not_false
abbrev gj:=@List.isPrefixOf_iff_prefix
abbrev gk:=@Option.some.inj
abbrev gm:=@Go.wpList_nil
abbrev gn:=@List.mem_singleton
abbrev gq:=@List.append_assoc
abbrev gr:=@Int.le_refl
abbrev gt:=@List.length_map
abbrev gu:=@List.all_cons
abbrev gv:=@Array.getElem?_modify
abbrev gx:=@of_decide_eq_false
abbrev gy:=@List.length_drop
abbrev gz:=@List.append_nil
abbrev g8:=@Nat.add_zero
abbrev g9:=@Bool.or_eq_false_iff
abbrev db:=@List.mem_iff_getElem
abbrev dc:=@Go.callsIn_wide
abbrev de:=@List.getElem_map
abbrev df:=@Nat.le_succ
abbrev dg:=@Nat.beq_refl
abbrev dh:=@List.mem_map
abbrev di:=@Go.World.putObj_heap_other
abbrev dj:=@Int.natCast_nonneg
abbrev dk:=@Nat.le_of_eq
abbrev dm:=@Nat.lt_or_ge
abbrev dq:=@Nat.testBit_or
abbrev dr:=@List.nodup_append
abbrev dt:=@Bool.not_eq_true'
abbrev du:=@decide_eq_true_iff
abbrev dv:=@if_true
abbrev dw:=@List.drop_eq_getElem_cons
abbrev dx:=@Bool.and_self
abbrev dy:=@Nat.lt_succ_self
abbrev dz:=@List.take_append_drop
abbrev d9:=@List.ext_getElem?
abbrev ra:=@Nat.le_of_lt
abbrev rb:=@Nat.add_mul
abbrev rc:=@Array.getD_eq_getD_getElem?
abbrev rf:=@Nat.lt_irrefl
abbrev rg:=@Prod.mk.injEq
abbrev rh:=@List.length_nil
abbrev ri:=@List.findIdx?_cons
abbrev rj:=@decide_eq_false_iff_not
abbrev rm:=@Go.World.alloc_heap_new
abbrev rn:=@List.cons_append
abbrev rp:=@decide_eq_true_eq
abbrev rq:=@List.map_congr_left
abbrev rr:=@Int.toNat_natCast
abbrev rt:=@Nat.mul_le_mul_left
abbrev ru:=@List.getElem?_map
abbrev rx:=@List.length_set
abbrev ry:=@List.cons.injEq
abbrev rz:=@Nat.sub_zero
abbrev r4:=@Array.toList_inj
abbrev r6:=@List.any_eq_true
abbrev r7:=@Go.Lib.cell_of_heap
abbrev r8:=@Go.getD_replicate_false
abbrev r9:=@List.take_of_length_le
abbrev jaa:=@ByteArray.size_extract
abbrev jab:=@List.length_take
abbrev jac:=@Nat.le_of_not_lt
abbrev jad:=@List.getElem?_drop
abbrev jae:=@Bool.true_and
abbrev jaf:=@Bool.eq_iff_iff
abbrev jag:=@List.nil_append
abbrev jah:=@Array.getElem?_push
abbrev jai:=@Nat.add_assoc
abbrev jaj:=@Nat.testBit_mod_two_pow
abbrev jak:=@Int.ofNat.inj
abbrev jal:=@Nat.le_add_right
abbrev jam:=@Int.mul_le_mul_of_nonneg_left
abbrev jan:=@List.not_mem_nil
abbrev jao:=@Bool.not_eq_true
abbrev jap:=@List.countP_cons
abbrev jaq:=@UInt8.toNat_ofNat'
abbrev jar:=@Go.Oper.upon_value
abbrev jas:=@List.map_append
abbrev jat:=@List.mem_filter
abbrev jau:=@Option.map_some
abbrev jav:=@Nat.zero_or
abbrev jaw:=@Nat.testBit_two_pow_sub_one
abbrev jax:=@Array.getElem?_eq_some_iff
abbrev jay:=@List.count_le_length
abbrev jaz:=@List.mem_of_mem_take
abbrev ja0:=@List.mem_of_mem_drop
abbrev ja1:=@List.getElem_append_right
abbrev ja2:=@Array.getElem?_eq_getElem
abbrev ja3:=@Classical.byContradiction
abbrev ja4:=@List.drop_drop
abbrev ja5:=@List.extract_eq_take_drop
abbrev ja6:=@Go.Lib.run_unsafeString_none
abbrev ja7:=@List.findIdx?_eq_some_iff_findIdx_eq
abbrev ja8:=@List.getElem_set
abbrev ja9:=@Option.bind_some
abbrev jba:=@List.take_length
abbrev jbb:=@Array.toList_append
abbrev jbc:=@Go.callsIn_of_wp_marks
abbrev jbd:=@List.takeWhile_cons
abbrev jbe:=@List.getElem_append_left
abbrev jbf:=@Nat.zero_mul
abbrev jbg:=@Go.run_convert_bytes_string
abbrev jbh:=@Nat.eq_zero_or_pos
abbrev jbi:=@Bool.or_eq_true
abbrev jbj:=@List.nodup_cons
abbrev jbk:=@List.findIdx?_eq_some_iff_getElem
abbrev jbl:=@List.set_eq_take_append_cons_drop
abbrev jbm:=@List.countP_append
abbrev jbn:=@List.take_succ_eq_append_getElem
abbrev jbo:=@List.drop_eq_nil_of_le
abbrev jbp:=@Array.getElem?_setIfInBounds_ne
abbrev jbq:=@Nat.or_zero
abbrev jbr:=@List.take_add_one
abbrev jbs:=@List.mem_range
abbrev jbt:=@List.take_take
abbrev jbu:=@Go.IntWalk.i64_in
abbrev jbv:=@Array.eq_empty_of_size_eq_zero
abbrev jbw:=@Int.mul_le_mul_of_nonpos_right
abbrev jbx:=@List.map_map
abbrev jby:=@List.takeWhile_prefix
abbrev jbz:=@List.count_cons_of_ne
abbrev jb0:=@List.drop_length
abbrev jb1:=@Go.run_program
abbrev jb2:=@Array.length_toList
abbrev jb3:=@Go.run_callFunc_extern
abbrev jb4:=@Nat.add_sub_cancel'
abbrev jb5:=@List.take_succ_cons
abbrev jb6:=@Nat.lt_of_lt_of_eq
abbrev jb7:=@Int.le_of_lt
abbrev jb8:=@Int.lt_or_le
abbrev jb9:=@List.drop_zero
abbrev jca:=@List.take_left
abbrev jcb:=@Bool.eq_false_iff
abbrev jcc:=@List.getElem_take
abbrev jcd:=@Nat.le_succ_of_le
abbrev jce:=@Go.World.cells?_some
abbrev jcf:=@decide_eq_decide
abbrev jcg:=@List.filter_cons
abbrev jch:=@Array.ext
abbrev jci:=@Nat.lt_trans
abbrev jcj:=@List.map_nil
abbrev jck:=@Nat.mod_lt
abbrev jcl:=@and_self
abbrev jcm:=@Ne.symm
abbrev Bq:=ByteArray
abbrev Oq.{u}(a:Type u):Type u:=Option a
abbrev Lz.{u}(a:Type u):Type u:=List a
end Go
end

noncomputable section
namespace Go.Sx
open Go Go.RowKit

def upd(σ:Nat->oc)(d:Nat)(v:oc):Nat->oc:=fun i=>cond (od i d) v (σ i)
def mem?:Lz Nat->Nat->Bool
 | [],_=>eb
 | d::l,i=>cond (od i d) i7 (mem? l i)
def mix(ms:Lz Nat)(τ σ:Nat->oc):Nat->oc:=fun i=>cond (mem? ms i) (τ i) (σ i)
def argF:Lz oc->Nat->oc
 | [],_=>undef
 | v::_,0=>v
 | _::l,i+1=>argF l i
def Fr(n:Nat)(σ:Nat->oc):Act:=⟨((fv n).map σ).toArray,[]⟩

theorem q77{n:Nat}{σ:Nat->oc}{t:Nat}(h:t<n):(Fr n σ).tmps.getD t undef=σ t:=by
 simp[Fr,h]
theorem qjl{n:Nat}{σ:Nat->oc}{d:Nat}(v:oc):(Fr n σ).put (iz d) v=Fr n (upd σ d v):=by
 simp only[Fr,Act.put,Act.mk.injEq,and_true];apply jch
 ·simp
 ·intro i b a;simp at b a;simp only[List.setIfInBounds_toArray,List.getElem_toArray,ja8,de,List.getElem_range,upd];by_cases e:d=i
  ·subst e;simp
  ·have:od i d=eb:=by
    rw[jcb];intro h;exact e (xg h).symm
   grind

theorem zep(l:Lz oc)(i:Nat):argF l i=l.getD i undef:=by
 induction l generalizing i with
 | nil=>simp [argF]
 | cons v l ih=>cases i<;>simp [argF,ih]

theorem zlx(n:Nat)(l:Lz oc)(h:l.length<=n) :
  ({ tmps:=l.toArray++fg (n-l.toArray.size) undef,defers:=[] }:Act)=Fr n (argF l):=by
 simp only[Fr,Act.mk.injEq,and_true];apply jch
 ·grind
 ·intro i b a;simp at b a;simp only[List.getElem_toArray,de,List.getElem_range,zep]
  grind

def ev(σ:Nat->oc):fh->oc
 | .tmp t=>σ t
 | .const v=>v
 | .global g=>.pointer (iz ⟨g,0,i6⟩)
 | .func f=>.func (.func f) #[] #[]
def okO(n:Nat):fh->Bool
 | .tmp t=>oo t n
 | _=>i7
theorem ql{n:Nat}{σ:Nat->oc}{x:fh}(h:okO n x=i7):(Fr n σ).eval x=ev σ x:=by
 cases x with
 | tmp t=>simp only[Act.eval,ev];exact q77 (by simpa [okO] using h)
 | const v=>rfl
 | global g=>rfl
 | func f=>rfl

def jv:Lz o8->Nat->Oq Nat
 | [],_=>i6
 | o::_,0=>o.dst
 | _::l,j+1=>jv l j
def qf(ops:Array o8)(σ:Nat->oc)(n:Nat):Oq (Nat × Bool)->Bool
 | none=>i7
 | some (j,want) =>
  match jv ops.toList j with
  | some t=>oo t n&&(match σ t with|.bool b=>cond want b (!b)|_=>eb)
  | none=>eb
def qqy(ops:Array o8)(σ:Nat->oc)(n:Nat):Oq (Nat × Bool)->Bool
 | none=>eb
 | some (j,want) =>
  match jv ops.toList j with
  | some t=>oo t n&&(match σ t with|.bool b=>cond want (!b) b|.tuple _=>i7|_=>eb)
  | none=>eb
theorem th(l:Lz o8)(j:Nat):jv l j=(l[j]?).bind (·.dst):=by
 induction l generalizing j with
 | nil=>simp [jv]
 | cons o l ih=>cases j<;>simp [jv,ih]
theorem q4p{ops:Array o8}{σ:Nat->oc}{n:Nat}{o:o8}(h:qf ops σ n o.guard=i7):my o (yielded ops (Fr n σ).tmps)=i7:=by
 unfold qf at h;split at h
 ·rename_i a;simp [my,a]
 ·rename_i j d a;rw[th] at h;split at h
  ·rename_i t e;simp only[xf] at h;obtain⟨i,g⟩:=h;have c:t<n:=by simpa using i
   split at g
   ·rename_i b f;simp only[my,a,yielded];have:(ops[j]?).bind (·.dst)=iz t:=by simpa using e
    rw[this];simp[Fr,c,f]
    grind
   ·grind
  ·grind
theorem zgl{ops:Array o8}{σ:Nat->oc}{n:Nat}{o:o8}(h:qqy ops σ n o.guard=i7):my o (yielded ops (Fr n σ).tmps)=eb:=by
 unfold qqy at h;split at h
 ·grind
 ·rename_i j d f;rw[th] at h;split at h
  ·rename_i t e;simp only[xf] at h;obtain⟨i,g⟩:=h;have a:t<n:=by simpa using i
   split at g
   ·rename_i b c;simp only[my,f,yielded];have:(ops[j]?).bind (·.dst)=iz t:=by simpa using e
    rw[this];simp[Fr,a,c]
    grind
   ·rename_i k c;simp only[my,f,yielded];have:(ops[j]?).bind (·.dst)=iz t:=by simpa using e
    rw[this];simp[Fr,a,c]
   ·grind
  ·grind

structure Upd (S:List Nat) (w w':oh):Prop where
 os:w'.os=w.os
 tape:w'.tape=w.tape
 output:w'.output=w.output
 size:w.heap.size<=w'.heap.size
 same:∀b,b<w.heap.size->b ∉ S->w'.heap[b]?=w.heap[b]?

abbrev Upd0(w w':oh):Prop:=Upd [] w w'

def Ret(R:oc->oh->Prop):aw->oh->Prop
 | .returned v,w=>R v w
 | _,_=>False

section
variable {P : om} {n : Nat} {σ : Nat -> oc} {w : oh} {Q : Exit -> Act -> oh -> Prop} {ops : Array o8} {rest : Lz o8}
variable {d : Nat} {op : Op} {ty : ov} {pos : String} {aft : Array Edge} {g : Oq (Nat × Bool)}

theorem enter{f:Nat}{fn:Func}{c:fw}{l:Lz oc}{R:aw->oh->Prop}{nt:Nat}(hf:P.funcs[f]?=iz fn)(hb:fn.body=iz c)(hn:fn.ntmps=nt)
  (hl:og l.length nt=i7) (h:c.wp P (bodyPost P fn R) (Fr nt (argF l)) w):mi P f l.toArray w R:=by
 subst hn;refine calls_of_wp hf hb ?_;rw[zlx _ _ (xk hl)]
 grind

theorem qoa{o:o8}(hg:qf ops σ n o.guard=i7)
  (h:∀K:Act->oh->Prop,(∀a w,wpList P ops Q rest a w->K a w)->o.wp P (Fr n σ) w K Q):wpList P ops Q (o::rest) (Fr n σ) w :=
 wpList_step fun K b=>by rw[q4p hg,xx rfl];exact h K b

theorem ju{v:oc}{w':oh}(hg:qf ops σ n g=i7)(h:(execOp (Fr n σ).eval ⟨iz d,op,ty,pos,aft,g⟩).run P w=.ok (.value v) w')
  (k:wpList P ops Q rest (Fr n (upd σ d v)) w'):wpList P ops Q (⟨iz d,op,ty,pos,aft,g⟩::rest) (Fr n σ) w:=by
 refine qoa hg fun K a=>?_;unfold Oper.wp;rw[h,jar,qjl]
 grind

theorem znb{w':oh}(hg:qf ops σ n g=i7)(h:(execOp (Fr n σ).eval ⟨i6,op,ty,pos,aft,g⟩).run P w=.ok .skip w')
  (k:wpList P ops Q rest (Fr n σ) w'):wpList P ops Q (⟨i6,op,ty,pos,aft,g⟩::rest) (Fr n σ) w:=by
 refine qoa hg fun K a=>?_;unfold Oper.wp;rw[h,Oper.upon_skip];exact a _ _ k

theorem zaz{f:Nat}{args:Array oc}{w1:oh}{R:oc->oh->Prop}(hg:qf ops σ n g=i7)(h:(execOp (Fr n σ).eval ⟨iz d,op,ty,pos,aft,g⟩).run P w=.ok (.enter f args) w1)
  (hc:mi P f args w1 (Ret R)) (k:∀v w',R v w'->wpList P ops Q rest (Fr n (upd σ d v)) w') :
  wpList P ops Q (⟨iz d,op,ty,pos,aft,g⟩::rest) (Fr n σ) w:=by
 refine qoa hg fun K b=>?_;unfold Oper.wp;rw[h,Oper.upon_enter];refine hc.mono fun e w' a=>?_;cases e with
 | returned v=>show K ((Fr n σ).put (iz d) v) w';rw[qjl];exact b _ _ (k v w' a)
 | panicked c=>exact a.elim
 | outgrown=>exact a.elim

theorem qb9(hg:qqy ops σ n g=i7)(k:wpList P ops Q rest (Fr n (upd σ d undef)) w) :
  wpList P ops Q (⟨iz d,op,ty,pos,aft,g⟩::rest) (Fr n σ) w :=
 wpList_step fun K a=>by rw[zgl (o:=⟨iz d,op,ty,pos,aft,g⟩) hg,xr (by simp)];show K ((Fr n σ).put (iz d) undef) w;rw[qjl];exact a _ _ k
theorem zk8{σ:Nat->oc}{t:Nat}{v:oc}(h:σ t=v):upd σ t v=σ:=by
 funext i;unfold upd;cases a:od i t with
 | false=>rfl
 | true=>have:=xg a;subst this;exact h.symm
theorem qw{x y:fw}{a:Act}(h:∀K:Act->oh->Prop,(∀a w,y.wp P Q a w->K a w)->x.wp P (Exit.then K Q) a w):(Code.seq x y).wp P Q a w:=wp_seq_k h
theorem c_if{c:fh}{x y:fw}{p:Prop}[Decidable p](hx:okO n c=i7)(hc:ev σ c=.bool (decide p))(ht:p->x.wp P Q (Fr n σ) w)(hf:¬p->y.wp P Q (Fr n σ) w) :
  (Code.cond c x y).wp P Q (Fr n σ) w:=by
 rw[<- ql hx] at hc;by_cases a:p
 ·exact wp_cond (t:=i7) (by simpa [a] using hc) (ht a)
 ·exact wp_cond (t:=eb) (by simpa [a] using hc) (hf a)
theorem q1w{c:fh}{x y:fw}(hx:okO n c=i7)(hc:ev σ c=.bool i7)(ht:x.wp P Q (Fr n σ) w):(Code.cond c x y).wp P Q (Fr n σ) w:=by
 rw[<- ql hx] at hc;exact wp_cond_true hc ht
theorem ziq{c:fh}{x y:fw}(hx:okO n c=i7)(hc:ev σ c=.bool eb)(hf:y.wp P Q (Fr n σ) w):(Code.cond c x y).wp P Q (Fr n σ) w:=by
 rw[<- ql hx] at hc;exact wp_cond_false hc hf
theorem qx{id:Nat}{l:Lz o8}{a:Act}(h:wpList P l.toArray Q l a w):(Code.region id l.toArray eb).wp P Q a w:=wp_region_lit h
theorem ret1{fn:Func}{t:Nat}{R:oc->oh->Prop}(hr:fn.results=#[.tmp t])(ht:oo t n=i7)(h:R (σ t) w):bodyPost P fn (Ret R) .ret (Fr n σ) w :=
 bodyPost_ret (results_tmp hr _ _ _) rfl (by rw[q77 (by simpa using ht)];exact h)
theorem ret0{fn:Func}{R:oc->oh->Prop}(hr:fn.results=#[])(h:R (.tuple #[]) w):bodyPost P fn (Ret R) .ret (Fr n σ) w :=
 bodyPost_ret (results_none hr _ _ _) rfl h
theorem zt9{fn:Func}{R:oc->oh->Prop}(hr:fn.results=#[])(h:R (.tuple #[]) w):bodyPost P fn (Ret R) .normal (Fr n σ) w :=
 bodyPost_end (results_none hr _ _ _) rfl h
def upds:Lz (Nat × oc)->(Nat->oc)->Nat->oc
 | [],σ=>σ
 | (i,v)::l,σ=>upd (upds l σ) i v
def chk:Lz (Nat × oc)->(Nat->oc)->Prop
 | [],_=>True
 | (i,v)::l,σ=>σ i=v/\chk l σ
def zw(ms:Lz Nat)(τ σ:Nat->oc):Prop:=∀i,mem? ms i=eb->τ i=σ i
theorem zw.refl(ms:Lz Nat)(σ:Nat->oc):zw ms σ σ:=fun _ _=>rfl
theorem zw.upd{ms:Lz Nat}{τ σ:Nat->oc}{d:Nat}{v:oc}(hd:mem? ms d=i7)(h:zw ms τ σ):zw ms (upd τ d v) σ:=fun i a=>by
 unfold Sx.upd;cases b:od i d with
 | false=>exact h i a
 | true=>have:=xg b;subst this;rw[hd] at a;cases a
def sub?:Lz Nat->Lz Nat->Bool
 | [],_=>i7
 | d::l,ms=>cond (mem? ms d) (sub? l ms) eb
theorem qx3:∀(l ms:Lz Nat),sub? l ms=i7->∀i,mem? ms i=eb->mem? l i=eb
 | [],_,_,_,_=>rfl
 | d::l,ms,h,i,hi=>by
  unfold sub? at h;cases hd:mem? ms d with
  | false=>rw[hd] at h;cases h
  | true =>
   rw[hd] at h;unfold mem?;cases hb:od i d with
   | false=>exact qx3 l ms h i hi
   | true=>have:=xg hb;subst this;rw[hd] at hi;cases hi
theorem zw.mix{ms ms':Lz Nat}{τ σ' σ:Nat->oc}(hs:sub? ms' ms=i7)(h:zw ms σ' σ):zw ms (mix ms' τ σ') σ:=fun i a=>by
 unfold Sx.mix;rw[qx3 _ _ hs i a];exact h i a
def keys:Lz (Nat × oc)->Lz Nat
 | []=>[]
 | (i,_)::l=>i::keys l
theorem zw.upds{ms:Lz Nat}{τ σ:Nat->oc}:∀{l:Lz (Nat × oc)},sub? (keys l) ms=i7->zw ms τ σ->zw ms (upds l τ) σ
 | [],_,h=>h
 | (i,v)::l,hs,h=>by
  unfold keys sub? at hs;cases hd:mem? ms i with
  | false=>rw[hd] at hs;cases hs
  | true=>rw[hd] at hs;exact zw.upd hd (zw.upds hs h)
theorem zln{next:Act->oh->Prop}{Q:Exit->Act->oh->Prop}{a:Act}{w:oh}(h:next a w):Exit.then next Q .normal a w:=h
theorem lc{α:Type}{a a':α}{l l':Lz α}(h:a=a')(h':l=l'):a::l=a'::l':=by rw[h,h']
theorem q2w:∀(l:Lz (Nat × oc)) (σ:Nat->oc),chk l σ->upds l σ=σ
 | [],_,_=>rfl
 | (i,v)::l,σ,h=>by
  unfold upds;rw[q2w l σ h.2];exact zk8 h.1
theorem zs6{ms:Lz Nat}{τ σ:Nat->oc}(h:zw ms τ σ):mix ms τ σ=τ:=by
 funext i;unfold Sx.mix;cases a:mem? ms i with
 | true=>rfl
 | false=>exact(h i a).symm
theorem q9p{ms:Lz Nat}{l:Lz (Nat × oc)}{τ σ:Nat->oc}(h:zw ms τ σ)(hc:chk l τ):upds l (mix ms τ σ)=τ:=by
 rw[zs6 h,q2w l τ hc]

theorem zl8{P:om}{Q:Exit->Act->oh->Prop}{c:fw}{X:Type}(I:X->Act->oh->Prop)(μ:X->Nat)
  (round:∀x a w,I x a w->c.wp P (Exit.then (fun a' w'=>∃x',μ x'<μ x/\I x' a' w') Q) a w):∀x a w,I x a w->(Code.loop c).wp P Q a w:=by
 have m:∀n x a w,μ x=n->I x a w->∀(b:Frame) (k:Lz Item) (h:Lz Frame),
   ∃e a' w',Q e a' w'/\Arrives P (lone (b.at a (.code c::.inLoop c::k)) h w) b k h e a' w':=by
  intro n;induction n using Nat.strongRecOn with
  | _ n ih =>
   intro x a w t r b k h;obtain⟨e,j,i,f,d⟩:=round x a w r b (.inLoop c::k) h;cases e with
   | normal =>
    obtain⟨x',p,q⟩:=f;obtain⟨u,v,s,o,g⟩:=ih (μ x') (t▸p) x' j i rfl q b k h;exact⟨u,v,s,o,.of_steps (Steps.trans d (.one step_inLoop)) g⟩
   | exit id=>exact⟨_,j,i,f,.pass (x:=.inLoop c) rfl (fun _ _=>.inl (by simp)) d⟩
   | goto l=>exact⟨_,j,i,f,.pass (x:=.inLoop c) rfl (fun _ _=>.inl (by simp)) d⟩
   | ret=>exact⟨_,j,i,f,.pass (x:=.inLoop c) rfl (fun _ _=>.inl (by simp)) d⟩
   | panic ch=>exact⟨_,j,i,f,.pass (x:=.inLoop c) rfl (fun _ _=>.inl (by simp)) d⟩
   | outgrown=>exact⟨_,j,i,f,.pass (x:=.inLoop c) rfl (fun _ _=>.inl (by simp)) d⟩
 intro x a w r b k h;obtain⟨e,a',w',f,d⟩:=m _ x a w rfl r b k h;exact⟨e,a',w',f,.of_steps (.one step_loop) d⟩

theorem zj6{c:fw}{X:Type}(ms:Lz Nat)(sl:X->Lz (Nat × oc))(J:X->oh->Prop)(μ:X->Nat)(x0:X)(hs:chk (sl x0) σ)(h0:J x0 w)
  (round:∀x τ w1,J x w1->c.wp P (Exit.then (fun a' w'=>∃x',μ x'<μ x/\J x' w'/\∃σ',a'=Fr n σ'/\zw ms σ' σ/\chk (sl x') σ') Q) (Fr n (upds (sl x) (mix ms τ σ))) w1) :
  (Code.loop c).wp P Q (Fr n σ) w:=by
 refine zl8 (I:=fun x a w1=>J x w1/\∃σ',a=Fr n σ'/\zw ms σ' σ/\chk (sl x) σ') μ ?_ x0 _ _ ⟨h0,σ,rfl,zw.refl _ _,hs⟩;rintro x a w1 ⟨e,σ',rfl,d,b⟩;have:=round x σ' w1 e
 rwa [q9p d b] at this
theorem q74{c y:fw}{X:Type}(ms:Lz Nat)(sl:X->Lz (Nat × oc))(J:X->oh->Prop)
  (h:c.wp P (Exit.then (fun a' w'=>∃x',J x' w'/\∃σ',a'=Fr n σ'/\zw ms σ' σ/\chk (sl x') σ') Q) (Fr n σ) w)
  (k:∀x τ w1,J x w1->y.wp P Q (Fr n (upds (sl x) (mix ms τ σ))) w1):(Code.seq c y).wp P Q (Fr n σ) w:=by
 refine wp_seq (Code.wp_mono ?_ h);intro e a w1 b;cases e with
 | normal =>
  obtain⟨x',g,σ',rfl,f,d⟩:=b;have:=k x' σ' w1 g;rw[q9p f d] at this;exact this
 | _=>exact b
end


theorem Upd.refl(S:Lz Nat)(w:oh):Upd S w w:=⟨rfl,rfl,rfl,xl _,fun _ _ _=>rfl⟩
theorem Upd.trans{S:Lz Nat}{a b c:oh}(h:Upd S a b)(k:Upd S b c):Upd S a c :=
 ⟨k.os.trans h.os,k.tape.trans h.tape,k.output.trans h.output,py h.size k.size,
  fun i e d=>(k.same i (pz e h.size) d).trans (h.same i e d)⟩
theorem Upd.mono{S T:Lz Nat}{a b:oh}(h:Upd S a b)(hs:∀x∈S,x∈T):Upd T a b :=
 ⟨h.os,h.tape,h.output,h.size,fun i e c=>h.same i e fun d=>c (hs i d)⟩
theorem Upd.drew(S:Lz Nat)(w:oh):Upd S w { w with drawn:=w.drawn+1 }:=⟨rfl,rfl,rfl,xl _,fun _ _ _=>rfl⟩
theorem Upd.below{w w':oh}(h:Upd [] w w'):Below w.heap.size w w' :=
 ⟨h.os,h.tape,h.output,h.size,fun k a=>h.same k a (by simp)⟩
theorem Upd.of_below{w w':oh}(h:Below w.heap.size w w'):Upd [] w w' :=
 ⟨h.os,h.tape,h.output,h.size,fun k a _=>h.block k a⟩

structure Tr (M:List Nat) (w:oh) (M':List Nat) (w':oh):Prop where
 keep:∀b,b<w.heap.size->b ∉ M->b ∉ M'/\w'.heap[b]?=w.heap[b]?
theorem Tr.refl(M:Lz Nat)(w:oh):Tr M w M w:=⟨fun _ _ h=>⟨h,rfl⟩⟩
theorem Tr.lt{M M':Lz Nat}{w w':oh}(h:Tr M w M' w'){b:Nat}(hb:b<w.heap.size)(hm:b ∉ M):b<w'.heap.size:=by
 have:=(h.keep b hb hm).2
 grind
theorem Tr.trans{M M' M'':Lz Nat}{w w' w'':oh}(h:Tr M w M' w')(k:Tr M' w' M'' w''):Tr M w M'' w'' :=
 ⟨fun b c a=>by
  obtain⟨g,f⟩:=h.keep b c a;obtain⟨e,d⟩:=k.keep b (h.lt c a) g;exact⟨e,d.trans f⟩⟩
theorem Tr.sub{M M':Lz Nat}(w:oh)(h:∀b∈M',b∈M):Tr M w M' w:=⟨fun b _ a=>⟨fun c=>a (h b c),rfl⟩⟩

structure Evo (m:List Nat) (w:oh) (m':List Nat) (w':oh):Prop where
 os:w'.os=w.os
 tape:w'.tape=w.tape
 output:w'.output=w.output
 size:w.heap.size<=w'.heap.size
 own:∀b∈m',b∈m\/w.heap.size<=b
 lo:(∀b∈m,b<w.heap.size)->∀b∈m',b<w'.heap.size
 same:∀b,b<w.heap.size->b ∉ m->w'.heap[b]?=w.heap[b]?
theorem Evo.refl(m:Lz Nat)(w:oh):Evo m w m w:=⟨rfl,rfl,rfl,xl _,fun _ h=>.inl h,fun h=>h,fun _ _ _=>rfl⟩
theorem Evo.trans{m m' m'':Lz Nat}{w w' w'':oh}(h:Evo m w m' w')(k:Evo m' w' m'' w''):Evo m w m'' w'' :=
 ⟨k.os.trans h.os,k.tape.trans h.tape,k.output.trans h.output,py h.size k.size,
  fun b a=>by
    rcases k.own b a with h1|h1
    · exact h.own b h1
    · exact .inr (py h.size h1),
  fun d=>k.lo (h.lo d),
  fun b a c=>by
    refine(k.same b (pz a h.size) fun e=>?_).trans (h.same b a c);rcases h.own b e with h1|h1
    · exact c h1
    · omega⟩
theorem Evo.tr{m m':Lz Nat}{w w':oh}(h:Evo m w m' w')(M:Lz Nat):Tr (m++M) w (m'++M) w' :=
 ⟨fun b c a=>by
  simp only[p4,not_or] at a ⊢;refine⟨⟨fun d=>?_,a.2⟩,h.same b c a.1⟩;rcases h.own b d with h1|h1
  ·exact a.1 h1
  ·omega⟩
theorem Evo.old{m:Lz Nat}{w w':oh}(h:Evo [] w m w'):Upd [] w w' :=
 ⟨h.os,h.tape,h.output,h.size,fun b a _=>h.same b a (by simp)⟩
theorem Evo.drop{m m' m'':Lz Nat}{w w':oh}(h:Evo m w m' w')(hs:∀b∈m'',b∈m'):Evo m w m'' w' :=
 ⟨h.os,h.tape,h.output,h.size,fun b a=>h.own b (hs b a),fun c b a=>h.lo c b (hs b a),h.same⟩
def Lo(M:Lz Nat)(w:oh):Prop:=∀b∈M,b<w.heap.size
theorem Lo.mono{M:Lz Nat}{w w':oh}(h:Lo M w)(hs:w.heap.size<=w'.heap.size):Lo M w':=fun b a=>pz (h b a) hs


def one:oc->Bool
 | .agg _=>eb
 | .tuple _=>eb
 | _=>i7
class Dat (α:Type) where
 sz:Nat
 enc:List Nat->oh->List oc->α->Prop
 len:∀{M w cs x},enc M w cs x->cs.length=sz
 mono:∀{M M' w w' cs x},enc M w cs x->Tr M w M' w'->enc M' w' cs x
 ones:∀{M w cs x},enc M w cs x->cs.all one=i7
open Dat (enc)

def SL{α:Type}[Dat α](M:Lz Nat)(w:oh)(a:Oq f9)(cap:Nat)(l:Lz α):Prop :=
 (l.length<=cap/\cap<9223372036854775808) /\
  (l=[]\/∃b off cells t fz,a=iz ⟨b,off,i6⟩/\b ∉ M/\w.heap[b]?=iz (.cells cells t fz) /\
   ∀i (h:i<l.length),∃cs,enc M w cs l[i]/\∀j,j<Dat.sz α->cells[off+i*Dat.sz α+j]?=cs[j]?)

theorem qk{w:oh}{b:Nat}{o:Obj}(hh:w.heap[b]?=iz o):b<w.heap.size:=by
 grind

theorem SL.mono{α:Type}[Dat α]{M M':Lz Nat}{w w':oh}{a:Oq f9}{cap:Nat}{l:Lz α}(h:SL M w a cap l)(t:Tr M w M' w'):SL M' w' a cap l:=by
 obtain⟨m,h⟩:=h;refine⟨m,?_⟩;rcases h with h|⟨b,d,c,g,r,o,n,f,j⟩
 ·grind
 ·obtain⟨q,p⟩:=t.keep b (qk f) n;refine .inr ⟨b,d,c,g,r,o,q,p.trans f,fun i h=>?_⟩;obtain⟨s,k,e⟩:=j i h;exact⟨s,Dat.mono k t,e⟩
theorem SL.nil{α:Type}[Dat α]{M:Lz Nat}{w:oh}:SL M w i6 0 ([]:Lz α):=⟨⟨xl _,by omega⟩,.inl rfl⟩
instance:Dat Int where
 sz:=1
 enc _ _ cs x:=cs=[.int .i64 x]
 len h:=by rw[h];rfl
 mono h _:=h
 ones h:=by rw[h];rfl
instance:Dat UInt8 where
 sz:=1
 enc _ _ cs x:=cs=[.int .u8 x.toNat]
 len h:=by rw[h];rfl
 mono h _:=h
 ones h:=by rw[h];rfl
instance:Dat Bool where
 sz:=1
 enc _ _ cs x:=cs=[.bool x]
 len h:=by rw[h];rfl
 mono h _:=h
 ones h:=by rw[h];rfl
instance:Dat Bq where
 sz:=1
 enc _ _ cs x:=cs=[.string x]
 len h:=by rw[h];rfl
 mono h _:=h
 ones h:=by rw[h];rfl
instance {α:Type} [Dat α]:Dat (Lz α) where
 sz:=1
 enc M w cs l:=∃a cap,cs=[.slice a l.length cap]/\SL M w a cap l
 len h:=by obtain⟨a,c,h,_⟩:=h;rw[h];rfl
 mono h t:=by obtain⟨a,c,h,hs⟩:=h;exact⟨a,c,h,hs.mono t⟩
 ones h:=by obtain⟨a,c,h,_⟩:=h;rw[h];rfl

def At{α:Type}[Dat α](M:Lz Nat)(w:oh)(ad:f9)(x:α):Prop :=
 ad.spot=i6/\ad.block ∉ M/\ad.block<w.heap.size/\∃cs,enc M w cs x/\∀j,j<Dat.sz α->w.cell? ⟨ad.block,ad.off+j,i6⟩=cs[j]?
theorem At.mono{α:Type}[Dat α]{M M':Lz Nat}{w w':oh}{ad:f9}{x:α}(h:At M w ad x)(t:Tr M w M' w'):At M' w' ad x:=by
 obtain⟨i,b,a,k,g,f⟩:=h;obtain⟨e,d⟩:=t.keep _ a b;refine⟨i,e,t.lt a b,k,Dat.mono g t,fun j c=>?_⟩;rw[<- f j c];simp only[fu,d]

theorem SL.at{α:Type}[Dat α]{M:Lz Nat}{w:oh}{a:Oq f9}{cap:Nat}{l:Lz α}(h:SL M w a cap l){i:Nat}(hi:i<l.length) :
  ∃b off,a=iz ⟨b,off,i6⟩/\At M w ⟨b,off+i*Dat.sz α,i6⟩ l[i]:=by
 obtain⟨q,h⟩:=h;rcases h with h|⟨b,off,e,p,r,n,m,f,c⟩
 ·grind
 ·subst n;obtain⟨o,k,d⟩:=c i hi;refine⟨b,off,rfl,rfl,m,qk f,o,k,fun j g=>?_⟩;rw[<- d j g];simp [fu,f]

def Box(w:oh)(β:Nat)(cs:Lz oc):Prop:=∃t,w.heap[β]?=iz (.cells cs.toArray t (0,0))
theorem Box.lt{w:oh}{β:Nat}{cs:Lz oc}(h:Box w β cs):β<w.heap.size:=by
 obtain⟨t,h⟩:=h
 grind
theorem Box.mono{S:Lz Nat}{w w':oh}{β:Nat}{cs:Lz oc}(h:Box w β cs)(u:Upd S w w')(hs:β ∉ S):Box w' β cs:=by
 have:=h.lt;obtain⟨t,h⟩:=h;exact⟨t,(u.same β this hs).trans h⟩
theorem Box.mono0{w w':oh}{β:Nat}{cs:Lz oc}(h:Box w β cs)(u:Upd [] w w'):Box w' β cs:=h.mono u (by simp)
theorem Box.cell{w:oh}{β:Nat}{cs:Lz oc}(h:Box w β cs)(j:Nat):w.cell? ⟨β,j,i6⟩=cs[j]?:=by
 obtain⟨t,h⟩:=h;simp[fu,h]
end Go.Sx
end

noncomputable section
namespace Go.Sx
open Go Go.RowKit
open Go.Sx.Dat (enc)

structure Ty (P:om) (T:ov) (d:fd) (size bytes:Nat) (zero:oc):Prop where
 und:P.underlying T=iz d
 inf:∃i,P.info? T=iz i/\i.size=size/\i.bytes=bytes/\i.zero=iz zero

theorem Ty.mk'{P:om}{T:ov}{d:fd}{size bytes:Nat}{zero:oc}(h1:P.underlying T=iz d)(h2:(P.info? T).map (fun i=>(i.size,i.bytes,i.zero))=iz (size,bytes,iz zero)):Ty P T d size bytes zero:=by
 refine⟨h1,?_⟩;cases h:P.info? T with
 | none=>rw[h] at h2;cases h2
 | some i =>
  grind
def qv:fd->Bool
 | .struct _=>eb
 | .array _ _=>eb
 | _=>i7

def putL:Lz oc->Nat->Lz oc->Lz oc
 | cs,_,[]=>cs
 | cs,o,v::vs=>putL (cs.set o v) (o+1) vs

section
variable {P : om} {w : oh} {T : ov} {D : fd} {size bytes : Nat} {zero : oc}

theorem qce(h:Ty P T D size bytes zero):(isAgg T).run P w=.ok (!qv D) w:=by
 cases D<;>simp [isAgg,go_sem,xm h.und,qv]
theorem run_sizeOf(h:Ty P T D size bytes zero):(sizeOf T).run P w=.ok size w:=by
 obtain⟨i,b,a,_,_⟩:=h.inf;simp[sizeOf,go_sem,typeInfo,b,a]
theorem run_zeroValue(h:Ty P T D size bytes zero):(zeroValue T).run P w=.ok zero w:=by
 obtain⟨i,b,_,_,a⟩:=h.inf;simp[zeroValue,go_sem,typeInfo,b,a]
theorem qcm(h:Ty P T D size bytes zero)(hd:qv D=i7){ad:f9}{v:oc}(hc:w.cell? ad=iz v) :
  (af T (.pointer (iz ad))).run P w=.ok v w:=by
 simp[af,mh,loadVar,go_sem,qce h,hd,load,ay,hc]

theorem ja(ad:f9)(h:ad.spot=i6)(j:Nat):ad.add j=⟨ad.block,ad.off+j,i6⟩:=by
 cases ad;simp only at h;subst h;unfold Addr.add;split
 ·grind
 ·rfl
theorem run_loadCellsFrom{ad:f9}:∀(cs:Lz oc) (i:Nat) (acc:Array oc),(∀j,j<cs.length->w.cell? (ad.add (i+j))=cs[j]?) ->
  (loadCellsFrom ad i cs.length acc).run P w=.ok (acc++cs.toArray) w
 | [],i,acc,_=>by simp[loadCellsFrom,go_sem]
 | c::cs,i,acc,h=>by
  have h0:=h 0 (by simp);have ih:=run_loadCellsFrom cs (i+1) (acc.push c) (fun j hj=>by
   have:=h (j+1) (by simp;omega);rw[show i+1+j=i+(j+1) by omega,this];simp)
  simp only[xw,loadCellsFrom];simp only[g8,xo] at h0;simp[go_sem,load,ay,h0,ih]
theorem qlv(h:Ty P T D size bytes zero)(hd:qv D=eb){ad:f9}(hs:ad.spot=i6){cs:Lz oc}(hl:cs.length=size)
  (hc:∀j,j<size->w.cell? ⟨ad.block,ad.off+j,i6⟩=cs[j]?) :
  (af T (.pointer (iz ad))).run P w=.ok (.agg cs.toArray) w:=by
 subst hl;have:=run_loadCellsFrom (P:=P) (w:=w) (ad:=ad) cs 0 #[] (fun j a=>by rw[ja ad hs];simpa using hc j a);simp[af,mh,loadVar,go_sem,qce h,run_sizeOf h,hd,loadCells,this]

theorem Upd.push(w:oh)(o:Obj):Upd [] w { w with heap:=w.heap.push o } :=
 ⟨rfl,rfl,rfl,by simp,fun b a _=>by
  show (w.heap.push o)[b]?=_;rw[jah,xr (by omega)]⟩
theorem Box.push(w:oh)(cs:Lz oc)(t:ov):Box { w with heap:=w.heap.push (.cells cs.toArray t) } w.heap.size cs :=
 ⟨t,by simp⟩

theorem run_store{β:Nat}:∀(vs:Lz oc) {w:oh} {cs:Lz oc} (o i:Nat),Box w β cs->o+i+vs.length<=cs.length->vs.all one=i7 ->
  ∃w',(storeCells ⟨β,o,i6⟩ vs i).run P w=.ok () w'/\Box w' β (putL cs (o+i) vs)/\Upd [β] w w'/\w'.heap.size=w.heap.size
 | [],w,cs,o,i,hb,_,_=>⟨w,by simp[storeCells,go_sem],hb,Upd.refl _ _,rfl⟩
 | v::vs,w,cs,o,i,hb,hl,ho=>by
  simp only[gu,xf,xw] at ho hl;have hlt:=hb.lt;obtain⟨t,hh⟩:=hb;have hc:w.cell? ⟨β,o+i,i6⟩=cs[o+i]?:=by simp[fu,hh]
  have hcv:cs[o+i]?=iz cs[o+i]:=by rw[xc (by omega)]
  have hfz:w.frozen? ⟨β,o+i,i6⟩=eb:=by simp[World.frozen?,hh]
  have hb1:Box (w.setCell ⟨β,o+i,i6⟩ v) β (cs.set (o+i) v):=by
   refine⟨t,?_⟩;simp[fp,gv,hh]
  have hu:Upd [β] w (w.setCell ⟨β,o+i,i6⟩ v):=by
   refine⟨rfl,rfl,rfl,by simp[fp],fun b hb hm=>?_⟩;simp only[fp,gv]
   grind
  obtain⟨w',h1,h2,h3,h4⟩:=run_store vs o (i+1) hb1 (by simp;omega) ho.2;refine⟨w',?_,?_,hu.trans h3,?_⟩
  ·have e:(⟨β,o,i6⟩:f9).add i=⟨β,o+i,i6⟩:=ja _ rfl _;have hst:(store ⟨β,o+i,i6⟩ v).run P w=.ok () (w.setCell ⟨β,o+i,i6⟩ v):=by
    have hv1:=ho.1;cases v with
    | agg _=>simp [one] at hv1
    | tuple _=>simp [one] at hv1
    | _=>simp only[store,ay,hc,hcv,hfz];rfl
   simp only[storeCells,e,xh];rw[hst];exact h1
  ·simpa [putL,jai] using h2
  ·rw[h4];simp [fp]
theorem q8u(h:Ty P T D size bytes zero){β o:Nat}{cs:Lz oc}{v:oc}(hb:Box w β cs)(hv:v.cells.size=size)(hl:o+size<=cs.length)
  (ho:v.cells.toList.all one=i7) :
  ∃w',(m6 T (.pointer (iz ⟨β,o,i6⟩)) v).run P w=.ok () w'/\Box w' β (putL cs o v.cells.toList)/\Upd [β] w w'/\w'.heap.size=w.heap.size:=by
 obtain⟨w',b,a⟩:=run_store (P:=P) v.cells.toList o 0 hb (by simp;omega) ho;refine⟨w',?_,a⟩;simp only[m6,mh,storeVar,xh,xd,xb,run_sizeOf h,hv,ne_eq,pq,p9,b]
end

section
variable {P : om} {n : Nat} {σ : Nat -> oc} {w : oh} {Q : Exit -> Act -> oh -> Prop} {ops : Array o8} {rest : Lz o8}
variable {d : Nat} {ty : ov} {pos : String} {aft : Array Edge} {g : Oq (Nat × Bool)}
variable {T T' E : ov} {D : fd} {size bytes : Nat} {zero : oc} {x y z : fh}

theorem qh{v:oc}(hg:qf ops σ n g=i7)(hx:okO n x=i7)(ex:ev σ x=v)(k:wpList P ops Q rest (Fr n (upd σ d v)) w) :
  wpList P ops Q (⟨iz d,.move x,ty,pos,aft,g⟩::rest) (Fr n σ) w :=
 ju hg (by simp only[execOp,ql hx,ex,xd]) k
theorem j8{v:oc}(hg:qf ops σ n g=i7)(hx:okO n x=i7)(ex:ev σ x=v)(k:wpList P ops Q rest (Fr n (upd σ d v)) w) :
  wpList P ops Q (⟨iz d,.assign x,ty,pos,aft,g⟩::rest) (Fr n σ) w :=
 ju hg (by simp only[execOp,ql hx,ex,xd]) k
theorem qun{v:oc}(hg:qf ops σ n g=i7)(hx:(okO n x&&okO n y&&okO n z)=i7)(ex:ev σ x=.bool i7)(ey:ev σ y=v)(k:wpList P ops Q rest (Fr n (upd σ d v)) w) :
  wpList P ops Q (⟨iz d,.pick x y z,ty,pos,aft,g⟩::rest) (Fr n σ) w:=by
 simp only[xf] at hx;exact ju hg (by simp only[execOp,ql hx.1.1,ql hx.1.2,ql hx.2,ex,ey,asBool,xh,xd,xb,dv,p9,pu]) k
theorem q7a{v:oc}(hg:qf ops σ n g=i7)(hx:(okO n x&&okO n y&&okO n z)=i7)(ex:ev σ x=.bool eb)(ey:ev σ z=v)(k:wpList P ops Q rest (Fr n (upd σ d v)) w) :
  wpList P ops Q (⟨iz d,.pick x y z,ty,pos,aft,g⟩::rest) (Fr n σ) w:=by
 simp only[xf] at hx;exact ju hg (by simp only[execOp,ql hx.1.1,ql hx.1.2,ql hx.2,ex,ey,asBool,xh,xd,xb,dv,p9,pu]) k
theorem q50(a b:Bq):(a.toList==b.toList)=decide (a=b):=by
 rw[jaf];simp only[beq_iff_eq,rp,ByteArray.toList_eq];constructor
 ·intro h;cases a;cases b;simp only at h;rename_i x y;cases x;cases y;simp only at h;rw[h]
 ·grind
theorem qab{op:BinOp}{u v r:oc}(hg:qf ops σ n g=i7)(hx:(okO n x&&okO n y)=i7)(ex:ev σ x=u)(ey:ev σ y=v)
  (h1:(binOp op T u v).run P w=.ok r w) (h0:(eqGuard op T x y u v).run P w=.ok () w)
  (k:wpList P ops Q rest (Fr n (upd σ d r)) w):wpList P ops Q (⟨iz d,.binOp op T x y T',ty,pos,aft,g⟩::rest) (Fr n σ) w:=by
 simp only[xf] at hx;refine ju hg ?_ k;simp only[execOp,ql hx.1,ql hx.2,ex,ey,xh,h0,xb,h1,xd]
theorem sd{op:BinOp}{a b:Int}{kk kk':ff}:(eqGuard op T x y (.int kk a) (.int kk' b)).run P w=.ok () w:=by
 cases op<;>rfl
theorem q1m{a b:Int}{kk:ff}(hg:qf ops σ n g=i7)(hx:(okO n x&&okO n y)=i7)(ex:ev σ x=.int kk a)(ey:ev σ y=.int kk b)
  (k:wpList P ops Q rest (Fr n (upd σ d (.bool (decide (a<b))))) w):wpList P ops Q (⟨iz d,.binOp .lss T x y T',ty,pos,aft,g⟩::rest) (Fr n σ) w :=
 qab hg hx ex ey (by simp only[binOp,ne_eq,pq,p9,al,xd]) sd k
theorem qsi{a b:Int}{kk:ff}(hg:qf ops σ n g=i7)(hx:(okO n x&&okO n y)=i7)(ex:ev σ x=.int kk a)(ey:ev σ y=.int kk b)
  (k:wpList P ops Q rest (Fr n (upd σ d (.bool (decide (b<a))))) w):wpList P ops Q (⟨iz d,.binOp .gtr T x y T',ty,pos,aft,g⟩::rest) (Fr n σ) w :=
 qab hg hx ex ey (by simp only[binOp,ne_eq,pq,p9,al,xd]) sd k
theorem za0{a b:Int}{kk:ff}(hg:qf ops σ n g=i7)(hx:(okO n x&&okO n y)=i7)(ex:ev σ x=.int kk a)(ey:ev σ y=.int kk b)
  (k:wpList P ops Q rest (Fr n (upd σ d (.bool (decide (b<=a))))) w):wpList P ops Q (⟨iz d,.binOp .geq T x y T',ty,pos,aft,g⟩::rest) (Fr n σ) w :=
 qab hg hx ex ey (by simp only[binOp,ne_eq,pq,p9,al,xd]) sd k
theorem q4u{a b:Int}{kk:ff}(hg:qf ops σ n g=i7)(hx:(okO n x&&okO n y)=i7)(ex:ev σ x=.int kk a)(ey:ev σ y=.int kk b)
  (k:wpList P ops Q rest (Fr n (upd σ d (.bool (decide (a=b))))) w):wpList P ops Q (⟨iz d,.binOp .eql T x y T',ty,pos,aft,g⟩::rest) (Fr n σ) w :=
 qab hg hx ex ey (by simp only[binOp,ne_eq,pq,p9,al,xd];congr 2) sd k
theorem qwj{a b:Int}{kk:ff}(hg:qf ops σ n g=i7)(hx:(okO n x&&okO n y)=i7)(ex:ev σ x=.int kk a)(ey:ev σ y=.int kk b)
  (k:wpList P ops Q rest (Fr n (upd σ d (.bool (decide (a≠b))))) w):wpList P ops Q (⟨iz d,.binOp .neq T x y T',ty,pos,aft,g⟩::rest) (Fr n σ) w :=
 qab hg hx ex ey (by simp only[binOp,ne_eq,pq,p9,al,xd];congr 2;rw[jaf];simp) sd k
theorem kn{a:Int}(h:-9223372036854775808<=a/\a<9223372036854775808):IntKind.i64.wrap a=a:=by
 simp only[ag,IntKind.min,az,m8]
 grind
theorem qq0{a b:Int}(hg:qf ops σ n g=i7)(hx:(okO n x&&okO n y)=i7)(ex:ev σ x=.int .i64 a)(ey:ev σ y=.int .i64 b)(hr:-9223372036854775808<=a+b/\a+b<9223372036854775808)
  (k:wpList P ops Q rest (Fr n (upd σ d (.int .i64 (a+b)))) w):wpList P ops Q (⟨iz d,.binOp .add T x y T',ty,pos,aft,g⟩::rest) (Fr n σ) w :=
 qab hg hx ex ey (by simp only[binOp,ne_eq,pq,p9,im,xd,kn hr]) sd k
theorem q71{a b:Int}(hg:qf ops σ n g=i7)(hx:(okO n x&&okO n y)=i7)(ex:ev σ x=.int .i64 a)(ey:ev σ y=.int .i64 b)(hr:-9223372036854775808<=a-b/\a-b<9223372036854775808)
  (k:wpList P ops Q rest (Fr n (upd σ d (.int .i64 (a-b)))) w):wpList P ops Q (⟨iz d,.binOp .sub T x y T',ty,pos,aft,g⟩::rest) (Fr n σ) w :=
 qab hg hx ex ey (by simp only[binOp,ne_eq,pq,p9,im,xd,kn hr]) sd k
theorem bsz{s:Bq}(h:¬s=⟨#[]⟩):0<s.size:=by
 rcases jbh s.size with h0|h0
 ·exact absurd (ByteArray.ext (jbv h0)) h
 ·grind
theorem qy2{b:Bool}(hg:qf ops σ n g=i7)(hx:okO n x=i7)(ex:ev σ x=.bool b)
  (k:wpList P ops Q rest (Fr n (upd σ d (.bool (!b)))) w):wpList P ops Q (⟨iz d,.unOp .not T x,ty,pos,aft,g⟩::rest) (Fr n σ) w :=
 ju hg (by simp only[execOp,ql hx,ex,Op.unary,xh,xd,xb]) k
theorem zbb{a:Oq f9}{l c:Nat}(hT:Ty P T (.slice E) size bytes zero)(hg:qf ops σ n g=i7)(hx:okO n x=i7)(ex:ev σ x=.slice a l c)
  (k:wpList P ops Q rest (Fr n (upd σ d (.int .i64 l))) w):wpList P ops Q (⟨iz d,.call ⟨.builtin .len,#[x],#[T]⟩,ty,pos,aft,g⟩::rest) (Fr n σ) w :=
 ju hg (by
  have b:(#[x].map (Fr n σ).eval)=#[Value.slice a l c]:=by simp[ql hx,ex]
  simp only[execOp,resolve,b,invoke,builtin,ah,xh,xd,xb,pf,xo,xm hT.und,goInt]) k
theorem qth{s:Bq}(hT:P.underlying T=iz .string)(hg:qf ops σ n g=i7)(hx:okO n x=i7)(ex:ev σ x=.string s)
  (k:wpList P ops Q rest (Fr n (upd σ d (.int .i64 s.size))) w):wpList P ops Q (⟨iz d,.call ⟨.builtin .len,#[x],#[T]⟩,ty,pos,aft,g⟩::rest) (Fr n σ) w :=
 ju hg (by
  have a:(#[x].map (Fr n σ).eval)=#[Value.string s]:=by simp[ql hx,ex]
  simp only[execOp,resolve,a,invoke,builtin,ah,xh,xd,xb,pf,xo,xm hT,goInt]) k
theorem q05{vs:Array oc}{i:Nat}{v:oc}(hg:qf ops σ n g=i7)(hx:okO n x=i7)(ex:ev σ x=.tuple vs)(hi:vs.toList[i]?=iz v)
  (k:wpList P ops Q rest (Fr n (upd σ d v)) w):wpList P ops Q (⟨iz d,.extract x i,ty,pos,aft,g⟩::rest) (Fr n σ) w :=
 ju hg (by
  have a:vs[i]?=iz v:=by simpa using hi
  simp only[execOp,ql hx,ex,Instr.extract,a,xh,xd,xb]) k
def evs(σ:Nat->oc)(l:Lz fh):Lz oc:=l.map (ev σ)
def okOs(n:Nat):Lz fh->Bool
 | []=>i7
 | x::l=>cond (okO n x) (okOs n l) eb
theorem zzs{l:Lz fh}(h:okOs n l=i7):l.toArray.map (Fr n σ).eval=(evs σ l).toArray:=by
 simp only[List.map_toArray,evs];congr 1;apply rq;intro x a;apply ql;induction l with
 | nil=>simp at a
 | cons y l ih =>
  have c:okO n y=i7/\okOs n l=i7:=by
   unfold okOs at h;cases b:okO n y<;>simp [b] at h<;>simp [h]
  grind
def zg (P:om) (f:Nat):Prop:=∃fn,P.funcs[f]?=iz fn/\fn.body.isSome=i7/\(fn.name == "runtime.NumGoroutine") = eb

theorem qew{f:Nat}{l:Lz fh}{args:Lz oc}{ts:Array ov}{R:oc->oh->Prop}(hF:zg P f)
  (hg:qf ops σ n g=i7) (hx:okOs n l=i7) (ea:evs σ l=args) (hc:mi P f args.toArray w (Ret R)) (k:∀v w',R v w'->wpList P ops Q rest (Fr n (upd σ d v)) w') :
  wpList P ops Q (⟨iz d,.call ⟨.value (.func f),l.toArray,ts⟩,ty,pos,aft,g⟩::rest) (Fr n σ) w :=
 zaz hg (by
  obtain⟨b,e,i,c⟩:=hF;have a:b.body.isNone=eb:=by cases h:b.body<;>simp [h] at i ⊢
  simp only[execOp,resolve,Act.eval,ma,invoke,callFunc,zzs hx,ea,xh,xd,xb,jb1,e,a,c,pu,p9];simp) hc k
theorem zlf{ad:f9}{v:oc}(hT:Ty P T D size bytes zero)(hd:qv D=i7)(hg:qf ops σ n g=i7)(hx:okO n x=i7)(ex:ev σ x=.pointer (iz ad))(hc:w.cell? ad=iz v)
  (k:wpList P ops Q rest (Fr n (upd σ d v)) w):wpList P ops Q (⟨iz d,.load T x,ty,pos,aft,g⟩::rest) (Fr n σ) w :=
 ju hg (by simp only[execOp,ql hx,ex,qcm hT hd hc,xh,xd,xb]) k
theorem qg0{β o:Nat}{cs:Lz oc}{v:oc}(hT:Ty P T D size bytes zero)(hd:qv D=i7)(hg:qf ops σ n g=i7)(hx:okO n x=i7)(ex:ev σ x=.pointer (iz ⟨β,o,i6⟩))(hb:Box w β cs)(hc:cs[o]?=iz v)
  (k:wpList P ops Q rest (Fr n (upd σ d v)) w):wpList P ops Q (⟨iz d,.load T x,ty,pos,aft,g⟩::rest) (Fr n σ) w :=
 zlf hT hd hg hx ex ((hb.cell o).trans hc) k
def yv:Nat->Nat->Lz oc->Lz oc
 | _,0,_=>[]
 | _,_+1,[]=>[]
 | 0,m+1,v::l=>v::yv 0 m l
 | o+1,m+1,_::l=>yv o (m+1) l
theorem qvw:∀(o m:Nat) (l:Lz oc) (j:Nat),o+m<=l.length->j<m->l[o+j]?=(yv o m l)[j]?
 | o,0,l,j,_,h=>by omega
 | o,m+1,[],j,h,_=>by simp at h
 | 0,m+1,v::l,0,h,_=>by simp[yv]
 | 0,m+1,v::l,j+1,h,h'=>by
  have:=qvw 0 m l j (by simp at h;omega) (by omega);simp only[x6] at this;simp[yv,this]
 | o+1,m+1,v::l,j,h,h'=>by
  have:=qvw o (m+1) l j (by simp at h;omega) h';rw[show o+1+j=(o+j)+1 by omega];simp[yv,this]
theorem quf:∀(o m:Nat) (l:Lz oc),o+m<=l.length->(yv o m l).length=m
 | o,0,l,_=>by simp[yv]
 | o,m+1,[],h=>by simp at h
 | 0,m+1,v::l,h=>by simp[yv,quf 0 m l (by simp at h;omega)]
 | o+1,m+1,v::l,h=>by simp[yv,quf o (m+1) l (by simp at h;omega)]
theorem zlg{β o:Nat}{cs ds:Lz oc}(hT:Ty P T D size bytes zero)(hd:qv D=eb)(hg:qf ops σ n g=i7)(hx:okO n x=i7)(ex:ev σ x=.pointer (iz ⟨β,o,i6⟩))(hb:Box w β cs)
  (hl:og (o+size) cs.length=i7) (hds:yv o size cs=ds) (k:wpList P ops Q rest (Fr n (upd σ d (.agg ds.toArray))) w):wpList P ops Q (⟨iz d,.load T x,ty,pos,aft,g⟩::rest) (Fr n σ) w:=by
 have a:=xk hl;subst hds;exact ju hg (by
  simp only[execOp,ql hx,ex,xh,xd,xb];rw[qlv hT hd rfl (quf _ _ _ a) (fun j b=>by rw[hb.cell];exact qvw _ _ _ _ a b)];rfl) k
structure CA (M:List Nat) (w:oh) (ad:f9) (cs:List oc):Prop where
 spot:ad.spot=i6
 out:ad.block ∉ M
 lt:ad.block<w.heap.size
 cell:∀j,j<cs.length->w.cell? ⟨ad.block,ad.off+j,i6⟩=cs[j]?
theorem CA.mono{M M':Lz Nat}{w w':oh}{ad:f9}{cs:Lz oc}(h:CA M w ad cs)(t:Tr M w M' w'):CA M' w' ad cs:=by
 obtain⟨c,b⟩:=t.keep _ h.lt h.out;refine⟨h.spot,c,t.lt h.lt h.out,fun j a=>?_⟩;rw[<- h.cell j a];simp only[fu,b]
theorem At.open{α:Type}[Dat α]{M:Lz Nat}{w:oh}{ad:f9}{u:α}(h:At M w ad u):∃cs,enc M w cs u/\CA M w ad cs:=by
 obtain⟨f,e,d,cs,a,c⟩:=h;exact⟨cs,a,f,e,d,fun j b=>c j (by rw[<- Dat.len a];exact b)⟩
def Fld(P:om)(S f off:Nat):Prop:=∀(ad:f9) (w:oh),ad.spot=i6->(Instr.fieldAt S (.pointer (iz ad)) f).run P w=.ok (.pointer (iz ⟨ad.block,ad.off+off,i6⟩)) w
theorem Fld.mk{S f:Nat}{fs:Array ic}{F:ic}{D':fd}{k b':Nat}{z':oc}(hS:Ty P S (.struct fs) size bytes zero)(hf:fs[f]?=iz F)(hF:Ty P F.type D' (k+1) b' z'):Fld P S f F.offset:=by
 intro b w a;simp only[Instr.fieldAt,xh,xm hS.und,xd,xb,hf,mh,fieldPlace,run_sizeOf hF,ja b a];simp
theorem op_field{S f off:Nat}{ad:f9}(hF:Fld P S f off)(hg:qf ops σ n g=i7)(hx:okO n x=i7)(ex:ev σ x=.pointer (iz ad))(hs:ad.spot=i6)
  (k:wpList P ops Q rest (Fr n (upd σ d (.pointer (iz ⟨ad.block,ad.off+off,i6⟩)))) w):wpList P ops Q (⟨iz d,.fieldAddr S x f,ty,pos,aft,g⟩::rest) (Fr n σ) w :=
 ju hg (by simp only[execOp,ql hx,ex,hF ad w hs,xh,xd,xb]) k
theorem jq{S f off β o:Nat}(hF:Fld P S f off)(hg:qf ops σ n g=i7)(hx:okO n x=i7)(ex:ev σ x=.pointer (iz ⟨β,o,i6⟩))
  (k:wpList P ops Q rest (Fr n (upd σ d (.pointer (iz ⟨β,o+off,i6⟩)))) w):wpList P ops Q (⟨iz d,.fieldAddr S x f,ty,pos,aft,g⟩::rest) (Fr n σ) w :=
 op_field (ad:=⟨β,o,i6⟩) hF hg hx ex rfl k
theorem zvg{zs:Lz oc}(hT:Ty P T D size bytes zero)(hz:zero.cells.toList=zs)(hg:qf ops σ n g=i7)
  (k:∀β w',w.heap.size=β->Upd [] w w'->w'.heap.size=β+1->Box w' β zs->wpList P ops Q rest (Fr n (upd σ d (.pointer (iz ⟨β,0,i6⟩)))) w'):wpList P ops Q (⟨iz d,.alloc T,ty,pos,aft,g⟩::rest) (Fr n σ) w:=by
 subst hz;refine ju (w':={ w with heap:=w.heap.push (.cells zero.cells T) }) hg ?_ (k _ _ rfl (Upd.push _ _) (by simp) (by simpa using Box.push w zero.cells.toList T));simp only[execOp,Instr.alloc,xh,run_zeroValue hT,xb,xd,newVar,newRow];rfl
theorem bg{β o:Nat}{cs vs cs':Lz oc}{v:oc}(hT:Ty P T D size bytes zero)(hg:qf ops σ n g=i7)(hx:(okO n x&&okO n y)=i7)(ex:ev σ x=.pointer (iz ⟨β,o,i6⟩))(ey:ev σ y=v)(hb:Box w β cs)
  (hv:v.cells.toList=vs) (hl:(od vs.length size&&og (o+size) cs.length&&vs.all one)=i7)
  (hc:putL cs o vs=cs') (k:∀w',Upd [β] w w'->w'.heap.size=w.heap.size->Box w' β cs'->wpList P ops Q rest (Fr n σ) w'):wpList P ops Q (⟨i6,.store T x y,ty,pos,aft,g⟩::rest) (Fr n σ) w:=by
 simp only[xf] at hx hl;subst hv;subst hc;obtain⟨w',d,c,b,a⟩:=q8u (P:=P) hT hb (v:=v) (by have:=xg hl.1.1;simpa using this) (xk hl.1.2) hl.2;exact znb hg (by simp only[execOp,ql hx.1,ql hx.2,ex,ey,d,xh,xd,xb]) (k w' b a c)
end
end Go.Sx
end

noncomputable section
namespace Go.Sx
open Go Go.RowKit
open Go.Sx.Dat (enc)

def vg(pl:Lz (Nat × Nat)):Lz oc->Lz (Nat × oc)->Oq (Lz oc)
 | cells,[]=>iz cells
 | cells,(i,v)::rest =>
  match pl[i]? with
  | none=>i6
  | some (off,size)=>cond (od v.cells.toList.length size&&og (off+size) cells.length) (vg pl (putL cells off v.cells.toList) rest) i6

theorem zet:∀(vs:Lz oc) (o:Nat) (cs:Lz oc),
  (vs.zipIdx.foldl (fun(cs:Array oc) (p:oc × Nat)=>cs.setIfInBounds (o+p.2) p.1) cs.toArray)=(putL cs o vs).toArray:=by
 have a:∀(vs:Lz oc) (o k:Nat) (cs:Lz oc),
   ((vs.zipIdx k).foldl (fun(cs:Array oc) (p:oc × Nat)=>cs.setIfInBounds (o+p.2) p.1) cs.toArray)=(putL cs (o+k) vs).toArray:=by
  intro vs;induction vs with
  | nil=>intro o k cs;rfl
  | cons v vs ih =>
   intro o k cs;simp only[List.zipIdx_cons,List.foldl_cons,putL,List.setIfInBounds_toArray];rw[ih,jai]
 intro vs o cs;simpa using a vs o 0 cs

theorem yw:∀(vs:Lz oc) (o:Nat) (cs:Lz oc),(putL cs o vs).length=cs.length
 | [],_,_=>rfl
 | v::vs,o,cs=>by simp[putL,yw vs]

theorem qlf(place:Nat->Oq (Nat × Nat))(pl:Lz (Nat × Nat))(hp:∀i,place i=pl[i]?):∀(parts:Lz (Nat × oc)) (cells r:Lz oc),vg pl cells parts=iz r ->
  ax place cells.toArray parts=iz r.toArray
 | [],cells,r,h=>by simp only[vg,pj] at h;subst h;rfl
 | (i,v)::rest,cells,r,h=>by
  unfold vg at h;unfold ax;rw[hp];split at h
  ·grind
  ·rename_i off size he;rw[he];cases hc:(od v.cells.toList.length size&&og (off+size) cells.length) with
   | false=>rw[hc] at h;cases h
   | true =>
    rw[hc] at h;simp only[xf] at hc;have h1:=xg hc.1;have h2:=xk hc.2;have h1':v.cells.size=size:=by simpa using h1
    simp only;rw[xr (by rw[h1'];simp;omega)];have:=zet v.cells.toList off cells;rw[<- Array.foldl_toList,Array.toList_zipIdx,this];exact qlf place pl hp rest _ _ h

def Szs(P:om)(T:ov)(pl:Lz (Nat × Nat)):Prop:=∃fs,P.underlying T=iz (.struct fs)/\∀w,(fs.mapM fun f=>(do pure (f.offset,<- sizeOf f.type):Sem (Nat × Nat))).run P w=.ok pl.toArray w

section
variable {P : om} {n : Nat} {σ : Nat -> oc} {w : oh} {Q : Exit -> Act -> oh -> Prop} {ops : Array o8} {rest : Lz o8}
variable {d : Nat} {ty : ov} {pos : String} {aft : Array Edge} {g : Oq (Nat × Bool)}
variable {T T' E : ov} {D : fd} {size bytes : Nat} {zero : oc} {x y z : fh}

def pev(σ:Nat->oc)(l:Lz (Nat × fh)):Lz (Nat × oc):=l.map fun p=>(p.1,ev σ p.2)
def okPs(n:Nat):Lz (Nat × fh)->Bool
 | []=>i7
 | x::l=>cond (okO n x.2) (okPs n l) eb
theorem zgo{l:Lz (Nat × fh)}(h:okPs n l=i7):l.toArray.map (fun p=>(p.1,(Fr n σ).eval p.2))=(pev σ l).toArray:=by
 simp only[List.map_toArray,pev];congr 1;apply rq;intro p a;rw[ql];induction l with
 | nil=>simp at a
 | cons y l ih =>
  have c:okO n y.2=i7/\okPs n l=i7:=by
   unfold okPs at h;cases b:okO n y.2<;>simp [b] at h<;>simp [h]
  grind

theorem qxc{l:Lz (Nat × fh)}{pl:Lz (Nat × Nat)}{zs r:Lz oc}{ps:Lz (Nat × oc)}(hT:Ty P T D size bytes zero)(hS:Szs P T pl)(hz:zero.cells.toList=zs)
  (hg:qf ops σ n g=i7) (hx:okPs n l=i7) (hp:pev σ l=ps) (hf:vg pl zs ps=iz r)
  (k:wpList P ops Q rest (Fr n (upd σ d (.agg r.toArray))) w):wpList P ops Q (⟨iz d,.build T l.toArray,ty,pos,aft,g⟩::rest) (Fr n σ) w:=by
 subst hz;subst hp;obtain⟨f,e,c⟩:=hS;refine ju hg ?_ k;have b:=qlf (fun i=>pl.toArray[i]?) pl (by simp) _ _ _ hf;have a:ax (fun x=>pl.toArray[x]?) zero.cells (pev σ l)=iz r.toArray:=by simpa using b
 simp only[execOp,zgo hx,Instr.build,xh,run_zeroValue hT,xb,xm e,c w,a,xd]

def cy(zs:Lz oc)(m:Nat):Lz oc:=(fv m).map fun i=>zs[i % zs.length]!
end

def Own{α:Type}[Dat α](m M:Lz Nat)(w:oh)(a:Oq f9)(cap:Nat)(l:Lz α):Prop :=
 (a=i6/\cap=0/\l=[]) \/
 ∃g cells,a=iz ⟨g,0,i6⟩/\g∈m/\g ∉ M/\Box w g cells/\cells.length=cap*Dat.sz α/\(l.length<=cap/\cap<9223372036854775808) /\
  ∀i (h:i<l.length),∃cs,enc (m++M) w cs l[i]/\∀j,j<Dat.sz α->cells[i*Dat.sz α+j]?=cs[j]?

def blk:Oq f9->Lz Nat
 | none=>[]
 | some a=>[a.block]

theorem Own.nil{α:Type}[Dat α]{m M:Lz Nat}{w:oh}:Own m M w i6 0 ([]:Lz α):=.inl ⟨rfl,rfl,rfl⟩
theorem Own.lt{α:Type}[Dat α]{m M:Lz Nat}{w:oh}{a:Oq f9}{cap:Nat}{l:Lz α}(h:Own m M w a cap l):∀b∈blk a,b<w.heap.size:=by
 rcases h with ⟨rfl,_,_⟩|⟨g,c,rfl,_,_,d,_⟩
 ·simp[blk]
 ·simp only[blk,gn];rintro b rfl;exact d.lt
theorem Own.mem{α:Type}[Dat α]{m M:Lz Nat}{w:oh}{a:Oq f9}{cap:Nat}{l:Lz α}(h:Own m M w a cap l):∀b∈blk a,b∈m:=by
 rcases h with ⟨rfl,_,_⟩|⟨g,c,rfl,d,_⟩
 ·simp[blk]
 ·simp only[blk,gn];rintro b rfl;exact d
theorem Own.mono{α:Type}[Dat α]{m m' M:Lz Nat}{w w':oh}{a:Oq f9}{cap:Nat}{l:Lz α}{S:Lz Nat}(h:Own m M w a cap l)(u:Upd S w w')(hS:∀b∈blk a,b ∉ S)
  (e:Evo m w m' w') (hm:∀b∈blk a,b∈m'):Own m' M w' a cap l:=by
 rcases h with h|⟨g,c,rfl,s,q,p,o,n,k⟩
 ·exact .inl h
 ·refine .inr ⟨g,c,rfl,hm g (by simp[blk]),q,p.mono u (hS g (by simp[blk])),o,n,fun i f=>?_⟩;obtain⟨r,j,d⟩:=k i f;exact⟨r,Dat.mono j (e.tr M),d⟩
theorem SL.flat{α:Type}[Dat α]{M:Lz Nat}{w:oh}{a:Oq f9}{cap:Nat}{l:Lz α}(h:SL M w a cap l) :
  ∃fl:Lz oc,fl.length=l.length*Dat.sz α/\fl.all one=i7/\(∀P:om,∀w1:oh,w1.heap=w.heap->(oy (Dat.sz α) l.length (.slice a l.length cap)).run P w1=.ok fl.toArray w1) /\
   ∀i (h:i<l.length),∃cs,enc M w cs l[i]/\∀j,j<Dat.sz α->fl[i*Dat.sz α+j]?=cs[j]?:=by
 obtain⟨E,h⟩:=h;rcases h with rfl|⟨b,d,c,t,G,rfl,F,B,e⟩
 ·refine⟨[],by simp,rfl,fun P w1 s=>?_,fun i h=>by simp at h⟩;cases a with
  | none=>rfl
  | some a=>simp [oy,loadCells,loadCellsFrom,xd]
 ·have u:d+l.length*Dat.sz α<=c.size\/l.length*Dat.sz α=0:=by
   rcases jbh (l.length*Dat.sz α) with h0|h0
   ·grind
   ·left;have z:0<l.length:=Nat.pos_of_mul_pos_right h0;have q:0<Dat.sz α:=Nat.pos_of_mul_pos_left h0;obtain⟨cs,o,g⟩:=e (l.length-1) (by omega);have p:=g (Dat.sz α-1) (by omega);rw[xc (by rw[Dat.len o];omega)] at p;have D:=(jax.1 p).1;have:(l.length-1)*Dat.sz α+Dat.sz α=l.length*Dat.sz α:=by rw[Nat.sub_mul,Nat.one_mul];have:=Nat.le_mul_of_pos_left (Dat.sz α) z;omega
    omega
  have f:((c.toList.drop d).take (l.length*Dat.sz α)).length=l.length*Dat.sz α:=by
   grind
  have m:∀k,k<l.length*Dat.sz α->((c.toList.drop d).take (l.length*Dat.sz α))[k]?=c[d+k]?:=by
   grind
  refine⟨(c.toList.drop d).take (l.length*Dat.sz α),f,?_,fun P w1 s=>?_,fun i A=>?_⟩
  ·rw[xz];intro v x;obtain⟨k,n,rfl⟩:=List.getElem_of_mem x;rw[f] at n;have q:0<Dat.sz α:=Nat.pos_of_ne_zero fun h=>by rw[h] at n;simp at n
   have y:k / Dat.sz α<l.length:=(Nat.div_lt_iff_lt_mul q).2 n;obtain⟨cs,o,g⟩:=e (k / Dat.sz α) y;have p:=g (k % Dat.sz α) (jck _ q);rw[show d+k / Dat.sz α*Dat.sz α+k % Dat.sz α=d+k by have:=Nat.div_add_mod k (Dat.sz α);rw[Nat.mul_comm] at this;omega,<- m k n] at p;rw[xc (by omega)] at p;have D:=Dat.ones o
   grind
  ·have:=run_loadCellsFrom (P:=P) (w:=w1) (ad:=⟨b,d,i6⟩) ((c.toList.drop d).take (l.length*Dat.sz α)) 0 #[] (fun j r=>by
    rw[f] at r;rw[ja _ rfl,m j r];simp [fu,s,B])
   rw[f] at this;simpa [oy,loadCells] using this
  ·obtain⟨cs,o,g⟩:=e i A;refine⟨cs,o,fun j r=>?_⟩;have C:i*Dat.sz α+j<l.length*Dat.sz α:=by
    have:=pw (Dat.sz α) (show i+1<=l.length by omega)
    grind
   grind
end Go.Sx
end

noncomputable section
namespace Go.Sx
open Go Go.RowKit
open Go.Sx.Dat (enc)

theorem qe9:∀(vs:Lz oc) (o:Nat) (cs:Lz oc) (j:Nat),j<o->(putL cs o vs)[j]?=cs[j]?
 | [],_,_,_,_=>rfl
 | v::vs,o,cs,j,h=>by
  unfold putL;rw[qe9 vs (o+1) _ j (by omega),List.getElem?_set_ne (by omega)]
theorem qh2:∀(vs:Lz oc) (o:Nat) (cs:Lz oc) (j:Nat),j<vs.length->o+vs.length<=cs.length->(putL cs o vs)[o+j]?=vs[j]?
 | [],_,_,_,h,_=>by simp at h
 | v::vs,o,cs,0,_,h=>by
  unfold putL;rw[qe9 vs (o+1) _ (o+0) (by omega)];simp only[xw] at h;simp only[g8,xo];rw[List.getElem?_set_self (by omega)]
 | v::vs,o,cs,j+1,h,h'=>by
  unfold putL;have:=qh2 vs (o+1) (cs.set o v) j (by simpa using h) (by simp only[xw,rx] at h' ⊢;omega);rw[show o+(j+1)=o+1+j by omega,this];simp

theorem zfj{P:om}{w:oh}(k:Nat):(askRoom k).run P w=.ok () w:=by
 unfold askRoom;split<;>rfl

theorem Own.flat{α:Type}[Dat α]{m M:Lz Nat}{w:oh}{a:Oq f9}{cap:Nat}{l:Lz α}(h:Own m M w a cap l) :
  ∃fl:Lz oc,fl.length=l.length*Dat.sz α/\(∀P:om,∀w1:oh,w1.heap=w.heap->(oy (Dat.sz α) l.length (.slice a l.length cap)).run P w1=.ok fl.toArray w1) /\
   ∀i (h:i<l.length),∃cs,enc (m++M) w cs l[i]/\∀j,j<Dat.sz α->fl[i*Dat.sz α+j]?=cs[j]?:=by
 rcases h with ⟨rfl,rfl,rfl⟩|⟨g,b,rfl,_,_,⟨t,p⟩,u,s,r⟩
 ·exact⟨[],by simp,fun _ _ _=>rfl,fun i h=>by simp at h⟩
 ·have n:l.length*Dat.sz α<=b.length:=by rw[u];exact pw _ s.1
  have c:(b.take (l.length*Dat.sz α)).length=l.length*Dat.sz α:=by rw[jab];omega
  refine⟨b.take (l.length*Dat.sz α),c,fun P w1 k=>?_,fun i o=>?_⟩
  ·have:=run_loadCellsFrom (P:=P) (w:=w1) (ad:=⟨g,0,i6⟩) (b.take (l.length*Dat.sz α)) 0 #[] (fun j d=>by
    rw[c] at d;rw[ja _ rfl,gb,xx d];simp [fu,k,p])
   rw[c] at this;simpa [oy,loadCells] using this
  ·obtain⟨cs,q,e⟩:=r i o;refine⟨cs,q,fun j d=>?_⟩;have f:i*Dat.sz α+j<l.length*Dat.sz α:=by
    have:=pw (Dat.sz α) (show i+1<=l.length by omega);rw[rb,Nat.one_mul] at this;omega
   rw[gb,xx f,e j d]

section
variable {P : om} {n : Nat} {σ : Nat -> oc} {w : oh} {Q : Exit -> Act -> oh -> Prop} {ops : Array o8} {rest : Lz o8}
variable {d : Nat} {ty : ov} {pos : String} {aft : Array Edge} {g : Oq (Nat × Bool)}
variable {T T2 E D2x : ov} {E' : fd} {size bytes size2 bytes2 s2 b2 : Nat} {zero zero2 z2 : oc} {x y z : fh}

end
end Go.Sx
end

noncomputable section
namespace Go.Sx
open Go Go.RowKit
open Go.Sx.Dat (enc)

section
variable {P : om} {n : Nat} {σ : Nat -> oc} {w : oh} {ops : Array o8} {rest : Lz o8} {Qp : Act -> Prop}
variable {d : Nat} {op : Op} {ty : ov} {pos : String} {aft : Array Edge} {g : Oq (Nat × Bool)}

def QOne(n:Nat)(σ:Nat->oc)(d:Nat)(v:oc)(w1:oh):Exit->Act->oh->Prop:=fun e a' w'=>e=.normal/\a'=Fr n (upd σ d v)/\w'=w1

theorem q1{v:oc}{w1:oh}:wpList P ops (QOne n σ d v w1) [] (Fr n (upd σ d v)) w1:=⟨rfl,rfl,rfl⟩
theorem SL.idx{α:Type}[Dat α]{M:Lz Nat}{a:Oq f9}{cap:Nat}{l:Lz α}{i:Int}{T E:ov}{E':fd}{size bytes s2 b2:Nat}{zero z2:oc}(hs:SL M w a cap l)(hT:Ty P T (.slice E) size bytes zero)(hE:Ty P E E' s2 b2 z2)(hsz:s2=Dat.sz α)
  (h0:0<=i) (h1:i<l.length) :
  ∃ad cs u,l[i.toNat]?=iz u/\enc M w cs u/\CA M w ad cs/\∀(kk:ff) (w1:oh),(me T (.slice a l.length cap) (.int kk i)).run P w1=.ok (.pointer (iz ad)) w1:=by
 obtain⟨b,c,e,d⟩:=hs.at (i:=i.toNat) (by omega);obtain⟨cs,g,f⟩:=d.open;refine⟨_,cs,_,xc _,g,f,fun kk w1=>?_⟩;subst e;subst hsz;simp only[me,asIntOf,xh,xd,xb,xm hT.und,h0,h1,jcl,dv,run_sizeOf hE,ja ⟨b,c,i6⟩ rfl]
theorem SL.take{α:Type}[Dat α]{M:Lz Nat}{a:Oq f9}{cap:Nat}{l:Lz α}(h:SL M w a cap l)(k:Nat):SL M w a cap (l.take k):=by
 obtain⟨g,h⟩:=h;refine⟨⟨py (by simp;omega) g.1,g.2⟩,?_⟩;rcases h with rfl|⟨b,e,c,t,q,o,n,m,d⟩
 ·exact .inl (by simp)
 ·refine .inr ⟨b,e,c,t,q,o,n,m,fun i j=>?_⟩;have f:i<l.length:=by simp at j;omega
  obtain⟨r,s,p⟩:=d i f;exact⟨r,by rwa [jcc],p⟩
theorem SL.spot{α:Type}[Dat α]{M:Lz Nat}{a:Oq f9}{cap:Nat}{l:Lz α}(h:SL M w a cap l)(hl:l≠[]):∀ad,a=iz ad->ad.spot=i6:=by
 obtain⟨_,h|⟨b,d,c,t,f,e,_⟩⟩:=h
 ·exact absurd h hl
 ·rintro ad h;rw[e] at h;cases h;rfl

def y8(s:Bq)(i:Nat):UInt8:=s.data.toList.getD i 0
theorem zki{T:ov}{s:Bq}{i:Int}{kk:ff}(hT:P.underlying T=iz .string)(h0:0<=i)(h1:i<s.size) :
  (Instr.index T (.string s) (.int kk i)).run P w=.ok (.int .u8 (y8 s i.toNat).toNat) w:=by
 have a:i.toNat<s.size:=by omega
 have c:s[i.toNat]?=iz (y8 s i.toNat):=by
  have b:i.toNat<s.data.size:=a;rw[getElem?_pos s i.toNat a];congr 1;simp only[y8,xn];rw[xc (by simpa using b)];rfl
 simp only[Instr.index,asIntOf,xh,xd,xb,xm hT,h0,dv,c]
theorem zel{Q:Exit->Act->oh->Prop}{T:ov}{x y:fh}{s:Bq}{i:Int}{kk:ff}(hT:P.underlying T=iz .string)(hg:qf ops σ n g=i7)(hx:(okO n x&&okO n y)=i7)(ex:ev σ x=.string s)(ey:ev σ y=.int kk i)
  (h0:0<=i) (h1:i<s.size) (k:wpList P ops Q rest (Fr n (upd σ d (.int .u8 (y8 s i.toNat).toNat))) w):wpList P ops Q (⟨iz d,.index T x y,ty,pos,aft,g⟩::rest) (Fr n σ) w:=by
 simp only[xf] at hx;exact ju hg (by simp only[execOp,ql hx.1,ql hx.2,ex,ey,zki hT h0 h1,xh,xd,xb]) k
theorem qut{Q:Exit->Act->oh->Prop}{T:ov}{x y:fh}{s:Bq}{j:Nat}{kk:ff}(hT:P.underlying T=iz .string)(hg:qf ops σ n g=i7)(hx:(okO n x&&okO n y)=i7)(ex:ev σ x=.string s)(ey:ev σ y=.int kk (j:Int))
  (h1:j<s.size) (k:wpList P ops Q rest (Fr n (upd σ d (.int .u8 (y8 s j).toNat))) w):wpList P ops Q (⟨iz d,.index T x y,ty,pos,aft,g⟩::rest) (Fr n σ) w :=
 zel hT hg hx ex ey (by omega) (by omega) (by simpa using k)
def wide:ff->Bool
 | .i64=>i7
 | .u64=>i7
 | .i32=>i7
 | _=>eb
def ym(w:oh)(β:Nat)(s:Bq)(p:Nat):Prop:=w.heap[β]?=iz (.stringIter s p)
theorem ym.lt{w:oh}{β:Nat}{s:Bq}{p:Nat}(h:ym w β s p):β<w.heap.size:=qk h
theorem ym.mono{S:Lz Nat}{w w':oh}{β:Nat}{s:Bq}{p:Nat}(h:ym w β s p)(u:Upd S w w')(hs:β ∉ S):ym w' β s p:=(u.same β h.lt hs).trans h
theorem ym.mono0{w w':oh}{β:Nat}{s:Bq}{p:Nat}(h:ym w β s p)(u:Upd [] w w'):ym w' β s p:=h.mono u (by simp)
end
structure I32 where
 v:Int
 deriving DecidableEq,Inhabited
instance:Dat I32 where
 sz:=1
 enc _ _ cs x:=cs=[.int .i32 x.v]
 len h:=by rw[h];rfl
 mono h _:=h
 ones h:=by rw[h];rfl
def FH{α β:Type}[Dat α](P:om)(fid:Nat)(caps:Lz oc)(agg:Bool)(rv:β->oc)(g:α->β)(D:α->Prop)(M:Lz Nat)(w:oh):Prop :=
 ∀w1 cs x,Upd0 w w1->D x->enc M w1 cs x->mi P fid (cond agg [.agg cs.toArray] cs++caps).toArray w1 (Ret fun v w'=>v=rv (g x)/\Upd [] w1 w')
theorem FH.mono{α β:Type}[Dat α]{P:om}{fid:Nat}{caps:Lz oc}{agg:Bool}{rv:β->oc}{g:α->β}{D:α->Prop}{M:Lz Nat}{w w':oh}(h:FH P fid caps agg rv g D M w)(u:Upd0 w w'):FH P fid caps agg rv g D M w' :=
 fun a e x b d c=>h a e x (u.trans b) d c
def FH2{α β γ:Type}[Dat α][Dat β](P:om)(fid:Nat)(caps:Lz oc)(agg agg':Bool)(rv:γ->oc)(g:α->β->γ)(D:α->β->Prop)(M:Lz Nat)(w:oh):Prop :=
 ∀w1 cs x ds y,Upd0 w w1->D x y->enc M w1 cs x->enc M w1 ds y->mi P fid (cond agg [.agg cs.toArray] cs++(cond agg' [.agg ds.toArray] ds++caps)).toArray w1 (Ret fun v w'=>v=rv (g x y)/\Upd [] w1 w')
theorem FH2.mono{α β γ:Type}[Dat α][Dat β]{P:om}{fid:Nat}{caps:Lz oc}{agg agg':Bool}{rv:γ->oc}{g:α->β->γ}{D:α->β->Prop}{M:Lz Nat}{w w':oh}(h:FH2 P fid caps agg agg' rv g D M w)(u:Upd0 w w'):FH2 P fid caps agg agg' rv g D M w' :=
 fun b i x f y c e d a=>h b i x f y (u.trans c) e d a
end Go.Sx
end

noncomputable section
namespace Go.Sx
open Go Go.RowKit
open Go.Sx.Dat (enc)

section
variable {P : om} {ops : Array o8} {md : Region.Mode} {C : oh -> Prop}

end
end Go.Sx
end

noncomputable section
namespace Go.Sx
open Go Go.RowKit
open Go.Sx.Dat (enc)

section
variable {P : om} {n : Nat} {σ : Nat -> oc} {w : oh} {Q : Exit -> Act -> oh -> Prop} {ops : Array o8} {rest : Lz o8}
variable {d : Nat} {ty : ov} {pos : String} {aft : Array Edge} {g : Oq (Nat × Bool)}

def qft(tmps:Array oc):iu->Sem oc
 | .tmp t=>pure (tmps.getD t undef)
 | .cell a t=>do loadVar t (<- asAddr (tmps.getD a undef))
def qbm:Lz oc->oc
 | [v]=>v
 | vs=>.tuple vs.toArray
theorem q9m{α β:Type}(f:α->β)(s:Sem α)(P:om)(w:oh):(f <$> s).run P w=(s.run P w).andThen fun a w'=>.ok (f a) w':=by
 have e:f <$> s=(s >>= fun a=>pure (f a)):=rfl;rw[e,xh];rfl
theorem Own.step{α:Type}[Dat α]{m m' M:Lz Nat}{w':oh}{a:Oq f9}{cap:Nat}{l:Lz α}{S:Lz Nat}(h:Own m M w a cap l)(u:Upd S w w')(hS:∀b∈blk a,b ∉ S)
  (e:Evo m w m' w') (hm:∀b∈m,b∈m'):Own m' M w' a cap l:=h.mono u hS e fun b c=>hm b (h.mem b c)
theorem SL.isNone{α:Type}[Dat α]{M:Lz Nat}{a:Oq f9}{cap:Nat}{l:Lz α}(h:SL M w a cap l)(ha:a.isNone=i7):l=[]:=by
 obtain⟨_,h|⟨b,d,c,t,e,h,_⟩⟩:=h
 ·exact h
 ·subst h;cases ha
end
end Go.Sx
end

noncomputable section
namespace Go.Sx
open Go Go.RowKit
open Go.Sx.Dat (enc)

def EqV(P:om)(T:ov)(u v:oc)(r:Bool):Prop:=∀dd w,(mj (dd+1) T u v).run P w=.ok r w
section
variable {P : om} {T T1 T2 T3 : ov} {kk : ff}
theorem EqV.int{D:ff}{a b:Int}(h:P.underlying T=iz (.int D)):EqV P T (.int kk a) (.int kk b) (decide (a=b)):=fun c w=>by
 simp only[mj,xh,xm h,xb,dv,xd];rfl
theorem EqV.str{a b:Bq}(h:P.underlying T=iz .string):EqV P T (.string a) (.string b) (decide (a=b)):=fun c w=>by
 simp only[mj,xh,xm h,xb,dv,xd];congr 1;rw[jaf,du];show (a.data==b.data)=i7↔_;rw[ByteArray.ext_iff];simp
theorem EqV.bool{a b:Bool}(h:P.underlying T=iz .bool):EqV P T (.bool a) (.bool b) (decide (a=b)):=fun c w=>by
 simp only[mj,xh,xm h,xb,dv,xd];cases a<;>cases b<;>rfl
end
theorem qd9{P:om}{T:ov}{D:fd}{size bytes off:Nat}{zero v:oc}{cs:Array oc}{w:oh}(h:Ty P T D size bytes zero)(hd:qv D=i7)(hc:cs[off]?=iz v):(part T cs off).run P w=.ok v w:=by
 simp only[part,xh,qce h,hd,xb,hc,xd,gd,pu,p9]
structure FldE (P:om) (f:ic) (o:Nat) (k:Nat):Prop where
 name:f.name ≠ "_"
 off:f.offset=o
 ty:f.type=k
 scal:∃D s b z,Ty P k D s b z/\qv D=i7
theorem FldE.part{P:om}{f:ic}{o k:Nat}{xs:Array oc}{a:oc}{w:oh}(hf:FldE P f o k)(ha:xs[o]?=iz a):(part f.type xs f.offset).run P w=.ok a w:=by
 obtain⟨D,s,b,z,d,c⟩:=hf.scal;rw[hf.off,hf.ty];exact qd9 d c ha
section
variable {P : om} {T T1 T2 T3 : ov} {f1 f2 f3 : ic} {a1 a2 a3 b1 b2 b3 : oc} {r1 r2 r3 : Bool} {w : oh}
end
section
variable {P : om} {n : Nat} {σ : Nat -> oc} {w : oh} {Q : Exit -> Act -> oh -> Prop} {ops : Array o8} {rest : Lz o8}
variable {d : Nat} {ty T T' : ov} {pos : String} {aft : Array Edge} {g : Oq (Nat × Bool)} {x y : fh}
theorem qyl{op:BinOp}{xs ys:Array oc}(h:P.eqGuardType P.depth T=eb):(eqGuard op T x y (.agg xs) (.agg ys)).run P w=.ok () w:=by
 cases op<;>simp [eqGuard,go_sem,h]
end
end Go.Sx
end

noncomputable section
namespace Go.Sx
open Go Go.RowKit
open Go.Sx.Dat (enc)

def nu(o:o8):Bool:=match o.op with|.defer _=>eb|_=>i7
section
variable {F : Fence} {m : Nat} {P : om} {ops : Array o8} {Q : Exit -> Act -> oh -> Prop}
theorem qhv{f:Nat}{args:Array oc}{w:oh}{R:aw->oh->Prop}(hF:F.plain=ox)(h:mi P f args w R):mf F m P f args w R:=by
 have a:mf F.plain m P f args w R:=by rw[hF];exact dc.2 h
 exact a
theorem zo5{row:String}{args:Array oc}{w:oh}{R:oc->oh->Prop}(hF:F.plain=ox)(h:Rows P row args w R):RowsIn F m P row args w R:=by
 have a:RowsIn F.plain m P row args w R:=by
  rw[hF];exact fun c b _=>let ⟨v,w',r,s⟩:=h c b;⟨v,w',r,stepsIn_wide.2 s⟩
 exact a
theorem c7(hF:F.plain=ox)(f:Nat):F.fn f:=by
 have:F.plain.fn f:=by rw[hF];trivial
 exact this
theorem qav(hF:F.plain=ox):F.depth=i6:=by
 have:F.plain.depth=i6:=by rw[hF];rfl
 exact this
theorem zxo{next0:Act->oh->Prop}{o:o8}{a:Act}{next next':Act->oh->Prop}(hF:F.plain=ox)(hn:∀a w,next a w->next' a w) :
  ∀r:Result Next,o.upon P a next (Exit.then next0 Q) r->o.uponIn F m P a next' Q r
 | .ok (.value v) w',h=>hn _ _ h
 | .ok .skip w',h=>hn _ _ h
 | .ok (.defer d) w',h=>hn _ _ h
 | .ok (.enter f args) w',h=>⟨fun h0=>(by rw[qav hF] at h0;cases h0),qhv hF (h.mono fun e w'' hq=>by cases e<;>first|exact hn _ _ hq|exact hq)⟩
 | .ok (.row row args) w',h=>⟨fun h0=>(by rw[qav hF] at h0;cases h0),zo5 hF (h.mono fun v w'' hq=>hn _ _ hq)⟩
 | .ok (.round ..) w',h=>False.elim h
 | .ok (.callThen ..) w',h=>False.elim h
 | .ok (.stack ..) w',h=>False.elim h
 | .halt (.panic v) w',h=>h
 | .halt .blocked w',h=>False.elim h

theorem qdi{o:o8}(h:nu o=i7)(ro:Oq Nat)(ρ:fh->oc):Oper.semAt ro ρ o=execOp ρ o :=
 Oper.semAt_eq ro ρ o (fun c a=>by simp[nu,a] at h)
theorem qw4{l1 l2:Lz o8}(hF:F.plain=ox)(hq:¬LetsOut Q):∀{a:Act} {w:oh},l1.all nu=i7->wpList P ops (Exit.then (wpListIn F m P ops Q l2) Q) l1 a w->wpListIn F m P ops Q (l1++l2) a w:=by
 induction l1 with
 | nil=>intro a w _ h;exact h
 | cons o l ih =>
  intro a w b h;simp only[gu,xf] at b;simp only[rn,wpListIn,wpList] at h ⊢;split at h
  ·rename_i c;rw[xx c];refine⟨fun f _=>c7 hF f,?_⟩;rw[qdi b.1];rcases h with h|h
   ·exact zxo hF (fun a w h=>ih b.2 h) _ h
   ·exact absurd h.2 hq
  ·rename_i c;rw[xr c];exact⟨fun f _=>c7 hF f,ih b.2 h⟩
theorem q1b{l:Lz o8}{a:Act}{w:oh}(hF:F.plain=ox)(hq:¬LetsOut Q)(hd:l.all nu=i7)(h:wpList P ops Q l a w):wpListIn F m P ops Q l a w:=by
 have:=qw4 (F:=F) (m:=m) (l1:=l) (l2:=[]) (ops:=ops) (Q:=Q) (a:=a) (w:=w) hF hq hd (by
  have e:Exit.then (wpListIn F m P ops Q []) Q=Q:=by funext e a w;cases e<;>rfl
  rw[e];exact h)
 simpa using this
theorem zuz{l:Lz o8}{a:Act}{w:oh}(k:Nat)(hF:F.plain=ox)(hq:¬LetsOut Q)(hd:(l.take k).all nu=i7)(h:wpList P ops (Exit.then (wpListIn F m P ops Q (l.drop k)) Q) (l.take k) a w):wpListIn F m P ops Q l a w:=by
 have:=qw4 (F:=F) (m:=m) (l1:=l.take k) (l2:=l.drop k) (ops:=ops) (Q:=Q) (a:=a) (w:=w) hF hq hd h
 rwa [dz] at this
theorem zir{l:Nat}{n d:Nat}{σ:Nat->oc}{w:oh}{rest:Lz o8}{ty:ov}{pos:String}{aft:Array Edge}{g:Oq (Nat × Bool)}{x y:fh}{v:oc}{ts:Array ov}{R:aw->oh->Prop}
  (hF:F.plain=ox) (hg:qf ops σ n g=i7) (hx:(okO n x&&okO n y)=i7) (ex:ev σ x=.func (.yield l) #[] #[]) (ey:ev σ y=v)
  (hy:YieldAt F (m-1) P l #[v] w R)
  (k:∀e w',R e w'->∃r,e=.returned r/\wpListIn F m P ops Q rest (Fr n (upd σ d r)) w') :
  wpListIn F m P ops Q (⟨iz d,.call ⟨.value x,#[y],ts⟩,ty,pos,aft,g⟩::rest) (Fr n σ) w:=by
 simp only[xf] at hx;obtain⟨u,b,a,c,i,q⟩:=hy;unfold wpListIn;rw[xx (q4p hg)];refine⟨fun f _=>c7 hF f,?_⟩;rw[qdi rfl];have p:(#[y].map (Fr n σ).eval)=#[v]:=by simp[ql hx.2,ey]
 have t:(execOp (Fr n σ).eval ⟨iz d,.call ⟨.value x,#[y],ts⟩,ty,pos,aft,g⟩).run P w=.ok (.round l u b a c) w:=by
  have s:(ma (.func (.yield l) #[] #[]) #[v]).run P w=.ok { target:=.fn (.yield l) #[],args:=#[v] } w:=by simp only[ma,xd];rfl
  simp only[execOp,resolve,ql hx.1,ex,p,xh,s,xb,invoke,i]
 rw[t];refine⟨fun h=>(by rw[qav hF] at h;cases h),q.mono fun e w' j=>?_⟩;obtain⟨r,rfl,o⟩:=k e w' j;simp only[qjl];exact o
end

theorem Upd.putObj(w:oh)(r:Nat)(o:Obj):Upd [r] w (w.putObj r o):=⟨rfl,rfl,rfl,by simp,fun b _ a=>di (fun h=>a (by simp[h]))⟩
theorem Upd.alloc(w:oh)(o:Obj):Upd [] w (w.alloc o):=⟨rfl,rfl,rfl,by simp,fun b a _=>Below.heap_alloc _ _ _ a⟩
end Go.Sx
end

noncomputable section
namespace Go.Sx
open Go Go.RowKit

def encI(p:Int × Int):oc × oc:=(.int .i64 p.1,.int .i64 p.2)
def MapI(w:oh)(b:Nat)(l:Lz (Int × Int)):Prop:=∃es clock,w.heap[b]?=iz (.map es clock)/\es.toList.map (fun e=>(e.key,e.val))=l.map encI
theorem MapI.lt{w:oh}{b:Nat}{l:Lz (Int × Int)}(h:MapI w b l):b<w.heap.size:=by obtain⟨_,_,h,_⟩:=h;exact qk h
theorem MapI.mono{S:Lz Nat}{w w':oh}{b:Nat}{l:Lz (Int × Int)}(h:MapI w b l)(u:Upd S w w')(hs:b ∉ S):MapI w' b l:=by
 have a:=h.lt;obtain⟨f,c,e,d⟩:=h;exact⟨f,c,(u.same b a hs).trans e,d⟩
theorem MapI.mono0{w w':oh}{b:Nat}{l:Lz (Int × Int)}(h:MapI w b l)(u:Upd [] w w'):MapI w' b l:=h.mono u (by simp)
section
variable {P : om} {n : Nat} {σ : Nat -> oc} {w : oh} {Q : Exit -> Act -> oh -> Prop} {ops : Array o8} {rest : Lz o8}
variable {d : Nat} {ty T : ov} {pos : String} {aft : Array Edge} {g : Oq (Nat × Bool)} {x y z : fh} {K E : ov} {kk ke : ff}
theorem sq{b:Nat}{es:Array mt}{c:Nat}(h:w.heap[b]?=iz (.map es c)):(getObj b).run P w=.ok (.map es c) w:=by simp[getObj,ay,h]
end
end Go.Sx
end

noncomputable section
namespace Go.Jx
open Go Go.Sx
def q24 (pos:String):Bool:=pos == "strings.go:299"
def y6:Nat->Oq (Lz Int)
 | 4=>iz ([0,0,0,0,0,0,0,0,0,1,1,1,1,1,0,0,0,0,0,0,0,0,0,0,0,0,0,0,0,0,0,0,1,0,0,0,0,0,0,0,0,0,0,0,0,0,0,0,0,0,0,0,0,0,0,0,0,0,0,0,0,0,0,0,0,0,0,0,0,0,0,0,0,0,0,0,0,0,0,0,0,0,0,0,0,0,0,0,0,0,0,0,0,0,0,0,0,0,0,0,0,0,0,0,0,0,0,0,0,0,0,0,0,0,0,0,0,0,0,0,0,0,0,0,0,0,0,0,0,0,0,0,0,0,0,0,0,0,0,0,0,0,0,0,0,0,0,0,0,0,0,0,0,0,0,0,0,0,0,0,0,0,0,0,0,0,0,0,0,0,0,0,0,0,0,0,0,0,0,0,0,0,0,0,0,0,0,0,0,0,0,0,0,0,0,0,0,0,0,0,0,0,0,0,0,0,0,0,0,0,0,0,0,0,0,0,0,0,0,0,0,0,0,0,0,0,0,0,0,0,0,0,0,0,0,0,0,0,0,0,0,0,0,0,0,0,0,0,0,0,0,0,0,0,0,0])
 | _=>i6
def gl6:Nat->Oq (Lz Int)
 | 3=>iz ((fv 20).map fun i=>((10 ^ i:Nat):Int))
 | _=>i6
def bldT:ov:=253
def recT:ov->Oq Nat
 | 27=>iz 0
 | 35=>iz 1
 | 134=>iz 2
 | _=>i6
def u8T:ov:=5
end Go.Jx
end

noncomputable section
namespace Go.Jx
open Go Go.Sx
inductive TC:Type
 | int (k:ff)
 | bool
 | str
 | list (c:TC)
 | rl (k:Nat)
 | two (a b:TC)
inductive RType:Type
 | mk (x:Int × ByteArray × List RType × Bool × Bool)
inductive RExpr:Type
 | mk (x:Int × ByteArray × Int × List RExpr)
abbrev qzo:Type:=Int × Bq × Int × Lz RExpr
inductive RStmt:Type
 | mk (x:Int × ByteArray × Int × List qzo × List (ByteArray × qzo) × List RStmt × List RStmt × List RStmt)
def RT:Nat->Type
 | 0=>RType
 | 1=>RExpr
 | 2=>RStmt
 | _+3=>Bool
def El:TC->Type
 | .int _=>Int
 | .bool=>Bool
 | .str=>Bq
 | .list c=>Lz (El c)
 | .rl k=>Lz (RT k)
 | .two a b=>El a × El b
abbrev qu2:TC:=.two (.int .i64) (.two .str (.two (.int .i64) (.rl 1)))
def rcC:Nat->TC
 | 0=>.two (.int .i64) (.two .str (.two (.rl 0) (.two .bool .bool)))
 | 1=>qu2
 | 2=>.two (.int .i64) (.two .str (.two (.int .i64) (.two (.list qu2) (.two (.list (.two .str qu2)) (.two (.rl 2) (.two (.rl 2) (.rl 2)))))))
 | _+3=>.bool
def un:(k:Nat)->RT k->El (rcC k)
 | 0,.mk x=>x
 | 1,.mk x=>x
 | 2,.mk x=>x
 | _+3,x=>x
def mk:(k:Nat)->El (rcC k)->RT k
 | 0,x=>RType.mk x
 | 1,x=>RExpr.mk x
 | 2,x=>RStmt.mk x
 | _+3,x=>x
theorem zmf:∀(k:Nat) (x:El (rcC k)),un k (mk k x)=x
 | 0,_=>rfl
 | 1,_=>rfl
 | 2,_=>rfl
 | _+3,_=>rfl
theorem ql3{k:Nat}:∀l:Lz (El (rcC k)),(l.map (mk k)).map (un k)=l
 | []=>rfl
 | x::l=>by rw[ga,ga,zmf,ql3 l]
end Go.Jx
end

noncomputable section
namespace Go.Jx
open Go Go.Sx Go.RowKit
universe u

inductive PT (α:Type u):Type u
 | leaf
 | node (v:Option α) (l r:PT α)
def PT.get{α:Type u}:PT α->Nat->Oq α
 | .leaf,_=>i6
 | .node v l r,n=>cond (od n 0) v (cond (od (n % 2) 1) (l.get (n / 2)) (r.get ((n-1) / 2)))
def PT.one{α:Type u}(x:α):Nat->Nat->PT α
 | 0,_=>.node (iz x) .leaf .leaf
 | f+1,n=>cond (od n 0) (.node (iz x) .leaf .leaf) (cond (od (n % 2) 1) (.node i6 (PT.one x f (n / 2)) .leaf) (.node i6 .leaf (PT.one x f ((n-1) / 2))))
def PT.set{α:Type u}(x:α):PT α->Nat->PT α
 | .leaf,n=>PT.one x n n
 | .node v l r,n=>cond (od n 0) (.node (iz x) l r) (cond (od (n % 2) 1) (.node v (l.set x (n / 2)) r) (.node v l (r.set x ((n-1) / 2))))
theorem wk{a b:Nat}(h:a=b):od a b=i7:=by subst h;exact dg a
theorem qm{a b:Nat}(h:a≠b):od a b=eb:=by
 cases e:od a b with
 | false=>rfl
 | true=>exact absurd (xg e) h
theorem PT.get_one{α:Type u}(x:α):∀(f n k:Nat),n<=f->(PT.one x f n).get k=if k=n then iz x else i6
 | 0,n,k,h=>by
  obtain rfl:n=0:=by omega
  by_cases hk:k=0
  ·subst hk;rfl
  ·simp only[PT.one,PT.get,qm hk,xe,xr hk]
   grind
 | f+1,n,k,h=>by
  by_cases hn:n=0
  ·subst hn;by_cases hk:k=0
   ·subst hk;rfl
   ·simp only[PT.one,PT.get,qm hk,xe,xr hk,dg,xa]
    grind
  ·by_cases h2:n % 2=1
   ·simp only[PT.one,qm hn,xe,wk h2,xa,PT.get];by_cases hk:k=0
    ·subst hk;rw[xr (jcm hn)];rfl
    ·by_cases hk2:k % 2=1
     ·simp only[qm hk,wk hk2,xe,xa];rw[PT.get_one x f _ _ (by omega)]
      grind
     ·simp only[qm hk,qm hk2,xe]
      grind
   ·simp only[PT.one,qm hn,xe,qm h2,PT.get];by_cases hk:k=0
    ·subst hk;rw[xr (jcm hn)];rfl
    ·by_cases hk2:k % 2=1
     ·simp only[qm hk,wk hk2,xe,xa]
      grind
     ·simp only[qm hk,qm hk2,xe];rw[PT.get_one x f _ _ (by omega)]
      grind
theorem PT.get_set{α:Type u}(x:α):∀(t:PT α) (n k:Nat),(t.set x n).get k=if k=n then iz x else t.get k
 | .leaf,n,k=>by simp only[PT.set,PT.get_one x n n k (xl _)];rfl
 | .node v l r,n,k=>by
  by_cases hn:n=0
  ·subst hn;by_cases hk:k=0
   ·subst hk;rfl
   ·simp only[PT.set,PT.get,dg,xa,qm hk,xe,xr hk]
  ·by_cases h2:n % 2=1
   ·simp only[PT.set,qm hn,xe,wk h2,xa,PT.get];by_cases hk:k=0
    ·subst hk;rw[xr (jcm hn)];simp
    ·by_cases hk2:k % 2=1
     ·simp only[qm hk,wk hk2,xe,xa,PT.get_set x l]
      grind
     ·simp only[qm hk,qm hk2,xe]
      grind
   ·simp only[PT.set,qm hn,xe,qm h2,PT.get];by_cases hk:k=0
    ·subst hk;rw[xr (jcm hn)];simp
    ·by_cases hk2:k % 2=1
     ·simp only[qm hk,wk hk2,xe,xa]
      grind
     ·simp only[qm hk,qm hk2,xe,PT.get_set x r]
      grind

def kbeq:ff->ff->Bool
 | .i8,.i8=>i7
 | .i16,.i16=>i7
 | .i32,.i32=>i7
 | .i64,.i64=>i7
 | .u8,.u8=>i7
 | .u16,.u16=>i7
 | .u32,.u32=>i7
 | .u64,.u64=>i7
 | _,_=>eb
theorem c9{a b:ff}(h:kbeq a b=i7):a=b:=by cases a<;>cases b<;>first|rfl|cases h
def TC.beq:TC->TC->Bool
 | .int k,.int k'=>kbeq k k'
 | .bool,.bool=>i7
 | .str,.str=>i7
 | .list a,.list b=>TC.beq a b
 | .rl a,.rl b=>od a b
 | .two a b,.two a' b'=>TC.beq a a'&&TC.beq b b'
 | _,_=>eb
theorem TC.beq_eq:∀{a b:TC},TC.beq a b=i7->a=b
 | .int k,b,h=>by cases b<;>first|(cases h;done)|(rw[c9 h])
 | .bool,b,h=>by cases b<;>first|rfl|(cases h)
 | .str,b,h=>by cases b<;>first|rfl|(cases h)
 | .list a,b,h=>by
  cases b<;>first|(cases h;done)|skip
  rename_i b;rw[TC.beq_eq (a:=a) (b:=b) h]
 | .rl a,b,h=>by
  cases b<;>first|(cases h;done)|skip
  rw[xg h]
 | .two a b,c,h=>by
  cases c<;>first|(cases h;done)|skip
  rename_i a' b';simp only[TC.beq,xf] at h;rw[TC.beq_eq (a:=a) (b:=a') h.1,TC.beq_eq (a:=b) (b:=b') h.2]
def q3(c d:TC)(l:Lz (El c)):Oq (Lz (El d)) :=
 if h:TC.beq c d=i7 then iz (TC.beq_eq h▸l) else i6
theorem kl{c d:TC}{l:Lz (El c)}{l':Lz (El d)}(h:q3 c d l=iz l'):∃e:c=d,l'=e▸l:=by
 unfold q3 at h
 grind
def csz:TC->Nat
 | .two a b=>csz a+csz b
 | _=>1
def bsz:TC->Nat
 | .int .i8=>1
 | .int .u8=>1
 | .int .i16=>2
 | .int .u16=>2
 | .int .i32=>4
 | .int .u32=>4
 | .int _=>8
 | .bool=>1
 | .str=>16
 | .list _=>24
 | .rl _=>24
 | .two a b=>bsz a+bsz b

def glB(g:Nat):Bool:=(y6 g).isSome||(gl6 g).isSome
def glF(g:Nat)(o:Obj):Prop:=∃(cells:Array oc) (t:ov) (fz:Nat × Nat),o=.cells cells t fz/\(∀l:Lz Int,y6 g=iz l->∀(i:Nat) (n:Int),l[i]?=iz n->(cells:Array oc)[i]?=iz (mq .u8 n)/\IntKind.u8.wrap n=n)/\∀l:Lz Int,gl6 g=iz l->cells=(l.map fun z=>mq .u64 z).toArray
inductive IV:Type
 | unk
 | bool (b:Bool)
 | int (k:ff) (n:Int)
 | str (s:ByteArray)
 | lst (c:TC) (l:List (El c))
 | eptr (c:TC) (x:El c) (off:Nat)
 | arr (id:Nat)
 | aptr (id s i off:Nat)
 | nilsl
 | sl (id off len s:Nat) (cap:Option Nat)
 | nilptr
 | gp (g:Nat)
 | ptr (id off:Nat)
 | nilmap
 | map (id:Nat)
 | nilfn
 | fn (f:Nat) (caps:List IV)
 | bfn (f:Nat) (bs:List IV)
 | yield (id:Nat)
 | nili
 | iface (t:Nat) (v:IV)
 | agg (cs:List IV)
 | tup (vs:List IV)
 | pan (v:IV)
def cel:(c:TC)->El c->Lz IV
 | .int k,n=>[.int k n]
 | .bool,b=>[.bool b]
 | .str,s=>[.str s]
 | .list c,l=>[.lst c l]
 | .rl k,l=>[.lst (rcC k) (l.map (un k))]
 | .two a b,x=>cel a x.1++cel b x.2
theorem jr:∀(c:TC) (x:El c),(cel c x).length=csz c
 | .int _,_=>rfl
 | .bool,_=>rfl
 | .str,_=>rfl
 | .list _,_=>rfl
 | .rl _,_=>rfl
 | .two a b,x=>by simp only[cel,csz,xp,jr a,jr b]
theorem qkt:∀c:TC,0<csz c
 | .int _=>aa
 | .bool=>aa
 | .str=>aa
 | .list _=>aa
 | .rl _=>aa
 | .two a b=>by have:=qkt a;simp only[csz];omega
def asIV:(c:TC)->El c->IV
 | .int k,n=>.int k n
 | .bool,b=>.bool b
 | .str,s=>.str s
 | .list c,l=>.lst c l
 | .rl k,l=>.lst (rcC k) (l.map (un k))
 | .two a b,x=>.agg (cel (.two a b) x)
def tmEs(k v:TC)(es:Lz (El k × El v)):Lz (IV × IV):=es.map fun e=>(asIV k e.1,asIV v e.2)
inductive IObj:Type
 | dead
 | row (cs:List IV)
 | arr (c:TC) (l:List (El c))
 | frz (c:TC) (l:List (El c))
 | map (es:List (IV × IV))
 | tmap (k v:TC) (es:List (El k × El v))
 | iter (s:ByteArray) (p:Nat)
 | defs (on:Bool)
 | bld (j:Nat)
 | loop (st:LoopState) (pend:Option fw) (nt:Nat) (fr:PT IV) (ps:List Nat) (assign body:fw) (D:Nat)
def IObj.live:IObj->Bool
 | .dead=>eb
 | .frz _ _=>eb
 | _=>i7
def slot(fr:PT IV)(t:Nat):IV:=match fr.get t with|some v=>v|none=>.unk
def cellsOf:IV->Lz IV
 | .agg cs=>cs
 | v=>[v]
def one1:IV->Bool
 | .agg _=>eb
 | .tup _=>eb
 | .unk=>eb
 | .pan _=>eb
 | _=>i7

structure Env where
 ρ:Nat->Nat
 κ:Nat->Nat
 hd:Nat->oc
 hb:Nat->Bool
 A:Nat->Prop
 m:List Nat
 w:oh
structure Env.Le (E E':Env):Prop where
 alw:∀id,E.A id->E'.A id/\E'.ρ id=E.ρ id/\E'.κ id=E.κ id/\E'.hd id=E.hd id/\E'.hb id=E.hb id
 tr:Tr E.m E.w E'.m E'.w
theorem Env.Le.refl(E:Env):E.Le E:=⟨fun _ h=>⟨h,rfl,rfl,rfl,rfl⟩,Tr.refl _ _⟩
theorem Env.Le.trans{a b c:Env}(h:a.Le b)(k:b.Le c):a.Le c :=
 ⟨fun d e=>let ⟨h1,h2,h3,h4,h5⟩:=h.alw d e;let ⟨k1,k2,k3,k4,k5⟩:=k.alw d h1;⟨k1,k2.trans h2,k3.trans h3,k4.trans h4,k5.trans h5⟩,h.tr.trans k.tr⟩

inductive VR (E:Env):IV->oc->Prop
 | unk (u:oc):VR E .unk u
 | bool (b:Bool):VR E (.bool b) (.bool b)
 | int (k:ff) (n:Int) (h:k.wrap n=n):VR E (.int k n) (.int k n)
 | str (s:ByteArray) (h:s.size<9223372036854775808):VR E (.str s) (.string s)
 | lst0 {c:TC} {a:Option f9} {cap:Nat} (h:cap<9223372036854775808):VR E (.lst c []) (.slice a 0 cap)
 | lst {c:TC} {l:List (El c)} {b off cap:Nat} {cells:Array oc} {t:ov} {fz:Nat × Nat} (us:Nat->Nat->oc) (h1:l.length<=cap) (h2:cap<9223372036854775808)
   (h3:l.length*bsz c<=140737488355328) (hb:b ∉ E.m) (hh:E.w.heap[b]?=iz (.cells cells t fz))
   (hc:∀i,i<l.length->∀j,j<csz c->cells[off+i*csz c+j]?=iz (us i j))
   (hu:∀i (h:i<l.length) j (h':j<(cel c l[i]).length),VR E (cel c l[i])[j] (us i j)):VR E (.lst c l) (.slice (iz ⟨b,off,i6⟩) l.length cap)
 | eptr {c:TC} {x:El c} {o b base:Nat} {cells:Array oc} {t:ov} {fz:Nat × Nat} (us:Nat->oc) (hb:b ∉ E.m) (hh:E.w.heap[b]?=iz (.cells cells t fz))
   (hc:∀j,j<csz c->cells[base+j]?=iz (us j)) (hu:∀j (h':j<(cel c x).length),VR E (cel c x)[j] (us j)):VR E (.eptr c x o) (.pointer (iz ⟨b,base+o,i6⟩))
 | arr {id len cap:Nat} {a:Option f9} (hA:E.A id) (hh:E.hd id=.slice a len cap):VR E (.arr id) (.slice a len cap)
 | aptr {id s i o:Nat} (hA:E.A id):VR E (.aptr id s i o) (.pointer (iz ⟨E.ρ id,i*s+o,i6⟩))
 | nilsl:VR E .nilsl (.slice i6 0 0)
 | sl {id off len s:Nat} {c:Option Nat} (cap:Nat) (hA:E.A id) (h1:len<=cap) (h2:cap<9223372036854775808) (h3:off+cap*s<=E.κ id) (h4:∀x,c=iz x->cap=x) (h5:c=i6->off+cap*s=E.κ id) :
   VR E (.sl id off len s c) (.slice (iz ⟨E.ρ id,off,i6⟩) len cap)
 | nilptr:VR E .nilptr (.pointer i6)
 | gp {g:Nat} (hg:glB g=i7):VR E (.gp g) (.pointer (iz ⟨g,0,i6⟩))
 | ptr {id off:Nat} (hA:E.A id):VR E (.ptr id off) (.pointer (iz ⟨E.ρ id,off,i6⟩))
 | nilmap:VR E .nilmap (.map i6)
 | map {id:Nat} (hA:E.A id):VR E (.map id) (.map (iz (E.ρ id)))
 | nilfn:VR E .nilfn .nilFunc
 | fn {f:Nat} {cs:List IV} {us:List oc} (hl:cs.length=us.length) (h:∀i (h:i<cs.length) (h':i<us.length),VR E cs[i] us[i]):VR E (.fn f cs) (.func (.func f) #[] us.toArray)
 | bfn {f:Nat} {cs:List IV} {us:List oc} (hl:cs.length=us.length) (h:∀i (h:i<cs.length) (h':i<us.length),VR E cs[i] us[i]):VR E (.bfn f cs) (.func (.func f) us.toArray #[])
 | yield {id:Nat} (hA:E.A id):VR E (.yield id) (.func (.yield (E.ρ id)) #[] #[])
 | nili:VR E .nili .nilIface
 | iface {t:Nat} {v:IV} {u:oc} (h:VR E v u):VR E (.iface t v) (.iface t u)
 | agg {cs:List IV} {us:List oc} (hl:cs.length=us.length) (h:∀i (h:i<cs.length) (h':i<us.length),VR E cs[i] us[i]):VR E (.agg cs) (.agg us.toArray)
 | tup {cs:List IV} {us:List oc} (hl:cs.length=us.length) (h:∀i (h:i<cs.length) (h':i<us.length),VR E cs[i] us[i]):VR E (.tup cs) (.tuple us.toArray)
theorem VR.mono{E E':Env}(e:E.Le E'){v:IV}{u:oc}(h:VR E v u):VR E' v u:=by
 induction h with
 | unk u=>exact .unk u
 | bool b=>exact .bool b
 | int k n h=>exact .int k n h
 | str s h=>exact .str s h
 | lst0 h=>exact .lst0 h
 | lst us h1 h2 h3 hb hh hc _ ih =>
  obtain⟨f,d⟩:=e.tr.keep _ (qk hh) hb;exact .lst us h1 h2 h3 f (d.trans hh) hc ih
 | eptr us hb hh hc _ ih =>
  obtain⟨f,d⟩:=e.tr.keep _ (qk hh) hb;exact .eptr us f (d.trans hh) hc ih
 | arr hA hh=>obtain⟨a,c,g,i,j⟩:=e.alw _ hA;exact .arr a (i.trans hh)
 | aptr hA=>obtain⟨a,c,_⟩:=e.alw _ hA;rw[<- c];exact .aptr a
 | nilsl=>exact .nilsl
 | sl cap hA h1 h2 h3 h4 h5 =>
  obtain⟨a,c,g,_⟩:=e.alw _ hA;rw[<- c];exact .sl cap a h1 h2 (by rw[g];exact h3) h4 (by rw[g];exact h5)
 | nilptr=>exact .nilptr
 | gp hg=>exact .gp hg
 | ptr hA=>obtain⟨a,c,_⟩:=e.alw _ hA;rw[<- c];exact .ptr a
 | nilmap=>exact .nilmap
 | map hA=>obtain⟨a,c,_⟩:=e.alw _ hA;rw[<- c];exact .map a
 | nilfn=>exact .nilfn
 | fn hl _ ih=>exact .fn hl ih
 | bfn hl _ ih=>exact .bfn hl ih
 | yield hA=>obtain⟨a,c,_⟩:=e.alw _ hA;rw[<- c];exact .yield a
 | nili=>exact .nili
 | iface _ ih=>exact .iface ih
 | agg hl _ ih=>exact .agg hl ih
 | tup hl _ ih=>exact .tup hl ih
def VRs(E:Env)(cs:Lz IV)(us:Lz oc):Prop:=cs.length=us.length/\∀i (h:i<cs.length) (h':i<us.length),VR E cs[i] us[i]
theorem VRs.mono{E E':Env}(e:E.Le E'){cs:Lz IV}{us:Lz oc}(h:VRs E cs us):VRs E' cs us:=⟨h.1,fun i a b=>(h.2 i a b).mono e⟩
theorem VRs.nil{E:Env}:VRs E [] []:=⟨rfl,fun i h=>by simp at h⟩
theorem VRs.cons{E:Env}{v:IV}{u:oc}{cs:Lz IV}{us:Lz oc}(h:VR E v u)(k:VRs E cs us):VRs E (v::cs) (u::us) :=
 ⟨by simp[k.1],fun i a b=>by
  cases i with
  | zero=>exact h
  | succ i=>exact k.2 i (by simpa using a) (by simpa using b)⟩
theorem VRs.inv{E:Env}{v:IV}{cs:Lz IV}{us:Lz oc}(h:VRs E (v::cs) us):∃u us',us=u::us'/\VR E v u/\VRs E cs us':=by
 cases us with
 | nil=>have:=h.1;simp at this
 | cons u us=>exact⟨u,us,rfl,h.2 0 (by simp) (by simp),by have:=h.1;simpa using this,fun i a b=>h.2 (i+1) (by simpa using a) (by simpa using b)⟩
theorem VRs.append{E:Env}{cs ds:Lz IV}{us vs:Lz oc}(h:VRs E cs us)(k:VRs E ds vs):VRs E (cs++ds) (us++vs) :=
 ⟨by simp[h.1,k.1],fun i a b=>by
  have d:=h.1;by_cases c:i<cs.length
  ·rw[jbe c,jbe (by omega)];exact h.2 i c (by omega)
  ·rw[ja1 (by omega),ja1 (by omega)];have:=k.2 (i-cs.length) (by simp at a;omega) (by simp at b;omega);simpa [d] using this⟩
theorem VRs.take{E:Env}{cs:Lz IV}{us:Lz oc}(h:VRs E cs us)(n:Nat):VRs E (cs.take n) (us.take n) :=
 ⟨by simp[h.1],fun i a b=>by simp only[jcc];exact h.2 i (by simp at a;omega) (by simp at b;omega)⟩
theorem VRs.drop{E:Env}{cs:Lz IV}{us:Lz oc}(h:VRs E cs us)(n:Nat):VRs E (cs.drop n) (us.drop n) :=
 ⟨by simp[h.1],fun i a b=>by simp only[List.getElem_drop];exact h.2 (n+i) (by simp at a;omega) (by simp at b;omega)⟩
theorem VRs.get{E:Env}{cs:Lz IV}{us:Lz oc}(h:VRs E cs us){i:Nat}{v:IV}(hv:cs[i]?=iz v):∃u,us[i]?=iz u/\VR E v u:=by
 obtain⟨a,rfl⟩:=x9.1 hv;exact⟨us[i]'(by rw[<- h.1];exact a),xc _,h.2 i a _⟩
def wd:IV->Bool
 | .unk=>eb
 | _=>i7
theorem VR.cells{E:Env}{v:IV}{u:oc}(h:VR E v u)(hv:wd v=i7):VRs E (cellsOf v) u.cells.toList:=by
 cases h with
 | agg hl h=>exact⟨hl,h⟩
 | unk=>cases hv
 | lst us h1 h2 h3 hb hh hc hu=>exact VRs.cons (.lst us h1 h2 h3 hb hh hc hu) VRs.nil
 | eptr us hb hh hc hu=>exact VRs.cons (.eptr us hb hh hc hu) VRs.nil
 | _=>refine VRs.cons ?_ VRs.nil;constructor<;>assumption
theorem VR.one{E:Env}{v:IV}{u:oc}(h:VR E v u)(hv:one1 v=i7):Sx.one u=i7:=by
 cases h<;>first|rfl|(cases hv;done)
theorem VRs.ones{E:Env}:∀{cs:Lz IV} {us:Lz oc},VRs E cs us->cs.all one1=i7->us.all Sx.one=i7
 | [],us,h,_=>by have:=h.1;cases us<;>simp at this;rfl
 | v::cs,us,h,hc=>by
  obtain⟨u,us,rfl,h1,h2⟩:=h.inv;simp only[gu,xf] at hc ⊢;exact⟨h1.one hc.1,h2.ones hc.2⟩

structure FR (E:Env) (n:Nat) (fr:PT IV) (tmps:Array oc):Prop where
 size:tmps.size=n
 get:∀t,t<n->VR E (slot fr t) (tmps.getD t undef)
theorem FR.mono{E E':Env}(e:E.Le E'){n:Nat}{fr:PT IV}{tmps:Array oc}(h:FR E n fr tmps):FR E' n fr tmps:=⟨h.size,fun t a=>(h.get t a).mono e⟩
theorem vp(x:IV)(fr:PT IV)(n k:Nat):slot (fr.set x n) k=if k=n then x else slot fr k:=by
 unfold slot;rw[PT.get_set]
 grind
theorem FR.put{E:Env}{n:Nat}{fr:PT IV}{tmps:Array oc}(h:FR E n fr tmps){d:Nat}{x:IV}{u:oc}(hx:VR E x u):FR E n (fr.set x d) (tmps.setIfInBounds d u) :=
 ⟨by simp[h.size],fun t a=>by
  rw[vp];by_cases e:t=d
  ·subst e;simp [h.size,a];exact hx
  ·rw[xr e];have:=h.get t a;simpa [rc,jbp (jcm e)] using this⟩

def ARel(E:Env)(c:TC)(l:Lz (El c))(cells:Array oc):Prop :=
 ∃us:Nat->Nat->oc,(∀i,i<l.length->∀j,j<csz c->cells[i*csz c+j]?=iz (us i j))/\∀i (h:i<l.length) j (h':j<(cel c l[i]).length),VR E (cel c l[i])[j] (us i j)
theorem ARel.mono{E E':Env}(e:E.Le E'){c:TC}{l:Lz (El c)}{cells:Array oc}(h:ARel E c l cells):ARel E' c l cells:=by
 obtain⟨d,g,f⟩:=h;exact⟨d,g,fun i a j b=>(f i a j b).mono e⟩
def ko(ents:Array mt)(c:Nat):Prop:=(ents.toList.map (·.born)).Nodup/\∀e∈ents.toList,e.born<c
theorem ko.nil:ko #[] 0:=⟨List.nodup_nil,fun e h=>by simp at h⟩
theorem ko.push{ents:Array mt}{c:Nat}(h:ko ents c)(k v:oc):ko (ents.push { key:=k,val:=v,born:=c }) (c+1):=by
 refine⟨?_,fun e he=>?_⟩
 ·rw[Array.toList_push,jas];refine dr.2 ⟨h.1,by simp,fun a d b f=>?_⟩;obtain⟨e,he,rfl⟩:=dh.1 d;have:=h.2 e he
  grind
 ·rw[Array.toList_push] at he;rcases p4.1 he with he|he
  ·have:=h.2 e he;omega
  ·grind
theorem ko.modify{ents:Array mt}{c j:Nat}(h:ko ents c)(f:mt->mt)(hf:∀e,(f e).born=e.born):ko (ents.modify j f) c:=by
 have b:((ents.modify j f).toList.map (·.born))=ents.toList.map (·.born):=by
  rw[Array.toList_modify];apply d9
  grind
 refine⟨by rw[b];exact h.1,fun e d=>?_⟩;have:e.born∈(ents.modify j f).toList.map (·.born):=dh.2 ⟨e,d,rfl⟩;rw[b] at this;obtain⟨i,a,g⟩:=dh.1 this;rw[<- g];exact h.2 i a
theorem ko.erase{ents:Array mt}{c j:Nat}(h:ko ents c):ko (ents.eraseIdxIfInBounds j) c:=by
 have a:(ents.eraseIdxIfInBounds j).toList.Sublist ents.toList:=by
  unfold a7;split
  ·rw[Array.toList_eraseIdx];exact List.eraseIdx_sublist _ _
  ·grind
 exact⟨h.1.sublist (a.map _),fun e b=>h.2 e (a.subset b)⟩
def OR(E:Env)(id:Nat):IObj->Prop
 | .dead=>True
 | .row cs=>∃cells t,E.w.heap[E.ρ id]?=iz (.cells cells t (0,0))/\cells.size=E.κ id/\cs.length<=cells.size/\VRs E cs (cells.toList.take cs.length)
 | .arr c l=>∃a cap,E.hd id=.slice a l.length cap/\l.length<=cap/\cap<9223372036854775808/\l.length*bsz c<=140737488355328 /\
   ((E.hb id=eb/\cap=0/\(c=.int .u8->a=i6))\/(E.hb id=i7/\a=iz ⟨E.ρ id,0,i6⟩/\∃cells t,E.w.heap[E.ρ id]?=iz (.cells cells t (0,0))/\(cap*csz c<=cells.size/\(c=.int .u8->t=u8T))/\ARel E c l cells))
 | .frz c l=>VR E (.lst c l) (E.hd id)
 | .map es=>∃ents clock,E.w.heap[E.ρ id]?=iz (.map ents clock)/\VRs E (es.map (·.1)) (ents.toList.map (·.key))/\VRs E (es.map (·.2)) (ents.toList.map (·.val))/\ko ents clock
 | .tmap k v es=>∃ents clock,E.w.heap[E.ρ id]?=iz (.map ents clock)/\VRs E ((tmEs k v es).map (·.1)) (ents.toList.map (·.key))/\VRs E ((tmEs k v es).map (·.2)) (ents.toList.map (·.val))/\ko ents clock
 | .iter s p=>E.w.heap[E.ρ id]?=iz (.stringIter s p)/\s.size<9223372036854775808
 | .defs on=>E.w.heap[E.ρ id]?=iz (.deferred (if on then iz [] else i6))
 | .bld j=>∃p v,E.w.heap[E.ρ id]?=iz (.cells #[p,v] bldT (0,0))/\(p=.pointer i6\/p=.pointer (iz ⟨E.ρ id,0,i6⟩))/\VR E (.arr j) v
 | .loop st pend nt fr ps assign body D=>∃fn tmps,E.w.heap[E.ρ id]?=iz (.loop { state:=st,pending:=pend,fn,tmps,params:=ps.toArray,assign,body,defers:=E.ρ D })/\FR E nt fr tmps/\E.A D
theorem OR.lt{E:Env}{id:Nat}{o:IObj}(h:OR E id o)(hl:o.live=i7)(hb:E.hb id=i7):E.ρ id<E.w.heap.size:=by
 cases o with
 | dead=>cases hl
 | frz=>cases hl
 | row cs=>obtain⟨_,_,h,_⟩:=h;exact qk h
 | arr c l =>
  obtain⟨_,_,_,_,_,_,h⟩:=h
  grind
 | map es=>obtain⟨_,_,h,_⟩:=h;exact qk h
 | tmap k v es=>obtain⟨_,_,h,_⟩:=h;exact qk h
 | iter s p=>exact qk h.1
 | defs on=>exact qk h
 | bld j=>obtain⟨_,_,h,_⟩:=h;exact qk h
 | loop=>obtain⟨_,_,h,_⟩:=h;exact qk h
def IObj.blk:IObj->Bool
 | .arr _ _=>eb
 | o=>o.live
theorem OR.mono{E E':Env}(e:E.Le E'){id:Nat}{o:IObj}(hA:E.A id)(hB:o.blk=i7->E.hb id=i7)(hs:o.live=i7->E.hb id=i7->E'.w.heap[E.ρ id]?=E.w.heap[E.ρ id]?)(h:OR E id o):OR E' id o:=by
 obtain⟨K,m,J,y,I⟩:=e.alw id hA;cases o with
 | dead=>trivial
 | frz c l=>show VR E' (.lst c l) (E'.hd id);rw[y];exact VR.mono e h
 | row cs=>obtain⟨b,t,g,f,d,n⟩:=h;exact⟨b,t,by rw[m,hs rfl (hB rfl),g],by rw[J,f],d,n.mono e⟩
 | arr c l =>
  obtain⟨a,u,g,f,d,n,r⟩:=h;refine⟨a,u,by rw[y,g],f,d,n,?_⟩;rcases r with ⟨r,x⟩|⟨r,x,b,t,C,B,z⟩
  ·grind
  ·exact .inr ⟨by rw[I,r],by rw[m,x],b,t,by rw[m,hs rfl r,C],B,z.mono e⟩
 | map es=>obtain⟨i,c,g,f,d,n⟩:=h;exact⟨i,c,by rw[m,hs rfl (hB rfl),g],f.mono e,d.mono e,n⟩
 | tmap k v es=>obtain⟨i,c,g,f,d,n⟩:=h;exact⟨i,c,by rw[m,hs rfl (hB rfl),g],f.mono e,d.mono e,n⟩
 | iter s p=>show _/\_;rw[m,hs rfl (hB rfl)];exact h
 | defs on=>show _=_;rw[m,hs rfl (hB rfl)];exact h
 | bld j=>obtain⟨p,v,g,f,d⟩:=h;exact⟨p,v,by rw[m,hs rfl (hB rfl),g],by rw[m];exact f,d.mono e⟩
 | loop st pend nt fr ps assign body D =>
  obtain⟨F,q,g,f,d⟩:=h;obtain⟨H,G,_⟩:=e.alw D d;exact⟨F,q,by rw[m,hs rfl (hB rfl),g,G],f.mono e,H⟩

def up{α:Type u}(f:Nat->α)(i:Nat)(x:α):Nat->α:=fun k=>if k=i then x else f k
theorem zj{α:Type u}(f:Nat->α)(i:Nat)(x:α):up f i x i=x:=by simp[up]
theorem up_ne{α:Type u}(f:Nat->α){i k:Nat}(x:α)(h:k≠i):up f i x k=f k:=by simp[up,h]
structure TW where
 r:Nat->Prop
 w:Nat->Prop
 sub:∀id,w id->r id
abbrev Heap:=Nat->Oq IObj
def Live(E:Env)(H:Heap)(id:Nat):Prop:=E.hb id=i7/\∃o,H id=iz o/\o.live=i7
structure St (T:Nat->Prop) (E:Env) (H:Heap):Prop where
 objs:∀id,T id->E.A id->∀o,H id=iz o->OR E id o
 blk:∀id,T id->E.A id->∀o,H id=iz o->o.blk=i7->E.hb id=i7
 own:∀id,T id->E.A id->Live E H id->E.ρ id∈E.m
 inj:∀i j,T i->T j->E.A i->E.A j->Live E H i->Live E H j->E.ρ i=E.ρ j->i=j
 lo:∀b∈E.m,b<E.w.heap.size
structure Stp (T:Nat->Prop) (E:Env) (H:Heap) (E':Env) (H':Heap):Prop where
 os:E'.w.os=E.w.os
 tape:E'.w.tape=E.w.tape
 output:E'.w.output=E.w.output
 size:E.w.heap.size<=E'.w.heap.size
 same:∀b,b<E.w.heap.size->(∀id,T id->E.A id->Live E H id->E.ρ id≠b)->E'.w.heap[b]?=E.w.heap[b]?
 alw:∀id,E.A id->E'.A id/\E'.ρ id=E.ρ id/\E'.κ id=E.κ id/\E'.hd id=E.hd id/\E'.hb id=E.hb id
 new:∀id,E'.A id->¬E.A id->Live E' H' id->E.w.heap.size<=E'.ρ id\/∃j,T j/\E.A j/\Live E H j/\E'.ρ id=E.ρ j
 old:∀id,T id->E.A id->Live E' H' id->Live E H id
 memo:∀b∈E'.m,b∈E.m\/E.w.heap.size<=b
 mem:∀b∈E.m,b<E.w.heap.size->b∈E'.m\/∃id,T id/\E.A id/\Live E H id/\E.ρ id=b
theorem Stp.refl(T:Nat->Prop)(E:Env)(H:Heap):Stp T E H E H :=
 ⟨rfl,rfl,rfl,xl _,fun _ _ _=>rfl,fun _ h=>⟨h,rfl,rfl,rfl,rfl⟩,fun _ h k=>absurd h k,fun _ _ _ h=>h,fun _ h=>.inl h,fun _ h _=>.inl h⟩
theorem Stp.le{T:TW}{E E':Env}{H H':Heap}(st:St T.r E H)(h:Stp T.w E H E' H'):E.Le E' :=
 ⟨h.alw,⟨fun b d a=>⟨fun j=>by
  rcases h.memo b j with h1|h1
  ·exact a h1
  ·omega,h.same b d fun c f i g e=>a (e▸st.own c (T.sub _ f) i g)⟩⟩⟩
theorem Stp.trans{T:Nat->Prop}{E E' E'':Env}{H H' H'':Heap}(hT:∀id,E'.A id->¬E.A id->T id)(h:Stp T E H E' H')(k:Stp T E' H' E'' H''):Stp T E H E'' H'':=by
 have r:∀id,T id->E'.A id->Live E' H' id->E.w.heap.size<=E'.ρ id\/∃j,T j/\E.A j/\Live E H j/\E'.ρ id=E.ρ j:=fun id f c d=>by
  by_cases a:E.A id
  ·exact .inr ⟨id,f,a,h.old id f a d,(h.alw id a).2.1⟩
  ·exact h.new id c a d
 refine⟨k.os.trans h.os,k.tape.trans h.tape,k.output.trans h.output,py h.size k.size,fun b g l=>?_,fun id c=>?_,fun id c l d=>?_,fun id f c d=>h.old id f c (k.old id f (h.alw id c).1 d),fun b g=>?_,fun b g i=>?_⟩
 ·refine(k.same b (pz g h.size) fun id f c d e=>?_).trans (h.same b g l)
  grind
 ·obtain⟨u,D,C,B,z⟩:=h.alw id c;obtain⟨t,m,s,y,x⟩:=k.alw id u
  grind
 ·by_cases a:E'.A id
  ·obtain⟨t,m,s⟩:=k.alw id a;rw[m];exact h.new id a l (k.old id (hT id a l) a d)
  ·rcases k.new id c a d with h1|⟨j,q,p,o,n⟩
   ·exact .inl (py h.size h1)
   ·grind
 ·rcases k.memo b g with h1|h1
  ·exact h.memo b h1
  ·exact .inr (py h.size h1)
 ·rcases h.mem b g i with h1|h1
  ·rcases k.mem b h1 (pz i h.size) with v|⟨id,q,p,o,n⟩
   ·grind
   ·grind
  ·grind
end Go.Jx
end

noncomputable section
namespace Go.Jx
open Go Go.Sx Go.RowKit
universe u

theorem Live.up_ne{E:Env}{H:Heap}{i k:Nat}{x:Oq IObj}(h:k≠i):Live E (up H i x) k↔Live E H k:=by unfold Live;rw[Jx.up_ne _ _ h]
theorem Live.hb{E E':Env}{H:Heap}{k:Nat}(e:E'.hb k=E.hb k):Live E' H k↔Live E H k:=by unfold Live;rw[e]
def Env.at_(E:Env)(w':oh):Env:={ E with w:=w' }
theorem Env.at_le{T:TW}{E:Env}{H:Heap}{id:Nat}{w':oh}(st:St T.r E H)(hT:T.w id)(hA:E.A id)(hL:Live E H id)(u:Upd [E.ρ id] E.w w'):E.Le (E.at_ w') :=
 ⟨fun _ h=>⟨h,rfl,rfl,rfl,rfl⟩,⟨fun b c a=>⟨a,u.same b c fun h=>a (by
  have:b=E.ρ id:=by simpa using h
  rw[this];exact st.own id (T.sub _ hT) hA hL)⟩⟩⟩
theorem St.write{T:TW}{E:Env}{H:Heap}{id:Nat}{o':IObj}{w':oh}(st:St T.r E H)(hT:T.w id)(hA:E.A id)(hL:Live E H id)(u:Upd [E.ρ id] E.w w')
  (ho:OR (E.at_ w') id o'):St T.r (E.at_ w') (up H id (iz o'))/\Stp T.w E H (E.at_ w') (up H id (iz o')):=by
 have q:=Env.at_le st hT hA hL u;have g:∀j,Live (E.at_ w') (up H id (iz o')) j->Live E H j:=fun j h=>by
  by_cases e:j=id
  ·grind
  ·exact(Live.up_ne (E:=E) e).1 h
 refine⟨⟨fun j n m o l=>?_,fun j n m o l s=>?_,fun j n m x=>st.own j n m (g j x),fun i j a b c d e f=>st.inj i j a b c d (g i e) (g j f),fun b p=>pz (st.lo b p) u.size⟩,
  ⟨u.os,u.tape,u.output,u.size,fun b p v=>u.same b p fun h=>v id hT hA hL (gn.1 h).symm,q.alw,fun j h k=>absurd h k,fun j _ _ h=>g j h,fun b h=>.inl h,fun b h _=>.inl h⟩⟩
 ·by_cases e:j=id
  ·subst e;rw[zj] at l;cases l;exact ho
  ·rw[Jx.up_ne _ _ e] at l;exact(st.objs j n m o l).mono q m (st.blk j n m o l) fun t p=>u.same _ ((st.objs j n m o l).lt t p) fun h=>e (st.inj j id n (T.sub _ hT) m hA ⟨p,o,l,t⟩ hL (by simpa using h))
 ·by_cases e:j=id
  ·subst e;exact hL.1
  ·rw[Jx.up_ne _ _ e] at l;exact st.blk j n m o l s
def Env.with_(E:Env)(id k:Nat)(hd:oc)(w':oh):Env:=⟨up E.ρ id E.w.heap.size,up E.κ id k,up E.hd id hd,up E.hb id i7,fun j=>E.A j\/j=id,E.w.heap.size::E.m,w'⟩
theorem Env.with_le{E:Env}{id k:Nat}{hd:oc}{w':oh}(hA:¬E.A id)(u:Upd [] E.w w'):E.Le (E.with_ id k hd w') :=
 ⟨fun j h=>⟨.inl h,up_ne _ _ fun e=>hA (e▸h),up_ne _ _ fun e=>hA (e▸h),up_ne _ _ fun e=>hA (e▸h),up_ne _ _ fun e=>hA (e▸h)⟩,⟨fun b c a=>⟨fun h=>by
  rcases po.1 h with h1|h1
  ·omega
  ·exact a h1,u.same b c (by simp)⟩⟩⟩
theorem St.new{T:TW}{E:Env}{H:Heap}{id k:Nat}{hd:oc}{o:IObj}{w':oh}(st:St T.r E H)(hA:¬E.A id)(u:Upd [] E.w w')(hz:w'.heap.size=E.w.heap.size+1)
  (ho:OR (E.with_ id k hd w') id o):St T.r (E.with_ id k hd w') (up H id (iz o))/\Stp T.w E H (E.with_ id k hd w') (up H id (iz o)):=by
 have x:=Env.with_le (k:=k) (hd:=hd) hA u;have v:∀j,j≠id->(E.with_ id k hd w').ρ j=E.ρ j:=fun j h=>Jx.up_ne _ _ h;have q:(E.with_ id k hd w').ρ id=E.w.heap.size:=zj _ _ _;have C:∀j,T.r j->E.A j->Live E H j->E.ρ j<E.w.heap.size:=fun j n p z=>st.lo _ (st.own j n p z);have m:∀j,j≠id->Live (E.with_ id k hd w') (up H id (iz o)) j->Live E H j:=fun j g h=>(Live.hb (E:=E) (up_ne _ _ g)).1 ((Live.up_ne g).1 h)
 refine⟨⟨fun j n p t g=>?_,fun j n p t g B=>?_,fun j n p z=>?_,fun i j a b c d e f h=>?_,fun b y=>?_⟩,
  ⟨u.os,u.tape,u.output,u.size,fun b y D=>u.same b y (by simp),x.alw,fun j h D _=>?_,fun j n p h=>?_,fun b h=>?_,fun b h _=>.inl (xv _ h)⟩⟩
 ·by_cases e:j=id
  ·subst e;rw[zj] at g;cases g;exact ho
  ·rw[Jx.up_ne _ _ e] at g;have l:E.A j:=p.resolve_right e;exact(st.objs j n l t g).mono x l (st.blk j n l t g) fun hd y=>u.same _ ((st.objs j n l t g).lt hd y) (by simp)
 ·by_cases e:j=id
  ·subst e;exact zj _ _ _
  ·rw[Jx.up_ne _ _ e] at g;have l:E.A j:=p.resolve_right e;show up E.hb id i7 j=i7;rw[Jx.up_ne _ _ e];exact st.blk j n l t g B
 ·by_cases e:j=id
  ·subst e;rw[q];exact x8
  ·rw[v j e];exact xv _ (st.own j n (p.resolve_right e) (m j e z))
 ·by_cases s:i=id
  ·by_cases g:j=id
   ·grind
   ·rw[s,q,v j g] at h;have:=C j b (d.resolve_right g) (m j g f);omega
  ·by_cases g:j=id
   ·rw[g,q,v i s] at h;have:=C i a (c.resolve_right s) (m i s e);omega
   ·rw[v i s,v j g] at h;exact st.inj i j a b (c.resolve_right s) (d.resolve_right g) (m i s e) (m j g f) h
 ·rw[show (E.with_ id k hd w').w=w' from rfl,hz];rcases po.1 y with h1|h1
  ·omega
  ·have:=st.lo b h1;omega
 ·rcases h with h1|h1
  ·grind
  ·grind
 ·grind
 ·rcases po.1 h with h1|h1
  ·grind
  ·grind
def Env.gho(E:Env)(id:Nat)(hd:oc):Env:={ E with hd:=up E.hd id hd,hb:=up E.hb id eb,A:=fun j=>E.A j\/j=id }
theorem Env.gho_le{E:Env}{id:Nat}{hd:oc}(hA:¬E.A id):E.Le (E.gho id hd) :=
 ⟨fun j h=>⟨.inl h,rfl,rfl,up_ne _ _ fun e=>hA (e▸h),up_ne _ _ fun e=>hA (e▸h)⟩,Tr.refl _ _⟩
theorem St.ghost{T:TW}{E:Env}{H:Heap}{id:Nat}{hd:oc}{o:IObj}(st:St T.r E H)(hA:¬E.A id)(hbo:o.blk=eb)
  (ho:OR (E.gho id hd) id o):St T.r (E.gho id hd) (up H id (iz o))/\Stp T.w E H (E.gho id hd) (up H id (iz o)):=by
 have q:=Env.gho_le (hd:=hd) hA;have g:∀j,Live (E.gho id hd) (up H id (iz o)) j->j≠id/\Live E H j:=fun j h=>by
  have l:j≠id:=fun e=>by subst e;have:=h.1;simp [Env.gho,zj] at this
  exact⟨l,(Live.hb (E:=E) (up_ne _ _ l)).1 ((Live.up_ne l).1 h)⟩
 refine⟨⟨fun j p s t l=>?_,fun j p s t l m=>?_,fun j p s u=>st.own j p (s.resolve_right (g j u).1) (g j u).2,fun i j a b c d e f h=>st.inj i j a b (c.resolve_right (g i e).1) (d.resolve_right (g j f).1) (g i e).2 (g j f).2 h,st.lo⟩,
  ⟨rfl,rfl,rfl,xl _,fun _ _ _=>rfl,q.alw,fun j h k u=>absurd (h.resolve_right (g j u).1) k,fun j _ _ h=>(g j h).2,fun b h=>.inl h,fun b h _=>.inl h⟩⟩
 ·by_cases e:j=id
  ·subst e;rw[zj] at l;cases l;exact ho
  ·rw[Jx.up_ne _ _ e] at l;have n:E.A j:=s.resolve_right e;exact(st.objs j p n t l).mono q n (st.blk j p n t l) fun _ _=>rfl
 ·by_cases e:j=id
  ·subst e;rw[zj] at l;cases l;rw[hbo] at m;cases m
  ·rw[Jx.up_ne _ _ e] at l;show up E.hb id eb j=i7;rw[Jx.up_ne _ _ e];exact st.blk j p (s.resolve_right e) t l m
theorem St.kill{T:TW}{E:Env}{H:Heap}{id:Nat}(st:St T.r E H):St T.r E (up H id (iz .dead))/\Stp T.w E H E (up H id (iz .dead)):=by
 have p:∀j,Live E (up H id (iz .dead)) j->Live E H j:=fun j h=>by
  by_cases e:j=id
  ·subst e;obtain⟨_,o,q,s⟩:=h;rw[zj] at q;cases q;cases s
  ·exact(Live.up_ne e).1 h
 refine⟨⟨fun j l n o g=>?_,fun j l n o g m=>?_,fun j l n h=>st.own j l n (p j h),fun i j a b c d e f=>st.inj i j a b c d (p i e) (p j f),st.lo⟩,
  ⟨rfl,rfl,rfl,xl _,fun _ _ _=>rfl,fun _ h=>⟨h,rfl,rfl,rfl,rfl⟩,fun j h k=>absurd h k,fun j _ _ h=>p j h,fun b h=>.inl h,fun b h _=>.inl h⟩⟩
 ·by_cases e:j=id
  ·subst e;rw[zj] at g;cases g;trivial
  ·rw[Jx.up_ne _ _ e] at g;exact st.objs j l n o g
 ·by_cases e:j=id
  ·subst e;rw[zj] at g;cases g;cases m
  ·rw[Jx.up_ne _ _ e] at g;exact st.blk j l n o g m
def Env.moved(E:Env)(id id':Nat)(hd:oc)(w':oh):Env:=⟨up E.ρ id' (E.ρ id),up E.κ id' (E.κ id),up E.hd id' hd,up E.hb id' i7,fun j=>E.A j\/j=id',E.m,w'⟩
theorem St.move{T:TW}{E:Env}{H:Heap}{id id':Nat}{hd:oc}{o:IObj}{w':oh}(st:St T.r E H)(hT:T.w id)(hA:E.A id)(hL:Live E H id)(hA':¬E.A id')(u:Upd [E.ρ id] E.w w')
  (ho:OR (E.moved id id' hd w') id' o):E.Le (E.moved id id' hd w')/\St T.r (E.moved id id' hd w') (up (up H id (iz .dead)) id' (iz o))/\Stp T.w E H (E.moved id id' hd w') (up (up H id (iz .dead)) id' (iz o)):=by
 have F:id≠id':=fun e=>hA' (e▸hA);have z:=Env.at_le st hT hA hL u;have p:E.Le (E.moved id id' hd w'):=⟨fun j h=>⟨.inl h,up_ne _ _ fun e=>hA' (e▸h),up_ne _ _ fun e=>hA' (e▸h),up_ne _ _ fun e=>hA' (e▸h),up_ne _ _ fun e=>hA' (e▸h)⟩,z.tr⟩;have y:∀j,j≠id'->(E.moved id id' hd w').ρ j=E.ρ j:=fun j h=>Jx.up_ne _ _ h;have n:(E.moved id id' hd w').ρ id'=E.ρ id:=zj _ _ _;have k:∀j,j≠id'->Live (E.moved id id' hd w') (up (up H id (iz .dead)) id' (iz o)) j->Live E H j/\j≠id:=fun j h1 h=>by
  have h:=(Live.hb (E:=E) (up_ne _ _ h1)).1 ((Live.up_ne h1).1 h);by_cases e:j=id
  ·subst e;obtain⟨_,o,h1,C⟩:=h;rw[zj] at h1;cases h1;cases C
  ·exact⟨(Live.up_ne e).1 h,e⟩
 refine⟨p,⟨fun j m v s g=>?_,fun j m v s g B=>?_,fun j m v G=>?_,fun i j a b c d e f h=>?_,fun b t=>pz (st.lo b t) u.size⟩,
  ⟨u.os,u.tape,u.output,u.size,fun b t D=>u.same b t fun h=>D id hT hA hL (gn.1 h).symm,p.alw,fun j h D _=>?_,fun j m v h=>?_,fun b h=>.inl h,fun b h _=>.inl h⟩⟩
 ·by_cases e:j=id'
  ·subst e;rw[zj] at g;cases g;exact ho
  ·rw[Jx.up_ne _ _ e] at g;have l:E.A j:=v.resolve_right e;by_cases x:j=id
   ·subst x;rw[zj] at g;cases g;trivial
   ·rw[Jx.up_ne _ _ x] at g;exact(st.objs j m l s g).mono p l (st.blk j m l s g) fun hd t=>u.same _ ((st.objs j m l s g).lt hd t) fun h=>x (st.inj j id m (T.sub _ hT) l hA ⟨t,s,g,hd⟩ hL (by simpa using h))
 ·by_cases e:j=id'
  ·subst e;exact zj _ _ _
  ·rw[Jx.up_ne _ _ e] at g;show up E.hb id' i7 j=i7;rw[Jx.up_ne _ _ e];by_cases x:j=id
   ·subst x;rw[zj] at g;cases g;cases B
   ·rw[Jx.up_ne _ _ x] at g;exact st.blk j m (v.resolve_right e) s g B
 ·by_cases e:j=id'
  ·subst e;rw[n];exact st.own id (T.sub _ hT) hA hL
  ·rw[y j e];exact st.own j m (v.resolve_right e) (k j e G).1
 ·by_cases q:i=id'
  ·by_cases g:j=id'
   ·grind
   ·obtain⟨h1,C⟩:=k j g f;rw[q,n,y j g] at h;exact absurd (st.inj id j (T.sub _ hT) b hA (d.resolve_right g) hL h1 h).symm C
  ·by_cases g:j=id'
   ·obtain⟨h1,C⟩:=k i q e;rw[g,n,y i q] at h;exact absurd (st.inj i id a (T.sub _ hT) (c.resolve_right q) hA h1 hL h) C
   ·rw[y i q,y j g] at h;exact st.inj i j a b (c.resolve_right q) (d.resolve_right g) (k i q e).1 (k j g f).1 h
 ·rcases h with h1|h1
  ·grind
  ·grind
 ·grind
theorem St.idle{T:TW}{E:Env}{H:Heap}{w':oh}(st:St T.r E H)(u:Upd [] E.w w'):St T.r (E.at_ w') H/\Stp T.w E H (E.at_ w') H:=by
 have n:E.Le (E.at_ w'):=⟨fun _ h=>⟨h,rfl,rfl,rfl,rfl⟩,⟨fun b g q=>⟨q,u.same b g (by simp)⟩⟩⟩
 exact⟨⟨fun j m l o p=>(st.objs j m l o p).mono n l (st.blk j m l o p) fun t g=>u.same _ ((st.objs j m l o p).lt t g) (by simp),st.blk,fun j m l s=>st.own j m l s,fun i j a b c d e f=>st.inj i j a b c d e f,fun b g=>pz (st.lo b g) u.size⟩,
  ⟨u.os,u.tape,u.output,u.size,fun b g v=>u.same b g (by simp),n.alw,fun j h k=>absurd h k,fun j _ _ h=>h,fun b h=>.inl h,fun b h _=>.inl h⟩⟩
def Env.less(E:Env)(id:Nat):Env:={ E with m:=cond (E.hb id) (E.m.filter (fun b=>!od b (E.ρ id))) E.m }
theorem Env.less_mem{E:Env}{id b:Nat}(h:b∈(E.less id).m):b∈E.m:=by
 unfold Env.less at h
 grind
theorem Env.less_out{E:Env}{id b:Nat}(h:b∈E.m):b∈(E.less id).m\/(E.hb id=i7/\b=E.ρ id):=by
 unfold Env.less;cases hb:E.hb id with
 | false=>exact .inl h
 | true =>
  by_cases e:b=E.ρ id
  ·grind
  ·exact .inl (jat.2 ⟨h,by rw[qm e];rfl⟩)
theorem Env.less_le(E:Env)(id:Nat):E.Le (E.less id):=⟨fun _ h=>⟨h,rfl,rfl,rfl,rfl⟩,⟨fun b c a=>⟨fun h=>a (Env.less_mem h),rfl⟩⟩⟩
theorem St.freeze{T:TW}{E:Env}{H:Heap}{id:Nat}{c:TC}{l:Lz (El c)}(st:St T.r E H)(hT:T.w id)(hA:E.A id)(ho:H id=iz (.arr c l)) :
  St T.r (E.less id) (up H id (iz (.frz c l)))/\Stp T.w E H (E.less id) (up H id (iz (.frz c l)))/\VR (E.less id) (.lst c l) (E.hd id):=by
 have q:=E.less_le id;have M:E.hb id=i7->Live E H id:=fun F=>⟨F,_,ho,rfl⟩;have B:=st.objs id (T.sub _ hT) hA _ ho;have J:VR (E.less id) (.lst c l) (E.hd id):=by
  obtain⟨a,P,u,s,n,z,y⟩:=B;rw[u];rcases y with ⟨y,K,_⟩|⟨y,K,I,t,O,Q,L,N,G⟩
  ·have:l.length=0:=by omega
   rw[p8.1 this];exact .lst0 n
  ·rw[K];exact .lst L s n z (fun C=>by unfold Env.less at C;rw[y] at C;have:=(jat.1 C).2;rw[dg] at this;cases this) O (fun i D j g=>by rw[x6];exact N i D j g) (fun i D j g=>(G i D j g).mono q)
 have x:∀j,Live (E.less id) (up H id (iz (.frz c l))) j->j≠id/\Live E H j:=fun j h=>by
  have g:j≠id:=fun e=>by subst e;obtain⟨_,o,u,s⟩:=h;rw[zj] at u;cases u;cases s
  exact⟨g,(Live.up_ne (E:=E) g).1 h⟩
 refine⟨⟨fun j p m o g=>?_,fun j p m o g v=>?_,fun j p m h=>?_,fun i j a b c d e f h=>st.inj i j a b c d (x i e).2 (x j f).2 h,fun b F=>st.lo b (Env.less_mem F)⟩,
  ⟨rfl,rfl,rfl,xl _,fun _ _ _=>rfl,q.alw,fun j h k=>absurd h k,fun j _ _ h=>(x j h).2,fun b h=>.inl (Env.less_mem h),fun b h _=>?_⟩,J⟩
 ·by_cases e:j=id
  ·subst e;rw[zj] at g;cases g;exact J
  ·rw[Jx.up_ne _ _ e] at g;exact(st.objs j p m o g).mono q m (st.blk j p m o g) fun _ _=>rfl
 ·by_cases e:j=id
  ·subst e;rw[zj] at g;cases g;cases v
  ·rw[Jx.up_ne _ _ e] at g;exact st.blk j p m o g v
 ·obtain⟨u,s⟩:=x j h;rcases Env.less_out (id:=id) (st.own j p m s) with n|⟨n,z⟩
  ·exact n
  ·exact absurd (st.inj j id p (T.sub _ hT) m hA s (M n) z) u
 ·rcases Env.less_out (id:=id) h with n|⟨n,z⟩
  ·grind
  ·grind

structure IS:Type where
 heap:PT IObj
 next:Nat
def IS.H(S:IS):Heap:=S.heap.get
def IS.set(S:IS)(id:Nat)(o:IObj):IS:=⟨S.heap.set o id,S.next⟩
def IS.new(S:IS)(o:IObj):IS:=⟨S.heap.set o S.next,S.next+1⟩
theorem IS.H_set(S:IS)(id:Nat)(o:IObj):(S.set id o).H=up S.H id (iz o):=by
 funext k;unfold IS.H IS.set up;rw[PT.get_set]
theorem IS.H_new(S:IS)(o:IObj):(S.new o).H=up S.H S.next (iz o):=by
 funext k;unfold IS.H IS.new up;rw[PT.get_set]
structure Gl (m:List Nat) (w:oh):Prop where
 h:∀b,glB b=i7->b ∉ m/\∃o,w.heap[b]?=iz o/\glF b o
theorem Gl.mono{m m':Lz Nat}{w w':oh}(g:Gl m w)(t:Tr m w m' w'):Gl m' w':=⟨fun b c=>by
 obtain⟨i,o,a,f⟩:=g.h b c;obtain⟨e,d⟩:=t.keep b (qk a) i;exact⟨e,o,d.trans a,f⟩⟩
theorem Gl.sub{m m':Lz Nat}{w:oh}(g:Gl m w)(h:∀b∈m',b∈m):Gl m' w:=g.mono (Tr.sub w h)
structure Pre (T:TW) (E:Env) (S:IS):Prop where
 st:St T.r E S.H
 bnd:∀id,E.A id->id<S.next
 nw:∀id,S.next<=id->T.w id
 gl:Gl E.m E.w
structure Post (T:TW) (E:Env) (S:IS) (E':Env) (S':IS):Prop where
 st:St T.r E' S'.H
 stp:Stp T.w E S.H E' S'.H
 bnd:∀id,E'.A id->id<S'.next
 le:S.next<=S'.next
theorem Post.pre{T:TW}{E E':Env}{S S':IS}(p:Pre T E S)(h:Post T E S E' S'):Pre T E' S' :=
 ⟨h.st,h.bnd,fun a b=>p.nw a (py h.le b),p.gl.mono (h.stp.le p.st).tr⟩
theorem Post.refl{T:TW}{E:Env}{S:IS}(p:Pre T E S):Post T E S E S:=⟨p.st,Stp.refl _ _ _,p.bnd,xl _⟩
theorem Post.env{T:TW}{E E':Env}{S S':IS}(p:Pre T E S)(h:Post T E S E' S'):E.Le E':=h.stp.le p.st
structure Fresh (E:Env) (S:IS) (E':Env):Prop where
 fr:∀id,E'.A id->¬E.A id->S.next<=id
theorem Post.trans{T:TW}{E E' E'':Env}{S S' S'':IS}(p:Pre T E S)(h:Post T E S E' S')(f:Fresh E S E')(k:Post T E' S' E'' S''):Post T E S E'' S'' :=
 ⟨k.st,h.stp.trans (fun a c b=>p.nw a (f.fr a c b)) k.stp,k.bnd,py h.le k.le⟩
theorem Fresh.trans{E E' E'':Env}{S S':IS}(f:Fresh E S E')(k:Fresh E' S' E'')(hl:S.next<=S'.next):Fresh E S E'' :=
 ⟨fun a c b=>by
  by_cases h:E'.A a
  ·exact f.fr a h b
  ·exact py hl (k.fr a c h)⟩
theorem Fresh.refl(E:Env)(S:IS):Fresh E S E:=⟨fun _ h k=>absurd h k⟩
theorem Post.idle{T:TW}{E:Env}{S:IS}{w':oh}(p:Pre T E S)(u:Upd [] E.w w'):Post T E S (E.at_ w') S/\Fresh E S (E.at_ w') :=
 let ⟨a,b⟩:=p.st.idle u;⟨⟨a,b,p.bnd,xl _⟩,⟨fun _ h k=>absurd h k⟩⟩
theorem Post.write{T:TW}{E:Env}{S:IS}{id:Nat}{o':IObj}{w':oh}(p:Pre T E S)(hT:T.w id)(hA:E.A id)(hL:Live E S.H id)(u:Upd [E.ρ id] E.w w')
  (ho:OR (E.at_ w') id o'):Post T E S (E.at_ w') (S.set id o')/\Fresh E S (E.at_ w'):=by
 obtain⟨a,b⟩:=p.st.write hT hA hL u ho;refine⟨⟨?_,?_,p.bnd,xl _⟩,⟨fun _ h k=>absurd h k⟩⟩
 ·rw[IS.H_set];exact a
 ·rw[IS.H_set];exact b
theorem Post.new{T:TW}{E:Env}{S:IS}{k:Nat}{hd:oc}{o:IObj}{w':oh}(p:Pre T E S)(u:Upd [] E.w w')(hz:w'.heap.size=E.w.heap.size+1)
  (ho:OR (E.with_ S.next k hd w') S.next o):Post T E S (E.with_ S.next k hd w') (S.new o)/\Fresh E S (E.with_ S.next k hd w'):=by
 have d:¬E.A S.next:=fun h=>rf _ (p.bnd _ h)
 obtain⟨a,b⟩:=p.st.new d u hz ho;refine⟨⟨?_,?_,fun c h=>?_,by simp[IS.new]⟩,⟨fun c h e=>?_⟩⟩
 ·rw[IS.H_new];exact a
 ·rw[IS.H_new];exact b
 ·show c<S.next+1
  rcases h with h|h
  ·have:=p.bnd c h;omega
  ·omega
 ·rcases h with h|h
  ·grind
  ·omega
theorem Post.ghost{T:TW}{E:Env}{S:IS}{hd:oc}{o:IObj}(p:Pre T E S)(hbo:o.blk=eb)(ho:OR (E.gho S.next hd) S.next o) :
  Post T E S (E.gho S.next hd) (S.new o)/\Fresh E S (E.gho S.next hd):=by
 have d:¬E.A S.next:=fun h=>rf _ (p.bnd _ h)
 obtain⟨a,b⟩:=p.st.ghost d hbo ho;refine⟨⟨?_,?_,fun c h=>?_,by simp[IS.new]⟩,⟨fun c h e=>?_⟩⟩
 ·rw[IS.H_new];exact a
 ·rw[IS.H_new];exact b
 ·show c<S.next+1
  rcases h with h|h
  ·have:=p.bnd c h;omega
  ·omega
 ·rcases h with h|h
  ·grind
  ·omega
theorem Post.freeze{T:TW}{E:Env}{S:IS}{id:Nat}{c:TC}{l:Lz (El c)}(p:Pre T E S)(hT:T.w id)(hA:E.A id)(ho:S.heap.get id=iz (.arr c l)) :
  Post T E S (E.less id) (S.set id (.frz c l))/\Fresh E S (E.less id)/\VR (E.less id) (.lst c l) (E.hd id):=by
 obtain⟨a,b,d⟩:=p.st.freeze hT hA ho;refine⟨⟨?_,?_,p.bnd,xl _⟩,⟨fun _ h k=>absurd h k⟩,d⟩
 ·rw[IS.H_set];exact a
 ·rw[IS.H_set];exact b
end Go.Jx
end

noncomputable section
namespace Go.Jx
open Go Go.Sx Go.RowKit
universe u

def toV1:IV->Oq oc
 | .bool b=>iz (.bool b)
 | .int k n=>iz (.int k n)
 | .str s=>iz (.string s)
 | .nilsl=>iz (.slice i6 0 0)
 | .nilptr=>iz (.pointer i6)
 | .nilmap=>iz (.map i6)
 | .nilfn=>iz .nilFunc
 | .nili=>iz .nilIface
 | _=>i6
def toVs:Lz IV->Oq (Lz oc)
 | []=>iz []
 | v::l=>match toV1 v with
  | none=>i6
  | some u=>match toVs l with
   | none=>i6
   | some us=>iz (u::us)
def toV:IV->Oq oc
 | .agg cs=>match toVs cs with|some us=>iz (.agg us.toArray)|none=>i6
 | .tup cs=>match toVs cs with|some us=>iz (.tuple us.toArray)|none=>i6
 | .iface t v=>match toV1 v with|some u=>iz (.iface t u)|none=>i6
 | v=>toV1 v
def ofV1:oc->Oq IV
 | .bool b=>iz (.bool b)
 | .int k n=>cond (decide (k.wrap n=n)) (iz (.int k n)) i6
 | .string s=>cond (oo s.size 9223372036854775808) (iz (.str s)) i6
 | .slice i6 0 0=>iz .nilsl
 | .pointer i6=>iz .nilptr
 | .map i6=>iz .nilmap
 | .nilFunc=>iz .nilfn
 | .nilIface=>iz .nili
 | _=>i6
def ofVs:Lz oc->Oq (Lz IV)
 | []=>iz []
 | v::l=>match ofV1 v with
  | none=>i6
  | some u=>match ofVs l with
   | none=>i6
   | some us=>iz (u::us)
def ofV:oc->Oq IV
 | .agg cs=>match ofVs cs.toList with|some us=>iz (.agg us)|none=>i6
 | .tuple cs=>match ofVs cs.toList with|some us=>iz (.tup us)|none=>i6
 | .iface t v=>match ofV1 v with|some u=>iz (.iface t u)|none=>i6
 | v=>ofV1 v
theorem qq3{E:Env}{x:IV}{u v:oc}(h:toV1 x=iz v)(hx:VR E x u):u=v:=by
 cases hx<;>simp [toV1] at h<;>exact h
theorem qpp{E:Env}:∀{l:Lz IV} {us vs:Lz oc},toVs l=iz vs->VRs E l us->us=vs
 | [],us,vs,h,hx=>by
  have:=hx.1;cases us<;>simp at this;simp[toVs] at h;exact h.symm
 | x::l,us,vs,h,hx=>by
  obtain⟨u,us,rfl,h1,h2⟩:=hx.inv;unfold toVs at h;split at h
  ·grind
  ·rename_i a ha;split at h
   ·grind
   ·rename_i b hb;cases h;rw[qq3 ha h1,qpp hb h2]
theorem zgt{E:Env}{x:IV}{u v:oc}(h:toV x=iz v)(hx:VR E x u):u=v:=by
 cases hx with
 | agg hl hh =>
  simp only[toV] at h;split at h
  ·rename_i a b;cases h;rw[qpp b ⟨hl,hh⟩]
  ·grind
 | tup hl hh =>
  simp only[toV] at h;split at h
  ·rename_i a b;cases h;rw[qpp b ⟨hl,hh⟩]
  ·grind
 | iface hh =>
  simp only[toV] at h;split at h
  ·rename_i a b;cases h;rw[qq3 b hh]
  ·grind
 | _=>exact qq3 (E:=E) (by simpa [toV] using h) (by constructor<;>assumption)
theorem qvm(E:Env){v:oc}{x:IV}(h:ofV1 v=iz x):VR E x v:=by
 unfold ofV1 at h;split at h
 ·cases h;constructor
 ·rename_i k n;cases a:decide (k.wrap n=n) with
  | false=>rw[a] at h;cases h
  | true=>rw[a,xa] at h;cases h;exact .int k n (xu a)
 ·rename_i s;cases a:oo s.size 9223372036854775808 with
  | false=>rw[a] at h;cases h
  | true=>rw[a,xa] at h;cases h;exact .str s (by simpa using a)
 all_goals (cases h;try constructor)
theorem nf(E:Env):∀{l:Lz oc} {xs:Lz IV},ofVs l=iz xs->VRs E xs l
 | [],xs,h=>by simp[ofVs] at h;subst h;exact VRs.nil
 | v::l,xs,h=>by
  unfold ofVs at h;split at h
  ·grind
  ·rename_i a ha;split at h
   ·grind
   ·rename_i b hb;cases h;exact VRs.cons (qvm E ha) (nf E hb)
theorem qee(E:Env){v:oc}{x:IV}(h:ofV v=iz x):VR E x v:=by
 unfold ofV at h;split at h
 ·rename_i c;split at h
  ·rename_i a b;cases h;have:=nf E b;exact .agg (us:=c.toList) this.1 this.2
  ·grind
 ·rename_i c;split at h
  ·rename_i a b;cases h;have:=nf E b;exact .tup (us:=c.toList) this.1 this.2
  ·grind
 ·split at h
  ·rename_i a b;cases h;exact .iface (qvm E b)
  ·grind
 ·exact qvm E h
def calm{α:Type}(P:om):Sem α->Oq α
 | .pure a=>iz a
 | .program k=>calm P (k P)
 | .mark _ k=>calm P k
 | _=>i6
theorem qpm{α:Type}{P:om}:∀{e:Sem α} {a:α},calm P e=iz a->∀w,e.run P w=.ok a w
 | .pure a,b,h,w=>by simp[calm] at h;subst h;rfl
 | .program k,b,h,w=>by simp only[calm] at h;exact qpm (e:=k P) h w
 | .mark _ k,b,h,w=>by simp only[calm] at h;exact qpm (e:=k) h w
 | .load ..,b,h,w=>by simp[calm] at h
 | .store ..,b,h,w=>by simp[calm] at h
 | .new ..,b,h,w=>by simp[calm] at h
 | .shape ..,b,h,w=>by simp[calm] at h
 | .freeze ..,b,h,w=>by simp[calm] at h
 | .frozen ..,b,h,w=>by simp[calm] at h
 | .getObj ..,b,h,w=>by simp[calm] at h
 | .setObj ..,b,h,w=>by simp[calm] at h
 | .choose ..,b,h,w=>by simp[calm] at h
 | .sys ..,b,h,w=>by simp[calm] at h
 | .halt ..,b,h,w=>by simp[calm] at h

structure TI where
 sz:Nat
 bytes:Nat
 und:fd
 zero:oc
def TT(P:om)(tt:Nat->Oq TI):Prop:=∀T ti,tt T=iz ti->Ty P T ti.und ti.sz ti.bytes ti.zero

structure Res:Type where
 v:IV
 S:IS
 rd:Nat
 wr:Nat
def tin(T:Nat->Prop)(r:Nat):Prop:=∀j,r.testBit j=i7->T j
theorem zp{T:Nat->Prop}{a b:Nat}(h:tin T (a ||| b)):tin T a/\tin T b :=
 ⟨fun j c=>h j (by simp[dq,c]),fun j c=>h j (by simp[dq,c])⟩
theorem zi{T:Nat->Prop}{id:Nat}(h:tin T (2 ^ id)):T id:=h id (by simp[Nat.testBit_two_pow_self])
def Good(P:om)(T:TW)(E:Env)(S:IS)(e:Sem oc)(r:Res):Prop :=
 ∃u E',e.run P E.w=.ok u E'.w/\VR E' r.v u/\Post T E S E' r.S/\Fresh E S E'
def qay(P:om)(T:TW)(E:Env)(S:IS)(e:Sem Unit)(r:Res):Prop :=
 ∃E',e.run P E.w=.ok () E'.w/\r.v=.tup []/\Post T E S E' r.S/\Fresh E S E'
theorem Good.same{P:om}{T:TW}{E:Env}{S:IS}{e:Sem oc}{v:IV}{u:oc}{rd wr:Nat}(p:Pre T E S)(h:e.run P E.w=.ok u E.w)(hv:VR E v u):Good P T E S e ⟨v,S,rd,wr⟩ :=
 ⟨u,E,h,hv,Post.refl p,Fresh.refl E S⟩

section
variable {P : om} {tt : Nat -> Oq TI} {T : TW} {E : Env} {S : IS}

def yk(tt:Nat->Oq TI)(S:IS)(ty:ov):IV->Oq Res
 | .ptr id off=>match tt ty with
  | none=>i6
  | some ti=>match S.heap.get id with
   | some (.row cs)=>cond (qv ti.und) (match cs[off]? with|some v=>iz ⟨v,S,2 ^ id,0⟩|none=>i6)
     (cond (og (off+ti.sz) cs.length) (iz ⟨.agg ((cs.drop off).take ti.sz),S,2 ^ id,0⟩) i6)
   | some (.bld j)=>cond (od off 1&&qv ti.und) (iz ⟨.arr j,S,2 ^ id,0⟩) i6
   | _=>i6
 | .eptr c x off=>match tt ty with
  | none=>i6
  | some ti=>cond (qv ti.und) (match (cel c x)[off]? with|some v=>iz ⟨v,S,0,0⟩|none=>i6)
     (cond (og (off+ti.sz) (csz c)) (iz ⟨.agg (((cel c x).drop off).take ti.sz),S,0,0⟩) i6)
 | .aptr id s i off=>match tt ty with
  | none=>i6
  | some ti=>match S.heap.get id with
   | some (.arr c l)=>cond (od s (csz c)) (match l[i]? with
    | none=>i6
    | some x=>cond (qv ti.und) (match (cel c x)[off]? with|some v=>iz ⟨v,S,2 ^ id,0⟩|none=>i6)
     (cond (og (off+ti.sz) (csz c)) (iz ⟨.agg (((cel c x).drop off).take ti.sz),S,2 ^ id,0⟩) i6)) i6
   | _=>i6
 | _=>i6
theorem bf{id:Nat}{cs:Lz IV}(p:Pre T E S)(hT:T.r id)(hA:E.A id)(h:S.heap.get id=iz (.row cs)) :
  ∃cells t,E.w.heap[E.ρ id]?=iz (.cells cells t (0,0))/\cells.size=E.κ id/\cs.length<=cells.size/\VRs E cs (cells.toList.take cs.length):=p.st.objs id hT hA _ h
theorem q1n{id:Nat}{cs:Lz IV}{cells:Array oc}{t:ov}(h1:E.w.heap[E.ρ id]?=iz (.cells cells t (0,0)))(h2:VRs E cs (cells.toList.take cs.length)){off:Nat}{v:IV}(hv:cs[off]?=iz v) :
  ∃u,E.w.cell? ⟨E.ρ id,off,i6⟩=iz u/\VR E v u:=by
 obtain⟨u,b,c⟩:=h2.get hv;refine⟨u,?_,c⟩;have a:=(x9.1 hv).1;rw[gb,xx a] at b;simp only[fu,h1]
 grind
theorem qk0{w:oh}{b:Nat}{cells:Array oc}{t:ov}{fz:Nat × Nat}(hh:w.heap[b]?=iz (.cells cells t fz))(k:Nat):w.cell? ⟨b,k,i6⟩=cells[k]?:=by
 simp[fu,hh]
theorem q1x{c:TC}{x:El c}{b base off:Nat}{us:Nat->oc}{ty:ov}{ti:TI}{rd wr:Nat}{r:Res}(p:Pre T E S)(hty:Ty P ty ti.und ti.sz ti.bytes ti.zero)(hc:∀j,j<csz c->E.w.cell? ⟨b,base+j,i6⟩=iz (us j))
  (hu:∀j (h:j<(cel c x).length),VR E (cel c x)[j] (us j))
  (h:cond (qv ti.und) (match (cel c x)[off]? with|some v=>iz (⟨v,S,rd,wr⟩:Res)|none=>i6) (cond (og (off+ti.sz) (csz c)) (iz ⟨.agg (((cel c x).drop off).take ti.sz),S,rd,wr⟩) i6)=iz r) :
  Good P T E S (af ty (.pointer (iz ⟨b,base+off,i6⟩))) r:=by
 have k:=jr c x;cases d:qv ti.und with
 | true =>
  rw[d,xa] at h;split at h<;>cases h;rename_i v f;obtain⟨g,rfl⟩:=x9.1 f;exact Good.same p (qcm hty d (hc off (by omega))) (hu off g)
 | false =>
  rw[d,xe] at h;cases e:og (off+ti.sz) (csz c) with
  | false=>rw[e] at h;cases h
  | true =>
   rw[e,xa] at h;cases h;have i:=xk e;refine Good.same p (u:=.agg ((fv ti.sz).map fun j=>us (off+j)).toArray) (qlv hty d rfl (by simp) fun j l=>?_) (.agg (by simp;omega) fun j a b=>?_)
   ·grind
   ·grind
theorem zk7{ty:ov}{x:IV}{ux:oc}{r:Res}(htt:TT P tt)(p:Pre T E S)(h:yk tt S ty x=iz r)(hr:tin T.r r.rd)(hx:VR E x ux):Good P T E S (af ty ux) r:=by
 unfold yk at h;split at h<;>try cases h
 rotate_left
 ·rename_i c x d;split at h
  ·grind
  rename_i m f;cases hx with
  | eptr Q g hh N hu=>exact q1x p (htt _ _ f) (fun j B=>(qk0 hh _).trans (N j B)) hu h
 ·rename_i o s i d;split at h
  ·grind
  rename_i m f;split at h<;>try cases h
  rename_i c l e;cases y:od s (csz c) with
  | false=>rw[y] at h;cases h
  | true =>
  rw[y,xa] at h;have y:=xg y;subst y;split at h
  ·grind
  rename_i x H;have I:r.rd=2 ^ o:=by
   grind
  cases hx with
  | aptr hA =>
  obtain⟨a,γ,L,W,K,ε,D⟩:=p.st.objs o (zi (by rw[I] at hr;exact hr)) hA _ e;obtain⟨M,G⟩:=x9.1 H;rcases D with ⟨D,V⟩|⟨D,V,b,t,U,δ,Q,R,F⟩
  ·omega
  ·subst G;exact q1x p (htt _ _ f) (fun j B=>(qk0 U _).trans (R i M j B)) (F i M) h
 rename_i o d;cases hx with
 | ptr hA =>
 split at h
 ·grind
 rename_i m f;have n:=htt _ _ f;split at h<;>try cases h
 rotate_left
 ·rename_i ζ e;cases g:(od d 1&&qv m.und) with
  | false=>rw[g] at h;cases h
  | true =>
   rw[g,xa] at h;cases h;simp only[xf] at g;have A:=xg g.1;subst A;obtain⟨q,v,L,W,K⟩:=p.st.objs o (zi hr) hA _ e;exact Good.same p (qcm n g.2 ((qk0 L 1).trans rfl)) K
 rename_i O e;cases k:qv m.und with
 | true =>
  rw[k,xa] at h;split at h<;>cases h;rename_i v X;obtain⟨b,t,A,β,α,J⟩:=bf p (zi hr) hA e;obtain⟨u,C,Z⟩:=q1n A J X;exact Good.same p (qcm n k C) Z
 | false =>
  rw[k,xe] at h;cases g:og (d+m.sz) O.length with
  | false=>rw[g] at h;cases h
  | true =>
   rw[g,xa] at h;cases h;have Y:=xk g;obtain⟨b,t,A,β,α,J⟩:=bf p (zi hr) hA e;have C:=(J.drop d).take m.sz;have z:(((b.toList.take O.length).drop d).take m.sz).length=m.sz:=by simp;omega
   refine Good.same p (qlv n k rfl z fun j B=>?_) (.agg C.1 C.2);have N:E.w.cell? ⟨E.ρ o,d+j,i6⟩=b.toList[d+j]?:=by simp[fu,A]
   grind

def vi{α:Type}(f:IS->Lz IV->Oq (α × Lz IV × IS × Nat)):Nat->IS->Lz IV->Oq (Lz α × IS × Nat)
 | 0,S,_=>iz ([],S,0)
 | n+1,S,cs=>match f S cs with
  | none=>i6
  | some (x,r,S1,w1)=>match vi f n S1 r with
   | none=>i6
   | some (l,S2,w2)=>iz (x::l,S2,w1 ||| w2)
def yg(c:TC)(f:IS->Lz IV->Oq (El c × Lz IV × IS × Nat))(S:IS)(cs:Lz IV):Oq (Lz (El c) × Lz IV × IS × Nat):=match cs with
 | .nilsl::r=>iz ([],r,S,0)
 | .lst c' l::r=>match q3 c' c l with
  | some l'=>iz (l',r,S,0)
  | none=>i6
 | .arr id::r=>match S.heap.get id with
  | some (.arr c' l)=>match q3 c' c l with
   | some l'=>iz (l',r,S.set id (.frz c' l),2 ^ id)
   | none=>i6
  | some (.frz c' l)=>match q3 c' c l with
   | some l'=>iz (l',r,S,2 ^ id)
   | none=>i6
  | _=>i6
 | .sl id off len s _::r=>match S.heap.get id with
  | some (.row cs')=>cond (od s (csz c)&&og (off+len*s) cs'.length&&og (len*bsz c) 140737488355328)
   (match vi f len S (cs'.drop off) with
   | none=>i6
   | some (l,S1,w1)=>match S1.heap.get id with
    | some (.row _)=>iz (l,r,S1.set id .dead,w1 ||| 2 ^ id)
    | _=>i6) i6
  | _=>i6
 | _=>i6
def iclF(g:(k:Nat)->IS->Lz IV->Oq (Lz (RT k) × Lz IV × IS × Nat)):(c:TC)->IS->Lz IV->Oq (El c × Lz IV × IS × Nat)
 | .int k,S,cs=>match cs with
  | .int k' n::r=>cond (kbeq k k') (iz (n,r,S,0)) i6
  | _=>i6
 | .bool,S,cs=>match cs with
  | .bool b::r=>iz (b,r,S,0)
  | _=>i6
 | .str,S,cs=>match cs with
  | .str s::r=>iz (s,r,S,0)
  | _=>i6
 | .list c,S,cs=>yg c (iclF g c) S cs
 | .rl k,S,cs=>g k S cs
 | .two a b,S,cs=>match iclF g a S cs with
  | none=>i6
  | some (x,r,S1,w1)=>match iclF g b S1 r with
   | none=>i6
   | some (y,r2,S2,w2)=>iz ((x,y),r2,S2,w1 ||| w2)
def iclR:Nat->(k:Nat)->IS->Lz IV->Oq (Lz (RT k) × Lz IV × IS × Nat)
 | 0,_,_,_=>i6
 | n+1,k,S,cs=>match yg (rcC k) (iclF (iclR n) (rcC k)) S cs with
  | some (l,r,S',w)=>iz (l.map (mk k),r,S',w)
  | none=>i6
def icl:(c:TC)->IS->Lz IV->Oq (El c × Lz IV × IS × Nat):=iclF (iclR 3)
def qa0(c:TC)(f:IS->Lz IV->Oq (El c × Lz IV × IS × Nat)):Prop :=
 ∀⦃T:TW⦄ ⦃E:Env⦄ ⦃S:IS⦄ ⦃cs:Lz IV⦄ ⦃us:Lz oc⦄ ⦃x:El c⦄ ⦃r:Lz IV⦄ ⦃S':IS⦄ ⦃wr:Nat⦄,f S cs=iz (x,r,S',wr)->Pre T E S->tin T.w wr->VRs E cs us ->
  ∃E',E'.w=E.w/\Post T E S E' S'/\Fresh E S E'/\∃us1 us2,us=us1++us2/\VRs E' (cel c x) us1/\VRs E' r us2
theorem qqc{c:TC}{f:IS->Lz IV->Oq (El c × Lz IV × IS × Nat)}(hf:qa0 c f):∀(n:Nat) {T:TW} {E:Env} {S:IS} {cs:Lz IV} {us:Lz oc} {l:Lz (El c)} {S':IS} {wr:Nat},
  vi f n S cs=iz (l,S',wr)->Pre T E S->tin T.w wr->VRs E cs us ->
  ∃E',E'.w=E.w/\Post T E S E' S'/\Fresh E S E'/\l.length=n/\∃vs:Nat->Nat->oc,(∀i,i<n->∀j,j<csz c->us[i*csz c+j]?=iz (vs i j))/\∀i (h:i<l.length) j (h':j<(cel c l[i]).length),VR E' (cel c l[i])[j] (vs i j)
 | 0,T,E,S,cs,us,l,S',wr,h,p,hw,hv=>by
  simp only[vi,pj,rg] at h;obtain⟨rfl,rfl,rfl⟩:=h;exact⟨E,rfl,Post.refl p,Fresh.refl E S,rfl,fun _ _=>.nilFunc,fun i hi=>absurd hi (by omega),fun i hi=>absurd hi (by simp)⟩
 | n+1,T,E,S,cs,us,l,S',wr,h,p,hw,hv=>by
  simp only[vi] at h;split at h
  ·grind
  rename_i x r S1 w1 h1;split at h<;>cases h;rename_i l S2 w2 h2;obtain⟨hw1,hw2⟩:=zp hw;obtain⟨E1,e1,q1,f1,us1,us2,rfl,v1,v2⟩:=hf h1 p hw1 hv;obtain⟨E2,e2,q2,f2,hl,vs,k1,k2⟩:=qqc hf n h2 (q1.pre p) hw2 v2;have hlen:us1.length=csz c:=by rw[<- v1.1,jr]
  refine⟨E2,e2.trans e1,Post.trans p q1 f1 q2,f1.trans f2 q1.le,by simp[hl],fun i j=>match i with|0=>us1.getD j .nilFunc|i+1=>vs i j,fun i hi j hj=>?_,fun i hi j hj=>?_⟩
  ·cases i with
   | zero=>simp only[jbf,x6];rw[pa (by omega)];simp [xc (show j<us1.length by omega),xn]
   | succ i =>
    grind
  ·cases i with
   | zero =>
    have hj':j<us1.length:=by rw[<- v1.1];exact hj
    have:=(v1.2 j hj hj').mono (q2.env (q1.pre p))
    grind
   | succ i=>exact k2 i (by simpa using hi) j hj
theorem zt7{T:TW}{E:Env}{S:IS}{id off cap:Nat}{c:TC}{l:Lz (El c)}{cells:Array oc}{t:ov}{vs:Nat->Nat->oc}{cs:Lz IV}(p:Pre T E S)(hT:T.w id)(hA:E.A id)(ho:S.heap.get id=iz (.row cs))
  (hh:E.w.heap[E.ρ id]?=iz (.cells cells t (0,0))) (h1:l.length<=cap) (h2:cap<9223372036854775808) (h3:l.length*bsz c<=140737488355328)
  (hc:∀i,i<l.length->∀j,j<csz c->cells[off+i*csz c+j]?=iz (vs i j)) (hu:∀i (h:i<l.length) j (h':j<(cel c l[i]).length),VR E (cel c l[i])[j] (vs i j)) :
  Post T E S (E.less id) (S.set id .dead)/\Fresh E S (E.less id)/\VR (E.less id) (.lst c l) (.slice (iz ⟨E.ρ id,off,i6⟩) l.length cap):=by
 have v:=p.st.blk id (T.sub _ hT) hA _ ho rfl;have r:=E.less_le id;have B:Live E S.H id:=⟨v,_,ho,rfl⟩;have u:∀j,Live (E.less id) (up S.H id (iz .dead)) j->j≠id/\Live E S.H j:=fun j h=>by
  have g:j≠id:=fun e=>by subst e;obtain⟨_,o,h1,h2⟩:=h;rw[zj] at h1;cases h1;cases h2
  exact⟨g,(Live.up_ne (E:=E) g).1 h⟩
 have n:=p.st;refine⟨⟨?_,?_,p.bnd,xl _⟩,⟨fun _ h k=>absurd h k⟩,.lst vs h1 h2 h3 (fun x=>by unfold Env.less at x;rw[v] at x;have:=(jat.1 x).2;rw[dg] at this;cases this) hh hc (fun i z j g=>(hu i z j g).mono r)⟩
 ·rw[IS.H_set];refine⟨fun j q m o g=>?_,fun j q m o g s=>?_,fun j q m h=>?_,fun i j a b c d e f h=>n.inj i j a b c d (u i e).2 (u j f).2 h,fun b v=>n.lo b (Env.less_mem v)⟩
  ·by_cases e:j=id
   ·subst e;rw[zj] at g;cases g;trivial
   ·rw[Jx.up_ne _ _ e] at g;exact(n.objs j q m o g).mono r m (n.blk j q m o g) fun _ _=>rfl
  ·by_cases e:j=id
   ·subst e;rw[zj] at g;cases g;cases s
   ·rw[Jx.up_ne _ _ e] at g;exact n.blk j q m o g s
  ·obtain⟨h1,h2⟩:=u j h;rcases Env.less_out (id:=id) (n.own j q m h2) with h3|⟨h3,y⟩
   ·exact h3
   ·exact absurd (n.inj j id q (T.sub _ hT) m hA h2 B y) h1
 ·rw[IS.H_set];refine⟨rfl,rfl,rfl,xl _,fun _ _ _=>rfl,r.alw,fun j h k=>absurd h k,fun j _ _ h=>(u j h).2,fun b h=>.inl (Env.less_mem h),fun b h _=>?_⟩;rcases Env.less_out (id:=id) h with h3|⟨h3,y⟩
  ·grind
  ·grind
theorem q3a{c:TC}{f:IS->Lz IV->Oq (El c × Lz IV × IS × Nat)}(hf:qa0 c f):qa0 (.list c) (yg c f):=by
 intro T E S ζ a x r μ wr h p z q;unfold yg at h;split at h<;>try cases h
 ·obtain⟨u,a,rfl,g,b⟩:=q.inv;cases g;exact⟨E,rfl,Post.refl p,Fresh.refl E S,[_],a,rfl,VRs.cons (.lst0 (by omega)) VRs.nil,b⟩
 ·split at h<;>cases h;rename_i Q e;obtain⟨rfl,rfl⟩:=kl e;obtain⟨u,a,rfl,g,b⟩:=q.inv;exact⟨E,rfl,Post.refl p,Fresh.refl E S,[u],a,rfl,VRs.cons g VRs.nil,b⟩
 ·obtain⟨u,a,rfl,g,b⟩:=q.inv;cases g with
  | arr hA hh =>
  split at h<;>try cases h
  ·rename_i Y l o;split at h<;>cases h;rename_i Q e;obtain⟨rfl,rfl⟩:=kl e;obtain⟨q1,P,k⟩:=Post.freeze p (zi z) hA o;rw[hh] at k;exact⟨E.less _,rfl,q1,P,[_],a,rfl,VRs.cons k VRs.nil,b.mono (q1.env p)⟩
  ·rename_i Y l o;split at h<;>cases h;rename_i e;obtain⟨rfl,rfl⟩:=kl e;have k:=p.st.objs _ (T.sub _ (zi z)) hA _ o;unfold OR at k;rw[hh] at k;exact⟨E,rfl,Post.refl p,Fresh.refl E S,[_],a,rfl,VRs.cons k VRs.nil,b⟩
 ·rename_i w off d s J γ;obtain⟨u,a,rfl,g,b⟩:=q.inv;cases g with
  | sl cap hA g1 g2 g3 g4 g5 =>
  split at h<;>try cases h
  rename_i B o;cases v:(od s (csz c)&&og (off+d*s) B.length&&og (d*bsz c) 140737488355328) with
  | false=>rw[v] at h;cases h
  | true =>
  rw[v,xa] at h;simp only[xf] at v;obtain⟨⟨D,K⟩,C⟩:=v;have D:=xg D;have K:=xk K;have C:=xk C;subst D;split at h
  ·cases h
  rename_i l κ β n;split at h<;>cases h;rename_i X A;obtain⟨y,m⟩:=zp z;obtain⟨cells,t,U,ε,δ,R⟩:=p.st.objs w (T.sub _ (zi m)) hA _ o;obtain⟨α,I,q1,H,e,vs,O,N⟩:=qqc hf d n p y (R.drop off);obtain⟨Z,L,ι,θ,η⟩:=(q1.env p).alw w hA;subst e;obtain⟨G,M,F⟩:=zt7 (off:=off) (cap:=cap) (c:=c) (vs:=vs) (l:=x) (q1.pre p) (zi m) Z A (cells:=cells) (t:=t) (by rw[I,L];exact U) g1 g2 C (fun i W j V=>by
   have:=O i W j V;rw[jad,gb] at this;split at this
   ·rw[<- jai] at this;simpa using this
   ·cases this) N
  rw[L] at F;exact⟨α.less w,I,Post.trans p q1 H G,H.trans M q1.le,[_],a,rfl,VRs.cons F VRs.nil,(b.mono (q1.env p)).mono (G.env (q1.pre p))⟩
theorem qd5{g:(k:Nat)->IS->Lz IV->Oq (Lz (RT k) × Lz IV × IS × Nat)}(hg:∀k,qa0 (.rl k) (g k)):∀c:TC,qa0 c (iclF g c)
 | .int k=>by
  intro T E S cs us x r S' wr h p hw hv;simp only[iclF] at h;split at h<;>try cases h
  rename_i k' n r;cases hk:kbeq k k' with
  | false=>rw[hk] at h;cases h
  | true =>
   rw[hk,xa] at h;cases h;have:=c9 hk;subst this;obtain⟨u,us,rfl,h1,h2⟩:=hv.inv;exact⟨E,rfl,Post.refl p,Fresh.refl E S,[u],us,rfl,VRs.cons h1 VRs.nil,h2⟩
 | .bool=>by
  intro T E S cs us x r S' wr h p hw hv;simp only[iclF] at h;split at h<;>cases h;obtain⟨u,us,rfl,h1,h2⟩:=hv.inv;exact⟨E,rfl,Post.refl p,Fresh.refl E S,[u],us,rfl,VRs.cons h1 VRs.nil,h2⟩
 | .str=>by
  intro T E S cs us x r S' wr h p hw hv;simp only[iclF] at h;split at h<;>cases h;obtain⟨u,us,rfl,h1,h2⟩:=hv.inv;exact⟨E,rfl,Post.refl p,Fresh.refl E S,[u],us,rfl,VRs.cons h1 VRs.nil,h2⟩
 | .list c=>q3a (qd5 hg c)
 | .rl k=>hg k
 | .two a b=>by
  intro T E S cs us x r S' wr h p hw hv;simp only[iclF] at h;split at h
  ·grind
  rename_i x1 r1 S1 w1 h1;split at h<;>cases h;rename_i y r2 S2 w2 h2;obtain⟨hw1,hw2⟩:=zp hw;obtain⟨E1,e1,q1,f1,us1,us2,rfl,v1,v2⟩:=qd5 hg a h1 p hw1 hv;obtain⟨E2,e2,q2,f2,us3,us4,rfl,v3,v4⟩:=qd5 hg b h2 (q1.pre p) hw2 v2;exact⟨E2,e2.trans e1,Post.trans p q1 f1 q2,f1.trans f2 q1.le,us1++us3,us4,by simp,(v1.mono (q2.env (q1.pre p))).append v3,v4⟩
theorem q0p:∀(n k:Nat),qa0 (.rl k) (iclR n k)
 | 0,k=>by
  intro T E S cs us x r S' wr h p hw hv;cases h
 | n+1,k=>by
  intro T E S cs us x r S' wr h p hw hv
  have h:(match yg (rcC k) (iclF (iclR n) (rcC k)) S cs with
   | some (l,r,S',w)=>iz (l.map (mk k),r,S',w)
   | none=>i6:Oq (Lz (RT k) × Lz IV × IS × Nat))=iz (x,r,S',wr):=h
  split at h<;>cases h;rename_i l hl;have:=q3a (qd5 (q0p n) (rcC k)) hl p hw hv;simp only[cel,ql3] at this ⊢
  grind
theorem tn:∀c:TC,qa0 c (icl c):=qd5 (q0p 3)

def putI:Lz IV->Nat->Lz IV->Lz IV
 | cs,_,[]=>cs
 | cs,o,v::vs=>putI (cs.set o v) (o+1) vs
theorem qpr:∀(vs:Lz IV) (o:Nat) (cs:Lz IV),(putI cs o vs).length=cs.length
 | [],_,_=>rfl
 | v::vs,o,cs=>by simp[putI,qpr vs]
theorem VRs.set{E:Env}{cs:Lz IV}{us:Lz oc}(h:VRs E cs us)(o:Nat){v:IV}{u:oc}(hv:VR E v u):VRs E (cs.set o v) (us.set o u) :=
 ⟨by simp[h.1],fun i a b=>by
  simp only[rx] at a b;rw[ja8,ja8];by_cases e:o=i
  ·grind
  ·rw[xr e,xr e];exact h.2 i a b⟩
theorem VRs.put{E:Env}:∀{vs:Lz IV} {uv:Lz oc} {cs:Lz IV} {us:Lz oc} (o:Nat),VRs E cs us->VRs E vs uv->VRs E (putI cs o vs) (putL us o uv)
 | [],uv,cs,us,o,h,k=>by
  have:=k.1;cases uv<;>simp at this;exact h
 | v::vs,uv,cs,us,o,h,k=>by
  obtain⟨u,uv,rfl,k1,k2⟩:=k.inv;exact VRs.put (o+1) (h.set o k1) k2
theorem qz1:∀(vs:Lz oc) (o n:Nat) (cs:Lz oc),(putL cs o vs).take n=putL (cs.take n) o vs
 | [],_,_,_=>rfl
 | v::vs,o,n,cs=>by unfold putL;rw[qz1 vs,List.take_set]
theorem qvk:∀(vs:Lz oc) (o:Nat) (cs:Lz oc) (k:Nat),o+vs.length<=cs.length->(putL cs o vs)[k]?=if o<=k/\k<o+vs.length then vs[k-o]? else cs[k]?
 | [],o,cs,k,h=>by rw[xr (by simp)];rfl
 | v::vs,o,cs,k,h=>by
  unfold putL;simp only[xw] at h;rw[qvk vs (o+1) _ k (by simp;omega),List.getElem?_set]
  grind
theorem zh0{i k s j o:Nat}(hj:j<s)(ho:o<s)(h:i*s+j=k*s+o):i=k:=by
 rcases Nat.lt_trichotomy i k with h1|h1|h1
 ·have:=pw s (show i+1<=k from h1)
  grind
 ·grind
 ·have:=pw s (show k+1<=i from h1)
  grind
theorem qt1{β:Nat}{t:ov}:∀(vs:Lz oc) {w:oh} {cs:Lz oc} (o i:Nat),w.heap[β]?=iz (.cells cs.toArray t (0,0))->o+i+vs.length<=cs.length->vs.all Sx.one=i7 ->
  ∃w',(storeCells ⟨β,o,i6⟩ vs i).run P w=.ok () w'/\w'.heap[β]?=iz (.cells (putL cs (o+i) vs).toArray t (0,0))/\Upd [β] w w'/\w'.heap.size=w.heap.size
 | [],w,cs,o,i,hb,_,_=>⟨w,by simp[storeCells,go_sem],hb,Upd.refl _ _,rfl⟩
 | v::vs,w,cs,o,i,hh,hl,ho=>by
  simp only[gu,xf,xw] at ho hl;have hlt:=qk hh;have hc:w.cell? ⟨β,o+i,i6⟩=cs[o+i]?:=by simp[fu,hh]
  have hcv:cs[o+i]?=iz cs[o+i]:=by rw[xc (by omega)]
  have hfz:w.frozen? ⟨β,o+i,i6⟩=eb:=by simp[World.frozen?,hh]
  have hb1:(w.setCell ⟨β,o+i,i6⟩ v).heap[β]?=iz (.cells (cs.set (o+i) v).toArray t (0,0)):=by
   simp[fp,gv,hh]
  have hu:Upd [β] w (w.setCell ⟨β,o+i,i6⟩ v):=by
   refine⟨rfl,rfl,rfl,by simp[fp],fun b hb hm=>?_⟩;simp only[fp,gv]
   grind
  obtain⟨w',h1,h2,h3,h4⟩:=qt1 vs o (i+1) hb1 (by simp;omega) ho.2;refine⟨w',?_,?_,hu.trans h3,?_⟩
  ·have e:(⟨β,o,i6⟩:f9).add i=⟨β,o+i,i6⟩:=ja _ rfl _;have hst:(store ⟨β,o+i,i6⟩ v).run P w=.ok () (w.setCell ⟨β,o+i,i6⟩ v):=by
    have hv1:=ho.1;cases v with
    | agg _=>simp [Sx.one] at hv1
    | tuple _=>simp [Sx.one] at hv1
    | _=>simp only[store,ay,hc,hcv,hfz];rfl
   simp only[storeCells,e,xh];rw[hst];exact h1
  ·simpa [putL,jai] using h2
  ·rw[h4];simp [fp]
theorem zoo{T:ov}{D:fd}{size bytes:Nat}{zero:oc}{w:oh}(h:Ty P T D size bytes zero){β o:Nat}{t:ov}{cs:Lz oc}{v:oc}(hb:w.heap[β]?=iz (.cells cs.toArray t (0,0)))(hv:v.cells.size=size)(hl:o+size<=cs.length)
  (ho:v.cells.toList.all Sx.one=i7) :
  ∃w',(m6 T (.pointer (iz ⟨β,o,i6⟩)) v).run P w=.ok () w'/\w'.heap[β]?=iz (.cells (putL cs o v.cells.toList).toArray t (0,0))/\Upd [β] w w'/\w'.heap.size=w.heap.size:=by
 obtain⟨w',b,a⟩:=qt1 (P:=P) v.cells.toList o 0 hb (by simp;omega) ho;refine⟨w',?_,a⟩;simp only[m6,mh,storeVar,xh,xd,xb,Sx.run_sizeOf h,hv,ne_eq,pq,p9,b]
theorem zs4{T:TW}{E:Env}{S:IS}{id i off:Nat}{c:TC}{l:Lz (El c)}{x x2:El c}{ty:ov}{ti:TI}{uy:oc}{us1:Lz oc}(p:Pre T E S)(hT:T.w id)(hA:E.A id)(ho:S.heap.get id=iz (.arr c l))
  (hty:Ty P ty ti.und ti.sz ti.bytes ti.zero) (hx:l[i]?=iz x) (hsz:uy.cells.size=ti.sz) (hle:off+ti.sz<=csz c) (hone:uy.cells.toList.all Sx.one=i7)
  (hv:∀us:Nat->oc,(∀j (h:j<(cel c x).length),VR E (cel c x)[j] (us j))->(∃(cells:Array oc) (t:ov),E.w.heap[E.ρ id]?=iz (.cells cells t)/\∀j,j<csz c->cells[i*csz c+j]?=iz (us j))->VRs E (cel c x2) (putL ((fv (csz c)).map us) off uy.cells.toList)) :
  qay P T E S (m6 ty (.pointer (iz ⟨E.ρ id,i*csz c+off,i6⟩)) uy) ⟨.tup [],S.set id (.arr c (l.set i x2)),0,0⟩:=by
 obtain⟨a,z,W,V,U,R,r⟩:=p.st.objs id (T.sub _ hT) hA _ ho;obtain⟨K,rfl⟩:=x9.1 hx;rcases r with ⟨r,I⟩|⟨r,I,cells,t,G,F,us,B,s⟩
 ·omega
 have y:=qkt c;have J:0<csz c->i*csz c+csz c<=cells.size:=fun _=>by
  have:=pw (csz c) (show i+1<=z by omega)
  grind
 have L:Live E S.H id:=⟨r,_,ho,rfl⟩;obtain⟨O,Y,X,N,Z⟩:=zoo (P:=P) (w:=E.w) (β:=E.ρ id) (o:=i*csz c+off) (cs:=cells.toList) (t:=t) hty (by simpa using G) hsz (by have:=J y;simp;omega) hone;have m:uy.cells.toList.length=ti.sz:=by simpa using hsz
 have v:∀k,(putL cells.toList (i*csz c+off) uy.cells.toList)[k]?=if i*csz c+off<=k/\k<i*csz c+off+ti.sz then uy.cells.toList[k-(i*csz c+off)]? else cells[k]?:=fun k=>by
  rw[qvk _ _ _ _ (by have:=J y;simp;omega),m];simp
 have n:=Env.at_le p.st hT hA L N;have u:=(hv (us i) (s i K) ⟨cells,t,G,fun j g=>B i K j g⟩).mono n;have f:(putL ((fv (csz c)).map (us i)) off uy.cells.toList).length=csz c:=by rw[yw];simp
 have C:OR (E.at_ O) id (.arr c (l.set i x2)):=by
  refine⟨a,z,by rw[rx];exact W,by simpa using V,U,by simpa using R,.inr ⟨r,I,_,t,X,⟨by simp[yw,F.1],F.2⟩,
  fun d j=>if d=i then (putL ((fv (csz c)).map (us i)) off uy.cells.toList).getD j .nilFunc else us d j,fun d b j g=>?_,fun d b j g=>?_⟩⟩
  ·simp only[pf];rw[v];simp only[rx] at b;by_cases e:d=i
   ·subst e;simp only[dv];rw[xn,qvk _ _ _ _ (by simp;omega),m];by_cases D:off<=j/\j<off+ti.sz
    ·rw[xx (by omega),xx D,show d*csz c+j-(d*csz c+off)=j-off by omega];rw[xc (by omega)];rfl
    ·rw[xr (by omega),xr D,B d b j g];simp [g]
   ·simp only[xr e];rw[xr,B d b j g];rintro⟨D,M⟩;exact e (zh0 (o:=d*csz c+j-i*csz c) g (by omega) (by omega))
  ·simp only[rx] at b;by_cases e:d=i
   ·subst e;simp only[dv];have q:j<(cel c x2).length:=by simpa using g
    have:=u.2 j q (by rw[f,<- jr c x2];exact q);rw[xn,xc (by rw[f,<- jr c x2];exact q)];simpa using this
   ·simp only[xr e];have:(l.set i x2)[d]'(by simpa using b)=l[d]:=by rw[ja8,xr (fun h=>e h.symm)]
    have M:=(s d b j (by rw[jr] at g ⊢;exact g)).mono n;simpa [this] using M
 obtain⟨q1,Q⟩:=Post.write p hT hA L N C;exact⟨_,Y,rfl,q1,Q⟩
theorem or_zero{a b:Nat}(h:o9 a b=0):a=0/\b=0:=by
 have h:a ||| b=0:=h
 grind
def qps(c:TC)(f:IS->Lz IV->Oq (El c × Lz IV × IS × Nat)):Prop:=∀(S:IS) (cs:Lz IV) (x:El c) (r:Lz IV) (S':IS),f S cs=iz (x,r,S',0)->S'=S/\∀(E:Env) (us:Lz oc),VRs E cs us->∃us1 us2,us=us1++us2/\VRs E (cel c x) us1/\VRs E r us2
theorem q0u{c:TC}{f:IS->Lz IV->Oq (El c × Lz IV × IS × Nat)}:qps (.list c) (yg c f):=by
 intro S l x r m h;unfold yg at h;have k:∀b,¬((2:Nat) ^ b=0):=fun b=>by have:=Nat.two_pow_pos b;omega
 split at h<;>try cases h
 ·refine⟨rfl,fun E a d=>?_⟩;obtain⟨u,a,rfl,g,e⟩:=d.inv;cases g;exact⟨[_],a,rfl,VRs.cons (.lst0 (by omega)) VRs.nil,e⟩
 ·split at h<;>cases h;rename_i j i;obtain⟨rfl,rfl⟩:=kl i;refine⟨rfl,fun E a d=>?_⟩;obtain⟨u,a,rfl,g,e⟩:=d.inv;exact⟨[u],a,rfl,VRs.cons g VRs.nil,e⟩
 ·grind
 ·grind
theorem qu0{g:(k:Nat)->IS->Lz IV->Oq (Lz (RT k) × Lz IV × IS × Nat)}(hg:∀k,qps (.rl k) (g k)):∀(c:TC) {S:IS} {cs:Lz IV} {x:El c} {r:Lz IV} {S':IS},iclF g c S cs=iz (x,r,S',0)->S'=S/\∀(E:Env) (us:Lz oc),VRs E cs us->∃us1 us2,us=us1++us2/\VRs E (cel c x) us1/\VRs E r us2
 | .int k,S,cs,x,r,S',h=>by
  simp only[iclF] at h;split at h<;>try cases h
  rename_i k' n r;cases hk:kbeq k k' with
  | false=>rw[hk] at h;cases h
  | true =>
   rw[hk,xa] at h;cases h;have:=c9 hk;subst this;refine⟨rfl,fun E us hv=>?_⟩;obtain⟨u,us,rfl,h1,h2⟩:=hv.inv;exact⟨[u],us,rfl,VRs.cons h1 VRs.nil,h2⟩
 | .bool,S,cs,x,r,S',h=>by
  simp only[iclF] at h;split at h<;>cases h;refine⟨rfl,fun E us hv=>?_⟩;obtain⟨u,us,rfl,h1,h2⟩:=hv.inv;exact⟨[u],us,rfl,VRs.cons h1 VRs.nil,h2⟩
 | .str,S,cs,x,r,S',h=>by
  simp only[iclF] at h;split at h<;>cases h;refine⟨rfl,fun E us hv=>?_⟩;obtain⟨u,us,rfl,h1,h2⟩:=hv.inv;exact⟨[u],us,rfl,VRs.cons h1 VRs.nil,h2⟩
 | .list c,S,cs,x,r,S',h=>q0u _ _ _ _ _ h
 | .rl k,S,cs,x,r,S',h=>hg k _ _ _ _ _ h
 | .two a b,S,cs,x,r,S',h=>by
  simp only[iclF] at h;split at h
  ·grind
  rename_i x1 r1 S1 w1 h1;split at h
  ·grind
  rename_i y r2 S2 w2 h2;have hw:=gk (xy (fun o=>o.map (fun q=>q.2.2.2)) h);have e1:=gk (xy (fun o=>o.map (fun q=>q.1)) h);have e2:=gk (xy (fun o=>o.map (fun q=>q.2.1)) h);have e3:=gk (xy (fun o=>o.map (fun q=>q.2.2.1)) h);simp only at hw e1 e2 e3;subst e1 e2 e3;obtain⟨rfl,rfl⟩:=or_zero hw;obtain⟨rfl,k1⟩:=qu0 hg a h1;obtain⟨rfl,k2⟩:=qu0 hg b h2;refine⟨rfl,fun E us hv=>?_⟩;obtain⟨us1,us2,rfl,v1,v2⟩:=k1 E us hv;obtain⟨us3,us4,rfl,v3,v4⟩:=k2 E us2 v2;exact⟨us1++us3,us4,by simp,v1.append v3,v4⟩
theorem zgj:∀(n k:Nat),qps (.rl k) (iclR n k)
 | 0,k=>by
  intro S cs x r S' h;cases h
 | n+1,k=>by
  intro S cs x r S' h
  have h:(match yg (rcC k) (iclF (iclR n) (rcC k)) S cs with
   | some (l,r,S',w)=>iz (l.map (mk k),r,S',w)
   | none=>i6:Oq (Lz (RT k) × Lz IV × IS × Nat))=iz (x,r,S',0):=h
  split at h<;>cases h;rename_i l hl;have:=q0u _ _ _ _ _ hl;simp only[cel,ql3] at this ⊢
  grind
theorem qv7:∀(c:TC) {S:IS} {cs:Lz IV} {x:El c} {r:Lz IV} {S':IS},icl c S cs=iz (x,r,S',0)->S'=S/\∀(E:Env) (us:Lz oc),VRs E cs us->∃us1 us2,us=us1++us2/\VRs E (cel c x) us1/\VRs E r us2:=qu0 (zgj 3)
theorem q4b{v:IV}(h:(cellsOf v).all one1=i7):wd v=i7:=by cases v<;>first|rfl|cases h
theorem qam{id k:Nat}(h:(2 ^ id).testBit k=eb):k≠id:=fun e=>by subst e;simp [Nat.testBit_two_pow_self] at h
theorem qtv{α:Type}{f:IS->Lz IV->Oq (α × Lz IV × IS × Nat)}(hf:∀S cs x r S' w,f S cs=iz (x,r,S',w)->S'.next=S.next/\∀id,w.testBit id=eb->S'.H id=S.H id) :
  ∀n S cs l S' w,vi f n S cs=iz (l,S',w)->S'.next=S.next/\∀id,w.testBit id=eb->S'.H id=S.H id
 | 0,S,cs,l,S',w,h=>by simp only[vi,pj,rg] at h;obtain⟨_,rfl,rfl⟩:=h;exact⟨rfl,fun _ _=>rfl⟩
 | n+1,S,cs,l,S',w,h=>by
  simp only[vi] at h;split at h
  ·grind
  rename_i x r S1 w1 h1;split at h<;>cases h;rename_i h2;obtain⟨a1,a2⟩:=hf _ _ _ _ _ _ h1;obtain⟨b1,b2⟩:=qtv hf n _ _ _ _ _ h2
  grind
theorem q42{S:IS}{i:Nat}{o:IObj}:(S.set i o).next=S.next/\∀id,(2 ^ i).testBit id=eb->(S.set i o).H id=S.H id :=
 ⟨rfl,fun id h=>by rw[IS.H_set,up_ne _ _ (qam h)]⟩
def qi4{α:Type}(f:IS->Lz IV->Oq (α × Lz IV × IS × Nat)):Prop:=∀S cs x r S' w,f S cs=iz (x,r,S',w)->S'.next=S.next/\∀id,w.testBit id=eb->S'.H id=S.H id
theorem q62{c:TC}{f:IS->Lz IV->Oq (El c × Lz IV × IS × Nat)}(hf:qi4 f):qi4 (yg c f):=by
 intro S l x r m w h;unfold yg at h;split at h<;>try cases h
 ·grind
 ·grind
 ·split at h<;>try cases h
  ·split at h<;>cases h;exact q42
  ·grind
 ·split at h<;>try cases h
  rename_i d k;cases g:(od _ (csz c)&&og _ d.length&&og _ 140737488355328) with
  | false=>rw[g] at h;cases h
  | true =>
  rw[g,xa] at h;split at h
  ·grind
  rename_i b;split at h<;>cases h;obtain⟨j,i⟩:=qtv hf _ _ _ _ _ _ b;refine⟨j,fun e a=>?_⟩;rw[dq,g9] at a;exact(q42.2 e a.2).trans (i e a.1)
theorem qf1{g:(k:Nat)->IS->Lz IV->Oq (Lz (RT k) × Lz IV × IS × Nat)}(hg:∀k,qi4 (g k)):∀(c:TC) S cs x r S' w,iclF g c S cs=iz (x,r,S',w)->S'.next=S.next/\∀id,w.testBit id=eb->S'.H id=S.H id
 | .int k,S,cs,x,r,S',w,h=>by
  simp only[iclF] at h
  grind
 | .bool,S,cs,x,r,S',w,h=>by
  simp only[iclF] at h
  grind
 | .str,S,cs,x,r,S',w,h=>by
  simp only[iclF] at h
  grind
 | .list c,S,cs,x,r,S',w,h=>q62 (qf1 hg c) _ _ _ _ _ _ h
 | .rl k,S,cs,x,r,S',w,h=>hg k _ _ _ _ _ _ h
 | .two a b,S,cs,x,r,S',w,h=>by
  simp only[iclF] at h;split at h
  ·grind
  rename_i x1 r1 S1 w1 h1;split at h<;>cases h;rename_i h2;obtain⟨a1,a2⟩:=qf1 hg a _ _ _ _ _ _ h1;obtain⟨b1,b2⟩:=qf1 hg b _ _ _ _ _ _ h2
  grind
theorem q2y:∀(n k:Nat),qi4 (iclR n k)
 | 0,k=>by
  intro S cs x r S' w h;cases h
 | n+1,k=>by
  intro S cs x r S' w h
  have h:(match yg (rcC k) (iclF (iclR n) (rcC k)) S cs with
   | some (l,r,S',w)=>iz (l.map (mk k),r,S',w)
   | none=>i6:Oq (Lz (RT k) × Lz IV × IS × Nat))=iz (x,r,S',w):=h
  split at h<;>cases h;rename_i l hl;exact q62 (qf1 (q2y n) (rcC k)) _ _ _ _ _ _ hl
theorem qan:∀(c:TC) S cs x r S' w,icl c S cs=iz (x,r,S',w)->S'.next=S.next/\∀id,w.testBit id=eb->S'.H id=S.H id:=qf1 (q2y 3)
def nq(tt:Nat->Oq TI)(S:IS)(ty:ov):IV->IV->Oq Res
 | .ptr id off,v=>match tt ty with
  | none=>i6
  | some ti=>match S.heap.get id with
   | some (.row cs)=>cond (od (cellsOf v).length ti.sz&&og (off+ti.sz) cs.length&&(cellsOf v).all one1) (iz ⟨.tup [],S.set id (.row (putI cs off (cellsOf v))),0,2 ^ id⟩) i6
   | some (.bld j)=>match v with
    | .arr k=>cond (od off 1&&od ti.sz 1) (iz ⟨.tup [],S.set id (.bld k),0,2 ^ id⟩) i6
    | _=>i6
   | _=>i6
 | .aptr id s i off,v=>match tt ty with
  | none=>i6
  | some ti=>match S.heap.get id with
   | some (.arr c l)=>cond (od s (csz c)&&od (cellsOf v).length ti.sz&&og (off+ti.sz) (csz c)&&(cellsOf v).all one1)
    (match l[i]? with
    | none=>i6
    | some x=>match icl c S (putI (cel c x) off (cellsOf v)) with
     | some (x2,[],S2,w)=>cond (Nat.testBit w id) i6 (iz ⟨.tup [],S2.set id (.arr c (l.set i x2)),0,w ||| 2 ^ id⟩)
     | _=>i6) i6
   | _=>i6
 | _,_=>i6
theorem zbg{ty:ov}{D:fd}{bytes:Nat}{zero:oc}{w:oh}{β o:Nat}{cells:Array oc}{t:ov}{v:oc}(h:Ty P ty D 1 bytes zero)(hh:w.heap[β]?=iz (.cells cells t (0,0)))(ho:o<cells.size)(hv:one v=i7) :
  (m6 ty (.pointer (iz ⟨β,o,i6⟩)) v).run P w=.ok () (w.setCell ⟨β,o,i6⟩ v):=by
 have f:w.cell? ⟨β,o,i6⟩=iz cells[o]:=by simp[fu,hh,ho]
 have d:w.frozen? ⟨β,o,i6⟩=eb:=by simp[World.frozen?,hh]
 have c:(store ⟨β,o,i6⟩ v).run P w=.ok () (w.setCell ⟨β,o,i6⟩ v):=by
  cases v with
  | agg _=>simp [one] at hv
  | tuple _=>simp [one] at hv
  | _=>simp only[store,ay,f,d];rfl
 have a:v.cells.toList=[v]:=by
  cases v with
  | agg _=>simp [one] at hv
  | tuple _=>simp [one] at hv
  | _=>rfl
 have b:v.cells.size=1:=by have:=xy oq a;simpa using this
 have e:(⟨β,o,i6⟩:f9).add 0=⟨β,o+0,i6⟩:=ja _ rfl _;simp only[m6,mh,storeVar,xh,xd,xb,Sx.run_sizeOf h,b,ne_eq,pq,p9,a,storeCells,e,g8,c]
theorem zzo{ty:ov}{x y:IV}{ux uy:oc}{r:Res}(htt:TT P tt)(p:Pre T E S)(h:nq tt S ty x y=iz r)(hr:tin T.w r.wr)(hx:VR E x ux)(hy:VR E y uy):qay P T E S (m6 ty ux uy) r:=by
 unfold nq at h;split at h<;>try cases h
 rotate_left
 ·rename_i f s i d;split at h
  ·cases h
  rename_i A D;split at h<;>try cases h
  rename_i c l χ;cases e:(od s (csz c)&&od (cellsOf y).length A.sz&&og (d+A.sz) (csz c)&&(cellsOf y).all one1) with
  | false=>rw[e] at h;cases h
  | true =>
  rw[e,xa] at h;simp only[xf] at e;obtain⟨⟨⟨ξ,ν⟩,μ⟩,b4⟩:=e;have ξ:=xg ξ;have ν:=xg ν;have μ:=xk μ;subst ξ;split at h
  ·cases h
  rename_i x0 J;split at h<;>try cases h
  rename_i x2 S2 w z;cases B:Nat.testBit w f with
  | true=>rw[B] at h;cases h
  | false =>
  rw[B,xe] at h;cases h;obtain⟨α,K⟩:=zp hr;have F:=hy.cells (q4b b4);cases hx with
  | aptr hA =>
  obtain⟨_,_,_,_,_,_,Y⟩:=p.st.objs f (T.sub _ (zi K)) hA _ χ;obtain⟨ψ,I⟩:=x9.1 J;rcases Y with ⟨Y,k6⟩|⟨Y,k6,m,t,k7,k8,σ,k9,Z⟩
  ·omega
  have γ:VRs E (cel c x0) ((fv (csz c)).map (σ i)):=⟨by simp[jr],fun j a b=>by
   have:=Z i ψ j (by rw[I];exact a);simpa [I] using this⟩
  obtain⟨E1,R,q1,f1,us1,V,M,v1,v2⟩:=tn c z p α (γ.put d F);have hz:V=[]:=by have:=v2.1;simpa using this.symm
  subst hz;rw[gz] at M;have ζ:S2.heap.get f=iz (.arr c l):=by
   have:=(qan c _ _ _ _ _ _ z).2 f B;unfold IS.H at this;rw[this];exact χ
  obtain⟨a1,a2,a3,a4,a5⟩:=(q1.env p).alw f hA;have hg:=zs4 (x2:=x2) (uy:=uy) (us1:=[]) (q1.pre p) (zi K) a1 ζ (htt _ _ D) J (by have:=F.1;rw[ν] at this;simpa using this.symm) μ (F.ones b4) fun W hu' η=>by
   obtain⟨U,τ,υ,m2⟩:=η;rw[R,a2,k7] at υ;cases υ;have δ:(fv (csz c)).map W=(fv (csz c)).map (σ i):=rq fun j O=>by
    have O:=jbs.1 O;have G:=m2 j O;rw[k9 i ψ j O] at G;exact(gk G).symm
   rw[δ,M];exact v1
  obtain⟨E2,ω,g2,g3,g4⟩:=hg;rw[R,a2] at ω;exact⟨E2,ω,rfl,Post.trans p q1 f1 g3,f1.trans g4 q1.le⟩
 rename_i f d;cases hx with
 | ptr hA =>
 split at h
 ·cases h
 rename_i A D;have C:=htt _ _ D;split at h<;>try cases h
 rotate_left
 ·rename_i jj g;split at h<;>try cases h
  rename_i k;cases e:(od d 1&&od A.sz 1) with
  | false=>rw[e] at h;cases h
  | true =>
   rw[e,xa] at h;cases h;simp only[xf] at e;have G:=xg e.1;have ι:=xg e.2;subst G;rw[ι] at C;obtain⟨q,v,φ,k2,k3⟩:=p.st.objs f (T.sub _ (zi hr)) hA _ g;cases hy with
   | arr hAk hhk =>
   rename_i n u N;have Q:Live E S.H f:=⟨p.st.blk f (T.sub _ (zi hr)) hA _ g rfl,_,g,rfl⟩;have L:=zbg (P:=P) (w:=E.w) (β:=E.ρ f) (o:=1) (v:=.slice N n u) C φ (by simp) rfl;have hu:Upd [E.ρ f] E.w (E.w.setCell ⟨E.ρ f,1,i6⟩ (.slice N n u)):=by
    refine⟨rfl,rfl,rfl,by simp[fp],fun b e hm=>?_⟩;simp only[fp,gv];rw[xr];simp at hm;omega
   have θ:(E.w.setCell ⟨E.ρ f,1,i6⟩ (.slice N n u)).heap[E.ρ f]?=iz (.cells #[q,.slice N n u] bldT (0,0)):=by
    simp[fp,gv,φ]
   obtain⟨q1,X⟩:=Post.write p (o':=.bld k) (zi hr) hA Q hu ⟨q,.slice N n u,θ,k2,.arr hAk hhk⟩;exact⟨_,L,rfl,q1,X⟩
 rename_i cs g;cases e:(od (cellsOf y).length A.sz&&og (d+A.sz) cs.length&&(cellsOf y).all one1) with
 | false=>rw[e] at h;cases h
 | true =>
  rw[e,xa] at h;cases h;simp only[xf] at e;have hs:=xg e.1.1;have hle:=xk e.1.2;obtain⟨m,t,G,ι,h3,h4⟩:=bf p (T.sub _ (zi hr)) hA g;have F:=hy.cells (q4b e.2);have ε:uy.cells.size=A.sz:=by have:=F.1;rw[hs] at this;simpa using this.symm
  obtain⟨w',R,κ,e3,e4⟩:=q8u (P:=P) (w:=E.w) (β:=E.ρ f) (o:=d) (cs:=m.toList) C ⟨t,by simpa using G⟩ ε (by simp;omega) (F.ones e.2);obtain⟨τ,κ⟩:=κ;have Q:Live E S.H f:=⟨p.st.blk f (T.sub _ (zi hr)) hA _ g rfl,_,g,rfl⟩;obtain⟨q1,X⟩:=Post.write p (o':=.row (putI cs d (cellsOf y))) (zi hr) hA Q e3 ⟨_,τ,κ,by simp[yw,ι,Env.at_],by simp[qpr,yw];omega,by
   rw[qpr];show VRs _ _ ((putL m.toList d uy.cells.toList).take cs.length);rw[qz1];exact VRs.mono (Env.at_le p.st (zi hr) hA Q e3) (h4.put d F)⟩
  exact⟨_,R,rfl,q1,X⟩

theorem qh8{cs:Lz IV}{us:Lz oc}{t:ov}(p:Pre T E S)(h:VRs E cs us) :
  ∃E',E'.w={ E.w with heap:=E.w.heap.push (.cells us.toArray t) }/\E'.ρ S.next=E.w.heap.size/\E'.κ S.next=us.length/\E'.A S.next/\Post T E S E' (S.new (.row cs))/\Fresh E S E':=by
 have u:Upd [] E.w { E.w with heap:=E.w.heap.push (.cells us.toArray t) }:=Upd.push _ _;have c:¬E.A S.next:=fun h=>rf _ (p.bnd _ h)
 obtain⟨a,b⟩:=Post.new p (k:=us.length) (hd:=.tuple #[]) (o:=.row cs) u (by simp) ⟨us.toArray,t,by simp only[Env.with_,zj];exact rm E.w _,by simp[Env.with_,zj],by simp[h.1],by
  rw[h.1,r9 (by simp)];exact h.mono (Env.with_le c u)⟩
 exact⟨_,rfl,zj _ _ _,zj _ _ _,(ig rfl:E.A S.next\/S.next=S.next),a,b⟩
def qgz(tt:Nat->Oq TI)(S:IS)(ty:ov):Oq Res :=
 match tt ty with
 | none=>i6
 | some ti=>match ofVs ti.zero.cells.toList with
  | none=>i6
  | some cs=>cond (od ty bldT) (match cs with
   | [.nilptr,.nilsl]=>iz ⟨.ptr (S.next+1) 0,(S.new (.arr (.int .u8) [])).new (.bld S.next),0,0⟩
   | _=>i6) (iz ⟨.ptr S.next 0,S.new (.row cs),0,0⟩)
theorem zsm{ty:ov}{r:Res}(htt:TT P tt)(p:Pre T E S)(h:qgz tt S ty=iz r):Good P T E S (Instr.alloc ty i7 (.tuple #[])) r:=by
 unfold qgz at h;split at h
 ·grind
 rename_i n f;have c:=htt _ _ f;split at h
 ·grind
 rename_i N d;cases a:od ty bldT with
 | true =>
  rw[a,xa] at h;have a:=xg a;subst a;split at h<;>cases h;obtain⟨K,m,M,I,H⟩:=VRs.inv (nf E d);obtain⟨J,b,B,G,F⟩:=VRs.inv H;subst B;have z:b=[]:=by have:=F.1;cases b with
   | nil=>rfl
   | cons _ _=>cases this
  subst z;cases I;cases G;obtain⟨i,j⟩:=Post.ghost (S:=S) (hd:=.slice i6 0 0) (o:=.arr (.int .u8) []) p rfl ⟨i6,0,zj _ _ _,xl _,by omega,by simp,.inl ⟨zj _ _ _,rfl,fun _=>rfl⟩⟩;have q:=i.pre p;have e:(S.new (.arr (.int .u8) [])).next=S.next+1:=rfl
  have g:n.zero.cells=#[.pointer i6,.slice i6 0 0]:=by
   grind
  obtain⟨D,C⟩:=Post.new q (k:=2) (hd:=.tuple #[]) (o:=.bld S.next) (w':={ E.w with heap:=E.w.heap.push (.cells #[.pointer i6,.slice i6 0 0] bldT) }) (Upd.push _ _) (by simp[Env.gho])
   ⟨.pointer i6,.slice i6 0 0,by simp only[Env.with_,zj];exact rm E.w _,.inl rfl,.arr (.inl (.inr rfl)) (by
    simp only[Env.with_,Env.gho,e];rw[up_ne _ _ (by omega),zj])⟩
  refine⟨.pointer (iz ⟨_,0,i6⟩),_,?_,.ptr (ig rfl:((E.gho S.next (.slice i6 0 0)).A (S.next+1)\/S.next+1=S.next+1)),Post.trans p i j D,j.trans C i.le⟩;simp only[Instr.alloc,xh,Sx.run_zeroValue c,xb,xd,newVar,newRow,g,Env.with_,Env.gho,e,zj];rfl
 | false =>
 rw[a,xe] at h;cases h;obtain⟨l,y,x,L,v,u,s⟩:=qh8 (t:=ty) p (nf E d);refine⟨.pointer (iz ⟨l.ρ S.next,0,i6⟩),l,?_,.ptr v,u,s⟩;rw[y,x];simp only[Instr.alloc,xh,Sx.run_zeroValue c,xb,xd,newVar,newRow];rfl
def ibox(S:IS)(v:IV):Oq Res:=cond (wd v) (iz ⟨.ptr S.next 0,S.new (.row (cellsOf v)),0,0⟩) i6
theorem zna{ty:ov}{v:IV}{u:oc}{r:Res}(p:Pre T E S)(h:ibox S v=iz r)(hv:VR E v u):Good P T E S (Instr.box ty u) r:=by
 unfold ibox at h;cases a:wd v with
 | false=>rw[a] at h;cases h
 | true =>
 rw[a,xa] at h;cases h;obtain⟨b,g,f,i,e,d,c⟩:=qh8 (t:=ty) p (hv.cells a);refine⟨.pointer (iz ⟨b.ρ S.next,0,i6⟩),b,?_,.ptr e,d,c⟩;rw[g,f];simp only[Instr.box,xh,xd,newVar,newRow];rfl

def tu(pl:Lz (Nat × Nat)):Lz IV->Lz (Nat × IV)->Oq (Lz IV)
 | cells,[]=>iz cells
 | cells,(i,v)::rest =>
  match pl[i]? with
  | none=>i6
  | some (off,size)=>cond (wd v&&(od (cellsOf v).length size&&og (off+size) cells.length)) (tu pl (putI cells off (cellsOf v)) rest) i6
def VPs(E:Env):Lz (Nat × IV)->Lz (Nat × oc)->Prop
 | [],[]=>True
 | (i,v)::l,(j,u)::m=>i=j/\VR E v u/\VPs E l m
 | _,_=>False
theorem qjw{pl:Lz (Nat × Nat)}:∀{ps:Lz (Nat × IV)} {qs:Lz (Nat × oc)} {cs r:Lz IV} {us:Lz oc},VPs E ps qs->VRs E cs us->tu pl cs ps=iz r->∃ur,vg pl us qs=iz ur/\VRs E r ur
 | [],[],cs,r,us,_,hc,h=>by simp[tu] at h;subst h;exact⟨us,rfl,hc⟩
 | [],_::_,_,_,_,h,_,_=>h.elim
 | (i,v)::ps,[],_,_,_,h,_,_=>h.elim
 | (i,v)::ps,(j,u)::qs,cs,r,us,⟨hij,hv,hp⟩,hc,h=>by
  subst hij;unfold tu at h;unfold vg;split at h
  ·grind
  rename_i off size he;try rw[he]
  cases hk:wd v with
  | false=>rw[hk] at h;cases h
  | true =>
  rw[hk,jae] at h;have hcell:=hv.cells hk;cases hb:(od (cellsOf v).length size&&og (off+size) cs.length) with
  | false=>rw[hb] at h;cases h
  | true =>
   rw[hb,xa] at h;rw[hcell.1,hc.1] at hb;simp only[hb,xa];exact qjw hp (hc.put off hcell) h
def qck(tt:Nat->Oq TI):Lz ic->Oq (Lz (Nat × Nat))
 | []=>iz []
 | f::l=>match tt f.type with
  | none=>i6
  | some ti=>match qck tt l with
   | none=>i6
   | some pl=>iz ((f.offset,ti.sz)::pl)
theorem q2i(htt:TT P tt):∀{l:Lz ic} {pl:Lz (Nat × Nat)},qck tt l=iz pl->∀w,(l.mapM fun f=>(do pure (f.offset,<- sizeOf f.type):Sem (Nat × Nat))).run P w=.ok pl w
 | [],pl,h,w=>by simp[qck] at h;subst h;rfl
 | f::l,pl,h,w=>by
  unfold qck at h;split at h
  ·grind
  rename_i ti hti;split at h<;>cases h;rename_i pl' hpl;simp only[List.mapM_cons,xh,Sx.run_sizeOf (w:=w) (htt _ _ hti),xb,xd,q2i htt hpl w]
theorem q4o(htt:TT P tt){ty:ov}{ti:TI}{fs:Array ic}{pl:Lz (Nat × Nat)}(hti:tt ty=iz ti)(hf:ti.und=.struct fs)(hp:qck tt fs.toList=iz pl):Szs P ty pl:=by
 refine⟨fs,by have:=(htt _ _ hti).und;rw[hf] at this;exact this,fun w=>?_⟩;have:=q2i htt hp w;rw[show fs=fs.toList.toArray from rfl,List.mapM_toArray,q9m,this];rfl
def qdt(tt:Nat->Oq TI)(S:IS)(ty:ov)(ps:Lz (Nat × IV)):Oq Res :=
 match tt ty with
 | none=>i6
 | some ti=>match ti.und with
  | .struct fs=>match qck tt fs.toList with
   | none=>i6
   | some pl=>match ofVs ti.zero.cells.toList with
    | none=>i6
    | some zs=>match tu pl zs ps with
     | none=>i6
     | some r=>iz ⟨.agg r,S,0,0⟩
  | _=>i6
theorem zt4{ty:ov}{ps:Lz (Nat × IV)}{qs:Lz (Nat × oc)}{r:Res}(htt:TT P tt)(p:Pre T E S)(h:qdt tt S ty ps=iz r)(hp:VPs E ps qs):Good P T E S (Instr.build ty qs.toArray) r:=by
 unfold qdt at h;split at h
 ·grind
 rename_i m b;have f:=htt _ _ b;split at h<;>try cases h
 rename_i t j;split at h
 ·grind
 rename_i c g;split at h
 ·grind
 rename_i s d;split at h<;>cases h;rename_i r n;obtain⟨q,hs1,hs2⟩:=q4o htt b j g;obtain⟨l,e,a⟩:=qjw hp (nf E d) n;refine Good.same p (u:=.agg l.toArray) ?_ (.agg a.1 a.2);have o:=qlf (fun i=>c.toArray[i]?) c (by simp) _ _ _ e;have k:ax (fun x=>c.toArray[x]?) m.zero.cells qs=iz l.toArray:=by simpa using o
 simp only[Instr.build,xh,Sx.run_zeroValue f,xb,xm hs1,hs2 E.w,k,xd]
end
end Go.Jx
end

noncomputable section
namespace Go.Jx
open Go Go.Sx Go.RowKit
universe u

section
variable {P : om} {tt : Nat -> Oq TI} {T : TW} {E : Env} {S : IS}

theorem run_buildSlice{w:oh}{T E:ov}{D:fd}{size bytes s2 b2 len:Nat}{zero z2:oc}{E':fd}{zs r:Lz oc}{ps:Lz (Nat × oc)}(hT:Ty P T (.slice E) size bytes zero)(hE:Ty P E E' s2 b2 z2)(hz:z2.cells.toList=zs)
  (hs:(og (len*s2) 16777216&&oo 0 (len*s2))=i7) (hf:vg ((fv len).map fun i=>(i*s2,s2)) (cy zs (len*s2)) ps=iz r) :
  (mc T len ps.toArray).run P w=.ok (.slice (iz ⟨w.heap.size,0,i6⟩) len len) { w with heap:=w.heap.push (.cells r.toArray E) }:=by
 subst hz;simp only[xf] at hs;have hs1:=xk hs.1;have hs2:0<len*s2:=by have:=hs.2;simpa using this
 have c:∀(ps:Lz (Nat × oc)) (b r:Lz oc),vg ((fv len).map fun i=>(i*s2,s2)) b ps=iz r->∀p∈ps,p.1<len:=by
  intro ps;induction ps with
  | nil=>intro _ _ _ p d;simp at d
  | cons q ps ih =>
   intro b r h p d;obtain⟨i,v⟩:=q;unfold vg at h
   grind
 have e:∀(ps:Lz (Nat × oc)) (b:Array oc),(∀p∈ps,p.1<len)->ax (fun i=>iz (i*s2,s2)) b ps=ax (fun i=>((fv len).map fun i=>(i*s2,s2))[i]?) b ps:=by
  intro ps;induction ps with
  | nil=>intro _ _;rfl
  | cons q ps ih =>
   intro b h;obtain⟨i,v⟩:=q;have f:i<len:=h (i,v) (by simp);unfold ax
   grind
 have a:ax (fun i=>iz (i*s2,s2)) (cy z2.cells.toList (len*s2)).toArray ps=iz r.toArray:=by
  rw[e _ _ (c _ _ _ hf)];exact qlf _ _ (fun _=>rfl) _ _ _ hf
 have hz:((Array.range (len*s2)).map fun x=>z2.cells[x % z2.cells.size]!)=(cy z2.cells.toList (len*s2)).toArray:=by
  apply jch
  ·simp[cy]
  ·intro i j g;simp [cy,getElem!_def]
 simp only[mc,xh,xm hT.und,xb,Sx.run_sizeOf hE];rw[xr (by omega),xr (by omega)];simp only[xh,Sx.run_zeroValue hE,xb,xd,hz,a,newRow];rfl
theorem q8z{w:oh}{T E:ov}{size bytes s2 b2:Nat}{zero z2:oc}{E':fd}(hT:Ty P T (.slice E) size bytes zero)(hE:Ty P E E' s2 b2 z2) :
  (mc T 0 #[]).run P w=.ok (.slice (iz ⟨w.heap.size,0,i6⟩) 0 0) { w with heap:=w.heap.push (.cells #[] E) }:=by
 simp only[mc,xh,xm hT.und,xb,Sx.run_sizeOf hE,jbf];rw[xr (by omega),xx trivial];simp only[xh,xd,xb];simp[ax,newRow]
 grind
def repI(zs:Lz IV):Nat->Lz IV
 | 0=>[]
 | n+1=>zs++repI zs n
theorem ql1(zs:Lz IV):∀n,(repI zs n).length=n*zs.length
 | 0=>by simp[repI]
 | n+1=>by simp[repI,ql1 zs n,rb,Nat.add_comm]
theorem q1r(zs:Lz IV):∀(n i:Nat),i<n*zs.length->(repI zs n)[i]?=zs[i % zs.length]?
 | 0,i,h=>by simp at h
 | n+1,i,h=>by
  unfold repI;by_cases hi:i<zs.length
  ·rw[pa hi,Nat.mod_eq_of_lt hi]
  ·rw[pg (by omega),q1r zs n _ (by rw[rb,Nat.one_mul] at h;omega)];rw[Nat.mod_eq_sub_mod (jac hi)]
theorem q8k{zs:Lz IV}{us:Lz oc}{n:Nat}(h:VRs E zs us)(hz:0<us.length):VRs E (repI zs n) (cy us (n*us.length)):=by
 refine⟨by rw[ql1,h.1];simp [cy],fun i a b=>?_⟩;rw[ql1] at a;have e:i % zs.length<zs.length:=jck _ (by rw[h.1];exact hz);have c:=q1r zs n i a;rw[xc (by rw[ql1];exact a),xc e] at c;have c:=gk c;rw[c];have:=h.2 (i % zs.length) e (by rw[<- h.1];exact e);have d:i % us.length<us.length:=jck _ hz;simpa [cy,h.1,getElem!_def,xc d] using this
def qe1(tt:Nat->Oq TI)(S:IS)(ty len:Nat)(ps:Lz (Nat × IV)):Oq Res :=
 match tt ty with
 | none=>i6
 | some ti=>match ti.und with
  | .slice e=>match tt e with
   | none=>i6
   | some te=>match len,ps with
    | 0,[]=>iz ⟨.sl S.next 0 0 te.sz (iz 0),S.new (.row []),0,0⟩
    | _,_=>match ofVs te.zero.cells.toList with
     | none=>i6
     | some zs=>cond (od zs.length te.sz&&og (len*te.sz) 16777216&&oo 0 (len*te.sz))
      (match tu ((fv len).map fun i=>(i*te.sz,te.sz)) (repI zs len) ps with
      | none=>i6
      | some r=>iz ⟨.sl S.next 0 len te.sz (iz len),S.new (.row r),0,0⟩) i6
  | _=>i6
theorem zph{ty len:Nat}{ps:Lz (Nat × IV)}{qs:Lz (Nat × oc)}{r:Res}(htt:TT P tt)(p:Pre T E S)(h:qe1 tt S ty len ps=iz r)(hp:VPs E ps qs):Good P T E S (mc ty len qs.toArray) r:=by
 unfold qe1 at h;split at h
 ·grind
 rename_i α u;have c:=htt _ _ u;split at h<;>try cases h
 rename_i e L;rw[L] at c;split at h
 ·grind
 rename_i a w;have N:=htt _ _ w;split at h
 ·cases h;cases qs with
  | cons _ _=>exact hp.elim
  | nil =>
  obtain⟨k,F,C,O,B,A,z⟩:=qh8 (t:=e) p VRs.nil;refine⟨.slice (iz ⟨k.ρ S.next,0,i6⟩) 0 0,k,?_,.sl 0 B (xl _) (by omega) (by simp) (fun x b=>by cases b;rfl) (fun b=>by cases b),A,z⟩;rw[F,C];exact q8z c N
 ·rename_i W;split at h
  ·grind
  rename_i R o;cases l:(od R.length a.sz&&og (len*a.sz) 16777216&&oo 0 (len*a.sz)) with
  | false=>rw[l] at h;cases h
  | true =>
  rw[l,xa] at h;simp only[xf] at l;obtain⟨⟨Z,Q⟩,Y⟩:=l;have X:=xg Z;split at h<;>cases h;rename_i r V;have J:=nf E o;have d:a.zero.cells.toList.length=a.sz:=by rw[<- J.1,X]
  have G:0<len*a.sz:=by simpa using Y
  have hs0:0<a.sz:=Nat.pos_of_mul_pos_left G;have f:=q8k (n:=len) J (by rw[d];exact hs0);rw[d] at f;obtain⟨U,g,s⟩:=qjw hp f V;obtain⟨k,F,C,O,B,A,z⟩:=qh8 (t:=e) p s;have y:U.length=len*a.sz:=by
   have:∀(I:Lz (Nat × Nat)) (qs:Lz (Nat × oc)) (j r:Lz oc),vg I j qs=iz r->r.length=j.length:=by
    intro I qs;induction qs with
    | nil=>intro j r h;simp [vg] at h;rw[h]
    | cons q qs ih =>
     intro j r h;obtain⟨i,v⟩:=q;unfold vg at h;split at h
     ·grind
     ·rename_i m H L;cases M:(od v.cells.toList.length H&&og (m+H) j.length) with
      | false=>rw[M] at h;cases h
      | true=>rw[M,xa] at h;rw[ih _ _ h,yw]
   rw[this _ _ _ _ g];simp [cy]
  have K:len<=16777216:=by
   have:=xk Q;have:=Nat.le_mul_of_pos_right len hs0;omega
  refine⟨.slice (iz ⟨k.ρ S.next,0,i6⟩) len len,k,?_,.sl len B (xl _) (by omega) (by rw[O,y];simp) (fun x b=>by cases b;rfl) (fun b=>by cases b),A,z⟩;rw[F,C];exact run_buildSlice (D:=.bool) c N rfl (by simp[Q];omega) g

def qgr(tt:Nat->Oq TI)(S:IS)(ty f:Nat):IV->Oq Res
 | .ptr id off=>match tt ty with
  | none=>i6
  | some ti=>match ti.und with
   | .struct fs=>match fs.toList[f]? with
    | none=>i6
    | some F=>match tt F.type with
     | none=>i6
     | some tf=>cond (oo 0 tf.sz) (iz ⟨.ptr id (off+F.offset),S,0,0⟩) i6
   | _=>i6
 | .eptr c e off=>match tt ty with
  | none=>i6
  | some ti=>match ti.und with
   | .struct fs=>match fs.toList[f]? with
    | none=>i6
    | some F=>match tt F.type with
     | none=>i6
     | some tf=>cond (oo 0 tf.sz) (iz ⟨.eptr c e (off+F.offset),S,0,0⟩) i6
   | _=>i6
 | .aptr id s i off=>match tt ty with
  | none=>i6
  | some ti=>match ti.und with
   | .struct fs=>match fs.toList[f]? with
    | none=>i6
    | some F=>match tt F.type with
     | none=>i6
     | some tf=>cond (oo 0 tf.sz) (iz ⟨.aptr id s i (off+F.offset),S,0,0⟩) i6
   | _=>i6
 | _=>i6
theorem zzq{ty f:Nat}{x:IV}{ux:oc}{r:Res}(htt:TT P tt)(p:Pre T E S)(h:qgr tt S ty f x=iz r)(hx:VR E x ux):Good P T E S (Instr.fieldAt ty ux f) r:=by
 have e:∀{ti tf:TI} {fs:Array ic} {F:ic} {a:f9},tt ty=iz ti->ti.und=.struct fs->fs.toList[f]?=iz F->tt F.type=iz tf->oo 0 tf.sz=i7->a.spot=i6 ->
   (Instr.fieldAt ty (.pointer (iz a)) f).run P E.w=.ok (.pointer (iz ⟨a.block,a.off+F.offset,i6⟩)) E.w:=by
  intro ti tf fs F a b d j c g o;have i:=htt _ _ b;rw[d] at i;have m:=htt _ _ c;have l:0<tf.sz:=by simpa using g
  obtain⟨k,n⟩:∃k,tf.sz=k+1:=⟨tf.sz-1,by omega⟩;rw[n] at m;exact Fld.mk i (by simpa using j) m a E.w o
 unfold qgr at h;split at h<;>try cases h
 all_goals
  split at h
  ·cases h
  rename_i ti b;split at h<;>try cases h
  rename_i fs d;split at h
  ·cases h
  rename_i F j;split at h
  ·cases h
  rename_i tf c;cases g:oo 0 tf.sz with
  | false=>rw[g] at h;cases h
  | true =>
   rw[g,xa] at h;cases h;cases hx;first
   | (refine Good.same p (e b d j c g rfl) (.ptr ?_);assumption)
   | (refine Good.same p (e b d j c g rfl) ?_;rw[jai];exact .aptr (by assumption))
   | (refine Good.same p (e b d j c g rfl) ?_;rw[jai];exact .eptr _ (by assumption) (by assumption) (by assumption) (by assumption))
def jget{α:Type}(l:Lz α)(i:Int):Oq α:=if 0<=i then l[i.toNat]? else i6
theorem qm0{α:Type}{l:Lz α}{i:Int}{x:α}(h:jget l i=iz x):0<=i/\i<l.length/\l[i.toNat]?=iz x:=by
 unfold jget at h
 grind
def cf(tt:Nat->Oq TI)(S:IS)(ty:Nat):IV->IV->Oq Res
 | .sl id off len s c,.int k i=>match tt ty with
  | none=>i6
  | some ti=>match ti.und with
   | .slice e=>match tt e with
    | none=>i6
    | some te=>match i with
     | .ofNat n=>cond (od te.sz s&&oo n len) (iz ⟨.ptr id (off+n*s),S,0,0⟩) i6
     | _=>i6
   | _=>i6
 | .lst c l,.int k i=>match tt ty with
  | none=>i6
  | some ti=>match ti.und with
   | .slice e=>match tt e with
    | none=>i6
    | some te=>cond (od te.sz (csz c)) (match jget l i with
     | none=>i6
     | some x=>iz ⟨.eptr c x 0,S,0,0⟩) i6
   | _=>i6
 | .arr id,.int k i=>match tt ty with
  | none=>i6
  | some ti=>match ti.und with
   | .slice e=>match tt e with
    | none=>i6
    | some te=>match S.heap.get id with
     | some (.arr c l)=>cond (od te.sz (csz c)) (match jget l i with
      | none=>i6
      | some x=>iz ⟨.aptr id (csz c) i.toNat 0,S,2 ^ id,0⟩) i6
     | some (.frz c l)=>cond (od te.sz (csz c)) (match jget l i with
      | none=>i6
      | some x=>iz ⟨.eptr c x 0,S,2 ^ id,0⟩) i6
     | _=>i6
   | _=>i6
 | .ptr id off,.int k i=>match tt ty with
  | none=>i6
  | some ti=>match ti.und with
   | .array len e=>match tt e with
    | none=>i6
    | some te=>match i with
     | .ofNat n=>cond (oo n len) (iz ⟨.ptr id (off+n*te.sz),S,0,0⟩) i6
     | _=>i6
   | _=>i6
 | .gp g,.int k i=>match tt ty with
  | none=>i6
  | some ti=>match ti.und with
   | .array len e=>match tt e with
    | none=>i6
    | some te=>match y6 g with
     | none=>i6
     | some l=>cond (od te.sz 1&&og l.length len) (match jget l i with
      | none=>i6
      | some n=>iz ⟨.eptr (.int .u8) n 0,S,0,0⟩) i6
   | _=>i6
 | _,_=>i6
theorem zk1{ty:Nat}{x y:IV}{ux uy:oc}{r:Res}(htt:TT P tt)(p:Pre T E S)(h:cf tt S ty x y=iz r)(hrd:tin T.r r.rd)(hx:VR E x ux)(hy:VR E y uy):Good P T E S (me ty ux uy) r:=by
 have J:∀{ti te:TI} {e:ov} {k:ff} {i:Int} {a:f9} {len cap:Nat},tt ty=iz ti->ti.und=.slice e->tt e=iz te->0<=i->i<len ->
   (me ty (.slice (iz a) len cap) (.int k i)).run P E.w=.ok (.pointer (iz (a.add (i.toNat*te.sz)))) E.w:=by
  intro ti te e k i a len cap d A f B D;have m:=htt _ _ d;rw[A] at m;simp only[me,asIntOf,xh,xd,xb,xm m.und,B,D,jcl,dv,Sx.run_sizeOf (htt _ _ f)]
 have G:∀{c:TC} {l:Lz (El c)} {x:El c} {i:Int} {u:oc} {rd:Nat} {ti te:TI} {e:ov} {k:ff},tt ty=iz ti->ti.und=.slice e->tt e=iz te->od te.sz (csz c)=i7->jget l i=iz x->VR E (.lst c l) u ->
   Good P T E S (me ty u (.int k i)) ⟨.eptr c x 0,S,rd,0⟩:=by
  intro c l x i u rd ti te e k d A f q F Y;obtain⟨B,D,H⟩:=qm0 F;obtain⟨R,X⟩:=x9.1 H;have q:=xg q;cases Y with
  | lst0=>simp at R
  | lst us h1 h2 h3 v hh hc hu =>
   refine Good.same p (J d A f B D) ?_;rename_i b z cap C t β;rw[ja _ rfl,q];exact .eptr (base:=z+i.toNat*csz c) (us i.toNat) v hh (fun j I=>hc _ R j I) (fun j I=>by have:=hu _ R j (by rw[X];exact I);simpa [X] using this)
 unfold cf at h;split at h<;>try cases h
 rotate_left
 ·rename_i c l k i;cases hy;split at h
  ·cases h
  rename_i ti d;split at h<;>try cases h
  rename_i e A;split at h
  ·cases h
  rename_i te f;cases q:od te.sz (csz c) with
  | false=>rw[q] at h;cases h
  | true =>
  rw[q,xa] at h;split at h<;>cases h;rename_i x F;exact G d A f q F hx
 ·rename_i id k i;cases hy;cases hx with
  | arr hA hh =>
  split at h
  ·cases h
  rename_i ti d;split at h<;>try cases h
  rename_i e A;split at h
  ·cases h
  rename_i te f;split at h<;>try cases h
  ·rename_i c l O;cases q:od te.sz (csz c) with
   | false=>rw[q] at h;cases h
   | true =>
   rw[q,xa] at h;split at h<;>cases h;rename_i x F;obtain⟨B,D,H⟩:=qm0 F;have q:=xg q;obtain⟨a,cap,W,σ,ξ,ν,M⟩:=p.st.objs id (zi hrd) hA _ O;rw[hh] at W;cases W;rcases M with ⟨M,V⟩|⟨M,V,C,t,μ,κ,ι⟩
   ·omega
   ·subst V;refine Good.same p (J d A f B D) ?_;rw[ja _ rfl,q];have:=VR.aptr (E:=E) (id:=id) (s:=csz c) (i:=i.toNat) (o:=0) hA;simpa using this
  ·rename_i c l O;cases q:od te.sz (csz c) with
   | false=>rw[q] at h;cases h
   | true =>
   rw[q,xa] at h;split at h<;>cases h;rename_i x F;have L:=p.st.objs id (zi hrd) hA _ O;unfold OR at L;rw[hh] at L;exact G d A f q F L
 rotate_left
 ·rename_i g k i;cases hy;cases hx with
  | gp F =>
  split at h
  ·cases h
  rename_i ti d;have m:=htt _ _ d;split at h<;>try cases h
  rename_i len e A;rw[A] at m;split at h
  ·cases h
  rename_i te f;have K:=htt _ _ f;split at h
  ·cases h
  rename_i l α;cases v:(od te.sz 1&&og l.length len) with
  | false=>rw[v] at h;cases h
  | true =>
   rw[v,xa] at h;split at h<;>cases h;rename_i n Q;simp only[xf] at v;have N:=xg v.1;have Z:=xk v.2;obtain⟨B,D,H⟩:=qm0 Q;obtain⟨θ,o,η,C,t,β,rfl,ζ,_⟩:=p.gl.h g F;obtain⟨ε,δ⟩:=ζ l α _ _ H;have U:i<(len:Int):=by omega
   have γ:(me ty (.pointer (iz ⟨g,0,i6⟩)) (.int k i)).run P E.w=.ok (.pointer (iz ⟨g,i.toNat+0,i6⟩)) E.w:=by
    simp only[me,asIntOf,xh,xd,xb,xm m.und,mh,B,U,jcl,dv,Sx.run_sizeOf K,ja ⟨g,0,i6⟩ rfl,N];simp
   exact Good.same p γ (.eptr (base:=i.toNat) (fun _=>.int .u8 n) θ η (fun j I=>by
    have:j=0:=by simp only[csz] at I;omega
    subst this;exact ε) (fun j I=>by
    have:j=0:=by simp only[cel,xw,rh] at I;omega
    subst this;exact .int _ _ δ))
 ·rename_i id z len s c k i;cases hy;cases hx with
  | sl cap hA h1 h2 h3 h4 h5 =>
  split at h
  ·cases h
  rename_i ti d;have m:=htt _ _ d;split at h<;>try cases h
  rename_i e A;rw[A] at m;split at h
  ·cases h
  rename_i te f;have K:=htt _ _ f;split at h<;>try cases h
  rename_i n _;cases v:(od te.sz s&&oo n len) with
  | false=>rw[v] at h;cases h
  | true =>
   rw[v,xa] at h;cases h;simp only[xf] at v;have N:=xg v.1;have Q:n<len:=by simpa using v.2
   refine Good.same p (u:=.pointer (iz ⟨E.ρ id,z+n*s,i6⟩)) ?_ (.ptr hA);have B:(0:Int)<=we n:=dj n;have D:(we n:Int)<len:=by show (n:Int)<len;omega
   have H:(we n).toNat=n:=rfl;simp only[me,asIntOf,xh,xd,xb,xm m.und,B,D,jcl,dv,Sx.run_sizeOf K,ja ⟨E.ρ id,z,i6⟩ rfl,N,H]
 ·rename_i id z k i;cases hy;cases hx with
  | ptr hA =>
  split at h
  ·cases h
  rename_i ti d;have m:=htt _ _ d;split at h<;>try cases h
  rename_i len e A;rw[A] at m;split at h
  ·cases h
  rename_i te f;have K:=htt _ _ f;split at h<;>try cases h
  rename_i n _;cases v:(oo n len) with
  | false=>rw[v] at h;cases h
  | true =>
   rw[v,xa] at h;cases h;have Q:n<len:=by simpa using v
   refine Good.same p (u:=.pointer (iz ⟨E.ρ id,z+n*te.sz,i6⟩)) ?_ (.ptr hA);have B:(0:Int)<=we n:=dj n;have D:(we n:Int)<len:=by show (n:Int)<len;omega
   have H:(we n).toNat=n:=rfl;simp only[me,asIntOf,xh,xd,xb,xm m.und,mh,B,D,jcl,dv,Sx.run_sizeOf K,ja ⟨E.ρ id,z,i6⟩ rfl,H]

def bnd:Oq IV->Nat->Oq Nat
 | none,d=>iz d
 | some (.int _ (.ofNat n)),_=>iz n
 | _,_=>i6
def VO(E:Env):Oq IV->Oq oc->Prop
 | none,i6=>True
 | some x,iz u=>VR E x u
 | _,_=>False
theorem qcq{w:oh}{x:IV}{u:oc}{d n y:Nat}{code:BoundsCode}(h:bnd (iz x) d=iz n)(hx:VR E x u)(hn:n<=y):(fy u y code).run P w=.ok n w:=by
 unfold bnd at h;split at h<;>try cases h
 ·grind
 ·rename_i k m _ a;cases a;cases hx;have b:(0:Int)<=we n/\(we n:Int)<=y:=⟨dj n,by show (n:Int)<=y;omega⟩;simp only[fy,asIntOf,xh,xd,xb,b,jcl,dv];rfl
def bndI:Oq IV->Int->Oq Int
 | none,d=>iz d
 | some (.int _ n),_=>iz n
 | _,_=>i6
def lchk(a b m n:Int):Bool:=decide (0<=a)&&(decide (a<=b)&&(decide (b<=m)&&decide (m<=n)))
def lsub{α:Type}(l:Lz α)(a b:Int):Lz α:=(l.take b.toNat).drop a.toNat
theorem cu{a b m n:Int}:lchk a b m n=i7↔0<=a/\a<=b/\b<=m/\m<=n:=by simp[lchk]
def cn(tt:Nat->Oq TI)(S:IS)(ty:Nat)(lo hi mx:Oq IV):IV->Oq Res
 | .sl id off len s c=>match tt ty with
  | none=>i6
  | some ti=>match ti.und with
   | .slice e=>match tt e with
    | none=>i6
    | some te=>match bnd lo 0,bnd hi len with
     | some l,iz h=>match mx with
      | none=>cond (od te.sz s&&og l h&&og h len)
       (match c with
       | some c=>iz ⟨.sl id (cond (od c l) off (off+l*s)) (h-l) s (iz (c-l)),S,0,0⟩
       | none=>cond (oo l len||od l 0) (iz ⟨.sl id (off+l*s) (h-l) s i6,S,0,0⟩) i6) i6
      | some mx=>match hi,bnd (iz mx) 0 with
       | some _,iz m=>cond (od te.sz s&&og l h&&og h m&&og m len)
         (iz ⟨.sl id (cond (od m l) off (off+l*s)) (h-l) s (iz (m-l)),S,0,0⟩) i6
       | _,_=>i6
     | _,_=>i6
   | _=>i6
 | .lst c l=>match tt ty with
  | none=>i6
  | some ti=>match ti.und with
   | .slice e=>match tt e with
    | none=>i6
    | some te=>match bndI lo 0,bndI hi l.length with
     | some a,iz b=>match mx with
      | none=>cond (od te.sz (csz c)) (cond (lchk a b l.length l.length) (iz ⟨.lst c (lsub l a b),S,0,0⟩) i6) i6
      | some mx=>match hi,bndI (iz mx) 0 with
       | some _,iz m=>cond (od te.sz (csz c)) (cond (lchk a b m l.length) (iz ⟨.lst c (lsub l a b),S,0,0⟩) i6) i6
       | _,_=>i6
     | _,_=>i6
   | _=>i6
 | _=>i6
theorem zs7{w:oh}{ty e:ov}{size bytes s b2:Nat}{zero z2:oc}{D:fd}{a:f9}{len cap l h d1 d2:Nat}{lo hi:Oq IV}{ulo uhi:Oq oc}(hT:Ty P ty (.slice e) size bytes zero)(hE:Ty P e D s b2 z2)
  (hl:bnd lo 0=iz l) (hh:bnd hi len=iz h) (vl:VO E lo ulo) (vh:VO E hi uhi) (h1:l<=h) (h2:h<=len) (h3:len<=cap) :
  (f8 ty (.slice (iz a) len cap) ulo uhi i6).run P w=.ok (.slice (iz (if cap=l then a else a.add (l*s))) (h-l) (cap-l)) w:=by
 have c:(o6 i7 len cap ulo uhi i6).run P w=.ok (l,h,cap) w:=by
  simp only[o6,xh,xd,xb];cases uhi with
  | none =>
   cases hi with
   | some _=>exact vh.elim
   | none =>
    have:len=h:=by simpa [bnd] using hh
    subst this;simp only[xh,xd,xb];cases ulo with
    | none =>
     cases lo with
     | some _=>exact vl.elim
     | none =>
          have:0=l:=by simpa [bnd] using hl
          subst this;simp only[xh,xd,xb]
    | some u =>
     cases lo with
     | none=>exact vl.elim
     | some x=>simp only[xh,qcq (P:=P) hl vl h1,xb,xd]
  | some u2 =>
   cases hi with
   | none=>exact vh.elim
   | some x2 =>
    have d:∀b,(fy u2 cap b).run P w=.ok h w:=fun b=>qcq hh vh (by omega);simp only[xh,d,xb];cases ulo with
    | none =>
     cases lo with
     | some _=>exact vl.elim
     | none =>
          have:0=l:=by simpa [bnd] using hl
          subst this;simp only[xh,xd,xb]
    | some u =>
     cases lo with
     | none=>exact vl.elim
     | some x=>simp only[xh,qcq (P:=P) hl vl h1,xb,xd]
 simp only[f8,xh,xm hT.und,xb,io,c,Sx.run_sizeOf hE,xd]
 grind
theorem zox{w:oh}{ty e:ov}{size bytes s b2:Nat}{zero z2:oc}{D:fd}{a:f9}{len cap l h m:Nat}{lo:Oq IV}{ulo:Oq oc}{x2 x3:IV}{u2 u3:oc}(hT:Ty P ty (.slice e) size bytes zero)(hE:Ty P e D s b2 z2)
  (hl:bnd lo 0=iz l) (hh:bnd (iz x2) len=iz h) (hm:bnd (iz x3) 0=iz m) (vl:VO E lo ulo) (vh:VR E x2 u2) (vm:VR E x3 u3) (h1:l<=h) (h2:h<=m) (h3:m<=cap) :
  (f8 ty (.slice (iz a) len cap) ulo (iz u2) (iz u3)).run P w=.ok (.slice (iz (if m=l then a else a.add (l*s))) (h-l) (m-l)) w:=by
 have b:(o6 i7 len cap ulo (iz u2) (iz u3)).run P w=.ok (l,h,m) w:=by
  simp only[o6,xh,qcq (P:=P) hm vm h3,qcq (P:=P) hh vh h2,xb];cases ulo with
  | none =>
   cases lo with
   | some _=>exact vl.elim
   | none =>
        have:0=l:=by simpa [bnd] using hl
        subst this;simp only[xh,xd,xb]
  | some u =>
   cases lo with
   | none=>exact vl.elim
   | some x=>simp only[xh,qcq (P:=P) hl vl h1,xb,xd]
 simp only[f8,xh,xm hT.und,xb,io,b,Sx.run_sizeOf hE,xd]
 grind
theorem qf7{w:oh}{x:IV}{u:oc}{d n:Int}{y:Nat}{code:BoundsCode}(h:bndI (iz x) d=iz n)(hx:VR E x u)(h0:0<=n)(hn:n<=y):(fy u y code).run P w=.ok n.toNat w:=by
 unfold bndI at h;split at h<;>try cases h
 ·grind
 ·rename_i a;cases a;cases hx;simp only[fy,asIntOf,xh,xd,xb,h0,hn,jcl,dv]
theorem qd3{w:oh}{ty e:ov}{size bytes s b2:Nat}{zero z2:oc}{D:fd}{a:Oq f9}{len cap:Nat}{l h m:Int}{lo hi mx:Oq IV}{ulo uhi umx:Oq oc}(hT:Ty P ty (.slice e) size bytes zero)(hE:Ty P e D s b2 z2)
  (hl:bndI lo 0=iz l) (hh:bndI hi len=iz h) (hm:(mx=i6/\m=cap)\/(∃x,mx=iz x/\hi.isSome=i7/\bndI (iz x) 0=iz m)) (vl:VO E lo ulo) (vh:VO E hi uhi) (vm:VO E mx umx) (h0:0<=l) (h1:l<=h) (h2:h<=m) (h3:m<=cap) :
  (f8 ty (.slice a len cap) ulo uhi umx).run P w=.ok (.slice (if m=l then a else a.map (·.add (l.toNat*s))) (h.toNat-l.toNat) (m.toNat-l.toNat)) w:=by
 have q:(o6 i7 len cap ulo uhi umx).run P w=.ok (l.toNat,h.toNat,m.toNat) w:=by
  have j:∀u,ulo=iz u->∀b,(fy u h.toNat b).run P w=.ok l.toNat w:=fun u c b=>by
   subst c;cases lo with
   | none=>exact vl.elim
   | some x=>exact qf7 hl vl h0 (by omega)
  have d:ulo=i6->l=0:=fun c=>by
   subst c;cases lo with
   | some _=>exact vl.elim
   | none=>simpa [bndI] using hl.symm
  have p:∀u,uhi=iz u->∀b,(fy u m.toNat b).run P w=.ok h.toNat w:=fun u c b=>by
   subst c;cases hi with
   | none=>exact vh.elim
   | some x=>exact qf7 hh vh (by omega) (by omega)
  have k:uhi=i6->h=len:=fun c=>by
   subst c;cases hi with
   | some _=>exact vh.elim
   | none=>simpa [bndI] using hh.symm
  have t:∀u,umx=iz u->uhi.isSome=i7/\∀b,(fy u cap b).run P w=.ok m.toNat w:=fun u c=>by
   subst c;rcases hm with ⟨rfl,rfl⟩|⟨x,rfl,n,g⟩
   ·exact vm.elim
   ·refine⟨?_,fun b=>qf7 g vm (by omega) h3⟩;cases hi with
    | none=>cases n
    | some _=>cases uhi with
     | none=>exact vh.elim
     | some _=>rfl
  have i:umx=i6->m=cap:=fun c=>by
   subst c;rcases hm with ⟨rfl,rfl⟩|⟨x,rfl,n,g⟩
   ·rfl
   ·exact vm.elim
  cases umx with
  | none =>
   have:=i rfl;subst this;cases uhi with
   | none =>
    have:=k rfl;subst this;cases ulo with
    | none=>have:=d rfl;subst this;simp only[o6,xh,xd,xb];rfl
    | some u=>have:=j u rfl;simp only[rr] at this;simp only[o6,xh,xd,xb,this,rr]
   | some u2 =>
    have f:=p u2 rfl;simp only[rr] at f;cases ulo with
    | none=>have:=d rfl;subst this;simp only[o6,xh,xd,xb,f,rr];rfl
    | some u=>have:=j u rfl;simp only[o6,xh,xd,xb,f,this,rr]
  | some u3 =>
   obtain⟨r,o⟩:=t u3 rfl;cases uhi with
   | none=>cases r
   | some u2 =>
    have f:=p u2 rfl;cases ulo with
    | none=>have:=d rfl;subst this;simp only[o6,xh,xd,xb,f,o];rfl
    | some u=>have:=j u rfl;simp only[o6,xh,xd,xb,f,o,this]
 simp only[f8,xh,xm hT.und,xb,io,q,Sx.run_sizeOf hE,xd]
 grind
theorem q0q{c:TC}{l:Lz (El c)}{a:Oq f9}{n cap:Nat}(h:l=[])(hn:n=0)(hc:cap<9223372036854775808):VR E (.lst c l) (.slice a n cap):=by subst h;subst hn;exact .lst0 hc
theorem VR.lsub{c:TC}{l:Lz (El c)}{u:oc}{a b m:Int}{ad:Oq f9}{len cap:Nat}(h:VR E (.lst c l) (.slice ad len cap))(h0:0<=a)(h1:a<=b)(h2:b<=m)(h3:m<=cap)(h4:b<=len) :
  VR E (.lst c (lsub l a b)) (.slice (if m=a then ad else ad.map (·.add (a.toNat*csz c))) (b.toNat-a.toNat) (m.toNat-a.toNat)):=by
 cases h with
 | lst0 hc =>
  exact q0q (by simp[Jx.lsub]) (by omega) (by omega)
 | lst us k1 k2 k3 hb hh hc hu =>
  have d:(Jx.lsub l a b).length=b.toNat-a.toNat:=by simp[Jx.lsub];omega
  by_cases n:b.toNat-a.toNat=0
  ·exact q0q (p8.1 (d.trans n)) n (by omega)
  ·rw[xr (by omega),<- d];rename_i o e g t r;have q:(Option.map (fun x=>x.add (a.toNat*csz c)) (iz (⟨o,e,i6⟩:f9)))=iz ⟨o,e+a.toNat*csz c,i6⟩:=by
    show iz (Addr.add _ _)=_;rw[ja _ rfl]
   rw[q];have k:∀i (f:i<(Jx.lsub l a b).length),(Jx.lsub l a b)[i]=l[a.toNat+i]'(by omega):=fun i f=>by simp[Jx.lsub]
   refine .lst (fun i j=>us (a.toNat+i) j) (by omega) (by omega) (py (pw _ (by omega)) k3) hb hh (fun i f j p=>?_) (fun i f j p=>?_)
   ·grind
   ·grind
theorem q1h{ty:Nat}{lo hi mx:Oq IV}{ulo uhi umx:Oq oc}{x:IV}{ux:oc}{r:Res}(htt:TT P tt)(p:Pre T E S)(h:cn tt S ty lo hi mx x=iz r)(hx:VR E x ux)(vl:VO E lo ulo)(vh:VO E hi uhi)(vm:VO E mx umx) :
  Good P T E S (f8 ty ux ulo uhi umx) r:=by
 unfold cn at h;split at h<;>try cases h
 rotate_left
 ·rename_i c l;split at h
  ·grind
  rename_i Z q;have i:=htt _ _ q;split at h<;>try cases h
  rename_i e Q;rw[Q] at i;split at h
  ·grind
  rename_i z t;have I:=htt _ _ t;split at h<;>try cases h
  rename_i a b W g;have D:∃M cap,ux=.slice M l.length cap/\l.length<=cap:=by cases hx<;>exact⟨_,_,rfl,by first|assumption|simp⟩
  obtain⟨M,cap,rfl,V⟩:=D;split at h
  ·cases k:od z.sz (csz c) with
   | false=>rw[k] at h;cases h
   | true =>
   rw[k,xa] at h;have k:=xg k;cases y:lchk a b l.length l.length with
   | false=>rw[y] at h;cases h
   | true =>
   rw[y,xa] at h;cases h;obtain⟨K,J,X,δ⟩:=cu.1 y;have B:=qd3 (P:=P) (E:=E) (w:=E.w) (a:=M) (len:=l.length) (cap:=cap) (m:=cap) (mx:=i6) i I W g (.inl ⟨rfl,rfl⟩) vl vh vm K J (by omega) (by omega);rw[k] at B;exact Good.same p B (VR.lsub (u:=.nilFunc) hx K J (by omega) (by omega) X)
  ·rename_i o;split at h<;>try cases h
   rename_i Y m v;cases k:od z.sz (csz c) with
   | false=>rw[k] at h;cases h
   | true =>
   rw[k,xa] at h;have k:=xg k;cases y:lchk a b m l.length with
   | false=>rw[y] at h;cases h
   | true =>
   rw[y,xa] at h;cases h;obtain⟨K,J,X,δ⟩:=cu.1 y;have B:=qd3 (P:=P) (E:=E) (w:=E.w) (a:=M) (len:=l.length) (cap:=cap) (m:=m) (mx:=iz o) i I W g (.inr ⟨o,rfl,rfl,v⟩) vl vh vm K J (by omega) (by omega);rw[k] at B;exact Good.same p B (VR.lsub (u:=.nilFunc) hx K J (by omega) (by omega) (by omega))
 rename_i A j len s c;cases hx with
 | sl cap hA h1 h2 h3 h4 h5 =>
 split at h
 ·grind
 rename_i Z q;have i:=htt _ _ q;split at h<;>try cases h
 rename_i e Q;rw[Q] at i;split at h
 ·grind
 rename_i z t;have I:=htt _ _ t;split at h<;>try cases h
 rename_i l L F G;split at h
 ·cases umx with
  | some _=>exact vm.elim
  | none =>
  cases g:(od z.sz s&&og l L&&og L len) with
  | false=>rw[g] at h;cases h
  | true =>
  rw[g,xa] at h;simp only[xf] at g;have N:=xg g.1.1;have U:=xk g.1.2;have R:=xk g.2;have d:=zs7 (P:=P) (E:=E) (w:=E.w) (a:=⟨E.ρ A,j,i6⟩) (d1:=0) (d2:=0) i I F G vl vh U R h1;rw[N] at d;have α:l<=cap:=by omega
  have C:cap*s=l*s+(cap-l)*s:=by rw[<- rb];congr 1;omega
  split at h
  ·rename_i ε;cases h;have β:=h4 _ rfl;subst β;refine Good.same p d ?_;by_cases f:cap=l
   ·rw[xx f,wk f,xa];exact .sl _ hA (by omega) (by omega) (by subst f;simp;omega) (fun x hx=>by cases hx;rfl) (fun hx=>by cases hx)
   ·rw[xr f,qm f,xe,ja _ rfl];exact .sl _ hA (by omega) (by omega) (by omega) (fun x hx=>by cases hx;rfl) (fun hx=>by cases hx)
  ·cases hb2:(oo l len||od l 0) with
   | false=>rw[hb2] at h;cases h
   | true =>
    rw[hb2,xa] at h;cases h;refine Good.same p d ?_;have γ:=h5 rfl;simp only[jbi] at hb2;have H:(if cap=l then (⟨E.ρ A,j,i6⟩:f9) else (⟨E.ρ A,j,i6⟩:f9).add (l*s))=⟨E.ρ A,j+l*s,i6⟩:=by
     rcases hb2 with hb2|hb2
     ·have:l<len:=by simpa using hb2
      rw[xr (by omega),ja _ rfl]
     ·have:l=0:=xg hb2;subst this;split<;>simp [ja]
    rw[H];exact .sl _ hA (by omega) (by omega) (by omega) (fun x hx=>by cases hx) (fun _=>by omega)
 ·rename_i o;split at h<;>try cases h
  rename_i Y m v;cases umx with
  | none=>exact vm.elim
  | some u3 =>
  cases uhi with
  | none=>exact vh.elim
  | some u2 =>
  cases g:(od z.sz s&&og l L&&og L m&&og m len) with
  | false=>rw[g] at h;cases h
  | true =>
  rw[g,xa] at h;cases h;simp only[xf] at g;have N:=xg g.1.1.1;have U:=xk g.1.1.2;have R:=xk g.1.2;have ζ:=xk g.2;have d:=zox (P:=P) (E:=E) (w:=E.w) (a:=⟨E.ρ A,j,i6⟩) (len:=len) i I F G v vl vh vm U R (show m<=cap by omega);rw[N] at d;refine Good.same p d ?_;have C:m*s=l*s+(m-l)*s:=by rw[<- rb];congr 1;omega
  have O:m*s<=cap*s:=pw _ (by omega);by_cases n:m=l
  ·rw[xx n,wk n,xa];exact .sl _ hA (by omega) (by omega) (by subst n;simp;omega) (fun x hx=>by cases hx;rfl) (fun hx=>by cases hx)
  ·rw[xr n,qm n,xe,ja _ rfl];exact .sl _ hA (by omega) (by omega) (by omega) (fun x hx=>by cases hx;rfl) (fun hx=>by cases hx)
end
end Go.Jx
end

noncomputable section
namespace Go.Sx
open Go Go.RowKit
open Go.Sx.Dat (enc)
theorem q3m:∀(vs:Lz oc) (o:Nat) (cs:Lz oc) (j:Nat),o+vs.length<=j->(putL cs o vs)[j]?=cs[j]?
 | [],_,_,_,_=>rfl
 | v::vs,o,cs,j,h=>by
  simp only[xw] at h;unfold putL;rw[q3m vs (o+1) _ j (by omega),List.getElem?_set_ne (by omega)]
section
variable {P : om} {n : Nat} {σ : Nat -> oc} {w : oh} {Q : Exit -> Act -> oh -> Prop} {ops : Array o8} {rest : Lz o8}
variable {d : Nat} {ty T E : ov} {D : fd} {size bytes : Nat} {zero : oc} {pos : String} {aft : Array Edge} {g : Oq (Nat × Bool)} {x y z : fh}
variable {α : Type} [Dat α] {m M : Lz Nat} {a : Oq f9} {cap : Nat} {l : Lz α}
theorem Go.Sx.Own.place(ho:Go.Sx.Own m M w a cap l){j:Nat}(hj:j<l.length):∃β,a=iz ⟨β,0,i6⟩:=by
 rcases ho with ⟨_,_,rfl⟩|⟨g,b,rfl,_⟩
 ·simp at hj
 ·exact⟨g,rfl⟩
end
end Go.Sx
end

noncomputable section
namespace Go.Jx
open Go Go.Sx Go.RowKit
universe u

theorem Post.kill{T:TW}{E:Env}{S:IS}{id:Nat}(p:Pre T E S):Post T E S E (S.set id .dead):=by
 obtain⟨a,b⟩:=p.st.kill (id:=id);refine⟨?_,?_,p.bnd,xl _⟩
 ·rw[IS.H_set];exact a
 ·rw[IS.H_set];exact b
theorem Post.move{T:TW}{E:Env}{S:IS}{id:Nat}{hd:oc}{o:IObj}{w':oh}(p:Pre T E S)(hT:T.w id)(hA:E.A id)(hL:Live E S.H id)(u:Upd [E.ρ id] E.w w')
  (ho:OR (E.moved id S.next hd w') S.next o):Post T E S (E.moved id S.next hd w') ((S.set id .dead).new o)/\Fresh E S (E.moved id S.next hd w'):=by
 have c:¬E.A S.next:=fun h=>rf _ (p.bnd _ h)
 obtain⟨_,a,b⟩:=p.st.move hT hA hL c u ho;have e:((S.set id .dead).new o).H=up (up S.H id (iz .dead)) S.next (iz o):=by rw[IS.H_new,IS.H_set];rfl
 refine⟨⟨?_,?_,fun j h=>?_,by simp[IS.new,IS.set]⟩,⟨fun j h d=>?_⟩⟩
 ·grind
 ·grind
 ·show j<S.next+1
  rcases h with h|h
  ·have:=p.bnd j h;omega
  ·omega
 ·rcases h with h|h
  ·grind
  ·omega
section
variable {P : om} {tt : Nat -> Oq TI} {T : TW} {E : Env} {S : IS}

theorem qrv{cs:Lz IV}{us rest:Lz oc}{t:ov}{w':oh}(p:Pre T E S)(h:VRs E cs us)(hw:w'.heap=E.w.heap.push (.cells (us++rest).toArray t))(h1:w'.os=E.w.os)(h2:w'.tape=E.w.tape)(h3:w'.output=E.w.output) :
  ∃E',E'.w=w'/\E'.ρ S.next=E.w.heap.size/\E'.κ S.next=(us++rest).length/\E'.A S.next/\Post T E S E' (S.new (.row cs))/\Fresh E S E':=by
 have u:Upd [] E.w w':=⟨h1,h2,h3,by rw[hw];simp,fun b d _=>by rw[hw,jah,xr (by omega)]⟩;have c:¬E.A S.next:=fun h=>rf _ (p.bnd _ h)
 obtain⟨a,b⟩:=Post.new p (k:=(us++rest).length) (hd:=.tuple #[]) (o:=.row cs) u (by rw[hw];simp) ⟨(us++rest).toArray,t,by simp only[Env.with_,zj,hw];simp,by simp[Env.with_,zj],by simp[h.1],by
  have:((us++rest).toArray.toList).take cs.length=us:=by rw[h.1];simp
  rw[this];exact h.mono (Env.with_le c u)⟩
 exact⟨_,rfl,zj _ _ _,zj _ _ _,(ig rfl:E.A S.next\/S.next=S.next),a,b⟩

def qq9:Lz UInt8->Lz IV
 | []=>[]
 | b::l=>.int .u8 b.toNat::qq9 l
def qw3(S:IS)(s:Nat):IV->Oq (Nat × Lz IV × Nat)
 | .nilsl=>iz (0,[],0)
 | .sl id off len s' c=>match S.heap.get id with
  | some (.row cs)=>cond (od s' s&&og (off+len*s) cs.length) (iz (len,(cs.drop off).take (len*s),2 ^ id)) i6
  | _=>i6
 | .str b=>cond (od s 1) (iz (b.size,qq9 b.data.toList,0)) i6
 | _=>i6
structure Src (P:om) (E:Env) (s n:Nat) (cs:List IV) (u:oc) (fl:List oc):Prop where
 rel:VRs E cs fl
 size:fl.length=n*s
 len:∀w1:oh,(am u).run P w1=.ok n w1
 first:∀w1:oh,w1.heap=E.w.heap->(oy s n u).run P w1=.ok fl.toArray w1
theorem q8o(E:Env):∀l:Lz UInt8,VRs E (qq9 l) (l.map fun b=>.int .u8 b.toNat)
 | []=>VRs.nil
 | b::l=>VRs.cons (.int _ _ (IntWalk.u8_in _ ⟨by omega,by have:=b.toNat_lt;omega⟩)) (q8o E l)
theorem qdr{w1:oh}{b o n:Nat}{cells:Array oc}{t:ov}{fz:Nat × Nat}(hh:w1.heap[b]?=iz (.cells cells t fz))(hl:o+n<=cells.size) :
  (loadCells ⟨b,o,i6⟩ n).run P w1=.ok ((cells.toList.drop o).take n).toArray w1:=by
 have a:((cells.toList.drop o).take n).length=n:=by simp;omega
 have:=Sx.run_loadCellsFrom (P:=P) (w:=w1) (ad:=⟨b,o,i6⟩) ((cells.toList.drop o).take n) 0 #[] (fun j c=>by
  rw[a] at c;rw[ja _ rfl,gb,xx c,jad];simp [fu,hh])
 rw[a] at this;simpa [loadCells] using this
theorem qek{s n:Nat}{y:IV}{uy:oc}{cs:Lz IV}{rd:Nat}(p:Pre T E S)(h:qw3 S s y=iz (n,cs,rd))(hr:tin T.r rd)(hy:VR E y uy):∃fl,Src P E s n cs uy fl:=by
 unfold qw3 at h;split at h<;>try cases h
 ·cases hy;exact⟨[],VRs.nil,by simp,fun g=>rfl,fun g k=>rfl⟩
 ·rename_i w d j m c;cases hy with
  | sl cap hA h1 h2 h3 h4 h5 =>
  split at h<;>try cases h
  rename_i i l;cases f:(od m s&&og (d+j*s) i.length) with
  | false=>rw[f] at h;cases h
  | true =>
   rw[f,xa] at h;cases h;simp only[xf] at f;have q:=xk f.2;obtain⟨a,t,v,z,x,u⟩:=bf p (zi hr) hA l;refine⟨(a.toList.drop d).take (n*s),?_,by simp;omega,fun g=>rfl,fun g k=>qdr (by rw[k];exact v) (by omega)⟩;have:=(u.drop d).take (n*s);have e:ao (n*s) (iv d (ao i.length a.toList))=ao (n*s) (iv d a.toList):=by
    apply d9
    grind
   grind
 ·rename_i b;cases f:(od s 1) with
  | false=>rw[f] at h;cases h
  | true =>
   rw[f,xa] at h;cases h;have o:=xg f;subst o;cases hy;refine⟨b.data.toList.map fun b=>.int .u8 b.toNat,q8o E _,by simp,fun g=>rfl,fun g k=>?_⟩;simp only[oy,xd];congr 1;have:b.extract 0 b.size=b:=by simp
   grind
theorem q5n{w:oh}{T T2 E ty:ov}{D2 E':fd}{size bytes s b2:Nat}{zero z2:oc}{g o len n cap:Nat}{cells fl:Lz oc}{x:oc}(hT:Ty P T (.slice E) size bytes zero)(hT2:P.underlying T2=iz D2)(hni:∀k,D2≠.int k)(hE:Ty P E E' s b2 z2)
  (hlen:∀w1:oh,(am x).run P w1=.ok n w1) (hfirst:(oy s n x).run P w=.ok fl.toArray w) (hfl:fl.length=n*s) (hone:fl.all Sx.one=i7) (hbox:Box w g cells) (hfit:len+n<=cap) (hroom:o+(len+n)*s<=cells.length) :
  ∃w',(fb #[T,T2] ty #[.slice (iz ⟨g,o,i6⟩) len cap,x]).run P w=.ok (.slice (iz ⟨g,o,i6⟩) (len+n) cap) w'/\Box w' g (putL cells (o+len*s) fl)/\Upd [g] w w'/\w'.heap.size=w.heap.size:=by
 have f:(len+n)*s=len*s+n*s:=rb _ _ _;obtain⟨w',d,c,b,a⟩:=Sx.run_store (P:=P) fl (o+len*s) 0 hbox (by omega) hone;refine⟨w',?_,c,b,a⟩;have e:(match D2 with|iq k=>i7|_=>eb)=eb:=by cases D2<;>first|rfl|exact absurd rfl (hni _)
 simp only[fb,pf,xo,px,xh,xm hT.und,xm hT2,xb,Sx.run_sizeOf hE,xd,pu,p9,hlen];simp only[hfit,dv,gh,xh,xd,xb,hfirst];rw[show (⟨g,o,i6⟩:f9).add (len*s)=⟨g,o+len*s,i6⟩ from by rw[ja _ rfl],d];simp
theorem zwa{w:oh}{T T2 E ty:ov}{D2 E':fd}{size bytes s b2:Nat}{zero z2:oc}{g o len n cap:Nat}{cells fl:Lz oc}{x:oc}(hT:Ty P T (.slice E) size bytes zero)(hT2:P.underlying T2=iz D2)(hni:∀k,D2≠.int k)(hE:Ty P E E' s b2 z2)
  (hlen:∀w1:oh,(am x).run P w1=.ok n w1) (hfirst:(oy s n x).run P w=.ok fl.toArray w) (hfl:fl.length=n*s) (hone:fl.all Sx.one=i7) {t:ov} (hbox:w.heap[g]?=iz (.cells cells.toArray t (0,0))) (hfit:len+n<=cap) (hroom:o+(len+n)*s<=cells.length) :
  ∃w',(fb #[T,T2] ty #[.slice (iz ⟨g,o,i6⟩) len cap,x]).run P w=.ok (.slice (iz ⟨g,o,i6⟩) (len+n) cap) w'/\w'.heap[g]?=iz (.cells (putL cells (o+len*s) fl).toArray t (0,0))/\Upd [g] w w'/\w'.heap.size=w.heap.size:=by
 have f:(len+n)*s=len*s+n*s:=rb _ _ _;obtain⟨w',d,c,b,a⟩:=qt1 (P:=P) fl (o+len*s) 0 hbox (by omega) hone;refine⟨w',?_,c,b,a⟩;have e:(match D2 with|iq k=>i7|_=>eb)=eb:=by cases D2<;>first|rfl|exact absurd rfl (hni _)
 simp only[fb,pf,xo,px,xh,xm hT.und,xm hT2,xb,Sx.run_sizeOf hE,xd,pu,p9,hlen];simp only[hfit,dv,gh,xh,xd,xb,hfirst];rw[show (⟨g,o,i6⟩:f9).add (len*s)=⟨g,o+len*s,i6⟩ from by rw[ja _ rfl],d];simp
theorem qqa{w:oh}{T T2 E ty:ov}{D2 E':fd}{size bytes s b2:Nat}{zero z2:oc}{a:Oq f9}{len n cap:Nat}{fo fl:Lz oc}{x:oc}(hT:Ty P T (.slice E) size bytes zero)(hT2:P.underlying T2=iz D2)(hni:∀k,D2≠.int k)(hE:Ty P E E' s b2 z2)(hz:z2.cells.size=s)
  (hlen:∀w1:oh,(am x).run P w1=.ok n w1) (hfirst:∀w1:oh,w1.heap=w.heap->(oy s n x).run P w1=.ok fl.toArray w1) (hfl:fl.length=n*s) (hold:∀w1:oh,w1.heap=w.heap->(oy s len (.slice a len cap)).run P w1=.ok fo.toArray w1) (hfo:fo.length=len*s)
  (hfit:¬len+n<=cap) (hroom:(len+n)*b2<=140737488355328) (hb2:0<b2) :
  ∃nc tl,len+n<=nc/\nc<9223372036854775808/\tl.length=(nc-(len+n))*s/\(fb #[T,T2] ty #[.slice a len cap,x]).run P w=.ok (.slice (iz ⟨w.heap.size,0,i6⟩) (len+n) nc) { w with drawn:=w.drawn+1,heap:=w.heap.push (.cells (fo++fl++tl).toArray E) }:=by
 obtain⟨i,u,t,o,r⟩:=hE.inf;have l:(len+n)*i.bytes<=140737488355328:=by rw[o];exact hroom
 have q:¬(Builtin.nextslicecap (len+n) cap*i.bytes > 2 ^ 48):=by
  have:=growslice_fits (need:=len+n) (old:=cap) (bytes:=i.bytes) (by omega) l
  grind
 have e:∀w,(typeInfo E).run P w=.ok i w:=fun w=>by simp[typeInfo,go_sem,u]
 have f:¬(((len+n:Nat):Int) > IntKind.i64.max/\(False\/i.bytes=0)):=by
  grind
 let nc:=(ai (len+n) cap E).cut (w.tape w.drawn (ai (len+n) cap E))
 have j:len+n<=nc:=jal _ _;have h:len+n<2 ^ 63:=by
  have:(len+n)*1<=(len+n)*i.bytes:=rt _ (by omega)
  grind
 have b:nc<9223372036854775808:=by
  have y:nc=len+n+(w.tape w.drawn (ai (len+n) cap E)) % (2 ^ 63-(len+n)):=rfl;have v:=jck (w.tape w.drawn (ai (len+n) cap E)) (show 2 ^ 63-(len+n) > 0 by omega)
  grind
 let tl:=(iy z2.cells (nc-(len+n))).toList
 have d:tl.length=(nc-(len+n))*s:=by simp[tl,iy,hz]
 refine⟨nc,tl,j,b,d,?_⟩;have p:(choose (ai (len+n) cap E)).run P w=.ok nc { w with drawn:=w.drawn+1 }:=rfl;have g:=hold { w with drawn:=w.drawn+1 } rfl;have m:=hfirst { w with drawn:=w.drawn+1 } rfl;have c:fo.toArray++fl.toArray++iy z2.cells (nc-(len+n))=(fo++fl++tl).toArray:=by simp[tl]
 have hz:(match D2 with|iq k=>i7|_=>eb)=eb:=by cases D2<;>first|rfl|exact absurd rfl (hni _)
 simp only[fb,pf,xo,px,xh,xm hT.und,xm hT2,xb,Sx.run_sizeOf hE,xd,pu,p9,hlen];simp only[hfit,gh,p9,dv,xh,xd,xb,e,f,q,p,zfj,g,m,Sx.run_zeroValue hE,newRow,c];rfl
theorem zfk{w:oh}{T T2 E ty:ov}{D2 E':fd}{size bytes s b2:Nat}{zero z2:oc}{x:oc}(hT:Ty P T (.slice E) size bytes zero)(hT2:P.underlying T2=iz D2)(hni:∀k,D2≠.int k)(hE:Ty P E E' s b2 z2){fl:Lz oc}
  (hlen:∀w1:oh,(am x).run P w1=.ok 0 w1) (hfirst:(oy s 0 x).run P w=.ok fl.toArray w) :
  (fb #[T,T2] ty #[.slice i6 0 0,x]).run P w=.ok (.slice i6 0 0) w:=by
 have a:(match D2 with|iq k=>i7|_=>eb)=eb:=by cases D2<;>first|rfl|exact absurd rfl (hni _)
 simp only[fb,pf,xo,px,xh,xm hT.und,xm hT2,xb,Sx.run_sizeOf hE,xd,pu,p9,hlen];simp only[g8,xl,dv,gh,xh,xd,xb,hfirst]
def ql2:fd->Bool
 | .int _=>eb
 | _=>i7
def qc9(tt:Nat->Oq TI)(S:IS)(ty ty2:Nat)(x y:IV):Oq Res :=
 match tt ty,tt ty2 with
 | some ti,iz t2=>match ti.und with
  | .slice e=>match tt e with
   | none=>i6
   | some te=>match qw3 S te.sz y with
    | none=>i6
    | some (n,xs,rd)=>cond (ql2 t2.und&&oo 0 te.bytes&&od te.zero.cells.size te.sz&&xs.all one1)
     (match x with
     | .nilsl=>cond (od n 0) (iz ⟨.nilsl,S,rd,0⟩) (cond (og (n*te.bytes) 140737488355328) (iz ⟨.sl S.next 0 n te.sz i6,S.new (.row xs),rd,0⟩) i6)
     | .sl id off len s c=>match S.heap.get id with
      | some (.row cs)=>cond (od s te.sz&&og (off+len*s) cs.length&&og ((len+n)*te.bytes) 140737488355328)
       (match c with
       | some c0=>cond (og (len+n) c0)
         (iz ⟨.sl id off (len+n) s (iz c0),S.set id (.row (cs.take (off+len*s)++xs++cs.drop (off+(len+n)*s))),rd,2 ^ id⟩)
         (iz ⟨.sl S.next 0 (len+n) s i6,S.new (.row ((cs.drop off).take (len*s)++xs)),rd ||| 2 ^ id,0⟩)
       | none=>cond (od n 0) i6 (cond (od off 0)
         (iz ⟨.sl S.next 0 (len+n) s i6,(S.set id .dead).new (.row (cs.take (len*s)++xs)),rd,2 ^ id⟩) i6)) i6
      | _=>i6
     | _=>i6) i6
  | _=>i6
 | _,_=>i6
theorem zm2{ty ty2 tr:Nat}{x y:IV}{ux uy:oc}{r:Res}(htt:TT P tt)(p:Pre T E S)(h:qc9 tt S ty ty2 x y=iz r)(hrd:tin T.r r.rd)(hwr:tin T.w r.wr)(hx:VR E x ux)(hy:VR E y uy) :
   Good P T E S (fb #[ty,ty2] tr #[ux,uy]) r:=by
 unfold qc9 at h;split at h<;>try cases h
 rename_i ti χ hti ht2;have B:=htt _ _ hti;have O:=(htt _ _ ht2).und;split at h<;>try cases h
 rename_i e he;rw[he] at B;split at h
 · grind
 rename_i b hte;have τ:=htt _ _ hte;split at h
 · grind
 rename_i n β rd q;cases Z:(ql2 χ.und&&oo 0 b.bytes&&od b.zero.cells.size b.sz&&β.all one1) with
 | false=>rw[Z] at h;cases h
 | true =>
 rw[Z,xa] at h;simp only[xf] at Z;obtain⟨⟨⟨b1,b2⟩,b3⟩,b4⟩:=Z;have K:∀k,χ.und≠.int k:=fun k C=>by rw[C] at b1;cases b1
 have σ:0<b.bytes:=by simpa using b2
 have hz:=xg b3;split at h
 · -- onto nothing
   cases hx;cases X:od n 0 with
   | true =>
     rw[X,xa] at h;cases h;have X:=xg X;subst X;obtain⟨fl,f⟩:=qek (P:=P) p q hrd hy;exact Good.same p (zfk B O K τ f.len (f.first _ rfl)) .nilsl
   | false =>
     rw[X,xe] at h;cases ι:og (n*b.bytes) 140737488355328 with
     | false=>rw[ι] at h;cases h
     | true =>
     rw[ι,xa] at h;cases h;have ι:=xk ι;have hn0:n≠0:=fun e=>by subst e;cases X
     obtain⟨fl,f⟩:=qek (P:=P) p q hrd hy;obtain⟨l,tl,F,u,v,R⟩:=qqa (w:=E.w) (a:=i6) (len:=0) (cap:=0) (fo:=[]) (ty:=tr) B O K τ hz f.len f.first f.size (fun w1 _=>rfl) (by simp) (by omega) (by simpa using ι) σ
     simp only[x6,jag] at F v R;obtain⟨W,Q,V,γ,G,φ,υ⟩:=qrv (w':={ E.w with drawn:=E.w.drawn+1,heap:=E.w.heap.push (.cells (fl++tl).toArray e) }) p f.rel rfl rfl rfl rfl;refine⟨_,W,by rw[Q];exact R,?_,φ,υ⟩;rw[<- V];have ν:l*b.sz=n*b.sz+(l-n)*b.sz:=by rw[<- rb];congr 1;omega
     have C:W.κ S.next=l*b.sz:=by rw[γ,xp,f.size,v,ν]
     exact .sl l G F u (by rw[C];omega) (fun x hx=>by cases hx) (fun _=>by rw[C];omega)
 · rename_i id d len s c;cases hx with
   | sl cap hA h1 h2 h3 h4 h5 =>
   split at h<;>try cases h
   rename_i D N;cases Z:(od s b.sz&&og (d+len*s) D.length&&og ((len+n)*b.bytes) 140737488355328) with
   | false=>rw[Z] at h;cases h
   | true =>
   rw[Z,xa] at h;simp only[xf] at Z;obtain⟨⟨d1,d2⟩,d3⟩:=Z;have d1:=xg d1;have d2:=xk d2;have d3:=xk d3;subst d1;have ψ:T.r id->Live E S.H id:=fun ht=>⟨p.st.blk id ht hA _ N rfl,_,N,rfl⟩;have hmul:(len+n)*b.sz=len*b.sz+n*b.sz:=rb _ _ _;have hcapm:len*b.sz<=cap*b.sz:=pw _ h1
   -- what the two growing cases share
   have M:∀(m:T.r id) {fl:Lz oc},Src P E b.sz n β uy fl->¬len+n<=cap ->
       ∃l tl fo,VRs E ((D.drop d).take (len*b.sz)) fo/\fo.length=len*b.sz/\len+n<=l/\l<9223372036854775808/\tl.length=(l-(len+n))*b.sz/\(fb #[ty,ty2] tr #[.slice (iz ⟨E.ρ id,d,i6⟩) len cap,uy]).run P E.w=.ok (.slice (iz ⟨E.w.heap.size,0,i6⟩) (len+n) l) { E.w with drawn:=E.w.drawn+1,heap:=E.w.heap.push (.cells (fo++fl++tl).toArray e) }:=by
     intro m fl f δ;obtain⟨cells,t,Q,V,γ,G⟩:=bf p m hA N;have ε:ao (len*b.sz) (iv d (ao D.length cells.toList))=ao (len*b.sz) (iv d cells.toList):=by
       apply d9;intro i;rw[gb,gb];by_cases U:i<len*b.sz
       · rw[xx U,xx U,jad,jad,gb,xx (by omega)]
       · rw[xr U,xr U]
     have ζ:=(G.drop d).take (len*b.sz);rw[ε] at ζ;have I:((cells.toList.drop d).take (len*b.sz)).length=len*b.sz:=by simp;omega
     obtain⟨l,tl,F,u,v,R⟩:=qqa (w:=E.w) (a:=iz ⟨E.ρ id,d,i6⟩) (len:=len) (cap:=cap) (fo:=(cells.toList.drop d).take (len*b.sz)) (ty:=tr) B O K τ hz f.len f.first f.size (fun w1 hw=>qdr (by rw[hw];exact Q) (by omega)) I δ d3 σ
     exact⟨l,tl,_,ζ,I,F,u,v,R⟩
   split at h
   · rename_i c0;have hc:=h4 _ rfl;subst hc;cases Y:og (len+n) cap with
     | true =>
       rw[Y,xa] at h;cases h;have Y:=xk Y;obtain⟨fl,f⟩:=qek (P:=P) p q hrd hy;obtain⟨cells,t,Q,V,γ,G⟩:=bf p (T.sub _ (zi hwr)) hA N;have hcm:(len+n)*b.sz<=cap*b.sz:=pw _ Y;obtain⟨w',F,u,v,R⟩:=q5n (w:=E.w) (g:=E.ρ id) (o:=d) (len:=len) (cap:=cap) (cells:=cells.toList) (ty:=tr) B O K τ f.len (f.first _ rfl) f.size (f.rel.ones b4) ⟨t,by simpa using Q⟩ Y (by simp;omega);obtain⟨ω,u⟩:=u;have L:=Env.at_le p.st (zi hwr) hA (ψ (T.sub _ (zi hwr))) v;have J:β.length=n*b.sz:=by rw[f.rel.1,f.size]
       obtain⟨q1,q2⟩:=Post.write p (o':=.row (D.take (d+len*b.sz)++β++D.drop (d+(len+n)*b.sz))) (zi hwr) hA (ψ (T.sub _ (zi hwr))) v ⟨_,ω,u,by simp[yw,V,Env.at_],by simp[yw,J];omega,by
         have ε:(D.take (d+len*b.sz)++β++D.drop (d+(len+n)*b.sz)).length=max D.length (d+(len+n)*b.sz):=by simp[J];omega
         rw[ε];have ζ:((putL cells.toList (d+len*b.sz) fl).toArray.toList).take (max D.length (d+(len+n)*b.sz))=(cells.toList.take (d+len*b.sz))++fl++((cells.toList.take D.length).drop (d+(len+n)*b.sz)):=by
           apply d9;intro i;rw[gb];have hcl:cells.toList.length=cells.size:=by simp
           by_cases U:i<max D.length (d+(len+n)*b.sz)
           · rw[xx U];show (putL cells.toList (d+len*b.sz) fl)[i]?=_;by_cases θ:i<d+len*b.sz
             · rw[qe9 _ _ _ _ θ,gq,pa (by simp;omega),gb,xx θ]
             · by_cases i2:i<d+(len+n)*b.sz
               · obtain⟨j,rfl⟩:∃j,i=d+len*b.sz+j:=⟨i-(d+len*b.sz),by omega⟩;have I:(cells.toList.take (d+len*b.sz)).length=d+len*b.sz:=by simp;omega
                 rw[qh2 _ _ _ _ (by rw[f.size];omega) (by rw[f.size];omega),gq,pg (by rw[I];omega),I,pa (by rw[f.size];omega)];congr 1;omega
               · have I:(cells.toList.take (d+len*b.sz)++fl).length=d+(len+n)*b.sz:=by simp[f.size];omega
                 rw[q3m _ _ _ _ (by rw[f.size];omega),pg (by rw[I];omega),I,jad,gb,xx (by omega)];congr 1;omega
           · rw[xr U];symm;apply p6;simp[f.size];omega
         rw[ζ];have η:=G.take (d+len*b.sz);rw[jbt,Nat.min_eq_left d2] at η;exact VRs.mono L ((η.append f.rel).append (G.drop _))⟩
       exact⟨_,E.at_ w',F,.sl cap hA Y h2 h3 (fun x hx=>by cases hx;rfl) (fun hx=>by cases hx),q1,q2⟩
     | false =>
       rw[Y,xe] at h;cases h;obtain⟨t1,χ⟩:=zp hrd;obtain⟨fl,f⟩:=qek (P:=P) p q t1 hy;have δ:¬len+n<=cap:=fun L=>by rw[x7 L] at Y;cases Y
       obtain⟨l,tl,fo,f1,f2,F,u,v,R⟩:=M (zi χ) f δ;obtain⟨W,Q,V,γ,G,φ,υ⟩:=qrv (w':={ E.w with drawn:=E.w.drawn+1,heap:=E.w.heap.push (.cells (fo++fl++tl).toArray e) }) p (f1.append f.rel) rfl rfl rfl rfl;refine⟨_,W,by rw[Q];exact R,?_,φ,υ⟩;rw[<- V];have ν:l*b.sz=(len+n)*b.sz+(l-(len+n))*b.sz:=by rw[<- rb];congr 1;omega
       have C:W.κ S.next=l*b.sz:=by rw[γ,xp,xp,f.size,f2,v,ν];omega
       exact .sl l G F u (by rw[C];omega) (fun x hx=>by cases hx) (fun _=>by rw[C];omega)
   · cases X:od n 0 with
     | true=>rw[X] at h;cases h
     | false =>
     rw[X,xe] at h;cases μ:od d 0 with
     | false=>rw[μ] at h;cases h
     | true =>
     rw[μ,xa] at h;cases h;have μ:=xg μ;subst μ;obtain⟨fl,f⟩:=qek (P:=P) p q hrd hy;have m:=zi hwr;by_cases z:len+n<=cap
     · obtain⟨cells,t,Q,V,γ,G⟩:=bf p (T.sub _ m) hA N;have hcm:(len+n)*b.sz<=cap*b.sz:=pw _ z;obtain⟨w',F,u,v,R⟩:=q5n (w:=E.w) (g:=E.ρ id) (o:=0) (len:=len) (cap:=cap) (cells:=cells.toList) (ty:=tr) B O K τ f.len (f.first _ rfl) f.size (f.rel.ones b4) ⟨t,by simpa using Q⟩ z (by simp;omega);obtain⟨ω,u⟩:=u;have α:¬E.A S.next:=fun h=>rf _ (p.bnd _ h)
       have ξ:=Env.at_le p.st m hA (ψ (T.sub _ m)) v;have L:E.Le (E.moved id S.next (.tuple #[]) w'):=⟨fun j h=>⟨.inl h,up_ne _ _ fun e=>α (e▸h),up_ne _ _ fun e=>α (e▸h),up_ne _ _ fun e=>α (e▸h),up_ne _ _ fun e=>α (e▸h)⟩,ξ.tr⟩;have J:β.length=n*b.sz:=by rw[f.rel.1,f.size]
       obtain⟨q1,q2⟩:=Post.move p (o:=.row (D.take (len*b.sz)++β)) m hA (ψ (T.sub _ m)) v ⟨_,ω,by simp only[Env.moved,zj];exact u,by simp[yw,V,Env.moved,zj],by simp[yw,J];omega,by
         have ε:(D.take (len*b.sz)++β).length=(len+n)*b.sz:=by simp[J];omega
         rw[ε];have ζ:((putL cells.toList (0+len*b.sz) fl).toArray.toList).take ((len+n)*b.sz)=(cells.toList.take (len*b.sz))++fl:=by
           apply d9;intro i;rw[gb];have hcl:cells.toList.length=cells.size:=by simp
           have I:(cells.toList.take (len*b.sz)).length=len*b.sz:=by simp;omega
           by_cases U:i<(len+n)*b.sz
           · rw[xx U];show (putL cells.toList (0+len*b.sz) fl)[i]?=_;rw[x6];by_cases θ:i<len*b.sz
             · rw[qe9 _ _ _ _ θ,pa (by rw[I];omega),gb,xx θ]
             · obtain⟨j,rfl⟩:∃j,i=len*b.sz+j:=⟨i-(len*b.sz),by omega⟩;rw[qh2 _ _ _ _ (by rw[f.size];omega) (by rw[f.size];omega),pg (by rw[I];omega),I];congr 1;omega
           · rw[xr U];symm;apply p6;simp[f.size];omega
         rw[ζ];have η:=G.take (len*b.sz);rw[jbt,Nat.min_eq_left (by omega)] at η;exact VRs.mono L (η.append f.rel)⟩
       refine⟨_,E.moved id S.next (.tuple #[]) w',F,?_,q1,q2⟩;have ε:(⟨E.ρ id,0,i6⟩:f9)=⟨(E.moved id S.next (.tuple #[]) w').ρ S.next,0,i6⟩:=by simp[Env.moved,zj]
       rw[ε];have C:(E.moved id S.next (.tuple #[]) w').κ S.next=E.κ id:=zj _ _ _
       exact .sl cap (ig rfl:E.A S.next\/S.next=S.next) z h2 (by rw[C];exact h3) (fun x hx=>by cases hx) (fun _=>by rw[C];exact h5 rfl)
     · obtain⟨l,tl,fo,f1,f2,F,u,v,R⟩:=M (T.sub _ m) f z;have pk:=Post.kill (id:=id) p;have pp:=pk.pre p;obtain⟨W,Q,V,γ,G,φ,υ⟩:=qrv (S:=S.set id .dead) (w':={ E.w with drawn:=E.w.drawn+1,heap:=E.w.heap.push (.cells (fo++fl++tl).toArray e) }) pp (f1.append f.rel) rfl rfl rfl rfl;refine⟨_,W,by rw[Q];exact R,?_,Post.trans p pk (Fresh.refl E S) (by simpa using φ),⟨υ.fr⟩⟩;rw[<- V];have ν:l*b.sz=(len+n)*b.sz+(l-(len+n))*b.sz:=by rw[<- rb];congr 1;omega
       have C:W.κ S.next=l*b.sz:=by
         have:W.κ S.next=W.κ (S.set id .dead).next:=rfl
         rw[this,γ,xp,xp,f.size,f2,v,ν];omega
       exact .sl l G F u (by rw[C];omega) (fun x hx=>by cases hx) (fun _=>by rw[C];omega)
 · cases h
end
end Go.Jx
end

noncomputable section
namespace Go.Jx
open Go Go.Sx Go.RowKit
universe u

def za(b:Bq):Lz Int:=b.data.toList.map fun x=>(x.toNat:Int)
theorem qt8:∀(c:TC) (x:El c),(cel c x).all one1=i7
 | .int _,_=>rfl
 | .bool,_=>rfl
 | .str,_=>rfl
 | .list _,_=>rfl
 | .rl _,_=>rfl
 | .two a b,x=>by simp only[cel,List.all_append,qt8 a,qt8 b,dx]
def tsrc(S:IS)(c:TC):IV->Oq (Lz (El c) × IS × Nat × Nat)
 | .nilsl=>iz ([],S,0,0)
 | .lst c' l=>match q3 c' c l with
  | some l'=>iz (l',S,0,0)
  | none=>i6
 | .arr id=>match S.heap.get id with
  | some (.arr c' l)=>match q3 c' c l with
   | some l'=>iz (l',S,2 ^ id,0)
   | none=>i6
  | some (.frz c' l)=>match q3 c' c l with
   | some l'=>iz (l',S,2 ^ id,0)
   | none=>i6
  | _=>i6
 | .sl id off len s _=>match S.heap.get id with
  | some (.row cs)=>cond (od s (csz c)&&og (off+len*s) cs.length) (match vi (icl c) len S (cs.drop off) with
   | none=>i6
   | some (l,S1,w)=>iz (l,S1,2 ^ id,w)) i6
  | _=>i6
 | .str b=>match q3 (.int .u8) c (za b) with
  | some l=>iz (l,S,0,0)
  | none=>i6
 | _=>i6
section
variable {P : om} {tt : Nat -> Oq TI} {T : TW} {E : Env} {S : IS}
structure TSrc (P:om) (E:Env) (c:TC) (l:List (El c)) (u:oc) (fl:List oc):Prop where
 size:fl.length=l.length*csz c
 len:∀w1:oh,(am u).run P w1=.ok l.length w1
 first:∀w1:oh,w1.heap=E.w.heap->(oy (csz c) l.length u).run P w1=.ok fl.toArray w1
 rel:∃us:Nat->Nat->oc,(∀i,i<l.length->∀j,j<csz c->fl[i*csz c+j]?=iz (us i j))/\∀i (h:i<l.length) j (h':j<(cel c l[i]).length),VR E (cel c l[i])[j] (us i j)
theorem TSrc.one{c:TC}{l:Lz (El c)}{u:oc}{fl:Lz oc}(h:TSrc P E c l u fl):fl.all Sx.one=i7:=by
 obtain⟨o,n,m⟩:=h.rel;rw[xz];intro v f;obtain⟨k,b,rfl⟩:=db.1 f;have e:=qkt c;rw[h.size] at b;have d:k / csz c<l.length:=Nat.div_lt_of_lt_mul (by rw[Nat.mul_comm];exact b);have a:k % csz c<csz c:=jck _ e;have j:=n _ d _ a;rw[Nat.mul_comm,Nat.div_add_mod] at j;have i:=m _ d (k % csz c) (by rw[jr];exact a);have g:=(xz.1 (qt8 c l[k / csz c])) _ (p5 (by rw[jr];exact a));have p:=i.one g
 grind
theorem qrm{c:TC}{l:Lz (El c)}{b off cap:Nat}{cells:Array oc}{t:ov}{fz:Nat × Nat}{us:Nat->Nat->oc}(hh:E.w.heap[b]?=iz (.cells cells t fz))
  (hc:∀i,i<l.length->∀j,j<csz c->cells[off+i*csz c+j]?=iz (us i j)) (hu:∀i (h:i<l.length) j (h':j<(cel c l[i]).length),VR E (cel c l[i])[j] (us i j)) :
  TSrc P E c l (.slice (iz ⟨b,off,i6⟩) l.length cap) (((cells.toList.drop off).take (l.length*csz c))):=by
 have g:=qkt c;have a:l.length=0\/off+l.length*csz c<=cells.size:=by
  rcases jbh l.length with h|h
  ·grind
  ·right;have:=hc (l.length-1) (by omega) (csz c-1) (by omega);have n:=(jax.1 this).1;have m:(l.length-1)*csz c+csz c=l.length*csz c:=by rw[<- Nat.succ_mul];congr 1;omega
   omega
 refine⟨?_,fun d=>rfl,fun d e=>?_,us,fun i f j k=>?_,hu⟩
 ·grind
 ·rcases a with h|h
  ·simp only[oy,h,jbf,List.take_zero];rfl
  ·exact qdr (by rw[e];exact hh) h
 ·have o:i*csz c+j<l.length*csz c:=by
   have:=pw (csz c) (show i+1<=l.length from f)
   grind
  grind
theorem qbl{c:TC}{l:Lz (El c)}{u:oc}(h:VR E (.lst c l) u):∃fl,TSrc P E c l u fl:=by
 cases h with
 | lst0 hc=>exact⟨[],by simp,fun d=>rfl,fun d f=>by
   rename_i a e;cases a with
   | none=>rfl
   | some a=>simp only[oy,rh,jbf];rfl,fun _ _=>.nilFunc,fun i b=>absurd b (by simp),fun i b=>absurd b (by simp)⟩
 | lst us h1 h2 h3 hb hh hc hu=>exact⟨_,qrm hh hc hu⟩
theorem zds(b:Bq):TSrc P E (.int .u8) (za b) (.string b) (b.data.toList.map fun b=>.int .u8 b.toNat):=by
 have a:(za b).length=b.size:=by simp[za]
 refine⟨?_,fun h=>?_,fun h m=>?_,fun i j=>.int .u8 ((za b).getD i 0),fun i f j g=>?_,fun i f j g=>?_⟩
 ·simp only[csz,gt,Nat.mul_one];exact(by simp:b.data.toList.length=b.size).trans a.symm
 ·show Result.ok b.size h=Result.ok (za b).length h;rw[a]
 ·show (oy 1 (za b).length (.string b)).run P h=_;rw[a];simp only[oy,xd];congr 1;have:b.extract 0 b.size=b:=by simp
  grind
 ·have c:j=0:=by simp[csz] at g;exact g
  subst c;have d:i<b.data.size:=jb6 f a;have e:b.data[i]?=iz b.data[i]:=ja2 d;simp[csz,za,e,xn]
 ·have c:j=0:=by simp[cel] at g;exact g
  subst c;have d:i<b.data.size:=jb6 f a;have l:(za b)[i]?=iz ((za b)[i]'f):=xc f;have k:(za b).getD i 0=(za b)[i]'f:=by rw[xn,l];rfl
  show VR E (.int .u8 ((za b)[i]'f)) (.int .u8 ((za b).getD i 0));rw[k];refine .int _ _ (IntWalk.u8_in _ ?_);simp only[za,de];have:=(b.data.toList[i]'(by simpa using d)).toNat_lt;omega
theorem qc3{id:Nat}{c:TC}{l:Lz (El c)}{uy:oc}(p:Pre T E S)(hr:T.r id)(hy:VR E (.arr id) uy)(ho:S.heap.get id=iz (.arr c l)\/S.heap.get id=iz (.frz c l)):∃fl,TSrc P E c l uy fl:=by
 cases hy with
 | arr hA hh =>
 rcases ho with ho|ho
 ·obtain⟨a,q,h,x,w,v,d⟩:=p.st.objs _ hr hA _ ho;rw[hh] at h;cases h;rcases d with ⟨d,g⟩|⟨d,g,f,t,m,u,s,k,e⟩
  ·have:l=[]:=p8.1 (by omega);subst this;exact qbl (.lst0 (by omega))
  ·subst g;exact⟨_,qrm m (fun i o j n=>by rw[x6];exact k i o j n) e⟩
 ·have b:=p.st.objs _ hr hA _ ho;unfold OR at b;rw[hh] at b;exact qbl b
theorem zok{c:TC}{y:IV}{uy:oc}{l:Lz (El c)}{S':IS}{rd wr:Nat}(p:Pre T E S)(h:tsrc S c y=iz (l,S',rd,wr))(hr:tin T.r rd)(hw:tin T.w wr)(hy:VR E y uy) :
  ∃E',E'.w=E.w/\Post T E S E' S'/\Fresh E S E'/\∃fl,TSrc P E' c l uy fl:=by
 unfold tsrc at h;split at h<;>try cases h
 ·cases hy;exact⟨E,rfl,Post.refl p,Fresh.refl E S,qbl (.lst0 (by omega))⟩
 ·split at h<;>cases h;rename_i v a;obtain⟨rfl,rfl⟩:=kl a;exact⟨E,rfl,Post.refl p,Fresh.refl E S,qbl hy⟩
 ·split at h<;>try cases h
  ·rename_i D u g;split at h<;>cases h;rename_i a;obtain⟨rfl,rfl⟩:=kl a;exact⟨E,rfl,Post.refl p,Fresh.refl E S,qc3 p (zi hr) hy (.inl g)⟩
  ·rename_i D u g;split at h<;>cases h;rename_i a;obtain⟨rfl,rfl⟩:=kl a;exact⟨E,rfl,Post.refl p,Fresh.refl E S,qc3 p (zi hr) hy (.inr g)⟩
 ·rename_i A d e s n;cases hy with
  | sl cap hA g1 g2 g3 g4 g5 =>
  split at h<;>try cases h
  rename_i C g;cases k:(od s (csz c)&&og (d+e*s) C.length) with
  | false=>rw[k] at h;cases h
  | true =>
  rw[k,xa] at h;simp only[xf] at k;have F:=xg k.1;have M:=xk k.2;subst F;split at h<;>cases h;rename_i f;obtain⟨cells,t,z,J,I,x⟩:=p.st.objs A (zi hr) hA _ g;obtain⟨G,m,q1,B,a,o,H,q⟩:=qqc (tn c) e f p hw (x.drop d);subst a;refine⟨G,m,q1,B,_,qrm (t:=t) (fz:=(0,0)) (cells:=cells) (us:=o) (by rw[m];exact z) (fun i L j K=>?_) q⟩
  grind
 ·rename_i b;split at h<;>cases h;rename_i v a;obtain⟨rfl,rfl⟩:=kl a;cases hy;exact⟨E,rfl,Post.refl p,Fresh.refl E S,_,zds b⟩
theorem zo4{w:oh}{T T2 E ty:ov}{D2 E':fd}{size bytes s b2:Nat}{zero z2:oc}{a:Oq f9}{len cap:Nat}{x:oc}(hT:Ty P T (.slice E) size bytes zero)(hT2:P.underlying T2=iz D2)(hni:∀k,D2≠.int k)(hE:Ty P E E' s b2 z2)
  (hlen:∀w1:oh,(am x).run P w1=.ok 0 w1) (hfirst:(oy s 0 x).run P w=.ok #[] w) (hc:len<=cap) :
  (fb #[T,T2] ty #[.slice a len cap,x]).run P w=.ok (.slice a len cap) w:=by
 have b:(match D2 with|iq k=>i7|_=>eb)=eb:=by cases D2<;>first|rfl|exact absurd rfl (hni _)
 simp only[fb,pf,xo,px,xh,xm hT.und,xm hT2,xb,Sx.run_sizeOf hE,xd,pu,p9,hlen];simp only[g8,hc,dv,gh,xh,xb,hfirst];cases a with
 | none=>simp only[xd]
 | some a=>simp only[storeCells,xh,xd,xb]

theorem q91{E:Env}{c:TC}{lx ly:Lz (El c)}{cells cells':Array oc}{fl:Lz oc}{u:oc}(hx:ARel E c lx cells)(hs:TSrc P E c ly u fl)
  (h1:∀k,k<lx.length*csz c->cells'[k]?=cells[k]?) (h2:∀k,k<fl.length->cells'[lx.length*csz c+k]?=fl[k]?):ARel E c (lx++ly) cells':=by
 obtain⟨l,q,p⟩:=hx;obtain⟨g,o,m⟩:=hs.rel;have d:∀i j n,i<n->j<csz c->i*csz c+j<n*csz c:=fun i j n f b=>by
  have:=pw (csz c) (show i+1<=n from f)
  grind
 refine⟨fun i j=>if i<lx.length then l i j else g (i-lx.length) j,fun i f j b=>?_,fun i f j b=>?_⟩
 ·by_cases h:i<lx.length
  ·grind
  ·simp only[xr h];have a:i-lx.length<ly.length:=by simp at f;omega
   have:=o _ a j b;rw[<- h2 _ (by rw[hs.size];exact d _ j _ a b)] at this;rw[<- this];congr 1;have:i*csz c=lx.length*csz c+(i-lx.length)*csz c:=by rw[<- rb];congr 1;omega
   omega
 ·by_cases h:i<lx.length
  ·simp only[xx h];have e:(lx++ly)[i]=lx[i]:=jbe h;have:=p i h j (by rw[jr] at b ⊢;exact b);simpa [e] using this
  ·simp only[xr h];have a:i-lx.length<ly.length:=by simp at f;omega
   have e:(lx++ly)[i]=ly[i-lx.length]:=ja1 (by omega);have:=m _ a j (by rw[jr] at b ⊢;exact b);simpa [e] using this
theorem qw8(E:Env)(c:TC)(cells:Array oc):ARel E c [] cells:=⟨fun _ _=>.nilFunc,fun i a=>absurd a (by simp),fun i a=>absurd a (by simp)⟩
theorem qkn{c:TC}{l:Lz (El c)}{cells:Lz oc}{t:ov}{nc:Nat}{w':oh}(p:Pre T E S)(hw:w'.heap=E.w.heap.push (.cells cells.toArray t))(h1:w'.os=E.w.os)(h2:w'.tape=E.w.tape)(h3:w'.output=E.w.output)
  (hl:l.length<=nc) (hc:nc<9223372036854775808) (hb:l.length*bsz c<=140737488355328) (hz:nc*csz c<=cells.length) (hu8:c=.int .u8->t=u8T) (hr:ARel E c l cells.toArray) :
  ∃E',E'.w=w'/\VR E' (.arr S.next) (.slice (iz ⟨E.w.heap.size,0,i6⟩) l.length nc)/\Post T E S E' (S.new (.arr c l))/\Fresh E S E':=by
 have u:Upd [] E.w w':=⟨h1,h2,h3,by rw[hw];simp,fun b hb _=>by rw[hw,jah,xr (by omega)]⟩;have e:¬E.A S.next:=fun h=>rf _ (p.bnd _ h)
 have d:=Env.with_le (k:=cells.length) (hd:=.slice (iz ⟨E.w.heap.size,0,i6⟩) l.length nc) e u;obtain⟨a,b⟩:=Post.new p (k:=cells.length) (hd:=.slice (iz ⟨E.w.heap.size,0,i6⟩) l.length nc) (o:=.arr c l) u (by rw[hw];simp)
  ⟨_,nc,zj _ _ _,hl,hc,hb,.inr ⟨zj _ _ _,by simp[Env.with_,zj],cells.toArray,t,by simp only[Env.with_,zj,hw];simp,⟨by simpa using hz,hu8⟩,hr.mono d⟩⟩
 exact⟨_,rfl,.arr (ig rfl:E.A S.next\/S.next=S.next) (zj _ _ _),a,b⟩
theorem z0d{tr:ov}{ty ty2 e:ov}{D2 E':fd}{size bytes b2:Nat}{zero z2:oc}{id:Nat}{c:TC}{lx ly:Lz (El c)}{ux uy:oc}{fl:Lz oc}(p:Pre T E S)(hT:T.w id)(hA:E.A id)(ho:S.heap.get id=iz (.arr c lx))(hx:E.hd id=ux)
   (hty:Ty P ty (.slice e) size bytes zero) (hT2:P.underlying ty2=iz D2) (hni:∀k,D2≠.int k) (hE:Ty P e E' (csz c) b2 z2) (hz:z2.cells.size=csz c) (hb2:0<b2) (hbz:bsz c<=b2) (hu8:c=.int .u8->e=u8T) (hroom:(lx.length+ly.length)*b2<=140737488355328)
   (hs:TSrc P E c ly uy fl):Good P T E S (fb #[ty,ty2] tr #[ux,uy]) ⟨.arr S.next,(S.set id .dead).new (.arr c (lx++ly)),0,0⟩:=by
 obtain⟨a,cap,O,δ,γ,φ,y⟩:=p.st.objs id (T.sub _ hT) hA _ ho;rw[hx] at O;subst O;have f:¬E.A S.next:=fun h=>rf _ (p.bnd _ h)
 have R:(lx.length+ly.length)*csz c=lx.length*csz c+ly.length*csz c:=rb _ _ _;have m:(lx++ly).length*bsz c<=140737488355328:=by rw[xp];exact py (rt _ hbz) hroom
 have pk:=Post.kill (id:=id) p;have L:=pk.pre p
 -- growing
 have q:∀{fo:Lz oc},(∀w1:oh,w1.heap=E.w.heap->(oy (csz c) lx.length (.slice a lx.length cap)).run P w1=.ok fo.toArray w1)->fo.length=lx.length*csz c->ARel E c lx fo.toArray->¬lx.length+ly.length<=cap ->
     Good P T E S (fb #[ty,ty2] tr #[.slice a lx.length cap,uy]) ⟨.arr S.next,(S.set id .dead).new (.arr c (lx++ly)),0,0⟩:=by
   intro fo v r u d;obtain⟨nc,tl,F,D,z,Q⟩:=qqa (w:=E.w) (a:=a) (len:=lx.length) (cap:=cap) (fo:=fo) (ty:=tr) hty hT2 hni hE hz hs.len hs.first hs.size v r d hroom hb2
   have U:(fo++fl++tl).length=nc*csz c:=by
     simp only[xp,r,hs.size,z];have:nc*csz c=(lx.length+ly.length)*csz c+(nc-(lx.length+ly.length))*csz c:=by rw[<- rb];congr 1;omega
     omega
   obtain⟨υ,τ,X,σ,ξ⟩:=qkn (S:=S.set id .dead) (c:=c) (l:=lx++ly) (cells:=fo++fl++tl) (nc:=nc) (t:=e) (w':={ E.w with drawn:=E.w.drawn+1,heap:=E.w.heap.push (.cells (fo++fl++tl).toArray e) }) L rfl rfl rfl rfl (by simpa using F) D m (by omega) hu8
     (q91 u hs (fun k s=>by simp only[pf];rw[gq,pa (by omega)]) (fun k s=>by simp only[pf];rw[gq,pg (by omega),r,ph,pa s]))
   rw[xp] at X;exact⟨_,υ,by rw[τ];exact Q,X,Post.trans p pk (Fresh.refl E S) σ,⟨ξ.fr⟩⟩
 rcases y with ⟨y,C,β⟩|⟨y,C,cells,t,N,B,M⟩
 · have I:lx=[]:=p8.1 (by omega);subst I;subst C;by_cases θ:ly.length=0
   · have G:ly=[]:=p8.1 θ;subst G;have η:=zo4 (w:=E.w) (a:=a) (len:=0) (cap:=0) (ty:=tr) hty hT2 hni hE hs.len (by have:=hs.first E.w rfl;have ν:fl=[]:=p8.1 (by rw[hs.size];simp);rw[ν] at this;exact this) (xl _);obtain⟨Y,K⟩:=Post.ghost (S:=S.set id .dead) (hd:=.slice a 0 0) (o:=.arr c []) L rfl ⟨a,0,zj _ _ _,xl _,by omega,by simp,.inl ⟨zj _ _ _,rfl,β⟩⟩;exact⟨_,E.gho S.next (.slice a 0 0),η,.arr (ig rfl:E.A S.next\/S.next=S.next) (zj _ _ _),Post.trans p pk (Fresh.refl E S) Y,⟨fun j W μ=>K.fr j W μ⟩⟩
   · exact q (fo:=[]) (fun w1 _=>by
       cases a with
       | none=>rfl
       | some a=>simp only[oy,rh,jbf];rfl) (by simp) (qw8 _ _ _) (by show ¬(0+ly.length<=0);omega)
 · subst C;by_cases d:lx.length+ly.length<=cap
   · have κ:(lx.length+ly.length)*csz c<=cap*csz c:=pw _ d;obtain⟨w',F,D,z,Q⟩:=zwa (w:=E.w) (g:=E.ρ id) (o:=0) (len:=lx.length) (cap:=cap) (cells:=cells.toList) (ty:=tr) hty hT2 hni hE hs.len (hs.first _ rfl) hs.size hs.one (t:=t) (by simpa using N) d (by simp;omega);have V:Live E S.H id:=⟨y,_,ho,rfl⟩;have x:=Env.at_le p.st hT hA V z;have J:E.Le (E.moved id S.next (.slice (iz ⟨E.ρ id,0,i6⟩) (lx.length+ly.length) cap) w'):=⟨fun j h=>⟨.inl h,up_ne _ _ fun e=>f (e▸h),up_ne _ _ fun e=>f (e▸h),up_ne _ _ fun e=>f (e▸h),up_ne _ _ fun e=>f (e▸h)⟩,x.tr⟩;obtain⟨q1,α⟩:=Post.move p (hd:=.slice (iz ⟨E.ρ id,0,i6⟩) (lx.length+ly.length) cap) (o:=.arr c (lx++ly)) hT hA V z
       ⟨_,cap,by rw[xp];exact zj _ _ _,by rw[xp];exact d,γ,m,.inr ⟨zj _ _ _,by simp[Env.moved,zj],_,t,by simp only[Env.moved,zj];exact D,⟨by simp[yw,B.1],B.2⟩,
         (q91 M hs (fun k s=>by simp only[pf];rw[x6,qe9 _ _ _ _ s];simp) (fun k s=>by
           simp only[pf];rw[x6,qh2 _ _ _ _ s (by rw[hs.size];simp;omega)])).mono J⟩⟩
     exact⟨_,_,F,.arr (ig rfl:E.A S.next\/S.next=S.next) (zj _ _ _),q1,α⟩
   · have ζ:lx.length*csz c<=cells.size:=py (pw _ δ) B.1;refine q (fo:=cells.toList.take (lx.length*csz c)) (fun w1 ε=>by
       have:=qdr (P:=P) (w1:=w1) (b:=E.ρ id) (o:=0) (n:=lx.length*csz c) (cells:=cells) (by rw[ε];exact N) (by omega);simpa [oy] using this) (by simp;omega) ?_ d
     obtain⟨Z,Y,K⟩:=M;refine⟨Z,fun i ι j χ=>?_,K⟩;have W:i*csz c+j<lx.length*csz c:=by
       have:=pw (csz c) (show i+1<=lx.length from ι)
       grind
     grind

def u8ok:TC->Nat->Bool
 | .int .u8,e=>od e u8T
 | _,_=>i7
theorem q6z{c:TC}{e:Nat}(h:u8ok c e=i7):c=.int .u8->e=u8T:=fun a=>by subst a;exact xg h
def nr(tt:Nat->Oq TI)(ty ty2:Nat)(c:TC):Oq Nat :=
 match tt ty,tt ty2 with
 | some ti,iz t2=>match ti.und with
  | .slice e=>match tt e with
   | none=>i6
   | some te=>cond (ql2 t2.und&&oo 0 te.bytes&&od te.zero.cells.size te.sz&&od te.sz (csz c)&&og (bsz c) te.bytes&&u8ok c e) (iz te.bytes) i6
  | _=>i6
 | _,_=>i6
structure AppOK (P:om) (ty ty2:Nat) (c:TC) (b:Nat):Prop where
 ex:∃(e:ov) (D2 E':fd) (size bytes:Nat) (zero z2:oc),Ty P ty (.slice e) size bytes zero/\P.underlying ty2=iz D2/\(∀k,D2≠.int k)/\Ty P e E' (csz c) b z2/\z2.cells.size=csz c/\(c=.int .u8->e=u8T)
 pos:0<b
 bz:bsz c<=b
theorem q9j{ty ty2:Nat}{c:TC}{b:Nat}(htt:TT P tt)(h:nr tt ty ty2 c=iz b):AppOK P ty ty2 c b:=by
 unfold nr at h;split at h<;>try cases h
 rename_i u n g ht2;have d:=htt _ _ g;split at h<;>try cases h
 rename_i e p;rw[p] at d;split at h
 ·grind
 rename_i a i;cases f:(ql2 n.und&&oo 0 a.bytes&&od a.zero.cells.size a.sz&&od a.sz (csz c)&&og (bsz c) a.bytes&&u8ok c e) with
 | false=>rw[f] at h;cases h
 | true =>
 rw[f,xa] at h;cases h;simp only[xf] at f;obtain⟨⟨⟨⟨⟨m,t⟩,l⟩,s⟩,r⟩,q⟩:=f;have j:=htt _ _ i;rw[xg s] at j l;exact⟨⟨e,_,_,_,_,_,_,d,(htt _ _ ht2).und,(fun k o=>by rw[o] at m;cases m),j,xg l,q6z q⟩,by simpa using t,xk r⟩
theorem q9q{tr ty ty2 b:Nat}{id:Nat}{c:TC}{lx ly:Lz (El c)}{ux uy:oc}{fl:Lz oc}(hk:AppOK P ty ty2 c b)(p:Pre T E S)(hT:T.w id)(hA:E.A id)(ho:S.heap.get id=iz (.arr c lx))(hx:E.hd id=ux)
  (hroom:og ((lx.length+ly.length)*b) 140737488355328=i7) (hs:TSrc P E c ly uy fl):Good P T E S (fb #[ty,ty2] tr #[ux,uy]) ⟨.arr S.next,(S.set id .dead).new (.arr c (lx++ly)),0,0⟩:=by
 obtain⟨⟨e,q,o,d,a,zero,n,m,l,k,j,i,f⟩,h,g⟩:=hk;exact z0d p hT hA ho hx m l k j i h g f (xk hroom) hs
def cg(tt:Nat->Oq TI)(S:IS)(ty ty2 id:Nat)(y:IV):Oq Res :=
 match S.heap.get id with
 | some (.arr c _)=>match nr tt ty ty2 c with
  | none=>i6
  | some b=>match tsrc S c y with
   | none=>i6
   | some (ly,S1,rd,wr)=>match S1.heap.get id with
    | some (.arr c2 lx)=>match q3 c c2 ly with
     | none=>i6
     | some ly2=>cond (og ((lx.length+ly2.length)*b) 140737488355328) (iz ⟨.arr S1.next,(S1.set id .dead).new (.arr c2 (lx++ly2)),rd,wr ||| 2 ^ id⟩) i6
    | _=>i6
 | _=>i6
theorem q57{tr ty ty2 id:Nat}{y:IV}{ux uy:oc}{r:Res}(htt:TT P tt)(p:Pre T E S)(h:cg tt S ty ty2 id y=iz r)(hrd:tin T.r r.rd)(hwr:tin T.w r.wr)(hx:VR E (.arr id) ux)(hy:VR E y uy) :
  Good P T E S (fb #[ty,ty2] tr #[ux,uy]) r:=by
 unfold cg at h;split at h<;>try cases h
 rename_i c C D;split at h
 ·grind
 rename_i b o;split at h
 ·grind
 rename_i B K rd wr a;split at h<;>try cases h
 rename_i G l g;split at h
 ·grind
 rename_i d n;obtain⟨rfl,rfl⟩:=kl n;cases i:og ((l.length+d.length)*b) 140737488355328 with
 | false=>rw[i] at h;cases h
 | true =>
 rw[i,xa] at h;cases h;obtain⟨f,e⟩:=zp hwr;obtain⟨L,v,q1,k,F,m⟩:=zok (P:=P) p a hrd f hy;cases hx with
 | arr hA hh =>
 obtain⟨z,J,I,x,H⟩:=(q1.env p).alw id hA;obtain⟨u,A,j,t,s,q⟩:=q9q (tr:=tr) (q9j htt o) (q1.pre p) (zi e) z g (x.trans hh) i m;rw[v] at j;exact⟨u,A,j,t,Post.trans p q1 k s,k.trans q q1.le⟩
def vk(tt:Nat->Oq TI)(S:IS)(ty ty2:Nat)(c:TC)(l:Lz (El c))(rd:Nat):Oq Res :=
 match nr tt ty ty2 c with
 | none=>i6
 | some b=>cond (og ((0+l.length)*b) 140737488355328) (iz ⟨.arr (S.next+1),((S.new (.arr c [])).set S.next .dead).new (.arr c l),rd,0⟩) i6
theorem zf1{tr ty ty2 rd cap:Nat}{c:TC}{l:Lz (El c)}{a:Oq f9}{uy:oc}{fl:Lz oc}{r:Res}(htt:TT P tt)(p:Pre T E S)(h:vk tt S ty ty2 c l rd=iz r)(hs:TSrc P E c l uy fl)(hz:c=.int .u8->a=i6) :
  Good P T E S (fb #[ty,ty2] tr #[.slice a 0 0,uy]) r:=by
 unfold vk at h;split at h
 ·grind
 rename_i b y;cases g:og ((0+l.length)*b) 140737488355328 with
 | false=>rw[g] at h;cases h
 | true =>
 rw[g,xa] at h;cases h;obtain⟨d,q⟩:=Post.ghost (hd:=.slice a 0 0) (o:=.arr c []) p rfl ⟨a,0,zj _ _ _,xl _,by omega,by simp,.inl ⟨zj _ _ _,rfl,hz⟩⟩;have f:=d.env p;have e:TSrc P (E.gho S.next (.slice a 0 0)) c l uy fl:=⟨hs.size,hs.len,hs.first,by obtain⟨s,v,t⟩:=hs.rel;exact⟨s,v,fun i x j w=>(t i x j w).mono f⟩⟩;obtain⟨u,n,D,C,B,z⟩:=q9q (tr:=tr) (id:=S.next) (lx:=[]) (q9j htt y) (d.pre p) (p.nw _ (xl _)) (ig rfl:E.A S.next\/S.next=S.next) (by simp[IS.new,PT.get_set]) (zj _ _ _) g e;have m:Post T (E.gho S.next (.slice a 0 0)) (S.new (.arr c [])) n (((S.new (.arr c [])).set S.next .dead).new (.arr c l)):=B;have k:Fresh (E.gho S.next (.slice a 0 0)) (S.new (.arr c [])) n:=z;exact⟨u,n,D,C,Post.trans p d q m,q.trans k d.le⟩
def qgb:TC->Bool
 | .int .u8=>eb
 | _=>i7
def empS(c:TC):IV->Bool
 | .nilsl=>i7
 | .sl _ _ 0 _ (iz 0)=>qgb c
 | _=>eb
def coeV(S:IS)(c:TC):IV->Oq (IV × IS × Nat)
 | .nilsl=>iz (.arr S.next,S.new (.arr c []),0)
 | .arr id=>match S.heap.get id with
  | some (.arr c' _)=>cond (TC.beq c' c) (iz (.arr id,S,0)) i6
  | _=>i6
 | .sl id off len s _=>match S.heap.get id with
  | some (.row cs)=>cond (od off 0&&od s (csz c)&&og (len*s) cs.length&&og (len*bsz c) 140737488355328&&qgb c) (match vi (icl c) len S cs with
   | some (l,_,0)=>iz (.arr S.next,(S.set id .dead).new (.arr c l),2 ^ id)
   | _=>i6) i6
  | _=>i6
 | _=>i6
section
variable {E : Env} {S : IS} {T : TW}
theorem q81{c:TC}:∀(n:Nat) {S:IS} {cs:Lz IV} {l:Lz (El c)} {S':IS},vi (icl c) n S cs=iz (l,S',0)->S'=S/\l.length=n/\∀(E:Env) (us:Lz oc),VRs E cs us ->
  ∃vs:Nat->Nat->oc,(∀i,i<n->∀j,j<csz c->us[i*csz c+j]?=iz (vs i j))/\∀i (h:i<l.length) j (h':j<(cel c l[i]).length),VR E (cel c l[i])[j] (vs i j)
 | 0,S,cs,l,S',h=>by
  simp only[vi,pj,rg] at h;obtain⟨rfl,rfl,_⟩:=h;exact⟨rfl,rfl,fun E us hv=>⟨fun _ _=>.nilFunc,fun i hi=>absurd hi (by omega),fun i hi=>absurd hi (by simp)⟩⟩
 | n+1,S,cs,l,S',h=>by
  simp only[vi] at h;split at h
  ·grind
  rename_i x r S1 w1 h1;split at h
  ·grind
  rename_i l2 S2 w2 h2;simp only[pj,rg] at h;obtain⟨rfl,rfl,hw⟩:=h;obtain⟨rfl,rfl⟩:=or_zero hw;obtain⟨rfl,k1⟩:=qv7 c h1;obtain⟨rfl,hl,k2⟩:=q81 n h2;refine⟨rfl,by simp[hl],fun E us hv=>?_⟩;obtain⟨us1,us2,rfl,v1,v2⟩:=k1 E us hv;obtain⟨vs,k3,k4⟩:=k2 E us2 v2;have hlen:us1.length=csz c:=by rw[<- v1.1,jr]
  refine⟨fun i j=>match i with|0=>us1.getD j .nilFunc|i+1=>vs i j,fun i hi j hj=>?_,fun i hi j hj=>?_⟩
  ·cases i with
   | zero=>simp only[jbf,x6];rw[pa (by omega)];simp [xc (show j<us1.length by omega),xn]
   | succ i =>
    grind
  ·cases i with
   | zero =>
    have hj':j<us1.length:=by rw[<- v1.1];exact hj
    have:=v1.2 j hj hj'
    grind
   | succ i=>exact k4 i (by simpa using hi) j hj
theorem qb8{c:TC}{v v':IV}{S':IS}{w:Nat}{u:oc}(p:Pre T E S)(h:coeV S c v=iz (v',S',w))(hw:tin T.w w)(hv:VR E v u) :
  ∃E',E'.w=E.w/\Post T E S E' S'/\Fresh E S E'/\VR E' v' u:=by
 unfold coeV at h;split at h<;>try cases h
 ·cases hv;obtain⟨Z,Y⟩:=Post.ghost (hd:=.slice i6 0 0) (o:=.arr c []) p rfl ⟨i6,0,zj _ _ _,xl _,by omega,by simp,.inl ⟨zj _ _ _,rfl,fun _=>rfl⟩⟩;exact⟨E.gho S.next (.slice i6 0 0),rfl,Z,Y,.arr (ig rfl:E.A S.next\/S.next=S.next) (zj _ _ _)⟩
 ·split at h<;>try cases h
  rename_i W l q;cases f:TC.beq W c<;>rw[f] at h<;>cases h;exact⟨E,rfl,Post.refl p,Fresh.refl E S,hv⟩
 ·rename_i a r b s G;split at h<;>try cases h
  rename_i V q;cases f:(od r 0&&od s (csz c)&&og (b*s) V.length&&og (b*bsz c) 140737488355328&&qgb c) with
  | false=>rw[f] at h;cases h
  | true =>
  rw[f,xa] at h;simp only[xf] at f;obtain⟨⟨⟨⟨F,D⟩,I⟩,C⟩,X⟩:=f;have F:=xg F;have D:=xg D;have I:=xk I;have C:=xk C;subst F;subst D;split at h<;>cases h;rename_i l m n;obtain⟨rfl,R,g⟩:=q81 b n;cases hv with
  | sl cap hA h1 h2 h3 h4 h5 =>
  have B:=zi hw;obtain⟨k,t,Q,P,α,O⟩:=p.st.objs a (T.sub _ B) hA _ q;obtain⟨J,L,K⟩:=g E _ O;have f:=p.st.blk a (T.sub _ B) hA _ q rfl;have d:¬E.A m.next:=fun h=>rf _ (p.bnd _ h)
  have M:Upd [E.ρ a] E.w E.w:=Upd.refl _ _;have U:Live E m.H a:=⟨f,_,q,rfl⟩;have x:E.Le (E.moved a m.next (.slice (iz ⟨E.ρ a,0,i6⟩) b cap) E.w):=⟨fun j h=>⟨.inl h,up_ne _ _ fun e=>d (e▸h),up_ne _ _ fun e=>d (e▸h),up_ne _ _ fun e=>d (e▸h),up_ne _ _ fun e=>d (e▸h)⟩,Tr.refl _ _⟩;subst R;obtain⟨q1,N⟩:=Post.move p (hd:=.slice (iz ⟨E.ρ a,0,i6⟩) l.length cap) (o:=.arr c l) B hA U M
   ⟨iz ⟨E.ρ a,0,i6⟩,cap,zj _ _ _,h1,h2,C,.inr ⟨zj _ _ _,by simp[Env.moved,zj],k,t,by simp only[Env.moved,zj];exact Q,⟨by rw[P];omega,fun e=>by subst e;cases X⟩,
    J,(fun i z j y=>by
     have:=L i z j y;rw[gb] at this;split at this
     ·simpa using this
     ·cases this),fun i z j y=>(K i z j y).mono x⟩⟩
  exact⟨E.moved a m.next (.slice (iz ⟨E.ρ a,0,i6⟩) l.length cap) E.w,rfl,q1,N,.arr (ig rfl:E.A m.next\/m.next=m.next) (zj _ _ _)⟩
end
def ng(tt:Nat->Oq TI)(S:IS)(ty ty2:Nat)(c:TC)(x y:IV):Oq Res :=
 match coeV S c x with
 | some (.arr id,S1,w)=>match cg tt S1 ty ty2 id y with
  | some r=>iz ⟨r.v,r.S,r.rd,w ||| r.wr % 2 ^ S.next⟩
  | none=>i6
 | _=>i6
theorem zq9{tr ty ty2:Nat}{c:TC}{x y:IV}{ux uy:oc}{r:Res}(htt:TT P tt)(p:Pre T E S)(h:ng tt S ty ty2 c x y=iz r)(hrd:tin T.r r.rd)(hwr:tin T.w r.wr)(hx:VR E x ux)(hy:VR E y uy) :
  Good P T E S (fb #[ty,ty2] tr #[ux,uy]) r:=by
 unfold ng at h;split at h<;>try cases h
 rename_i b z w n;split at h<;>cases h;rename_i f m;obtain⟨s,q⟩:=zp hwr;obtain⟨A,t,q1,d,e⟩:=qb8 p n s hx;have o:tin T.w f.wr:=fun b l=>by
  by_cases a:b<S.next
  ·exact q b (by rw[jaj,l];simpa using a)
  ·exact p.nw b (jac a)
 obtain⟨u,v,k,j,i,g⟩:=q57 (tr:=tr) htt (q1.pre p) m hrd o e (hy.mono (q1.env p));exact⟨u,v,by rw[<- t];exact k,j,Post.trans p q1 d i,d.trans g q1.le⟩
def iapp(tt:Nat->Oq TI)(S:IS)(ty ty2:Nat)(x y:IV):Oq Res :=
 match x with
 | .arr id=>cg tt S ty ty2 id y
 | x=>match y with
  | .lst c l=>cond (empS c x) (vk tt S ty ty2 c l 0) (ng tt S ty ty2 c x (.lst c l))
  | .arr id=>match S.heap.get id with
   | some (.arr c l)=>cond (empS c x) (vk tt S ty ty2 c l (2 ^ id)) i6
   | some (.frz c l)=>cond (empS c x) (vk tt S ty ty2 c l (2 ^ id)) i6
   | _=>i6
  | y=>qc9 tt S ty ty2 x y
theorem zm3{c:TC}{x:IV}{u:oc}(h:empS c x=i7)(hx:VR E x u):∃a,u=.slice a 0 0/\(c=.int .u8->a=i6):=by
 unfold empS at h;split at h
 ·cases hx;exact⟨_,rfl,fun _=>rfl⟩
 ·cases hx with
  | sl cap hA h1 h2 h3 h4 h5=>rw[h4 _ rfl];exact⟨_,rfl,fun e=>by subst e;cases h⟩
 ·grind
theorem zl5{tr ty ty2:Nat}{x y:IV}{ux uy:oc}{r:Res}(htt:TT P tt)(p:Pre T E S)(h:iapp tt S ty ty2 x y=iz r)(hrd:tin T.r r.rd)(hwr:tin T.w r.wr)(hx:VR E x ux)(hy:VR E y uy) :
  Good P T E S (fb #[ty,ty2] tr #[ux,uy]) r:=by
 have g:∀{c:TC} {l:Lz (El c)} {rd:Nat},cond (empS c x) (vk tt S ty ty2 c l rd) i6=iz r->(tin T.r rd->∃i,TSrc P E c l uy i)->Good P T E S (fb #[ty,ty2] tr #[ux,uy]) r:=by
  intro c l rd h e;cases b:empS c x with
  | false=>rw[b] at h;cases h
  | true =>
   rw[b,xa] at h;obtain⟨a,rfl,j⟩:=zm3 b hx;have d:r.rd=rd:=by
    unfold vk at h
    grind
   obtain⟨i,e⟩:=e (by rw[<- d];exact hrd);exact zf1 (cap:=0) htt p h e j
 unfold iapp at h;split at h
 ·exact q57 htt p h hrd hwr hx hy
 ·split at h
  ·rename_i c l;cases b:empS c x with
   | true=>exact g (by rw[b] at h ⊢;exact h) fun _=>qbl hy
   | false=>rw[b] at h;exact zq9 htt p h hrd hwr hx hy
  ·rename_i k;split at h
   ·rename_i c l f;exact g h fun d=>qc3 p (zi d) hy (.inl f)
   ·rename_i c l f;exact g h fun d=>qc3 p (zi d) hy (.inr f)
   ·grind
  ·exact zm2 htt p h hrd hwr hx hy
end
end Go.Jx
end

noncomputable section
namespace Go.Jx
open Go Go.Sx Go.RowKit
universe u
section
variable {P : om} {tt : Nat -> Oq TI} {T : TW} {E : Env} {S : IS}

def ilen(tt:Nat->Oq TI)(S:IS)(ty:Nat):IV->Oq Res
 | .sl id off len s c=>match tt ty with
  | some ti=>match ti.und with
   | .slice _=>iz ⟨.int .i64 len,S,0,0⟩
   | _=>i6
  | none=>i6
 | .map id=>match tt ty with
  | some ti=>match ti.und with
   | .map _ _=>match S.heap.get id with
    | some (.map es)=>cond (oo es.length 9223372036854775808) (iz ⟨.int .i64 es.length,S,2 ^ id,0⟩) i6
    | some (.tmap _ _ es)=>cond (oo es.length 9223372036854775808) (iz ⟨.int .i64 es.length,S,2 ^ id,0⟩) i6
    | _=>i6
   | _=>i6
  | none=>i6
 | .lst _ l=>match tt ty with
  | some ti=>match ti.und with
   | .slice _=>iz ⟨.int .i64 l.length,S,0,0⟩
   | _=>i6
  | none=>i6
 | .arr id=>match tt ty with
  | some ti=>match ti.und with
   | .slice _=>match S.heap.get id with
    | some (.arr _ l)=>iz ⟨.int .i64 l.length,S,2 ^ id,0⟩
    | some (.frz _ l)=>iz ⟨.int .i64 l.length,S,2 ^ id,0⟩
    | _=>i6
   | _=>i6
  | none=>i6
 | .str s=>match tt ty with
  | some ti=>match ti.und with
   | .string=>iz ⟨.int .i64 s.size,S,0,0⟩
   | _=>i6
  | none=>i6
 | _=>i6
theorem zp3{ty tr:Nat}{x:IV}{ux:oc}{r:Res}(htt:TT P tt)(p:Pre T E S)(h:ilen tt S ty x=iz r)(hr:tin T.r r.rd)(hx:VR E x ux):Good P T E S (ah #[ty] tr #[ux]) r:=by
 have D:∀{ti:TI} {e:ov} {a:Oq f9} {n cap:Nat} {rd:Nat},tt ty=iz ti->ti.und=.slice e->n<=cap->cap<9223372036854775808->ux=.slice a n cap->Good P T E S (ah #[ty] tr #[ux]) ⟨.int .i64 n,S,rd,0⟩:=by
  intro ti e a n cap rd f q m j A;subst A;have b:=(htt _ _ f).und;rw[q] at b;exact Good.same p (by simp only[ah,xh,xd,xb,pf,xo,xm b,goInt]) (.int _ _ (jbu _ ⟨by omega,by omega⟩))
 have B:∀{c:TC} {l:Lz (El c)} {u:oc},VR E (.lst c l) u->∃a cap,u=.slice a l.length cap/\l.length<=cap/\cap<9223372036854775808:=by
  intro c l u h;cases h with
  | lst0 h=>exact⟨_,_,rfl,pm _,h⟩
  | lst us m j z g hh hc A=>exact⟨_,_,rfl,m,j⟩
 unfold ilen at h;split at h<;>try cases h
 ·cases hx with
  | sl cap hA m j z h4 h5 =>
  grind
 ·rename_i t;cases hx with
  | map hA =>
  split at h<;>try cases h
  rename_i ti f;split at h<;>try cases h
  rename_i k e q;have b:=(htt _ _ f).und;rw[q] at b;split at h<;>try cases h
  ·rename_i o i;cases g:oo o.length 9223372036854775808 with
   | false=>rw[g] at h;cases h
   | true =>
   rw[g,xa] at h;cases h;have g:o.length<9223372036854775808:=by simpa using g
   obtain⟨d,c,m,j,z,v⟩:=p.st.objs t (zi hr) hA _ i;have y:d.size=o.length:=by have:=j.1;simpa using this.symm
   refine Good.same p (u:=.int .i64 d.size) ?_ (by rw[y];exact .int _ _ (jbu _ ⟨by omega,by omega⟩));simp only[ah,xh,xd,xb,pf,xo,xm b,sq m,goInt]
  ·rename_i G F o i;cases g:oo o.length 9223372036854775808 with
   | false=>rw[g] at h;cases h
   | true =>
   rw[g,xa] at h;cases h;have g:o.length<9223372036854775808:=by simpa using g
   obtain⟨d,c,m,j,z,v⟩:=p.st.objs t (zi hr) hA _ i;have y:d.size=o.length:=by have:=j.1;simpa [tmEs] using this.symm
   refine Good.same p (u:=.int .i64 d.size) ?_ (by rw[y];exact .int _ _ (jbu _ ⟨by omega,by omega⟩));simp only[ah,xh,xd,xb,pf,xo,xm b,sq m,goInt]
 ·grind
 ·rename_i t;split at h<;>try cases h
  rename_i ti f;split at h<;>try cases h
  rename_i e q;cases hx with
  | arr hA hh =>
  split at h<;>cases h
  ·rename_i c l w;obtain⟨a,cap,L,K,J,I,H⟩:=p.st.objs _ (zi hr) hA _ w
   grind
  ·rename_i c l w;have C:=p.st.objs _ (zi hr) hA _ w;unfold OR at C
   grind
 ·rename_i s;cases hx with
  | str _ hs =>
  split at h<;>try cases h
  rename_i ti f;split at h<;>cases h;rename_i q;have b:=(htt _ _ f).und;rw[q] at b;exact Good.same p (by simp only[ah,xh,xd,xb,pf,xo,xm b,goInt]) (.int _ _ (jbu _ ⟨by omega,by omega⟩))

def qdh:Lz IV->Oq (Lz UInt8)
 | []=>iz []
 | .int .u8 n::l=>match qdh l with
  | some r=>iz (mm n.toNat::r)
  | none=>i6
 | _=>i6
theorem qyc:∀{l:Lz IV} {bs:Lz UInt8} {us:Lz oc},qdh l=iz bs->VRs E l us->∃ns:Lz Int,us=ns.map (mq .u8)/\ns.map (fun n=>mm n.toNat)=bs
 | [],bs,us,h,hx=>by
  have:=hx.1;cases us<;>simp at this;simp[qdh] at h;subst h;exact⟨[],rfl,rfl⟩
 | x::l,bs,us,h,hx=>by
  obtain⟨u,us,rfl,h1,h2⟩:=hx.inv;unfold qdh at h;split at h
  ·grind
  ·rename_i n l' he;cases he;split at h<;>cases h;rename_i r hr;cases h1;obtain⟨ns,rfl,k⟩:=qyc hr h2;exact⟨n::ns,rfl,by simp[k]⟩
  ·grind
theorem zar(ns:Lz Int):∀(s:Bq),ns.foldl (fun r n=>r.push (mm n.toNat)) s=⟨⟨s.data.toList++ns.map (fun n=>mm n.toNat)⟩⟩:=by
 induction ns with
 | nil=>intro s;simp
 | cons n ns ih =>
  intro s;rw[List.foldl_cons,ih];simp[ByteArray.push]
def zq(l:Lz Int):Bq:=⟨⟨l.map fun n=>mm n.toNat⟩⟩
def istr(tt:Nat->Oq TI)(S:IS)(src dst:Nat):IV->Oq Res
 | .sl id off len s c=>match tt src,tt dst with
  | some ts,iz td=>match ts.und,td.und with
   | .slice e,.string=>match tt e with
    | some te=>match te.und with
     | .int .u8=>match S.heap.get id with
      | some (.row cs)=>cond (od te.sz 1&&og (off+len) cs.length) (match qdh ((cs.drop off).take len) with
        | some bs=>iz ⟨.str ⟨⟨bs⟩⟩,S,2 ^ id,0⟩
        | none=>i6) i6
      | _=>i6
     | _=>i6
    | none=>i6
   | _,_=>i6
  | _,_=>i6
 | .lst c l=>match tt src,tt dst with
  | some ts,iz td=>match ts.und,td.und with
   | .slice e,.string=>match tt e with
    | some te=>match te.und with
     | .int .u8=>match q3 c (.int .u8) l with
      | some l=>iz ⟨.str (zq l),S,0,0⟩
      | _=>i6
     | _=>i6
    | none=>i6
   | _,_=>i6
  | _,_=>i6
 | .arr id=>match tt src,tt dst with
  | some ts,iz td=>match ts.und,td.und with
   | .slice e,.string=>match tt e with
    | some te=>match te.und with
     | .int .u8=>match S.heap.get id with
      | some (.arr c l)=>match q3 c (.int .u8) l with
       | some l=>iz ⟨.str (zq l),S,2 ^ id,0⟩
       | _=>i6
      | some (.frz c l)=>match q3 c (.int .u8) l with
       | some l=>iz ⟨.str (zq l),S,2 ^ id,0⟩
       | _=>i6
      | _=>i6
     | _=>i6
    | none=>i6
   | _,_=>i6
  | _,_=>i6
 | _=>i6
theorem qms(l:Lz Int):(zq l).size=l.length:=by simp[zq,m9]
theorem qoe{src dst e:Nat}{ts td te:TI}{l:Lz Int}{ux:oc}{fl:Lz oc}{rd:Nat}(htt:TT P tt)(p:Pre T E S)(h1:tt src=iz ts)(h2:tt dst=iz td)(h3:tt e=iz te)(k1:ts.und=.slice e)(k2:td.und=.string)(k3:te.und=.int .u8)
  (hs:TSrc P E (.int .u8) l ux fl) (hu:∃a cap,ux=.slice a l.length cap/\l.length<=cap/\cap<9223372036854775808):Good P T E S (convert src dst ux) ⟨.str (zq l),S,rd,0⟩:=by
 obtain⟨a,cap,rfl,s,r⟩:=hu;have h:=(htt _ _ h1).und;rw[k1] at h;have g:=(htt _ _ h2).und;rw[k2] at g;have f:=(htt _ _ h3).und;rw[k3] at f;have d:=hs.first E.w rfl
 have c:fl=l.map (mq .u8):=by
  obtain⟨m,q,o⟩:=hs.rel;apply d9;intro i;by_cases b:i<l.length
  ·have v:=q i b 0 (by simp[csz]);simp only[csz,Nat.mul_one,g8] at v;have t:=o i b 0 (by simp[cel]);have n:VR E (.int .u8 (l[i]'b)) (m i 0):=t;cases k:m i 0<;>rw[k] at n<;>cases n
   grind
  ·rw[p6 (by rw[hs.size];simp [csz];exact jac b),p6 (by simp;exact jac b)]
 refine Good.same p (u:=.string (zq l)) ?_ (.str _ (by rw[qms];omega));cases a with
 | some a =>
  simp only[oy,csz,Nat.mul_one,c] at d;rw[jbg _ _ _ _ _ _ _ h f g,run_bytesToString E.w a l.length cap l d,zar];rfl
 | none =>
  have j:l=[]:=by
   simp only[oy,xd,c] at d;cases l with
   | nil=>rfl
   | cons x l=>exact absurd d (by simp)
  subst j;rw[jbg _ _ _ _ _ _ _ h f g];rfl
theorem qwe{src dst:Nat}{x:IV}{ux:oc}{r:Res}(htt:TT P tt)(p:Pre T E S)(h:istr tt S src dst x=iz r)(hr:tin T.r r.rd)(hx:VR E x ux):Good P T E S (convert src dst ux) r:=by
 have m:∀{c:TC} {l:Lz (El c)} {u:oc},VR E (.lst c l) u->∃a j,u=.slice a l.length j/\l.length<=j/\j<9223372036854775808:=by
  intro c l u h;cases h with
  | lst0 h=>exact⟨_,_,rfl,pm _,h⟩
  | lst us h1 h2 h3 C hh hc q=>exact⟨_,_,rfl,h1,h2⟩
 unfold istr at h;split at h<;>try cases h
 rotate_left
 ·split at h<;>try cases h
  rename_i N O f i;split at h<;>try cases h
  rename_i e v y;split at h<;>try cases h
  rename_i D g;split at h<;>try cases h
  rename_i q;split at h<;>cases h;rename_i l B;obtain⟨rfl,rfl⟩:=kl B;obtain⟨V,z⟩:=qbl (P:=P) hx;exact qoe htt p f i g v y q z (m hx)
 ·rename_i U;split at h<;>try cases h
  rename_i N O f i;split at h<;>try cases h
  rename_i e v y;split at h<;>try cases h
  rename_i D g;split at h<;>try cases h
  rename_i q;split at h<;>try cases h
  ·rename_i c l A;split at h<;>cases h;rename_i l B;obtain⟨rfl,rfl⟩:=kl B;obtain⟨V,z⟩:=qc3 (P:=P) p (zi hr) hx (.inl A);refine qoe htt p f i g v y q z ?_;cases hx with
   | arr hA hh =>
   obtain⟨a,j,R,Z,Y,ζ,ε⟩:=p.st.objs _ (zi hr) hA _ A;rw[hh] at R;cases R;exact⟨_,_,rfl,Z,Y⟩
  ·rename_i c l A;split at h<;>cases h;rename_i l B;obtain⟨rfl,rfl⟩:=kl B;obtain⟨V,z⟩:=qc3 (P:=P) p (zi hr) hx (.inr A);refine qoe htt p f i g v y q z ?_;cases hx with
   | arr hA hh =>
   have F:=p.st.objs _ (zi hr) hA _ A;unfold OR at F;rw[hh] at F;exact m F
 rename_i U d b s c;cases hx with
 | sl j hA h1 h2 h3 h4 h5 =>
 split at h<;>try cases h
 rename_i N O f i;split at h<;>try cases h
 rename_i e v y;split at h<;>try cases h
 rename_i D g;split at h<;>try cases h
 rename_i q;split at h<;>try cases h
 rename_i J G;cases C:(od D.sz 1&&og (d+b) J.length) with
 | false=>rw[C] at h;cases h
 | true =>
 rw[C,xa] at h;split at h<;>cases h;rename_i bs H;simp only[xf] at C;have κ:=xk C.2;obtain⟨k,t,γ,ι,θ,β⟩:=bf p (zi hr) hA G;have δ:ao b (iv d (ao J.length k.toList))=ao b (iv d k.toList):=by
  apply d9
  grind
 have I:=(β.drop d).take b;rw[δ] at I;obtain⟨W,X,Q⟩:=qyc H I;have M:=(htt _ _ f).und;rw[v] at M;have L:=(htt _ _ i).und;rw[y] at L;have K:=(htt _ _ g).und;rw[q] at K;have η:(ao b (iv d J)).length=b:=by simp;omega
 have α:bs.length=b:=by rw[<- Q,gt];have:=I.1;rw[X,gt] at this;omega
 refine Good.same p (u:=.string ⟨⟨bs⟩⟩) ?_ (.str _ (by simp[m9];omega));rw[jbg _ _ _ _ _ _ _ M K L,run_bytesToString E.w ⟨E.ρ U,d,i6⟩ b j W]
 ·rw[zar,Q];rfl
 ·have:=qdr (P:=P) (o:=d) (n:=b) γ (by omega)
  grind

def yf:IV->IV->Oq Bool
 | .int k a,.int k' b=>cond (decide (k=k')) (iz (decide (a=b))) i6
 | .str a,.str b=>iz (decide (a=b))
 | .bool a,.bool b=>iz (decide (a=b))
 | _,_=>i6
def uj(k:IV):Lz (IV × IV)->Oq (Oq IV)
 | []=>iz i6
 | e::es=>match yf k e.1 with
  | some i7=>iz (iz e.2)
  | some eb=>uj k es
  | none=>i6
def jw:fd->IV->Bool
 | .int _,.int _ _=>i7
 | .string,.str _=>i7
 | .bool,.bool _=>i7
 | _,_=>eb
theorem q03(a b:Bq):(a==b)=decide (a=b):=by
 cases a with|mk x =>
 cases b with|mk y =>
 show (x==y)=_
 grind
theorem qct{D:fd}{k k':IV}{u u':oc}{b:Bool}(hd:jw D k=i7)(h:yf k k'=iz b)(hk:VR E k u)(hk':VR E k' u'):Instr.sameNow D u u'=iz b:=by
 unfold yf at h;split at h<;>try cases h
 ·rename_i e a d b;cases hk;cases hk';cases D<;>try cases hd
  cases c:decide (e=d) with
  | false=>rw[c] at h;cases h
  | true =>
   rw[c,xa] at h;cases h;have:=xu c;subst this;simp[Instr.sameNow];rfl
 ·cases hk;cases hk';cases D<;>try cases hd
  simp only[Instr.sameNow,q03]
 ·cases hk;cases hk';cases D<;>try cases hd
  simp only[Instr.sameNow]
  grind
theorem qie{D:fd}{k:IV}{u:oc}(hd:jw D k=i7)(hk:VR E k u):∀{es:Lz (IV × IV)} {ents:Lz mt} {r:Oq IV} (i:Nat),uj k es=iz r->VRs E (es.map (·.1)) (ents.map (·.key))->VRs E (es.map (·.2)) (ents.map (·.val)) ->
  ∃q:Oq (Nat × oc),a8 D u ents i=iz q/\(match r,q with|none,i6=>True|some v,iz (_,uv)=>VR E v uv|_,_=>False)
 | [],ents,r,i,h,h1,h2=>by
  simp only[uj,pj] at h;subst h;have:=h1.1;cases ents<;>simp at this;exact⟨i6,rfl,trivial⟩
 | e::es,ents,r,i,h,h1,h2=>by
  cases ents with
  | nil=>have:=h1.1;simp at this
  | cons x ents =>
  obtain⟨_,_,q1,k1,k2⟩:=h1.inv;obtain⟨_,_,q2,v1,v2⟩:=h2.inv;simp only[ga,ry] at q1 q2;obtain⟨rfl,rfl⟩:=q1;obtain⟨rfl,rfl⟩:=q2;unfold uj at h;unfold a8;split at h
  ·rename_i hs;cases h;rw[qct hd hs hk k1]
   grind
  ·rename_i hs;rw[qct hd hs hk k1];exact qie hd hk (i+1) h k2 v2
  ·grind
theorem nl{w:oh}{e:Bool}{K:ov}{D:fd}{k:IV}{u:oc}(hK:P.underlying K=iz D)(hd:jw D k=i7)(hk:VR E k u):(Instr.checkKey e 10000 K u).run P w=.ok () w:=by
 have h:∀m,(Instr.checkKey e (m+1) K u).run P w=.ok () w:=fun m=>by
  cases D<;>(try cases hd)<;>cases k<;>(try cases hd)<;>cases hk<;>simp only[Instr.checkKey,xh,xm hK,xb,xd]
 grind
def yi:TC->Bool
 | .int _=>i7
 | .str=>i7
 | .bool=>i7
 | _=>eb
def keqI(a b:Int):Bool:=decide (a=b)
def keqS(a b:Bq):Bool:=decide (a=b)
def keqB(a b:Bool):Bool:=decide (a=b)
def keq:(c:TC)->El c->El c->Bool
 | .int _,a,b=>keqI a b
 | .str,a,b=>keqS a b
 | .bool,a,b=>keqB a b
 | _,_,_=>eb
def tz(kc:TC){vc:TC}(k:El kc):Lz (El kc × El vc)->Oq (El vc)
 | []=>i6
 | e::es=>cond (keq kc k e.1) (iz e.2) (tz kc k es)
def mset(kc:TC){vc:TC}(k:El kc)(v:El vc):Lz (El kc × El vc)->Lz (El kc × El vc)
 | []=>[(k,v)]
 | e::es=>cond (keq kc k e.1) ((k,v)::es) (e::mset kc k v es)
def zEl:(c:TC)->El c
 | .int _=>(0:Int)
 | .bool=>eb
 | .str=>ByteArray.empty
 | .list _=>[]
 | .rl _=>[]
 | .two a b=>(zEl a,zEl b)
def zOK:TC->oc->Bool
 | .int k,.int k' n=>kbeq k k'&&decide (n=0)
 | .bool,.bool b=>!b
 | .str,.string s=>od s.size 0
 | .list _,.slice i6 0 0=>i7
 | .rl _,.slice i6 0 0=>i7
 | _,_=>eb
theorem qvy{kc:TC}(h:yi kc=i7)(a b:El kc):yf (asIV kc a) (asIV kc b)=iz (keq kc a b):=by
 cases kc<;>first|(cases h;done)|rfl|skip
 simp only[asIV,yf,decide_true,xa];rfl
theorem q4x{kc vc:TC}(h:yi kc=i7)(k:El kc):∀es:Lz (El kc × El vc),uj (asIV kc k) (tmEs kc vc es)=iz ((tz kc k es).map (asIV vc))
 | []=>rfl
 | e::es=>by
  have:=q4x h k es;simp only[tmEs,ga,uj,qvy h,tz] at this ⊢
  grind
theorem q0w{E:Env}{c:TC}{z:oc}(h:zOK c z=i7):VR E (asIV c (zEl c)) z:=by
 unfold zOK at h;split at h<;>try cases h
 ·rename_i k d n;simp only[xf] at h;rw[<- c9 h.1,xu h.2];exact .int k 0 (by cases k<;>rfl)
 ·rename_i b;have:b=eb:=by cases b<;>simp_all
  subst this;exact .bool eb
 ·rename_i s;have a:=xg h;have:s=ByteArray.empty:=by
   obtain⟨⟨l⟩⟩:=s;simp[m9] at a;subst a;rfl
  subst this;exact .str _ (by decide)
 ·exact .lst0 (by omega)
 ·exact .lst0 (by omega)
theorem qbv{E:Env}{c:TC}{S S':IS}{k:IV}{u:oc}{x:El c}(h:icl c S [k]=iz (x,[],S',0))(hk:VR E k u)(hc:∀a b,c≠.two a b):VR E (asIV c x) u:=by
 obtain⟨_,l⟩:=qv7 c h;obtain⟨j,f,e,i,g⟩:=l E [u] (VRs.cons hk VRs.nil);have:f=[]:=by have:=g.1;simpa using this.symm
 subst this;simp only[gz] at e;subst e;have d:=i.2 0;cases c with
 | two a b=>exact absurd rfl (hc a b)
 | int k=>exact d (by simp[cel]) (by simp)
 | bool=>exact d (by simp[cel]) (by simp)
 | str=>exact d (by simp[cel]) (by simp)
 | list c=>exact d (by simp[cel]) (by simp)
 | rl k=>exact d (by simp[cel]) (by simp)
theorem qsy{D:fd}{kc:TC}{k:IV}{S S2:IS}{kx:El kc}(hb:yi kc=i7)(hkx:icl kc S [k]=iz (kx,[],S2,0))(hd:jw D k=i7):jw D (asIV kc kx)=i7:=by
 cases kc<;>first|(cases hb;done)|skip
 all_goals
  cases k<;>first|(cases hkx;done)|skip
  cases D<;>first|(cases hd;done)|rfl
def cr(tt:Nat->Oq TI)(S:IS)(ty:Nat)(x k:IV)(ok:Bool):Oq Res :=
 match tt ty with
 | some ti=>match ti.und with
  | .map K V=>match tt K,tt V with
   | some tk,iz tv=>cond (jw tk.und k) (match x with
    | .map id=>match S.heap.get id with
     | some (.map es)=>match uj k es with
      | some (iz v)=>iz ⟨cond ok (.tup [v,.bool i7]) v,S,2 ^ id,0⟩
      | some i6=>match ofV tv.zero with
       | some z=>iz ⟨cond ok (.tup [z,.bool eb]) z,S,2 ^ id,0⟩
       | none=>i6
      | none=>i6
     | some (.tmap kc vc es)=>match icl kc S [k] with
      | some (kx,[],_,0)=>cond (yi kc&&zOK vc tv.zero) (iz ⟨cond ok (.tup [asIV vc ((tz kc kx es).getD (zEl vc)),.bool (tz kc kx es).isSome]) (asIV vc ((tz kc kx es).getD (zEl vc))),S,2 ^ id,0⟩) i6
      | _=>i6
     | _=>i6
    | _=>i6) i6
   | _,_=>i6
  | _=>i6
 | none=>i6
theorem zuo{ty:Nat}{x k:IV}{ux uk:oc}{ok:Bool}{r:Res}(htt:TT P tt)(p:Pre T E S)(h:cr tt S ty x k ok=iz r)(hr:tin T.r r.rd)(hx:VR E x ux)(hk:VR E k uk):Good P T E S (ir ty ux uk ok) r:=by
 unfold cr at h;split at h<;>try cases h
 rename_i W J;split at h<;>try cases h
 rename_i K V L;have i:=(htt _ _ J).und;rw[L] at i;split at h<;>try cases h
 rename_i R tv f A;cases o:jw R.und k with
 | false=>rw[o] at h;cases h
 | true =>
 rw[o,xa] at h;split at h<;>try cases h
 rename_i H;cases hx with
 | map hA =>
 split at h<;>try cases h
 rotate_left
 ·rename_i O Q M l;split at h<;>try cases h
  rename_i N X D;cases s:(yi O&&zOK Q tv.zero) with
  | false=>rw[s] at h;cases h
  | true =>
  rw[s,xa] at h;cases h;simp only[xf] at s;have m:=qbv D hk (fun a b e=>by subst e;cases s.1);have n:=qsy s.1 D o;obtain⟨d,c,y,G,F,B⟩:=p.st.objs H (zi hr) hA _ l;obtain⟨q,q1,j⟩:=qie n m 0 (q4x s.1 N M) G F;have C:∀{v:IV} {u:oc} (b:Bool),VR E v u->VR E (cond ok (.tup [v,.bool b]) v) (if ok then .tuple #[u,.bool b] else u):=fun b I=>by
   cases ok
   ·grind
   ·have:=VRs.cons I (VRs.cons (.bool b) VRs.nil);exact .tup this.1 this.2
  cases t:tz O N M with
  | some v =>
   rw[t] at j;cases q with
   | none=>exact j.elim
   | some q =>
   refine Good.same p (u:=if ok then .tuple #[q.2,.bool i7] else q.2) ?_ (C i7 j);have g:(fx K uk d.toList).run P E.w=.ok (iz q) E.w:=by simp only[fx,xh,xm (htt _ _ f).und,xb,q1,xd]
   simp only[ir,xh,xm i,xb,sq y,xd,nl (htt _ _ f).und n m,g]
  | none =>
   rw[t] at j;cases q with
   | some q=>exact j.elim
   | none =>
   refine Good.same p (u:=if ok then .tuple #[tv.zero,.bool eb] else tv.zero) ?_ (C eb (q0w s.2));have g:(fx K uk d.toList).run P E.w=.ok i6 E.w:=by simp only[fx,xh,xm (htt _ _ f).und,xb,q1,xd]
   simp only[ir,xh,xm i,xb,sq y,xd,nl (htt _ _ f).und n m,g,Sx.run_zeroValue (htt _ _ A)]
 rename_i M l;have C:∀{v:IV} {u:oc} (b:Bool),VR E v u->VR E (cond ok (.tup [v,.bool b]) v) (if ok then .tuple #[u,.bool b] else u):=fun b I=>by
  cases ok
  ·grind
  ·have:=VRs.cons I (VRs.cons (.bool b) VRs.nil);exact .tup this.1 this.2
 split at h
 ·rename_i v t;cases h;obtain⟨d,c,y,G,F,B⟩:=p.st.objs H (zi hr) hA _ l;obtain⟨q,q1,j⟩:=qie o hk 0 t G F;cases q with
  | none=>exact j.elim
  | some q =>
  refine Good.same p (u:=if ok then .tuple #[q.2,.bool i7] else q.2) ?_ (C i7 j);have g:(fx K uk d.toList).run P E.w=.ok (iz q) E.w:=by simp only[fx,xh,xm (htt _ _ f).und,xb,q1,xd]
  simp only[ir,xh,xm i,xb,sq y,xd,nl (htt _ _ f).und o hk,g]
 ·rename_i t;split at h<;>cases h;rename_i z U;obtain⟨d,c,y,G,F,B⟩:=p.st.objs H (zi hr) hA _ l;obtain⟨q,q1,j⟩:=qie o hk 0 t G F;cases q with
  | some q=>exact j.elim
  | none =>
  refine Good.same p (u:=if ok then .tuple #[tv.zero,.bool eb] else tv.zero) ?_ (C eb (qee E U));have g:(fx K uk d.toList).run P E.w=.ok i6 E.w:=by simp only[fx,xh,xm (htt _ _ f).und,xb,q1,xd]
  simp only[ir,xh,xm i,xb,sq y,xd,nl (htt _ _ f).und o hk,g,Sx.run_zeroValue (htt _ _ A)]
 ·grind
def zae(S:IS):Oq Res:=iz ⟨.map S.next,S.new (.map []),0,0⟩
theorem zon{ty:Nat}{r:Res}(p:Pre T E S)(h:zae S=iz r):Good P T E S (Instr.makeMap ty i6) r:=by
 cases h;have u:Upd [] E.w (E.w.alloc (.map #[] 0)):=Upd.alloc _ _;obtain⟨a,b⟩:=Post.new p (k:=0) (hd:=.tuple #[]) (o:=.map []) u (by simp) ⟨#[],0,by simp only[Env.with_,zj];exact rm E.w _,VRs.nil,VRs.nil,ko.nil⟩;refine⟨.map (iz ((E.with_ S.next 0 (.tuple #[]) (E.w.alloc (.map #[] 0))).ρ S.next)),_,?_,.map (ig rfl),a,b⟩;rw[show (E.with_ S.next 0 (.tuple #[]) (E.w.alloc (.map #[] 0))).ρ S.next=E.w.heap.size from zj _ _ _];simp only[run_makeMap_plain];rfl
def se(k v:IV):Lz (IV × IV)->Oq (Lz (IV × IV))
 | []=>iz [(k,v)]
 | e::es=>match yf k e.1 with
  | some i7=>iz ((k,v)::es)
  | some eb=>match se k v es with
   | some es'=>iz (e::es')
   | none=>i6
  | none=>i6
def yp:TC->Bool
 | .two _ _=>eb
 | _=>i7
theorem q1o{kc vc:TC}(h:yi kc=i7)(k:El kc)(v:El vc):∀es:Lz (El kc × El vc),se (asIV kc k) (asIV vc v) (tmEs kc vc es)=iz (tmEs kc vc (mset kc k v es))
 | []=>rfl
 | e::es=>by
  have:=q1o h k v es;simp only[tmEs,ga,se,qvy h,mset] at this ⊢
  grind
def qbg(tt:Nat->Oq TI)(S:IS)(ty:Nat)(x k v:IV):Oq Res :=
 match tt ty with
 | some ti=>match ti.und with
  | .map K V=>match tt K with
   | some tk=>cond (jw tk.und k) (match x with
    | .map id=>match S.heap.get id with
     | some (.map es)=>match se k v es with
      | some es'=>iz ⟨.tup [],S.set id (.map es'),0,2 ^ id⟩
      | none=>i6
     | some (.tmap kc vc es)=>match icl kc S [k],icl vc S [v] with
      | some (kx,[],_,0),iz (vx,[],_,0)=>cond (yi kc&&yp vc) (iz ⟨.tup [],S.set id (.tmap kc vc (mset kc kx vx es)),0,2 ^ id⟩) i6
      | _,_=>i6
     | _=>i6
    | _=>i6) i6
   | none=>i6
  | _=>i6
 | none=>i6
theorem zva{D:fd}{k k':IV}{u u':oc}(hd:jw D k=i7)(h:yf k k'=iz i7)(hk:VR E k u)(hk':VR E k' u'):ii 10000 u' u=i7/\u'=u:=by
 unfold yf at h;split at h<;>try cases h
 ·rename_i f a e b;cases hk;cases hk';cases c:decide (f=e) with
  | false=>rw[c] at h;cases h
  | true =>
   rw[c,xa] at h;have g:=xu c;have d:=xu (gk h);subst g;subst d;exact⟨by simp[ii],rfl⟩
 ·cases hk;cases hk';have d:=xu (gk h);subst d;exact⟨by simp[ii,q03],rfl⟩
 ·cases hk;cases hk';have d:=xu (gk h);subst d;exact⟨by simp[ii],rfl⟩
theorem q7c{D:fd}{k v:IV}{uk uv:oc}(hd:jw D k=i7)(hk:VR E k uk)(hv:VR E v uv):∀{es es':Lz (IV × IV)} {ents:Lz mt} (i:Nat),se k v es=iz es'->VRs E (es.map (·.1)) (ents.map (·.key))->VRs E (es.map (·.2)) (ents.map (·.val)) ->
  ∃q:Oq (Nat × oc),a8 D uk ents i=iz q/\(match q with
   | none=>∀b,VRs E (es'.map (·.1)) ((ents++([⟨uk,uv,b⟩]:Lz mt)).map (·.key))/\VRs E (es'.map (·.2)) ((ents++([⟨uk,uv,b⟩]:Lz mt)).map (·.val))
   | some (j,_)=>∃n,j=i+n/\(∃x,ents[n]?=iz x/\ii 10000 x.key uk=i7)/\VRs E (es'.map (·.1)) ((ents.modify n fun(e:mt)=>{ e with key:=uk,val:=uv }).map (·.key))/\VRs E (es'.map (·.2)) ((ents.modify n fun(e:mt)=>{ e with key:=uk,val:=uv }).map (·.val)))
 | [],es',ents,i,h,h1,h2=>by
  simp only[se,pj] at h;subst h;have:=h1.1;cases ents<;>simp at this;exact⟨i6,rfl,fun b=>⟨VRs.cons hk VRs.nil,VRs.cons hv VRs.nil⟩⟩
 | e::es,es',ents,i,h,h1,h2=>by
  cases ents with
  | nil=>have:=h1.1;simp at this
  | cons x ents =>
  obtain⟨_,_,q1,k1,k2⟩:=h1.inv;obtain⟨_,_,q2,v1,v2⟩:=h2.inv;simp only[ga,ry] at q1 q2;obtain⟨rfl,rfl⟩:=q1;obtain⟨rfl,rfl⟩:=q2;unfold se at h;unfold a8;split at h
  ·rename_i hs;cases h;rw[qct hd hs hk k1];refine⟨iz (i,x.val),rfl,0,rfl,⟨x,rfl,(zva hd hs hk k1).1⟩,?_,?_⟩
   ·simpa using VRs.cons hk k2
   ·simpa using VRs.cons hv v2
  ·rename_i hs;rw[qct hd hs hk k1];split at h<;>cases h;rename_i es'' hes;obtain⟨q,g1,g2⟩:=q7c hd hk hv (i+1) hes k2 v2;refine⟨q,g1,?_⟩;cases q with
   | none=>exact fun b=>⟨VRs.cons k1 (g2 b).1,VRs.cons v1 (g2 b).2⟩
   | some q =>
    obtain⟨n,g3,⟨y,g4,g5⟩,g6,g7⟩:=g2;exact⟨n+1,by omega,⟨y,by simpa using g4,g5⟩,by simpa using VRs.cons k1 g6,by simpa using VRs.cons v1 g7⟩
  ·grind
theorem qzu{ty K V:ov}{tk:TI}{id:Nat}{k v:IV}{uk uv:oc}{es es':Lz (IV × IV)}{ents:Array mt}{c:Nat}{o o':IObj}(hty:P.underlying ty=iz (.map K V))(htk:P.underlying K=iz tk.und)(p:Pre T E S)(hr:T.w id)(hA:E.A id)(hes:S.heap.get id=iz o)(hlo:o.blk=i7)(hd:jw tk.und k=i7)(hk:VR E k uk)(hv:VR E v uv)
  (h1:E.w.heap[E.ρ id]?=iz (.map ents c)) (h2:VRs E (es.map (·.1)) (ents.toList.map (·.key))) (h3:VRs E (es.map (·.2)) (ents.toList.map (·.val))) (hst:ko ents c) (hes':se k v es=iz es') (ho:∀E',OR E' id (.map es')->OR E' id o') :
  qay P T E S (ak ty (.map (iz (E.ρ id))) uk uv) ⟨.tup [],S.set id o',0,2 ^ id⟩:=by
 obtain⟨q,q1,i⟩:=q7c hd hk hv 0 hes' h2 h3;have h:Live E S.H id:=⟨p.st.blk id (T.sub _ hr) hA _ hes hlo,_,hes,by cases o<;>first|rfl|cases hlo⟩;have g:=qk h1;have fin:∀(o:Obj),(ak ty (.map (iz (E.ρ id))) uk uv).run P E.w=.ok () (E.w.putObj (E.ρ id) o)->OR (E.at_ (E.w.putObj (E.ρ id) o)) id (.map es')->qay P T E S (ak ty (.map (iz (E.ρ id))) uk uv) ⟨.tup [],S.set id o',0,2 ^ id⟩:=fun o f l=>by
  obtain⟨a,b⟩:=Post.write p hr hA h (Upd.putObj _ _ _) (ho _ l);exact⟨_,f,rfl,a,b⟩
 cases q with
 | none =>
  have d:(fx K uk ents.toList).run P E.w=.ok i6 E.w:=by simp only[fx,xh,xm htk,xb,q1,xd]
  refine fin (.map (ents.push { key:=uk,val:=uv,born:=c }) (c+1)) ?_ ⟨_,_,gc g,?_,?_,hst.push _ _⟩
  ·simp only[ak,xh,xm hty,xb,sq h1,nl htk hd hk,d];simp[setObj,ay,h1,World.putObj]
  ·have:=(i c).1.mono (Env.at_le p.st hr hA h (Upd.putObj E.w (E.ρ id) (.map (ents.push { key:=uk,val:=uv,born:=c }) (c+1))))
   grind
  ·have:=(i c).2.mono (Env.at_le p.st hr hA h (Upd.putObj E.w (E.ρ id) (.map (ents.push { key:=uk,val:=uv,born:=c }) (c+1))))
   grind
 | some q =>
  obtain⟨n,r,⟨s,z,y⟩,x,u⟩:=i;obtain⟨j,t⟩:=q;simp only[x6] at r;subst r;have d:(fx K uk ents.toList).run P E.w=.ok (iz (j,t)) E.w:=by simp only[fx,xh,xm htk,xb,q1,xd]
  have m:ents[j]?=iz s:=by simpa using z
  refine fin (.map (ents.modify j fun e=>{ e with key:=uk,val:=uv }) c) ?_ ⟨_,_,gc g,?_,?_,hst.modify _ fun _=>rfl⟩
  ·simp only[ak,xh,xm hty,xb,sq h1,xd,nl htk hd hk,d,m,jau,Option.getD_some,Instr.keyThatStays,y,dv];simp[setObj,ay,h1,World.putObj]
  ·have:=x.mono (Env.at_le p.st hr hA h (Upd.putObj E.w (E.ρ id) (.map (ents.modify j fun e=>{ e with key:=uk,val:=uv }) c)))
   grind
  ·have:=u.mono (Env.at_le p.st hr hA h (Upd.putObj E.w (E.ρ id) (.map (ents.modify j fun e=>{ e with key:=uk,val:=uv }) c)))
   grind
theorem qxw{ty:Nat}{x k v:IV}{ux uk uv:oc}{r:Res}(htt:TT P tt)(p:Pre T E S)(h:qbg tt S ty x k v=iz r)(hr:tin T.w r.wr)(hx:VR E x ux)(hk:VR E k uk)(hv:VR E v uv):qay P T E S (ak ty ux uk uv) r:=by
 unfold qbg at h;split at h<;>try cases h
 rename_i N t;split at h<;>try cases h
 rename_i K V z;have f:=(htt _ _ t).und;rw[z] at f;split at h<;>try cases h
 rename_i I j;cases o:jw I.und k with
 | false=>rw[o] at h;cases h
 | true =>
 rw[o,xa] at h;split at h<;>try cases h
 rename_i D;cases hx with
 | map hA =>
 split at h<;>try cases h
 ·rename_i F d;split at h<;>cases h;rename_i M m;obtain⟨n,c,C,B,A,g⟩:=p.st.objs D (T.sub _ (zi hr)) hA _ d;exact qzu f (htt _ _ j).und p (zi hr) hA d rfl o hk hv C B A g m fun _ h=>h
 ·rename_i L H F d;split at h<;>try cases h
  rename_i J Q G O l q;cases i:(yi L&&yp H) with
  | false=>rw[i] at h;cases h
  | true =>
  rw[i,xa] at h;cases h;simp only[xf] at i;have u:=qbv l hk (fun a b e=>by subst e;cases i.1);have s:=qbv q hv (fun a b e=>by subst e;cases i.2);have y:=qsy i.1 l o;obtain⟨n,c,C,B,A,g⟩:=p.st.objs D (T.sub _ (zi hr)) hA _ d;exact qzu f (htt _ _ j).und p (zi hr) hA d rfl y u s C B A g (q1o i.1 J G F) fun _ h=>h

def qcx(k:IV):Lz (IV × IV)->Oq (Lz (IV × IV))
 | []=>iz []
 | e::es=>match yf k e.1 with
  | some i7=>iz es
  | some eb=>match qcx k es with
   | some es'=>iz (e::es')
   | none=>i6
  | none=>i6
def mdel(kc:TC){vc:TC}(k:El kc):Lz (El kc × El vc)->Lz (El kc × El vc)
 | []=>[]
 | e::es=>cond (keq kc k e.1) es (e::mdel kc k es)
theorem q2z{kc vc:TC}(h:yi kc=i7)(k:El kc):∀es:Lz (El kc × El vc),qcx (asIV kc k) (tmEs kc vc es)=iz (tmEs kc vc (mdel kc k es))
 | []=>rfl
 | e::es=>by
  have:=q2z h k es;simp only[tmEs,ga,qcx,qvy h,mdel] at this ⊢
  grind
theorem q4l{D:fd}{k:IV}{uk:oc}(hd:jw D k=i7)(hk:VR E k uk):∀{es es':Lz (IV × IV)} {ents:Lz mt} (i:Nat),qcx k es=iz es'->VRs E (es.map (·.1)) (ents.map (·.key))->VRs E (es.map (·.2)) (ents.map (·.val)) ->
  ∃q:Oq (Nat × oc),a8 D uk ents i=iz q/\(match q with
   | none=>VRs E (es'.map (·.1)) (ents.map (·.key))/\VRs E (es'.map (·.2)) (ents.map (·.val))
   | some (j,_)=>∃n,j=i+n/\n<ents.length/\VRs E (es'.map (·.1)) ((ents.eraseIdx n).map (·.key))/\VRs E (es'.map (·.2)) ((ents.eraseIdx n).map (·.val)))
 | [],es',ents,i,h,h1,h2=>by
  simp only[qcx,pj] at h;subst h;have:=h1.1;cases ents<;>simp at this;exact⟨i6,rfl,VRs.nil,VRs.nil⟩
 | e::es,es',ents,i,h,h1,h2=>by
  cases ents with
  | nil=>have:=h1.1;simp at this
  | cons x ents =>
  obtain⟨_,_,q1,k1,k2⟩:=h1.inv;obtain⟨_,_,q2,v1,v2⟩:=h2.inv;simp only[ga,ry] at q1 q2;obtain⟨rfl,rfl⟩:=q1;obtain⟨rfl,rfl⟩:=q2;unfold qcx at h;unfold a8;split at h
  ·rename_i hs;cases h;rw[qct hd hs hk k1]
   grind
  ·rename_i hs;rw[qct hd hs hk k1];split at h<;>cases h;rename_i es'' hes;obtain⟨q,g1,g2⟩:=q4l hd hk (i+1) hes k2 v2;refine⟨q,g1,?_⟩;cases q with
   | none=>exact⟨VRs.cons k1 g2.1,VRs.cons v1 g2.2⟩
   | some q =>
    obtain⟨n,g3,g4,g6,g7⟩:=g2;exact⟨n+1,by omega,by simpa using g4,by simpa using VRs.cons k1 g6,by simpa using VRs.cons v1 g7⟩
  ·grind
def qg6(tt:Nat->Oq TI)(S:IS)(ty:Nat)(x k:IV):Oq Res :=
 match tt ty with
 | some ti=>match ti.und with
  | .map K V=>match tt K with
   | some tk=>cond (jw tk.und k) (match x with
    | .map id=>match S.heap.get id with
     | some (.tmap kc vc es)=>match icl kc S [k] with
      | some (kx,[],_,0)=>cond (yi kc) (iz ⟨.tup [],S.set id (.tmap kc vc (mdel kc kx es)),0,2 ^ id⟩) i6
      | _=>i6
     | _=>i6
    | _=>i6) i6
   | none=>i6
  | _=>i6
 | none=>i6
theorem zwd{ty t2 tr:Nat}{x k:IV}{ux uk:oc}{r:Res}(htt:TT P tt)(p:Pre T E S)(h:qg6 tt S ty x k=iz r)(hr:tin T.w r.wr)(hx:VR E x ux)(hk:VR E k uk):Good P T E S (ib #[ty,t2] tr #[ux,uk]) r:=by
 unfold qg6 at h;split at h<;>try cases h
 rename_i ε L;split at h<;>try cases h
 rename_i K V O;have l:=(htt _ _ L).und;rw[O] at l;split at h<;>try cases h
 rename_i Y J;cases N:jw Y.und k with
 | false=>rw[N] at h;cases h
 | true =>
 rw[N,xa] at h;split at h<;>try cases h
 rename_i f;cases hx with
 | map hA =>
 split at h<;>try cases h
 rename_i v R Q t;split at h<;>try cases h
 rename_i I ζ B;cases C:yi v with
 | false=>rw[C] at h;cases h
 | true =>
 rw[C,xa] at h;cases h;have m:=qbv B hk (fun a b e=>by subst e;cases C);have u:=qsy C B N;obtain⟨d,c,F,α,Z,y⟩:=p.st.objs f (T.sub _ (zi hr)) hA _ t;obtain⟨q,q1,G⟩:=q4l u m 0 (q2z C I Q) α Z;have D:Live E S.H f:=⟨p.st.blk f (T.sub _ (zi hr)) hA _ t rfl,_,t,rfl⟩;have A:=qk F;have g:=(htt _ _ J).und;have fin:∀(o:Obj),(ib #[ty,t2] tr #[.map (iz (E.ρ f)),uk]).run P E.w=.ok (.tuple #[]) (E.w.putObj (E.ρ f) o)->OR (E.at_ (E.w.putObj (E.ρ f) o)) f (.tmap v R (mdel v I Q))->Good P T E S (ib #[ty,t2] tr #[.map (iz (E.ρ f)),uk]) ⟨.tup [],S.set f (.tmap v R (mdel v I Q)),0,2 ^ f⟩:=fun o z M=>by
  obtain⟨a,b⟩:=Post.write p (zi hr) hA D (Upd.putObj _ _ _) M;exact⟨_,_,z,.tup (us:=[]) rfl (fun i h=>by simp at h),a,b⟩
 cases q with
 | none =>
  have s:(fx K uk d.toList).run P E.w=.ok i6 E.w:=by simp only[fx,xh,xm g,xb,q1,xd]
  refine fin (.map d c) ?_ ⟨_,_,gc A,?_,?_,y⟩
  ·simp only[ib,pf,xo,px,xh,xm l,xb,getObj,ay,F,nl g u m,s];simp[setObj,ay,F,World.putObj]
  ·exact G.1.mono (Env.at_le p.st (zi hr) hA D (Upd.putObj E.w (E.ρ f) _))
  ·exact G.2.mono (Env.at_le p.st (zi hr) hA D (Upd.putObj E.w (E.ρ f) _))
 | some q =>
  obtain⟨n,W,δ,γ,β⟩:=G;obtain⟨j,X⟩:=q;simp only[x6] at W;subst W;have s:(fx K uk d.toList).run P E.w=.ok (iz (j,X)) E.w:=by simp only[fx,xh,xm g,xb,q1,xd]
  have U:j<d.size:=by simpa using δ
  refine fin (.map (d.eraseIdxIfInBounds j) c) ?_ ⟨_,_,gc A,?_,?_,y.erase⟩
  ·simp only[ib,pf,xo,px,xh,xm l,xb,getObj,ay,F,nl g u m,s];simp[setObj,ay,F,World.putObj]
  ·have:=γ.mono (Env.at_le p.st (zi hr) hA D (Upd.putObj E.w (E.ρ f) (.map (d.eraseIdxIfInBounds j) c)));simpa [a7,U] using this
  ·have:=β.mono (Env.at_le p.st (zi hr) hA D (Upd.putObj E.w (E.ρ f) (.map (d.eraseIdxIfInBounds j) c)));simpa [a7,U] using this

def qfa(tt:Nat->Oq TI)(S:IS)(ty:Nat):IV->Oq Res
 | .str s=>match tt ty with
  | some ti=>match ti.und with
   | .string=>iz ⟨.ptr S.next 0,S.new (.iter s 0),0,0⟩
   | _=>i6
  | none=>i6
 | _=>i6
theorem zuj{ty:Nat}{x:IV}{ux:oc}{r:Res}(htt:TT P tt)(p:Pre T E S)(h:qfa tt S ty x=iz r)(hx:VR E x ux):Good P T E S (Instr.range ty ux) r:=by
 unfold qfa at h;split at h<;>try cases h
 rename_i s;cases hx with
 | str _ hsz =>
 split at h<;>try cases h
 rename_i f d;split at h<;>cases h;rename_i e;have c:=(htt _ _ d).und;rw[e] at c;have u:Upd [] E.w (E.w.alloc (.stringIter s 0)):=Upd.alloc _ _;obtain⟨a,b⟩:=Post.new p (k:=0) (hd:=.tuple #[]) (o:=.iter s 0) u (by simp) (by
  refine⟨?_,hsz⟩;rw[show (E.with_ S.next 0 (.tuple #[]) (E.w.alloc (.stringIter s 0))).ρ S.next=E.w.heap.size from zj _ _ _];exact rm E.w _)
 refine⟨.pointer (iz ⟨(E.with_ S.next 0 (.tuple #[]) (E.w.alloc (.stringIter s 0))).ρ S.next,0,i6⟩),_,?_,.ptr (ig rfl),a,b⟩;rw[show (E.with_ S.next 0 (.tuple #[]) (E.w.alloc (.stringIter s 0))).ρ S.next=E.w.heap.size from zj _ _ _];simp only[Instr.range,xh,xm c,xb,xd];rfl
def nb(S:IS):IV->Bool->Oq Res
 | .ptr id 0,i7=>match S.heap.get id with
  | some (.iter s p)=>cond (oo p s.size)
   (iz ⟨.tup [.bool i7,.int .i64 p,.int .i32 (fj s p).1],S.set id (.iter s (p+(fj s p).2)),0,2 ^ id⟩)
   (iz ⟨.tup [.bool eb],S,2 ^ id,0⟩)
  | _=>i6
 | _,_=>i6
theorem zsk{ty:Nat}{x:IV}{ux:oc}{b:Bool}{r:Res}(p:Pre T E S)(h:nb S x b=iz r)(hrd:tin T.r r.rd)(hwr:tin T.w r.wr)(hx:VR E x ux):Good P T E S (Instr.next ux b ty) r:=by
 unfold nb at h;split at h<;>try cases h
 rename_i e;cases hx with
 | ptr hA =>
 split at h<;>try cases h
 rename_i s q g;cases m:oo q s.size with
 | true =>
  rw[m,xa] at h;have k:q<s.size:=by simpa using m
  cases h;obtain⟨i,j⟩:E.w.heap[E.ρ e]?=iz (.stringIter s q)/\s.size<9223372036854775808:=p.st.objs e (T.sub _ (zi hwr)) hA _ g;have n:=decode_le s q;generalize f:fj s q=cw;rw[f] at n;obtain⟨c,d⟩:=cw;simp only at n;have t:Live E S.H e:=⟨p.st.blk e (T.sub _ (zi hwr)) hA _ g rfl,_,g,rfl⟩;obtain⟨a,b⟩:=Post.write p (o':=.iter s (q+d)) (zi hwr) hA t (Upd.putObj E.w (E.ρ e) (.stringIter s (q+d))) ⟨gc (qk i),j⟩;refine⟨.tuple #[.bool i7,.int .i64 q,.int .i32 c],_,?_,?_,a,b⟩
  ·simp only[Instr.next,xh,getObj,ay,i,xb,k,dv,setObj,xd,goInt,f];rfl
  ·have:=VRs.cons (E:=E.at_ (E.w.putObj (E.ρ e) (.stringIter s (q+d)))) (.bool i7) (VRs.cons (.int .i64 (q:Int) (jbu _ ⟨by omega,by omega⟩)) (VRs.cons (.int .i32 (c:Int) (IntWalk.i32_in _ ⟨by omega,by omega⟩)) VRs.nil));exact .tup this.1 this.2
 | false =>
  rw[m,xe] at h;cases h;have l:¬q<s.size:=fun o=>by
   have:oo q s.size=i7:=by simpa using o
   grind
  have i:E.w.heap[E.ρ e]?=iz (.stringIter s q):=(p.st.objs e (zi hrd) hA _ g).1;have:=VRs.cons (E:=E) (.bool eb) VRs.nil;exact Good.same p (u:=.tuple #[.bool eb]) (by simp only[Instr.next,xh,getObj,ay,i,xb,l,p9,xd]) (.tup this.1 this.2)

def qfo(S:IS)(i:Nat):IV->Oq Res
 | .tup vs=>match vs[i]? with
  | some v=>iz ⟨v,S,0,0⟩
  | none=>i6
 | _=>i6
theorem zje{i:Nat}{x:IV}{ux:oc}{r:Res}(p:Pre T E S)(h:qfo S i x=iz r)(hx:VR E x ux):Good P T E S (Instr.extract ux i) r:=by
 unfold qfo at h;split at h<;>try cases h
 rename_i b;cases hx with
 | tup hl hh =>
 rename_i c;split at h<;>cases h;rename_i v d;have f:VRs E b c:=⟨hl,hh⟩;obtain⟨u,e,a⟩:=f.get d;exact Good.same p (by simp only[Instr.extract,pf,e,xd]) a
def qeu(tt:Nat->Oq TI)(S:IS)(ty f:Nat):IV->Oq Res
 | .agg cs=>match tt ty with
  | none=>i6
  | some ti=>match ti.und with
   | .struct fs=>match fs.toList[f]? with
    | none=>i6
    | some F=>match tt F.type with
     | none=>i6
     | some tf=>cond (qv tf.und) (match cs[F.offset]? with|some v=>iz ⟨v,S,0,0⟩|none=>i6)
      (cond (og (F.offset+tf.sz) cs.length) (iz ⟨.agg ((cs.drop F.offset).take tf.sz),S,0,0⟩) i6)
   | _=>i6
 | _=>i6
theorem zhb{ty f:Nat}{x:IV}{ux:oc}{r:Res}(htt:TT P tt)(p:Pre T E S)(h:qeu tt S ty f x=iz r)(hx:VR E x ux):Good P T E S (Instr.field ty ux f) r:=by
 unfold qeu at h;split at h<;>try cases h
 rename_i q;cases hx with
 | agg hl hh =>
 rename_i d;have s:VRs E q d:=⟨hl,hh⟩;split at h
 ·grind
 rename_i C j;split at h<;>try cases h
 rename_i B m;split at h
 ·grind
 rename_i F A;split at h
 ·grind
 rename_i c k;have e:=htt _ _ j;rw[m] at e;have n:=htt _ _ k;have o:B[f]?=iz F:=by simpa using A
 have b:∀v,(part F.type d.toArray F.offset).run P E.w=.ok v E.w->(Instr.field ty (.agg d.toArray) f).run P E.w=.ok v E.w:=fun v i=>by
  simp only[Instr.field,xh,xm e.und,xd,xb,o,asAgg,i]
 cases a:qv c.und with
 | true =>
  rw[a,xa] at h;split at h<;>cases h;rename_i v i;obtain⟨u,z,g⟩:=s.get i;refine Good.same p (u:=u) (b _ ?_) g;simp only[part,xh,qce n,a,xb,pf,z,xd,gd,pu,p9]
 | false =>
  rw[a,xe] at h;cases y:og (F.offset+c.sz) q.length with
  | false=>rw[y] at h;cases h
  | true =>
   rw[y,xa] at h;cases h;have l:=(s.drop F.offset).take c.sz;have t:((q.drop F.offset).take c.sz).length=((d.drop F.offset).take c.sz).length:=l.1;refine Good.same p (u:=.agg ((d.drop F.offset).take c.sz).toArray) (b _ ?_) (.agg l.1 l.2);simp only[part,xh,qce n,Go.Sx.run_sizeOf n,a,xb,xd,gh,dv]
   grind
def qdj(tt:Nat->Oq TI)(S:IS)(ty:Nat)(v:IV):Oq Res :=
 match tt ty with
 | some ti=>match ti.und with
  | .interface _=>i6
  | _=>iz ⟨.iface ty v,S,0,0⟩
 | none=>i6
theorem zk3{ty:Nat}{x:IV}{ux:oc}{r:Res}(htt:TT P tt)(p:Pre T E S)(h:qdj tt S ty x=iz r)(hx:VR E x ux):Good P T E S (Instr.makeInterface ty ux) r:=by
 unfold qdj at h;split at h<;>try cases h
 rename_i c b;have a:=(htt _ _ b).und;split at h<;>cases h;rename_i d;refine Good.same p (u:=.iface ty ux) ?_ (.iface hx);simp only[Instr.makeInterface,xh,xm a,xb];cases e:c.und<;>first|exact absurd e (d _)|rfl
def qg8(tt:Nat->Oq TI)(S:IS)(xT asserted:Nat)(ok:Bool):IV->Oq Res
 | .iface t v=>match tt asserted with
  | some ti=>match ti.und with
   | .interface _=>i6
   | _=>cond (od t asserted) (iz ⟨cond ok (.tup [v,.bool i7]) v,S,0,0⟩) (cond ok (match ofV ti.zero with
     | some z=>iz ⟨.tup [z,.bool eb],S,0,0⟩
     | none=>i6) i6)
  | none=>i6
 | _=>i6
theorem zkl{xT asserted:Nat}{ok:Bool}{x:IV}{ux:oc}{r:Res}(htt:TT P tt)(p:Pre T E S)(h:qg8 tt S xT asserted ok x=iz r)(hx:VR E x ux):Good P T E S (ik ux xT asserted ok) r:=by
 unfold qg8 at h;split at h<;>try cases h
 rename_i t v;cases hx with
 | iface hv =>
 rename_i u;split at h<;>try cases h
 rename_i c d;have a:=htt _ _ d;split at h
 ·grind
 ·rename_i i;cases b:od t asserted with
  | true =>
   rw[b,xa] at h;cases h;have:=xg b;subst this;refine Good.same p (u:=if ok then .tuple #[u,.bool i7] else u) ?_ ?_
   ·simp only[ik,xh,xm a.und,xb];cases g:c.und<;>first|exact absurd g (i _)|simp [xd]
   ·cases ok
    ·grind
    ·have:=VRs.cons hv (VRs.cons (.bool i7) VRs.nil);exact .tup this.1 this.2
  | false =>
   rw[b,xe] at h;cases ok with
   | false=>cases h
   | true =>
   rw[xa] at h;split at h<;>cases h;rename_i z j;have f:¬t=asserted:=fun e=>by rw[wk e] at b;cases b
   have:=VRs.cons (qee E j) (VRs.cons (.bool eb) VRs.nil);refine Good.same p (u:=.tuple #[c.zero,.bool eb]) ?_ (.tup this.1 this.2);simp only[ik,xh,xm a.und,xb];cases g:c.und<;>first|exact absurd g (i _)|simp [f,Sx.run_zeroValue a]
end
end Go.Jx
end

noncomputable section
namespace Go.Jx
open Go Go.Sx Go.RowKit
universe u
def iltI:Int->Int->Bool
 | .ofNat m,.ofNat n=>oo m n
 | .ofNat _,.negSucc _=>eb
 | .negSucc _,.ofNat _=>i7
 | .negSucc m,.negSucc n=>oo n m
theorem qc(a b:Int):iltI a b=decide (a<b):=by
 cases a with
 | ofNat m =>
  cases b with
  | ofNat n=>simp only[iltI];rw[jaf];simp
  | negSucc n=>symm;simp only[iltI];simp;omega
 | negSucc m =>
  cases b with
  | ofNat n=>symm;simp only[iltI];simp;omega
  | negSucc n=>simp only[iltI];rw[jaf];simp;omega
def S.rep{α:Type}(n:Int)(x:α):Lz α:=List.replicate n.toNat x
def tcFs(f:Nat->Oq TC):Lz ic->Oq TC
 | []=>i6
 | x::xs=>match xs with
  | []=>f x.type
  | _::_=>match f x.type,tcFs f xs with
   | some a,iz b=>iz (.two a b)
   | _,_=>i6
def tcOf(tt:Nat->Oq TI):Nat->Nat->Oq TC
 | 0,_=>i6
 | n+1,T=>match tt T with
  | none=>i6
  | some ti=>match ti.und with
   | .int k=>iz (.int k)
   | .bool=>iz .bool
   | .string=>iz .str
   | .slice e=>match tcOf tt n e with
    | some c=>iz (.list c)
    | none=>i6
   | .struct fs=>match recT T with
    | some k=>iz (rcC k)
    | none=>tcFs (tcOf tt n) fs.toList
   | _=>i6
def zC:TC->Lz oc->Oq (Lz oc)
 | .two a b,vs=>match zC a vs with
  | none=>i6
  | some r=>zC b r
 | .int k,vs=>match vs with
  | []=>i6
  | v::r=>cond (zOK (.int k) v) (iz r) i6
 | .bool,vs=>match vs with
  | []=>i6
  | v::r=>cond (zOK .bool v) (iz r) i6
 | .str,vs=>match vs with
  | []=>i6
  | v::r=>cond (zOK .str v) (iz r) i6
 | .list c,vs=>match vs with
  | []=>i6
  | v::r=>cond (zOK (.list c) v) (iz r) i6
 | .rl k,vs=>match vs with
  | []=>i6
  | v::r=>cond (zOK (.rl k) v) (iz r) i6
theorem qfx{E:Env}{c:TC}{vs r:Lz oc}(hc:cel c (zEl c)=[asIV c (zEl c)])(h:(match vs with|[]=>i6|v::r=>cond (zOK c v) (iz r) i6)=iz r):∃us,vs=us++r/\VRs E (cel c (zEl c)) us:=by
 cases vs with
 | nil=>cases h
 | cons v vs =>
  simp only at h;cases a:zOK c v with
  | false=>rw[a] at h;cases h
  | true =>
   rw[a] at h;cases h;exact⟨[v],rfl,by rw[hc];exact VRs.cons (q0w a) VRs.nil⟩
theorem qpu{E:Env}:∀{c:TC} {vs r:Lz oc},zC c vs=iz r->∃us,vs=us++r/\VRs E (cel c (zEl c)) us
 | .int k,vs,r,h=>qfx rfl h
 | .bool,vs,r,h=>qfx rfl h
 | .str,vs,r,h=>qfx rfl h
 | .list c,vs,r,h=>qfx rfl h
 | .rl c,vs,r,h=>qfx rfl h
 | .two a b,vs,r,h=>by
  unfold zC at h;cases ha:zC a vs with
  | none=>rw[ha] at h;cases h
  | some q =>
   rw[ha] at h;obtain⟨u1,e1,v1⟩:=qpu (E:=E) ha;obtain⟨u2,e2,v2⟩:=qpu (E:=E) h;exact⟨u1++u2,by rw[e1,e2,gq],v1.append v2⟩
def imkC(tt:Nat->Oq TI)(S:IS)(ty:Nat)(n m:Int):Oq Res:=match tt ty with
 | none=>i6
 | some ti=>match ti.und with
  | .slice e=>match tt e with
   | none=>i6
   | some te=>match tcOf tt 8 e with
    | none=>i6
    | some c=>match zC c te.zero.cells.toList with
     | some []=>cond (od te.sz (csz c)&&(oo 0 te.bytes&&(og (bsz c) te.bytes&&u8ok c e)))
      (cond (iltI n 0) i6 (cond (og (o7 m.toNat te.bytes) 140737488355328) (iz ⟨.arr S.next,S.new (.arr c (Go.Jx.S.rep n (zEl c))),0,0⟩) i6)) i6
     | _=>i6
  | _=>i6
def qlq:fh->fh->Bool
 | .tmp i,.tmp j=>od i j
 | _,_=>eb
def qdf(tt:Nat->Oq TI)(S:IS)(ty:Nat):IV->Oq Res
 | .int _ n=>imkC tt S ty n n
 | _=>i6
def qaa(tt:Nat->Oq TI)(S:IS)(ty:Nat):IV->IV->Oq Res
 | .int _ n,.int _ m=>cond (iltI m n) i6 (imkC tt S ty n m)
 | _,_=>i6
variable {P : om} {tt : Nat -> Oq TI} {T : TW} {E : Env} {S : IS}
theorem q5q{ty:Nat}{n m:Int}{k k':ff}{r:Res}(htt:TT P tt)(p:Pre T E S)(h:imkC tt S ty n m=iz r)(hnm:n<=m):Good P T E S (Instr.makeSlice ty (.int k n) (.int k' m)) r:=by
 unfold imkC at h;split at h
 ·grind
 rename_i δ C;split at h<;>try cases h
 rename_i e X;split at h
 ·grind
 rename_i a D;split at h
 ·grind
 rename_i c θ;split at h<;>try cases h
 rename_i U;cases A:(od a.sz (csz c)&&(oo 0 a.bytes&&(og (bsz c) a.bytes&&u8ok c e))) with
 | false=>rw[A] at h;cases h
 | true =>
 rw[A,xa] at h;cases z:iltI n 0 with
 | true=>rw[z] at h;cases h
 | false =>
 rw[z,xe] at h;cases g:og (o7 m.toNat a.bytes) 140737488355328 with
 | false=>rw[g] at h;cases h
 | true =>
 rw[g,xa] at h;cases h;rw[qc] at z;have z:=gx z;simp only[xf] at A;obtain⟨I,H,G,β⟩:=A;have I:=xg I;have H:0<a.bytes:=by simpa using H
 have G:=xk G;have g:m.toNat*a.bytes<=140737488355328:=xk g;have s:=htt _ _ C;rw[X] at s;obtain⟨ζ,i,Q,O,ε,N⟩:=htt _ _ D;obtain⟨B,M,L⟩:=qpu (E:=E) U;rw[gz] at M;have q:B.length=csz c:=by rw[<- L.1,jr]
 have V:m.toNat<=140737488355328:=py (by have:=rt m.toNat H;simpa using this) g;have v:n.toNat*a.bytes<=m.toNat*a.bytes:=pw _ (by omega);have d:(i.bytes:Int)*m<=281474976710656:=by
  grind
 have f:=run_make (P:=P) E.w ty e i a.zero s.und Q N k k' n m (by omega) hnm d (by omega);rw[O,I] at f;have R:a.zero.cells.size=csz c:=by rw[<- jb2,M,q]
 have x:(madeCells a.zero.cells (m.toNat*csz c)).size=m.toNat*csz c:=size_madeCells _ _;have b:oq (Go.Jx.S.rep n (zEl c))=n.toNat:=by unfold Go.Jx.S.rep;simp
 have u:ARel E c (Go.Jx.S.rep n (zEl c)) (madeCells a.zero.cells (m.toNat*csz c)).toList.toArray:=by
  refine⟨fun _ j=>B.getD j .nilFunc,fun i F j o=>?_,fun i F j o=>?_⟩
  ·rw[b] at F;have W:i*csz c+j<m.toNat*csz c:=by
    have:=pw (csz c) (show i+1<=m.toNat by omega)
    grind
   have J:(i*csz c+j) % csz c=j:=by rw[Nat.add_comm,Nat.add_mul_mod_self_right];exact Nat.mod_eq_of_lt o
   simp only[Array.toArray_toList,madeCells]
   grind
  ·have e:(Go.Jx.S.rep n (zEl c))[i]=zEl c:=by
    have η:(Go.Jx.S.rep n (zEl c))[i]∈List.replicate n.toNat (zEl c):=p5 (l:=Go.Jx.S.rep n (zEl c)) F
    grind
   have y:j<B.length:=by rw[q];rw[jr] at o;exact o
   simp only[e] at o ⊢;rw[xn,xc y];exact L.2 j o y
 obtain⟨γ,α,K,Z,Y⟩:=qkn (c:=c) (l:=Go.Jx.S.rep n (zEl c)) (cells:=(madeCells a.zero.cells (m.toNat*csz c)).toList) (t:=e) (nc:=m.toNat) (w':=E.w.alloc (.cells (madeCells a.zero.cells (m.toNat*csz c)) e)) p rfl rfl rfl rfl (by rw[b];omega) (by omega)
  (by rw[b];exact py (rt _ G) (py v g)) (by simp[x]) (q6z β) u
 rw[b] at K;exact⟨_,γ,by rw[α];exact f,K,Z,Y⟩
theorem z0b{x y:fh}(h:qlq x y=i7):x=y:=by
 cases x<;>cases y<;>first|(cases h;done)|skip
 rw[xg h]
theorem zkx{ty:Nat}{v:IV}{u:oc}{r:Res}(htt:TT P tt)(p:Pre T E S)(h:qdf tt S ty v=iz r)(hv:VR E v u):Good P T E S (Instr.makeSlice ty u u) r:=by
 unfold qdf at h;split at h<;>try cases h
 cases hv;exact q5q htt p h (gr _)
theorem zls{ty:Nat}{v v':IV}{u u':oc}{r:Res}(htt:TT P tt)(p:Pre T E S)(h:qaa tt S ty v v'=iz r)(hv:VR E v u)(hv':VR E v' u'):Good P T E S (Instr.makeSlice ty u u') r:=by
 unfold qaa at h;split at h<;>try cases h
 rename_i k n b m;cases a:iltI m n with
 | true=>rw[a] at h;cases h
 | false =>
  rw[a,xe] at h;cases hv;cases hv';rw[qc] at a;exact q5q htt p h (by have:=gx a;omega)
def toU8:Lz IV->Oq (Lz Int)
 | []=>iz []
 | .int .u8 n::l=>match toU8 l with
  | some r=>iz (n::r)
  | none=>i6
 | _=>i6
theorem q61{E:Env}:∀{cs:Lz IV} {l:Lz Int} {us:Lz oc},toU8 cs=iz l->VRs E cs us->us.length=l.length/\∀i (h:i<l.length),us[i]?=iz (.int .u8 l[i])/\VR E (.int .u8 l[i]) (.int .u8 l[i])
 | [],l,us,h,hv=>by
  cases h;have:=hv.1
  grind
 | v::cs,l,us,h,hv=>by
  obtain⟨u,us,rfl,a1,a2⟩:=hv.inv;cases v<;>try (simp [toU8] at h;done)
  rename_i k n;cases k<;>try (simp [toU8] at h;done)
  simp only[toU8] at h;split at h<;>cases h;rename_i r hr;obtain⟨h1,h2⟩:=q61 hr a2;refine⟨by simp[h1],fun i hi=>?_⟩;cases i with
  | zero =>
   cases a1 with
   | int _ _ hw=>exact⟨rfl,.int _ _ hw⟩
  | succ i=>exact h2 i (by simpa using hi)
theorem zw7{E:Env}{l:Lz Int}{ur:Lz oc}(h:∀i (h:i<l.length),ur[i]?=iz (.int .u8 l[i])/\VR E (.int .u8 l[i]) (.int .u8 l[i])):ARel E (.int .u8) l ur.toArray:=by
 refine⟨fun i _=>(ur[i]?).getD .nilFunc,fun i d j c=>?_,fun i d j c=>?_⟩
 ·have b:i<oq (α:=Int) l:=d;have a:j=0:=by have:j<1:=c;omega
  subst a;show ur.toArray[i*1+0]?=iz ((ur[i]?).getD .nilFunc)
  grind
 ·have b:i<oq (α:=Int) l:=d;have a:j=0:=by have:j<1:=c;omega
  subst a;have:=(h i b).2;show VR E (.int .u8 _) ((ur[i]?).getD .nilFunc);rw[(h i b).1];exact this
def qev(tt:Nat->Oq TI)(S:IS)(ty len:Nat)(ps:Lz (Nat × IV)):Oq Res :=
 match tt ty with
 | none=>i6
 | some ti=>match ti.und with
  | .slice e=>cond (od e u8T) (match tt e with
   | none=>i6
   | some te=>cond (od te.sz 1&&og len 16777216) (match len,ps with
    | 0,[]=>iz ⟨.arr S.next,S.new (.arr (.int .u8) ([]:Lz Int)),0,0⟩
    | _,_=>match ofVs te.zero.cells.toList with
     | none=>i6
     | some zs=>cond (od zs.length 1&&oo 0 len) (match tu ((fv len).map fun i=>(i*1,1)) (repI zs len) ps with
      | none=>i6
      | some r=>match toU8 r with
       | none=>i6
       | some l=>cond (od l.length len) (iz ⟨.arr S.next,S.new (.arr (.int .u8) l),0,0⟩) i6) i6) i6) i6
  | _=>i6
section
variable {P : om} {tt : Nat -> Oq TI} {T : TW} {E : Env} {S : IS}
theorem zvp{ty len:Nat}{ps:Lz (Nat × IV)}{qs:Lz (Nat × oc)}{r:Res}(htt:TT P tt)(p:Pre T E S)(h:qev tt S ty len ps=iz r)(hp:VPs E ps qs):Good P T E S (mc ty len qs.toArray) r:=by
 unfold qev at h;split at h
 ·grind
 rename_i W A;have d:=htt _ _ A;split at h<;>try cases h
 rename_i e R;rw[R] at d;cases b:od e u8T with
 | false=>rw[b] at h;cases h
 | true =>
 rw[b,xa] at h;have o:=xg b;split at h
 ·grind
 rename_i I B;have L:=htt _ _ B;cases a:(od I.sz 1&&og len 16777216) with
 | false=>rw[a] at h;cases h
 | true =>
 rw[a,xa] at h;simp only[xf] at a;have k:=xg a.1;have K:=xk a.2;split at h
 ·cases h;cases qs with
  | cons _ _=>exact hp.elim
  | nil =>
  obtain⟨u,H,s,G,F⟩:=qkn (c:=.int .u8) (l:=([]:Lz Int)) (cells:=[]) (t:=e) (nc:=0) (w':={ E.w with heap:=E.w.heap.push (.cells #[] e) }) p rfl rfl rfl rfl (xl _) (by omega) (pm _) (pm _) (fun _=>o) (qw8 _ _ _);exact⟨_,u,by rw[H];exact q8z d L,s,G,F⟩
 ·split at h
  ·grind
  rename_i M x;cases q:(od M.length 1&&oo 0 len) with
  | false=>rw[q] at h;cases h
  | true =>
  rw[q,xa] at h;simp only[xf] at q;have Q:=xg q.1;have O:0<len:=by simpa using q.2
  split at h
  ·grind
  rename_i r N;split at h
  ·grind
  rename_i l C;cases g:od l.length len with
  | false=>rw[g] at h;cases h
  | true =>
  rw[g,xa] at h;cases h;have f:=xg g;have J:=nf E x;have i:I.zero.cells.toList.length=1:=by rw[<- J.1,Q]
  have j:=q8k (n:=len) J (by rw[i];omega);rw[i] at j;obtain⟨v,z,y⟩:=qjw hp j N;obtain⟨V,U⟩:=q61 C y;have m:(mc ty len qs.toArray).run P E.w=.ok (.slice (iz ⟨E.w.heap.size,0,i6⟩) len len) { E.w with heap:=E.w.heap.push (.cells v.toArray e) } :=
   run_buildSlice (D:=.bool) d L rfl (by rw[k];simp;omega) (by rw[k];exact z)
  obtain⟨u,H,s,G,F⟩:=qkn (c:=.int .u8) (l:=l) (cells:=v) (t:=e) (nc:=len) (w':={ E.w with heap:=E.w.heap.push (.cells v.toArray e) }) p rfl rfl rfl rfl (dk f) (by omega) (by show l.length*1<=_;rw[f];omega) (by show len*1<=_;rw[V,f];omega) (fun _=>o)
   (zw7 U)
  refine⟨_,u,by rw[H];exact m,?_,G,F⟩;have s:VR u (.arr S.next) (.slice (iz ⟨E.w.heap.size,0,i6⟩) (oq (α:=Int) l) len):=s
  grind
end
end Go.Jx
end

/- Texts: ALS, Sx, Ops, App, App2, Qui, Tail, Own, Eq, In, Map, Jgl, Ja, Jb, Jc, Jd, Elt, Je, Jet. -/
import Derived.Tactics
import Derived.Below
import Derived.Deep.Quiet
import Derived.WalkKit
import Derived.Laws.Append
import Derived.StillTail
import Derived.RangeFuncNested
import Derived.TacticsIn
import Derived.WideMake
import Derived.Laws.BytesString
set_option linter.unusedVariables false
section
namespace Go
abbrev jaa:=@Go.Result.andThen_ok
abbrev jab:=@cond_true
abbrev jac:=@List.getElem?_eq_getElem
abbrev jad:=@Go.Sem.run_pure
abbrev jae:=@cond_false
abbrev jaf:=@Bool.and_eq_true
abbrev jag:=@Go.Sem.run_bind
abbrev jah:=@Nat.eq_of_beq_eq_true
abbrev jai:=@decide_eq_false
abbrev jaj:=@decide_eq_true
abbrev jak:=@if_neg
abbrev jal:=@List.getElem?_eq_some_iff
abbrev jam:=@if_pos
abbrev jan:=@Go.run_underlying
abbrev jao:=@Nat.le_of_ble_eq_true
abbrev jap:=@Nat.le_refl
abbrev jaq:=@Go.wpList_nil
abbrev jar:=@List.getD_eq_getElem?_getD
abbrev jas:=@List.getElem?_take
abbrev jat:=@List.getElem?_cons_zero
abbrev jau:=@of_decide_eq_true
abbrev jav:=@List.getElem?_toArray
abbrev jaw:=@Nat.mul_le_mul_right
abbrev jax:=@decide_eq_true_eq
abbrev jay:=@List.mem_iff_getElem
abbrev jaz:=@Nat.lt_of_lt_of_le
abbrev ja0:=@List.getElem_mem
abbrev ja1:=@List.mem_cons
abbrev ja2:=@List.getElem?_append_left
abbrev ja3:=@Bool.false_eq_true
abbrev ja4:=@List.length_append
abbrev ja5:=@Nat.le_trans
abbrev ja6:=@List.all_eq_true
abbrev ja7:=@Option.some.injEq
abbrev ja8:=@not_true_eq_false
abbrev ja9:=@Nat.zero_add
abbrev jba:=@Bool.not_false
abbrev jbb:=@Nat.add_mul
abbrev jbc:=@List.mem_cons_of_mem
abbrev jbd:=@List.length_map
abbrev jbe:=@Nat.add_sub_cancel_left
abbrev jbf:=@List.getElem?_append_right
abbrev jbg:=@Option.some.inj
abbrev jbh:=@Bool.not_true
abbrev jbi:=@List.mem_append
abbrev jbj:=@Nat.zero_le
abbrev jbk:=@List.length_cons
abbrev jbl:=@if_false
abbrev jbm:=@Nat.lt_or_ge
abbrev jbn:=@List.getElem?_cons_succ
abbrev jbo:=@List.length_eq_zero_iff
abbrev jbp:=@List.getElem?_eq_none
abbrev jbq:=@List.mem_cons_self
abbrev jbr:=@List.mem_of_getElem?
abbrev jbs:=@Bool.eq_iff_iff
abbrev jbt:=@List.getElem?_drop
abbrev jbu:=@List.mem_map
abbrev jbv:=@Nat.testBit_or
abbrev jbw:=@List.getElem?_map
abbrev jbx:=@List.length_take
abbrev jby:=@Nat.add_zero
abbrev jbz:=@List.mem_singleton
abbrev jb0:=@List.drop_eq_getElem_cons
abbrev jb1:=@List.getElem_append_right
abbrev jb2:=@Go.World.putObj_heap_same
abbrev jb3:=@Bool.true_and
abbrev jb4:=@if_true
abbrev jb5:=@List.getElem_append_left
abbrev jb6:=@Nat.beq_refl
abbrev jb7:=@List.nodup_iff_pairwise_ne
abbrev jb8:=@List.getElem_map
abbrev jb9:=@List.length_set
abbrev jca:=@List.getElem_take
abbrev jcb:=@Bool.or_eq_false_iff
abbrev jcc:=@List.map_cons
abbrev jcd:=@congrArg
abbrev jce:=@List.length_nil
abbrev jcf:=@List.any_eq_true
abbrev jcg:=@Go.World.putObj_heap_other
abbrev jch:=@Bool.not_eq_true'
abbrev jci:=@decide_eq_false_iff_not
abbrev jcj:=@Prod.mk.injEq
abbrev jck:=@Nat.lt_irrefl
abbrev jcl:=@Array.toList_inj
abbrev jcm:=@Nat.mul_le_mul_left
abbrev jcn:=@Int.toNat_natCast
abbrev jco:=@Nat.le_of_lt
abbrev jcp:=@List.all_cons
abbrev jcq:=@Nat.add_assoc
abbrev jcr:=@Array.getD_eq_getD_getElem?
abbrev jcs:=@List.findIdx?_eq_some_iff_getElem
abbrev jct:=@Go.World.alloc_heap_new
abbrev jcu:=@List.getElem_cons_zero
abbrev jcv:=@List.getElem_cons_succ
abbrev jcw:=@Decidable.not_not
abbrev jcx:=@List.ext_getElem?
abbrev jcy:=@List.pairwise_iff_getElem
abbrev jcz:=@Array.getElem?_modify
abbrev jc0:=@Nat.ble_eq_true_of_le
abbrev jc1:=@List.getElem?_set_ne
abbrev jc2:=@Go.getD_replicate_false
abbrev jc3:=@List.append_assoc
abbrev jc4:=@List.cons.injEq
abbrev jc5:=@Array.getElem?_eq_none
abbrev jc6:=@List.getElem?_set_self
abbrev jc7:=@List.take_of_length_le
abbrev jc8:=@Int.natCast_nonneg
abbrev jc9:=@Bool.and_self
abbrev jda:=@of_decide_eq_false
abbrev jdb:=@List.mem_append_right
abbrev jdc:=@List.take_succ_eq_append_getElem
abbrev jdd:=@List.mem_append_left
abbrev jde:=@List.mem_filter
abbrev jdf:=@Bool.or_eq_true
abbrev jdg:=@List.nodup_cons
abbrev jdh:=@Nat.testBit_mod_two_pow
abbrev jdi:=@Nat.zero_or
abbrev jdj:=@Nat.le_of_not_lt
abbrev jdk:=@List.not_mem_nil
abbrev jdl:=@Option.map_some
abbrev jdm:=@Go.callsIn_wide
abbrev jdn:=@List.append_nil
abbrev jdo:=@Nat.testBit_two_pow_sub_one
abbrev jdp:=@Prod.mk.inj
abbrev jdq:=@List.nodup_append
abbrev jdr:=@Bool.false_or
abbrev jds:=@List.length_range
abbrev jdt:=@Array.getElem?_eq_some_iff
abbrev jdu:=@Nat.eq_of_testBit_eq
abbrev jdv:=@Array.ext
abbrev jdw:=@Array.getElem?_eq_getElem
abbrev jdx:=@Classical.byContradiction
abbrev jdy:=@List.drop_zero
abbrev jdz:=@List.getElem_set
abbrev jd0:=@Nat.le_add_right
abbrev jd1:=@List.drop_length
abbrev jd2:=@Array.getElem?_push
abbrev jd3:=@List.map_congr_left
abbrev jd4:=@Nat.one_mul
abbrev jd5:=@List.mem_map_of_mem
abbrev jd6:=@Nat.testBit_two_pow_self
abbrev jd7:=@Nat.zero_mul
abbrev jd8:=@Go.run_convert_bytes_string
abbrev jd9:=@Nat.le_of_eq
abbrev jea:=@Int.ofNat_lt
abbrev jeb:=@Nat.eq_zero_or_pos
abbrev jec:=@Go.wp_skip
abbrev jed:=@Go.wp_block
abbrev jee:=@Option.map_eq_some_iff
abbrev jef:=@Array.getElem?_setIfInBounds_ne
abbrev jeg:=@Int.le_refl
abbrev jeh:=@Go.getD_set_ne
abbrev jei:=@List.any_eq_false
abbrev jej:=@List.mem_range
abbrev jek:=@Go.IntWalk.i64_in
abbrev jel:=@Array.eq_empty_of_size_eq_zero
abbrev jem:=@Int.mul_le_mul_of_nonpos_right
abbrev jen:=@List.mem_iff_getElem?
abbrev jeo:=@Nat.sub_zero
abbrev jep:=@Bool.and_eq_false_iff
abbrev jeq:=@List.take_append_drop
abbrev jer:=@List.take_length
abbrev jes:=@List.mem_eraseIdx_iff_getElem
abbrev jet:=@and_self
abbrev jeu:=@List.any_cons
abbrev jev:=@Go.run_program
abbrev jew:=@Array.length_toList
abbrev jex:=@Go.Result.ok.injEq
abbrev jey:=@Ne.symm
abbrev jez:=@Array.toList_modify
abbrev je0:=@Array.toList_append
abbrev je1:=@Nat.or_zero
abbrev je2:=@List.getElem_range
abbrev je3:=@List.findIdx?_cons
abbrev je4:=@List.find?_eq_none
abbrev je5:=@Bool.not_eq_false'
abbrev je6:=@List.all_nil
abbrev je7:=@List.mapM_cons
abbrev je8:=@Bool.false_and
abbrev je9:=@Nat.mod_lt
abbrev jfa:=@List.mapM_toArray
abbrev jfb:=@Nat.lt_trichotomy
abbrev jfc:=@Go.World.cells?_some
abbrev jfd:=@Nat.mul_one
abbrev jfe:=@Prod.eta
abbrev jff:=@List.cons.inj
abbrev jfg:=@List.length_drop
abbrev jfh:=@decide_eq_decide
abbrev jfi:=@Option.bind_some
abbrev jfj:=@List.nodup_range
abbrev jfk:=@Nat.mul_comm
abbrev jfl:=@Int.lt_or_le
abbrev jfm:=@List.any_nil
end Go
end

section
namespace Go.Sx
open Go Go.RowKit

def upd(σ:Nat->Value)(d:Nat)(v:Value):Nat->Value:=fun i=>cond (Nat.beq i d) v (σ i)
def mem?:List Nat->Nat->Bool
 | [],_=>false
 | d::l,i=>cond (Nat.beq i d) true (mem? l i)
def mix(ms:List Nat)(τ σ:Nat->Value):Nat->Value:=fun i=>cond (mem? ms i) (τ i) (σ i)
def argF:List Value->Nat->Value
 | [],_=>undef
 | v::_,0=>v
 | _::l,i+1=>argF l i
def Fr(n:Nat)(σ:Nat->Value):Act:=⟨((List.range n).map σ).toArray,[]⟩

theorem qnh{n:Nat}{σ:Nat->Value}{t:Nat}(h:t<n):(Fr n σ).tmps.getD t undef=σ t:=by
 simp[Fr,h]
theorem qgg{n:Nat}{σ:Nat->Value}{d:Nat}(v:Value):(Fr n σ).put (some d) v=Fr n (upd σ d v):=by
 simp only[Fr,Act.put,Act.mk.injEq,and_true];apply jdv
 ·simp
 ·intro i h1 h2;simp at h1 h2;simp only[List.setIfInBounds_toArray,List.getElem_toArray,jdz,jb8,je2,upd];by_cases e:d=i
  ·subst e;simp
  ·have:Nat.beq i d=false:=by
    rw[Bool.eq_false_iff];intro h;exact e (jah h).symm
   simp[e,this]

theorem zds(l:List Value)(i:Nat):argF l i=l.getD i undef:=by
 induction l generalizing i with
 | nil=>simp [argF]
 | cons v l ih=>cases i<;>simp [argF,ih]

theorem zhe(n:Nat)(l:List Value)(h:l.length<=n) :
  ({ tmps:=l.toArray++Array.replicate (n-l.toArray.size) undef,defers:=[] }:Act)=Fr n (argF l):=by
 simp only[Fr,Act.mk.injEq,and_true];apply jdv
 ·simp;omega
 ·intro i h1 h2;simp at h1 h2;simp only[List.getElem_toArray,jb8,je2,zds];by_cases e:i<l.length
  ·simp[e]
  ·simp[Array.getElem_append,e]

def ev(σ:Nat->Value):Operand->Value
 | .tmp t=>σ t
 | .const v=>v
 | .global g=>.pointer (some ⟨g,0,none⟩)
 | .func f=>.func (.func f) #[] #[]
def okO(n:Nat):Operand->Bool
 | .tmp t=>Nat.blt t n
 | _=>true
theorem qbk{n:Nat}{σ:Nat->Value}{x:Operand}(h:okO n x=true):(Fr n σ).eval x=ev σ x:=by
 cases x with
 | tmp t=>simp only[Act.eval,ev];exact qnh (by simpa [okO] using h)
 | const v=>rfl
 | global g=>rfl
 | func f=>rfl

def qb1:List Oper->Nat->Option Nat
 | [],_=>none
 | o::_,0=>o.dst
 | _::l,j+1=>qb1 l j
def qa2(ops:Array Oper)(σ:Nat->Value)(n:Nat):Option (Nat × Bool)->Bool
 | none=>true
 | some (j,want) =>
  match qb1 ops.toList j with
  | some t=>Nat.blt t n&&(match σ t with|.bool b=>cond want b (!b)|_=>false)
  | none=>false
theorem qhb(l:List Oper)(j:Nat):qb1 l j=(l[j]?).bind (·.dst):=by
 induction l generalizing j with
 | nil=>simp [qb1]
 | cons o l ih=>cases j<;>simp [qb1,ih]
theorem qjh{ops:Array Oper}{σ:Nat->Value}{n:Nat}{o:Oper}(h:qa2 ops σ n o.guard=true):Region.wanted o (yielded ops (Fr n σ).tmps)=true:=by
 unfold qa2 at h;split at h
 ·rename_i hg;simp [Region.wanted,hg]
 ·rename_i j want hg;rw[qhb] at h;split at h
  ·rename_i t ht;simp only[jaf] at h;obtain⟨h1,h2⟩:=h;have h1':t<n:=by simpa using h1
   split at h2
   ·rename_i b hb;simp only[Region.wanted,hg,yielded];have:(ops[j]?).bind (·.dst)=some t:=by simpa using ht
    rw[this];simp[Fr,h1',hb];cases want<;>cases b<;>simp_all
   ·cases h2
  ·cases h
structure Upd (S:List Nat) (w w':World):Prop where
 os:w'.os=w.os
 tape:w'.tape=w.tape
 output:w'.output=w.output
 size:w.heap.size<=w'.heap.size
 same:∀b,b<w.heap.size->b ∉ S->w'.heap[b]?=w.heap[b]?

abbrev Upd0(w w':World):Prop:=Upd [] w w'

def Ret(R:Value->World->Prop):Ending->World->Prop
 | .returned v,w=>R v w
 | _,_=>False

section
variable {P : Program} {n : Nat} {σ : Nat -> Value} {w : World} {Q : Exit -> Act -> World -> Prop} {ops : Array Oper} {rest : List Oper}
variable {d : Nat} {op : Op} {ty : TypeId} {pos : String} {aft : Array Edge} {g : Option (Nat × Bool)}

theorem enter{f:Nat}{fn:Func}{c:Code}{l:List Value}{R:Ending->World->Prop}{nt:Nat}(hf:P.funcs[f]?=some fn)(hb:fn.body=some c)(hn:fn.ntmps=nt)
  (hl:Nat.ble l.length nt=true) (h:c.wp P (bodyPost P fn R) (Fr nt (argF l)) w):Calls P f l.toArray w R:=by
 subst hn;refine calls_of_wp hf hb ?_;rw[zhe _ _ (jao hl)];exact h

theorem qr9{o:Oper}(hg:qa2 ops σ n o.guard=true)
  (h:∀K:Act->World->Prop,(∀a w,wpList P ops Q rest a w->K a w)->o.wp P (Fr n σ) w K Q):wpList P ops Q (o::rest) (Fr n σ) w :=
 wpList_step fun K hK=>by rw[qjh hg,jam rfl];exact h K hK

theorem qb6{v:Value}{w':World}(hg:qa2 ops σ n g=true)(h:(execOp (Fr n σ).eval ⟨some d,op,ty,pos,aft,g⟩).run P w=.ok (.value v) w')
  (k:wpList P ops Q rest (Fr n (upd σ d v)) w'):wpList P ops Q (⟨some d,op,ty,pos,aft,g⟩::rest) (Fr n σ) w:=by
 refine qr9 hg fun K hK=>?_;unfold Oper.wp;rw[h,Oper.upon_value,qgg];exact hK _ _ k

theorem qxf{w':World}(hg:qa2 ops σ n g=true)(h:(execOp (Fr n σ).eval ⟨none,op,ty,pos,aft,g⟩).run P w=.ok .skip w')
  (k:wpList P ops Q rest (Fr n σ) w'):wpList P ops Q (⟨none,op,ty,pos,aft,g⟩::rest) (Fr n σ) w:=by
 refine qr9 hg fun K hK=>?_;unfold Oper.wp;rw[h,Oper.upon_skip];exact hK _ _ k

theorem zqo{f:Nat}{args:Array Value}{w1:World}{R:Value->World->Prop}(hg:qa2 ops σ n g=true)(h:(execOp (Fr n σ).eval ⟨some d,op,ty,pos,aft,g⟩).run P w=.ok (.enter f args) w1)
  (hc:Calls P f args w1 (Ret R)) (k:∀v w',R v w'->wpList P ops Q rest (Fr n (upd σ d v)) w') :
  wpList P ops Q (⟨some d,op,ty,pos,aft,g⟩::rest) (Fr n σ) w:=by
 refine qr9 hg fun K hK=>?_;unfold Oper.wp;rw[h,Oper.upon_enter];refine hc.mono fun e w' he=>?_;cases e with
 | returned v=>show K ((Fr n σ).put (some d) v) w';rw[qgg];exact hK _ _ (k v w' he)
 | panicked c=>exact he.elim
 | outgrown=>exact he.elim

theorem zb9{σ:Nat->Value}{t:Nat}{v:Value}(h:σ t=v):upd σ t v=σ:=by
 funext i;unfold upd;cases hb:Nat.beq i t with
 | false=>rfl
 | true=>have:=jah hb;subst this;exact h.symm
theorem qak{x y:Code}{a:Act}(h:∀K:Act->World->Prop,(∀a w,y.wp P Q a w->K a w)->x.wp P (Exit.then K Q) a w):(Code.seq x y).wp P Q a w:=wp_seq_k h
theorem c_if{c:Operand}{x y:Code}{p:Prop}[Decidable p](hx:okO n c=true)(hc:ev σ c=.bool (decide p))(ht:p->x.wp P Q (Fr n σ) w)(hf:¬p->y.wp P Q (Fr n σ) w) :
  (Code.cond c x y).wp P Q (Fr n σ) w:=by
 rw[<- qbk hx] at hc;by_cases hp:p
 ·exact wp_cond (t:=true) (by simpa [hp] using hc) (ht hp)
 ·exact wp_cond (t:=false) (by simpa [hp] using hc) (hf hp)
theorem qpu{c:Operand}{x y:Code}{p:Prop}[Decidable p](hx:okO n c=true)(hc:ev σ c=.bool (decide (¬p)))(ht:¬p->x.wp P Q (Fr n σ) w)(hf:p->y.wp P Q (Fr n σ) w) :
  (Code.cond c x y).wp P Q (Fr n σ) w :=
 c_if hx hc ht fun h=>hf (jcw.1 h)
theorem qap{id:Nat}{l:List Oper}{a:Act}(h:wpList P l.toArray Q l a w):(Code.region id l.toArray false).wp P Q a w:=wp_region_lit h
def upds:List (Nat × Value)->(Nat->Value)->Nat->Value
 | [],σ=>σ
 | (i,v)::l,σ=>upd (upds l σ) i v
def chk:List (Nat × Value)->(Nat->Value)->Prop
 | [],_=>True
 | (i,v)::l,σ=>σ i=v/\chk l σ
def qag(ms:List Nat)(τ σ:Nat->Value):Prop:=∀i,mem? ms i=false->τ i=σ i
theorem qag.refl(ms:List Nat)(σ:Nat->Value):qag ms σ σ:=fun _ _=>rfl
theorem qag.upd{ms:List Nat}{τ σ:Nat->Value}{d:Nat}{v:Value}(hd:mem? ms d=true)(h:qag ms τ σ):qag ms (upd τ d v) σ:=fun i hi=>by
 unfold Sx.upd;cases hb:Nat.beq i d with
 | false=>exact h i hi
 | true=>have:=jah hb;subst this;rw[hd] at hi;cases hi
def sub?:List Nat->List Nat->Bool
 | [],_=>true
 | d::l,ms=>cond (mem? ms d) (sub? l ms) false
theorem qzt:∀(l ms:List Nat),sub? l ms=true->∀i,mem? ms i=false->mem? l i=false
 | [],_,_,_,_=>rfl
 | d::l,ms,h,i,hi=>by
  unfold sub? at h;cases hd:mem? ms d with
  | false=>rw[hd] at h;cases h
  | true =>
   rw[hd] at h;unfold mem?;cases hb:Nat.beq i d with
   | false=>exact qzt l ms h i hi
   | true=>have:=jah hb;subst this;rw[hd] at hi;cases hi
theorem qag.mix{ms ms':List Nat}{τ σ' σ:Nat->Value}(hs:sub? ms' ms=true)(h:qag ms σ' σ):qag ms (mix ms' τ σ') σ:=fun i hi=>by
 unfold Sx.mix;rw[qzt _ _ hs i hi];exact h i hi
def keys:List (Nat × Value)->List Nat
 | []=>[]
 | (i,_)::l=>i::keys l
theorem qag.upds{ms:List Nat}{τ σ:Nat->Value}:∀{l:List (Nat × Value)},sub? (keys l) ms=true->qag ms τ σ->qag ms (upds l τ) σ
 | [],_,h=>h
 | (i,v)::l,hs,h=>by
  unfold keys sub? at hs;cases hd:mem? ms i with
  | false=>rw[hd] at hs;cases hs
  | true=>rw[hd] at hs;exact qag.upd hd (qag.upds hs h)
theorem lc{α:Type}{a a':α}{l l':List α}(h:a=a')(h':l=l'):a::l=a'::l':=by rw[h,h']
theorem q0a:∀(l:List (Nat × Value)) (σ:Nat->Value),chk l σ->upds l σ=σ
 | [],_,_=>rfl
 | (i,v)::l,σ,h=>by
  unfold upds;rw[q0a l σ h.2];exact zb9 h.1
theorem zp1{ms:List Nat}{τ σ:Nat->Value}(h:qag ms τ σ):mix ms τ σ=τ:=by
 funext i;unfold Sx.mix;cases hm:mem? ms i with
 | true=>rfl
 | false=>exact(h i hm).symm
theorem q3o{ms:List Nat}{l:List (Nat × Value)}{τ σ:Nat->Value}(h:qag ms τ σ)(hc:chk l τ):upds l (mix ms τ σ)=τ:=by
 rw[zp1 h,q0a l τ hc]

theorem zlk{P:Program}{Q:Exit->Act->World->Prop}{c:Code}{X:Type}(I:X->Act->World->Prop)(μ:X->Nat)
  (round:∀x a w,I x a w->c.wp P (Exit.then (fun a' w'=>∃x',μ x'<μ x/\I x' a' w') Q) a w):∀x a w,I x a w->(Code.loop c).wp P Q a w:=by
 have key:∀n x a w,μ x=n->I x a w->∀(b:Frame) (k:List Item) (cs:List Frame),
   ∃e a' w',Q e a' w'/\Arrives P (lone (b.at a (.code c::.inLoop c::k)) cs w) b k cs e a' w':=by
  intro n;induction n using Nat.strongRecOn with
  | _ n ih =>
   intro x a w hn hI b k cs;obtain⟨e,a₁,w₁,hq,harr⟩:=round x a w hI b (.inLoop c::k) cs;cases e with
   | normal =>
    obtain⟨x',hlt,hI₁⟩:=hq;obtain⟨e₂,a₂,w₂,hq₂,harr₂⟩:=ih (μ x') (hn▸hlt) x' a₁ w₁ rfl hI₁ b k cs;exact⟨e₂,a₂,w₂,hq₂,.of_steps (Steps.trans harr (.one step_inLoop)) harr₂⟩
   | exit id=>exact⟨_,a₁,w₁,hq,.pass (x:=.inLoop c) rfl (fun _ _=>.inl (by simp)) harr⟩
   | goto l=>exact⟨_,a₁,w₁,hq,.pass (x:=.inLoop c) rfl (fun _ _=>.inl (by simp)) harr⟩
   | ret=>exact⟨_,a₁,w₁,hq,.pass (x:=.inLoop c) rfl (fun _ _=>.inl (by simp)) harr⟩
   | panic ch=>exact⟨_,a₁,w₁,hq,.pass (x:=.inLoop c) rfl (fun _ _=>.inl (by simp)) harr⟩
   | outgrown=>exact⟨_,a₁,w₁,hq,.pass (x:=.inLoop c) rfl (fun _ _=>.inl (by simp)) harr⟩
 intro x a w hI b k cs;obtain⟨e,a',w',hq,harr⟩:=key _ x a w rfl hI b k cs;exact⟨e,a',w',hq,.of_steps (.one step_loop) harr⟩

theorem qgh{c:Code}{X:Type}(ms:List Nat)(sl:X->List (Nat × Value))(J:X->World->Prop)(μ:X->Nat)(x0:X)(hs:chk (sl x0) σ)(h0:J x0 w)
  (round:∀x τ w1,J x w1->c.wp P (Exit.then (fun a' w'=>∃x',μ x'<μ x/\J x' w'/\∃σ',a'=Fr n σ'/\qag ms σ' σ/\chk (sl x') σ') Q) (Fr n (upds (sl x) (mix ms τ σ))) w1) :
  (Code.loop c).wp P Q (Fr n σ) w:=by
 refine zlk (I:=fun x a w1=>J x w1/\∃σ',a=Fr n σ'/\qag ms σ' σ/\chk (sl x) σ') μ ?_ x0 _ _ ⟨h0,σ,rfl,qag.refl _ _,hs⟩;rintro x a w1 ⟨hJ,σ',rfl,ha,hc⟩;have:=round x σ' w1 hJ
 rwa [q3o ha hc] at this
theorem quu{c y:Code}{X:Type}(ms:List Nat)(sl:X->List (Nat × Value))(J:X->World->Prop)
  (h:c.wp P (Exit.then (fun a' w'=>∃x',J x' w'/\∃σ',a'=Fr n σ'/\qag ms σ' σ/\chk (sl x') σ') Q) (Fr n σ) w)
  (k:∀x τ w1,J x w1->y.wp P Q (Fr n (upds (sl x) (mix ms τ σ))) w1):(Code.seq c y).wp P Q (Fr n σ) w:=by
 refine wp_seq (Code.wp_mono ?_ h);intro e a w1 hq;cases e with
 | normal =>
  obtain⟨x',hJ,σ',rfl,ha,hc⟩:=hq;have:=k x' σ' w1 hJ;rw[q3o ha hc] at this;exact this
 | _=>exact hq
end


theorem Upd.refl(S:List Nat)(w:World):Upd S w w:=⟨rfl,rfl,rfl,jap _,fun _ _ _=>rfl⟩
theorem Upd.trans{S:List Nat}{a b c:World}(h:Upd S a b)(k:Upd S b c):Upd S a c :=
 ⟨k.os.trans h.os,k.tape.trans h.tape,k.output.trans h.output,ja5 h.size k.size,
  fun i hi hs=>(k.same i (jaz hi h.size) hs).trans (h.same i hi hs)⟩
theorem Upd.mono{S T:List Nat}{a b:World}(h:Upd S a b)(hs:∀x∈S,x∈T):Upd T a b :=
 ⟨h.os,h.tape,h.output,h.size,fun i hi hn=>h.same i hi fun hm=>hn (hs i hm)⟩
theorem Upd.drew(S:List Nat)(w:World):Upd S w { w with drawn:=w.drawn+1 }:=⟨rfl,rfl,rfl,jap _,fun _ _ _=>rfl⟩
theorem Upd.below{w w':World}(h:Upd [] w w'):Below w.heap.size w w' :=
 ⟨h.os,h.tape,h.output,h.size,fun k hk=>h.same k hk (by simp)⟩
structure Tr (M:List Nat) (w:World) (M':List Nat) (w':World):Prop where
 keep:∀b,b<w.heap.size->b ∉ M->b ∉ M'/\w'.heap[b]?=w.heap[b]?
theorem Tr.refl(M:List Nat)(w:World):Tr M w M w:=⟨fun _ _ h=>⟨h,rfl⟩⟩
theorem Tr.lt{M M':List Nat}{w w':World}(h:Tr M w M' w'){b:Nat}(hb:b<w.heap.size)(hm:b ∉ M):b<w'.heap.size:=by
 have:=(h.keep b hb hm).2;rw[jdw hb] at this;rcases jbm b w'.heap.size with h'|h'
 ·exact h'
 ·rw[jc5 h'] at this;cases this
theorem Tr.trans{M M' M'':List Nat}{w w' w'':World}(h:Tr M w M' w')(k:Tr M' w' M'' w''):Tr M w M'' w'' :=
 ⟨fun b hb hm=>by
  obtain⟨h1,h2⟩:=h.keep b hb hm;obtain⟨h3,h4⟩:=k.keep b (h.lt hb hm) h1;exact⟨h3,h4.trans h2⟩⟩
theorem Tr.sub{M M':List Nat}(w:World)(h:∀b∈M',b∈M):Tr M w M' w:=⟨fun b _ hm=>⟨fun h'=>hm (h b h'),rfl⟩⟩

structure Evo (m:List Nat) (w:World) (m':List Nat) (w':World):Prop where
 os:w'.os=w.os
 tape:w'.tape=w.tape
 output:w'.output=w.output
 size:w.heap.size<=w'.heap.size
 own:∀b∈m',b∈m\/w.heap.size<=b
 lo:(∀b∈m,b<w.heap.size)->∀b∈m',b<w'.heap.size
 same:∀b,b<w.heap.size->b ∉ m->w'.heap[b]?=w.heap[b]?
theorem Evo.refl(m:List Nat)(w:World):Evo m w m w:=⟨rfl,rfl,rfl,jap _,fun _ h=>.inl h,fun h=>h,fun _ _ _=>rfl⟩
theorem Evo.trans{m m' m'':List Nat}{w w' w'':World}(h:Evo m w m' w')(k:Evo m' w' m'' w''):Evo m w m'' w'' :=
 ⟨k.os.trans h.os,k.tape.trans h.tape,k.output.trans h.output,ja5 h.size k.size,
  fun b hb=>by
    rcases k.own b hb with h1|h1
    · exact h.own b h1
    · exact .inr (ja5 h.size h1),
  fun hl=>k.lo (h.lo hl),
  fun b hb hm=>by
    refine(k.same b (jaz hb h.size) fun h'=>?_).trans (h.same b hb hm);rcases h.own b h' with h1|h1
    · exact hm h1
    · omega⟩
theorem Evo.tr{m m':List Nat}{w w':World}(h:Evo m w m' w')(M:List Nat):Tr (m++M) w (m'++M) w' :=
 ⟨fun b hb hm=>by
  simp only[jbi,not_or] at hm ⊢;refine⟨⟨fun h'=>?_,hm.2⟩,h.same b hb hm.1⟩;rcases h.own b h' with h1|h1
  ·exact hm.1 h1
  ·omega⟩
theorem Evo.old{m:List Nat}{w w':World}(h:Evo [] w m w'):Upd [] w w' :=
 ⟨h.os,h.tape,h.output,h.size,fun b hb _=>h.same b hb (by simp)⟩
theorem Upd.evo{S m:List Nat}{w w':World}(h:Upd S w w')(hs:∀b∈S,b∈m):Evo m w m w' :=
 ⟨h.os,h.tape,h.output,h.size,fun _ h=>.inl h,fun hl b hb=>jaz (hl b hb) h.size,fun b hb hm=>h.same b hb fun h'=>hm (hs b h')⟩
theorem Upd.evo0{m:List Nat}{w w':World}(h:Upd [] w w'):Evo m w m w':=h.evo (by simp)
theorem Upd.evoN{m:List Nat}{w w':World}(h:Upd [] w w'){β:Nat}(hb:w.heap.size=β)(hz:w'.heap.size=β+1):Evo m w (β::m) w' :=
 ⟨h.os,h.tape,h.output,h.size,fun b hb'=>by
  simp only[ja1] at hb';rcases hb' with rfl|h'
  ·exact .inr (by omega)
  ·exact .inl h',fun hl b hb'=>by
  simp only[ja1] at hb';rcases hb' with rfl|h'
  ·omega
  ·have:=hl b h';omega,fun b hb _=>h.same b hb (by simp)⟩
theorem Evo.drop{m m' m'':List Nat}{w w':World}(h:Evo m w m' w')(hs:∀b∈m'',b∈m'):Evo m w m'' w' :=
 ⟨h.os,h.tape,h.output,h.size,fun b hb=>h.own b (hs b hb),fun hl b hb=>h.lo hl b (hs b hb),h.same⟩
def Lo(M:List Nat)(w:World):Prop:=∀b∈M,b<w.heap.size
theorem Lo.mono{M:List Nat}{w w':World}(h:Lo M w)(hs:w.heap.size<=w'.heap.size):Lo M w':=fun b hb=>jaz (h b hb) hs


def one:Value->Bool
 | .agg _=>false
 | .tuple _=>false
 | _=>true
class Dat (α:Type) where
 sz:Nat
 enc:List Nat->World->List Value->α->Prop
 len:∀{M w cs x},enc M w cs x->cs.length=sz
 mono:∀{M M' w w' cs x},enc M w cs x->Tr M w M' w'->enc M' w' cs x
 ones:∀{M w cs x},enc M w cs x->cs.all one=true
open Dat (enc)

def SL{α:Type}[Dat α](M:List Nat)(w:World)(a:Option Addr)(cap:Nat)(l:List α):Prop :=
 (l.length<=cap/\cap<9223372036854775808) /\
  (l=[]\/∃b off cells t fz,a=some ⟨b,off,none⟩/\b ∉ M/\w.heap[b]?=some (.cells cells t fz) /\
   ∀i (h:i<l.length),∃cs,enc M w cs l[i]/\∀j,j<Dat.sz α->cells[off+i*Dat.sz α+j]?=cs[j]?)

theorem qbd{w:World}{b:Nat}{o:Obj}(hh:w.heap[b]?=some o):b<w.heap.size:=by
 rcases jbm b w.heap.size with h'|h'
 ·exact h'
 ·rw[jc5 h'] at hh;cases hh

theorem SL.mono{α:Type}[Dat α]{M M':List Nat}{w w':World}{a:Option Addr}{cap:Nat}{l:List α}(h:SL M w a cap l)(t:Tr M w M' w'):SL M' w' a cap l:=by
 obtain⟨hc,h⟩:=h;refine⟨hc,?_⟩;rcases h with h|⟨b,off,cells,ty,fz,ha,hb,hh,hi⟩
 ·exact .inl h
 ·obtain⟨h1,h2⟩:=t.keep b (qbd hh) hb;refine .inr ⟨b,off,cells,ty,fz,ha,h1,h2.trans hh,fun i h=>?_⟩;obtain⟨cs,he,hcs⟩:=hi i h;exact⟨cs,Dat.mono he t,hcs⟩
theorem SL.nil{α:Type}[Dat α]{M:List Nat}{w:World}:SL M w none 0 ([]:List α):=⟨⟨jap _,by omega⟩,.inl rfl⟩
theorem qpn{α:Type}{l:List α}{k:Nat}{x:α}(h:l[k]?=some x):l.drop k=x::l.drop (k+1):=by
 obtain⟨hk,rfl⟩:=jal.1 h;exact jb0 hk
instance:Dat Int where
 sz:=1
 enc _ _ cs x:=cs=[.int .i64 x]
 len h:=by rw[h];rfl
 mono h _:=h
 ones h:=by rw[h];rfl
instance:Dat UInt8 where
 sz:=1
 enc _ _ cs x:=cs=[.int .u8 x.toNat]
 len h:=by rw[h];rfl
 mono h _:=h
 ones h:=by rw[h];rfl
instance:Dat Bool where
 sz:=1
 enc _ _ cs x:=cs=[.bool x]
 len h:=by rw[h];rfl
 mono h _:=h
 ones h:=by rw[h];rfl
instance:Dat ByteArray where
 sz:=1
 enc _ _ cs x:=cs=[.string x]
 len h:=by rw[h];rfl
 mono h _:=h
 ones h:=by rw[h];rfl
instance {α:Type} [Dat α]:Dat (List α) where
 sz:=1
 enc M w cs l:=∃a cap,cs=[.slice a l.length cap]/\SL M w a cap l
 len h:=by obtain⟨a,c,h,_⟩:=h;rw[h];rfl
 mono h t:=by obtain⟨a,c,h,hs⟩:=h;exact⟨a,c,h,hs.mono t⟩
 ones h:=by obtain⟨a,c,h,_⟩:=h;rw[h];rfl

def At{α:Type}[Dat α](M:List Nat)(w:World)(ad:Addr)(x:α):Prop :=
 ad.spot=none/\ad.block ∉ M/\ad.block<w.heap.size/\∃cs,enc M w cs x/\∀j,j<Dat.sz α->w.cell? ⟨ad.block,ad.off+j,none⟩=cs[j]?
theorem At.mono{α:Type}[Dat α]{M M':List Nat}{w w':World}{ad:Addr}{x:α}(h:At M w ad x)(t:Tr M w M' w'):At M' w' ad x:=by
 obtain⟨h0,h1,h2,cs,h3,h4⟩:=h;obtain⟨h5,h6⟩:=t.keep _ h2 h1;refine⟨h0,h5,t.lt h2 h1,cs,Dat.mono h3 t,fun j hj=>?_⟩;rw[<- h4 j hj];simp only[World.cell?,h6]

theorem SL.at{α:Type}[Dat α]{M:List Nat}{w:World}{a:Option Addr}{cap:Nat}{l:List α}(h:SL M w a cap l){i:Nat}(hi:i<l.length) :
  ∃b off,a=some ⟨b,off,none⟩/\At M w ⟨b,off+i*Dat.sz α,none⟩ l[i]:=by
 obtain⟨hc,h⟩:=h;rcases h with h|⟨b,off,cells,ty,fz,ha,hb,hh,hall⟩
 ·subst h;simp at hi
 ·subst ha;obtain⟨cs,he,hcs⟩:=hall i hi;refine⟨b,off,rfl,rfl,hb,qbd hh,cs,he,fun j hj=>?_⟩;rw[<- hcs j hj];simp [World.cell?,hh]

def Box(w:World)(β:Nat)(cs:List Value):Prop:=∃t,w.heap[β]?=some (.cells cs.toArray t (0,0))
theorem Box.lt{w:World}{β:Nat}{cs:List Value}(h:Box w β cs):β<w.heap.size:=by
 obtain⟨t,h⟩:=h;rcases jbm β w.heap.size with h'|h'
 ·exact h'
 ·rw[jc5 h'] at h;cases h
theorem Box.mono{S:List Nat}{w w':World}{β:Nat}{cs:List Value}(h:Box w β cs)(u:Upd S w w')(hs:β ∉ S):Box w' β cs:=by
 have:=h.lt;obtain⟨t,h⟩:=h;exact⟨t,(u.same β this hs).trans h⟩
theorem Box.mono0{w w':World}{β:Nat}{cs:List Value}(h:Box w β cs)(u:Upd [] w w'):Box w' β cs:=h.mono u (by simp)
theorem Box.cell{w:World}{β:Nat}{cs:List Value}(h:Box w β cs)(j:Nat):w.cell? ⟨β,j,none⟩=cs[j]?:=by
 obtain⟨t,h⟩:=h;simp[World.cell?,h]
end Go.Sx
end

section
namespace Go.Sx
open Go Go.RowKit
open Go.Sx.Dat (enc)

structure Ty (P:Program) (T:TypeId) (d:TypeDesc) (size bytes:Nat) (zero:Value):Prop where
 und:P.underlying T=some d
 inf:∃i,P.info? T=some i/\i.size=size/\i.bytes=bytes/\i.zero=some zero

theorem Ty.mk'{P:Program}{T:TypeId}{d:TypeDesc}{size bytes:Nat}{zero:Value}(h1:P.underlying T=some d)(h2:(P.info? T).map (fun i=>(i.size,i.bytes,i.zero))=some (size,bytes,some zero)):Ty P T d size bytes zero:=by
 refine⟨h1,?_⟩;cases h:P.info? T with
 | none=>rw[h] at h2;cases h2
 | some i =>
  rw[h] at h2;simp only[jdl,ja7,jcj] at h2;exact⟨i,rfl,h2⟩
def qa7:TypeDesc->Bool
 | .struct _=>false
 | .array _ _=>false
 | _=>true

def putL:List Value->Nat->List Value->List Value
 | cs,_,[]=>cs
 | cs,o,v::vs=>putL (cs.set o v) (o+1) vs

section
variable {P : Program} {w : World} {T : TypeId} {D : TypeDesc} {size bytes : Nat} {zero : Value}

theorem qg8(h:Ty P T D size bytes zero):(isAgg T).run P w=.ok (!qa7 D) w:=by
 cases D<;>simp [isAgg,go_sem,jan h.und,qa7]
theorem run_sizeOf(h:Ty P T D size bytes zero):(sizeOf T).run P w=.ok size w:=by
 obtain⟨i,h1,h2,_,_⟩:=h.inf;simp[sizeOf,go_sem,typeInfo,h1,h2]
theorem run_zeroValue(h:Ty P T D size bytes zero):(zeroValue T).run P w=.ok zero w:=by
 obtain⟨i,h1,_,_,h2⟩:=h.inf;simp[zeroValue,go_sem,typeInfo,h1,h2]
theorem qga(h:Ty P T D size bytes zero)(hd:qa7 D=true){ad:Addr}{v:Value}(hc:w.cell? ad=some v) :
  (Instr.loadAt T (.pointer (some ad))).run P w=.ok v w:=by
 simp[Instr.loadAt,Instr.sureAddr,loadVar,go_sem,qg8 h,hd,load,Sem.run,hc]

theorem qbe(ad:Addr)(h:ad.spot=none)(j:Nat):ad.add j=⟨ad.block,ad.off+j,none⟩:=by
 cases ad;simp only at h;subst h;unfold Addr.add;split
 ·subst_vars;rfl
 ·rfl
theorem run_loadCellsFrom{ad:Addr}:∀(cs:List Value) (i:Nat) (acc:Array Value),(∀j,j<cs.length->w.cell? (ad.add (i+j))=cs[j]?) ->
  (loadCellsFrom ad i cs.length acc).run P w=.ok (acc++cs.toArray) w
 | [],i,acc,_=>by simp[loadCellsFrom,go_sem]
 | c::cs,i,acc,h=>by
  have h0:=h 0 (by simp);have ih:=run_loadCellsFrom cs (i+1) (acc.push c) (fun j hj=>by
   have:=h (j+1) (by simp;omega);rw[show i+1+j=i+(j+1) by omega,this];simp)
  simp only[jbk,loadCellsFrom];simp only[jby,jat] at h0;simp[go_sem,load,Sem.run,h0,ih]
theorem qg9(h:Ty P T D size bytes zero)(hd:qa7 D=false){ad:Addr}(hs:ad.spot=none){cs:List Value}(hl:cs.length=size)
  (hc:∀j,j<size->w.cell? ⟨ad.block,ad.off+j,none⟩=cs[j]?) :
  (Instr.loadAt T (.pointer (some ad))).run P w=.ok (.agg cs.toArray) w:=by
 subst hl;have:=run_loadCellsFrom (P:=P) (w:=w) (ad:=ad) cs 0 #[] (fun j hj=>by rw[qbe ad hs];simpa using hc j hj);simp[Instr.loadAt,Instr.sureAddr,loadVar,go_sem,qg8 h,run_sizeOf h,hd,loadCells,this]

theorem Upd.push(w:World)(o:Obj):Upd [] w { w with heap:=w.heap.push o } :=
 ⟨rfl,rfl,rfl,by simp,fun b hb _=>by
  show (w.heap.push o)[b]?=_;rw[jd2,jak (by omega)]⟩
theorem Box.push(w:World)(cs:List Value)(t:TypeId):Box { w with heap:=w.heap.push (.cells cs.toArray t) } w.heap.size cs :=
 ⟨t,by simp⟩

theorem run_store{β:Nat}:∀(vs:List Value) {w:World} {cs:List Value} (o i:Nat),Box w β cs->o+i+vs.length<=cs.length->vs.all one=true ->
  ∃w',(storeCells ⟨β,o,none⟩ vs i).run P w=.ok () w'/\Box w' β (putL cs (o+i) vs)/\Upd [β] w w'/\w'.heap.size=w.heap.size
 | [],w,cs,o,i,hb,_,_=>⟨w,by simp[storeCells,go_sem],hb,Upd.refl _ _,rfl⟩
 | v::vs,w,cs,o,i,hb,hl,ho=>by
  simp only[jcp,jaf,jbk] at ho hl;have hlt:=hb.lt;obtain⟨t,hh⟩:=hb;have hc:w.cell? ⟨β,o+i,none⟩=cs[o+i]?:=by simp[World.cell?,hh]
  have hcv:cs[o+i]?=some cs[o+i]:=by rw[jac (by omega)]
  have hfz:w.frozen? ⟨β,o+i,none⟩=false:=by simp[World.frozen?,hh]
  have hb1:Box (w.setCell ⟨β,o+i,none⟩ v) β (cs.set (o+i) v):=by
   refine⟨t,?_⟩;simp[World.setCell,jcz,hh]
  have hu:Upd [β] w (w.setCell ⟨β,o+i,none⟩ v):=by
   refine⟨rfl,rfl,rfl,by simp[World.setCell],fun b hb hm=>?_⟩;simp only[World.setCell,jcz];rw[jak];simp at hm;omega
  obtain⟨w',h1,h2,h3,h4⟩:=run_store vs o (i+1) hb1 (by simp;omega) ho.2;refine⟨w',?_,?_,hu.trans h3,?_⟩
  ·have e:(⟨β,o,none⟩:Addr).add i=⟨β,o+i,none⟩:=qbe _ rfl _;have hst:(store ⟨β,o+i,none⟩ v).run P w=.ok () (w.setCell ⟨β,o+i,none⟩ v):=by
    have hv1:=ho.1;cases v with
    | agg _=>simp [one] at hv1
    | tuple _=>simp [one] at hv1
    | _=>simp only[store,Sem.run,hc,hcv,hfz];rfl
   simp only[storeCells,e,jag];rw[hst];exact h1
  ·simpa [putL,jcq] using h2
  ·rw[h4];simp [World.setCell]
theorem qvo(h:Ty P T D size bytes zero){β o:Nat}{cs:List Value}{v:Value}(hb:Box w β cs)(hv:v.cells.size=size)(hl:o+size<=cs.length)
  (ho:v.cells.toList.all one=true) :
  ∃w',(Instr.storeAt T (.pointer (some ⟨β,o,none⟩)) v).run P w=.ok () w'/\Box w' β (putL cs o v.cells.toList)/\Upd [β] w w'/\w'.heap.size=w.heap.size:=by
 obtain⟨w',h1,h2⟩:=run_store (P:=P) v.cells.toList o 0 hb (by simp;omega) ho;refine⟨w',?_,h2⟩;simp only[Instr.storeAt,Instr.sureAddr,storeVar,jag,jad,jaa,run_sizeOf h,hv,ne_eq,ja8,jbl,h1]
end

section
variable {P : Program} {n : Nat} {σ : Nat -> Value} {w : World} {Q : Exit -> Act -> World -> Prop} {ops : Array Oper} {rest : List Oper}
variable {d : Nat} {ty : TypeId} {pos : String} {aft : Array Edge} {g : Option (Nat × Bool)}
variable {T T' E : TypeId} {D : TypeDesc} {size bytes : Nat} {zero : Value} {x y z : Operand}

theorem qam{v:Value}(hg:qa2 ops σ n g=true)(hx:okO n x=true)(ex:ev σ x=v)(k:wpList P ops Q rest (Fr n (upd σ d v)) w) :
  wpList P ops Q (⟨some d,.move x,ty,pos,aft,g⟩::rest) (Fr n σ) w :=
 qb6 hg (by simp only[execOp,qbk hx,ex,jad]) k
theorem qbr{v:Value}(hg:qa2 ops σ n g=true)(hx:okO n x=true)(ex:ev σ x=v)(k:wpList P ops Q rest (Fr n (upd σ d v)) w) :
  wpList P ops Q (⟨some d,.assign x,ty,pos,aft,g⟩::rest) (Fr n σ) w :=
 qb6 hg (by simp only[execOp,qbk hx,ex,jad]) k
theorem q76(a b:ByteArray):(a.toList==b.toList)=decide (a=b):=by
 rw[jbs];simp only[beq_iff_eq,jax,ByteArray.toList_eq];constructor
 ·intro h;cases a;cases b;simp only at h;rename_i x y;cases x;cases y;simp only at h;rw[h]
 ·rintro rfl;rfl
theorem qof{op:BinOp}{u v r:Value}(hg:qa2 ops σ n g=true)(hx:(okO n x&&okO n y)=true)(ex:ev σ x=u)(ey:ev σ y=v)
  (h1:(binOp op T u v).run P w=.ok r w) (h0:(eqGuard op T x y u v).run P w=.ok () w)
  (k:wpList P ops Q rest (Fr n (upd σ d r)) w):wpList P ops Q (⟨some d,.binOp op T x y T',ty,pos,aft,g⟩::rest) (Fr n σ) w:=by
 simp only[jaf] at hx;refine qb6 hg ?_ k;simp only[execOp,qbk hx.1,qbk hx.2,ex,ey,jag,h0,jaa,h1,jad]
theorem qlh{op:BinOp}{a b:Int}{kk kk':IntKind}:(eqGuard op T x y (.int kk a) (.int kk' b)).run P w=.ok () w:=by
 cases op<;>rfl
theorem qel{a b:Int}{kk:IntKind}(hg:qa2 ops σ n g=true)(hx:(okO n x&&okO n y)=true)(ex:ev σ x=.int kk a)(ey:ev σ y=.int kk b)
  (k:wpList P ops Q rest (Fr n (upd σ d (.bool (decide (a<b))))) w):wpList P ops Q (⟨some d,.binOp .lss T x y T',ty,pos,aft,g⟩::rest) (Fr n σ) w :=
 qof hg hx ex ey (by simp only[binOp,ne_eq,ja8,jbl,Op.intCmp,jad]) qlh k
theorem qs8{a b:Int}{kk:IntKind}(hg:qa2 ops σ n g=true)(hx:(okO n x&&okO n y)=true)(ex:ev σ x=.int kk a)(ey:ev σ y=.int kk b)
  (k:wpList P ops Q rest (Fr n (upd σ d (.bool (decide (a=b))))) w):wpList P ops Q (⟨some d,.binOp .eql T x y T',ty,pos,aft,g⟩::rest) (Fr n σ) w :=
 qof hg hx ex ey (by simp only[binOp,ne_eq,ja8,jbl,Op.intCmp,jad];congr 2) qlh k
theorem qmg{a b:Int}{kk:IntKind}(hg:qa2 ops σ n g=true)(hx:(okO n x&&okO n y)=true)(ex:ev σ x=.int kk a)(ey:ev σ y=.int kk b)
  (k:wpList P ops Q rest (Fr n (upd σ d (.bool (decide (a≠b))))) w):wpList P ops Q (⟨some d,.binOp .neq T x y T',ty,pos,aft,g⟩::rest) (Fr n σ) w :=
 qof hg hx ex ey (by simp only[binOp,ne_eq,ja8,jbl,Op.intCmp,jad];congr 2;rw[jbs];simp) qlh k
theorem qia{a:Int}(h:-9223372036854775808<=a/\a<9223372036854775808):IntKind.i64.wrap a=a:=by
 simp only[IntKind.wrap,IntKind.min,IntKind.bits,IntKind.signed];simp;omega
theorem qen{a b:Int}(hg:qa2 ops σ n g=true)(hx:(okO n x&&okO n y)=true)(ex:ev σ x=.int .i64 a)(ey:ev σ y=.int .i64 b)(hr:-9223372036854775808<=a+b/\a+b<9223372036854775808)
  (k:wpList P ops Q rest (Fr n (upd σ d (.int .i64 (a+b)))) w):wpList P ops Q (⟨some d,.binOp .add T x y T',ty,pos,aft,g⟩::rest) (Fr n σ) w :=
 qof hg hx ex ey (by simp only[binOp,ne_eq,ja8,jbl,Op.intArith,jad,qia hr]) qlh k
theorem bsz{s:ByteArray}(h:¬s=⟨#[]⟩):0<s.size:=by
 rcases jeb s.size with h0|h0
 ·exact absurd (ByteArray.ext (jel h0)) h
 ·exact h0
theorem qhv{a:Option Addr}{l c:Nat}(hT:Ty P T (.slice E) size bytes zero)(hg:qa2 ops σ n g=true)(hx:okO n x=true)(ex:ev σ x=.slice a l c)
  (k:wpList P ops Q rest (Fr n (upd σ d (.int .i64 l))) w):wpList P ops Q (⟨some d,.call ⟨.builtin .len,#[x],#[T]⟩,ty,pos,aft,g⟩::rest) (Fr n σ) w :=
 qb6 hg (by
  have h1:(#[x].map (Fr n σ).eval)=#[Value.slice a l c]:=by simp[qbk hx,ex]
  simp only[execOp,resolve,h1,invoke,builtin,Builtin.len_,jag,jad,jaa,jav,jat,jan hT.und,goInt]) k
def evs(σ:Nat->Value)(l:List Operand):List Value:=l.map (ev σ)
def okOs(n:Nat):List Operand->Bool
 | []=>true
 | x::l=>cond (okO n x) (okOs n l) false
theorem zdy{l:List Operand}(h:okOs n l=true):l.toArray.map (Fr n σ).eval=(evs σ l).toArray:=by
 simp only[List.map_toArray,evs];congr 1;apply jd3;intro x hx;apply qbk;induction l with
 | nil=>simp at hx
 | cons y l ih =>
  have hy:okO n y=true/\okOs n l=true:=by
   unfold okOs at h;cases h':okO n y<;>simp [h'] at h<;>simp [h]
  simp only[ja1] at hx;rcases hx with rfl|hx
  ·exact hy.1
  ·exact ih hy.2 hx
def qai (P:Program) (f:Nat):Prop:=∃fn,P.funcs[f]?=some fn/\fn.body.isSome=true/\(fn.name == "runtime.NumGoroutine") = false

theorem qdo{f:Nat}{l:List Operand}{args:List Value}{ts:Array TypeId}{R:Value->World->Prop}(hF:qai P f)
  (hg:qa2 ops σ n g=true) (hx:okOs n l=true) (ea:evs σ l=args) (hc:Calls P f args.toArray w (Ret R)) (k:∀v w',R v w'->wpList P ops Q rest (Fr n (upd σ d v)) w') :
  wpList P ops Q (⟨some d,.call ⟨.value (.func f),l.toArray,ts⟩,ty,pos,aft,g⟩::rest) (Fr n σ) w :=
 zqo hg (by
  obtain⟨fn,hf,hb,hn⟩:=hF;have hb':fn.body.isNone=false:=by cases h:fn.body<;>simp [h] at hb ⊢
  simp only[execOp,resolve,Act.eval,Deferred.ofValue,invoke,callFunc,zdy hx,ea,jag,jad,jaa,jev,hf,hb',hn,ja3,jbl];simp) hc k
theorem qdq{ad:Addr}{v:Value}(hT:Ty P T D size bytes zero)(hd:qa7 D=true)(hg:qa2 ops σ n g=true)(hx:okO n x=true)(ex:ev σ x=.pointer (some ad))(hc:w.cell? ad=some v)
  (k:wpList P ops Q rest (Fr n (upd σ d v)) w):wpList P ops Q (⟨some d,.load T x,ty,pos,aft,g⟩::rest) (Fr n σ) w :=
 qb6 hg (by simp only[execOp,qbk hx,ex,qga hT hd hc,jag,jad,jaa]) k
theorem qcl{β o:Nat}{cs:List Value}{v:Value}(hT:Ty P T D size bytes zero)(hd:qa7 D=true)(hg:qa2 ops σ n g=true)(hx:okO n x=true)(ex:ev σ x=.pointer (some ⟨β,o,none⟩))(hb:Box w β cs)(hc:cs[o]?=some v)
  (k:wpList P ops Q rest (Fr n (upd σ d v)) w):wpList P ops Q (⟨some d,.load T x,ty,pos,aft,g⟩::rest) (Fr n σ) w :=
 qdq hT hd hg hx ex ((hb.cell o).trans hc) k
def qcz:Nat->Nat->List Value->List Value
 | _,0,_=>[]
 | _,_+1,[]=>[]
 | 0,m+1,v::l=>v::qcz 0 m l
 | o+1,m+1,_::l=>qcz o (m+1) l
theorem qnn:∀(o m:Nat) (l:List Value) (j:Nat),o+m<=l.length->j<m->l[o+j]?=(qcz o m l)[j]?
 | o,0,l,j,_,h=>by omega
 | o,m+1,[],j,h,_=>by simp at h
 | 0,m+1,v::l,0,h,_=>by simp[qcz]
 | 0,m+1,v::l,j+1,h,h'=>by
  have:=qnn 0 m l j (by simp at h;omega) (by omega);simp only[ja9] at this;simp[qcz,this]
 | o+1,m+1,v::l,j,h,h'=>by
  have:=qnn o (m+1) l j (by simp at h;omega) h';rw[show o+1+j=(o+j)+1 by omega];simp[qcz,this]
theorem qnj:∀(o m:Nat) (l:List Value),o+m<=l.length->(qcz o m l).length=m
 | o,0,l,_=>by simp[qcz]
 | o,m+1,[],h=>by simp at h
 | 0,m+1,v::l,h=>by simp[qcz,qnj 0 m l (by simp at h;omega)]
 | o+1,m+1,v::l,h=>by simp[qcz,qnj o (m+1) l (by simp at h;omega)]
theorem qff{β o:Nat}{cs ds:List Value}(hT:Ty P T D size bytes zero)(hd:qa7 D=false)(hg:qa2 ops σ n g=true)(hx:okO n x=true)(ex:ev σ x=.pointer (some ⟨β,o,none⟩))(hb:Box w β cs)
  (hl:Nat.ble (o+size) cs.length=true) (hds:qcz o size cs=ds) (k:wpList P ops Q rest (Fr n (upd σ d (.agg ds.toArray))) w):wpList P ops Q (⟨some d,.load T x,ty,pos,aft,g⟩::rest) (Fr n σ) w:=by
 have hl':=jao hl;subst hds;exact qb6 hg (by
  simp only[execOp,qbk hx,ex,jag,jad,jaa];rw[qg9 hT hd rfl (qnj _ _ _ hl') (fun j hj=>by rw[hb.cell];exact qnn _ _ _ _ hl' hj)];rfl) k
structure CA (M:List Nat) (w:World) (ad:Addr) (cs:List Value):Prop where
 spot:ad.spot=none
 out:ad.block ∉ M
 lt:ad.block<w.heap.size
 cell:∀j,j<cs.length->w.cell? ⟨ad.block,ad.off+j,none⟩=cs[j]?
theorem CA.mono{M M':List Nat}{w w':World}{ad:Addr}{cs:List Value}(h:CA M w ad cs)(t:Tr M w M' w'):CA M' w' ad cs:=by
 obtain⟨h5,h6⟩:=t.keep _ h.lt h.out;refine⟨h.spot,h5,t.lt h.lt h.out,fun j hj=>?_⟩;rw[<- h.cell j hj];simp only[World.cell?,h6]
theorem At.open{α:Type}[Dat α]{M:List Nat}{w:World}{ad:Addr}{u:α}(h:At M w ad u):∃cs,enc M w cs u/\CA M w ad cs:=by
 obtain⟨h0,h1,h2,cs,h3,h4⟩:=h;exact⟨cs,h3,h0,h1,h2,fun j hj=>h4 j (by rw[<- Dat.len h3];exact hj)⟩
theorem qrl{M:List Nat}{ad:Addr}{o:Nat}{cs:List Value}{v:Value}(hT:Ty P T D size bytes zero)(hd:qa7 D=true)(hg:qa2 ops σ n g=true)(hx:okO n x=true)(ex:ev σ x=.pointer (some ⟨ad.block,ad.off+o,none⟩))(hb:CA M w ad cs)(hc:cs[o]?=some v)
  (k:wpList P ops Q rest (Fr n (upd σ d v)) w):wpList P ops Q (⟨some d,.load T x,ty,pos,aft,g⟩::rest) (Fr n σ) w :=
 qdq hT hd hg hx ex ((hb.cell o (by
  rcases jbm o cs.length with h|h
  ·exact h
  ·rw[jbp h] at hc;cases hc)).trans hc) k
theorem qg1{M:List Nat}{ad:Addr}{cs:List Value}(hT:Ty P T D size bytes zero)(hd:qa7 D=false)(hg:qa2 ops σ n g=true)(hx:okO n x=true)(ex:ev σ x=.pointer (some ad))(hb:CA M w ad cs)
  (hl:Nat.beq cs.length size=true) (k:wpList P ops Q rest (Fr n (upd σ d (.agg cs.toArray))) w):wpList P ops Q (⟨some d,.load T x,ty,pos,aft,g⟩::rest) (Fr n σ) w:=by
 have hl':=jah hl;exact qb6 hg (by
  simp only[execOp,qbk hx,ex,jag,jad,jaa];rw[qg9 hT hd hb.spot hl' (fun j hj=>hb.cell j (by omega))];rfl) k
def Fld(P:Program)(S f off:Nat):Prop:=∀(ad:Addr) (w:World),ad.spot=none->(Instr.fieldAt S (.pointer (some ad)) f).run P w=.ok (.pointer (some ⟨ad.block,ad.off+off,none⟩)) w
theorem Fld.mk{S f:Nat}{fs:Array Field}{F:Field}{D':TypeDesc}{k b':Nat}{z':Value}(hS:Ty P S (.struct fs) size bytes zero)(hf:fs[f]?=some F)(hF:Ty P F.type D' (k+1) b' z'):Fld P S f F.offset:=by
 intro ad w hs;simp only[Instr.fieldAt,jag,jan hS.und,jad,jaa,hf,Instr.sureAddr,fieldPlace,run_sizeOf hF,qbe ad hs];simp
theorem op_field{S f off:Nat}{ad:Addr}(hF:Fld P S f off)(hg:qa2 ops σ n g=true)(hx:okO n x=true)(ex:ev σ x=.pointer (some ad))(hs:ad.spot=none)
  (k:wpList P ops Q rest (Fr n (upd σ d (.pointer (some ⟨ad.block,ad.off+off,none⟩)))) w):wpList P ops Q (⟨some d,.fieldAddr S x f,ty,pos,aft,g⟩::rest) (Fr n σ) w :=
 qb6 hg (by simp only[execOp,qbk hx,ex,hF ad w hs,jag,jad,jaa]) k
theorem qbh{S f off β o:Nat}(hF:Fld P S f off)(hg:qa2 ops σ n g=true)(hx:okO n x=true)(ex:ev σ x=.pointer (some ⟨β,o,none⟩))
  (k:wpList P ops Q rest (Fr n (upd σ d (.pointer (some ⟨β,o+off,none⟩)))) w):wpList P ops Q (⟨some d,.fieldAddr S x f,ty,pos,aft,g⟩::rest) (Fr n σ) w :=
 op_field (ad:=⟨β,o,none⟩) hF hg hx ex rfl k
theorem zca{α:Type}[Dat α]{M:List Nat}{a:Option Addr}{cap:Nat}{l:List α}{i:Int}{kk:IntKind}{E':TypeDesc}{s2 b2:Nat}{z2:Value}(hT:Ty P T (.slice E) size bytes zero)(hE:Ty P E E' s2 b2 z2)(hsz:s2=Dat.sz α)
  (hs:SL M w a cap l) (h0:0<=i) (h1:i<l.length) :
  ∃ad,(Instr.indexAt T (.slice a l.length cap) (.int kk i)).run P w=.ok (.pointer (some ad)) w/\At M w ad (l[i.toNat]'(by omega)):=by
 obtain⟨b,off,ha,hat⟩:=hs.at (i:=i.toNat) (by omega);refine⟨_,?_,hat⟩;subst ha;subst hsz;simp only[Instr.indexAt,asIntOf,jag,jad,jaa,jan hT.und,h0,h1,jet,jb4,run_sizeOf hE,qbe ⟨b,off,none⟩ rfl]
theorem zdn{α:Type}[Dat α]{M:List Nat}{a:Option Addr}{cap:Nat}{l:List α}{i:Int}{kk:IntKind}{E':TypeDesc}{s2 b2:Nat}{z2:Value}(hT:Ty P T (.slice E) size bytes zero)(hE:Ty P E E' s2 b2 z2)(hsz:s2=Dat.sz α)
  (hg:qa2 ops σ n g=true) (hx:(okO n x&&okO n y)=true) (ex:ev σ x=.slice a l.length cap) (ey:ev σ y=.int kk i) (hs:SL M w a cap l) (h0:0<=i) (h1:i<l.length)
  (k:∀ad cs,enc M w cs (l[i.toNat]'(by omega))->CA M w ad cs->wpList P ops Q rest (Fr n (upd σ d (.pointer (some ad)))) w):wpList P ops Q (⟨some d,.indexAddr T x y,ty,pos,aft,g⟩::rest) (Fr n σ) w:=by
 simp only[jaf] at hx;obtain⟨ad,hr,hat⟩:=zca (kk:=kk) hT hE hsz hs h0 h1;obtain⟨cs,h2,h3⟩:=hat.open;exact qb6 hg (by simp only[execOp,qbk hx.1,qbk hx.2,ex,ey,hr,jag,jad,jaa]) (k ad cs h2 h3)
theorem op_indexI{α:Type}[Dat α]{M:List Nat}{a:Option Addr}{cap:Nat}{l:List α}{i:Int}{kk:IntKind}{E':TypeDesc}{s2 b2:Nat}{z2:Value}(hT:Ty P T (.slice E) size bytes zero)(hE:Ty P E E' s2 b2 z2)(hsz:s2=Dat.sz α)
  (hg:qa2 ops σ n g=true) (hx:(okO n x&&okO n y)=true) (ex:ev σ x=.slice a l.length cap) (ey:ev σ y=.int kk i) (hs:SL M w a cap l) (h0:0<=i) (h1:i<l.length)
  (k:∀ad cs u,l[i.toNat]?=some u->enc M w cs u->CA M w ad cs->wpList P ops Q rest (Fr n (upd σ d (.pointer (some ad)))) w):wpList P ops Q (⟨some d,.indexAddr T x y,ty,pos,aft,g⟩::rest) (Fr n σ) w :=
 zdn hT hE hsz hg hx ex ey hs h0 h1 fun ad cs=>k ad cs _ (jac _)
theorem qja{α:Type}[Dat α]{M:List Nat}{a:Option Addr}{cap:Nat}{l:List α}{j:Nat}{kk:IntKind}{E':TypeDesc}{s2 b2:Nat}{z2:Value}(hT:Ty P T (.slice E) size bytes zero)(hE:Ty P E E' s2 b2 z2)(hsz:s2=Dat.sz α)
  (hg:qa2 ops σ n g=true) (hx:(okO n x&&okO n y)=true) (ex:ev σ x=.slice a l.length cap) (ey:ev σ y=.int kk (j:Nat)) (hs:SL M w a cap l) (h1:j<l.length)
  (k:∀ad cs u,l[j]?=some u->enc M w cs u->CA M w ad cs->wpList P ops Q rest (Fr n (upd σ d (.pointer (some ad)))) w):wpList P ops Q (⟨some d,.indexAddr T x y,ty,pos,aft,g⟩::rest) (Fr n σ) w :=
 op_indexI (i:=(j:Int)) hT hE hsz hg hx ex ey hs (by omega) (by omega) (by simpa using k)
theorem qey{zs:List Value}(hT:Ty P T D size bytes zero)(hz:zero.cells.toList=zs)(hg:qa2 ops σ n g=true)
  (k:∀β w',w.heap.size=β->Upd [] w w'->w'.heap.size=β+1->Box w' β zs->wpList P ops Q rest (Fr n (upd σ d (.pointer (some ⟨β,0,none⟩)))) w'):wpList P ops Q (⟨some d,.alloc T,ty,pos,aft,g⟩::rest) (Fr n σ) w:=by
 subst hz;refine qb6 (w':={ w with heap:=w.heap.push (.cells zero.cells T) }) hg ?_ (k _ _ rfl (Upd.push _ _) (by simp) (by simpa using Box.push w zero.cells.toList T));simp only[execOp,Instr.alloc,jag,run_zeroValue hT,jaa,jad,newVar,newRow];rfl
theorem qb5{β o:Nat}{cs vs cs':List Value}{v:Value}(hT:Ty P T D size bytes zero)(hg:qa2 ops σ n g=true)(hx:(okO n x&&okO n y)=true)(ex:ev σ x=.pointer (some ⟨β,o,none⟩))(ey:ev σ y=v)(hb:Box w β cs)
  (hv:v.cells.toList=vs) (hl:(Nat.beq vs.length size&&Nat.ble (o+size) cs.length&&vs.all one)=true)
  (hc:putL cs o vs=cs') (k:∀w',Upd [β] w w'->w'.heap.size=w.heap.size->Box w' β cs'->wpList P ops Q rest (Fr n σ) w'):wpList P ops Q (⟨none,.store T x y,ty,pos,aft,g⟩::rest) (Fr n σ) w:=by
 simp only[jaf] at hx hl;subst hv;subst hc;obtain⟨w',h1,h2,h3,h4⟩:=qvo (P:=P) hT hb (v:=v) (by have:=jah hl.1.1;simpa using this) (jao hl.1.2) hl.2;exact qxf hg (by simp only[execOp,qbk hx.1,qbk hx.2,ex,ey,h1,jag,jad,jaa]) (k w' h3 h4 h2)
end
end Go.Sx
end

section
namespace Go.Sx
open Go Go.RowKit
open Go.Sx.Dat (enc)

def qb2(pl:List (Nat × Nat)):List Value->List (Nat × Value)->Option (List Value)
 | cells,[]=>some cells
 | cells,(i,v)::rest =>
  match pl[i]? with
  | none=>none
  | some (off,size)=>cond (Nat.beq v.cells.toList.length size&&Nat.ble (off+size) cells.length) (qb2 pl (putL cells off v.cells.toList) rest) none

theorem zmm:∀(vs:List Value) (o:Nat) (cs:List Value),
  (vs.zipIdx.foldl (fun(cs:Array Value) (p:Value × Nat)=>cs.setIfInBounds (o+p.2) p.1) cs.toArray)=(putL cs o vs).toArray:=by
 have key:∀(vs:List Value) (o k:Nat) (cs:List Value),
   ((vs.zipIdx k).foldl (fun(cs:Array Value) (p:Value × Nat)=>cs.setIfInBounds (o+p.2) p.1) cs.toArray)=(putL cs (o+k) vs).toArray:=by
  intro vs;induction vs with
  | nil=>intro o k cs;rfl
  | cons v vs ih =>
   intro o k cs;simp only[List.zipIdx_cons,List.foldl_cons,putL,List.setIfInBounds_toArray];rw[ih,jcq]
 intro vs o cs;simpa using key vs o 0 cs

theorem qcs:∀(vs:List Value) (o:Nat) (cs:List Value),(putL cs o vs).length=cs.length
 | [],_,_=>rfl
 | v::vs,o,cs=>by simp[putL,qcs vs]

theorem qly(place:Nat->Option (Nat × Nat))(pl:List (Nat × Nat))(hp:∀i,place i=pl[i]?):∀(parts:List (Nat × Value)) (cells r:List Value),qb2 pl cells parts=some r ->
  Instr.fill place cells.toArray parts=some r.toArray
 | [],cells,r,h=>by simp only[qb2,ja7] at h;subst h;rfl
 | (i,v)::rest,cells,r,h=>by
  unfold qb2 at h;unfold Instr.fill;rw[hp];split at h
  ·cases h
  ·rename_i off size he;rw[he];cases hc:(Nat.beq v.cells.toList.length size&&Nat.ble (off+size) cells.length) with
   | false=>rw[hc] at h;cases h
   | true =>
    rw[hc] at h;simp only[jaf] at hc;have h1:=jah hc.1;have h2:=jao hc.2;have h1':v.cells.size=size:=by simpa using h1
    simp only;rw[jak (by rw[h1'];simp;omega)];have:=zmm v.cells.toList off cells;rw[<- Array.foldl_toList,Array.toList_zipIdx,this];exact qly place pl hp rest _ _ h

def Szs(P:Program)(T:TypeId)(pl:List (Nat × Nat)):Prop:=∃fs,P.underlying T=some (.struct fs)/\∀w,(fs.mapM fun f=>(do pure (f.offset,<- sizeOf f.type):Sem (Nat × Nat))).run P w=.ok pl.toArray w

section
variable {P : Program} {n : Nat} {σ : Nat -> Value} {w : World} {Q : Exit -> Act -> World -> Prop} {ops : Array Oper} {rest : List Oper}
variable {d : Nat} {ty : TypeId} {pos : String} {aft : Array Edge} {g : Option (Nat × Bool)}
variable {T T' E : TypeId} {D : TypeDesc} {size bytes : Nat} {zero : Value} {x y z : Operand}

def pev(σ:Nat->Value)(l:List (Nat × Operand)):List (Nat × Value):=l.map fun p=>(p.1,ev σ p.2)
def okPs(n:Nat):List (Nat × Operand)->Bool
 | []=>true
 | x::l=>cond (okO n x.2) (okPs n l) false
theorem q23{l:List (Nat × Operand)}(h:okPs n l=true):l.toArray.map (fun p=>(p.1,(Fr n σ).eval p.2))=(pev σ l).toArray:=by
 simp only[List.map_toArray,pev];congr 1;apply jd3;intro p hp;rw[qbk];induction l with
 | nil=>simp at hp
 | cons y l ih =>
  have hy:okO n y.2=true/\okPs n l=true:=by
   unfold okPs at h;cases h':okO n y.2<;>simp [h'] at h<;>simp [h]
  simp only[ja1] at hp;rcases hp with rfl|hp
  ·exact hy.1
  ·exact ih hy.2 hp

theorem qdl{l:List (Nat × Operand)}{pl:List (Nat × Nat)}{zs r:List Value}{ps:List (Nat × Value)}(hT:Ty P T D size bytes zero)(hS:Szs P T pl)(hz:zero.cells.toList=zs)
  (hg:qa2 ops σ n g=true) (hx:okPs n l=true) (hp:pev σ l=ps) (hf:qb2 pl zs ps=some r)
  (k:wpList P ops Q rest (Fr n (upd σ d (.agg r.toArray))) w):wpList P ops Q (⟨some d,.build T l.toArray,ty,pos,aft,g⟩::rest) (Fr n σ) w:=by
 subst hz;subst hp;obtain⟨fs,h1,h2⟩:=hS;refine qb6 hg ?_ k;have h3:=qly (fun i=>pl.toArray[i]?) pl (by simp) _ _ _ hf;have h3':Instr.fill (fun x=>pl.toArray[x]?) zero.cells (pev σ l)=some r.toArray:=by simpa using h3
 simp only[execOp,q23 hx,Instr.build,jag,run_zeroValue hT,jaa,jan h1,h2 w,h3',jad]

def qcg(zs:List Value)(m:Nat):List Value:=(List.range m).map fun i=>zs[i % zs.length]!
theorem qf0{l:List (Nat × Operand)}{len:Nat}{E':TypeDesc}{s2 b2:Nat}{z2:Value}{zs r:List Value}{ps:List (Nat × Value)}(hT:Ty P T (.slice E) size bytes zero)(hE:Ty P E E' s2 b2 z2)(hz:z2.cells.toList=zs)
  (hs:(Nat.ble (len*s2) 16777216&&Nat.blt 0 (len*s2))=true)
  (hg:qa2 ops σ n g=true) (hx:okPs n l=true) (hp:pev σ l=ps) (hf:qb2 ((List.range len).map fun i=>(i*s2,s2)) (qcg zs (len*s2)) ps=some r)
  (k:∀β w',w.heap.size=β->Upd [] w w'->w'.heap.size=β+1->Box w' β r->wpList P ops Q rest (Fr n (upd σ d (.slice (some ⟨β,0,none⟩) len len))) w') :
  wpList P ops Q (⟨some d,.buildSlice T len l.toArray,ty,pos,aft,g⟩::rest) (Fr n σ) w:=by
 subst hz;subst hp;simp only[jaf] at hs;have hs1:=jao hs.1;have hs2:0<len*s2:=by have:=hs.2;simpa using this
 refine qb6 (w':={ w with heap:=w.heap.push (.cells r.toArray E) }) hg ?_ (k _ _ rfl (Upd.push _ _) (by simp) (by simpa using Box.push w r E));have hfill:Instr.fill (fun i=>some (i*s2,s2)) (qcg z2.cells.toList (len*s2)).toArray (pev σ l)=some r.toArray:=by
  have hin:∀p∈pev σ l,p.1<len:=by
   intro p hp;have:∀(ps:List (Nat × Value)) (cs r:List Value),qb2 ((List.range len).map fun i=>(i*s2,s2)) cs ps=some r->∀p∈ps,p.1<len:=by
    intro ps;induction ps with
    | nil=>intro _ _ _ p hp;simp at hp
    | cons q ps ih =>
     intro cs r h p hp;obtain⟨i,v⟩:=q;unfold qb2 at h;split at h
     ·cases h
     ·rename_i off sz he;simp only[ja1] at hp;rcases hp with rfl|hp
      ·simp only[jbw,jee] at he;obtain⟨a,ha,_⟩:=he;rcases jbm i len with h'|h'
       ·exact h'
       ·rw[jbp (by simpa using h')] at ha;cases ha
      ·cases hc:(Nat.beq v.cells.toList.length sz&&Nat.ble (off+sz) cs.length) with
       | false=>rw[hc] at h;cases h
       | true=>rw[hc] at h;exact ih _ _ h p hp
   exact this _ _ _ hf p hp
  have e:∀(ps:List (Nat × Value)) (cs:Array Value),(∀p∈ps,p.1<len)->Instr.fill (fun i=>some (i*s2,s2)) cs ps=Instr.fill (fun i=>((List.range len).map fun i=>(i*s2,s2))[i]?) cs ps:=by
   intro ps;induction ps with
   | nil=>intro _ _;rfl
   | cons q ps ih =>
    intro cs h;obtain⟨i,v⟩:=q;have hi:i<len:=h (i,v) (by simp);unfold Instr.fill;have:((List.range len).map fun i=>(i*s2,s2))[i]?=some (i*s2,s2):=by simp[hi]
    simp only[this];split
    ·rfl
    ·exact ih _ (fun p hp=>h p (by simp[hp]))
  rw[e _ _ hin];exact qly _ _ (fun _=>rfl) _ _ _ hf
 have hz:((Array.range (len*s2)).map fun x=>z2.cells[x % z2.cells.size]!)=(qcg z2.cells.toList (len*s2)).toArray:=by
  apply jdv
  ·simp[qcg]
  ·intro i h1 h2;simp [qcg,getElem!_def]
 simp only[execOp,q23 hx,Instr.buildSlice,jag,jan hT.und,jad,jaa,run_sizeOf hE];rw[jak (by omega),jak (by omega)];simp only[jag,run_zeroValue hE,jaa,jad,hz,hfill,newRow];rfl
end

def Own{α:Type}[Dat α](m M:List Nat)(w:World)(a:Option Addr)(cap:Nat)(l:List α):Prop :=
 (a=none/\cap=0/\l=[]) \/
 ∃g cells,a=some ⟨g,0,none⟩/\g∈m/\g ∉ M/\Box w g cells/\cells.length=cap*Dat.sz α/\(l.length<=cap/\cap<9223372036854775808) /\
  ∀i (h:i<l.length),∃cs,enc (m++M) w cs l[i]/\∀j,j<Dat.sz α->cells[i*Dat.sz α+j]?=cs[j]?

def blk:Option Addr->List Nat
 | none=>[]
 | some a=>[a.block]

theorem Own.nil{α:Type}[Dat α]{m M:List Nat}{w:World}:Own m M w none 0 ([]:List α):=.inl ⟨rfl,rfl,rfl⟩
theorem Own.lt{α:Type}[Dat α]{m M:List Nat}{w:World}{a:Option Addr}{cap:Nat}{l:List α}(h:Own m M w a cap l):∀b∈blk a,b<w.heap.size:=by
 rcases h with ⟨rfl,_,_⟩|⟨g,cells,rfl,_,_,hb,_⟩
 ·simp[blk]
 ·simp only[blk,jbz];rintro b rfl;exact hb.lt
theorem Own.mem{α:Type}[Dat α]{m M:List Nat}{w:World}{a:Option Addr}{cap:Nat}{l:List α}(h:Own m M w a cap l):∀b∈blk a,b∈m:=by
 rcases h with ⟨rfl,_,_⟩|⟨g,cells,rfl,hm,_⟩
 ·simp[blk]
 ·simp only[blk,jbz];rintro b rfl;exact hm
theorem Own.mono{α:Type}[Dat α]{m m' M:List Nat}{w w':World}{a:Option Addr}{cap:Nat}{l:List α}{S:List Nat}(h:Own m M w a cap l)(u:Upd S w w')(hS:∀b∈blk a,b ∉ S)
  (e:Evo m w m' w') (hm:∀b∈blk a,b∈m'):Own m' M w' a cap l:=by
 rcases h with h|⟨g,cells,rfl,h1,h2,h3,h4,h5,h6⟩
 ·exact .inl h
 ·refine .inr ⟨g,cells,rfl,hm g (by simp[blk]),h2,h3.mono u (hS g (by simp[blk])),h4,h5,fun i hi=>?_⟩;obtain⟨cs,hc,hj⟩:=h6 i hi;exact⟨cs,Dat.mono hc (e.tr M),hj⟩
theorem Own.shut{α:Type}[Dat α]{m M:List Nat}{w:World}{a:Option Addr}{cap:Nat}{l:List α}(h:Own m M w a cap l){N:List Nat}(hN:∀b∈N,b∈m++M)(hg:∀b∈blk a,b ∉ N):SL N w a cap l:=by
 rcases h with ⟨rfl,rfl,rfl⟩|⟨g,cells,rfl,h1,h2,h3,h4,h5,h6⟩
 ·exact SL.nil
 ·obtain⟨t,hh⟩:=h3;refine⟨h5,.inr ⟨g,0,cells.toArray,t,(0,0),rfl,hg g (by simp[blk]),hh,fun i hi=>?_⟩⟩;obtain⟨cs,hc,hj⟩:=h6 i hi;exact⟨cs,Dat.mono hc (Tr.sub w hN),fun j hj'=>by rw[<- hj j hj'];simp⟩
theorem SL.flat{α:Type}[Dat α]{M:List Nat}{w:World}{a:Option Addr}{cap:Nat}{l:List α}(h:SL M w a cap l) :
  ∃fl:List Value,fl.length=l.length*Dat.sz α/\fl.all one=true/\(∀P:Program,∀w1:World,w1.heap=w.heap->(Builtin.firstCells (Dat.sz α) l.length (.slice a l.length cap)).run P w1=.ok fl.toArray w1) /\
   ∀i (h:i<l.length),∃cs,enc M w cs l[i]/\∀j,j<Dat.sz α->fl[i*Dat.sz α+j]?=cs[j]?:=by
 obtain⟨hc,h⟩:=h;rcases h with rfl|⟨b,off,cells,t,fz,rfl,hb,hh,hall⟩
 ·refine⟨[],by simp,rfl,fun P w1 hw=>?_,fun i h=>by simp at h⟩;cases a with
  | none=>rfl
  | some a=>simp [Builtin.firstCells,loadCells,loadCellsFrom,jad]
 ·have hlen:off+l.length*Dat.sz α<=cells.size\/l.length*Dat.sz α=0:=by
   rcases jeb (l.length*Dat.sz α) with h0|h0
   ·exact .inr h0
   ·left;have hl:0<l.length:=Nat.pos_of_mul_pos_right h0;have hs:0<Dat.sz α:=Nat.pos_of_mul_pos_left h0;obtain⟨cs,he,hcs⟩:=hall (l.length-1) (by omega);have h1:=hcs (Dat.sz α-1) (by omega);rw[jac (by rw[Dat.len he];omega)] at h1;have h2:=(jdt.1 h1).1;have:(l.length-1)*Dat.sz α+Dat.sz α=l.length*Dat.sz α:=by rw[Nat.sub_mul,jd4];have:=Nat.le_mul_of_pos_left (Dat.sz α) hl;omega
    omega
  have hfl:((cells.toList.drop off).take (l.length*Dat.sz α)).length=l.length*Dat.sz α:=by
   simp only[jbx,jfg,jew];omega
  have hget:∀k,k<l.length*Dat.sz α->((cells.toList.drop off).take (l.length*Dat.sz α))[k]?=cells[off+k]?:=by
   intro k hk;rw[jas,jam hk,jbt];simp
  refine⟨(cells.toList.drop off).take (l.length*Dat.sz α),hfl,?_,fun P w1 hw=>?_,fun i hi=>?_⟩
  ·rw[ja6];intro v hv;obtain⟨k,hk,rfl⟩:=List.getElem_of_mem hv;rw[hfl] at hk;have hs:0<Dat.sz α:=Nat.pos_of_ne_zero fun h=>by rw[h] at hk;simp at hk
   have hq:k / Dat.sz α<l.length:=(Nat.div_lt_iff_lt_mul hs).2 hk;obtain⟨cs,he,hcs⟩:=hall (k / Dat.sz α) hq;have h1:=hcs (k % Dat.sz α) (je9 _ hs);rw[show off+k / Dat.sz α*Dat.sz α+k % Dat.sz α=off+k by have:=Nat.div_add_mod k (Dat.sz α);rw[jfk] at this;omega,<- hget k hk] at h1;rw[jac (by omega)] at h1;have h2:=Dat.ones he;rw[ja6] at h2;exact h2 _ (jbr h1.symm)
  ·have:=run_loadCellsFrom (P:=P) (w:=w1) (ad:=⟨b,off,none⟩) ((cells.toList.drop off).take (l.length*Dat.sz α)) 0 #[] (fun j hj=>by
    rw[hfl] at hj;rw[qbe _ rfl,hget j hj];simp [World.cell?,hw,hh])
   rw[hfl] at this;simpa [Builtin.firstCells,loadCells] using this
  ·obtain⟨cs,he,hcs⟩:=hall i hi;refine⟨cs,he,fun j hj=>?_⟩;have hb':i*Dat.sz α+j<l.length*Dat.sz α:=by
    have:=jaw (Dat.sz α) (show i+1<=l.length by omega);rw[jbb,jd4] at this;omega
   rw[hget _ hb',<- hcs j hj,jcq]
end Go.Sx
end

section
namespace Go.Sx
open Go Go.RowKit
open Go.Sx.Dat (enc)

theorem qei:∀(vs:List Value) (o:Nat) (cs:List Value) (j:Nat),j<o->(putL cs o vs)[j]?=cs[j]?
 | [],_,_,_,_=>rfl
 | v::vs,o,cs,j,h=>by
  unfold putL;rw[qei vs (o+1) _ j (by omega),jc1 (by omega)]
theorem qfh:∀(vs:List Value) (o:Nat) (cs:List Value) (j:Nat),j<vs.length->o+vs.length<=cs.length->(putL cs o vs)[o+j]?=vs[j]?
 | [],_,_,_,h,_=>by simp at h
 | v::vs,o,cs,0,_,h=>by
  unfold putL;rw[qei vs (o+1) _ (o+0) (by omega)];simp only[jbk] at h;simp only[jby,jat];rw[jc6 (by omega)]
 | v::vs,o,cs,j+1,h,h'=>by
  unfold putL;have:=qfh vs (o+1) (cs.set o v) j (by simpa using h) (by simp only[jbk,jb9] at h' ⊢;omega);rw[show o+(j+1)=o+1+j by omega,this];simp

theorem q82{α:Type}[Dat α]{M:List Nat}{w:World}{l xs:List α}{cells fl:List Value}(hlen:cells.length=l.length*Dat.sz α)
  (h1:∀i (h:i<l.length),∃cs,enc M w cs l[i]/\∀j,j<Dat.sz α->cells[i*Dat.sz α+j]?=cs[j]?)
  (h2:∀i (h:i<xs.length),∃cs,enc M w cs xs[i]/\∀j,j<Dat.sz α->fl[i*Dat.sz α+j]?=cs[j]?) (tl:List Value) (hfl:fl.length=xs.length*Dat.sz α) :
  ∀i (h:i<(l++xs).length),∃cs,enc M w cs (l++xs)[i]/\∀j,j<Dat.sz α->(cells++fl++tl)[i*Dat.sz α+j]?=cs[j]?:=by
 intro i hi;rcases jbm i l.length with h|h
 ·obtain⟨cs,hc,hj⟩:=h1 i h;refine⟨cs,by rwa [jb5 h],fun j hj'=>?_⟩;have hb':i*Dat.sz α+j<l.length*Dat.sz α:=by
   have:=jaw (Dat.sz α) (show i+1<=l.length by omega);rw[jbb,jd4] at this;omega
  rw[jc3,ja2 (by omega)];exact hj j hj'
 ·have hi':i-l.length<xs.length:=by simp at hi;omega
  obtain⟨cs,hc,hj⟩:=h2 (i-l.length) hi';refine⟨cs,by rwa [jb1 h],fun j hj'=>?_⟩;have e:i*Dat.sz α=l.length*Dat.sz α+(i-l.length)*Dat.sz α:=by rw[<- jbb];congr 1;omega
  have hb':(i-l.length)*Dat.sz α+j<xs.length*Dat.sz α:=by
   have:=jaw (Dat.sz α) (show (i-l.length)+1<=xs.length by omega);rw[jbb,jd4] at this;omega
  rw[jc3,jbf (by omega),ja2 (by omega)];rw[show i*Dat.sz α+j-cells.length=(i-l.length)*Dat.sz α+j by omega];exact hj j hj'

theorem q0p{P:Program}{w:World}(k:Nat):(askRoom k).run P w=.ok () w:=by
 unfold askRoom;split<;>rfl

theorem Own.flat{α:Type}[Dat α]{m M:List Nat}{w:World}{a:Option Addr}{cap:Nat}{l:List α}(h:Own m M w a cap l) :
  ∃fl:List Value,fl.length=l.length*Dat.sz α/\(∀P:Program,∀w1:World,w1.heap=w.heap->(Builtin.firstCells (Dat.sz α) l.length (.slice a l.length cap)).run P w1=.ok fl.toArray w1) /\
   ∀i (h:i<l.length),∃cs,enc (m++M) w cs l[i]/\∀j,j<Dat.sz α->fl[i*Dat.sz α+j]?=cs[j]?:=by
 rcases h with ⟨rfl,rfl,rfl⟩|⟨g,cells,rfl,_,_,⟨t,hh⟩,h4,h5,h6⟩
 ·exact⟨[],by simp,fun _ _ _=>rfl,fun i h=>by simp at h⟩
 ·have hle:l.length*Dat.sz α<=cells.length:=by rw[h4];exact jaw _ h5.1
  have hfl:(cells.take (l.length*Dat.sz α)).length=l.length*Dat.sz α:=by rw[jbx];omega
  refine⟨cells.take (l.length*Dat.sz α),hfl,fun P w1 hw=>?_,fun i hi=>?_⟩
  ·have:=run_loadCellsFrom (P:=P) (w:=w1) (ad:=⟨g,0,none⟩) (cells.take (l.length*Dat.sz α)) 0 #[] (fun j hj=>by
    rw[hfl] at hj;rw[qbe _ rfl,jas,jam hj];simp [World.cell?,hw,hh])
   rw[hfl] at this;simpa [Builtin.firstCells,loadCells] using this
  ·obtain⟨cs,he,hcs⟩:=h6 i hi;refine⟨cs,he,fun j hj=>?_⟩;have hb':i*Dat.sz α+j<l.length*Dat.sz α:=by
    have:=jaw (Dat.sz α) (show i+1<=l.length by omega);rw[jbb,jd4] at this;omega
   rw[jas,jam hb',hcs j hj]

theorem zdx{α:Type}[Dat α]{P:Program}{w:World}{T T2 E ty:TypeId}{E':TypeDesc}{size bytes size2 bytes2 s2 b2:Nat}{zero zero2 z2:Value}{m M:List Nat}{a a2:Option Addr}{cap cap2:Nat}{l xs:List α}
   (hT:Ty P T (.slice E) size bytes zero) {D2x:TypeId} (hT2:Ty P T2 (.slice D2x) size2 bytes2 zero2) (hE:Ty P E E' s2 b2 z2) (hsz:s2=Dat.sz α) (hz:z2.cells.size=Dat.sz α)
   (ho:Own m M w a cap l) (hs:SL (m++M) w a2 cap2 xs) (hM:Lo M w) (hroom:(l.length+xs.length)*b2<=140737488355328) (hb2:0<b2) :
   ∃a' cap' w' m',(Builtin.append_ #[T,T2] ty #[.slice a l.length cap,.slice a2 xs.length cap2]).run P w=.ok (.slice a' (l++xs).length cap') w' /\
     Own m' M w' a' cap' (l++xs)/\Evo m w m' w'/\Upd (blk a) w w'/\(∀b∈blk a',b∈blk a\/w.heap.size<=b)/\(∀b∈m,b∈m'):=by
 subst hsz;obtain⟨fl,hfl,hone,hrun,hel⟩:=hs.flat;obtain⟨i,hi,his,hib,hiz⟩:=hE.inf;have hsz':(sizeOf E).run P w=.ok (Dat.sz α) w:=run_sizeOf hE;have hlen:(l++xs).length=l.length+xs.length:=ja4;have hun:∀w,(underlying T2).run P w=.ok (.slice D2x) w:=fun w=>jan hT2.und w;by_cases hfit:l.length+xs.length<=cap
 · -- there is room
   rcases ho with ⟨rfl,rfl,rfl⟩|⟨g,cells,rfl,hgm,hgM,hbox,hcl,hlc,hall⟩
   · have hx:xs=[]:=by simpa using hfit
     subst hx;refine⟨none,0,w,m,?_,.inl ⟨rfl,rfl,rfl⟩,Evo.refl _ _,Upd.refl _ _,by simp[blk],fun _ h=>h⟩;simp only[Builtin.append_,jav,jat,jbn,jag,jan hT.und,jan hT2.und,jaa,run_sizeOf hE,jad,Builtin.lenOf];simp only[jce] at hrun;simp only[jce,jby,jap,jb4,jba,ja3,jbl,jag,jad,jaa];simp only[jaa,hrun P w rfl];simp
   · have hfit':l.length*Dat.sz α+fl.length<=cells.length:=by
       rw[hfl,hcl,<- jbb];exact jaw _ hfit
     obtain⟨w',h1,h2,h3,h4⟩:=run_store (P:=P) fl (l.length*Dat.sz α) 0 hbox (by omega) hone;have hev:Evo m w m w':=h3.evo (by simp[hgm]);refine⟨some ⟨g,0,none⟩,cap,w',m,?_,.inr ⟨g,_,rfl,hgm,hgM,h2,by rw[qcs];exact hcl,⟨by omega,hlc.2⟩,fun i hi=>?_⟩,hev,h3,fun b hb=>.inl hb,fun _ h=>h⟩
     · simp only[Builtin.append_,jav,jat,jbn,jag,jan hT.und,jan hT2.und,jaa,run_sizeOf hE,jad,Builtin.lenOf];simp only[hfit,jb4,jba,ja3,jbl,jag,jad,jaa];simp only[jaa,hrun P w rfl];rw[show (⟨g,0,none⟩:Addr).add (l.length*Dat.sz α)=⟨g,l.length*Dat.sz α,none⟩ from by rw[qbe _ rfl];simp,h1];simp
     · rcases jbm i l.length with h|h
       · obtain⟨cs,hc,hj⟩:=hall i h;refine⟨cs,by rw[jb5 h];exact Dat.mono hc (hev.tr M),fun j hj'=>?_⟩;have hb':i*Dat.sz α+j<l.length*Dat.sz α:=by
           have:=jaw (Dat.sz α) (show i+1<=l.length by omega);rw[jbb,jd4] at this;omega
         rw[qei _ _ _ _ (by omega)];exact hj j hj'
       · have hi':i-l.length<xs.length:=by simp at hi;omega
         obtain⟨cs,hc,hj⟩:=hel (i-l.length) hi';refine⟨cs,by rw[jb1 h];exact Dat.mono hc (hev.tr M),fun j hj'=>?_⟩;have e:i*Dat.sz α=l.length*Dat.sz α+(i-l.length)*Dat.sz α:=by rw[<- jbb];congr 1;omega
         have hb':(i-l.length)*Dat.sz α+j<xs.length*Dat.sz α:=by
           have:=jaw (Dat.sz α) (show (i-l.length)+1<=xs.length by omega);rw[jbb,jd4] at this;omega
         rw[show i*Dat.sz α+j=(l.length*Dat.sz α+0)+((i-l.length)*Dat.sz α+j) by omega,qfh _ _ _ _ (by omega) (by omega)];exact hj j hj'
 · -- a new array
   obtain⟨fo,hfo,hruno,helo⟩:=ho.flat;have hnb:(l.length+xs.length)*i.bytes<=140737488355328:=by rw[hib];exact hroom
   have h48:¬(Builtin.nextslicecap (l.length+xs.length) cap*i.bytes > 2 ^ 48):=by
     have:=growslice_fits (need:=l.length+xs.length) (old:=cap) (bytes:=i.bytes) (by omega) hnb;have e:(2:Nat) ^ 48=281474976710656:=by decide
     rw[e];omega
   have hti:∀w,(typeInfo E).run P w=.ok i w:=fun w=>by simp[typeInfo,go_sem,hi]
   have hov:¬(((l.length+xs.length:Nat):Int) > IntKind.i64.max/\(False\/i.bytes=0)):=by
     rintro⟨_,h|h⟩
     · exact h
     · omega
   let nc:=(Question.appendCap (l.length+xs.length) cap E).cut (w.tape w.drawn (Question.appendCap (l.length+xs.length) cap E))
   have hnc:l.length+xs.length<=nc:=jd0 _ _;have hneed:l.length+xs.length<2 ^ 63:=by
     have:(l.length+xs.length)*1<=(l.length+xs.length)*i.bytes:=jcm _ (by omega);have e:(2:Nat) ^ 63=9223372036854775808:=by decide
     rw[e];omega
   have hnc2:nc<9223372036854775808:=by
     have h1:nc=l.length+xs.length+(w.tape w.drawn (Question.appendCap (l.length+xs.length) cap E)) % (2 ^ 63-(l.length+xs.length)):=rfl;have h2:=je9 (w.tape w.drawn (Question.appendCap (l.length+xs.length) cap E)) (show 2 ^ 63-(l.length+xs.length) > 0 by omega);have e:(2:Nat) ^ 63=9223372036854775808:=by decide
     rw[e] at h1 h2 hneed;omega
   let tl:=(Builtin.zeroCells z2.cells (nc-(l.length+xs.length))).toList
   have htl:tl.length=(nc-(l.length+xs.length))*Dat.sz α:=by simp[tl,Builtin.zeroCells,hz]
   let w':World:={ w with drawn:=w.drawn+1,heap:=w.heap.push (.cells (fo++fl++tl).toArray E) }
   have hu:Upd [] w w':=⟨rfl,rfl,rfl,by simp[w'],fun b hb _=>by
     show (w.heap.push _)[b]?=_;rw[jd2,jak (by omega)]⟩
   have hev:Evo m w (w.heap.size::m) w':=hu.evoN rfl (by simp[w']);have hbox:Box w' w.heap.size (fo++fl++tl):=⟨E,by simp[w']⟩;refine⟨some ⟨w.heap.size,0,none⟩,nc,w',w.heap.size::m,?_,.inr ⟨w.heap.size,fo++fl++tl,rfl,by simp,fun h=>jck _ (hM _ h),hbox,?_,⟨by omega,hnc2⟩,?_⟩,hev,hu.mono (by simp),by simp[blk],fun b hb=>by simp[hb]⟩
   · have hch:(choose (Question.appendCap (l.length+xs.length) cap E)).run P w=.ok nc { w with drawn:=w.drawn+1 }:=rfl;have ho1:=hruno P { w with drawn:=w.drawn+1 } rfl;have hn1:=hrun P { w with drawn:=w.drawn+1 } rfl;have hcat:fo.toArray++fl.toArray++Builtin.zeroCells z2.cells (nc-(l.length+xs.length))=(fo++fl++tl).toArray:=by
       simp[tl]
     simp only[Builtin.append_,jav,jat,jbn,jag,jan hT.und,jan hT2.und,jaa,run_sizeOf hE,jad,Builtin.lenOf];simp only[hfit,jba,ja3,jbl,jag,jad,jaa,hti,hov,h48];simp only[jb4,jag,jad,jaa,hch,q0p,ho1,hn1,run_zeroValue hE,newRow,hcat];rw[hlen];rfl
   · simp only[ja4,hfo,hfl,htl];rw[<- jbb,<- jbb];congr 1;omega
   · refine q82 hfo (fun i hi=>?_) (fun i hi=>?_) tl hfl
     · obtain⟨cs,hc,hj⟩:=helo i hi;exact⟨cs,Dat.mono hc (hev.tr M),hj⟩
     · obtain⟨cs,hc,hj⟩:=hel i hi;exact⟨cs,Dat.mono hc (hev.tr M),hj⟩

section
variable {P : Program} {n : Nat} {σ : Nat -> Value} {w : World} {Q : Exit -> Act -> World -> Prop} {ops : Array Oper} {rest : List Oper}
variable {d : Nat} {ty : TypeId} {pos : String} {aft : Array Edge} {g : Option (Nat × Bool)}
variable {T T2 E D2x : TypeId} {E' : TypeDesc} {size bytes size2 bytes2 s2 b2 : Nat} {zero zero2 z2 : Value} {x y z : Operand}

theorem qhp{α:Type}[Dat α]{m M:List Nat}{a a2:Option Addr}{cap cap2:Nat}{l xs:List α}
  (hT:Ty P T (.slice E) size bytes zero) (hT2:Ty P T2 (.slice D2x) size2 bytes2 zero2) (hE:Ty P E E' s2 b2 z2) (hsz:s2=Dat.sz α) (hz:z2.cells.size=Dat.sz α) (hb2:Nat.blt 0 b2=true)
  (hg:qa2 ops σ n g=true) (hx:(okO n x&&okO n y)=true) (ex:ev σ x=.slice a l.length cap) (ey:ev σ y=.slice a2 xs.length cap2)
  (ho:Own m M w a cap l) (hs:SL (m++M) w a2 cap2 xs) (hM:Lo M w) (hroom:(l.length+xs.length)*b2<=140737488355328)
  (k:∀a' cap' w' m',Own m' M w' a' cap' (l++xs)->Evo m w m' w'->Upd (blk a) w w'->(∀b∈blk a',b∈blk a\/w.heap.size<=b)->(∀b∈m,b∈m') ->
   wpList P ops Q rest (Fr n (upd σ d (.slice a' (l++xs).length cap'))) w') :
  wpList P ops Q (⟨some d,.call ⟨.builtin .append,#[x,y],#[T,T2]⟩,ty,pos,aft,g⟩::rest) (Fr n σ) w:=by
 simp only[jaf] at hx;obtain⟨a',cap',w',m',h1,h2,h3,h4,h5,h6⟩:=zdx (ty:=ty) hT hT2 hE hsz hz ho hs hM hroom (by simpa using hb2);have he:(#[x,y].map (Fr n σ).eval)=#[Value.slice a l.length cap,Value.slice a2 xs.length cap2]:=by simp[qbk hx.1,qbk hx.2,ex,ey]
 exact qb6 hg (by simp only[execOp,resolve,he,invoke,builtin,jag,jad,jaa,h1]) (k a' cap' w' m' h2 h3 h4 h5 h6)

theorem SL.of_box{α:Type}[Dat α]{M:List Nat}{β:Nat}{cs:List Value}{l:List α}(hb:Box w β cs)(hβ:β ∉ M)(hl:cs.length=l.length*Dat.sz α)(h63:l.length<9223372036854775808)
  (h:∀i (h:i<l.length),∃ds,enc M w ds l[i]/\∀j,j<Dat.sz α->cs[i*Dat.sz α+j]?=ds[j]?):SL M w (some ⟨β,0,none⟩) l.length l:=by
 obtain⟨t,hh⟩:=hb;refine⟨⟨jap _,h63⟩,.inr ⟨β,0,cs.toArray,t,(0,0),rfl,hβ,hh,fun i hi=>?_⟩⟩;obtain⟨ds,h1,h2⟩:=h i hi;exact⟨ds,h1,fun j hj=>by rw[<- h2 j hj];simp⟩
theorem SL.of_box1{α:Type}[Dat α]{M:List Nat}{β:Nat}{cs:List Value}{u:α}(hb:Box w β cs)(hβ:β ∉ M)(h:enc M w cs u):SL M w (some ⟨β,0,none⟩) 1 [u] :=
 SL.of_box hb hβ (by simp[Dat.len h]) (by simp) (fun i hi=>by
  have:i=0:=by simpa using hi
  subst this;exact⟨cs,h,fun j _=>by simp⟩)

end
end Go.Sx
end

section
namespace Go.Sx
open Go Go.RowKit
open Go.Sx.Dat (enc)

section
variable {P : Program} {n : Nat} {σ : Nat -> Value} {w : World} {ops : Array Oper} {rest : List Oper} {Qp : Act -> Prop}
variable {d : Nat} {op : Op} {ty : TypeId} {pos : String} {aft : Array Edge} {g : Option (Nat × Bool)}

theorem qxq{d n:Nat}{σ:Nat->Value}{u v:Value}(hd:d<n)(h:Fr n (upd σ d u)=Fr n (upd σ d v)):u=v:=by
 have h1:=jcd (fun a=>a.tmps.getD d undef) h;simp only[qnh hd] at h1;simpa [upd] using h1

def QOne(n:Nat)(σ:Nat->Value)(d:Nat)(v:Value)(w1:World):Exit->Act->World->Prop:=fun e a' w'=>e=.normal/\a'=Fr n (upd σ d v)/\w'=w1

theorem q1{v:Value}{w1:World}:wpList P ops (QOne n σ d v w1) [] (Fr n (upd σ d v)) w1:=⟨rfl,rfl,rfl⟩
def qg7:Op->Bool
 | .move _|.assign _|.pick ..|.load ..|.build ..|.binOp ..|.unOp ..|.convert ..|.makeInterface ..|.makeFunc ..|.slice ..|.fieldAddr ..|.field ..|.indexAddr ..|.index ..|.lookup ..|.extract ..|.typeAssert ..=>true
 | .call ⟨.builtin .len,_,_⟩|.call ⟨.builtin .cap,_,_⟩|.call ⟨.builtin .max,_,_⟩|.call ⟨.builtin .min,_,_⟩=>true
 | _=>false
theorem qx4{s:Sem Value}{x:Next}{w':World}(h:(do pure (.value (<- s)):Sem Next).run P w=.ok x w'):∃u,x=.value u:=by
 simp only[jag] at h;cases hs:s.run P w with
 | ok u w1=>rw[hs] at h;simp only[jaa,jad,jex] at h;exact⟨u,h.1.symm⟩
 | halt x w1=>rw[hs] at h;cases h
theorem qpy{ρ:Operand->Value}{x:Next}{w':World}(hp:qg7 op=true)(h:(execOp ρ ⟨some d,op,ty,pos,aft,g⟩).run P w=.ok x w'):∃u,x=.value u:=by
 cases op with
 | call c =>
  obtain⟨cal,args,ats⟩:=c;cases cal with
  | builtin b =>
   cases b<;>first|(exfalso;simp [qg7] at hp;done)|(simp only[execOp,resolve,jag,jad,jaa,invoke,builtin] at h;exact qx4 (by simpa only [jag,jad] using h))
  | _=>simp [qg7] at hp
 | move x=>simp only[execOp,jad,jex] at h;exact⟨_,h.1.symm⟩
 | assign x=>simp only[execOp,jad,jex] at h;exact⟨_,h.1.symm⟩
 | pick c a b =>
  simp only[execOp,jag] at h;cases hs:(asBool (ρ c)).run P w with
  | ok u w1=>rw[hs] at h;simp only[jaa,jad,jex] at h;exact⟨_,h.1.symm⟩
  | halt x w1=>rw[hs] at h;cases h
 | _=>first|(exfalso;simp [qg7] at hp;done)|exact qx4 h
theorem SL.idx{α:Type}[Dat α]{M:List Nat}{a:Option Addr}{cap:Nat}{l:List α}{i:Int}{T E:TypeId}{E':TypeDesc}{size bytes s2 b2:Nat}{zero z2:Value}(hs:SL M w a cap l)(hT:Ty P T (.slice E) size bytes zero)(hE:Ty P E E' s2 b2 z2)(hsz:s2=Dat.sz α)
  (h0:0<=i) (h1:i<l.length) :
  ∃ad cs u,l[i.toNat]?=some u/\enc M w cs u/\CA M w ad cs/\∀(kk:IntKind) (w1:World),(Instr.indexAt T (.slice a l.length cap) (.int kk i)).run P w1=.ok (.pointer (some ad)) w1:=by
 obtain⟨b,off,ha,hat⟩:=hs.at (i:=i.toNat) (by omega);obtain⟨cs,h2,h3⟩:=hat.open;refine⟨_,cs,_,jac _,h2,h3,fun kk w1=>?_⟩;subst ha;subst hsz;simp only[Instr.indexAt,asIntOf,jag,jad,jaa,jan hT.und,h0,h1,jet,jb4,run_sizeOf hE,qbe ⟨b,off,none⟩ rfl]
theorem SL.take{α:Type}[Dat α]{M:List Nat}{a:Option Addr}{cap:Nat}{l:List α}(h:SL M w a cap l)(k:Nat):SL M w a cap (l.take k):=by
 obtain⟨hc,h⟩:=h;refine⟨⟨ja5 (by simp;omega) hc.1,hc.2⟩,?_⟩;rcases h with rfl|⟨b,off,cells,t,fz,ha,hb,hh,hall⟩
 ·exact .inl (by simp)
 ·refine .inr ⟨b,off,cells,t,fz,ha,hb,hh,fun i hi=>?_⟩;have hi':i<l.length:=by simp at hi;omega
  obtain⟨cs,h1,h2⟩:=hall i hi';exact⟨cs,by rwa [jca],h2⟩
theorem SL.spot{α:Type}[Dat α]{M:List Nat}{a:Option Addr}{cap:Nat}{l:List α}(h:SL M w a cap l)(hl:l≠[]):∀ad,a=some ad->ad.spot=none:=by
 obtain⟨_,h|⟨b,off,cells,t,fz,ha,_⟩⟩:=h
 ·exact absurd h hl
 ·rintro ad h;rw[ha] at h;cases h;rfl

def wide:IntKind->Bool
 | .i64=>true
 | .u64=>true
 | .i32=>true
 | _=>false
def qe5(w:World)(β:Nat)(s:ByteArray)(p:Nat):Prop:=w.heap[β]?=some (.stringIter s p)
theorem qe5.lt{w:World}{β:Nat}{s:ByteArray}{p:Nat}(h:qe5 w β s p):β<w.heap.size:=qbd h
theorem qe5.mono{S:List Nat}{w w':World}{β:Nat}{s:ByteArray}{p:Nat}(h:qe5 w β s p)(u:Upd S w w')(hs:β ∉ S):qe5 w' β s p:=(u.same β h.lt hs).trans h
theorem qe5.mono0{w w':World}{β:Nat}{s:ByteArray}{p:Nat}(h:qe5 w β s p)(u:Upd [] w w'):qe5 w' β s p:=h.mono u (by simp)
theorem zdl(s:ByteArray)(p:Nat):1<=(Utf8.decode s p).2:=by
 unfold Utf8.decode;simp only[];repeat' split
 all_goals simp
end
structure I32 where
 v:Int
 deriving DecidableEq,Inhabited
instance:Dat I32 where
 sz:=1
 enc _ _ cs x:=cs=[.int .i32 x.v]
 len h:=by rw[h];rfl
 mono h _:=h
 ones h:=by rw[h];rfl
def FH{α β:Type}[Dat α](P:Program)(fid:Nat)(caps:List Value)(agg:Bool)(rv:β->Value)(g:α->β)(D:α->Prop)(M:List Nat)(w:World):Prop :=
 ∀w1 cs x,Upd0 w w1->D x->enc M w1 cs x->Calls P fid (cond agg [.agg cs.toArray] cs++caps).toArray w1 (Ret fun v w'=>v=rv (g x)/\Upd [] w1 w')
theorem FH.mono{α β:Type}[Dat α]{P:Program}{fid:Nat}{caps:List Value}{agg:Bool}{rv:β->Value}{g:α->β}{D:α->Prop}{M:List Nat}{w w':World}(h:FH P fid caps agg rv g D M w)(u:Upd0 w w'):FH P fid caps agg rv g D M w' :=
 fun w1 cs x hu hD he=>h w1 cs x (u.trans hu) hD he
def FH2{α β γ:Type}[Dat α][Dat β](P:Program)(fid:Nat)(caps:List Value)(agg agg':Bool)(rv:γ->Value)(g:α->β->γ)(D:α->β->Prop)(M:List Nat)(w:World):Prop :=
 ∀w1 cs x ds y,Upd0 w w1->D x y->enc M w1 cs x->enc M w1 ds y->Calls P fid (cond agg [.agg cs.toArray] cs++(cond agg' [.agg ds.toArray] ds++caps)).toArray w1 (Ret fun v w'=>v=rv (g x y)/\Upd [] w1 w')
theorem FH2.mono{α β γ:Type}[Dat α][Dat β]{P:Program}{fid:Nat}{caps:List Value}{agg agg':Bool}{rv:γ->Value}{g:α->β->γ}{D:α->β->Prop}{M:List Nat}{w w':World}(h:FH2 P fid caps agg agg' rv g D M w)(u:Upd0 w w'):FH2 P fid caps agg agg' rv g D M w' :=
 fun w1 cs x ds y hu hD he he'=>h w1 cs x ds y (u.trans hu) hD he he'
end Go.Sx
end

section
namespace Go.Sx
open Go Go.RowKit
open Go.Sx.Dat (enc)

section
variable {P : Program} {ops : Array Oper} {md : Region.Mode} {C : World -> Prop}

end
end Go.Sx
end

section
namespace Go.Sx
open Go Go.RowKit
open Go.Sx.Dat (enc)

section
variable {P : Program} {n : Nat} {σ : Nat -> Value} {w : World} {Q : Exit -> Act -> World -> Prop} {ops : Array Oper} {rest : List Oper}
variable {d : Nat} {ty : TypeId} {pos : String} {aft : Array Edge} {g : Option (Nat × Bool)}

def qc2(tmps:Array Value):ResultVar->Sem Value
 | .tmp t=>pure (tmps.getD t undef)
 | .cell a t=>do loadVar t (<- asAddr (tmps.getD a undef))
def qp2(P:Program)(n:Nat)(σ:Nat->Value)(w:World):List ResultVar->List Value->Prop
 | [],[]=>True
 | r::rs,v::vs=>(qc2 (Fr n σ).tmps r).run P w=.ok v w/\qp2 P n σ w rs vs
 | _,_=>False
def qdz:List Value->Value
 | [v]=>v
 | vs=>.tuple vs.toArray
theorem q4l{tmps:Array Value}:∀(rs:List ResultVar) (vs:List Value),qp2 P n σ w rs vs->tmps=(Fr n σ).tmps->(rs.mapM (qc2 tmps)).run P w=.ok vs w
 | [],[],_,_=>rfl
 | r::rs,v::vs,h,e=>by
  subst e;have ih:=q4l rs vs h.2 rfl;simp only[je7,jag,h.1,jaa,ih,jad]
 | [],_::_,h,_=>h.elim
 | _::_,[],h,_=>h.elim
theorem qry{α β:Type}(f:α->β)(s:Sem α)(P:Program)(w:World):(f <$> s).run P w=(s.run P w).andThen fun a w'=>.ok (f a) w':=by
 have e:f <$> s=(s >>= fun a=>pure (f a)):=rfl;rw[e,jag];rfl
theorem zge{fn:Func}{rs:List ResultVar}{vs:List Value}(hr:fn.results=rs.toArray)(h:qp2 P n σ w rs vs):(results fn (Fr n σ).tmps).run P w=.ok (qdz vs) w:=by
 have hm:=q4l (tmps:=(Fr n σ).tmps) rs vs h rfl
 have e:results fn (Fr n σ).tmps=(do
   let vs <- rs.toArray.mapM (qc2 (Fr n σ).tmps)
   pure (if h:vs.size=1 then vs[0] else .tuple vs)):=by
  unfold results;rw[hr];rfl
 rw[e,jfa];simp only[jag,qry,hm,jaa,jad];cases vs with
 | nil=>simp [qdz]
 | cons v vs=>cases vs<;>simp [qdz]
theorem retG{fn:Func}{rs:List ResultVar}{vs:List Value}{R:Value->World->Prop}(hr:fn.results=rs.toArray)(h:qp2 P n σ w rs vs)(hR:R (qdz vs) w):bodyPost P fn (Ret R) .ret (Fr n σ) w :=
 bodyPost_ret (zge hr h) rfl hR
theorem resT{t:Nat}{v:Value}(ht:Nat.blt t n=true)(h:σ t=v):(qc2 (Fr n σ).tmps (.tmp t)).run P w=.ok v w:=by
 simp only[qc2,qnh (show t<n by simpa using ht),h,jad]
theorem resC{t T β size bytes:Nat}{D:TypeDesc}{zero:Value}{cs ds:List Value}(hT:Ty P T D size bytes zero)(hd:qa7 D=false)(ht:Nat.blt t n=true)(h:σ t=.pointer (some ⟨β,0,none⟩))(hb:Box w β cs)(hl:Nat.ble (0+size) cs.length=true)(hds:qcz 0 size cs=ds) :
  (qc2 (Fr n σ).tmps (.cell t T)).run P w=.ok (.agg ds.toArray) w:=by
 have hl':=jao hl;subst hds;have:=qg9 (ad:=⟨β,0,none⟩) hT hd rfl (qnj _ _ _ hl') (fun j hj=>by rw[hb.cell];exact qnn _ _ _ _ hl' hj);simp only[Instr.loadAt,Instr.sureAddr,jag,jad,jaa] at this;simp only[qc2,qnh (show t<n by simpa using ht),h,asAddr,jag,jad,jaa,this]

theorem Own.step{α:Type}[Dat α]{m m' M:List Nat}{w':World}{a:Option Addr}{cap:Nat}{l:List α}{S:List Nat}(h:Own m M w a cap l)(u:Upd S w w')(hS:∀b∈blk a,b ∉ S)
  (e:Evo m w m' w') (hm:∀b∈m,b∈m'):Own m' M w' a cap l:=h.mono u hS e fun b hb=>hm b (h.mem b hb)
def rmv(m:List Nat)(a:Option Addr):List Nat:=m.filter fun b=>decide (b ∉ blk a)
theorem zii{m:List Nat}{a:Option Addr}:∀b∈rmv m a,b∈m:=fun b hb=>(jde.1 hb).1
theorem Own.give{α:Type}[Dat α]{m M:List Nat}{a:Option Addr}{cap:Nat}{l:List α}(h:Own m M w a cap l):SL (rmv m a++M) w a cap l :=
 h.shut (fun b hb=>by
  rcases jbi.1 hb with h1|h1
  ·exact jbi.2 (.inl (zii b h1))
  ·exact jbi.2 (.inr h1)) (fun b hb hm=>by
  rcases jbi.1 hm with h1|h1
  ·have:=(jde.1 h1).2;simp at this;exact this hb
  ·rcases h with ⟨rfl,_,_⟩|⟨g,cells,rfl,_,h2,_⟩
   ·simp[blk] at hb
   ·simp only[blk,jbz] at hb;subst hb;exact h2 h1)
theorem SL.isNone{α:Type}[Dat α]{M:List Nat}{a:Option Addr}{cap:Nat}{l:List α}(h:SL M w a cap l)(ha:a.isNone=true):l=[]:=by
 obtain⟨_,h|⟨b,off,cells,t,fz,h,_⟩⟩:=h
 ·exact h
 ·subst h;cases ha
end
end Go.Sx
end

section
namespace Go.Sx
open Go Go.RowKit
open Go.Sx.Dat (enc)

def EqV(P:Program)(T:TypeId)(u v:Value)(r:Bool):Prop:=∀dd w,(Op.equalIn (dd+1) T u v).run P w=.ok r w
section
variable {P : Program} {T T1 T2 T3 : TypeId} {kk : IntKind}
theorem EqV.int{D:IntKind}{a b:Int}(h:P.underlying T=some (.int D)):EqV P T (.int kk a) (.int kk b) (decide (a=b)):=fun dd w=>by
 simp only[Op.equalIn,jag,jan h,jaa,jb4,jad];rfl
theorem EqV.str{a b:ByteArray}(h:P.underlying T=some .string):EqV P T (.string a) (.string b) (decide (a=b)):=fun dd w=>by
 simp only[Op.equalIn,jag,jan h,jaa,jb4,jad];congr 1;rw[jbs,decide_eq_true_iff];show (a.data==b.data)=true↔_;rw[ByteArray.ext_iff];simp
theorem EqV.bool{a b:Bool}(h:P.underlying T=some .bool):EqV P T (.bool a) (.bool b) (decide (a=b)):=fun dd w=>by
 simp only[Op.equalIn,jag,jan h,jaa,jb4,jad];cases a<;>cases b<;>rfl
end
theorem ql8{P:Program}{T:TypeId}{D:TypeDesc}{size bytes off:Nat}{zero v:Value}{cs:Array Value}{w:World}(h:Ty P T D size bytes zero)(hd:qa7 D=true)(hc:cs[off]?=some v):(part T cs off).run P w=.ok v w:=by
 simp only[part,jag,qg8 h,hd,jaa,hc,jad,jbh,ja3,jbl]
structure FldE (P:Program) (f:Field) (o:Nat) (k:Nat):Prop where
 name:f.name ≠ "_"
 off:f.offset=o
 ty:f.type=k
 scal:∃D s b z,Ty P k D s b z/\qa7 D=true
theorem FldE.part{P:Program}{f:Field}{o k:Nat}{xs:Array Value}{a:Value}{w:World}(hf:FldE P f o k)(ha:xs[o]?=some a):(part f.type xs f.offset).run P w=.ok a w:=by
 obtain⟨D,s,b,z,hT,hd⟩:=hf.scal;rw[hf.off,hf.ty];exact ql8 hT hd ha
section
variable {P : Program} {T T1 T2 T3 : TypeId} {f1 f2 f3 : Field} {a1 a2 a3 b1 b2 b3 : Value} {r1 r2 r3 : Bool} {w : World}
end
section
variable {P : Program} {n : Nat} {σ : Nat -> Value} {w : World} {Q : Exit -> Act -> World -> Prop} {ops : Array Oper} {rest : List Oper}
variable {d : Nat} {ty T T' : TypeId} {pos : String} {aft : Array Edge} {g : Option (Nat × Bool)} {x y : Operand}
theorem q4i{op:BinOp}{xs ys:Array Value}(h:P.eqGuardType P.depth T=false):(eqGuard op T x y (.agg xs) (.agg ys)).run P w=.ok () w:=by
 cases op<;>simp [eqGuard,go_sem,h]
end
end Go.Sx
end

section
namespace Go.Sx
open Go Go.RowKit
open Go.Sx.Dat (enc)

def ql5(o:Oper):Bool:=match o.op with|.defer _=>false|_=>true
section
variable {F : Fence} {m : Nat} {P : Program} {ops : Array Oper} {Q : Exit -> Act -> World -> Prop}
theorem qsh{f:Nat}{args:Array Value}{w:World}{R:Ending->World->Prop}(hF:F.plain=Fence.wide)(h:Calls P f args w R):CallsIn F m P f args w R:=by
 have h1:CallsIn F.plain m P f args w R:=by rw[hF];exact jdm.2 h
 exact h1
theorem qlt(hF:F.plain=Fence.wide)(f:Nat):F.fn f:=by
 have:F.plain.fn f:=by rw[hF];trivial
 exact this
theorem qok(hF:F.plain=Fence.wide):F.depth=none:=by
 have:F.plain.depth=none:=by rw[hF];rfl
 exact this
theorem qsq{o:Oper}(h:ql5 o=true)(ro:Option Nat)(ρ:Operand->Value):Oper.semAt ro ρ o=execOp ρ o :=
 Oper.semAt_eq ro ρ o (fun c hc=>by simp[ql5,hc] at h)
end

theorem Upd.putObj(w:World)(r:Nat)(o:Obj):Upd [r] w (w.putObj r o):=⟨rfl,rfl,rfl,by simp,fun b _ hb=>jcg (fun h=>hb (by simp[h]))⟩
theorem Upd.alloc(w:World)(o:Obj):Upd [] w (w.alloc o):=⟨rfl,rfl,rfl,by simp,fun b hb _=>Below.heap_alloc _ _ _ hb⟩
end Go.Sx
end

section
namespace Go.Sx
open Go Go.RowKit

def encI(p:Int × Int):Value × Value:=(.int .i64 p.1,.int .i64 p.2)
def MapI(w:World)(b:Nat)(l:List (Int × Int)):Prop:=∃es clock,w.heap[b]?=some (.map es clock)/\es.toList.map (fun e=>(e.key,e.val))=l.map encI
theorem MapI.lt{w:World}{b:Nat}{l:List (Int × Int)}(h:MapI w b l):b<w.heap.size:=by obtain⟨_,_,h,_⟩:=h;exact qbd h
theorem MapI.mono{S:List Nat}{w w':World}{b:Nat}{l:List (Int × Int)}(h:MapI w b l)(u:Upd S w w')(hs:b ∉ S):MapI w' b l:=by
 have hl:=h.lt;obtain⟨es,c,h1,h2⟩:=h;exact⟨es,c,(u.same b hl hs).trans h1,h2⟩
theorem MapI.mono0{w w':World}{b:Nat}{l:List (Int × Int)}(h:MapI w b l)(u:Upd [] w w'):MapI w' b l:=h.mono u (by simp)
section
variable {P : Program} {n : Nat} {σ : Nat -> Value} {w : World} {Q : Exit -> Act -> World -> Prop} {ops : Array Oper} {rest : List Oper}
variable {d : Nat} {ty T : TypeId} {pos : String} {aft : Array Edge} {g : Option (Nat × Bool)} {x y z : Operand} {K E : TypeId} {kk ke : IntKind}
theorem qez{b:Nat}{es:Array MapEntry}{c:Nat}(h:w.heap[b]?=some (.map es c)):(getObj b).run P w=.ok (.map es c) w:=by simp[getObj,Sem.run,h]
end
end Go.Sx
end

section
namespace Go.Jx
open Go Go.Sx
def q49 (pos:String):Bool:=pos == "strings.go:299"
def qus:Nat->Option (List Int)
 | _=>none
def bldT:TypeId:=8900
def u8T:TypeId:=5
end Go.Jx
end

section
namespace Go.Jx
open Go Go.Sx Go.RowKit
universe u

inductive PT (α:Type u):Type u
 | leaf
 | node (v:Option α) (l r:PT α)
def PT.get{α:Type u}:PT α->Nat->Option α
 | .leaf,_=>none
 | .node v l r,n=>cond (Nat.beq n 0) v (cond (Nat.beq (n % 2) 1) (l.get (n / 2)) (r.get ((n-1) / 2)))
def PT.one{α:Type u}(x:α):Nat->Nat->PT α
 | 0,_=>.node (some x) .leaf .leaf
 | f+1,n=>cond (Nat.beq n 0) (.node (some x) .leaf .leaf) (cond (Nat.beq (n % 2) 1) (.node none (PT.one x f (n / 2)) .leaf) (.node none .leaf (PT.one x f ((n-1) / 2))))
def PT.set{α:Type u}(x:α):PT α->Nat->PT α
 | .leaf,n=>PT.one x n n
 | .node v l r,n=>cond (Nat.beq n 0) (.node (some x) l r) (cond (Nat.beq (n % 2) 1) (.node v (l.set x (n / 2)) r) (.node v l (r.set x ((n-1) / 2))))
theorem qcp{a b:Nat}(h:a=b):Nat.beq a b=true:=by subst h;exact jb6 a
theorem qa5{a b:Nat}(h:a≠b):Nat.beq a b=false:=by
 cases e:Nat.beq a b with
 | false=>rfl
 | true=>exact absurd (jah e) h
theorem PT.get_one{α:Type u}(x:α):∀(f n k:Nat),n<=f->(PT.one x f n).get k=if k=n then some x else none
 | 0,n,k,h=>by
  obtain rfl:n=0:=by omega
  by_cases hk:k=0
  ·subst hk;rfl
  ·simp only[PT.one,PT.get,qa5 hk,jae,jak hk];cases Nat.beq (k % 2) 1<;>rfl
 | f+1,n,k,h=>by
  by_cases hn:n=0
  ·subst hn;by_cases hk:k=0
   ·subst hk;rfl
   ·simp only[PT.one,PT.get,qa5 hk,jae,jak hk,jb6,jab];cases Nat.beq (k % 2) 1<;>rfl
  ·by_cases h2:n % 2=1
   ·simp only[PT.one,qa5 hn,jae,qcp h2,jab,PT.get];by_cases hk:k=0
    ·subst hk;rw[jak (jey hn)];rfl
    ·by_cases hk2:k % 2=1
     ·simp only[qa5 hk,qcp hk2,jae,jab];rw[PT.get_one x f _ _ (by omega)];by_cases e:k=n
      ·subst e;simp
      ·rw[jak e,jak (by omega)]
     ·simp only[qa5 hk,qa5 hk2,jae];rw[jak (by omega)]
   ·simp only[PT.one,qa5 hn,jae,qa5 h2,PT.get];by_cases hk:k=0
    ·subst hk;rw[jak (jey hn)];rfl
    ·by_cases hk2:k % 2=1
     ·simp only[qa5 hk,qcp hk2,jae,jab];rw[jak (by omega)]
     ·simp only[qa5 hk,qa5 hk2,jae];rw[PT.get_one x f _ _ (by omega)];by_cases e:k=n
      ·subst e;simp
      ·rw[jak e,jak (by omega)]
theorem PT.get_set{α:Type u}(x:α):∀(t:PT α) (n k:Nat),(t.set x n).get k=if k=n then some x else t.get k
 | .leaf,n,k=>by simp only[PT.set,PT.get_one x n n k (jap _)];rfl
 | .node v l r,n,k=>by
  by_cases hn:n=0
  ·subst hn;by_cases hk:k=0
   ·subst hk;rfl
   ·simp only[PT.set,PT.get,jb6,jab,qa5 hk,jae,jak hk]
  ·by_cases h2:n % 2=1
   ·simp only[PT.set,qa5 hn,jae,qcp h2,jab,PT.get];by_cases hk:k=0
    ·subst hk;rw[jak (jey hn)];simp
    ·by_cases hk2:k % 2=1
     ·simp only[qa5 hk,qcp hk2,jae,jab,PT.get_set x l];by_cases e:k=n
      ·subst e;simp
      ·rw[jak e,jak (by omega)]
     ·simp only[qa5 hk,qa5 hk2,jae];rw[jak (by omega)]
   ·simp only[PT.set,qa5 hn,jae,qa5 h2,PT.get];by_cases hk:k=0
    ·subst hk;rw[jak (jey hn)];simp
    ·by_cases hk2:k % 2=1
     ·simp only[qa5 hk,qcp hk2,jae,jab];rw[jak (by omega)]
     ·simp only[qa5 hk,qa5 hk2,jae,PT.get_set x r];by_cases e:k=n
      ·subst e;simp
      ·rw[jak e,jak (by omega)]

inductive TC:Type
 | int (k:IntKind)
 | bool
 | str
 | list (c:TC)
 | two (a b:TC)
def El:TC->Type
 | .int _=>Int
 | .bool=>Bool
 | .str=>ByteArray
 | .list c=>List (El c)
 | .two a b=>El a × El b
def kbeq:IntKind->IntKind->Bool
 | .i8,.i8=>true
 | .i16,.i16=>true
 | .i32,.i32=>true
 | .i64,.i64=>true
 | .u8,.u8=>true
 | .u16,.u16=>true
 | .u32,.u32=>true
 | .u64,.u64=>true
 | _,_=>false
theorem qfg{a b:IntKind}(h:kbeq a b=true):a=b:=by cases a<;>cases b<;>first|rfl|cases h
def TC.beq:TC->TC->Bool
 | .int k,.int k'=>kbeq k k'
 | .bool,.bool=>true
 | .str,.str=>true
 | .list a,.list b=>TC.beq a b
 | .two a b,.two a' b'=>TC.beq a a'&&TC.beq b b'
 | _,_=>false
theorem TC.beq_eq:∀{a b:TC},TC.beq a b=true->a=b
 | .int k,b,h=>by cases b<;>first|(cases h;done)|(rw[qfg h])
 | .bool,b,h=>by cases b<;>first|rfl|(cases h)
 | .str,b,h=>by cases b<;>first|rfl|(cases h)
 | .list a,b,h=>by
  cases b<;>first|(cases h;done)|skip
  rename_i b;rw[TC.beq_eq (a:=a) (b:=b) h]
 | .two a b,c,h=>by
  cases c<;>first|(cases h;done)|skip
  rename_i a' b';simp only[TC.beq,jaf] at h;rw[TC.beq_eq (a:=a) (b:=a') h.1,TC.beq_eq (a:=b) (b:=b') h.2]
def qbt(c d:TC)(l:List (El c)):Option (List (El d)) :=
 if h:TC.beq c d=true then some (TC.beq_eq h▸l) else none
theorem qcj{c d:TC}{l:List (El c)}{l':List (El d)}(h:qbt c d l=some l'):∃e:c=d,l'=e▸l:=by
 unfold qbt at h;split at h
 ·rename_i e;cases h;exact⟨TC.beq_eq e,rfl⟩
 ·cases h
def csz:TC->Nat
 | .two a b=>csz a+csz b
 | _=>1
def bsz:TC->Nat
 | .int .i8=>1
 | .int .u8=>1
 | .int .i16=>2
 | .int .u16=>2
 | .int .i32=>4
 | .int .u32=>4
 | .int _=>8
 | .bool=>1
 | .str=>16
 | .list _=>24
 | .two a b=>bsz a+bsz b

def glB(g:Nat):Bool:=(qus g).isSome
def glF(g:Nat)(o:Obj):Prop:=∃(cells:Array Value) (t:TypeId) (fz:Nat × Nat),o=.cells cells t fz/\∀l:List Int,qus g=some l->∀(i:Nat) (n:Int),l[i]?=some n->(cells:Array Value)[i]?=some (Value.int .u8 n)/\IntKind.u8.wrap n=n
inductive IV:Type
 | unk
 | bool (b:Bool)
 | int (k:IntKind) (n:Int)
 | str (s:ByteArray)
 | lst (c:TC) (l:List (El c))
 | eptr (c:TC) (x:El c) (off:Nat)
 | arr (id:Nat)
 | aptr (id s i off:Nat)
 | nilsl
 | sl (id off len s:Nat) (cap:Option Nat)
 | nilptr
 | gp (g:Nat)
 | ptr (id off:Nat)
 | nilmap
 | map (id:Nat)
 | nilfn
 | fn (f:Nat) (caps:List IV)
 | bfn (f:Nat) (bs:List IV)
 | yield (id:Nat)
 | nili
 | iface (t:Nat) (v:IV)
 | agg (cs:List IV)
 | tup (vs:List IV)
 | pan (v:IV)
def cel:(c:TC)->El c->List IV
 | .int k,n=>[.int k n]
 | .bool,b=>[.bool b]
 | .str,s=>[.str s]
 | .list c,l=>[.lst c l]
 | .two a b,x=>cel a x.1++cel b x.2
theorem qbn:∀(c:TC) (x:El c),(cel c x).length=csz c
 | .int _,_=>rfl
 | .bool,_=>rfl
 | .str,_=>rfl
 | .list _,_=>rfl
 | .two a b,x=>by simp only[cel,csz,ja4,qbn a,qbn b]
theorem qm3:∀c:TC,0<csz c
 | .int _=>Nat.one_pos
 | .bool=>Nat.one_pos
 | .str=>Nat.one_pos
 | .list _=>Nat.one_pos
 | .two a b=>by have:=qm3 a;simp only[csz];omega
def asIV:(c:TC)->El c->IV
 | .int k,n=>.int k n
 | .bool,b=>.bool b
 | .str,s=>.str s
 | .list c,l=>.lst c l
 | .two a b,x=>.agg (cel (.two a b) x)
def tmEs(k v:TC)(es:List (El k × El v)):List (IV × IV):=es.map fun e=>(asIV k e.1,asIV v e.2)
inductive IObj:Type
 | dead
 | row (cs:List IV)
 | arr (c:TC) (l:List (El c))
 | frz (c:TC) (l:List (El c))
 | map (es:List (IV × IV))
 | tmap (k v:TC) (es:List (El k × El v))
 | iter (s:ByteArray) (p:Nat)
 | defs (on:Bool)
 | bld (j:Nat)
 | loop (st:LoopState) (pend:Option Code) (nt:Nat) (fr:PT IV) (ps:List Nat) (assign body:Code) (D:Nat)
def IObj.live:IObj->Bool
 | .dead=>false
 | .frz _ _=>false
 | _=>true
def slot(fr:PT IV)(t:Nat):IV:=match fr.get t with|some v=>v|none=>.unk
def cellsOf:IV->List IV
 | .agg cs=>cs
 | v=>[v]
def one1:IV->Bool
 | .agg _=>false
 | .tup _=>false
 | .unk=>false
 | .pan _=>false
 | _=>true

structure Env where
 ρ:Nat->Nat
 κ:Nat->Nat
 hd:Nat->Value
 hb:Nat->Bool
 A:Nat->Prop
 m:List Nat
 w:World
structure Env.Le (E E':Env):Prop where
 alw:∀id,E.A id->E'.A id/\E'.ρ id=E.ρ id/\E'.κ id=E.κ id/\E'.hd id=E.hd id/\E'.hb id=E.hb id
 tr:Tr E.m E.w E'.m E'.w
theorem Env.Le.refl(E:Env):E.Le E:=⟨fun _ h=>⟨h,rfl,rfl,rfl,rfl⟩,Tr.refl _ _⟩
theorem Env.Le.trans{a b c:Env}(h:a.Le b)(k:b.Le c):a.Le c :=
 ⟨fun id ha=>let ⟨h1,h2,h3,h4,h5⟩:=h.alw id ha;let ⟨k1,k2,k3,k4,k5⟩:=k.alw id h1;⟨k1,k2.trans h2,k3.trans h3,k4.trans h4,k5.trans h5⟩,h.tr.trans k.tr⟩

inductive VR (E:Env):IV->Value->Prop
 | unk (u:Value):VR E .unk u
 | bool (b:Bool):VR E (.bool b) (.bool b)
 | int (k:IntKind) (n:Int) (h:k.wrap n=n):VR E (.int k n) (.int k n)
 | str (s:ByteArray) (h:s.size<9223372036854775808):VR E (.str s) (.string s)
 | lst0 {c:TC} {a:Option Addr} {cap:Nat} (h:cap<9223372036854775808):VR E (.lst c []) (.slice a 0 cap)
 | lst {c:TC} {l:List (El c)} {b off cap:Nat} {cells:Array Value} {t:TypeId} {fz:Nat × Nat} (us:Nat->Nat->Value) (h1:l.length<=cap) (h2:cap<9223372036854775808)
   (h3:l.length*bsz c<=140737488355328) (hb:b ∉ E.m) (hh:E.w.heap[b]?=some (.cells cells t fz))
   (hc:∀i,i<l.length->∀j,j<csz c->cells[off+i*csz c+j]?=some (us i j))
   (hu:∀i (h:i<l.length) j (h':j<(cel c l[i]).length),VR E (cel c l[i])[j] (us i j)):VR E (.lst c l) (.slice (some ⟨b,off,none⟩) l.length cap)
 | eptr {c:TC} {x:El c} {o b base:Nat} {cells:Array Value} {t:TypeId} {fz:Nat × Nat} (us:Nat->Value) (hb:b ∉ E.m) (hh:E.w.heap[b]?=some (.cells cells t fz))
   (hc:∀j,j<csz c->cells[base+j]?=some (us j)) (hu:∀j (h':j<(cel c x).length),VR E (cel c x)[j] (us j)):VR E (.eptr c x o) (.pointer (some ⟨b,base+o,none⟩))
 | arr {id len cap:Nat} {a:Option Addr} (hA:E.A id) (hh:E.hd id=.slice a len cap):VR E (.arr id) (.slice a len cap)
 | aptr {id s i o:Nat} (hA:E.A id):VR E (.aptr id s i o) (.pointer (some ⟨E.ρ id,i*s+o,none⟩))
 | nilsl:VR E .nilsl (.slice none 0 0)
 | sl {id off len s:Nat} {c:Option Nat} (cap:Nat) (hA:E.A id) (h1:len<=cap) (h2:cap<9223372036854775808) (h3:off+cap*s<=E.κ id) (h4:∀x,c=some x->cap=x) (h5:c=none->off+cap*s=E.κ id) :
   VR E (.sl id off len s c) (.slice (some ⟨E.ρ id,off,none⟩) len cap)
 | nilptr:VR E .nilptr (.pointer none)
 | gp {g:Nat} (hg:glB g=true):VR E (.gp g) (.pointer (some ⟨g,0,none⟩))
 | ptr {id off:Nat} (hA:E.A id):VR E (.ptr id off) (.pointer (some ⟨E.ρ id,off,none⟩))
 | nilmap:VR E .nilmap (.map none)
 | map {id:Nat} (hA:E.A id):VR E (.map id) (.map (some (E.ρ id)))
 | nilfn:VR E .nilfn .nilFunc
 | fn {f:Nat} {cs:List IV} {us:List Value} (hl:cs.length=us.length) (h:∀i (h:i<cs.length) (h':i<us.length),VR E cs[i] us[i]):VR E (.fn f cs) (.func (.func f) #[] us.toArray)
 | bfn {f:Nat} {cs:List IV} {us:List Value} (hl:cs.length=us.length) (h:∀i (h:i<cs.length) (h':i<us.length),VR E cs[i] us[i]):VR E (.bfn f cs) (.func (.func f) us.toArray #[])
 | yield {id:Nat} (hA:E.A id):VR E (.yield id) (.func (.yield (E.ρ id)) #[] #[])
 | nili:VR E .nili .nilIface
 | iface {t:Nat} {v:IV} {u:Value} (h:VR E v u):VR E (.iface t v) (.iface t u)
 | agg {cs:List IV} {us:List Value} (hl:cs.length=us.length) (h:∀i (h:i<cs.length) (h':i<us.length),VR E cs[i] us[i]):VR E (.agg cs) (.agg us.toArray)
 | tup {cs:List IV} {us:List Value} (hl:cs.length=us.length) (h:∀i (h:i<cs.length) (h':i<us.length),VR E cs[i] us[i]):VR E (.tup cs) (.tuple us.toArray)
theorem VR.mono{E E':Env}(e:E.Le E'){v:IV}{u:Value}(h:VR E v u):VR E' v u:=by
 induction h with
 | unk u=>exact .unk u
 | bool b=>exact .bool b
 | int k n h=>exact .int k n h
 | str s h=>exact .str s h
 | lst0 h=>exact .lst0 h
 | lst us h1 h2 h3 hb hh hc _ ih =>
  obtain⟨k1,k2⟩:=e.tr.keep _ (qbd hh) hb;exact .lst us h1 h2 h3 k1 (k2.trans hh) hc ih
 | eptr us hb hh hc _ ih =>
  obtain⟨k1,k2⟩:=e.tr.keep _ (qbd hh) hb;exact .eptr us k1 (k2.trans hh) hc ih
 | arr hA hh=>obtain⟨a1,a2,a3,a4,a5⟩:=e.alw _ hA;exact .arr a1 (a4.trans hh)
 | aptr hA=>obtain⟨a1,a2,_⟩:=e.alw _ hA;rw[<- a2];exact .aptr a1
 | nilsl=>exact .nilsl
 | sl cap hA h1 h2 h3 h4 h5 =>
  obtain⟨a1,a2,a3,_⟩:=e.alw _ hA;rw[<- a2];exact .sl cap a1 h1 h2 (by rw[a3];exact h3) h4 (by rw[a3];exact h5)
 | nilptr=>exact .nilptr
 | gp hg=>exact .gp hg
 | ptr hA=>obtain⟨a1,a2,_⟩:=e.alw _ hA;rw[<- a2];exact .ptr a1
 | nilmap=>exact .nilmap
 | map hA=>obtain⟨a1,a2,_⟩:=e.alw _ hA;rw[<- a2];exact .map a1
 | nilfn=>exact .nilfn
 | fn hl _ ih=>exact .fn hl ih
 | bfn hl _ ih=>exact .bfn hl ih
 | yield hA=>obtain⟨a1,a2,_⟩:=e.alw _ hA;rw[<- a2];exact .yield a1
 | nili=>exact .nili
 | iface _ ih=>exact .iface ih
 | agg hl _ ih=>exact .agg hl ih
 | tup hl _ ih=>exact .tup hl ih
def VRs(E:Env)(cs:List IV)(us:List Value):Prop:=cs.length=us.length/\∀i (h:i<cs.length) (h':i<us.length),VR E cs[i] us[i]
theorem VRs.mono{E E':Env}(e:E.Le E'){cs:List IV}{us:List Value}(h:VRs E cs us):VRs E' cs us:=⟨h.1,fun i a b=>(h.2 i a b).mono e⟩
theorem VRs.nil{E:Env}:VRs E [] []:=⟨rfl,fun i h=>by simp at h⟩
theorem VRs.cons{E:Env}{v:IV}{u:Value}{cs:List IV}{us:List Value}(h:VR E v u)(k:VRs E cs us):VRs E (v::cs) (u::us) :=
 ⟨by simp[k.1],fun i a b=>by
  cases i with
  | zero=>exact h
  | succ i=>exact k.2 i (by simpa using a) (by simpa using b)⟩
theorem VRs.inv{E:Env}{v:IV}{cs:List IV}{us:List Value}(h:VRs E (v::cs) us):∃u us',us=u::us'/\VR E v u/\VRs E cs us':=by
 cases us with
 | nil=>have:=h.1;simp at this
 | cons u us=>exact⟨u,us,rfl,h.2 0 (by simp) (by simp),by have:=h.1;simpa using this,fun i a b=>h.2 (i+1) (by simpa using a) (by simpa using b)⟩
theorem VRs.append{E:Env}{cs ds:List IV}{us vs:List Value}(h:VRs E cs us)(k:VRs E ds vs):VRs E (cs++ds) (us++vs) :=
 ⟨by simp[h.1,k.1],fun i a b=>by
  have hl:=h.1;by_cases hi:i<cs.length
  ·rw[jb5 hi,jb5 (by omega)];exact h.2 i hi (by omega)
  ·rw[jb1 (by omega),jb1 (by omega)];have:=k.2 (i-cs.length) (by simp at a;omega) (by simp at b;omega);simpa [hl] using this⟩
theorem VRs.take{E:Env}{cs:List IV}{us:List Value}(h:VRs E cs us)(n:Nat):VRs E (cs.take n) (us.take n) :=
 ⟨by simp[h.1],fun i a b=>by simp only[jca];exact h.2 i (by simp at a;omega) (by simp at b;omega)⟩
theorem VRs.drop{E:Env}{cs:List IV}{us:List Value}(h:VRs E cs us)(n:Nat):VRs E (cs.drop n) (us.drop n) :=
 ⟨by simp[h.1],fun i a b=>by simp only[List.getElem_drop];exact h.2 (n+i) (by simp at a;omega) (by simp at b;omega)⟩
theorem VRs.get{E:Env}{cs:List IV}{us:List Value}(h:VRs E cs us){i:Nat}{v:IV}(hv:cs[i]?=some v):∃u,us[i]?=some u/\VR E v u:=by
 obtain⟨hi,rfl⟩:=jal.1 hv;exact⟨us[i]'(by rw[<- h.1];exact hi),jac _,h.2 i hi _⟩
def qcy:IV->Bool
 | .unk=>false
 | _=>true
theorem VR.cells{E:Env}{v:IV}{u:Value}(h:VR E v u)(hv:qcy v=true):VRs E (cellsOf v) u.cells.toList:=by
 cases h with
 | agg hl h=>exact⟨hl,h⟩
 | unk=>cases hv
 | lst us h1 h2 h3 hb hh hc hu=>exact VRs.cons (.lst us h1 h2 h3 hb hh hc hu) VRs.nil
 | eptr us hb hh hc hu=>exact VRs.cons (.eptr us hb hh hc hu) VRs.nil
 | _=>refine VRs.cons ?_ VRs.nil;constructor<;>assumption
theorem VR.one{E:Env}{v:IV}{u:Value}(h:VR E v u)(hv:one1 v=true):Sx.one u=true:=by
 cases h<;>first|rfl|(cases hv;done)
theorem VRs.ones{E:Env}:∀{cs:List IV} {us:List Value},VRs E cs us->cs.all one1=true->us.all Sx.one=true
 | [],us,h,_=>by have:=h.1;cases us<;>simp at this;rfl
 | v::cs,us,h,hc=>by
  obtain⟨u,us,rfl,h1,h2⟩:=h.inv;simp only[jcp,jaf] at hc ⊢;exact⟨h1.one hc.1,h2.ones hc.2⟩

structure FR (E:Env) (n:Nat) (fr:PT IV) (tmps:Array Value):Prop where
 size:tmps.size=n
 get:∀t,t<n->VR E (slot fr t) (tmps.getD t undef)
theorem FR.mono{E E':Env}(e:E.Le E'){n:Nat}{fr:PT IV}{tmps:Array Value}(h:FR E n fr tmps):FR E' n fr tmps:=⟨h.size,fun t ht=>(h.get t ht).mono e⟩
theorem qdh(x:IV)(fr:PT IV)(n k:Nat):slot (fr.set x n) k=if k=n then x else slot fr k:=by
 unfold slot;rw[PT.get_set];by_cases h:k=n
 ·rw[jam h,jam h]
 ·rw[jak h,jak h]
theorem FR.put{E:Env}{n:Nat}{fr:PT IV}{tmps:Array Value}(h:FR E n fr tmps){d:Nat}{x:IV}{u:Value}(hx:VR E x u):FR E n (fr.set x d) (tmps.setIfInBounds d u) :=
 ⟨by simp[h.size],fun t ht=>by
  rw[qdh];by_cases e:t=d
  ·subst e;simp [h.size,ht];exact hx
  ·rw[jak e];have:=h.get t ht;simpa [jcr,jef (jey e)] using this⟩

def ARel(E:Env)(c:TC)(l:List (El c))(cells:Array Value):Prop :=
 ∃us:Nat->Nat->Value,(∀i,i<l.length->∀j,j<csz c->cells[i*csz c+j]?=some (us i j))/\∀i (h:i<l.length) j (h':j<(cel c l[i]).length),VR E (cel c l[i])[j] (us i j)
theorem ARel.mono{E E':Env}(e:E.Le E'){c:TC}{l:List (El c)}{cells:Array Value}(h:ARel E c l cells):ARel E' c l cells:=by
 obtain⟨us,h1,h2⟩:=h;exact⟨us,h1,fun i a j b=>(h2 i a j b).mono e⟩
def qb9(ents:Array MapEntry)(c:Nat):Prop:=(ents.toList.map (·.born)).Nodup/\∀e∈ents.toList,e.born<c
theorem qb9.nil:qb9 #[] 0:=⟨List.nodup_nil,fun e h=>by simp at h⟩
theorem qb9.push{ents:Array MapEntry}{c:Nat}(h:qb9 ents c)(k v:Value):qb9 (ents.push { key:=k,val:=v,born:=c }) (c+1):=by
 refine⟨?_,fun e he=>?_⟩
 ·rw[Array.toList_push,List.map_append];refine jdq.2 ⟨h.1,by simp,fun a ha b hb=>?_⟩;obtain⟨e,he,rfl⟩:=jbu.1 ha;have:=h.2 e he;simp at hb;omega
 ·rw[Array.toList_push] at he;rcases jbi.1 he with he|he
  ·have:=h.2 e he;omega
  ·simp at he;subst he;show c<c+1;omega
theorem qb9.modify{ents:Array MapEntry}{c j:Nat}(h:qb9 ents c)(f:MapEntry->MapEntry)(hf:∀e,(f e).born=e.born):qb9 (ents.modify j f) c:=by
 have e1:((ents.modify j f).toList.map (·.born))=ents.toList.map (·.born):=by
  rw[jez];apply jcx;intro i;rw[jbw,jbw,List.getElem?_modify];cases hx:ents.toList[i]? with
  | none=>simp
  | some x=>by_cases e:j=i<;>simp [e,hf]
 refine⟨by rw[e1];exact h.1,fun e he=>?_⟩;have:e.born∈(ents.modify j f).toList.map (·.born):=jbu.2 ⟨e,he,rfl⟩;rw[e1] at this;obtain⟨e',he',e2⟩:=jbu.1 this;rw[<- e2];exact h.2 e' he'
theorem qb9.erase{ents:Array MapEntry}{c j:Nat}(h:qb9 ents c):qb9 (ents.eraseIdxIfInBounds j) c:=by
 have hs:(ents.eraseIdxIfInBounds j).toList.Sublist ents.toList:=by
  unfold Array.eraseIdxIfInBounds;split
  ·rw[Array.toList_eraseIdx];exact List.eraseIdx_sublist _ _
  ·exact List.Sublist.refl _
 exact⟨h.1.sublist (hs.map _),fun e he=>h.2 e (hs.subset he)⟩
def OR(E:Env)(id:Nat):IObj->Prop
 | .dead=>True
 | .row cs=>∃cells t,E.w.heap[E.ρ id]?=some (.cells cells t (0,0))/\cells.size=E.κ id/\cs.length<=cells.size/\VRs E cs (cells.toList.take cs.length)
 | .arr c l=>∃a cap,E.hd id=.slice a l.length cap/\l.length<=cap/\cap<9223372036854775808/\l.length*bsz c<=140737488355328 /\
   ((E.hb id=false/\cap=0/\(c=.int .u8->a=none))\/(E.hb id=true/\a=some ⟨E.ρ id,0,none⟩/\∃cells t,E.w.heap[E.ρ id]?=some (.cells cells t (0,0))/\(cap*csz c<=cells.size/\(c=.int .u8->t=u8T))/\ARel E c l cells))
 | .frz c l=>VR E (.lst c l) (E.hd id)
 | .map es=>∃ents clock,E.w.heap[E.ρ id]?=some (.map ents clock)/\VRs E (es.map (·.1)) (ents.toList.map (·.key))/\VRs E (es.map (·.2)) (ents.toList.map (·.val))/\qb9 ents clock
 | .tmap k v es=>∃ents clock,E.w.heap[E.ρ id]?=some (.map ents clock)/\VRs E ((tmEs k v es).map (·.1)) (ents.toList.map (·.key))/\VRs E ((tmEs k v es).map (·.2)) (ents.toList.map (·.val))/\qb9 ents clock
 | .iter s p=>E.w.heap[E.ρ id]?=some (.stringIter s p)/\s.size<9223372036854775808
 | .defs on=>E.w.heap[E.ρ id]?=some (.deferred (if on then some [] else none))
 | .bld j=>∃p v,E.w.heap[E.ρ id]?=some (.cells #[p,v] bldT (0,0))/\(p=.pointer none\/p=.pointer (some ⟨E.ρ id,0,none⟩))/\VR E (.arr j) v
 | .loop st pend nt fr ps assign body D=>∃fn tmps,E.w.heap[E.ρ id]?=some (.loop { state:=st,pending:=pend,fn,tmps,params:=ps.toArray,assign,body,defers:=E.ρ D })/\FR E nt fr tmps/\E.A D
theorem OR.lt{E:Env}{id:Nat}{o:IObj}(h:OR E id o)(hl:o.live=true)(hb:E.hb id=true):E.ρ id<E.w.heap.size:=by
 cases o with
 | dead=>cases hl
 | frz=>cases hl
 | row cs=>obtain⟨_,_,h,_⟩:=h;exact qbd h
 | arr c l =>
  obtain⟨_,_,_,_,_,_,h⟩:=h;rcases h with ⟨h,_⟩|⟨_,_,_,_,h,_⟩
  ·rw[hb] at h;cases h
  ·exact qbd h
 | map es=>obtain⟨_,_,h,_⟩:=h;exact qbd h
 | tmap k v es=>obtain⟨_,_,h,_⟩:=h;exact qbd h
 | iter s p=>exact qbd h.1
 | defs on=>exact qbd h
 | bld j=>obtain⟨_,_,h,_⟩:=h;exact qbd h
 | loop=>obtain⟨_,_,h,_⟩:=h;exact qbd h
def IObj.blk:IObj->Bool
 | .arr _ _=>false
 | o=>o.live
theorem OR.mono{E E':Env}(e:E.Le E'){id:Nat}{o:IObj}(hA:E.A id)(hB:o.blk=true->E.hb id=true)(hs:o.live=true->E.hb id=true->E'.w.heap[E.ρ id]?=E.w.heap[E.ρ id]?)(h:OR E id o):OR E' id o:=by
 obtain⟨a1,a2,a3,a4,a5⟩:=e.alw id hA;cases o with
 | dead=>trivial
 | frz c l=>show VR E' (.lst c l) (E'.hd id);rw[a4];exact VR.mono e h
 | row cs=>obtain⟨cells,t,h1,h2,h3,h4⟩:=h;exact⟨cells,t,by rw[a2,hs rfl (hB rfl),h1],by rw[a3,h2],h3,h4.mono e⟩
 | arr c l =>
  obtain⟨a,cap,h1,h2,h3,h4,h5⟩:=h;refine⟨a,cap,by rw[a4,h1],h2,h3,h4,?_⟩;rcases h5 with ⟨h5,h6⟩|⟨h5,h6,cells,t,h7,h8,h9⟩
  ·exact .inl ⟨by rw[a5,h5],h6⟩
  ·exact .inr ⟨by rw[a5,h5],by rw[a2,h6],cells,t,by rw[a2,hs rfl h5,h7],h8,h9.mono e⟩
 | map es=>obtain⟨ents,c,h1,h2,h3,h4⟩:=h;exact⟨ents,c,by rw[a2,hs rfl (hB rfl),h1],h2.mono e,h3.mono e,h4⟩
 | tmap k v es=>obtain⟨ents,c,h1,h2,h3,h4⟩:=h;exact⟨ents,c,by rw[a2,hs rfl (hB rfl),h1],h2.mono e,h3.mono e,h4⟩
 | iter s p=>show _/\_;rw[a2,hs rfl (hB rfl)];exact h
 | defs on=>show _=_;rw[a2,hs rfl (hB rfl)];exact h
 | bld j=>obtain⟨p,v,h1,h2,h3⟩:=h;exact⟨p,v,by rw[a2,hs rfl (hB rfl),h1],by rw[a2];exact h2,h3.mono e⟩
 | loop st pend nt fr ps assign body D =>
  obtain⟨fn,tmps,h1,h2,h3⟩:=h;obtain⟨b1,b2,_⟩:=e.alw D h3;exact⟨fn,tmps,by rw[a2,hs rfl (hB rfl),h1,b2],h2.mono e,b1⟩

def up{α:Type u}(f:Nat->α)(i:Nat)(x:α):Nat->α:=fun k=>if k=i then x else f k
theorem qah{α:Type u}(f:Nat->α)(i:Nat)(x:α):up f i x i=x:=by simp[up]
theorem up_ne{α:Type u}(f:Nat->α){i k:Nat}(x:α)(h:k≠i):up f i x k=f k:=by simp[up,h]
structure TW where
 r:Nat->Prop
 w:Nat->Prop
 sub:∀id,w id->r id
abbrev Heap:=Nat->Option IObj
def Live(E:Env)(H:Heap)(id:Nat):Prop:=E.hb id=true/\∃o,H id=some o/\o.live=true
structure St (T:Nat->Prop) (E:Env) (H:Heap):Prop where
 objs:∀id,T id->E.A id->∀o,H id=some o->OR E id o
 blk:∀id,T id->E.A id->∀o,H id=some o->o.blk=true->E.hb id=true
 own:∀id,T id->E.A id->Live E H id->E.ρ id∈E.m
 inj:∀i j,T i->T j->E.A i->E.A j->Live E H i->Live E H j->E.ρ i=E.ρ j->i=j
 lo:∀b∈E.m,b<E.w.heap.size
structure Stp (T:Nat->Prop) (E:Env) (H:Heap) (E':Env) (H':Heap):Prop where
 os:E'.w.os=E.w.os
 tape:E'.w.tape=E.w.tape
 output:E'.w.output=E.w.output
 size:E.w.heap.size<=E'.w.heap.size
 same:∀b,b<E.w.heap.size->(∀id,T id->E.A id->Live E H id->E.ρ id≠b)->E'.w.heap[b]?=E.w.heap[b]?
 alw:∀id,E.A id->E'.A id/\E'.ρ id=E.ρ id/\E'.κ id=E.κ id/\E'.hd id=E.hd id/\E'.hb id=E.hb id
 new:∀id,E'.A id->¬E.A id->Live E' H' id->E.w.heap.size<=E'.ρ id\/∃j,T j/\E.A j/\Live E H j/\E'.ρ id=E.ρ j
 old:∀id,T id->E.A id->Live E' H' id->Live E H id
 memo:∀b∈E'.m,b∈E.m\/E.w.heap.size<=b
 mem:∀b∈E.m,b<E.w.heap.size->b∈E'.m\/∃id,T id/\E.A id/\Live E H id/\E.ρ id=b
theorem Stp.refl(T:Nat->Prop)(E:Env)(H:Heap):Stp T E H E H :=
 ⟨rfl,rfl,rfl,jap _,fun _ _ _=>rfl,fun _ h=>⟨h,rfl,rfl,rfl,rfl⟩,fun _ h k=>absurd h k,fun _ _ _ h=>h,fun _ h=>.inl h,fun _ h _=>.inl h⟩
theorem Stp.le{T:TW}{E E':Env}{H H':Heap}(st:St T.r E H)(h:Stp T.w E H E' H'):E.Le E' :=
 ⟨h.alw,⟨fun b hb hm=>⟨fun h'=>by
  rcases h.memo b h' with h1|h1
  ·exact hm h1
  ·omega,h.same b hb fun id hT hA hL e=>hm (e▸st.own id (T.sub _ hT) hA hL)⟩⟩⟩
theorem Stp.trans{T:Nat->Prop}{E E' E'':Env}{H H' H'':Heap}(hT:∀id,E'.A id->¬E.A id->T id)(h:Stp T E H E' H')(k:Stp T E' H' E'' H''):Stp T E H E'' H'':=by
 have hlv:∀id,T id->E'.A id->Live E' H' id->E.w.heap.size<=E'.ρ id\/∃j,T j/\E.A j/\Live E H j/\E'.ρ id=E.ρ j:=fun id ht ha hL=>by
  by_cases hA:E.A id
  ·exact .inr ⟨id,ht,hA,h.old id ht hA hL,(h.alw id hA).2.1⟩
  ·exact h.new id ha hA hL
 refine⟨k.os.trans h.os,k.tape.trans h.tape,k.output.trans h.output,ja5 h.size k.size,fun b hb hn=>?_,fun id ha=>?_,fun id ha hn hL=>?_,fun id ht ha hL=>h.old id ht ha (k.old id ht (h.alw id ha).1 hL),fun b hb=>?_,fun b hb hlt=>?_⟩
 ·refine(k.same b (jaz hb h.size) fun id ht ha hL e=>?_).trans (h.same b hb hn);rcases hlv id ht ha hL with h1|⟨j,j1,j2,j3,j4⟩
  ·omega
  ·exact hn j j1 j2 j3 (j4▸e)
 ·obtain⟨a1,a2,a3,a4,a5⟩:=h.alw id ha;obtain⟨b1,b2,b3,b4,b5⟩:=k.alw id a1;exact⟨b1,b2.trans a2,b3.trans a3,b4.trans a4,b5.trans a5⟩
 ·by_cases hA:E'.A id
  ·obtain⟨b1,b2,b3⟩:=k.alw id hA;rw[b2];exact h.new id hA hn (k.old id (hT id hA hn) hA hL)
  ·rcases k.new id ha hA hL with h1|⟨j,j1,j2,j3,j4⟩
   ·exact .inl (ja5 h.size h1)
   ·rw[j4];exact hlv j j1 j2 j3
 ·rcases k.memo b hb with h1|h1
  ·exact h.memo b h1
  ·exact .inr (ja5 h.size h1)
 ·rcases h.mem b hb hlt with h1|h1
  ·rcases k.mem b h1 (jaz hlt h.size) with h2|⟨id,j1,j2,j3,j4⟩
   ·exact .inl h2
   ·rcases hlv id j1 j2 j3 with h3|⟨j,i1,i2,i3,i4⟩
    ·omega
    ·exact .inr ⟨j,i1,i2,i3,i4▸j4⟩
  ·exact .inr h1
end Go.Jx
end

section
namespace Go.Jx
open Go Go.Sx Go.RowKit
universe u

theorem Live.up_ne{E:Env}{H:Heap}{i k:Nat}{x:Option IObj}(h:k≠i):Live E (up H i x) k↔Live E H k:=by unfold Live;rw[Jx.up_ne _ _ h]
theorem Live.hb{E E':Env}{H:Heap}{k:Nat}(e:E'.hb k=E.hb k):Live E' H k↔Live E H k:=by unfold Live;rw[e]
def Env.at_(E:Env)(w':World):Env:={ E with w:=w' }
theorem Env.at_le{T:TW}{E:Env}{H:Heap}{id:Nat}{w':World}(st:St T.r E H)(hT:T.w id)(hA:E.A id)(hL:Live E H id)(u:Upd [E.ρ id] E.w w'):E.Le (E.at_ w') :=
 ⟨fun _ h=>⟨h,rfl,rfl,rfl,rfl⟩,⟨fun b hb hm=>⟨hm,u.same b hb fun h=>hm (by
  have:b=E.ρ id:=by simpa using h
  rw[this];exact st.own id (T.sub _ hT) hA hL)⟩⟩⟩
theorem St.write{T:TW}{E:Env}{H:Heap}{id:Nat}{o':IObj}{w':World}(st:St T.r E H)(hT:T.w id)(hA:E.A id)(hL:Live E H id)(u:Upd [E.ρ id] E.w w')
  (ho:OR (E.at_ w') id o'):St T.r (E.at_ w') (up H id (some o'))/\Stp T.w E H (E.at_ w') (up H id (some o')):=by
 have hle:=Env.at_le st hT hA hL u;have hlive:∀j,Live (E.at_ w') (up H id (some o')) j->Live E H j:=fun j h=>by
  by_cases e:j=id
  ·subst e;exact hL
  ·exact(Live.up_ne (E:=E) e).1 h
 refine⟨⟨fun j ht ha o hj=>?_,fun j ht ha o hj hbk=>?_,fun j ht ha hl=>st.own j ht ha (hlive j hl),fun i j a b c d e f=>st.inj i j a b c d (hlive i e) (hlive j f),fun b hb=>jaz (st.lo b hb) u.size⟩,
  ⟨u.os,u.tape,u.output,u.size,fun b hb hn=>u.same b hb fun h=>hn id hT hA hL (jbz.1 h).symm,hle.alw,fun j h k=>absurd h k,fun j _ _ h=>hlive j h,fun b h=>.inl h,fun b h _=>.inl h⟩⟩
 ·by_cases e:j=id
  ·subst e;rw[qah] at hj;cases hj;exact ho
  ·rw[Jx.up_ne _ _ e] at hj;exact(st.objs j ht ha o hj).mono hle ha (st.blk j ht ha o hj) fun hd hb=>u.same _ ((st.objs j ht ha o hj).lt hd hb) fun h=>e (st.inj j id ht (T.sub _ hT) ha hA ⟨hb,o,hj,hd⟩ hL (by simpa using h))
 ·by_cases e:j=id
  ·subst e;exact hL.1
  ·rw[Jx.up_ne _ _ e] at hj;exact st.blk j ht ha o hj hbk
def Env.with_(E:Env)(id k:Nat)(hd:Value)(w':World):Env:=⟨up E.ρ id E.w.heap.size,up E.κ id k,up E.hd id hd,up E.hb id true,fun j=>E.A j\/j=id,E.w.heap.size::E.m,w'⟩
theorem Env.with_le{E:Env}{id k:Nat}{hd:Value}{w':World}(hA:¬E.A id)(u:Upd [] E.w w'):E.Le (E.with_ id k hd w') :=
 ⟨fun j h=>⟨.inl h,up_ne _ _ fun e=>hA (e▸h),up_ne _ _ fun e=>hA (e▸h),up_ne _ _ fun e=>hA (e▸h),up_ne _ _ fun e=>hA (e▸h)⟩,⟨fun b hb hm=>⟨fun h=>by
  rcases ja1.1 h with h1|h1
  ·omega
  ·exact hm h1,u.same b hb (by simp)⟩⟩⟩
theorem St.new{T:TW}{E:Env}{H:Heap}{id k:Nat}{hd:Value}{o:IObj}{w':World}(st:St T.r E H)(hA:¬E.A id)(u:Upd [] E.w w')(hz:w'.heap.size=E.w.heap.size+1)
  (ho:OR (E.with_ id k hd w') id o):St T.r (E.with_ id k hd w') (up H id (some o))/\Stp T.w E H (E.with_ id k hd w') (up H id (some o)):=by
 have hle:=Env.with_le (k:=k) (hd:=hd) hA u;have hρ:∀j,j≠id->(E.with_ id k hd w').ρ j=E.ρ j:=fun j h=>Jx.up_ne _ _ h;have hρ0:(E.with_ id k hd w').ρ id=E.w.heap.size:=qah _ _ _;have lt:∀j,T.r j->E.A j->Live E H j->E.ρ j<E.w.heap.size:=fun j ht ha hl=>st.lo _ (st.own j ht ha hl);have hlv:∀j,j≠id->Live (E.with_ id k hd w') (up H id (some o)) j->Live E H j:=fun j hj h=>(Live.hb (E:=E) (up_ne _ _ hj)).1 ((Live.up_ne hj).1 h)
 refine⟨⟨fun j ht ha o' hj=>?_,fun j ht ha o' hj hbk=>?_,fun j ht ha hl=>?_,fun i j a b c d e f h=>?_,fun b hb=>?_⟩,
  ⟨u.os,u.tape,u.output,u.size,fun b hb hn=>u.same b hb (by simp),hle.alw,fun j h hn _=>?_,fun j ht ha h=>?_,fun b h=>?_,fun b h _=>.inl (jbc _ h)⟩⟩
 ·by_cases e:j=id
  ·subst e;rw[qah] at hj;cases hj;exact ho
  ·rw[Jx.up_ne _ _ e] at hj;have ha':E.A j:=ha.resolve_right e;exact(st.objs j ht ha' o' hj).mono hle ha' (st.blk j ht ha' o' hj) fun hd hb=>u.same _ ((st.objs j ht ha' o' hj).lt hd hb) (by simp)
 ·by_cases e:j=id
  ·subst e;exact qah _ _ _
  ·rw[Jx.up_ne _ _ e] at hj;have ha':E.A j:=ha.resolve_right e;show up E.hb id true j=true;rw[Jx.up_ne _ _ e];exact st.blk j ht ha' o' hj hbk
 ·by_cases e:j=id
  ·subst e;rw[hρ0];exact jbq
  ·rw[hρ j e];exact jbc _ (st.own j ht (ha.resolve_right e) (hlv j e hl))
 ·by_cases hi:i=id
  ·by_cases hj:j=id
   ·rw[hi,hj]
   ·rw[hi,hρ0,hρ j hj] at h;have:=lt j b (d.resolve_right hj) (hlv j hj f);omega
  ·by_cases hj:j=id
   ·rw[hj,hρ0,hρ i hi] at h;have:=lt i a (c.resolve_right hi) (hlv i hi e);omega
   ·rw[hρ i hi,hρ j hj] at h;exact st.inj i j a b (c.resolve_right hi) (d.resolve_right hj) (hlv i hi e) (hlv j hj f) h
 ·rw[show (E.with_ id k hd w').w=w' from rfl,hz];rcases ja1.1 hb with h1|h1
  ·omega
  ·have:=st.lo b h1;omega
 ·rcases h with h1|h1
  ·exact absurd h1 hn
  ·subst h1;rw[hρ0];exact .inl (jap _)
 ·exact hlv j (fun e:j=id=>hA (e▸ha)) h
 ·rcases ja1.1 h with h1|h1
  ·exact .inr (by omega)
  ·exact .inl h1
def Env.gho(E:Env)(id:Nat)(hd:Value):Env:={ E with hd:=up E.hd id hd,hb:=up E.hb id false,A:=fun j=>E.A j\/j=id }
theorem Env.gho_le{E:Env}{id:Nat}{hd:Value}(hA:¬E.A id):E.Le (E.gho id hd) :=
 ⟨fun j h=>⟨.inl h,rfl,rfl,up_ne _ _ fun e=>hA (e▸h),up_ne _ _ fun e=>hA (e▸h)⟩,Tr.refl _ _⟩
theorem St.ghost{T:TW}{E:Env}{H:Heap}{id:Nat}{hd:Value}{o:IObj}(st:St T.r E H)(hA:¬E.A id)(hbo:o.blk=false)
  (ho:OR (E.gho id hd) id o):St T.r (E.gho id hd) (up H id (some o))/\Stp T.w E H (E.gho id hd) (up H id (some o)):=by
 have hle:=Env.gho_le (hd:=hd) hA;have hlv:∀j,Live (E.gho id hd) (up H id (some o)) j->j≠id/\Live E H j:=fun j h=>by
  have hj:j≠id:=fun e=>by subst e;have:=h.1;simp [Env.gho,qah] at this
  exact⟨hj,(Live.hb (E:=E) (up_ne _ _ hj)).1 ((Live.up_ne hj).1 h)⟩
 refine⟨⟨fun j ht ha o' hj=>?_,fun j ht ha o' hj hbk=>?_,fun j ht ha hl=>st.own j ht (ha.resolve_right (hlv j hl).1) (hlv j hl).2,fun i j a b c d e f h=>st.inj i j a b (c.resolve_right (hlv i e).1) (d.resolve_right (hlv j f).1) (hlv i e).2 (hlv j f).2 h,st.lo⟩,
  ⟨rfl,rfl,rfl,jap _,fun _ _ _=>rfl,hle.alw,fun j h k hl=>absurd (h.resolve_right (hlv j hl).1) k,fun j _ _ h=>(hlv j h).2,fun b h=>.inl h,fun b h _=>.inl h⟩⟩
 ·by_cases e:j=id
  ·subst e;rw[qah] at hj;cases hj;exact ho
  ·rw[Jx.up_ne _ _ e] at hj;have ha':E.A j:=ha.resolve_right e;exact(st.objs j ht ha' o' hj).mono hle ha' (st.blk j ht ha' o' hj) fun _ _=>rfl
 ·by_cases e:j=id
  ·subst e;rw[qah] at hj;cases hj;rw[hbo] at hbk;cases hbk
  ·rw[Jx.up_ne _ _ e] at hj;show up E.hb id false j=true;rw[Jx.up_ne _ _ e];exact st.blk j ht (ha.resolve_right e) o' hj hbk
theorem St.kill{T:TW}{E:Env}{H:Heap}{id:Nat}(st:St T.r E H):St T.r E (up H id (some .dead))/\Stp T.w E H E (up H id (some .dead)):=by
 have hl:∀j,Live E (up H id (some .dead)) j->Live E H j:=fun j h=>by
  by_cases e:j=id
  ·subst e;obtain⟨_,o,h1,h2⟩:=h;rw[qah] at h1;cases h1;cases h2
  ·exact(Live.up_ne e).1 h
 refine⟨⟨fun j ht ha o hj=>?_,fun j ht ha o hj hbk=>?_,fun j ht ha h=>st.own j ht ha (hl j h),fun i j a b c d e f=>st.inj i j a b c d (hl i e) (hl j f),st.lo⟩,
  ⟨rfl,rfl,rfl,jap _,fun _ _ _=>rfl,fun _ h=>⟨h,rfl,rfl,rfl,rfl⟩,fun j h k=>absurd h k,fun j _ _ h=>hl j h,fun b h=>.inl h,fun b h _=>.inl h⟩⟩
 ·by_cases e:j=id
  ·subst e;rw[qah] at hj;cases hj;trivial
  ·rw[Jx.up_ne _ _ e] at hj;exact st.objs j ht ha o hj
 ·by_cases e:j=id
  ·subst e;rw[qah] at hj;cases hj;cases hbk
  ·rw[Jx.up_ne _ _ e] at hj;exact st.blk j ht ha o hj hbk
def Env.moved(E:Env)(id id':Nat)(hd:Value)(w':World):Env:=⟨up E.ρ id' (E.ρ id),up E.κ id' (E.κ id),up E.hd id' hd,up E.hb id' true,fun j=>E.A j\/j=id',E.m,w'⟩
theorem St.move{T:TW}{E:Env}{H:Heap}{id id':Nat}{hd:Value}{o:IObj}{w':World}(st:St T.r E H)(hT:T.w id)(hA:E.A id)(hL:Live E H id)(hA':¬E.A id')(u:Upd [E.ρ id] E.w w')
  (ho:OR (E.moved id id' hd w') id' o):E.Le (E.moved id id' hd w')/\St T.r (E.moved id id' hd w') (up (up H id (some .dead)) id' (some o))/\Stp T.w E H (E.moved id id' hd w') (up (up H id (some .dead)) id' (some o)):=by
 have hne:id≠id':=fun e=>hA' (e▸hA);have hle0:=Env.at_le st hT hA hL u;have hle:E.Le (E.moved id id' hd w'):=⟨fun j h=>⟨.inl h,up_ne _ _ fun e=>hA' (e▸h),up_ne _ _ fun e=>hA' (e▸h),up_ne _ _ fun e=>hA' (e▸h),up_ne _ _ fun e=>hA' (e▸h)⟩,hle0.tr⟩;have hρ:∀j,j≠id'->(E.moved id id' hd w').ρ j=E.ρ j:=fun j h=>Jx.up_ne _ _ h;have hρ0:(E.moved id id' hd w').ρ id'=E.ρ id:=qah _ _ _;have hlv:∀j,j≠id'->Live (E.moved id id' hd w') (up (up H id (some .dead)) id' (some o)) j->Live E H j/\j≠id:=fun j h1 h=>by
  have h:=(Live.hb (E:=E) (up_ne _ _ h1)).1 ((Live.up_ne h1).1 h);by_cases e:j=id
  ·subst e;obtain⟨_,o,h1,h2⟩:=h;rw[qah] at h1;cases h1;cases h2
  ·exact⟨(Live.up_ne e).1 h,e⟩
 refine⟨hle,⟨fun j ht ha o' hj=>?_,fun j ht ha o' hj hbk=>?_,fun j ht ha hl=>?_,fun i j a b c d e f h=>?_,fun b hb=>jaz (st.lo b hb) u.size⟩,
  ⟨u.os,u.tape,u.output,u.size,fun b hb hn=>u.same b hb fun h=>hn id hT hA hL (jbz.1 h).symm,hle.alw,fun j h hn _=>?_,fun j ht ha h=>?_,fun b h=>.inl h,fun b h _=>.inl h⟩⟩
 ·by_cases e:j=id'
  ·subst e;rw[qah] at hj;cases hj;exact ho
  ·rw[Jx.up_ne _ _ e] at hj;have ha':E.A j:=ha.resolve_right e;by_cases e2:j=id
   ·subst e2;rw[qah] at hj;cases hj;trivial
   ·rw[Jx.up_ne _ _ e2] at hj;exact(st.objs j ht ha' o' hj).mono hle ha' (st.blk j ht ha' o' hj) fun hd hb=>u.same _ ((st.objs j ht ha' o' hj).lt hd hb) fun h=>e2 (st.inj j id ht (T.sub _ hT) ha' hA ⟨hb,o',hj,hd⟩ hL (by simpa using h))
 ·by_cases e:j=id'
  ·subst e;exact qah _ _ _
  ·rw[Jx.up_ne _ _ e] at hj;show up E.hb id' true j=true;rw[Jx.up_ne _ _ e];by_cases e2:j=id
   ·subst e2;rw[qah] at hj;cases hj;cases hbk
   ·rw[Jx.up_ne _ _ e2] at hj;exact st.blk j ht (ha.resolve_right e) o' hj hbk
 ·by_cases e:j=id'
  ·subst e;rw[hρ0];exact st.own id (T.sub _ hT) hA hL
  ·rw[hρ j e];exact st.own j ht (ha.resolve_right e) (hlv j e hl).1
 ·by_cases hi:i=id'
  ·by_cases hj:j=id'
   ·rw[hi,hj]
   ·obtain⟨h1,h2⟩:=hlv j hj f;rw[hi,hρ0,hρ j hj] at h;exact absurd (st.inj id j (T.sub _ hT) b hA (d.resolve_right hj) hL h1 h).symm h2
  ·by_cases hj:j=id'
   ·obtain⟨h1,h2⟩:=hlv i hi e;rw[hj,hρ0,hρ i hi] at h;exact absurd (st.inj i id a (T.sub _ hT) (c.resolve_right hi) hA h1 hL h) h2
   ·rw[hρ i hi,hρ j hj] at h;exact st.inj i j a b (c.resolve_right hi) (d.resolve_right hj) (hlv i hi e).1 (hlv j hj f).1 h
 ·rcases h with h1|h1
  ·exact absurd h1 hn
  ·subst h1;exact .inr ⟨id,hT,hA,hL,hρ0⟩
 ·exact(hlv j (fun e:j=id'=>hA' (e▸ha)) h).1
theorem St.idle{T:TW}{E:Env}{H:Heap}{w':World}(st:St T.r E H)(u:Upd [] E.w w'):St T.r (E.at_ w') H/\Stp T.w E H (E.at_ w') H:=by
 have hle:E.Le (E.at_ w'):=⟨fun _ h=>⟨h,rfl,rfl,rfl,rfl⟩,⟨fun b hb hm=>⟨hm,u.same b hb (by simp)⟩⟩⟩
 exact⟨⟨fun j ht ha o hj=>(st.objs j ht ha o hj).mono hle ha (st.blk j ht ha o hj) fun hd hb=>u.same _ ((st.objs j ht ha o hj).lt hd hb) (by simp),st.blk,fun j ht ha hl=>st.own j ht ha hl,fun i j a b c d e f=>st.inj i j a b c d e f,fun b hb=>jaz (st.lo b hb) u.size⟩,
  ⟨u.os,u.tape,u.output,u.size,fun b hb hn=>u.same b hb (by simp),hle.alw,fun j h k=>absurd h k,fun j _ _ h=>h,fun b h=>.inl h,fun b h _=>.inl h⟩⟩
def Env.less(E:Env)(id:Nat):Env:={ E with m:=cond (E.hb id) (E.m.filter (fun b=>!Nat.beq b (E.ρ id))) E.m }
theorem Env.less_mem{E:Env}{id b:Nat}(h:b∈(E.less id).m):b∈E.m:=by
 unfold Env.less at h;cases hb:E.hb id with
 | false=>rw[hb] at h;exact h
 | true=>rw[hb] at h;exact(jde.1 h).1
theorem Env.less_out{E:Env}{id b:Nat}(h:b∈E.m):b∈(E.less id).m\/(E.hb id=true/\b=E.ρ id):=by
 unfold Env.less;cases hb:E.hb id with
 | false=>exact .inl h
 | true =>
  by_cases e:b=E.ρ id
  ·exact .inr ⟨rfl,e⟩
  ·exact .inl (jde.2 ⟨h,by rw[qa5 e];rfl⟩)
theorem Env.less_le(E:Env)(id:Nat):E.Le (E.less id):=⟨fun _ h=>⟨h,rfl,rfl,rfl,rfl⟩,⟨fun b hb hm=>⟨fun h=>hm (Env.less_mem h),rfl⟩⟩⟩
theorem St.freeze{T:TW}{E:Env}{H:Heap}{id:Nat}{c:TC}{l:List (El c)}(st:St T.r E H)(hT:T.w id)(hA:E.A id)(ho:H id=some (.arr c l)) :
  St T.r (E.less id) (up H id (some (.frz c l)))/\Stp T.w E H (E.less id) (up H id (some (.frz c l)))/\VR (E.less id) (.lst c l) (E.hd id):=by
 have hle:=E.less_le id;have hL:E.hb id=true->Live E H id:=fun hb=>⟨hb,_,ho,rfl⟩;have hor:=st.objs id (T.sub _ hT) hA _ ho;have hv:VR (E.less id) (.lst c l) (E.hd id):=by
  obtain⟨a,cap,h1,h2,h3,h4,h5⟩:=hor;rw[h1];rcases h5 with ⟨h5,h6,_⟩|⟨h5,h6,cells,t,h7,h8,us,h9,h10⟩
  ·have:l.length=0:=by omega
   rw[jbo.1 this];exact .lst0 h3
  ·rw[h6];exact .lst us h2 h3 h4 (fun hm=>by unfold Env.less at hm;rw[h5] at hm;have:=(jde.1 hm).2;rw[jb6] at this;cases this) h7 (fun i hi j hj=>by rw[ja9];exact h9 i hi j hj) (fun i hi j hj=>(h10 i hi j hj).mono hle)
 have hl:∀j,Live (E.less id) (up H id (some (.frz c l))) j->j≠id/\Live E H j:=fun j h=>by
  have hj:j≠id:=fun e=>by subst e;obtain⟨_,o,h1,h2⟩:=h;rw[qah] at h1;cases h1;cases h2
  exact⟨hj,(Live.up_ne (E:=E) hj).1 h⟩
 refine⟨⟨fun j ht ha o hj=>?_,fun j ht ha o hj hbk=>?_,fun j ht ha h=>?_,fun i j a b c d e f h=>st.inj i j a b c d (hl i e).2 (hl j f).2 h,fun b hb=>st.lo b (Env.less_mem hb)⟩,
  ⟨rfl,rfl,rfl,jap _,fun _ _ _=>rfl,hle.alw,fun j h k=>absurd h k,fun j _ _ h=>(hl j h).2,fun b h=>.inl (Env.less_mem h),fun b h _=>?_⟩,hv⟩
 ·by_cases e:j=id
  ·subst e;rw[qah] at hj;cases hj;exact hv
  ·rw[Jx.up_ne _ _ e] at hj;exact(st.objs j ht ha o hj).mono hle ha (st.blk j ht ha o hj) fun _ _=>rfl
 ·by_cases e:j=id
  ·subst e;rw[qah] at hj;cases hj;cases hbk
  ·rw[Jx.up_ne _ _ e] at hj;exact st.blk j ht ha o hj hbk
 ·obtain⟨h1,h2⟩:=hl j h;rcases Env.less_out (id:=id) (st.own j ht ha h2) with h3|⟨h3,h4⟩
  ·exact h3
  ·exact absurd (st.inj j id ht (T.sub _ hT) ha hA h2 (hL h3) h4) h1
 ·rcases Env.less_out (id:=id) h with h3|⟨h3,h4⟩
  ·exact .inl h3
  ·exact .inr ⟨id,hT,hA,hL h3,h4.symm⟩

structure IS:Type where
 heap:PT IObj
 next:Nat
def IS.H(S:IS):Heap:=S.heap.get
def IS.set(S:IS)(id:Nat)(o:IObj):IS:=⟨S.heap.set o id,S.next⟩
def IS.new(S:IS)(o:IObj):IS:=⟨S.heap.set o S.next,S.next+1⟩
theorem IS.H_set(S:IS)(id:Nat)(o:IObj):(S.set id o).H=up S.H id (some o):=by
 funext k;unfold IS.H IS.set up;rw[PT.get_set]
theorem IS.H_new(S:IS)(o:IObj):(S.new o).H=up S.H S.next (some o):=by
 funext k;unfold IS.H IS.new up;rw[PT.get_set]
structure Gl (m:List Nat) (w:World):Prop where
 h:∀b,glB b=true->b ∉ m/\∃o,w.heap[b]?=some o/\glF b o
theorem Gl.mono{m m':List Nat}{w w':World}(g:Gl m w)(t:Tr m w m' w'):Gl m' w':=⟨fun b hb=>by
 obtain⟨h1,o,h2,h3⟩:=g.h b hb;obtain⟨h4,h5⟩:=t.keep b (qbd h2) h1;exact⟨h4,o,h5.trans h2,h3⟩⟩
theorem Gl.sub{m m':List Nat}{w:World}(g:Gl m w)(h:∀b∈m',b∈m):Gl m' w:=g.mono (Tr.sub w h)
structure Pre (T:TW) (E:Env) (S:IS):Prop where
 st:St T.r E S.H
 bnd:∀id,E.A id->id<S.next
 nw:∀id,S.next<=id->T.w id
 gl:Gl E.m E.w
structure Post (T:TW) (E:Env) (S:IS) (E':Env) (S':IS):Prop where
 st:St T.r E' S'.H
 stp:Stp T.w E S.H E' S'.H
 bnd:∀id,E'.A id->id<S'.next
 le:S.next<=S'.next
theorem Post.pre{T:TW}{E E':Env}{S S':IS}(p:Pre T E S)(h:Post T E S E' S'):Pre T E' S' :=
 ⟨h.st,h.bnd,fun id hi=>p.nw id (ja5 h.le hi),p.gl.mono (h.stp.le p.st).tr⟩
theorem Post.refl{T:TW}{E:Env}{S:IS}(p:Pre T E S):Post T E S E S:=⟨p.st,Stp.refl _ _ _,p.bnd,jap _⟩
theorem Post.env{T:TW}{E E':Env}{S S':IS}(p:Pre T E S)(h:Post T E S E' S'):E.Le E':=h.stp.le p.st
structure Fresh (E:Env) (S:IS) (E':Env):Prop where
 fr:∀id,E'.A id->¬E.A id->S.next<=id
theorem Post.trans{T:TW}{E E' E'':Env}{S S' S'':IS}(p:Pre T E S)(h:Post T E S E' S')(f:Fresh E S E')(k:Post T E' S' E'' S''):Post T E S E'' S'' :=
 ⟨k.st,h.stp.trans (fun id ha hn=>p.nw id (f.fr id ha hn)) k.stp,k.bnd,ja5 h.le k.le⟩
theorem Fresh.trans{E E' E'':Env}{S S':IS}(f:Fresh E S E')(k:Fresh E' S' E'')(hl:S.next<=S'.next):Fresh E S E'' :=
 ⟨fun id ha hn=>by
  by_cases h:E'.A id
  ·exact f.fr id h hn
  ·exact ja5 hl (k.fr id ha h)⟩
theorem Fresh.refl(E:Env)(S:IS):Fresh E S E:=⟨fun _ h k=>absurd h k⟩
theorem Post.idle{T:TW}{E:Env}{S:IS}{w':World}(p:Pre T E S)(u:Upd [] E.w w'):Post T E S (E.at_ w') S/\Fresh E S (E.at_ w') :=
 let ⟨a,b⟩:=p.st.idle u;⟨⟨a,b,p.bnd,jap _⟩,⟨fun _ h k=>absurd h k⟩⟩
theorem Post.write{T:TW}{E:Env}{S:IS}{id:Nat}{o':IObj}{w':World}(p:Pre T E S)(hT:T.w id)(hA:E.A id)(hL:Live E S.H id)(u:Upd [E.ρ id] E.w w')
  (ho:OR (E.at_ w') id o'):Post T E S (E.at_ w') (S.set id o')/\Fresh E S (E.at_ w'):=by
 obtain⟨a,b⟩:=p.st.write hT hA hL u ho;refine⟨⟨?_,?_,p.bnd,jap _⟩,⟨fun _ h k=>absurd h k⟩⟩
 ·rw[IS.H_set];exact a
 ·rw[IS.H_set];exact b
theorem Post.new{T:TW}{E:Env}{S:IS}{k:Nat}{hd:Value}{o:IObj}{w':World}(p:Pre T E S)(u:Upd [] E.w w')(hz:w'.heap.size=E.w.heap.size+1)
  (ho:OR (E.with_ S.next k hd w') S.next o):Post T E S (E.with_ S.next k hd w') (S.new o)/\Fresh E S (E.with_ S.next k hd w'):=by
 have hA:¬E.A S.next:=fun h=>jck _ (p.bnd _ h)
 obtain⟨a,b⟩:=p.st.new hA u hz ho;refine⟨⟨?_,?_,fun id h=>?_,by simp[IS.new]⟩,⟨fun id h hn=>?_⟩⟩
 ·rw[IS.H_new];exact a
 ·rw[IS.H_new];exact b
 ·show id<S.next+1
  rcases h with h|h
  ·have:=p.bnd id h;omega
  ·omega
 ·rcases h with h|h
  ·exact absurd h hn
  ·omega
theorem Post.ghost{T:TW}{E:Env}{S:IS}{hd:Value}{o:IObj}(p:Pre T E S)(hbo:o.blk=false)(ho:OR (E.gho S.next hd) S.next o) :
  Post T E S (E.gho S.next hd) (S.new o)/\Fresh E S (E.gho S.next hd):=by
 have hA:¬E.A S.next:=fun h=>jck _ (p.bnd _ h)
 obtain⟨a,b⟩:=p.st.ghost hA hbo ho;refine⟨⟨?_,?_,fun id h=>?_,by simp[IS.new]⟩,⟨fun id h hn=>?_⟩⟩
 ·rw[IS.H_new];exact a
 ·rw[IS.H_new];exact b
 ·show id<S.next+1
  rcases h with h|h
  ·have:=p.bnd id h;omega
  ·omega
 ·rcases h with h|h
  ·exact absurd h hn
  ·omega
theorem Post.freeze{T:TW}{E:Env}{S:IS}{id:Nat}{c:TC}{l:List (El c)}(p:Pre T E S)(hT:T.w id)(hA:E.A id)(ho:S.heap.get id=some (.arr c l)) :
  Post T E S (E.less id) (S.set id (.frz c l))/\Fresh E S (E.less id)/\VR (E.less id) (.lst c l) (E.hd id):=by
 obtain⟨a,b,d⟩:=p.st.freeze hT hA ho;refine⟨⟨?_,?_,p.bnd,jap _⟩,⟨fun _ h k=>absurd h k⟩,d⟩
 ·rw[IS.H_set];exact a
 ·rw[IS.H_set];exact b
end Go.Jx
end

section
namespace Go.Jx
open Go Go.Sx Go.RowKit
universe u

def toV1:IV->Option Value
 | .bool b=>some (.bool b)
 | .int k n=>some (.int k n)
 | .str s=>some (.string s)
 | .nilsl=>some (.slice none 0 0)
 | .nilptr=>some (.pointer none)
 | .nilmap=>some (.map none)
 | .nilfn=>some .nilFunc
 | .nili=>some .nilIface
 | _=>none
def toVs:List IV->Option (List Value)
 | []=>some []
 | v::l=>match toV1 v with
  | none=>none
  | some u=>match toVs l with
   | none=>none
   | some us=>some (u::us)
def toV:IV->Option Value
 | .agg cs=>match toVs cs with|some us=>some (.agg us.toArray)|none=>none
 | .tup cs=>match toVs cs with|some us=>some (.tuple us.toArray)|none=>none
 | .iface t v=>match toV1 v with|some u=>some (.iface t u)|none=>none
 | v=>toV1 v
def ofV1:Value->Option IV
 | .bool b=>some (.bool b)
 | .int k n=>cond (decide (k.wrap n=n)) (some (.int k n)) none
 | .string s=>cond (Nat.blt s.size 9223372036854775808) (some (.str s)) none
 | .slice none 0 0=>some .nilsl
 | .pointer none=>some .nilptr
 | .map none=>some .nilmap
 | .nilFunc=>some .nilfn
 | .nilIface=>some .nili
 | _=>none
def ofVs:List Value->Option (List IV)
 | []=>some []
 | v::l=>match ofV1 v with
  | none=>none
  | some u=>match ofVs l with
   | none=>none
   | some us=>some (u::us)
def ofV:Value->Option IV
 | .agg cs=>match ofVs cs.toList with|some us=>some (.agg us)|none=>none
 | .tuple cs=>match ofVs cs.toList with|some us=>some (.tup us)|none=>none
 | .iface t v=>match ofV1 v with|some u=>some (.iface t u)|none=>none
 | v=>ofV1 v
theorem qr1{E:Env}{x:IV}{u v:Value}(h:toV1 x=some v)(hx:VR E x u):u=v:=by
 cases hx<;>simp [toV1] at h<;>exact h
theorem qsf{E:Env}:∀{l:List IV} {us vs:List Value},toVs l=some vs->VRs E l us->us=vs
 | [],us,vs,h,hx=>by
  have:=hx.1;cases us<;>simp at this;simp[toVs] at h;exact h.symm
 | x::l,us,vs,h,hx=>by
  obtain⟨u,us,rfl,h1,h2⟩:=hx.inv;unfold toVs at h;split at h
  ·cases h
  ·rename_i a ha;split at h
   ·cases h
   ·rename_i b hb;cases h;rw[qr1 ha h1,qsf hb h2]
theorem zfc{E:Env}{x:IV}{u v:Value}(h:toV x=some v)(hx:VR E x u):u=v:=by
 cases hx with
 | agg hl hh =>
  simp only[toV] at h;split at h
  ·rename_i a ha;cases h;rw[qsf ha ⟨hl,hh⟩]
  ·cases h
 | tup hl hh =>
  simp only[toV] at h;split at h
  ·rename_i a ha;cases h;rw[qsf ha ⟨hl,hh⟩]
  ·cases h
 | iface hh =>
  simp only[toV] at h;split at h
  ·rename_i a ha;cases h;rw[qr1 ha hh]
  ·cases h
 | _=>exact qr1 (E:=E) (by simpa [toV] using h) (by constructor<;>assumption)
theorem qu2(E:Env){v:Value}{x:IV}(h:ofV1 v=some x):VR E x v:=by
 unfold ofV1 at h;split at h
 ·cases h;constructor
 ·rename_i k n;cases hb:decide (k.wrap n=n) with
  | false=>rw[hb] at h;cases h
  | true=>rw[hb,jab] at h;cases h;exact .int k n (jau hb)
 ·rename_i s;cases hb:Nat.blt s.size 9223372036854775808 with
  | false=>rw[hb] at h;cases h
  | true=>rw[hb,jab] at h;cases h;exact .str s (by simpa using hb)
 all_goals (cases h;try constructor)
theorem qev(E:Env):∀{l:List Value} {xs:List IV},ofVs l=some xs->VRs E xs l
 | [],xs,h=>by simp[ofVs] at h;subst h;exact VRs.nil
 | v::l,xs,h=>by
  unfold ofVs at h;split at h
  ·cases h
  ·rename_i a ha;split at h
   ·cases h
   ·rename_i b hb;cases h;exact VRs.cons (qu2 E ha) (qev E hb)
theorem qkf(E:Env){v:Value}{x:IV}(h:ofV v=some x):VR E x v:=by
 unfold ofV at h;split at h
 ·rename_i cs;split at h
  ·rename_i a ha;cases h;have:=qev E ha;exact .agg (us:=cs.toList) this.1 this.2
  ·cases h
 ·rename_i cs;split at h
  ·rename_i a ha;cases h;have:=qev E ha;exact .tup (us:=cs.toList) this.1 this.2
  ·cases h
 ·split at h
  ·rename_i a ha;cases h;exact .iface (qu2 E ha)
  ·cases h
 ·exact qu2 E h
def calm{α:Type}(P:Program):Sem α->Option α
 | .pure a=>some a
 | .program k=>calm P (k P)
 | .mark _ k=>calm P k
 | _=>none
theorem qt7{α:Type}{P:Program}:∀{e:Sem α} {a:α},calm P e=some a->∀w,e.run P w=.ok a w
 | .pure a,b,h,w=>by simp[calm] at h;subst h;rfl
 | .program k,b,h,w=>by simp only[calm] at h;exact qt7 (e:=k P) h w
 | .mark _ k,b,h,w=>by simp only[calm] at h;exact qt7 (e:=k) h w
 | .load ..,b,h,w=>by simp[calm] at h
 | .store ..,b,h,w=>by simp[calm] at h
 | .new ..,b,h,w=>by simp[calm] at h
 | .shape ..,b,h,w=>by simp[calm] at h
 | .freeze ..,b,h,w=>by simp[calm] at h
 | .frozen ..,b,h,w=>by simp[calm] at h
 | .getObj ..,b,h,w=>by simp[calm] at h
 | .setObj ..,b,h,w=>by simp[calm] at h
 | .choose ..,b,h,w=>by simp[calm] at h
 | .sys ..,b,h,w=>by simp[calm] at h
 | .halt ..,b,h,w=>by simp[calm] at h

structure TI where
 sz:Nat
 bytes:Nat
 und:TypeDesc
 zero:Value
def TT(P:Program)(tt:Nat->Option TI):Prop:=∀T ti,tt T=some ti->Ty P T ti.und ti.sz ti.bytes ti.zero

structure Res:Type where
 v:IV
 S:IS
 rd:Nat
 wr:Nat
def tin(T:Nat->Prop)(r:Nat):Prop:=∀j,r.testBit j=true->T j
theorem qat{T:Nat->Prop}{a b:Nat}(h:tin T (a ||| b)):tin T a/\tin T b :=
 ⟨fun j hj=>h j (by simp[jbv,hj]),fun j hj=>h j (by simp[jbv,hj])⟩
theorem qaf{T:Nat->Prop}{id:Nat}(h:tin T (2 ^ id)):T id:=h id (by simp[jd6])
def Good(P:Program)(T:TW)(E:Env)(S:IS)(e:Sem Value)(r:Res):Prop :=
 ∃u E',e.run P E.w=.ok u E'.w/\VR E' r.v u/\Post T E S E' r.S/\Fresh E S E'
def qfm(P:Program)(T:TW)(E:Env)(S:IS)(e:Sem Unit)(r:Res):Prop :=
 ∃E',e.run P E.w=.ok () E'.w/\r.v=.tup []/\Post T E S E' r.S/\Fresh E S E'
theorem Good.same{P:Program}{T:TW}{E:Env}{S:IS}{e:Sem Value}{v:IV}{u:Value}{rd wr:Nat}(p:Pre T E S)(h:e.run P E.w=.ok u E.w)(hv:VR E v u):Good P T E S e ⟨v,S,rd,wr⟩ :=
 ⟨u,E,h,hv,Post.refl p,Fresh.refl E S⟩

section
variable {P : Program} {tt : Nat -> Option TI} {T : TW} {E : Env} {S : IS}

def qc9(tt:Nat->Option TI)(S:IS)(ty:TypeId):IV->Option Res
 | .ptr id off=>match tt ty with
  | none=>none
  | some ti=>match S.heap.get id with
   | some (.row cs)=>cond (qa7 ti.und) (match cs[off]? with|some v=>some ⟨v,S,2 ^ id,0⟩|none=>none)
     (cond (Nat.ble (off+ti.sz) cs.length) (some ⟨.agg ((cs.drop off).take ti.sz),S,2 ^ id,0⟩) none)
   | some (.bld j)=>cond (Nat.beq off 1&&qa7 ti.und) (some ⟨.arr j,S,2 ^ id,0⟩) none
   | _=>none
 | .eptr c x off=>match tt ty with
  | none=>none
  | some ti=>cond (qa7 ti.und) (match (cel c x)[off]? with|some v=>some ⟨v,S,0,0⟩|none=>none)
     (cond (Nat.ble (off+ti.sz) (csz c)) (some ⟨.agg (((cel c x).drop off).take ti.sz),S,0,0⟩) none)
 | .aptr id s i off=>match tt ty with
  | none=>none
  | some ti=>match S.heap.get id with
   | some (.arr c l)=>cond (Nat.beq s (csz c)) (match l[i]? with
    | none=>none
    | some x=>cond (qa7 ti.und) (match (cel c x)[off]? with|some v=>some ⟨v,S,2 ^ id,0⟩|none=>none)
     (cond (Nat.ble (off+ti.sz) (csz c)) (some ⟨.agg (((cel c x).drop off).take ti.sz),S,2 ^ id,0⟩) none)) none
   | _=>none
 | _=>none
theorem qdu{id:Nat}{cs:List IV}(p:Pre T E S)(hT:T.r id)(hA:E.A id)(h:S.heap.get id=some (.row cs)) :
  ∃cells t,E.w.heap[E.ρ id]?=some (.cells cells t (0,0))/\cells.size=E.κ id/\cs.length<=cells.size/\VRs E cs (cells.toList.take cs.length):=p.st.objs id hT hA _ h
theorem qwj{id:Nat}{cs:List IV}{cells:Array Value}{t:TypeId}(h1:E.w.heap[E.ρ id]?=some (.cells cells t (0,0)))(h2:VRs E cs (cells.toList.take cs.length)){off:Nat}{v:IV}(hv:cs[off]?=some v) :
  ∃u,E.w.cell? ⟨E.ρ id,off,none⟩=some u/\VR E v u:=by
 obtain⟨u,hu,hr⟩:=h2.get hv;refine⟨u,?_,hr⟩;have hlt:=(jal.1 hv).1;rw[jas,jam hlt] at hu;simp only[World.cell?,h1];simpa using hu
theorem qn0{w:World}{b:Nat}{cells:Array Value}{t:TypeId}{fz:Nat × Nat}(hh:w.heap[b]?=some (.cells cells t fz))(k:Nat):w.cell? ⟨b,k,none⟩=cells[k]?:=by
 simp[World.cell?,hh]
theorem qz5{c:TC}{x:El c}{b base off:Nat}{us:Nat->Value}{ty:TypeId}{ti:TI}{rd wr:Nat}{r:Res}(p:Pre T E S)(hty:Ty P ty ti.und ti.sz ti.bytes ti.zero)(hc:∀j,j<csz c->E.w.cell? ⟨b,base+j,none⟩=some (us j))
  (hu:∀j (h:j<(cel c x).length),VR E (cel c x)[j] (us j))
  (h:cond (qa7 ti.und) (match (cel c x)[off]? with|some v=>some (⟨v,S,rd,wr⟩:Res)|none=>none) (cond (Nat.ble (off+ti.sz) (csz c)) (some ⟨.agg (((cel c x).drop off).take ti.sz),S,rd,wr⟩) none)=some r) :
  Good P T E S (Instr.loadAt ty (.pointer (some ⟨b,base+off,none⟩))) r:=by
 have hl:=qbn c x;cases hag:qa7 ti.und with
 | true =>
  rw[hag,jab] at h;split at h<;>cases h;rename_i v hv;obtain⟨ho,rfl⟩:=jal.1 hv;exact Good.same p (qga hty hag (hc off (by omega))) (hu off ho)
 | false =>
  rw[hag,jae] at h;cases hb:Nat.ble (off+ti.sz) (csz c) with
  | false=>rw[hb] at h;cases h
  | true =>
   rw[hb,jab] at h;cases h;have hle:=jao hb;refine Good.same p (u:=.agg ((List.range ti.sz).map fun j=>us (off+j)).toArray) (qg9 hty hag rfl (by simp) fun j hj=>?_) (.agg (by simp;omega) fun j a b=>?_)
   ·show E.w.cell? ⟨b,base+off+j,none⟩=_;rw[jcq,hc _ (by omega)];simp [hj]
   ·simp at a;have:=hu (off+j) (by omega);simpa using this
theorem zne{ty:TypeId}{x:IV}{ux:Value}{r:Res}(htt:TT P tt)(p:Pre T E S)(h:qc9 tt S ty x=some r)(hr:tin T.r r.rd)(hx:VR E x ux):Good P T E S (Instr.loadAt ty ux) r:=by
 unfold qc9 at h;split at h<;>try cases h
 rotate_left
 ·rename_i c x off;split at h
  ·cases h
  rename_i ti hti;cases hx with
  | eptr us hb hh hc hu=>exact qz5 p (htt _ _ hti) (fun j hj=>(qn0 hh _).trans (hc j hj)) hu h
 ·rename_i id s i off;split at h
  ·cases h
  rename_i ti hti;split at h<;>try cases h
  rename_i c l hcs;cases hs:Nat.beq s (csz c) with
  | false=>rw[hs] at h;cases h
  | true =>
  rw[hs,jab] at h;have hs:=jah hs;subst hs;split at h
  ·cases h
  rename_i x hx0;have hrr:r.rd=2 ^ id:=by
   cases hn:qa7 ti.und<;>rw[hn] at h<;>simp only[jab,jae] at h
   ·cases hb:Nat.ble (off+ti.sz) (csz c)<;>rw[hb] at h<;>cases h;rfl
   ·split at h<;>cases h;rfl
  cases hx with
  | aptr hA =>
  obtain⟨a,cap,k1,k2,k3,k4,k5⟩:=p.st.objs id (qaf (by rw[hrr] at hr;exact hr)) hA _ hcs;obtain⟨hi,hxi⟩:=jal.1 hx0;rcases k5 with ⟨k5,k6⟩|⟨k5,k6,cells,t,k7,k8,us,k9,k10⟩
  ·omega
  ·subst hxi;exact qz5 p (htt _ _ hti) (fun j hj=>(qn0 k7 _).trans (k9 i hi j hj)) (k10 i hi) h
 rename_i id off;cases hx with
 | ptr hA =>
 split at h
 ·cases h
 rename_i ti hti;have hty:=htt _ _ hti;split at h<;>try cases h
 rotate_left
 ·rename_i jj hcs;cases hb:(Nat.beq off 1&&qa7 ti.und) with
  | false=>rw[hb] at h;cases h
  | true =>
   rw[hb,jab] at h;cases h;simp only[jaf] at hb;have h1:=jah hb.1;subst h1;obtain⟨q,v,k1,k2,k3⟩:=p.st.objs id (qaf hr) hA _ hcs;exact Good.same p (qga hty hb.2 ((qn0 k1 1).trans rfl)) k3
 rename_i cs hcs;cases hag:qa7 ti.und with
 | true =>
  rw[hag,jab] at h;split at h<;>cases h;rename_i v hv;obtain⟨cells,t,h1,h2,h3,h4⟩:=qdu p (qaf hr) hA hcs;obtain⟨u,h5,h6⟩:=qwj h1 h4 hv;exact Good.same p (qga hty hag h5) h6
 | false =>
  rw[hag,jae] at h;cases hb:Nat.ble (off+ti.sz) cs.length with
  | false=>rw[hb] at h;cases h
  | true =>
   rw[hb,jab] at h;cases h;have hle:=jao hb;obtain⟨cells,t,h1,h2,h3,h4⟩:=qdu p (qaf hr) hA hcs;have h5:=(h4.drop off).take ti.sz;have hlen:(((cells.toList.take cs.length).drop off).take ti.sz).length=ti.sz:=by simp;omega
   refine Good.same p (qg9 hty hag rfl hlen fun j hj=>?_) (.agg h5.1 h5.2);have hc:E.w.cell? ⟨E.ρ id,off+j,none⟩=cells.toList[off+j]?:=by simp[World.cell?,h1]
   rw[hc,jas,jam hj,jbt,jas,jam (show off+j<cs.length by omega)]

def qcu{α:Type}(f:IS->List IV->Option (α × List IV × IS × Nat)):Nat->IS->List IV->Option (List α × IS × Nat)
 | 0,S,_=>some ([],S,0)
 | n+1,S,cs=>match f S cs with
  | none=>none
  | some (x,r,S1,w1)=>match qcu f n S1 r with
   | none=>none
   | some (l,S2,w2)=>some (x::l,S2,w1 ||| w2)
def icl:(c:TC)->IS->List IV->Option (El c × List IV × IS × Nat)
 | .int k,S,cs=>match cs with
  | .int k' n::r=>cond (kbeq k k') (some (n,r,S,0)) none
  | _=>none
 | .bool,S,cs=>match cs with
  | .bool b::r=>some (b,r,S,0)
  | _=>none
 | .str,S,cs=>match cs with
  | .str s::r=>some (s,r,S,0)
  | _=>none
 | .list c,S,cs=>match cs with
  | .nilsl::r=>some ([],r,S,0)
  | .lst c' l::r=>match qbt c' c l with
   | some l'=>some (l',r,S,0)
   | none=>none
  | .arr id::r=>match S.heap.get id with
   | some (.arr c' l)=>match qbt c' c l with
    | some l'=>some (l',r,S.set id (.frz c' l),2 ^ id)
    | none=>none
   | some (.frz c' l)=>match qbt c' c l with
    | some l'=>some (l',r,S,2 ^ id)
    | none=>none
   | _=>none
  | .sl id off len s _::r=>match S.heap.get id with
   | some (.row cs')=>cond (Nat.beq s (csz c)&&Nat.ble (off+len*s) cs'.length&&Nat.ble (len*bsz c) 140737488355328)
    (match qcu (icl c) len S (cs'.drop off) with
    | none=>none
    | some (l,S1,w1)=>match S1.heap.get id with
     | some (.row _)=>some (l,r,S1.set id .dead,w1 ||| 2 ^ id)
     | _=>none) none
   | _=>none
  | _=>none
 | .two a b,S,cs=>match icl a S cs with
  | none=>none
  | some (x,r,S1,w1)=>match icl b S1 r with
   | none=>none
   | some (y,r2,S2,w2)=>some ((x,y),r2,S2,w1 ||| w2)
def q4u(c:TC)(f:IS->List IV->Option (El c × List IV × IS × Nat)):Prop :=
 ∀⦃T:TW⦄ ⦃E:Env⦄ ⦃S:IS⦄ ⦃cs:List IV⦄ ⦃us:List Value⦄ ⦃x:El c⦄ ⦃r:List IV⦄ ⦃S':IS⦄ ⦃wr:Nat⦄,f S cs=some (x,r,S',wr)->Pre T E S->tin T.w wr->VRs E cs us ->
  ∃E',E'.w=E.w/\Post T E S E' S'/\Fresh E S E'/\∃us1 us2,us=us1++us2/\VRs E' (cel c x) us1/\VRs E' r us2
theorem qup{c:TC}{f:IS->List IV->Option (El c × List IV × IS × Nat)}(hf:q4u c f):∀(n:Nat) {T:TW} {E:Env} {S:IS} {cs:List IV} {us:List Value} {l:List (El c)} {S':IS} {wr:Nat},
  qcu f n S cs=some (l,S',wr)->Pre T E S->tin T.w wr->VRs E cs us ->
  ∃E',E'.w=E.w/\Post T E S E' S'/\Fresh E S E'/\l.length=n/\∃vs:Nat->Nat->Value,(∀i,i<n->∀j,j<csz c->us[i*csz c+j]?=some (vs i j))/\∀i (h:i<l.length) j (h':j<(cel c l[i]).length),VR E' (cel c l[i])[j] (vs i j)
 | 0,T,E,S,cs,us,l,S',wr,h,p,hw,hv=>by
  simp only[qcu,ja7,jcj] at h;obtain⟨rfl,rfl,rfl⟩:=h;exact⟨E,rfl,Post.refl p,Fresh.refl E S,rfl,fun _ _=>.nilFunc,fun i hi=>absurd hi (by omega),fun i hi=>absurd hi (by simp)⟩
 | n+1,T,E,S,cs,us,l,S',wr,h,p,hw,hv=>by
  simp only[qcu] at h;split at h
  ·cases h
  rename_i x r S1 w1 h1;split at h<;>cases h;rename_i l S2 w2 h2;obtain⟨hw1,hw2⟩:=qat hw;obtain⟨E1,e1,q1,f1,us1,us2,rfl,v1,v2⟩:=hf h1 p hw1 hv;obtain⟨E2,e2,q2,f2,hl,vs,k1,k2⟩:=qup hf n h2 (q1.pre p) hw2 v2;have hlen:us1.length=csz c:=by rw[<- v1.1,qbn]
  refine⟨E2,e2.trans e1,Post.trans p q1 f1 q2,f1.trans f2 q1.le,by simp[hl],fun i j=>match i with|0=>us1.getD j .nilFunc|i+1=>vs i j,fun i hi j hj=>?_,fun i hi j hj=>?_⟩
  ·cases i with
   | zero=>simp only[jd7,ja9];rw[ja2 (by omega)];simp [jac (show j<us1.length by omega),jar]
   | succ i =>
    rw[jbf (by rw[hlen,jbb];omega),<- k1 i (by omega) j hj];congr 1;rw[hlen,jbb];omega
  ·cases i with
   | zero =>
    have hj':j<us1.length:=by rw[<- v1.1];exact hj
    have:=(v1.2 j hj hj').mono (q2.env (q1.pre p));simpa [jar,jac hj'] using this
   | succ i=>exact k2 i (by simpa using hi) j hj
theorem zl4{T:TW}{E:Env}{S:IS}{id off cap:Nat}{c:TC}{l:List (El c)}{cells:Array Value}{t:TypeId}{vs:Nat->Nat->Value}{cs:List IV}(p:Pre T E S)(hT:T.w id)(hA:E.A id)(ho:S.heap.get id=some (.row cs))
  (hh:E.w.heap[E.ρ id]?=some (.cells cells t (0,0))) (h1:l.length<=cap) (h2:cap<9223372036854775808) (h3:l.length*bsz c<=140737488355328)
  (hc:∀i,i<l.length->∀j,j<csz c->cells[off+i*csz c+j]?=some (vs i j)) (hu:∀i (h:i<l.length) j (h':j<(cel c l[i]).length),VR E (cel c l[i])[j] (vs i j)) :
  Post T E S (E.less id) (S.set id .dead)/\Fresh E S (E.less id)/\VR (E.less id) (.lst c l) (.slice (some ⟨E.ρ id,off,none⟩) l.length cap):=by
 have hb:=p.st.blk id (T.sub _ hT) hA _ ho rfl;have hle:=E.less_le id;have hL:Live E S.H id:=⟨hb,_,ho,rfl⟩;have hl:∀j,Live (E.less id) (up S.H id (some .dead)) j->j≠id/\Live E S.H j:=fun j h=>by
  have hj:j≠id:=fun e=>by subst e;obtain⟨_,o,h1,h2⟩:=h;rw[qah] at h1;cases h1;cases h2
  exact⟨hj,(Live.up_ne (E:=E) hj).1 h⟩
 have st:=p.st;refine⟨⟨?_,?_,p.bnd,jap _⟩,⟨fun _ h k=>absurd h k⟩,.lst vs h1 h2 h3 (fun hm=>by unfold Env.less at hm;rw[hb] at hm;have:=(jde.1 hm).2;rw[jb6] at this;cases this) hh hc (fun i hi j hj=>(hu i hi j hj).mono hle)⟩
 ·rw[IS.H_set];refine⟨fun j ht ha o hj=>?_,fun j ht ha o hj hbk=>?_,fun j ht ha h=>?_,fun i j a b c d e f h=>st.inj i j a b c d (hl i e).2 (hl j f).2 h,fun b hb=>st.lo b (Env.less_mem hb)⟩
  ·by_cases e:j=id
   ·subst e;rw[qah] at hj;cases hj;trivial
   ·rw[Jx.up_ne _ _ e] at hj;exact(st.objs j ht ha o hj).mono hle ha (st.blk j ht ha o hj) fun _ _=>rfl
  ·by_cases e:j=id
   ·subst e;rw[qah] at hj;cases hj;cases hbk
   ·rw[Jx.up_ne _ _ e] at hj;exact st.blk j ht ha o hj hbk
  ·obtain⟨h1,h2⟩:=hl j h;rcases Env.less_out (id:=id) (st.own j ht ha h2) with h3|⟨h3,h4⟩
   ·exact h3
   ·exact absurd (st.inj j id ht (T.sub _ hT) ha hA h2 hL h4) h1
 ·rw[IS.H_set];refine⟨rfl,rfl,rfl,jap _,fun _ _ _=>rfl,hle.alw,fun j h k=>absurd h k,fun j _ _ h=>(hl j h).2,fun b h=>.inl (Env.less_mem h),fun b h _=>?_⟩;rcases Env.less_out (id:=id) h with h3|⟨h3,h4⟩
  ·exact .inl h3
  ·exact .inr ⟨id,hT,hA,hL,h4.symm⟩
theorem qfs:∀c:TC,q4u c (icl c)
 | .int k=>by
  intro T E S cs us x r S' wr h p hw hv;simp only[icl] at h;split at h<;>try cases h
  rename_i k' n r;cases hk:kbeq k k' with
  | false=>rw[hk] at h;cases h
  | true =>
   rw[hk,jab] at h;cases h;have:=qfg hk;subst this;obtain⟨u,us,rfl,h1,h2⟩:=hv.inv;exact⟨E,rfl,Post.refl p,Fresh.refl E S,[u],us,rfl,VRs.cons h1 VRs.nil,h2⟩
 | .bool=>by
  intro T E S cs us x r S' wr h p hw hv;simp only[icl] at h;split at h<;>cases h;obtain⟨u,us,rfl,h1,h2⟩:=hv.inv;exact⟨E,rfl,Post.refl p,Fresh.refl E S,[u],us,rfl,VRs.cons h1 VRs.nil,h2⟩
 | .str=>by
  intro T E S cs us x r S' wr h p hw hv;simp only[icl] at h;split at h<;>cases h;obtain⟨u,us,rfl,h1,h2⟩:=hv.inv;exact⟨E,rfl,Post.refl p,Fresh.refl E S,[u],us,rfl,VRs.cons h1 VRs.nil,h2⟩
 | .list c=>by
  intro T E S cs us x r S' wr h p hw hv;simp only[icl] at h;split at h<;>try cases h
  ·obtain⟨u,us,rfl,h1,h2⟩:=hv.inv;cases h1;exact⟨E,rfl,Post.refl p,Fresh.refl E S,[_],us,rfl,VRs.cons (.lst0 (by omega)) VRs.nil,h2⟩
  ·split at h<;>cases h;rename_i l' hl;obtain⟨rfl,rfl⟩:=qcj hl;obtain⟨u,us,rfl,h1,h2⟩:=hv.inv;exact⟨E,rfl,Post.refl p,Fresh.refl E S,[u],us,rfl,VRs.cons h1 VRs.nil,h2⟩
  ·obtain⟨u,us,rfl,h1,h2⟩:=hv.inv;cases h1 with
   | arr hA hh =>
   split at h<;>try cases h
   ·rename_i c' l ho;split at h<;>cases h;rename_i l' hl;obtain⟨rfl,rfl⟩:=qcj hl;obtain⟨q1,q2,q3⟩:=Post.freeze p (qaf hw) hA ho;rw[hh] at q3;exact⟨E.less _,rfl,q1,q2,[_],us,rfl,VRs.cons q3 VRs.nil,h2.mono (q1.env p)⟩
   ·rename_i c' l ho;split at h<;>cases h;rename_i hl;obtain⟨rfl,rfl⟩:=qcj hl;have q3:=p.st.objs _ (T.sub _ (qaf hw)) hA _ ho;unfold OR at q3;rw[hh] at q3;exact⟨E,rfl,Post.refl p,Fresh.refl E S,[_],us,rfl,VRs.cons q3 VRs.nil,h2⟩
  ·rename_i id off len s cap0 r0;obtain⟨u,us,rfl,h1,h2⟩:=hv.inv;cases h1 with
   | sl cap hA g1 g2 g3 g4 g5 =>
   split at h<;>try cases h
   rename_i cs' ho;cases hb:(Nat.beq s (csz c)&&Nat.ble (off+len*s) cs'.length&&Nat.ble (len*bsz c) 140737488355328) with
   | false=>rw[hb] at h;cases h
   | true =>
   rw[hb,jab] at h;simp only[jaf] at hb;obtain⟨⟨b1,b2⟩,b3⟩:=hb;have b1:=jah b1;have b2:=jao b2;have b3:=jao b3;subst b1;split at h
   ·cases h
   rename_i l S1 w1 hrow;split at h<;>cases h;rename_i cs1 ho1;obtain⟨hw1,hw2⟩:=qat hw;obtain⟨cells,t,k1,k2,k3,k4⟩:=p.st.objs id (T.sub _ (qaf hw2)) hA _ ho;obtain⟨E1,e1,q1,f1,hl,vs,v1,v2⟩:=qup (qfs c) len hrow p hw1 (k4.drop off);obtain⟨a1,a2,a3,a4,a5⟩:=(q1.env p).alw id hA;subst hl;obtain⟨z1,z2,z3⟩:=zl4 (off:=off) (cap:=cap) (c:=c) (vs:=vs) (l:=x) (q1.pre p) (qaf hw2) a1 ho1 (cells:=cells) (t:=t) (by rw[e1,a2];exact k1) g1 g2 b3 (fun i hi j hj=>by
    have:=v1 i hi j hj;rw[jbt,jas] at this;split at this
    ·rw[<- jcq] at this;simpa using this
    ·cases this) v2
   rw[a2] at z3;exact⟨E1.less id,e1,Post.trans p q1 f1 z1,f1.trans z2 q1.le,[_],us,rfl,VRs.cons z3 VRs.nil,(h2.mono (q1.env p)).mono (z1.env (q1.pre p))⟩
 | .two a b=>by
  intro T E S cs us x r S' wr h p hw hv;simp only[icl] at h;split at h
  ·cases h
  rename_i x1 r1 S1 w1 h1;split at h<;>cases h;rename_i y r2 S2 w2 h2;obtain⟨hw1,hw2⟩:=qat hw;obtain⟨E1,e1,q1,f1,us1,us2,rfl,v1,v2⟩:=qfs a h1 p hw1 hv;obtain⟨E2,e2,q2,f2,us3,us4,rfl,v3,v4⟩:=qfs b h2 (q1.pre p) hw2 v2;exact⟨E2,e2.trans e1,Post.trans p q1 f1 q2,f1.trans f2 q1.le,us1++us3,us4,by simp,(v1.mono (q2.env (q1.pre p))).append v3,v4⟩

def putI:List IV->Nat->List IV->List IV
 | cs,_,[]=>cs
 | cs,o,v::vs=>putI (cs.set o v) (o+1) vs
theorem qr8:∀(vs:List IV) (o:Nat) (cs:List IV),(putI cs o vs).length=cs.length
 | [],_,_=>rfl
 | v::vs,o,cs=>by simp[putI,qr8 vs]
theorem VRs.set{E:Env}{cs:List IV}{us:List Value}(h:VRs E cs us)(o:Nat){v:IV}{u:Value}(hv:VR E v u):VRs E (cs.set o v) (us.set o u) :=
 ⟨by simp[h.1],fun i a b=>by
  simp only[jb9] at a b;rw[jdz,jdz];by_cases e:o=i
  ·rw[jam e,jam e];exact hv
  ·rw[jak e,jak e];exact h.2 i a b⟩
theorem VRs.put{E:Env}:∀{vs:List IV} {uv:List Value} {cs:List IV} {us:List Value} (o:Nat),VRs E cs us->VRs E vs uv->VRs E (putI cs o vs) (putL us o uv)
 | [],uv,cs,us,o,h,k=>by
  have:=k.1;cases uv<;>simp at this;exact h
 | v::vs,uv,cs,us,o,h,k=>by
  obtain⟨u,uv,rfl,k1,k2⟩:=k.inv;exact VRs.put (o+1) (h.set o k1) k2
theorem q00:∀(vs:List Value) (o n:Nat) (cs:List Value),(putL cs o vs).take n=putL (cs.take n) o vs
 | [],_,_,_=>rfl
 | v::vs,o,n,cs=>by unfold putL;rw[q00 vs,List.take_set]
theorem qu8:∀(vs:List Value) (o:Nat) (cs:List Value) (k:Nat),o+vs.length<=cs.length->(putL cs o vs)[k]?=if o<=k/\k<o+vs.length then vs[k-o]? else cs[k]?
 | [],o,cs,k,h=>by rw[jak (by simp)];rfl
 | v::vs,o,cs,k,h=>by
  unfold putL;simp only[jbk] at h;rw[qu8 vs (o+1) _ k (by simp;omega),List.getElem?_set];by_cases h1:o=k
  ·subst h1;rw[jak (by omega),jam rfl,jam (by omega)];simp
  ·by_cases h2:o+1<=k/\k<o+1+vs.length
   ·rw[jam h2,jam (by simp;omega)];rw[show k-o=(k-(o+1))+1 by omega,jbn]
   ·rw[jak h2,jak h1,jak (by simp;omega)]
theorem zhj{i k s j o:Nat}(hj:j<s)(ho:o<s)(h:i*s+j=k*s+o):i=k:=by
 rcases jfb i k with h1|h1|h1
 ·have:=jaw s (show i+1<=k from h1);rw[jbb] at this;omega
 ·exact h1
 ·have:=jaw s (show k+1<=i from h1);rw[jbb] at this;omega
theorem qtu{β:Nat}{t:TypeId}:∀(vs:List Value) {w:World} {cs:List Value} (o i:Nat),w.heap[β]?=some (.cells cs.toArray t (0,0))->o+i+vs.length<=cs.length->vs.all Sx.one=true ->
  ∃w',(storeCells ⟨β,o,none⟩ vs i).run P w=.ok () w'/\w'.heap[β]?=some (.cells (putL cs (o+i) vs).toArray t (0,0))/\Upd [β] w w'/\w'.heap.size=w.heap.size
 | [],w,cs,o,i,hb,_,_=>⟨w,by simp[storeCells,go_sem],hb,Upd.refl _ _,rfl⟩
 | v::vs,w,cs,o,i,hh,hl,ho=>by
  simp only[jcp,jaf,jbk] at ho hl;have hlt:=qbd hh;have hc:w.cell? ⟨β,o+i,none⟩=cs[o+i]?:=by simp[World.cell?,hh]
  have hcv:cs[o+i]?=some cs[o+i]:=by rw[jac (by omega)]
  have hfz:w.frozen? ⟨β,o+i,none⟩=false:=by simp[World.frozen?,hh]
  have hb1:(w.setCell ⟨β,o+i,none⟩ v).heap[β]?=some (.cells (cs.set (o+i) v).toArray t (0,0)):=by
   simp[World.setCell,jcz,hh]
  have hu:Upd [β] w (w.setCell ⟨β,o+i,none⟩ v):=by
   refine⟨rfl,rfl,rfl,by simp[World.setCell],fun b hb hm=>?_⟩;simp only[World.setCell,jcz];rw[jak];simp at hm;omega
  obtain⟨w',h1,h2,h3,h4⟩:=qtu vs o (i+1) hb1 (by simp;omega) ho.2;refine⟨w',?_,?_,hu.trans h3,?_⟩
  ·have e:(⟨β,o,none⟩:Addr).add i=⟨β,o+i,none⟩:=qbe _ rfl _;have hst:(store ⟨β,o+i,none⟩ v).run P w=.ok () (w.setCell ⟨β,o+i,none⟩ v):=by
    have hv1:=ho.1;cases v with
    | agg _=>simp [Sx.one] at hv1
    | tuple _=>simp [Sx.one] at hv1
    | _=>simp only[store,Sem.run,hc,hcv,hfz];rfl
   simp only[storeCells,e,jag];rw[hst];exact h1
  ·simpa [putL,jcq] using h2
  ·rw[h4];simp [World.setCell]
theorem zpg{T:TypeId}{D:TypeDesc}{size bytes:Nat}{zero:Value}{w:World}(h:Ty P T D size bytes zero){β o:Nat}{t:TypeId}{cs:List Value}{v:Value}(hb:w.heap[β]?=some (.cells cs.toArray t (0,0)))(hv:v.cells.size=size)(hl:o+size<=cs.length)
  (ho:v.cells.toList.all Sx.one=true) :
  ∃w',(Instr.storeAt T (.pointer (some ⟨β,o,none⟩)) v).run P w=.ok () w'/\w'.heap[β]?=some (.cells (putL cs o v.cells.toList).toArray t (0,0))/\Upd [β] w w'/\w'.heap.size=w.heap.size:=by
 obtain⟨w',h1,h2⟩:=qtu (P:=P) v.cells.toList o 0 hb (by simp;omega) ho;refine⟨w',?_,h2⟩;simp only[Instr.storeAt,Instr.sureAddr,storeVar,jag,jad,jaa,Sx.run_sizeOf h,hv,ne_eq,ja8,jbl,h1]
theorem zox{T:TW}{E:Env}{S:IS}{id i off:Nat}{c:TC}{l:List (El c)}{x x2:El c}{ty:TypeId}{ti:TI}{uy:Value}{us1:List Value}(p:Pre T E S)(hT:T.w id)(hA:E.A id)(ho:S.heap.get id=some (.arr c l))
  (hty:Ty P ty ti.und ti.sz ti.bytes ti.zero) (hx:l[i]?=some x) (hsz:uy.cells.size=ti.sz) (hle:off+ti.sz<=csz c) (hone:uy.cells.toList.all Sx.one=true)
  (hv:∀us:Nat->Value,(∀j (h:j<(cel c x).length),VR E (cel c x)[j] (us j))->(∃(cells:Array Value) (t:TypeId),E.w.heap[E.ρ id]?=some (.cells cells t)/\∀j,j<csz c->cells[i*csz c+j]?=some (us j))->VRs E (cel c x2) (putL ((List.range (csz c)).map us) off uy.cells.toList)) :
  qfm P T E S (Instr.storeAt ty (.pointer (some ⟨E.ρ id,i*csz c+off,none⟩)) uy) ⟨.tup [],S.set id (.arr c (l.set i x2)),0,0⟩:=by
 obtain⟨a,cap,k1,k2,k3,k4,k5⟩:=p.st.objs id (T.sub _ hT) hA _ ho;obtain⟨hi,rfl⟩:=jal.1 hx;rcases k5 with ⟨k5,k6⟩|⟨k5,k6,cells,t,k7,k8,us,k9,k10⟩
 ·omega
 have hcz:=qm3 c;have hn:0<csz c->i*csz c+csz c<=cells.size:=fun _=>by
  have:=jaw (csz c) (show i+1<=cap by omega);rw[jbb] at this;omega
 have hL:Live E S.H id:=⟨k5,_,ho,rfl⟩;obtain⟨w',e1,e2,e3,e4⟩:=zpg (P:=P) (w:=E.w) (β:=E.ρ id) (o:=i*csz c+off) (cs:=cells.toList) (t:=t) hty (by simpa using k7) hsz (by have:=hn hcz;simp;omega) hone;have hlen:uy.cells.toList.length=ti.sz:=by simpa using hsz
 have hget:∀k,(putL cells.toList (i*csz c+off) uy.cells.toList)[k]?=if i*csz c+off<=k/\k<i*csz c+off+ti.sz then uy.cells.toList[k-(i*csz c+off)]? else cells[k]?:=fun k=>by
  rw[qu8 _ _ _ _ (by have:=hn hcz;simp;omega),hlen];simp
 have hle2:=Env.at_le p.st hT hA hL e3;have hnew:=(hv (us i) (k10 i hi) ⟨cells,t,k7,fun j hj=>k9 i hi j hj⟩).mono hle2;have hlen2:(putL ((List.range (csz c)).map (us i)) off uy.cells.toList).length=csz c:=by rw[qcs];simp
 have hor:OR (E.at_ w') id (.arr c (l.set i x2)):=by
  refine⟨a,cap,by rw[jb9];exact k1,by simpa using k2,k3,by simpa using k4,.inr ⟨k5,k6,_,t,e2,⟨by simp[qcs,k8.1],k8.2⟩,
  fun i' j=>if i'=i then (putL ((List.range (csz c)).map (us i)) off uy.cells.toList).getD j .nilFunc else us i' j,fun i' hi' j hj=>?_,fun i' hi' j hj=>?_⟩⟩
  ·simp only[jav];rw[hget];simp only[jb9] at hi';by_cases e:i'=i
   ·subst e;simp only[jb4];rw[jar,qu8 _ _ _ _ (by simp;omega),hlen];by_cases h1:off<=j/\j<off+ti.sz
    ·rw[jam (by omega),jam h1,show i'*csz c+j-(i'*csz c+off)=j-off by omega];rw[jac (by omega)];rfl
    ·rw[jak (by omega),jak h1,k9 i' hi' j hj];simp [hj]
   ·simp only[jak e];rw[jak,k9 i' hi' j hj];rintro⟨h1,h2⟩;exact e (zhj (o:=i'*csz c+j-i*csz c) hj (by omega) (by omega))
  ·simp only[jb9] at hi';by_cases e:i'=i
   ·subst e;simp only[jb4];have hj':j<(cel c x2).length:=by simpa using hj
    have:=hnew.2 j hj' (by rw[hlen2,<- qbn c x2];exact hj');rw[jar,jac (by rw[hlen2,<- qbn c x2];exact hj')];simpa using this
   ·simp only[jak e];have:(l.set i x2)[i']'(by simpa using hi')=l[i']:=by rw[jdz,jak (fun h=>e h.symm)]
    have h2:=(k10 i' hi' j (by rw[qbn] at hj ⊢;exact hj)).mono hle2;simpa [this] using h2
 obtain⟨q1,q2⟩:=Post.write p hT hA hL e3 hor;exact⟨_,e1,rfl,q1,q2⟩
theorem or_zero{a b:Nat}(h:Nat.lor a b=0):a=0/\b=0:=by
 have h:a ||| b=0:=h;refine⟨?_,?_⟩<;>refine jdu fun i=>?_<;>have:=jcd (fun n=>n.testBit i) h<;>simp [jbv] at this<;>simp [this.1,this.2]
theorem qjt:∀(c:TC) {S:IS} {cs:List IV} {x:El c} {r:List IV} {S':IS},icl c S cs=some (x,r,S',0)->S'=S/\∀(E:Env) (us:List Value),VRs E cs us->∃us1 us2,us=us1++us2/\VRs E (cel c x) us1/\VRs E r us2
 | .int k,S,cs,x,r,S',h=>by
  simp only[icl] at h;split at h<;>try cases h
  rename_i k' n r;cases hk:kbeq k k' with
  | false=>rw[hk] at h;cases h
  | true =>
   rw[hk,jab] at h;cases h;have:=qfg hk;subst this;refine⟨rfl,fun E us hv=>?_⟩;obtain⟨u,us,rfl,h1,h2⟩:=hv.inv;exact⟨[u],us,rfl,VRs.cons h1 VRs.nil,h2⟩
 | .bool,S,cs,x,r,S',h=>by
  simp only[icl] at h;split at h<;>cases h;refine⟨rfl,fun E us hv=>?_⟩;obtain⟨u,us,rfl,h1,h2⟩:=hv.inv;exact⟨[u],us,rfl,VRs.cons h1 VRs.nil,h2⟩
 | .str,S,cs,x,r,S',h=>by
  simp only[icl] at h;split at h<;>cases h;refine⟨rfl,fun E us hv=>?_⟩;obtain⟨u,us,rfl,h1,h2⟩:=hv.inv;exact⟨[u],us,rfl,VRs.cons h1 VRs.nil,h2⟩
 | .list c,S,cs,x,r,S',h=>by
  simp only[icl] at h;have hp:∀id,¬((2:Nat) ^ id=0):=fun id=>by have:=Nat.two_pow_pos id;omega
  split at h<;>try cases h
  ·refine⟨rfl,fun E us hv=>?_⟩;obtain⟨u,us,rfl,h1,h2⟩:=hv.inv;cases h1;exact⟨[_],us,rfl,VRs.cons (.lst0 (by omega)) VRs.nil,h2⟩
  ·split at h<;>cases h;rename_i l' hl;obtain⟨rfl,rfl⟩:=qcj hl;refine⟨rfl,fun E us hv=>?_⟩;obtain⟨u,us,rfl,h1,h2⟩:=hv.inv;exact⟨[u],us,rfl,VRs.cons h1 VRs.nil,h2⟩
  ·split at h<;>try cases h
   all_goals
    split at h<;>try cases h
    have hh:=jcd (fun o=>o.map (fun q=>q.2.2.2)) h;exact absurd (jbg hh) (hp _)
  ·split at h<;>try cases h
   rename_i cs' ho;cases hb:(Nat.beq _ (csz c)&&Nat.ble _ cs'.length&&Nat.ble _ 140737488355328) with
   | false=>rw[hb] at h;cases h
   | true =>
   rw[hb,jab] at h;split at h
   ·cases h
   split at h<;>try cases h
   have hh:=jcd (fun o=>o.map (fun q=>q.2.2.2)) h;exact absurd (or_zero (jbg hh)).2 (hp _)
 | .two a b,S,cs,x,r,S',h=>by
  simp only[icl] at h;split at h
  ·cases h
  rename_i x1 r1 S1 w1 h1;split at h
  ·cases h
  rename_i y r2 S2 w2 h2;have hw:=jbg (jcd (fun o=>o.map (fun q=>q.2.2.2)) h);have e1:=jbg (jcd (fun o=>o.map (fun q=>q.1)) h);have e2:=jbg (jcd (fun o=>o.map (fun q=>q.2.1)) h);have e3:=jbg (jcd (fun o=>o.map (fun q=>q.2.2.1)) h);simp only at hw e1 e2 e3;subst e1 e2 e3;obtain⟨rfl,rfl⟩:=or_zero hw;obtain⟨rfl,k1⟩:=qjt a h1;obtain⟨rfl,k2⟩:=qjt b h2;refine⟨rfl,fun E us hv=>?_⟩;obtain⟨us1,us2,rfl,v1,v2⟩:=k1 E us hv;obtain⟨us3,us4,rfl,v3,v4⟩:=k2 E us2 v2;exact⟨us1++us3,us4,by simp,v1.append v3,v4⟩
theorem q4h{v:IV}(h:(cellsOf v).all one1=true):qcy v=true:=by cases v<;>first|rfl|cases h
theorem qgp{id k:Nat}(h:(2 ^ id).testBit k=false):k≠id:=fun e=>by subst e;simp [jd6] at h
theorem qsd{α:Type}{f:IS->List IV->Option (α × List IV × IS × Nat)}(hf:∀S cs x r S' w,f S cs=some (x,r,S',w)->S'.next=S.next/\∀id,w.testBit id=false->S'.H id=S.H id) :
  ∀n S cs l S' w,qcu f n S cs=some (l,S',w)->S'.next=S.next/\∀id,w.testBit id=false->S'.H id=S.H id
 | 0,S,cs,l,S',w,h=>by simp only[qcu,ja7,jcj] at h;obtain⟨_,rfl,rfl⟩:=h;exact⟨rfl,fun _ _=>rfl⟩
 | n+1,S,cs,l,S',w,h=>by
  simp only[qcu] at h;split at h
  ·cases h
  rename_i x r S1 w1 h1;split at h<;>cases h;rename_i h2;obtain⟨a1,a2⟩:=hf _ _ _ _ _ _ h1;obtain⟨b1,b2⟩:=qsd hf n _ _ _ _ _ h2;refine⟨b1.trans a1,fun id hid=>?_⟩;rw[jbv,jcb] at hid;exact(b2 id hid.2).trans (a2 id hid.1)
theorem qy7{S:IS}{i:Nat}{o:IObj}:(S.set i o).next=S.next/\∀id,(2 ^ i).testBit id=false->(S.set i o).H id=S.H id :=
 ⟨rfl,fun id h=>by rw[IS.H_set,up_ne _ _ (qgp h)]⟩
theorem qe9:∀(c:TC) S cs x r S' w,icl c S cs=some (x,r,S',w)->S'.next=S.next/\∀id,w.testBit id=false->S'.H id=S.H id
 | .int k,S,cs,x,r,S',w,h=>by
  simp only[icl] at h;split at h<;>try cases h
  rename_i k' n r;cases hk:kbeq k k' with
  | false=>rw[hk] at h;cases h
  | true=>rw[hk,jab] at h;cases h;exact⟨rfl,fun _ _=>rfl⟩
 | .bool,S,cs,x,r,S',w,h=>by
  simp only[icl] at h;split at h<;>cases h;exact⟨rfl,fun _ _=>rfl⟩
 | .str,S,cs,x,r,S',w,h=>by
  simp only[icl] at h;split at h<;>cases h;exact⟨rfl,fun _ _=>rfl⟩
 | .list c,S,cs,x,r,S',w,h=>by
  simp only[icl] at h;split at h<;>try cases h
  ·exact⟨rfl,fun _ _=>rfl⟩
  ·split at h<;>cases h;exact⟨rfl,fun _ _=>rfl⟩
  ·split at h<;>try cases h
   ·split at h<;>cases h;exact qy7
   ·split at h<;>cases h;exact⟨rfl,fun _ _=>rfl⟩
  ·split at h<;>try cases h
   rename_i cs' ho;cases hb:(Nat.beq _ (csz c)&&Nat.ble _ cs'.length&&Nat.ble _ 140737488355328) with
   | false=>rw[hb] at h;cases h
   | true =>
   rw[hb,jab] at h;split at h
   ·cases h
   rename_i hrow;split at h<;>cases h;obtain⟨a1,a2⟩:=qsd (qe9 c) _ _ _ _ _ _ hrow;refine⟨a1,fun id hid=>?_⟩;rw[jbv,jcb] at hid;exact(qy7.2 id hid.2).trans (a2 id hid.1)
 | .two a b,S,cs,x,r,S',w,h=>by
  simp only[icl] at h;split at h
  ·cases h
  rename_i x1 r1 S1 w1 h1;split at h<;>cases h;rename_i h2;obtain⟨a1,a2⟩:=qe9 a _ _ _ _ _ _ h1;obtain⟨b1,b2⟩:=qe9 b _ _ _ _ _ _ h2;refine⟨b1.trans a1,fun id hid=>?_⟩;rw[jbv,jcb] at hid;exact(b2 id hid.2).trans (a2 id hid.1)
def qep(tt:Nat->Option TI)(S:IS)(ty:TypeId):IV->IV->Option Res
 | .ptr id off,v=>match tt ty with
  | none=>none
  | some ti=>match S.heap.get id with
   | some (.row cs)=>cond (Nat.beq (cellsOf v).length ti.sz&&Nat.ble (off+ti.sz) cs.length&&(cellsOf v).all one1) (some ⟨.tup [],S.set id (.row (putI cs off (cellsOf v))),0,2 ^ id⟩) none
   | some (.bld j)=>match v with
    | .arr k=>cond (Nat.beq off 1&&Nat.beq ti.sz 1) (some ⟨.tup [],S.set id (.bld k),0,2 ^ id⟩) none
    | _=>none
   | _=>none
 | .aptr id s i off,v=>match tt ty with
  | none=>none
  | some ti=>match S.heap.get id with
   | some (.arr c l)=>cond (Nat.beq s (csz c)&&Nat.beq (cellsOf v).length ti.sz&&Nat.ble (off+ti.sz) (csz c)&&(cellsOf v).all one1)
    (match l[i]? with
    | none=>none
    | some x=>match icl c S (putI (cel c x) off (cellsOf v)) with
     | some (x2,[],S2,w)=>cond (Nat.testBit w id) none (some ⟨.tup [],S2.set id (.arr c (l.set i x2)),0,w ||| 2 ^ id⟩)
     | _=>none) none
   | _=>none
 | _,_=>none
theorem q8z{ty:TypeId}{D:TypeDesc}{bytes:Nat}{zero:Value}{w:World}{β o:Nat}{cells:Array Value}{t:TypeId}{v:Value}(h:Ty P ty D 1 bytes zero)(hh:w.heap[β]?=some (.cells cells t (0,0)))(ho:o<cells.size)(hv:one v=true) :
  (Instr.storeAt ty (.pointer (some ⟨β,o,none⟩)) v).run P w=.ok () (w.setCell ⟨β,o,none⟩ v):=by
 have hc:w.cell? ⟨β,o,none⟩=some cells[o]:=by simp[World.cell?,hh,ho]
 have hfz:w.frozen? ⟨β,o,none⟩=false:=by simp[World.frozen?,hh]
 have hst:(store ⟨β,o,none⟩ v).run P w=.ok () (w.setCell ⟨β,o,none⟩ v):=by
  cases v with
  | agg _=>simp [one] at hv
  | tuple _=>simp [one] at hv
  | _=>simp only[store,Sem.run,hc,hfz];rfl
 have hcs:v.cells.toList=[v]:=by
  cases v with
  | agg _=>simp [one] at hv
  | tuple _=>simp [one] at hv
  | _=>rfl
 have hsz:v.cells.size=1:=by have:=jcd List.length hcs;simpa using this
 have e:(⟨β,o,none⟩:Addr).add 0=⟨β,o+0,none⟩:=qbe _ rfl _;simp only[Instr.storeAt,Instr.sureAddr,storeVar,jag,jad,jaa,Sx.run_sizeOf h,hsz,ne_eq,ja8,jbl,hcs,storeCells,e,jby,hst]
theorem zjp{ty:TypeId}{x y:IV}{ux uy:Value}{r:Res}(htt:TT P tt)(p:Pre T E S)(h:qep tt S ty x y=some r)(hr:tin T.w r.wr)(hx:VR E x ux)(hy:VR E y uy):qfm P T E S (Instr.storeAt ty ux uy) r:=by
 unfold qep at h;split at h<;>try cases h
 rotate_left
 ·rename_i id s i off;split at h
  ·cases h
  rename_i ti hti;split at h<;>try cases h
  rename_i c l ho;cases hb:(Nat.beq s (csz c)&&Nat.beq (cellsOf y).length ti.sz&&Nat.ble (off+ti.sz) (csz c)&&(cellsOf y).all one1) with
  | false=>rw[hb] at h;cases h
  | true =>
  rw[hb,jab] at h;simp only[jaf] at hb;obtain⟨⟨⟨b1,b2⟩,b3⟩,b4⟩:=hb;have b1:=jah b1;have b2:=jah b2;have b3:=jao b3;subst b1;split at h
  ·cases h
  rename_i x0 hx0;split at h<;>try cases h
  rename_i x2 S2 w hicl;cases hwb:Nat.testBit w id with
  | true=>rw[hwb] at h;cases h
  | false =>
  rw[hwb,jae] at h;cases h;obtain⟨hw1,hw2⟩:=qat hr;have hc:=hy.cells (q4h b4);cases hx with
  | aptr hA =>
  obtain⟨_,_,_,_,_,_,k5⟩:=p.st.objs id (T.sub _ (qaf hw2)) hA _ ho;obtain⟨hi,hx1⟩:=jal.1 hx0;rcases k5 with ⟨k5,k6⟩|⟨k5,k6,cells,t,k7,k8,us,k9,k10⟩
  ·omega
  have hvs:VRs E (cel c x0) ((List.range (csz c)).map (us i)):=⟨by simp[qbn],fun j a b=>by
   have:=k10 i hi j (by rw[hx1];exact a);simpa [hx1] using this⟩
  obtain⟨E1,e1,q1,f1,us1,us2,eus,v1,v2⟩:=qfs c hicl p hw1 (hvs.put off hc);have hz:us2=[]:=by have:=v2.1;simpa using this.symm
  subst hz;rw[jdn] at eus;have ho1:S2.heap.get id=some (.arr c l):=by
   have:=(qe9 c _ _ _ _ _ _ hicl).2 id hwb;unfold IS.H at this;rw[this];exact ho
  obtain⟨a1,a2,a3,a4,a5⟩:=(q1.env p).alw id hA;have hg:=zox (x2:=x2) (uy:=uy) (us1:=[]) (q1.pre p) (qaf hw2) a1 ho1 (htt _ _ hti) hx0 (by have:=hc.1;rw[b2] at this;simpa using this.symm) b3 (hc.ones b4) fun us' hu' hm'=>by
   obtain⟨cells',t',m1,m2⟩:=hm';rw[e1,a2,k7] at m1;cases m1;have hue:(List.range (csz c)).map us'=(List.range (csz c)).map (us i):=jd3 fun j hj=>by
    have hj:=jej.1 hj;have h1:=m2 j hj;rw[k9 i hi j hj] at h1;exact(jbg h1).symm
   rw[hue,eus];exact v1
  obtain⟨E2,g1,g2,g3,g4⟩:=hg;rw[e1,a2] at g1;exact⟨E2,g1,rfl,Post.trans p q1 f1 g3,f1.trans g4 q1.le⟩
 rename_i id off;cases hx with
 | ptr hA =>
 split at h
 ·cases h
 rename_i ti hti;have hty:=htt _ _ hti;split at h<;>try cases h
 rotate_left
 ·rename_i jj hcs;split at h<;>try cases h
  rename_i k;cases hb:(Nat.beq off 1&&Nat.beq ti.sz 1) with
  | false=>rw[hb] at h;cases h
  | true =>
   rw[hb,jab] at h;cases h;simp only[jaf] at hb;have h1:=jah hb.1;have h2:=jah hb.2;subst h1;rw[h2] at hty;obtain⟨q,v,k1,k2,k3⟩:=p.st.objs id (T.sub _ (qaf hr)) hA _ hcs;cases hy with
   | arr hAk hhk =>
   rename_i len cap a0;have hL:Live E S.H id:=⟨p.st.blk id (T.sub _ (qaf hr)) hA _ hcs rfl,_,hcs,rfl⟩;have hrun:=q8z (P:=P) (w:=E.w) (β:=E.ρ id) (o:=1) (v:=.slice a0 len cap) hty k1 (by simp) rfl;have hu:Upd [E.ρ id] E.w (E.w.setCell ⟨E.ρ id,1,none⟩ (.slice a0 len cap)):=by
    refine⟨rfl,rfl,rfl,by simp[World.setCell],fun b hb hm=>?_⟩;simp only[World.setCell,jcz];rw[jak];simp at hm;omega
   have hh2:(E.w.setCell ⟨E.ρ id,1,none⟩ (.slice a0 len cap)).heap[E.ρ id]?=some (.cells #[q,.slice a0 len cap] bldT (0,0)):=by
    simp[World.setCell,jcz,k1]
   obtain⟨q1,q2⟩:=Post.write p (o':=.bld k) (qaf hr) hA hL hu ⟨q,.slice a0 len cap,hh2,k2,.arr hAk hhk⟩;exact⟨_,hrun,rfl,q1,q2⟩
 rename_i cs hcs;cases hb:(Nat.beq (cellsOf y).length ti.sz&&Nat.ble (off+ti.sz) cs.length&&(cellsOf y).all one1) with
 | false=>rw[hb] at h;cases h
 | true =>
  rw[hb,jab] at h;cases h;simp only[jaf] at hb;have hs:=jah hb.1.1;have hle:=jao hb.1.2;obtain⟨cells,t,h1,h2,h3,h4⟩:=qdu p (T.sub _ (qaf hr)) hA hcs;have hc:=hy.cells (q4h hb.2);have hsz:uy.cells.size=ti.sz:=by have:=hc.1;rw[hs] at this;simpa using this.symm
  obtain⟨w',e1,e2,e3,e4⟩:=qvo (P:=P) (w:=E.w) (β:=E.ρ id) (o:=off) (cs:=cells.toList) hty ⟨t,by simpa using h1⟩ hsz (by simp;omega) (hc.ones hb.2);obtain⟨t',e2⟩:=e2;have hL:Live E S.H id:=⟨p.st.blk id (T.sub _ (qaf hr)) hA _ hcs rfl,_,hcs,rfl⟩;obtain⟨q1,q2⟩:=Post.write p (o':=.row (putI cs off (cellsOf y))) (qaf hr) hA hL e3 ⟨_,t',e2,by simp[qcs,h2,Env.at_],by simp[qr8,qcs];omega,by
   rw[qr8];show VRs _ _ ((putL cells.toList off uy.cells.toList).take cs.length);rw[q00];exact VRs.mono (Env.at_le p.st (qaf hr) hA hL e3) (h4.put off hc)⟩
  exact⟨_,e1,rfl,q1,q2⟩

theorem qo4{cs:List IV}{us:List Value}{t:TypeId}(p:Pre T E S)(h:VRs E cs us) :
  ∃E',E'.w={ E.w with heap:=E.w.heap.push (.cells us.toArray t) }/\E'.ρ S.next=E.w.heap.size/\E'.κ S.next=us.length/\E'.A S.next/\Post T E S E' (S.new (.row cs))/\Fresh E S E':=by
 have u:Upd [] E.w { E.w with heap:=E.w.heap.push (.cells us.toArray t) }:=Upd.push _ _;have hA:¬E.A S.next:=fun h=>jck _ (p.bnd _ h)
 obtain⟨a,b⟩:=Post.new p (k:=us.length) (hd:=.tuple #[]) (o:=.row cs) u (by simp) ⟨us.toArray,t,by simp only[Env.with_,qah];exact jct E.w _,by simp[Env.with_,qah],by simp[h.1],by
  rw[h.1,jc7 (by simp)];exact h.mono (Env.with_le hA u)⟩
 exact⟨_,rfl,qah _ _ _,qah _ _ _,(Or.inr rfl:E.A S.next\/S.next=S.next),a,b⟩
def qiw(tt:Nat->Option TI)(S:IS)(ty:TypeId):Option Res :=
 match tt ty with
 | none=>none
 | some ti=>match ofVs ti.zero.cells.toList with
  | none=>none
  | some cs=>cond (Nat.beq ty bldT) (match cs with
   | [.nilptr,.nilsl]=>some ⟨.ptr (S.next+1) 0,(S.new (.arr (.int .u8) [])).new (.bld S.next),0,0⟩
   | _=>none) (some ⟨.ptr S.next 0,S.new (.row cs),0,0⟩)
theorem zmn{ty:TypeId}{r:Res}(htt:TT P tt)(p:Pre T E S)(h:qiw tt S ty=some r):Good P T E S (Instr.alloc ty true (.tuple #[])) r:=by
 unfold qiw at h;split at h
 ·cases h
 rename_i ti hti;have hty:=htt _ _ hti;split at h
 ·cases h
 rename_i cs hcs;cases hbt:Nat.beq ty bldT with
 | true =>
  rw[hbt,jab] at h;have hbt:=jah hbt;subst hbt;split at h<;>cases h;obtain⟨u1,us1,e1,b1,b2⟩:=VRs.inv (qev E hcs);obtain⟨u2,us2,e2,b3,b4⟩:=VRs.inv b2;subst e2;have e3:us2=[]:=by have:=b4.1;cases us2 with
   | nil=>rfl
   | cons _ _=>cases this
  subst e3;cases b1;cases b3;obtain⟨a1,a2⟩:=Post.ghost (S:=S) (hd:=.slice none 0 0) (o:=.arr (.int .u8) []) p rfl ⟨none,0,qah _ _ _,jap _,by omega,by simp,.inl ⟨qah _ _ _,rfl,fun _=>rfl⟩⟩;have p1:=a1.pre p;have hS1:(S.new (.arr (.int .u8) [])).next=S.next+1:=rfl
  have hcz:ti.zero.cells=#[.pointer none,.slice none 0 0]:=by
   apply Array.ext';rw[e1]
  obtain⟨c1,c2⟩:=Post.new p1 (k:=2) (hd:=.tuple #[]) (o:=.bld S.next) (w':={ E.w with heap:=E.w.heap.push (.cells #[.pointer none,.slice none 0 0] bldT) }) (Upd.push _ _) (by simp[Env.gho])
   ⟨.pointer none,.slice none 0 0,by simp only[Env.with_,qah];exact jct E.w _,.inl rfl,.arr (.inl (.inr rfl)) (by
    simp only[Env.with_,Env.gho,hS1];rw[up_ne _ _ (by omega),qah])⟩
  refine⟨.pointer (some ⟨_,0,none⟩),_,?_,.ptr (Or.inr rfl:((E.gho S.next (.slice none 0 0)).A (S.next+1)\/S.next+1=S.next+1)),Post.trans p a1 a2 c1,a2.trans c2 a1.le⟩;simp only[Instr.alloc,jag,Sx.run_zeroValue hty,jaa,jad,newVar,newRow,hcz,Env.with_,Env.gho,hS1,qah];rfl
 | false =>
 rw[hbt,jae] at h;cases h;obtain⟨E',h1,h2,h3,h4,h5,h6⟩:=qo4 (t:=ty) p (qev E hcs);refine⟨.pointer (some ⟨E'.ρ S.next,0,none⟩),E',?_,.ptr h4,h5,h6⟩;rw[h1,h2];simp only[Instr.alloc,jag,Sx.run_zeroValue hty,jaa,jad,newVar,newRow];rfl
def ibox(S:IS)(v:IV):Option Res:=cond (qcy v) (some ⟨.ptr S.next 0,S.new (.row (cellsOf v)),0,0⟩) none
theorem q8f{ty:TypeId}{v:IV}{u:Value}{r:Res}(p:Pre T E S)(h:ibox S v=some r)(hv:VR E v u):Good P T E S (Instr.box ty u) r:=by
 unfold ibox at h;cases hk:qcy v with
 | false=>rw[hk] at h;cases h
 | true =>
 rw[hk,jab] at h;cases h;obtain⟨E',h1,h2,h3,h4,h5,h6⟩:=qo4 (t:=ty) p (hv.cells hk);refine⟨.pointer (some ⟨E'.ρ S.next,0,none⟩),E',?_,.ptr h4,h5,h6⟩;rw[h1,h2];simp only[Instr.box,jag,jad,newVar,newRow];rfl

def qf2(pl:List (Nat × Nat)):List IV->List (Nat × IV)->Option (List IV)
 | cells,[]=>some cells
 | cells,(i,v)::rest =>
  match pl[i]? with
  | none=>none
  | some (off,size)=>cond (qcy v&&(Nat.beq (cellsOf v).length size&&Nat.ble (off+size) cells.length)) (qf2 pl (putI cells off (cellsOf v)) rest) none
def VPs(E:Env):List (Nat × IV)->List (Nat × Value)->Prop
 | [],[]=>True
 | (i,v)::l,(j,u)::m=>i=j/\VR E v u/\VPs E l m
 | _,_=>False
theorem qme{pl:List (Nat × Nat)}:∀{ps:List (Nat × IV)} {qs:List (Nat × Value)} {cs r:List IV} {us:List Value},VPs E ps qs->VRs E cs us->qf2 pl cs ps=some r->∃ur,qb2 pl us qs=some ur/\VRs E r ur
 | [],[],cs,r,us,_,hc,h=>by simp[qf2] at h;subst h;exact⟨us,rfl,hc⟩
 | [],_::_,_,_,_,h,_,_=>h.elim
 | (i,v)::ps,[],_,_,_,h,_,_=>h.elim
 | (i,v)::ps,(j,u)::qs,cs,r,us,⟨hij,hv,hp⟩,hc,h=>by
  subst hij;unfold qf2 at h;unfold qb2;split at h
  ·cases h
  rename_i off size he;try rw[he]
  cases hk:qcy v with
  | false=>rw[hk] at h;cases h
  | true =>
  rw[hk,jb3] at h;have hcell:=hv.cells hk;cases hb:(Nat.beq (cellsOf v).length size&&Nat.ble (off+size) cs.length) with
  | false=>rw[hb] at h;cases h
  | true =>
   rw[hb,jab] at h;rw[hcell.1,hc.1] at hb;simp only[hb,jab];exact qme hp (hc.put off hcell) h
def qhs(tt:Nat->Option TI):List Field->Option (List (Nat × Nat))
 | []=>some []
 | f::l=>match tt f.type with
  | none=>none
  | some ti=>match qhs tt l with
   | none=>none
   | some pl=>some ((f.offset,ti.sz)::pl)
theorem q3z(htt:TT P tt):∀{l:List Field} {pl:List (Nat × Nat)},qhs tt l=some pl->∀w,(l.mapM fun f=>(do pure (f.offset,<- sizeOf f.type):Sem (Nat × Nat))).run P w=.ok pl w
 | [],pl,h,w=>by simp[qhs] at h;subst h;rfl
 | f::l,pl,h,w=>by
  unfold qhs at h;split at h
  ·cases h
  rename_i ti hti;split at h<;>cases h;rename_i pl' hpl;simp only[je7,jag,Sx.run_sizeOf (w:=w) (htt _ _ hti),jaa,jad,q3z htt hpl w]
theorem qmh(htt:TT P tt){ty:TypeId}{ti:TI}{fs:Array Field}{pl:List (Nat × Nat)}(hti:tt ty=some ti)(hf:ti.und=.struct fs)(hp:qhs tt fs.toList=some pl):Szs P ty pl:=by
 refine⟨fs,by have:=(htt _ _ hti).und;rw[hf] at this;exact this,fun w=>?_⟩;have:=q3z htt hp w;rw[show fs=fs.toList.toArray from rfl,jfa,qry,this];rfl
def qjx(tt:Nat->Option TI)(S:IS)(ty:TypeId)(ps:List (Nat × IV)):Option Res :=
 match tt ty with
 | none=>none
 | some ti=>match ti.und with
  | .struct fs=>match qhs tt fs.toList with
   | none=>none
   | some pl=>match ofVs ti.zero.cells.toList with
    | none=>none
    | some zs=>match qf2 pl zs ps with
     | none=>none
     | some r=>some ⟨.agg r,S,0,0⟩
  | _=>none
theorem zfj{ty:TypeId}{ps:List (Nat × IV)}{qs:List (Nat × Value)}{r:Res}(htt:TT P tt)(p:Pre T E S)(h:qjx tt S ty ps=some r)(hp:VPs E ps qs):Good P T E S (Instr.build ty qs.toArray) r:=by
 unfold qjx at h;split at h
 ·cases h
 rename_i ti hti;have hty:=htt _ _ hti;split at h<;>try cases h
 rename_i fs hfs;split at h
 ·cases h
 rename_i pl hpl;split at h
 ·cases h
 rename_i zs hzs;split at h<;>cases h;rename_i r hr;obtain⟨fs',hs1,hs2⟩:=qmh htt hti hfs hpl;obtain⟨ur,hu1,hu2⟩:=qme hp (qev E hzs) hr;refine Good.same p (u:=.agg ur.toArray) ?_ (.agg hu2.1 hu2.2);have h3:=qly (fun i=>pl.toArray[i]?) pl (by simp) _ _ _ hu1;have h3':Instr.fill (fun x=>pl.toArray[x]?) ti.zero.cells qs=some ur.toArray:=by simpa using h3
 simp only[Instr.build,jag,Sx.run_zeroValue hty,jaa,jan hs1,hs2 E.w,h3',jad]
end
end Go.Jx
end

section
namespace Go.Jx
open Go Go.Sx Go.RowKit
universe u

section
variable {P : Program} {tt : Nat -> Option TI} {T : TW} {E : Env} {S : IS}

theorem run_buildSlice{w:World}{T E:TypeId}{D:TypeDesc}{size bytes s2 b2 len:Nat}{zero z2:Value}{E':TypeDesc}{zs r:List Value}{ps:List (Nat × Value)}(hT:Ty P T (.slice E) size bytes zero)(hE:Ty P E E' s2 b2 z2)(hz:z2.cells.toList=zs)
  (hs:(Nat.ble (len*s2) 16777216&&Nat.blt 0 (len*s2))=true) (hf:qb2 ((List.range len).map fun i=>(i*s2,s2)) (qcg zs (len*s2)) ps=some r) :
  (Instr.buildSlice T len ps.toArray).run P w=.ok (.slice (some ⟨w.heap.size,0,none⟩) len len) { w with heap:=w.heap.push (.cells r.toArray E) }:=by
 subst hz;simp only[jaf] at hs;have hs1:=jao hs.1;have hs2:0<len*s2:=by have:=hs.2;simpa using this
 have hin:∀(ps:List (Nat × Value)) (cs r:List Value),qb2 ((List.range len).map fun i=>(i*s2,s2)) cs ps=some r->∀p∈ps,p.1<len:=by
  intro ps;induction ps with
  | nil=>intro _ _ _ p hp;simp at hp
  | cons q ps ih =>
   intro cs r h p hp;obtain⟨i,v⟩:=q;unfold qb2 at h;split at h
   ·cases h
   ·rename_i off sz he;simp only[ja1] at hp;rcases hp with rfl|hp
    ·simp only[jbw,jee] at he;obtain⟨a,ha,_⟩:=he;rcases jbm i len with h'|h'
     ·exact h'
     ·rw[jbp (by simpa using h')] at ha;cases ha
    ·cases hc:(Nat.beq v.cells.toList.length sz&&Nat.ble (off+sz) cs.length) with
     | false=>rw[hc] at h;cases h
     | true=>rw[hc] at h;exact ih _ _ h p hp
 have e:∀(ps:List (Nat × Value)) (cs:Array Value),(∀p∈ps,p.1<len)->Instr.fill (fun i=>some (i*s2,s2)) cs ps=Instr.fill (fun i=>((List.range len).map fun i=>(i*s2,s2))[i]?) cs ps:=by
  intro ps;induction ps with
  | nil=>intro _ _;rfl
  | cons q ps ih =>
   intro cs h;obtain⟨i,v⟩:=q;have hi:i<len:=h (i,v) (by simp);unfold Instr.fill;have:((List.range len).map fun i=>(i*s2,s2))[i]?=some (i*s2,s2):=by simp[hi]
   simp only[this];split
   ·rfl
   ·exact ih _ (fun p hp=>h p (by simp[hp]))
 have hfill:Instr.fill (fun i=>some (i*s2,s2)) (qcg z2.cells.toList (len*s2)).toArray ps=some r.toArray:=by
  rw[e _ _ (hin _ _ _ hf)];exact qly _ _ (fun _=>rfl) _ _ _ hf
 have hz:((Array.range (len*s2)).map fun x=>z2.cells[x % z2.cells.size]!)=(qcg z2.cells.toList (len*s2)).toArray:=by
  apply jdv
  ·simp[qcg]
  ·intro i h1 h2;simp [qcg,getElem!_def]
 simp only[Instr.buildSlice,jag,jan hT.und,jaa,Sx.run_sizeOf hE];rw[jak (by omega),jak (by omega)];simp only[jag,Sx.run_zeroValue hE,jaa,jad,hz,hfill,newRow];rfl
theorem qyf{w:World}{T E:TypeId}{size bytes s2 b2:Nat}{zero z2:Value}{E':TypeDesc}(hT:Ty P T (.slice E) size bytes zero)(hE:Ty P E E' s2 b2 z2) :
  (Instr.buildSlice T 0 #[]).run P w=.ok (.slice (some ⟨w.heap.size,0,none⟩) 0 0) { w with heap:=w.heap.push (.cells #[] E) }:=by
 simp only[Instr.buildSlice,jag,jan hT.und,jaa,Sx.run_sizeOf hE,jd7];rw[jak (by omega),jam trivial];simp only[jag,jad,jaa];simp[Instr.fill,newRow];rw[show Array.map (fun x=>(default:Value)) (Array.range 0)=#[] from jel (by simp)]
def repI(zs:List IV):Nat->List IV
 | 0=>[]
 | n+1=>zs++repI zs n
theorem qom(zs:List IV):∀n,(repI zs n).length=n*zs.length
 | 0=>by simp[repI]
 | n+1=>by simp[repI,qom zs n,jbb,Nat.add_comm]
theorem q2i(zs:List IV):∀(n i:Nat),i<n*zs.length->(repI zs n)[i]?=zs[i % zs.length]?
 | 0,i,h=>by simp at h
 | n+1,i,h=>by
  unfold repI;by_cases hi:i<zs.length
  ·rw[ja2 hi,Nat.mod_eq_of_lt hi]
  ·rw[jbf (by omega),q2i zs n _ (by rw[jbb,jd4] at h;omega)];rw[Nat.mod_eq_sub_mod (jdj hi)]
theorem q3y{zs:List IV}{us:List Value}{n:Nat}(h:VRs E zs us)(hz:0<us.length):VRs E (repI zs n) (qcg us (n*us.length)):=by
 refine⟨by rw[qom,h.1];simp [qcg],fun i a b=>?_⟩;rw[qom] at a;have hm:i % zs.length<zs.length:=je9 _ (by rw[h.1];exact hz);have e1:=q2i zs n i a;rw[jac (by rw[qom];exact a),jac hm] at e1;have e1:=jbg e1;rw[e1];have:=h.2 (i % zs.length) hm (by rw[<- h.1];exact hm);have hm':i % us.length<us.length:=je9 _ hz;simpa [qcg,h.1,getElem!_def,jac hm'] using this
def qii(tt:Nat->Option TI)(S:IS)(ty len:Nat)(ps:List (Nat × IV)):Option Res :=
 match tt ty with
 | none=>none
 | some ti=>match ti.und with
  | .slice e=>match tt e with
   | none=>none
   | some te=>match len,ps with
    | 0,[]=>some ⟨.sl S.next 0 0 te.sz (some 0),S.new (.row []),0,0⟩
    | _,_=>match ofVs te.zero.cells.toList with
     | none=>none
     | some zs=>cond (Nat.beq zs.length te.sz&&Nat.ble (len*te.sz) 16777216&&Nat.blt 0 (len*te.sz))
      (match qf2 ((List.range len).map fun i=>(i*te.sz,te.sz)) (repI zs len) ps with
      | none=>none
      | some r=>some ⟨.sl S.next 0 len te.sz (some len),S.new (.row r),0,0⟩) none
  | _=>none
theorem zmr{ty len:Nat}{ps:List (Nat × IV)}{qs:List (Nat × Value)}{r:Res}(htt:TT P tt)(p:Pre T E S)(h:qii tt S ty len ps=some r)(hp:VPs E ps qs):Good P T E S (Instr.buildSlice ty len qs.toArray) r:=by
 unfold qii at h;split at h
 ·cases h
 rename_i ti hti;have hty:=htt _ _ hti;split at h<;>try cases h
 rename_i e he;rw[he] at hty;split at h
 ·cases h
 rename_i te hte;have hE:=htt _ _ hte;split at h
 ·cases h;cases qs with
  | cons _ _=>exact hp.elim
  | nil =>
  obtain⟨E',h1,h2,h3,h4,h5,h6⟩:=qo4 (t:=e) p VRs.nil;refine⟨.slice (some ⟨E'.ρ S.next,0,none⟩) 0 0,E',?_,.sl 0 h4 (jap _) (by omega) (by simp) (fun x hx=>by cases hx;rfl) (fun hx=>by cases hx),h5,h6⟩;rw[h1,h2];exact qyf hty hE
 ·rename_i hne;split at h
  ·cases h
  rename_i zs hzs;cases hb:(Nat.beq zs.length te.sz&&Nat.ble (len*te.sz) 16777216&&Nat.blt 0 (len*te.sz)) with
  | false=>rw[hb] at h;cases h
  | true =>
  rw[hb,jab] at h;simp only[jaf] at hb;obtain⟨⟨b1,b2⟩,b3⟩:=hb;have hl:=jah b1;split at h<;>cases h;rename_i r hr;have hz:=qev E hzs;have hzl:te.zero.cells.toList.length=te.sz:=by rw[<- hz.1,hl]
  have b3':0<len*te.sz:=by simpa using b3
  have hs0:0<te.sz:=Nat.pos_of_mul_pos_left b3';have hz2:=q3y (n:=len) hz (by rw[hzl];exact hs0);rw[hzl] at hz2;obtain⟨ur,hu1,hu2⟩:=qme hp hz2 hr;obtain⟨E',h1,h2,h3,h4,h5,h6⟩:=qo4 (t:=e) p hu2;have hrl:ur.length=len*te.sz:=by
   have:∀(pl:List (Nat × Nat)) (qs:List (Nat × Value)) (cs r:List Value),qb2 pl cs qs=some r->r.length=cs.length:=by
    intro pl qs;induction qs with
    | nil=>intro cs r h;simp [qb2] at h;rw[h]
    | cons q qs ih =>
     intro cs r h;obtain⟨i,v⟩:=q;unfold qb2 at h;split at h
     ·cases h
     ·rename_i off sz he;cases hc:(Nat.beq v.cells.toList.length sz&&Nat.ble (off+sz) cs.length) with
      | false=>rw[hc] at h;cases h
      | true=>rw[hc,jab] at h;rw[ih _ _ h,qcs]
   rw[this _ _ _ _ hu1];simp [qcg]
  have hlen:len<=16777216:=by
   have:=jao b2;have:=Nat.le_mul_of_pos_right len hs0;omega
  refine⟨.slice (some ⟨E'.ρ S.next,0,none⟩) len len,E',?_,.sl len h4 (jap _) (by omega) (by rw[h3,hrl];simp) (fun x hx=>by cases hx;rfl) (fun hx=>by cases hx),h5,h6⟩;rw[h1,h2];exact run_buildSlice (D:=.bool) hty hE rfl (by simp[b2];omega) hu1

def qko(tt:Nat->Option TI)(S:IS)(ty f:Nat):IV->Option Res
 | .ptr id off=>match tt ty with
  | none=>none
  | some ti=>match ti.und with
   | .struct fs=>match fs.toList[f]? with
    | none=>none
    | some F=>match tt F.type with
     | none=>none
     | some tf=>cond (Nat.blt 0 tf.sz) (some ⟨.ptr id (off+F.offset),S,0,0⟩) none
   | _=>none
 | .eptr c e off=>match tt ty with
  | none=>none
  | some ti=>match ti.und with
   | .struct fs=>match fs.toList[f]? with
    | none=>none
    | some F=>match tt F.type with
     | none=>none
     | some tf=>cond (Nat.blt 0 tf.sz) (some ⟨.eptr c e (off+F.offset),S,0,0⟩) none
   | _=>none
 | .aptr id s i off=>match tt ty with
  | none=>none
  | some ti=>match ti.und with
   | .struct fs=>match fs.toList[f]? with
    | none=>none
    | some F=>match tt F.type with
     | none=>none
     | some tf=>cond (Nat.blt 0 tf.sz) (some ⟨.aptr id s i (off+F.offset),S,0,0⟩) none
   | _=>none
 | _=>none
theorem zf7{ty f:Nat}{x:IV}{ux:Value}{r:Res}(htt:TT P tt)(p:Pre T E S)(h:qko tt S ty f x=some r)(hx:VR E x ux):Good P T E S (Instr.fieldAt ty ux f) r:=by
 have key:∀{ti tf:TI} {fs:Array Field} {F:Field} {a:Addr},tt ty=some ti->ti.und=.struct fs->fs.toList[f]?=some F->tt F.type=some tf->Nat.blt 0 tf.sz=true->a.spot=none ->
   (Instr.fieldAt ty (.pointer (some a)) f).run P E.w=.ok (.pointer (some ⟨a.block,a.off+F.offset,none⟩)) E.w:=by
  intro ti tf fs F a hti hfs hF htf hb ha;have hty:=htt _ _ hti;rw[hfs] at hty;have hf:=htt _ _ htf;have hpos:0<tf.sz:=by simpa using hb
  obtain⟨k,hk⟩:∃k,tf.sz=k+1:=⟨tf.sz-1,by omega⟩;rw[hk] at hf;exact Fld.mk hty (by simpa using hF) hf a E.w ha
 unfold qko at h;split at h<;>try cases h
 all_goals
  split at h
  ·cases h
  rename_i ti hti;split at h<;>try cases h
  rename_i fs hfs;split at h
  ·cases h
  rename_i F hF;split at h
  ·cases h
  rename_i tf htf;cases hb:Nat.blt 0 tf.sz with
  | false=>rw[hb] at h;cases h
  | true =>
   rw[hb,jab] at h;cases h;cases hx;first
   | (refine Good.same p (key hti hfs hF htf hb rfl) (.ptr ?_);assumption)
   | (refine Good.same p (key hti hfs hF htf hb rfl) ?_;rw[jcq];exact .aptr (by assumption))
   | (refine Good.same p (key hti hfs hF htf hb rfl) ?_;rw[jcq];exact .eptr _ (by assumption) (by assumption) (by assumption) (by assumption))
def jget{α:Type}(l:List α)(i:Int):Option α:=if 0<=i then l[i.toNat]? else none
theorem qqe{α:Type}{l:List α}{i:Int}{x:α}(h:jget l i=some x):0<=i/\i<l.length/\l[i.toNat]?=some x:=by
 unfold jget at h;split at h
 ·have:=(jal.1 h).1;exact⟨by assumption,by omega,h⟩
 ·cases h
def qd2(tt:Nat->Option TI)(S:IS)(ty:Nat):IV->IV->Option Res
 | .sl id off len s c,.int k i=>match tt ty with
  | none=>none
  | some ti=>match ti.und with
   | .slice e=>match tt e with
    | none=>none
    | some te=>match i with
     | .ofNat n=>cond (Nat.beq te.sz s&&Nat.blt n len) (some ⟨.ptr id (off+n*s),S,0,0⟩) none
     | _=>none
   | _=>none
 | .lst c l,.int k i=>match tt ty with
  | none=>none
  | some ti=>match ti.und with
   | .slice e=>match tt e with
    | none=>none
    | some te=>cond (Nat.beq te.sz (csz c)) (match jget l i with
     | none=>none
     | some x=>some ⟨.eptr c x 0,S,0,0⟩) none
   | _=>none
 | .arr id,.int k i=>match tt ty with
  | none=>none
  | some ti=>match ti.und with
   | .slice e=>match tt e with
    | none=>none
    | some te=>match S.heap.get id with
     | some (.arr c l)=>cond (Nat.beq te.sz (csz c)) (match jget l i with
      | none=>none
      | some x=>some ⟨.aptr id (csz c) i.toNat 0,S,2 ^ id,0⟩) none
     | some (.frz c l)=>cond (Nat.beq te.sz (csz c)) (match jget l i with
      | none=>none
      | some x=>some ⟨.eptr c x 0,S,2 ^ id,0⟩) none
     | _=>none
   | _=>none
 | .ptr id off,.int k i=>match tt ty with
  | none=>none
  | some ti=>match ti.und with
   | .array len e=>match tt e with
    | none=>none
    | some te=>match i with
     | .ofNat n=>cond (Nat.blt n len) (some ⟨.ptr id (off+n*te.sz),S,0,0⟩) none
     | _=>none
   | _=>none
 | .gp g,.int k i=>match tt ty with
  | none=>none
  | some ti=>match ti.und with
   | .array len e=>match tt e with
    | none=>none
    | some te=>match qus g with
     | none=>none
     | some l=>cond (Nat.beq te.sz 1&&Nat.ble l.length len) (match jget l i with
      | none=>none
      | some n=>some ⟨.eptr (.int .u8) n 0,S,0,0⟩) none
   | _=>none
 | _,_=>none
theorem zby{ty:Nat}{x y:IV}{ux uy:Value}{r:Res}(htt:TT P tt)(p:Pre T E S)(h:qd2 tt S ty x y=some r)(hrd:tin T.r r.rd)(hx:VR E x ux)(hy:VR E y uy):Good P T E S (Instr.indexAt ty ux uy) r:=by
 have key:∀{ti te:TI} {e:TypeId} {k:IntKind} {i:Int} {a:Addr} {len cap:Nat},tt ty=some ti->ti.und=.slice e->tt e=some te->0<=i->i<len ->
   (Instr.indexAt ty (.slice (some a) len cap) (.int k i)).run P E.w=.ok (.pointer (some (a.add (i.toNat*te.sz)))) E.w:=by
  intro ti te e k i a len cap hti he hte g1 g2;have hty:=htt _ _ hti;rw[he] at hty;simp only[Instr.indexAt,asIntOf,jag,jad,jaa,jan hty.und,g1,g2,jet,jb4,Sx.run_sizeOf (htt _ _ hte)]
 have keyl:∀{c:TC} {l:List (El c)} {x:El c} {i:Int} {u:Value} {rd:Nat} {ti te:TI} {e:TypeId} {k:IntKind},tt ty=some ti->ti.und=.slice e->tt e=some te->Nat.beq te.sz (csz c)=true->jget l i=some x->VR E (.lst c l) u ->
   Good P T E S (Instr.indexAt ty u (.int k i)) ⟨.eptr c x 0,S,rd,0⟩:=by
  intro c l x i u rd ti te e k hti he hte hz hg hv;obtain⟨g1,g2,g3⟩:=qqe hg;obtain⟨g4,g5⟩:=jal.1 g3;have hz:=jah hz;cases hv with
  | lst0=>simp at g4
  | lst us h1 h2 h3 hb hh hc hu =>
   refine Good.same p (key hti he hte g1 g2) ?_;rename_i b off cap cells t fz;rw[qbe _ rfl,hz];exact .eptr (base:=off+i.toNat*csz c) (us i.toNat) hb hh (fun j hj=>hc _ g4 j hj) (fun j hj=>by have:=hu _ g4 j (by rw[g5];exact hj);simpa [g5] using this)
 unfold qd2 at h;split at h<;>try cases h
 rotate_left
 ·rename_i c l k i;cases hy;split at h
  ·cases h
  rename_i ti hti;split at h<;>try cases h
  rename_i e he;split at h
  ·cases h
  rename_i te hte;cases hz:Nat.beq te.sz (csz c) with
  | false=>rw[hz] at h;cases h
  | true =>
  rw[hz,jab] at h;split at h<;>cases h;rename_i x hg;exact keyl hti he hte hz hg hx
 ·rename_i id k i;cases hy;cases hx with
  | arr hA hh =>
  split at h
  ·cases h
  rename_i ti hti;split at h<;>try cases h
  rename_i e he;split at h
  ·cases h
  rename_i te hte;split at h<;>try cases h
  ·rename_i c l ho;cases hz:Nat.beq te.sz (csz c) with
   | false=>rw[hz] at h;cases h
   | true =>
   rw[hz,jab] at h;split at h<;>cases h;rename_i x hg;obtain⟨g1,g2,g3⟩:=qqe hg;have hz:=jah hz;obtain⟨a,cap,k1,k2,k3,k4,k5⟩:=p.st.objs id (qaf hrd) hA _ ho;rw[hh] at k1;cases k1;rcases k5 with ⟨k5,k6⟩|⟨k5,k6,cells,t,k7,k8,k9⟩
   ·omega
   ·subst k6;refine Good.same p (key hti he hte g1 g2) ?_;rw[qbe _ rfl,hz];have:=VR.aptr (E:=E) (id:=id) (s:=csz c) (i:=i.toNat) (o:=0) hA;simpa using this
  ·rename_i c l ho;cases hz:Nat.beq te.sz (csz c) with
   | false=>rw[hz] at h;cases h
   | true =>
   rw[hz,jab] at h;split at h<;>cases h;rename_i x hg;have q3:=p.st.objs id (qaf hrd) hA _ ho;unfold OR at q3;rw[hh] at q3;exact keyl hti he hte hz hg q3
 rotate_left
 ·rename_i g k i;cases hy;cases hx with
  | gp hg =>
  split at h
  ·cases h
  rename_i ti hti;have hty:=htt _ _ hti;split at h<;>try cases h
  rename_i len e he;rw[he] at hty;split at h
  ·cases h
  rename_i te hte;have hE:=htt _ _ hte;split at h
  ·cases h
  rename_i l hl;cases hb:(Nat.beq te.sz 1&&Nat.ble l.length len) with
  | false=>rw[hb] at h;cases h
  | true =>
   rw[hb,jab] at h;split at h<;>cases h;rename_i n hn;simp only[jaf] at hb;have hs:=jah hb.1;have hle:=jao hb.2;obtain⟨g1,g2,g3⟩:=qqe hn;obtain⟨b1,o,b2,cells,t,fz,rfl,b4⟩:=p.gl.h g hg;obtain⟨c1,c2⟩:=b4 l hl _ _ g3;have g2':i<(len:Int):=by omega
   have e1:(Instr.indexAt ty (.pointer (some ⟨g,0,none⟩)) (.int k i)).run P E.w=.ok (.pointer (some ⟨g,i.toNat+0,none⟩)) E.w:=by
    simp only[Instr.indexAt,asIntOf,jag,jad,jaa,jan hty.und,Instr.sureAddr,g1,g2',jet,jb4,Sx.run_sizeOf hE,qbe ⟨g,0,none⟩ rfl,hs];simp
   exact Good.same p e1 (.eptr (base:=i.toNat) (fun _=>.int .u8 n) b1 b2 (fun j hj=>by
    have:j=0:=by simp only[csz] at hj;omega
    subst this;exact c1) (fun j hj=>by
    have:j=0:=by simp only[cel,jbk,jce] at hj;omega
    subst this;exact .int _ _ c2))
 ·rename_i id off len s c k i;cases hy;cases hx with
  | sl cap hA h1 h2 h3 h4 h5 =>
  split at h
  ·cases h
  rename_i ti hti;have hty:=htt _ _ hti;split at h<;>try cases h
  rename_i e he;rw[he] at hty;split at h
  ·cases h
  rename_i te hte;have hE:=htt _ _ hte;split at h<;>try cases h
  rename_i n _;cases hb:(Nat.beq te.sz s&&Nat.blt n len) with
  | false=>rw[hb] at h;cases h
  | true =>
   rw[hb,jab] at h;cases h;simp only[jaf] at hb;have hs:=jah hb.1;have hn:n<len:=by simpa using hb.2
   refine Good.same p (u:=.pointer (some ⟨E.ρ id,off+n*s,none⟩)) ?_ (.ptr hA);have g1:(0:Int)<=Int.ofNat n:=jc8 n;have g2:(Int.ofNat n:Int)<len:=by show (n:Int)<len;omega
   have g3:(Int.ofNat n).toNat=n:=rfl;simp only[Instr.indexAt,asIntOf,jag,jad,jaa,jan hty.und,g1,g2,jet,jb4,Sx.run_sizeOf hE,qbe ⟨E.ρ id,off,none⟩ rfl,hs,g3]
 ·rename_i id off k i;cases hy;cases hx with
  | ptr hA =>
  split at h
  ·cases h
  rename_i ti hti;have hty:=htt _ _ hti;split at h<;>try cases h
  rename_i len e he;rw[he] at hty;split at h
  ·cases h
  rename_i te hte;have hE:=htt _ _ hte;split at h<;>try cases h
  rename_i n _;cases hb:(Nat.blt n len) with
  | false=>rw[hb] at h;cases h
  | true =>
   rw[hb,jab] at h;cases h;have hn:n<len:=by simpa using hb
   refine Good.same p (u:=.pointer (some ⟨E.ρ id,off+n*te.sz,none⟩)) ?_ (.ptr hA);have g1:(0:Int)<=Int.ofNat n:=jc8 n;have g2:(Int.ofNat n:Int)<len:=by show (n:Int)<len;omega
   have g3:(Int.ofNat n).toNat=n:=rfl;simp only[Instr.indexAt,asIntOf,jag,jad,jaa,jan hty.und,Instr.sureAddr,g1,g2,jet,jb4,Sx.run_sizeOf hE,qbe ⟨E.ρ id,off,none⟩ rfl,g3]

def bnd:Option IV->Nat->Option Nat
 | none,d=>some d
 | some (.int _ (.ofNat n)),_=>some n
 | _,_=>none
def VO(E:Env):Option IV->Option Value->Prop
 | none,none=>True
 | some x,some u=>VR E x u
 | _,_=>False
theorem qgo{w:World}{x:IV}{u:Value}{d n y:Nat}{code:BoundsCode}(h:bnd (some x) d=some n)(hx:VR E x u)(hn:n<=y):(Instr.sliceBound u y code).run P w=.ok n w:=by
 unfold bnd at h;split at h<;>try cases h
 ·rename_i he;cases he
 ·rename_i k m _ he;cases he;cases hx;have g1:(0:Int)<=Int.ofNat n/\(Int.ofNat n:Int)<=y:=⟨jc8 n,by show (n:Int)<=y;omega⟩;simp only[Instr.sliceBound,asIntOf,jag,jad,jaa,g1,jet,jb4];rfl
def bndI:Option IV->Int->Option Int
 | none,d=>some d
 | some (.int _ n),_=>some n
 | _,_=>none
def lchk(a b m n:Int):Bool:=decide (0<=a)&&(decide (a<=b)&&(decide (b<=m)&&decide (m<=n)))
def lsub{α:Type}(l:List α)(a b:Int):List α:=(l.take b.toNat).drop a.toNat
theorem qio{a b m n:Int}:lchk a b m n=true↔0<=a/\a<=b/\b<=m/\m<=n:=by simp[lchk]
def qd3(tt:Nat->Option TI)(S:IS)(ty:Nat)(lo hi mx:Option IV):IV->Option Res
 | .sl id off len s c=>match tt ty with
  | none=>none
  | some ti=>match ti.und with
   | .slice e=>match tt e with
    | none=>none
    | some te=>match bnd lo 0,bnd hi len with
     | some l,some h=>match mx with
      | none=>cond (Nat.beq te.sz s&&Nat.ble l h&&Nat.ble h len)
       (match c with
       | some c=>some ⟨.sl id (cond (Nat.beq c l) off (off+l*s)) (h-l) s (some (c-l)),S,0,0⟩
       | none=>cond (Nat.blt l len||Nat.beq l 0) (some ⟨.sl id (off+l*s) (h-l) s none,S,0,0⟩) none) none
      | some mx=>match hi,bnd (some mx) 0 with
       | some _,some m=>cond (Nat.beq te.sz s&&Nat.ble l h&&Nat.ble h m&&Nat.ble m len)
         (some ⟨.sl id (cond (Nat.beq m l) off (off+l*s)) (h-l) s (some (m-l)),S,0,0⟩) none
       | _,_=>none
     | _,_=>none
   | _=>none
 | .lst c l=>match tt ty with
  | none=>none
  | some ti=>match ti.und with
   | .slice e=>match tt e with
    | none=>none
    | some te=>match bndI lo 0,bndI hi l.length with
     | some a,some b=>match mx with
      | none=>cond (Nat.beq te.sz (csz c)) (cond (lchk a b l.length l.length) (some ⟨.lst c (lsub l a b),S,0,0⟩) none) none
      | some mx=>match hi,bndI (some mx) 0 with
       | some _,some m=>cond (Nat.beq te.sz (csz c)) (cond (lchk a b m l.length) (some ⟨.lst c (lsub l a b),S,0,0⟩) none) none
       | _,_=>none
     | _,_=>none
   | _=>none
 | _=>none
theorem zhl{w:World}{ty e:TypeId}{size bytes s b2:Nat}{zero z2:Value}{D:TypeDesc}{a:Addr}{len cap l h d1 d2:Nat}{lo hi:Option IV}{ulo uhi:Option Value}(hT:Ty P ty (.slice e) size bytes zero)(hE:Ty P e D s b2 z2)
  (hl:bnd lo 0=some l) (hh:bnd hi len=some h) (vl:VO E lo ulo) (vh:VO E hi uhi) (h1:l<=h) (h2:h<=len) (h3:len<=cap) :
  (Instr.sliceAt ty (.slice (some a) len cap) ulo uhi none).run P w=.ok (.slice (some (if cap=l then a else a.add (l*s))) (h-l) (cap-l)) w:=by
 have hb:(Instr.sliceBounds true len cap ulo uhi none).run P w=.ok (l,h,cap) w:=by
  simp only[Instr.sliceBounds,jag,jad,jaa];cases uhi with
  | none =>
   cases hi with
   | some _=>exact vh.elim
   | none =>
    have:len=h:=by simpa [bnd] using hh
    subst this;simp only[jag,jad,jaa];cases ulo with
    | none =>
     cases lo with
     | some _=>exact vl.elim
     | none =>
          have:0=l:=by simpa [bnd] using hl
          subst this;simp only[jag,jad,jaa]
    | some u =>
     cases lo with
     | none=>exact vl.elim
     | some x=>simp only[jag,qgo (P:=P) hl vl h1,jaa,jad]
  | some u2 =>
   cases hi with
   | none=>exact vh.elim
   | some x2 =>
    have e2:∀code,(Instr.sliceBound u2 cap code).run P w=.ok h w:=fun code=>qgo hh vh (by omega);simp only[jag,e2,jaa];cases ulo with
    | none =>
     cases lo with
     | some _=>exact vl.elim
     | none =>
          have:0=l:=by simpa [bnd] using hl
          subst this;simp only[jag,jad,jaa]
    | some u =>
     cases lo with
     | none=>exact vl.elim
     | some x=>simp only[jag,qgo (P:=P) hl vl h1,jaa,jad]
 simp only[Instr.sliceAt,jag,jan hT.und,jaa,Instr.slice,hb,Sx.run_sizeOf hE,jad];split<;>rfl
theorem znk{w:World}{ty e:TypeId}{size bytes s b2:Nat}{zero z2:Value}{D:TypeDesc}{a:Addr}{len cap l h m:Nat}{lo:Option IV}{ulo:Option Value}{x2 x3:IV}{u2 u3:Value}(hT:Ty P ty (.slice e) size bytes zero)(hE:Ty P e D s b2 z2)
  (hl:bnd lo 0=some l) (hh:bnd (some x2) len=some h) (hm:bnd (some x3) 0=some m) (vl:VO E lo ulo) (vh:VR E x2 u2) (vm:VR E x3 u3) (h1:l<=h) (h2:h<=m) (h3:m<=cap) :
  (Instr.sliceAt ty (.slice (some a) len cap) ulo (some u2) (some u3)).run P w=.ok (.slice (some (if m=l then a else a.add (l*s))) (h-l) (m-l)) w:=by
 have hb:(Instr.sliceBounds true len cap ulo (some u2) (some u3)).run P w=.ok (l,h,m) w:=by
  simp only[Instr.sliceBounds,jag,qgo (P:=P) hm vm h3,qgo (P:=P) hh vh h2,jaa];cases ulo with
  | none =>
   cases lo with
   | some _=>exact vl.elim
   | none =>
        have:0=l:=by simpa [bnd] using hl
        subst this;simp only[jag,jad,jaa]
  | some u =>
   cases lo with
   | none=>exact vl.elim
   | some x=>simp only[jag,qgo (P:=P) hl vl h1,jaa,jad]
 simp only[Instr.sliceAt,jag,jan hT.und,jaa,Instr.slice,hb,Sx.run_sizeOf hE,jad];split<;>rfl
theorem qkr{w:World}{x:IV}{u:Value}{d n:Int}{y:Nat}{code:BoundsCode}(h:bndI (some x) d=some n)(hx:VR E x u)(h0:0<=n)(hn:n<=y):(Instr.sliceBound u y code).run P w=.ok n.toNat w:=by
 unfold bndI at h;split at h<;>try cases h
 ·rename_i he;cases he
 ·rename_i he;cases he;cases hx;simp only[Instr.sliceBound,asIntOf,jag,jad,jaa,h0,hn,jet,jb4]
theorem qiq{w:World}{ty e:TypeId}{size bytes s b2:Nat}{zero z2:Value}{D:TypeDesc}{a:Option Addr}{len cap:Nat}{l h m:Int}{lo hi mx:Option IV}{ulo uhi umx:Option Value}(hT:Ty P ty (.slice e) size bytes zero)(hE:Ty P e D s b2 z2)
  (hl:bndI lo 0=some l) (hh:bndI hi len=some h) (hm:(mx=none/\m=cap)\/(∃x,mx=some x/\hi.isSome=true/\bndI (some x) 0=some m)) (vl:VO E lo ulo) (vh:VO E hi uhi) (vm:VO E mx umx) (h0:0<=l) (h1:l<=h) (h2:h<=m) (h3:m<=cap) :
  (Instr.sliceAt ty (.slice a len cap) ulo uhi umx).run P w=.ok (.slice (if m=l then a else a.map (·.add (l.toNat*s))) (h.toNat-l.toNat) (m.toNat-l.toNat)) w:=by
 have hb:(Instr.sliceBounds true len cap ulo uhi umx).run P w=.ok (l.toNat,h.toNat,m.toNat) w:=by
  have eL:∀u,ulo=some u->∀code,(Instr.sliceBound u h.toNat code).run P w=.ok l.toNat w:=fun u hu code=>by
   subst hu;cases lo with
   | none=>exact vl.elim
   | some x=>exact qkr hl vl h0 (by omega)
  have eL0:ulo=none->l=0:=fun hu=>by
   subst hu;cases lo with
   | some _=>exact vl.elim
   | none=>simpa [bndI] using hl.symm
  have eH:∀u,uhi=some u->∀code,(Instr.sliceBound u m.toNat code).run P w=.ok h.toNat w:=fun u hu code=>by
   subst hu;cases hi with
   | none=>exact vh.elim
   | some x=>exact qkr hh vh (by omega) (by omega)
  have eH0:uhi=none->h=len:=fun hu=>by
   subst hu;cases hi with
   | some _=>exact vh.elim
   | none=>simpa [bndI] using hh.symm
  have eM:∀u,umx=some u->uhi.isSome=true/\∀code,(Instr.sliceBound u cap code).run P w=.ok m.toNat w:=fun u hu=>by
   subst hu;rcases hm with ⟨rfl,rfl⟩|⟨x,rfl,hx,hx2⟩
   ·exact vm.elim
   ·refine⟨?_,fun code=>qkr hx2 vm (by omega) h3⟩;cases hi with
    | none=>cases hx
    | some _=>cases uhi with
     | none=>exact vh.elim
     | some _=>rfl
  have eM0:umx=none->m=cap:=fun hu=>by
   subst hu;rcases hm with ⟨rfl,rfl⟩|⟨x,rfl,hx,hx2⟩
   ·rfl
   ·exact vm.elim
  cases umx with
  | none =>
   have:=eM0 rfl;subst this;cases uhi with
   | none =>
    have:=eH0 rfl;subst this;cases ulo with
    | none=>have:=eL0 rfl;subst this;simp only[Instr.sliceBounds,jag,jad,jaa];rfl
    | some u=>have:=eL u rfl;simp only[jcn] at this;simp only[Instr.sliceBounds,jag,jad,jaa,this,jcn]
   | some u2 =>
    have e2:=eH u2 rfl;simp only[jcn] at e2;cases ulo with
    | none=>have:=eL0 rfl;subst this;simp only[Instr.sliceBounds,jag,jad,jaa,e2,jcn];rfl
    | some u=>have:=eL u rfl;simp only[Instr.sliceBounds,jag,jad,jaa,e2,this,jcn]
  | some u3 =>
   obtain⟨f1,f2⟩:=eM u3 rfl;cases uhi with
   | none=>cases f1
   | some u2 =>
    have e2:=eH u2 rfl;cases ulo with
    | none=>have:=eL0 rfl;subst this;simp only[Instr.sliceBounds,jag,jad,jaa,e2,f2];rfl
    | some u=>have:=eL u rfl;simp only[Instr.sliceBounds,jag,jad,jaa,e2,f2,this]
 simp only[Instr.sliceAt,jag,jan hT.und,jaa,Instr.slice,hb,Sx.run_sizeOf hE,jad];by_cases hml:m=l
 ·subst hml;simp
 ·rw[jak hml,jak (by omega)]
theorem q46{c:TC}{l:List (El c)}{a:Option Addr}{n cap:Nat}(h:l=[])(hn:n=0)(hc:cap<9223372036854775808):VR E (.lst c l) (.slice a n cap):=by subst h;subst hn;exact .lst0 hc
theorem VR.lsub{c:TC}{l:List (El c)}{u:Value}{a b m:Int}{ad:Option Addr}{len cap:Nat}(h:VR E (.lst c l) (.slice ad len cap))(h0:0<=a)(h1:a<=b)(h2:b<=m)(h3:m<=cap)(h4:b<=len) :
  VR E (.lst c (lsub l a b)) (.slice (if m=a then ad else ad.map (·.add (a.toNat*csz c))) (b.toNat-a.toNat) (m.toNat-a.toNat)):=by
 cases h with
 | lst0 hc =>
  exact q46 (by simp[Jx.lsub]) (by omega) (by omega)
 | lst us k1 k2 k3 hb hh hc hu =>
  have hlen:(Jx.lsub l a b).length=b.toNat-a.toNat:=by simp[Jx.lsub];omega
  by_cases he:b.toNat-a.toNat=0
  ·exact q46 (jbo.1 (hlen.trans he)) he (by omega)
  ·rw[jak (by omega),<- hlen];rename_i bb off cells t fz;have e1:(Option.map (fun x=>x.add (a.toNat*csz c)) (some (⟨bb,off,none⟩:Addr)))=some ⟨bb,off+a.toNat*csz c,none⟩:=by
    show some (Addr.add _ _)=_;rw[qbe _ rfl]
   rw[e1];have hget:∀i (hi:i<(Jx.lsub l a b).length),(Jx.lsub l a b)[i]=l[a.toNat+i]'(by omega):=fun i hi=>by simp[Jx.lsub]
   refine .lst (fun i j=>us (a.toNat+i) j) (by omega) (by omega) (ja5 (jaw _ (by omega)) k3) hb hh (fun i hi j hj=>?_) (fun i hi j hj=>?_)
   ·have:=hc (a.toNat+i) (by omega) j hj;rw[<- this];congr 1;rw[jbb];omega
   ·have:=hu (a.toNat+i) (by omega) j (by rw[<- hget i hi];exact hj);simpa [hget i hi] using this
theorem q27{ty:Nat}{lo hi mx:Option IV}{ulo uhi umx:Option Value}{x:IV}{ux:Value}{r:Res}(htt:TT P tt)(p:Pre T E S)(h:qd3 tt S ty lo hi mx x=some r)(hx:VR E x ux)(vl:VO E lo ulo)(vh:VO E hi uhi)(vm:VO E mx umx) :
  Good P T E S (Instr.sliceAt ty ux ulo uhi umx) r:=by
 unfold qd3 at h;split at h<;>try cases h
 rotate_left
 ·rename_i c l;split at h
  ·cases h
  rename_i ti hti;have hty:=htt _ _ hti;split at h<;>try cases h
  rename_i e he;rw[he] at hty;split at h
  ·cases h
  rename_i te hte;have hE:=htt _ _ hte;split at h<;>try cases h
  rename_i a b ha hb;have hlen:∃ad cap,ux=.slice ad l.length cap/\l.length<=cap:=by cases hx<;>exact⟨_,_,rfl,by first|assumption|simp⟩
  obtain⟨ad,cap,rfl,hcap⟩:=hlen;split at h
  ·cases hz:Nat.beq te.sz (csz c) with
   | false=>rw[hz] at h;cases h
   | true =>
   rw[hz,jab] at h;have hz:=jah hz;cases hk:lchk a b l.length l.length with
   | false=>rw[hk] at h;cases h
   | true =>
   rw[hk,jab] at h;cases h;obtain⟨c1,c2,c3,c4⟩:=qio.1 hk;have hr:=qiq (P:=P) (E:=E) (w:=E.w) (a:=ad) (len:=l.length) (cap:=cap) (m:=cap) (mx:=none) hty hE ha hb (.inl ⟨rfl,rfl⟩) vl vh vm c1 c2 (by omega) (by omega);rw[hz] at hr;exact Good.same p hr (VR.lsub (u:=.nilFunc) hx c1 c2 (by omega) (by omega) c3)
  ·rename_i mx';split at h<;>try cases h
   rename_i x2 m hm';cases hz:Nat.beq te.sz (csz c) with
   | false=>rw[hz] at h;cases h
   | true =>
   rw[hz,jab] at h;have hz:=jah hz;cases hk:lchk a b m l.length with
   | false=>rw[hk] at h;cases h
   | true =>
   rw[hk,jab] at h;cases h;obtain⟨c1,c2,c3,c4⟩:=qio.1 hk;have hr:=qiq (P:=P) (E:=E) (w:=E.w) (a:=ad) (len:=l.length) (cap:=cap) (m:=m) (mx:=some mx') hty hE ha hb (.inr ⟨mx',rfl,rfl,hm'⟩) vl vh vm c1 c2 (by omega) (by omega);rw[hz] at hr;exact Good.same p hr (VR.lsub (u:=.nilFunc) hx c1 c2 (by omega) (by omega) (by omega))
 rename_i id off len s c;cases hx with
 | sl cap hA h1 h2 h3 h4 h5 =>
 split at h
 ·cases h
 rename_i ti hti;have hty:=htt _ _ hti;split at h<;>try cases h
 rename_i e he;rw[he] at hty;split at h
 ·cases h
 rename_i te hte;have hE:=htt _ _ hte;split at h<;>try cases h
 rename_i l hh hl' hh';split at h
 ·cases umx with
  | some _=>exact vm.elim
  | none =>
  cases hb:(Nat.beq te.sz s&&Nat.ble l hh&&Nat.ble hh len) with
  | false=>rw[hb] at h;cases h
  | true =>
  rw[hb,jab] at h;simp only[jaf] at hb;have hs:=jah hb.1.1;have b1:=jao hb.1.2;have b2:=jao hb.2;have hrun:=zhl (P:=P) (E:=E) (w:=E.w) (a:=⟨E.ρ id,off,none⟩) (d1:=0) (d2:=0) hty hE hl' hh' vl vh b1 b2 h1;rw[hs] at hrun;have hcl:l<=cap:=by omega
  have hmul:cap*s=l*s+(cap-l)*s:=by rw[<- jbb];congr 1;omega
  split at h
  ·rename_i c0;cases h;have hc:=h4 _ rfl;subst hc;refine Good.same p hrun ?_;by_cases hcl2:cap=l
   ·rw[jam hcl2,qcp hcl2,jab];exact .sl _ hA (by omega) (by omega) (by subst hcl2;simp;omega) (fun x hx=>by cases hx;rfl) (fun hx=>by cases hx)
   ·rw[jak hcl2,qa5 hcl2,jae,qbe _ rfl];exact .sl _ hA (by omega) (by omega) (by omega) (fun x hx=>by cases hx;rfl) (fun hx=>by cases hx)
  ·cases hb2:(Nat.blt l len||Nat.beq l 0) with
   | false=>rw[hb2] at h;cases h
   | true =>
    rw[hb2,jab] at h;cases h;refine Good.same p hrun ?_;have h5':=h5 rfl;simp only[jdf] at hb2;have hadd:(if cap=l then (⟨E.ρ id,off,none⟩:Addr) else (⟨E.ρ id,off,none⟩:Addr).add (l*s))=⟨E.ρ id,off+l*s,none⟩:=by
     rcases hb2 with hb2|hb2
     ·have:l<len:=by simpa using hb2
      rw[jak (by omega),qbe _ rfl]
     ·have:l=0:=jah hb2;subst this;split<;>simp [qbe]
    rw[hadd];exact .sl _ hA (by omega) (by omega) (by omega) (fun x hx=>by cases hx) (fun _=>by omega)
 ·rename_i mx';split at h<;>try cases h
  rename_i x2 m hm';cases umx with
  | none=>exact vm.elim
  | some u3 =>
  cases uhi with
  | none=>exact vh.elim
  | some u2 =>
  cases hb:(Nat.beq te.sz s&&Nat.ble l hh&&Nat.ble hh m&&Nat.ble m len) with
  | false=>rw[hb] at h;cases h
  | true =>
  rw[hb,jab] at h;cases h;simp only[jaf] at hb;have hs:=jah hb.1.1.1;have b1:=jao hb.1.1.2;have b2:=jao hb.1.2;have b3:=jao hb.2;have hrun:=znk (P:=P) (E:=E) (w:=E.w) (a:=⟨E.ρ id,off,none⟩) (len:=len) hty hE hl' hh' hm' vl vh vm b1 b2 (show m<=cap by omega);rw[hs] at hrun;refine Good.same p hrun ?_;have hmul:m*s=l*s+(m-l)*s:=by rw[<- jbb];congr 1;omega
  have hmul2:m*s<=cap*s:=jaw _ (by omega);by_cases hml:m=l
  ·rw[jam hml,qcp hml,jab];exact .sl _ hA (by omega) (by omega) (by subst hml;simp;omega) (fun x hx=>by cases hx;rfl) (fun hx=>by cases hx)
  ·rw[jak hml,qa5 hml,jae,qbe _ rfl];exact .sl _ hA (by omega) (by omega) (by omega) (fun x hx=>by cases hx;rfl) (fun hx=>by cases hx)
end
end Go.Jx
end

section
namespace Go.Sx
open Go Go.RowKit
open Go.Sx.Dat (enc)
theorem qkx:∀(vs:List Value) (o:Nat) (cs:List Value) (j:Nat),o+vs.length<=j->(putL cs o vs)[j]?=cs[j]?
 | [],_,_,_,_=>rfl
 | v::vs,o,cs,j,h=>by
  simp only[jbk] at h;unfold putL;rw[qkx vs (o+1) _ j (by omega),jc1 (by omega)]
section
variable {P : Program} {n : Nat} {σ : Nat -> Value} {w : World} {Q : Exit -> Act -> World -> Prop} {ops : Array Oper} {rest : List Oper}
variable {d : Nat} {ty T E : TypeId} {D : TypeDesc} {size bytes : Nat} {zero : Value} {pos : String} {aft : Array Edge} {g : Option (Nat × Bool)} {x y z : Operand}
variable {α : Type} [Dat α] {m M : List Nat} {a : Option Addr} {cap : Nat} {l : List α}
theorem Go.Sx.Own.place(ho:Go.Sx.Own m M w a cap l){j:Nat}(hj:j<l.length):∃β,a=some ⟨β,0,none⟩:=by
 rcases ho with ⟨_,_,rfl⟩|⟨g,cells,rfl,_⟩
 ·simp at hj
 ·exact⟨g,rfl⟩
theorem qpj{β j off:Nat}{u u':α}{v:Value}{vs:List Value}(hT:Ty P T D size bytes zero)(hg:qa2 ops σ n g=true)(hx:(okO n x&&okO n y)=true)(ex:ev σ x=.pointer (some ⟨β,j*Dat.sz α+off,none⟩))(ey:ev σ y=v)
  (ho:Go.Sx.Own m M w a cap l) (ha:a=some ⟨β,0,none⟩) (hj:l[j]?=some u) (hv:v.cells.toList=vs) (hl:(Nat.beq vs.length size&&Nat.ble (off+size) (Dat.sz α)&&vs.all one)=true)
  (hnew:∀cs w',enc (m++M) w' cs u->enc (m++M) w' (putL cs off vs) u')
  (k:∀w',Upd [β] w w'->w'.heap.size=w.heap.size->Go.Sx.Own m M w' a cap (l.set j u')->wpList P ops Q rest (Fr n σ) w'):wpList P ops Q (⟨none,.store T x y,ty,pos,aft,g⟩::rest) (Fr n σ) w:=by
 simp only[jaf] at hx hl;have hvl:vs.length=size:=jah hl.1.1;have hle:off+size<=Dat.sz α:=jao hl.1.2;obtain⟨hjl,hju⟩:=jal.1 hj;rcases ho with ⟨_,_,rfl⟩|⟨g0,cells,h0,h1,h2,h3,h4,h5,h6⟩
 ·simp at hjl
 ·rw[ha] at h0;obtain rfl:β=g0:=by simpa using h0
  have hmul:(j+1)*Dat.sz α<=cap*Dat.sz α:=jaw _ (by omega);have hs1:(j+1)*Dat.sz α=j*Dat.sz α+Dat.sz α:=Nat.succ_mul _ _;subst hv;obtain⟨w',e1,e2,e3,e4⟩:=qvo (P:=P) hT h3 (v:=v) (o:=j*Dat.sz α+off) (by simpa using hvl) (by omega) hl.2;refine qxf hg (by simp only[execOp,qbk hx.1,qbk hx.2,ex,ey,e1,jag,jad,jaa]) (k w' e3 e4 ?_);have htr:Tr (m++M) w (m++M) w':=(e3.evo (fun b hb=>by simp at hb;subst hb;exact h1)).tr M;refine .inr ⟨β,_,ha,h1,h2,e2,by rw[qcs,h4],⟨by simpa using h5.1,h5.2⟩,fun i hi=>?_⟩;simp only[jb9] at hi;obtain⟨cs,c1,c2⟩:=h6 i hi;have c1':=Dat.mono c1 htr;by_cases hij:i=j
  ·subst hij;rw[List.getElem_set_self];rw[hju] at c1';refine⟨_,hnew _ _ c1',fun q hq=>?_⟩;have hcl:=Dat.len c1';rcases jbm q off with hq1|hq1
   ·rw[qei _ _ _ _ (by omega),qei _ _ _ _ hq1];exact c2 q hq
   ·rcases jbm q (off+size) with hq2|hq2
    ·obtain⟨r,rfl⟩:∃r,q=off+r:=⟨q-off,by omega⟩;rw[<- jcq,qfh _ _ _ _ (by omega) (by omega),qfh _ _ _ _ (by omega) (by omega)]
    ·rw[qkx _ _ _ _ (by omega),qkx _ _ _ _ (by omega)];exact c2 q hq
  ·rw[List.getElem_set_ne (by omega)];refine⟨cs,c1',fun q hq=>?_⟩;rw[<- c2 q hq];rcases Nat.lt_or_gt_of_ne hij with hlt|hlt
   ·have h7:(i+1)*Dat.sz α<=j*Dat.sz α:=jaw _ hlt;have h8:(i+1)*Dat.sz α=i*Dat.sz α+Dat.sz α:=Nat.succ_mul _ _;rw[qei _ _ _ _ (by omega)]
   ·have h7:(j+1)*Dat.sz α<=i*Dat.sz α:=jaw _ hlt;rw[qkx _ _ _ _ (by omega)]
end
end Go.Sx
end

section
namespace Go.Jx
open Go Go.Sx Go.RowKit
universe u

theorem Post.kill{T:TW}{E:Env}{S:IS}{id:Nat}(p:Pre T E S):Post T E S E (S.set id .dead):=by
 obtain⟨a,b⟩:=p.st.kill (id:=id);refine⟨?_,?_,p.bnd,jap _⟩
 ·rw[IS.H_set];exact a
 ·rw[IS.H_set];exact b
theorem Post.move{T:TW}{E:Env}{S:IS}{id:Nat}{hd:Value}{o:IObj}{w':World}(p:Pre T E S)(hT:T.w id)(hA:E.A id)(hL:Live E S.H id)(u:Upd [E.ρ id] E.w w')
  (ho:OR (E.moved id S.next hd w') S.next o):Post T E S (E.moved id S.next hd w') ((S.set id .dead).new o)/\Fresh E S (E.moved id S.next hd w'):=by
 have hA':¬E.A S.next:=fun h=>jck _ (p.bnd _ h)
 obtain⟨_,a,b⟩:=p.st.move hT hA hL hA' u ho;have e:((S.set id .dead).new o).H=up (up S.H id (some .dead)) S.next (some o):=by rw[IS.H_new,IS.H_set];rfl
 refine⟨⟨?_,?_,fun j h=>?_,by simp[IS.new,IS.set]⟩,⟨fun j h hn=>?_⟩⟩
 ·rw[e];exact a
 ·rw[e];exact b
 ·show j<S.next+1
  rcases h with h|h
  ·have:=p.bnd j h;omega
  ·omega
 ·rcases h with h|h
  ·exact absurd h hn
  ·omega
section
variable {P : Program} {tt : Nat -> Option TI} {T : TW} {E : Env} {S : IS}

theorem qux{cs:List IV}{us rest:List Value}{t:TypeId}{w':World}(p:Pre T E S)(h:VRs E cs us)(hw:w'.heap=E.w.heap.push (.cells (us++rest).toArray t))(h1:w'.os=E.w.os)(h2:w'.tape=E.w.tape)(h3:w'.output=E.w.output) :
  ∃E',E'.w=w'/\E'.ρ S.next=E.w.heap.size/\E'.κ S.next=(us++rest).length/\E'.A S.next/\Post T E S E' (S.new (.row cs))/\Fresh E S E':=by
 have u:Upd [] E.w w':=⟨h1,h2,h3,by rw[hw];simp,fun b hb _=>by rw[hw,jd2,jak (by omega)]⟩;have hA:¬E.A S.next:=fun h=>jck _ (p.bnd _ h)
 obtain⟨a,b⟩:=Post.new p (k:=(us++rest).length) (hd:=.tuple #[]) (o:=.row cs) u (by rw[hw];simp) ⟨(us++rest).toArray,t,by simp only[Env.with_,qah,hw];simp,by simp[Env.with_,qah],by simp[h.1],by
  have:((us++rest).toArray.toList).take cs.length=us:=by rw[h.1];simp
  rw[this];exact h.mono (Env.with_le hA u)⟩
 exact⟨_,rfl,qah _ _ _,qah _ _ _,(Or.inr rfl:E.A S.next\/S.next=S.next),a,b⟩

def qvt:List UInt8->List IV
 | []=>[]
 | b::l=>.int .u8 b.toNat::qvt l
def qto(S:IS)(s:Nat):IV->Option (Nat × List IV × Nat)
 | .nilsl=>some (0,[],0)
 | .sl id off len s' c=>match S.heap.get id with
  | some (.row cs)=>cond (Nat.beq s' s&&Nat.ble (off+len*s) cs.length) (some (len,(cs.drop off).take (len*s),2 ^ id)) none
  | _=>none
 | .str b=>cond (Nat.beq s 1) (some (b.size,qvt b.data.toList,0)) none
 | _=>none
structure Src (P:Program) (E:Env) (s n:Nat) (cs:List IV) (u:Value) (fl:List Value):Prop where
 rel:VRs E cs fl
 size:fl.length=n*s
 len:∀w1:World,(Builtin.lenOf u).run P w1=.ok n w1
 first:∀w1:World,w1.heap=E.w.heap->(Builtin.firstCells s n u).run P w1=.ok fl.toArray w1
theorem qw4(E:Env):∀l:List UInt8,VRs E (qvt l) (l.map fun b=>.int .u8 b.toNat)
 | []=>VRs.nil
 | b::l=>VRs.cons (.int _ _ (IntWalk.u8_in _ ⟨by omega,by have:=b.toNat_lt;omega⟩)) (qw4 E l)
theorem qkc{w1:World}{b o n:Nat}{cells:Array Value}{t:TypeId}{fz:Nat × Nat}(hh:w1.heap[b]?=some (.cells cells t fz))(hl:o+n<=cells.size) :
  (loadCells ⟨b,o,none⟩ n).run P w1=.ok ((cells.toList.drop o).take n).toArray w1:=by
 have hlen:((cells.toList.drop o).take n).length=n:=by simp;omega
 have:=Sx.run_loadCellsFrom (P:=P) (w:=w1) (ad:=⟨b,o,none⟩) ((cells.toList.drop o).take n) 0 #[] (fun j hj=>by
  rw[hlen] at hj;rw[qbe _ rfl,jas,jam hj,jbt];simp [World.cell?,hh])
 rw[hlen] at this;simpa [loadCells] using this
theorem qjc{s n:Nat}{y:IV}{uy:Value}{cs:List IV}{rd:Nat}(p:Pre T E S)(h:qto S s y=some (n,cs,rd))(hr:tin T.r rd)(hy:VR E y uy):∃fl,Src P E s n cs uy fl:=by
 unfold qto at h;split at h<;>try cases h
 ·cases hy;exact⟨[],VRs.nil,by simp,fun w1=>rfl,fun w1 hw=>rfl⟩
 ·rename_i id off len s' c;cases hy with
  | sl cap hA h1 h2 h3 h4 h5 =>
  split at h<;>try cases h
  rename_i cs0 hcs;cases hb:(Nat.beq s' s&&Nat.ble (off+len*s) cs0.length) with
  | false=>rw[hb] at h;cases h
  | true =>
   rw[hb,jab] at h;cases h;simp only[jaf] at hb;have hle:=jao hb.2;obtain⟨cells,t,g1,g2,g3,g4⟩:=qdu p (qaf hr) hA hcs;refine⟨(cells.toList.drop off).take (n*s),?_,by simp;omega,fun w1=>rfl,fun w1 hw=>qkc (by rw[hw];exact g1) (by omega)⟩;have:=(g4.drop off).take (n*s);have e:List.take (n*s) (List.drop off (List.take cs0.length cells.toList))=List.take (n*s) (List.drop off cells.toList):=by
    apply jcx;intro i;rw[jas,jas];by_cases hi:i<n*s
    ·rw[jam hi,jam hi,jbt,jbt,jas,jam (by omega)]
    ·rw[jak hi,jak hi]
   rwa [e] at this
 ·rename_i b;cases hb:(Nat.beq s 1) with
  | false=>rw[hb] at h;cases h
  | true =>
   rw[hb,jab] at h;cases h;have hs:=jah hb;subst hs;cases hy;refine⟨b.data.toList.map fun b=>.int .u8 b.toNat,qw4 E _,by simp,fun w1=>rfl,fun w1 hw=>?_⟩;simp only[Builtin.firstCells,jad];congr 1;have:b.extract 0 b.size=b:=by simp
   rw[this];apply jdv
   ·simp
   ·intro i h1 h2;simp
theorem qw5{w:World}{T T2 E ty:TypeId}{D2 E':TypeDesc}{size bytes s b2:Nat}{zero z2:Value}{g o len n cap:Nat}{cells fl:List Value}{x:Value}(hT:Ty P T (.slice E) size bytes zero)(hT2:P.underlying T2=some D2)(hni:∀k,D2≠.int k)(hE:Ty P E E' s b2 z2)
  (hlen:∀w1:World,(Builtin.lenOf x).run P w1=.ok n w1) (hfirst:(Builtin.firstCells s n x).run P w=.ok fl.toArray w) (hfl:fl.length=n*s) (hone:fl.all Sx.one=true) (hbox:Box w g cells) (hfit:len+n<=cap) (hroom:o+(len+n)*s<=cells.length) :
  ∃w',(Builtin.append_ #[T,T2] ty #[.slice (some ⟨g,o,none⟩) len cap,x]).run P w=.ok (.slice (some ⟨g,o,none⟩) (len+n) cap) w'/\Box w' g (putL cells (o+len*s) fl)/\Upd [g] w w'/\w'.heap.size=w.heap.size:=by
 have hm:(len+n)*s=len*s+n*s:=jbb _ _ _;obtain⟨w',h1,h2,h3,h4⟩:=Sx.run_store (P:=P) fl (o+len*s) 0 hbox (by omega) hone;refine⟨w',?_,h2,h3,h4⟩;have hz:(match D2 with|TypeDesc.int k=>true|_=>false)=false:=by cases D2<;>first|rfl|exact absurd rfl (hni _)
 simp only[Builtin.append_,jav,jat,jbn,jag,jan hT.und,jan hT2,jaa,Sx.run_sizeOf hE,jad,ja3,jbl,hlen];simp only[hfit,jb4,jba,jag,jad,jaa,hfirst];rw[show (⟨g,o,none⟩:Addr).add (len*s)=⟨g,o+len*s,none⟩ from by rw[qbe _ rfl],h1];simp
theorem za9{w:World}{T T2 E ty:TypeId}{D2 E':TypeDesc}{size bytes s b2:Nat}{zero z2:Value}{g o len n cap:Nat}{cells fl:List Value}{x:Value}(hT:Ty P T (.slice E) size bytes zero)(hT2:P.underlying T2=some D2)(hni:∀k,D2≠.int k)(hE:Ty P E E' s b2 z2)
  (hlen:∀w1:World,(Builtin.lenOf x).run P w1=.ok n w1) (hfirst:(Builtin.firstCells s n x).run P w=.ok fl.toArray w) (hfl:fl.length=n*s) (hone:fl.all Sx.one=true) {t:TypeId} (hbox:w.heap[g]?=some (.cells cells.toArray t (0,0))) (hfit:len+n<=cap) (hroom:o+(len+n)*s<=cells.length) :
  ∃w',(Builtin.append_ #[T,T2] ty #[.slice (some ⟨g,o,none⟩) len cap,x]).run P w=.ok (.slice (some ⟨g,o,none⟩) (len+n) cap) w'/\w'.heap[g]?=some (.cells (putL cells (o+len*s) fl).toArray t (0,0))/\Upd [g] w w'/\w'.heap.size=w.heap.size:=by
 have hm:(len+n)*s=len*s+n*s:=jbb _ _ _;obtain⟨w',h1,h2,h3,h4⟩:=qtu (P:=P) fl (o+len*s) 0 hbox (by omega) hone;refine⟨w',?_,h2,h3,h4⟩;have hz:(match D2 with|TypeDesc.int k=>true|_=>false)=false:=by cases D2<;>first|rfl|exact absurd rfl (hni _)
 simp only[Builtin.append_,jav,jat,jbn,jag,jan hT.und,jan hT2,jaa,Sx.run_sizeOf hE,jad,ja3,jbl,hlen];simp only[hfit,jb4,jba,jag,jad,jaa,hfirst];rw[show (⟨g,o,none⟩:Addr).add (len*s)=⟨g,o+len*s,none⟩ from by rw[qbe _ rfl],h1];simp
theorem qst{w:World}{T T2 E ty:TypeId}{D2 E':TypeDesc}{size bytes s b2:Nat}{zero z2:Value}{a:Option Addr}{len n cap:Nat}{fo fl:List Value}{x:Value}(hT:Ty P T (.slice E) size bytes zero)(hT2:P.underlying T2=some D2)(hni:∀k,D2≠.int k)(hE:Ty P E E' s b2 z2)(hz:z2.cells.size=s)
  (hlen:∀w1:World,(Builtin.lenOf x).run P w1=.ok n w1) (hfirst:∀w1:World,w1.heap=w.heap->(Builtin.firstCells s n x).run P w1=.ok fl.toArray w1) (hfl:fl.length=n*s) (hold:∀w1:World,w1.heap=w.heap->(Builtin.firstCells s len (.slice a len cap)).run P w1=.ok fo.toArray w1) (hfo:fo.length=len*s)
  (hfit:¬len+n<=cap) (hroom:(len+n)*b2<=140737488355328) (hb2:0<b2) :
  ∃nc tl,len+n<=nc/\nc<9223372036854775808/\tl.length=(nc-(len+n))*s/\(Builtin.append_ #[T,T2] ty #[.slice a len cap,x]).run P w=.ok (.slice (some ⟨w.heap.size,0,none⟩) (len+n) nc) { w with drawn:=w.drawn+1,heap:=w.heap.push (.cells (fo++fl++tl).toArray E) }:=by
 obtain⟨i,hi,his,hib,hiz⟩:=hE.inf;have hnb:(len+n)*i.bytes<=140737488355328:=by rw[hib];exact hroom
 have h48:¬(Builtin.nextslicecap (len+n) cap*i.bytes > 2 ^ 48):=by
  have:=growslice_fits (need:=len+n) (old:=cap) (bytes:=i.bytes) (by omega) hnb;have e:(2:Nat) ^ 48=281474976710656:=by decide
  rw[e];omega
 have hti:∀w,(typeInfo E).run P w=.ok i w:=fun w=>by simp[typeInfo,go_sem,hi]
 have hov:¬(((len+n:Nat):Int) > IntKind.i64.max/\(False\/i.bytes=0)):=by
  rintro⟨_,h|h⟩
  ·exact h
  ·omega
 let nc:=(Question.appendCap (len+n) cap E).cut (w.tape w.drawn (Question.appendCap (len+n) cap E))
 have hnc:len+n<=nc:=jd0 _ _;have hneed:len+n<2 ^ 63:=by
  have:(len+n)*1<=(len+n)*i.bytes:=jcm _ (by omega);have e:(2:Nat) ^ 63=9223372036854775808:=by decide
  rw[e];omega
 have hnc2:nc<9223372036854775808:=by
  have h1:nc=len+n+(w.tape w.drawn (Question.appendCap (len+n) cap E)) % (2 ^ 63-(len+n)):=rfl;have h2:=je9 (w.tape w.drawn (Question.appendCap (len+n) cap E)) (show 2 ^ 63-(len+n) > 0 by omega);have e:(2:Nat) ^ 63=9223372036854775808:=by decide
  rw[e] at h1 h2 hneed;omega
 let tl:=(Builtin.zeroCells z2.cells (nc-(len+n))).toList
 have htl:tl.length=(nc-(len+n))*s:=by simp[tl,Builtin.zeroCells,hz]
 refine⟨nc,tl,hnc,hnc2,htl,?_⟩;have hch:(choose (Question.appendCap (len+n) cap E)).run P w=.ok nc { w with drawn:=w.drawn+1 }:=rfl;have ho1:=hold { w with drawn:=w.drawn+1 } rfl;have hn1:=hfirst { w with drawn:=w.drawn+1 } rfl;have hcat:fo.toArray++fl.toArray++Builtin.zeroCells z2.cells (nc-(len+n))=(fo++fl++tl).toArray:=by simp[tl]
 have hz:(match D2 with|TypeDesc.int k=>true|_=>false)=false:=by cases D2<;>first|rfl|exact absurd rfl (hni _)
 simp only[Builtin.append_,jav,jat,jbn,jag,jan hT.und,jan hT2,jaa,Sx.run_sizeOf hE,jad,ja3,jbl,hlen];simp only[hfit,jba,jbl,jb4,jag,jad,jaa,hti,hov,h48,hch,q0p,ho1,hn1,Sx.run_zeroValue hE,newRow,hcat];rfl
theorem zkc{w:World}{T T2 E ty:TypeId}{D2 E':TypeDesc}{size bytes s b2:Nat}{zero z2:Value}{x:Value}(hT:Ty P T (.slice E) size bytes zero)(hT2:P.underlying T2=some D2)(hni:∀k,D2≠.int k)(hE:Ty P E E' s b2 z2){fl:List Value}
  (hlen:∀w1:World,(Builtin.lenOf x).run P w1=.ok 0 w1) (hfirst:(Builtin.firstCells s 0 x).run P w=.ok fl.toArray w) :
  (Builtin.append_ #[T,T2] ty #[.slice none 0 0,x]).run P w=.ok (.slice none 0 0) w:=by
 have hz:(match D2 with|TypeDesc.int k=>true|_=>false)=false:=by cases D2<;>first|rfl|exact absurd rfl (hni _)
 simp only[Builtin.append_,jav,jat,jbn,jag,jan hT.und,jan hT2,jaa,Sx.run_sizeOf hE,jad,ja3,jbl,hlen];simp only[jby,jap,jb4,jba,jag,jad,jaa,hfirst]
def qpe:TypeDesc->Bool
 | .int _=>false
 | _=>true
def qhm(tt:Nat->Option TI)(S:IS)(ty ty2:Nat)(x y:IV):Option Res :=
 match tt ty,tt ty2 with
 | some ti,some t2=>match ti.und with
  | .slice e=>match tt e with
   | none=>none
   | some te=>match qto S te.sz y with
    | none=>none
    | some (n,xs,rd)=>cond (qpe t2.und&&Nat.blt 0 te.bytes&&Nat.beq te.zero.cells.size te.sz&&xs.all one1)
     (match x with
     | .nilsl=>cond (Nat.beq n 0) (some ⟨.nilsl,S,rd,0⟩) (cond (Nat.ble (n*te.bytes) 140737488355328) (some ⟨.sl S.next 0 n te.sz none,S.new (.row xs),rd,0⟩) none)
     | .sl id off len s c=>match S.heap.get id with
      | some (.row cs)=>cond (Nat.beq s te.sz&&Nat.ble (off+len*s) cs.length&&Nat.ble ((len+n)*te.bytes) 140737488355328)
       (match c with
       | some c0=>cond (Nat.ble (len+n) c0)
         (some ⟨.sl id off (len+n) s (some c0),S.set id (.row (cs.take (off+len*s)++xs++cs.drop (off+(len+n)*s))),rd,2 ^ id⟩)
         (some ⟨.sl S.next 0 (len+n) s none,S.new (.row ((cs.drop off).take (len*s)++xs)),rd ||| 2 ^ id,0⟩)
       | none=>cond (Nat.beq n 0) none (cond (Nat.beq off 0)
         (some ⟨.sl S.next 0 (len+n) s none,(S.set id .dead).new (.row (cs.take (len*s)++xs)),rd,2 ^ id⟩) none)) none
      | _=>none
     | _=>none) none
  | _=>none
 | _,_=>none
theorem zkk{ty ty2 tr:Nat}{x y:IV}{ux uy:Value}{r:Res}(htt:TT P tt)(p:Pre T E S)(h:qhm tt S ty ty2 x y=some r)(hrd:tin T.r r.rd)(hwr:tin T.w r.wr)(hx:VR E x ux)(hy:VR E y uy) :
   Good P T E S (Builtin.append_ #[ty,ty2] tr #[ux,uy]) r:=by
 unfold qhm at h;split at h<;>try cases h
 rename_i ti t2 hti ht2;have hty:=htt _ _ hti;have hT2:=(htt _ _ ht2).und;split at h<;>try cases h
 rename_i e he;rw[he] at hty;split at h
 · cases h
 rename_i te hte;have hE:=htt _ _ hte;split at h
 · cases h
 rename_i n xs rd hsrc;cases hb:(qpe t2.und&&Nat.blt 0 te.bytes&&Nat.beq te.zero.cells.size te.sz&&xs.all one1) with
 | false=>rw[hb] at h;cases h
 | true =>
 rw[hb,jab] at h;simp only[jaf] at hb;obtain⟨⟨⟨b1,b2⟩,b3⟩,b4⟩:=hb;have hni:∀k,t2.und≠.int k:=fun k hk=>by rw[hk] at b1;cases b1
 have hb2:0<te.bytes:=by simpa using b2
 have hz:=jah b3;split at h
 · -- onto nothing
   cases hx;cases hn:Nat.beq n 0 with
   | true =>
     rw[hn,jab] at h;cases h;have hn:=jah hn;subst hn;obtain⟨fl,hs⟩:=qjc (P:=P) p hsrc hrd hy;exact Good.same p (zkc hty hT2 hni hE hs.len (hs.first _ rfl)) .nilsl
   | false =>
     rw[hn,jae] at h;cases hr:Nat.ble (n*te.bytes) 140737488355328 with
     | false=>rw[hr] at h;cases h
     | true =>
     rw[hr,jab] at h;cases h;have hr:=jao hr;have hn0:n≠0:=fun e=>by subst e;cases hn
     obtain⟨fl,hs⟩:=qjc (P:=P) p hsrc hrd hy;obtain⟨nc,tl,k1,k2,k3,k4⟩:=qst (w:=E.w) (a:=none) (len:=0) (cap:=0) (fo:=[]) (ty:=tr) hty hT2 hni hE hz hs.len hs.first hs.size (fun w1 _=>rfl) (by simp) (by omega) (by simpa using hr) hb2
     simp only[ja9,List.nil_append] at k1 k3 k4;obtain⟨E',g1,g2,g3,g4,g5,g6⟩:=qux (w':={ E.w with drawn:=E.w.drawn+1,heap:=E.w.heap.push (.cells (fl++tl).toArray e) }) p hs.rel rfl rfl rfl rfl;refine⟨_,E',by rw[g1];exact k4,?_,g5,g6⟩;rw[<- g2];have hm:nc*te.sz=n*te.sz+(nc-n)*te.sz:=by rw[<- jbb];congr 1;omega
     have hk:E'.κ S.next=nc*te.sz:=by rw[g3,ja4,hs.size,k3,hm]
     exact .sl nc g4 k1 k2 (by rw[hk];omega) (fun x hx=>by cases hx) (fun _=>by rw[hk];omega)
 · rename_i id off len s c;cases hx with
   | sl cap hA h1 h2 h3 h4 h5 =>
   split at h<;>try cases h
   rename_i cs hcs;cases hb:(Nat.beq s te.sz&&Nat.ble (off+len*s) cs.length&&Nat.ble ((len+n)*te.bytes) 140737488355328) with
   | false=>rw[hb] at h;cases h
   | true =>
   rw[hb,jab] at h;simp only[jaf] at hb;obtain⟨⟨d1,d2⟩,d3⟩:=hb;have d1:=jah d1;have d2:=jao d2;have d3:=jao d3;subst d1;have hL:T.r id->Live E S.H id:=fun ht=>⟨p.st.blk id ht hA _ hcs rfl,_,hcs,rfl⟩;have hmul:(len+n)*te.sz=len*te.sz+n*te.sz:=jbb _ _ _;have hcapm:len*te.sz<=cap*te.sz:=jaw _ h1
   -- what the two growing cases share
   have hgrow:∀(hT0:T.r id) {fl:List Value},Src P E te.sz n xs uy fl->¬len+n<=cap ->
       ∃nc tl fo,VRs E ((cs.drop off).take (len*te.sz)) fo/\fo.length=len*te.sz/\len+n<=nc/\nc<9223372036854775808/\tl.length=(nc-(len+n))*te.sz/\(Builtin.append_ #[ty,ty2] tr #[.slice (some ⟨E.ρ id,off,none⟩) len cap,uy]).run P E.w=.ok (.slice (some ⟨E.w.heap.size,0,none⟩) (len+n) nc) { E.w with drawn:=E.w.drawn+1,heap:=E.w.heap.push (.cells (fo++fl++tl).toArray e) }:=by
     intro hT0 fl hs hnf;obtain⟨cells,t,g1,g2,g3,g4⟩:=qdu p hT0 hA hcs;have e1:List.take (len*te.sz) (List.drop off (List.take cs.length cells.toList))=List.take (len*te.sz) (List.drop off cells.toList):=by
       apply jcx;intro i;rw[jas,jas];by_cases hi:i<len*te.sz
       · rw[jam hi,jam hi,jbt,jbt,jas,jam (by omega)]
       · rw[jak hi,jak hi]
     have e2:=(g4.drop off).take (len*te.sz);rw[e1] at e2;have e3:((cells.toList.drop off).take (len*te.sz)).length=len*te.sz:=by simp;omega
     obtain⟨nc,tl,k1,k2,k3,k4⟩:=qst (w:=E.w) (a:=some ⟨E.ρ id,off,none⟩) (len:=len) (cap:=cap) (fo:=(cells.toList.drop off).take (len*te.sz)) (ty:=tr) hty hT2 hni hE hz hs.len hs.first hs.size (fun w1 hw=>qkc (by rw[hw];exact g1) (by omega)) e3 hnf d3 hb2
     exact⟨nc,tl,_,e2,e3,k1,k2,k3,k4⟩
   split at h
   · rename_i c0;have hc:=h4 _ rfl;subst hc;cases hf:Nat.ble (len+n) cap with
     | true =>
       rw[hf,jab] at h;cases h;have hf:=jao hf;obtain⟨fl,hs⟩:=qjc (P:=P) p hsrc hrd hy;obtain⟨cells,t,g1,g2,g3,g4⟩:=qdu p (T.sub _ (qaf hwr)) hA hcs;have hcm:(len+n)*te.sz<=cap*te.sz:=jaw _ hf;obtain⟨w',k1,k2,k3,k4⟩:=qw5 (w:=E.w) (g:=E.ρ id) (o:=off) (len:=len) (cap:=cap) (cells:=cells.toList) (ty:=tr) hty hT2 hni hE hs.len (hs.first _ rfl) hs.size (hs.rel.ones b4) ⟨t,by simpa using g1⟩ hf (by simp;omega);obtain⟨t',k2⟩:=k2;have hle:=Env.at_le p.st (qaf hwr) hA (hL (T.sub _ (qaf hwr))) k3;have hxl:xs.length=n*te.sz:=by rw[hs.rel.1,hs.size]
       obtain⟨q1,q2⟩:=Post.write p (o':=.row (cs.take (off+len*te.sz)++xs++cs.drop (off+(len+n)*te.sz))) (qaf hwr) hA (hL (T.sub _ (qaf hwr))) k3 ⟨_,t',k2,by simp[qcs,g2,Env.at_],by simp[qcs,hxl];omega,by
         have e1:(cs.take (off+len*te.sz)++xs++cs.drop (off+(len+n)*te.sz)).length=max cs.length (off+(len+n)*te.sz):=by simp[hxl];omega
         rw[e1];have e2:((putL cells.toList (off+len*te.sz) fl).toArray.toList).take (max cs.length (off+(len+n)*te.sz))=(cells.toList.take (off+len*te.sz))++fl++((cells.toList.take cs.length).drop (off+(len+n)*te.sz)):=by
           apply jcx;intro i;rw[jas];have hcl:cells.toList.length=cells.size:=by simp
           by_cases hi:i<max cs.length (off+(len+n)*te.sz)
           · rw[jam hi];show (putL cells.toList (off+len*te.sz) fl)[i]?=_;by_cases i1:i<off+len*te.sz
             · rw[qei _ _ _ _ i1,jc3,ja2 (by simp;omega),jas,jam i1]
             · by_cases i2:i<off+(len+n)*te.sz
               · obtain⟨j,rfl⟩:∃j,i=off+len*te.sz+j:=⟨i-(off+len*te.sz),by omega⟩;have e3:(cells.toList.take (off+len*te.sz)).length=off+len*te.sz:=by simp;omega
                 rw[qfh _ _ _ _ (by rw[hs.size];omega) (by rw[hs.size];omega),jc3,jbf (by rw[e3];omega),e3,ja2 (by rw[hs.size];omega)];congr 1;omega
               · have e3:(cells.toList.take (off+len*te.sz)++fl).length=off+(len+n)*te.sz:=by simp[hs.size];omega
                 rw[qkx _ _ _ _ (by rw[hs.size];omega),jbf (by rw[e3];omega),e3,jbt,jas,jam (by omega)];congr 1;omega
           · rw[jak hi];symm;apply jbp;simp[hs.size];omega
         rw[e2];have r1:=g4.take (off+len*te.sz);rw[List.take_take,Nat.min_eq_left d2] at r1;exact VRs.mono hle ((r1.append hs.rel).append (g4.drop _))⟩
       exact⟨_,E.at_ w',k1,.sl cap hA hf h2 h3 (fun x hx=>by cases hx;rfl) (fun hx=>by cases hx),q1,q2⟩
     | false =>
       rw[hf,jae] at h;cases h;obtain⟨t1,t2⟩:=qat hrd;obtain⟨fl,hs⟩:=qjc (P:=P) p hsrc t1 hy;have hnf:¬len+n<=cap:=fun hle=>by rw[jc0 hle] at hf;cases hf
       obtain⟨nc,tl,fo,f1,f2,k1,k2,k3,k4⟩:=hgrow (qaf t2) hs hnf;obtain⟨E',g1,g2,g3,g4,g5,g6⟩:=qux (w':={ E.w with drawn:=E.w.drawn+1,heap:=E.w.heap.push (.cells (fo++fl++tl).toArray e) }) p (f1.append hs.rel) rfl rfl rfl rfl;refine⟨_,E',by rw[g1];exact k4,?_,g5,g6⟩;rw[<- g2];have hm:nc*te.sz=(len+n)*te.sz+(nc-(len+n))*te.sz:=by rw[<- jbb];congr 1;omega
       have hk:E'.κ S.next=nc*te.sz:=by rw[g3,ja4,ja4,hs.size,f2,k3,hm];omega
       exact .sl nc g4 k1 k2 (by rw[hk];omega) (fun x hx=>by cases hx) (fun _=>by rw[hk];omega)
   · cases hn:Nat.beq n 0 with
     | true=>rw[hn] at h;cases h
     | false =>
     rw[hn,jae] at h;cases ho:Nat.beq off 0 with
     | false=>rw[ho] at h;cases h
     | true =>
     rw[ho,jab] at h;cases h;have ho:=jah ho;subst ho;obtain⟨fl,hs⟩:=qjc (P:=P) p hsrc hrd hy;have hT0:=qaf hwr;by_cases hfit:len+n<=cap
     · obtain⟨cells,t,g1,g2,g3,g4⟩:=qdu p (T.sub _ hT0) hA hcs;have hcm:(len+n)*te.sz<=cap*te.sz:=jaw _ hfit;obtain⟨w',k1,k2,k3,k4⟩:=qw5 (w:=E.w) (g:=E.ρ id) (o:=0) (len:=len) (cap:=cap) (cells:=cells.toList) (ty:=tr) hty hT2 hni hE hs.len (hs.first _ rfl) hs.size (hs.rel.ones b4) ⟨t,by simpa using g1⟩ hfit (by simp;omega);obtain⟨t',k2⟩:=k2;have hA':¬E.A S.next:=fun h=>jck _ (p.bnd _ h)
       have hle0:=Env.at_le p.st hT0 hA (hL (T.sub _ hT0)) k3;have hle:E.Le (E.moved id S.next (.tuple #[]) w'):=⟨fun j h=>⟨.inl h,up_ne _ _ fun e=>hA' (e▸h),up_ne _ _ fun e=>hA' (e▸h),up_ne _ _ fun e=>hA' (e▸h),up_ne _ _ fun e=>hA' (e▸h)⟩,hle0.tr⟩;have hxl:xs.length=n*te.sz:=by rw[hs.rel.1,hs.size]
       obtain⟨q1,q2⟩:=Post.move p (o:=.row (cs.take (len*te.sz)++xs)) hT0 hA (hL (T.sub _ hT0)) k3 ⟨_,t',by simp only[Env.moved,qah];exact k2,by simp[qcs,g2,Env.moved,qah],by simp[qcs,hxl];omega,by
         have e1:(cs.take (len*te.sz)++xs).length=(len+n)*te.sz:=by simp[hxl];omega
         rw[e1];have e2:((putL cells.toList (0+len*te.sz) fl).toArray.toList).take ((len+n)*te.sz)=(cells.toList.take (len*te.sz))++fl:=by
           apply jcx;intro i;rw[jas];have hcl:cells.toList.length=cells.size:=by simp
           have e3:(cells.toList.take (len*te.sz)).length=len*te.sz:=by simp;omega
           by_cases hi:i<(len+n)*te.sz
           · rw[jam hi];show (putL cells.toList (0+len*te.sz) fl)[i]?=_;rw[ja9];by_cases i1:i<len*te.sz
             · rw[qei _ _ _ _ i1,ja2 (by rw[e3];omega),jas,jam i1]
             · obtain⟨j,rfl⟩:∃j,i=len*te.sz+j:=⟨i-(len*te.sz),by omega⟩;rw[qfh _ _ _ _ (by rw[hs.size];omega) (by rw[hs.size];omega),jbf (by rw[e3];omega),e3];congr 1;omega
           · rw[jak hi];symm;apply jbp;simp[hs.size];omega
         rw[e2];have r1:=g4.take (len*te.sz);rw[List.take_take,Nat.min_eq_left (by omega)] at r1;exact VRs.mono hle (r1.append hs.rel)⟩
       refine⟨_,E.moved id S.next (.tuple #[]) w',k1,?_,q1,q2⟩;have e1:(⟨E.ρ id,0,none⟩:Addr)=⟨(E.moved id S.next (.tuple #[]) w').ρ S.next,0,none⟩:=by simp[Env.moved,qah]
       rw[e1];have hk:(E.moved id S.next (.tuple #[]) w').κ S.next=E.κ id:=qah _ _ _
       exact .sl cap (Or.inr rfl:E.A S.next\/S.next=S.next) hfit h2 (by rw[hk];exact h3) (fun x hx=>by cases hx) (fun _=>by rw[hk];exact h5 rfl)
     · obtain⟨nc,tl,fo,f1,f2,k1,k2,k3,k4⟩:=hgrow (T.sub _ hT0) hs hfit;have pk:=Post.kill (id:=id) p;have pp:=pk.pre p;obtain⟨E',g1,g2,g3,g4,g5,g6⟩:=qux (S:=S.set id .dead) (w':={ E.w with drawn:=E.w.drawn+1,heap:=E.w.heap.push (.cells (fo++fl++tl).toArray e) }) pp (f1.append hs.rel) rfl rfl rfl rfl;refine⟨_,E',by rw[g1];exact k4,?_,Post.trans p pk (Fresh.refl E S) (by simpa using g5),⟨g6.fr⟩⟩;rw[<- g2];have hm:nc*te.sz=(len+n)*te.sz+(nc-(len+n))*te.sz:=by rw[<- jbb];congr 1;omega
       have hk:E'.κ S.next=nc*te.sz:=by
         have:E'.κ S.next=E'.κ (S.set id .dead).next:=rfl
         rw[this,g3,ja4,ja4,hs.size,f2,k3,hm];omega
       exact .sl nc g4 k1 k2 (by rw[hk];omega) (fun x hx=>by cases hx) (fun _=>by rw[hk];omega)
 · cases h
end
end Go.Jx
end

section
namespace Go.Jx
open Go Go.Sx Go.RowKit
universe u

def qad(b:ByteArray):List Int:=b.data.toList.map fun x=>(x.toNat:Int)
theorem qtq:∀(c:TC) (x:El c),(cel c x).all one1=true
 | .int _,_=>rfl
 | .bool,_=>rfl
 | .str,_=>rfl
 | .list _,_=>rfl
 | .two a b,x=>by simp only[cel,List.all_append,qtq a,qtq b,jc9]
def tsrc(S:IS)(c:TC):IV->Option (List (El c) × IS × Nat × Nat)
 | .nilsl=>some ([],S,0,0)
 | .lst c' l=>match qbt c' c l with
  | some l'=>some (l',S,0,0)
  | none=>none
 | .arr id=>match S.heap.get id with
  | some (.arr c' l)=>match qbt c' c l with
   | some l'=>some (l',S,2 ^ id,0)
   | none=>none
  | some (.frz c' l)=>match qbt c' c l with
   | some l'=>some (l',S,2 ^ id,0)
   | none=>none
  | _=>none
 | .sl id off len s _=>match S.heap.get id with
  | some (.row cs)=>cond (Nat.beq s (csz c)&&Nat.ble (off+len*s) cs.length) (match qcu (icl c) len S (cs.drop off) with
   | none=>none
   | some (l,S1,w)=>some (l,S1,2 ^ id,w)) none
  | _=>none
 | .str b=>match qbt (.int .u8) c (qad b) with
  | some l=>some (l,S,0,0)
  | none=>none
 | _=>none
section
variable {P : Program} {tt : Nat -> Option TI} {T : TW} {E : Env} {S : IS}
structure TSrc (P:Program) (E:Env) (c:TC) (l:List (El c)) (u:Value) (fl:List Value):Prop where
 size:fl.length=l.length*csz c
 len:∀w1:World,(Builtin.lenOf u).run P w1=.ok l.length w1
 first:∀w1:World,w1.heap=E.w.heap->(Builtin.firstCells (csz c) l.length u).run P w1=.ok fl.toArray w1
 rel:∃us:Nat->Nat->Value,(∀i,i<l.length->∀j,j<csz c->fl[i*csz c+j]?=some (us i j))/\∀i (h:i<l.length) j (h':j<(cel c l[i]).length),VR E (cel c l[i])[j] (us i j)
theorem TSrc.one{c:TC}{l:List (El c)}{u:Value}{fl:List Value}(h:TSrc P E c l u fl):fl.all Sx.one=true:=by
 obtain⟨us,h1,h2⟩:=h.rel;rw[ja6];intro v hv;obtain⟨k,hk,rfl⟩:=jay.1 hv;have hz:=qm3 c;rw[h.size] at hk;have hi:k / csz c<l.length:=Nat.div_lt_of_lt_mul (by rw[jfk];exact hk);have hj:k % csz c<csz c:=je9 _ hz;have h3:=h1 _ hi _ hj;rw[jfk,Nat.div_add_mod] at h3;have h4:=h2 _ hi (k % csz c) (by rw[qbn];exact hj);have h5:=(ja6.1 (qtq c l[k / csz c])) _ (ja0 (by rw[qbn];exact hj));have h6:=h4.one h5;rw[jac (by rw[h.size];exact hk)] at h3;rw[jbg h3];exact h6
theorem qq9{c:TC}{l:List (El c)}{b off cap:Nat}{cells:Array Value}{t:TypeId}{fz:Nat × Nat}{us:Nat->Nat->Value}(hh:E.w.heap[b]?=some (.cells cells t fz))
  (hc:∀i,i<l.length->∀j,j<csz c->cells[off+i*csz c+j]?=some (us i j)) (hu:∀i (h:i<l.length) j (h':j<(cel c l[i]).length),VR E (cel c l[i])[j] (us i j)) :
  TSrc P E c l (.slice (some ⟨b,off,none⟩) l.length cap) (((cells.toList.drop off).take (l.length*csz c))):=by
 have hz:=qm3 c;have hle:l.length=0\/off+l.length*csz c<=cells.size:=by
  rcases jeb l.length with h|h
  ·exact .inl h
  ·right;have:=hc (l.length-1) (by omega) (csz c-1) (by omega);have h2:=(jdt.1 this).1;have h3:(l.length-1)*csz c+csz c=l.length*csz c:=by rw[<- Nat.succ_mul];congr 1;omega
   omega
 refine⟨?_,fun w1=>rfl,fun w1 hw=>?_,us,fun i hi j hj=>?_,hu⟩
 ·rcases hle with h|h
  ·simp[h]
  ·simp;omega
 ·rcases hle with h|h
  ·simp only[Builtin.firstCells,h,jd7,List.take_zero];rfl
  ·exact qkc (by rw[hw];exact hh) h
 ·have h1:i*csz c+j<l.length*csz c:=by
   have:=jaw (csz c) (show i+1<=l.length from hi);rw[jbb] at this;omega
  rw[jas,jam h1,jbt,<- hc i hi j hj,<- jcq];simp
theorem qge{c:TC}{l:List (El c)}{u:Value}(h:VR E (.lst c l) u):∃fl,TSrc P E c l u fl:=by
 cases h with
 | lst0 hc=>exact⟨[],by simp,fun w1=>rfl,fun w1 hw=>by
   rename_i a cap;cases a with
   | none=>rfl
   | some a=>simp only[Builtin.firstCells,jce,jd7];rfl,fun _ _=>.nilFunc,fun i hi=>absurd hi (by simp),fun i hi=>absurd hi (by simp)⟩
 | lst us h1 h2 h3 hb hh hc hu=>exact⟨_,qq9 hh hc hu⟩
theorem zn2(b:ByteArray):TSrc P E (.int .u8) (qad b) (.string b) (b.data.toList.map fun b=>.int .u8 b.toNat):=by
 have hlen:(qad b).length=b.size:=by simp[qad]
 refine⟨?_,fun w1=>?_,fun w1 hw=>?_,fun i j=>.int .u8 ((qad b).getD i 0),fun i hi j hj=>?_,fun i hi j hj=>?_⟩
 ·simp only[csz,jbd,jfd];exact(by simp:b.data.toList.length=b.size).trans hlen.symm
 ·show Result.ok b.size w1=Result.ok (qad b).length w1;rw[hlen]
 ·show (Builtin.firstCells 1 (qad b).length (.string b)).run P w1=_;rw[hlen];simp only[Builtin.firstCells,jad];congr 1;have:b.extract 0 b.size=b:=by simp
  rw[this];apply jdv
  ·simp
  ·intro i h1 h2;simp
 ·have hj0:j=0:=by simp[csz] at hj;exact hj
  subst hj0;have hi2:i<b.data.size:=Nat.lt_of_lt_of_eq hi hlen;have e:b.data[i]?=some b.data[i]:=jdw hi2;simp[csz,qad,e,jar]
 ·have hj0:j=0:=by simp[cel] at hj;exact hj
  subst hj0;have hi2:i<b.data.size:=Nat.lt_of_lt_of_eq hi hlen;have e0:(qad b)[i]?=some ((qad b)[i]'hi):=jac hi;have e1:(qad b).getD i 0=(qad b)[i]'hi:=by rw[jar,e0];rfl
  show VR E (.int .u8 ((qad b)[i]'hi)) (.int .u8 ((qad b).getD i 0));rw[e1];refine .int _ _ (IntWalk.u8_in _ ?_);simp only[qad,jb8];have:=(b.data.toList[i]'(by simpa using hi2)).toNat_lt;omega
theorem qhe{id:Nat}{c:TC}{l:List (El c)}{uy:Value}(p:Pre T E S)(hr:T.r id)(hy:VR E (.arr id) uy)(ho:S.heap.get id=some (.arr c l)\/S.heap.get id=some (.frz c l)):∃fl,TSrc P E c l uy fl:=by
 cases hy with
 | arr hA hh =>
 rcases ho with ho|ho
 ·obtain⟨a,cap,k1,k2,k3,k4,k5⟩:=p.st.objs _ hr hA _ ho;rw[hh] at k1;cases k1;rcases k5 with ⟨k5,k6⟩|⟨k5,k6,cells,t,k7,k8,us,k9,k10⟩
  ·have:l=[]:=jbo.1 (by omega);subst this;exact qge (.lst0 (by omega))
  ·subst k6;exact⟨_,qq9 k7 (fun i hi j hj=>by rw[ja9];exact k9 i hi j hj) k10⟩
 ·have q3:=p.st.objs _ hr hA _ ho;unfold OR at q3;rw[hh] at q3;exact qge q3
theorem zaa{c:TC}{y:IV}{uy:Value}{l:List (El c)}{S':IS}{rd wr:Nat}(p:Pre T E S)(h:tsrc S c y=some (l,S',rd,wr))(hr:tin T.r rd)(hw:tin T.w wr)(hy:VR E y uy) :
  ∃E',E'.w=E.w/\Post T E S E' S'/\Fresh E S E'/\∃fl,TSrc P E' c l uy fl:=by
 unfold tsrc at h;split at h<;>try cases h
 ·cases hy;exact⟨E,rfl,Post.refl p,Fresh.refl E S,qge (.lst0 (by omega))⟩
 ·split at h<;>cases h;rename_i l' hl;obtain⟨rfl,rfl⟩:=qcj hl;exact⟨E,rfl,Post.refl p,Fresh.refl E S,qge hy⟩
 ·split at h<;>try cases h
  ·rename_i c' l0 ho;split at h<;>cases h;rename_i hl;obtain⟨rfl,rfl⟩:=qcj hl;exact⟨E,rfl,Post.refl p,Fresh.refl E S,qhe p (qaf hr) hy (.inl ho)⟩
  ·rename_i c' l0 ho;split at h<;>cases h;rename_i hl;obtain⟨rfl,rfl⟩:=qcj hl;exact⟨E,rfl,Post.refl p,Fresh.refl E S,qhe p (qaf hr) hy (.inr ho)⟩
 ·rename_i id off len s cap0;cases hy with
  | sl cap hA g1 g2 g3 g4 g5 =>
  split at h<;>try cases h
  rename_i cs ho;cases hb:(Nat.beq s (csz c)&&Nat.ble (off+len*s) cs.length) with
  | false=>rw[hb] at h;cases h
  | true =>
  rw[hb,jab] at h;simp only[jaf] at hb;have b1:=jah hb.1;have b2:=jao hb.2;subst b1;split at h<;>cases h;rename_i hrow;obtain⟨cells,t,k1,k2,k3,k4⟩:=p.st.objs id (qaf hr) hA _ ho;obtain⟨E1,e1,q1,f1,hl,vs,v1,v2⟩:=qup (qfs c) len hrow p hw (k4.drop off);subst hl;refine⟨E1,e1,q1,f1,_,qq9 (t:=t) (fz:=(0,0)) (cells:=cells) (us:=vs) (by rw[e1];exact k1) (fun i hi j hj=>?_) v2⟩;have:=v1 i hi j hj;rw[jbt,jas] at this;split at this
  ·rw[<- jcq] at this;simpa using this
  ·cases this
 ·rename_i b;split at h<;>cases h;rename_i l' hl;obtain⟨rfl,rfl⟩:=qcj hl;cases hy;exact⟨E,rfl,Post.refl p,Fresh.refl E S,_,zn2 b⟩
theorem q90{w:World}{T T2 E ty:TypeId}{D2 E':TypeDesc}{size bytes s b2:Nat}{zero z2:Value}{a:Option Addr}{len cap:Nat}{x:Value}(hT:Ty P T (.slice E) size bytes zero)(hT2:P.underlying T2=some D2)(hni:∀k,D2≠.int k)(hE:Ty P E E' s b2 z2)
  (hlen:∀w1:World,(Builtin.lenOf x).run P w1=.ok 0 w1) (hfirst:(Builtin.firstCells s 0 x).run P w=.ok #[] w) (hc:len<=cap) :
  (Builtin.append_ #[T,T2] ty #[.slice a len cap,x]).run P w=.ok (.slice a len cap) w:=by
 have hz:(match D2 with|TypeDesc.int k=>true|_=>false)=false:=by cases D2<;>first|rfl|exact absurd rfl (hni _)
 simp only[Builtin.append_,jav,jat,jbn,jag,jan hT.und,jan hT2,jaa,Sx.run_sizeOf hE,jad,ja3,jbl,hlen];simp only[jby,hc,jb4,jba,jag,jaa,hfirst];cases a with
 | none=>simp only[jad]
 | some a=>simp only[storeCells,jag,jad,jaa]

theorem q3j{E:Env}{c:TC}{lx ly:List (El c)}{cells cells':Array Value}{fl:List Value}{u:Value}(hx:ARel E c lx cells)(hs:TSrc P E c ly u fl)
  (h1:∀k,k<lx.length*csz c->cells'[k]?=cells[k]?) (h2:∀k,k<fl.length->cells'[lx.length*csz c+k]?=fl[k]?):ARel E c (lx++ly) cells':=by
 obtain⟨us,a1,a2⟩:=hx;obtain⟨vs,b1,b2⟩:=hs.rel;have hmul:∀i j n,i<n->j<csz c->i*csz c+j<n*csz c:=fun i j n hi hj=>by
  have:=jaw (csz c) (show i+1<=n from hi);rw[jbb] at this;omega
 refine⟨fun i j=>if i<lx.length then us i j else vs (i-lx.length) j,fun i hi j hj=>?_,fun i hi j hj=>?_⟩
 ·by_cases h:i<lx.length
  ·simp only[jam h];rw[h1 _ (hmul i j _ h hj)];exact a1 i h j hj
  ·simp only[jak h];have hi':i-lx.length<ly.length:=by simp at hi;omega
   have:=b1 _ hi' j hj;rw[<- h2 _ (by rw[hs.size];exact hmul _ j _ hi' hj)] at this;rw[<- this];congr 1;have:i*csz c=lx.length*csz c+(i-lx.length)*csz c:=by rw[<- jbb];congr 1;omega
   omega
 ·by_cases h:i<lx.length
  ·simp only[jam h];have e:(lx++ly)[i]=lx[i]:=jb5 h;have:=a2 i h j (by rw[qbn] at hj ⊢;exact hj);simpa [e] using this
  ·simp only[jak h];have hi':i-lx.length<ly.length:=by simp at hi;omega
   have e:(lx++ly)[i]=ly[i-lx.length]:=jb1 (by omega);have:=b2 _ hi' j (by rw[qbn] at hj ⊢;exact hj);simpa [e] using this
theorem q5r(E:Env)(c:TC)(cells:Array Value):ARel E c [] cells:=⟨fun _ _=>.nilFunc,fun i hi=>absurd hi (by simp),fun i hi=>absurd hi (by simp)⟩
theorem qm8{c:TC}{l:List (El c)}{cells:List Value}{t:TypeId}{nc:Nat}{w':World}(p:Pre T E S)(hw:w'.heap=E.w.heap.push (.cells cells.toArray t))(h1:w'.os=E.w.os)(h2:w'.tape=E.w.tape)(h3:w'.output=E.w.output)
  (hl:l.length<=nc) (hc:nc<9223372036854775808) (hb:l.length*bsz c<=140737488355328) (hz:nc*csz c<=cells.length) (hu8:c=.int .u8->t=u8T) (hr:ARel E c l cells.toArray) :
  ∃E',E'.w=w'/\VR E' (.arr S.next) (.slice (some ⟨E.w.heap.size,0,none⟩) l.length nc)/\Post T E S E' (S.new (.arr c l))/\Fresh E S E':=by
 have u:Upd [] E.w w':=⟨h1,h2,h3,by rw[hw];simp,fun b hb _=>by rw[hw,jd2,jak (by omega)]⟩;have hA:¬E.A S.next:=fun h=>jck _ (p.bnd _ h)
 have hle:=Env.with_le (k:=cells.length) (hd:=.slice (some ⟨E.w.heap.size,0,none⟩) l.length nc) hA u;obtain⟨a,b⟩:=Post.new p (k:=cells.length) (hd:=.slice (some ⟨E.w.heap.size,0,none⟩) l.length nc) (o:=.arr c l) u (by rw[hw];simp)
  ⟨_,nc,qah _ _ _,hl,hc,hb,.inr ⟨qah _ _ _,by simp[Env.with_,qah],cells.toArray,t,by simp only[Env.with_,qah,hw];simp,⟨by simpa using hz,hu8⟩,hr.mono hle⟩⟩
 exact⟨_,rfl,.arr (Or.inr rfl:E.A S.next\/S.next=S.next) (qah _ _ _),a,b⟩
theorem zgm{tr:TypeId}{ty ty2 e:TypeId}{D2 E':TypeDesc}{size bytes b2:Nat}{zero z2:Value}{id:Nat}{c:TC}{lx ly:List (El c)}{ux uy:Value}{fl:List Value}(p:Pre T E S)(hT:T.w id)(hA:E.A id)(ho:S.heap.get id=some (.arr c lx))(hx:E.hd id=ux)
   (hty:Ty P ty (.slice e) size bytes zero) (hT2:P.underlying ty2=some D2) (hni:∀k,D2≠.int k) (hE:Ty P e E' (csz c) b2 z2) (hz:z2.cells.size=csz c) (hb2:0<b2) (hbz:bsz c<=b2) (hu8:c=.int .u8->e=u8T) (hroom:(lx.length+ly.length)*b2<=140737488355328)
   (hs:TSrc P E c ly uy fl):Good P T E S (Builtin.append_ #[ty,ty2] tr #[ux,uy]) ⟨.arr S.next,(S.set id .dead).new (.arr c (lx++ly)),0,0⟩:=by
 obtain⟨a,cap,k1,k2,k3,k4,k5⟩:=p.st.objs id (T.sub _ hT) hA _ ho;rw[hx] at k1;subst k1;have hA':¬E.A S.next:=fun h=>jck _ (p.bnd _ h)
 have hmul:(lx.length+ly.length)*csz c=lx.length*csz c+ly.length*csz c:=jbb _ _ _;have hbnd:(lx++ly).length*bsz c<=140737488355328:=by rw[ja4];exact ja5 (jcm _ hbz) hroom
 have pk:=Post.kill (id:=id) p;have pp:=pk.pre p
 -- growing
 have grow:∀{fo:List Value},(∀w1:World,w1.heap=E.w.heap->(Builtin.firstCells (csz c) lx.length (.slice a lx.length cap)).run P w1=.ok fo.toArray w1)->fo.length=lx.length*csz c->ARel E c lx fo.toArray->¬lx.length+ly.length<=cap ->
     Good P T E S (Builtin.append_ #[ty,ty2] tr #[.slice a lx.length cap,uy]) ⟨.arr S.next,(S.set id .dead).new (.arr c (lx++ly)),0,0⟩:=by
   intro fo hold hfo hrel hfit;obtain⟨nc,tl,j1,j2,j3,j4⟩:=qst (w:=E.w) (a:=a) (len:=lx.length) (cap:=cap) (fo:=fo) (ty:=tr) hty hT2 hni hE hz hs.len hs.first hs.size hold hfo hfit hroom hb2
   have hlen:(fo++fl++tl).length=nc*csz c:=by
     simp only[ja4,hfo,hs.size,j3];have:nc*csz c=(lx.length+ly.length)*csz c+(nc-(lx.length+ly.length))*csz c:=by rw[<- jbb];congr 1;omega
     omega
   obtain⟨E1,e1,e2,e3,e4⟩:=qm8 (S:=S.set id .dead) (c:=c) (l:=lx++ly) (cells:=fo++fl++tl) (nc:=nc) (t:=e) (w':={ E.w with drawn:=E.w.drawn+1,heap:=E.w.heap.push (.cells (fo++fl++tl).toArray e) }) pp rfl rfl rfl rfl (by simpa using j1) j2 hbnd (by omega) hu8
     (q3j hrel hs (fun k hk=>by simp only[jav];rw[jc3,ja2 (by omega)]) (fun k hk=>by simp only[jav];rw[jc3,jbf (by omega),hfo,jbe,ja2 hk]))
   rw[ja4] at e2;exact⟨_,E1,by rw[e1];exact j4,e2,Post.trans p pk (Fresh.refl E S) e3,⟨e4.fr⟩⟩
 rcases k5 with ⟨k5,k6,kz⟩|⟨k5,k6,cells,t,k7,k8,k9⟩
 · have hlx:lx=[]:=jbo.1 (by omega);subst hlx;subst k6;by_cases hn:ly.length=0
   · have hly:ly=[]:=jbo.1 hn;subst hly;have hr:=q90 (w:=E.w) (a:=a) (len:=0) (cap:=0) (ty:=tr) hty hT2 hni hE hs.len (by have:=hs.first E.w rfl;have h0:fl=[]:=jbo.1 (by rw[hs.size];simp);rw[h0] at this;exact this) (jap _);obtain⟨a1,a2⟩:=Post.ghost (S:=S.set id .dead) (hd:=.slice a 0 0) (o:=.arr c []) pp rfl ⟨a,0,qah _ _ _,jap _,by omega,by simp,.inl ⟨qah _ _ _,rfl,kz⟩⟩;exact⟨_,E.gho S.next (.slice a 0 0),hr,.arr (Or.inr rfl:E.A S.next\/S.next=S.next) (qah _ _ _),Post.trans p pk (Fresh.refl E S) a1,⟨fun j h1 h2=>a2.fr j h1 h2⟩⟩
   · exact grow (fo:=[]) (fun w1 _=>by
       cases a with
       | none=>rfl
       | some a=>simp only[Builtin.firstCells,jce,jd7];rfl) (by simp) (q5r _ _ _) (by show ¬(0+ly.length<=0);omega)
 · subst k6;by_cases hfit:lx.length+ly.length<=cap
   · have hcm:(lx.length+ly.length)*csz c<=cap*csz c:=jaw _ hfit;obtain⟨w',j1,j2,j3,j4⟩:=za9 (w:=E.w) (g:=E.ρ id) (o:=0) (len:=lx.length) (cap:=cap) (cells:=cells.toList) (ty:=tr) hty hT2 hni hE hs.len (hs.first _ rfl) hs.size hs.one (t:=t) (by simpa using k7) hfit (by simp;omega);have hL:Live E S.H id:=⟨k5,_,ho,rfl⟩;have hle0:=Env.at_le p.st hT hA hL j3;have hle:E.Le (E.moved id S.next (.slice (some ⟨E.ρ id,0,none⟩) (lx.length+ly.length) cap) w'):=⟨fun j h=>⟨.inl h,up_ne _ _ fun e=>hA' (e▸h),up_ne _ _ fun e=>hA' (e▸h),up_ne _ _ fun e=>hA' (e▸h),up_ne _ _ fun e=>hA' (e▸h)⟩,hle0.tr⟩;obtain⟨q1,q2⟩:=Post.move p (hd:=.slice (some ⟨E.ρ id,0,none⟩) (lx.length+ly.length) cap) (o:=.arr c (lx++ly)) hT hA hL j3
       ⟨_,cap,by rw[ja4];exact qah _ _ _,by rw[ja4];exact hfit,k3,hbnd,.inr ⟨qah _ _ _,by simp[Env.moved,qah],_,t,by simp only[Env.moved,qah];exact j2,⟨by simp[qcs,k8.1],k8.2⟩,
         (q3j k9 hs (fun k hk=>by simp only[jav];rw[ja9,qei _ _ _ _ hk];simp) (fun k hk=>by
           simp only[jav];rw[ja9,qfh _ _ _ _ hk (by rw[hs.size];simp;omega)])).mono hle⟩⟩
     exact⟨_,_,j1,.arr (Or.inr rfl:E.A S.next\/S.next=S.next) (qah _ _ _),q1,q2⟩
   · have hsz:lx.length*csz c<=cells.size:=ja5 (jaw _ k2) k8.1;refine grow (fo:=cells.toList.take (lx.length*csz c)) (fun w1 hw=>by
       have:=qkc (P:=P) (w1:=w1) (b:=E.ρ id) (o:=0) (n:=lx.length*csz c) (cells:=cells) (by rw[hw];exact k7) (by omega);simpa [Builtin.firstCells] using this) (by simp;omega) ?_ hfit
     obtain⟨us,a1,a2⟩:=k9;refine⟨us,fun i hi j hj=>?_,a2⟩;have h1:i*csz c+j<lx.length*csz c:=by
       have:=jaw (csz c) (show i+1<=lx.length from hi);rw[jbb] at this;omega
     simp only[jav];rw[jas,jam h1,<- a1 i hi j hj];simp

def u8ok:TC->Nat->Bool
 | .int .u8,e=>Nat.beq e u8T
 | _,_=>true
theorem q12{c:TC}{e:Nat}(h:u8ok c e=true):c=.int .u8->e=u8T:=fun hc=>by subst hc;exact jah h
def qe2(tt:Nat->Option TI)(ty ty2:Nat)(c:TC):Option Nat :=
 match tt ty,tt ty2 with
 | some ti,some t2=>match ti.und with
  | .slice e=>match tt e with
   | none=>none
   | some te=>cond (qpe t2.und&&Nat.blt 0 te.bytes&&Nat.beq te.zero.cells.size te.sz&&Nat.beq te.sz (csz c)&&Nat.ble (bsz c) te.bytes&&u8ok c e) (some te.bytes) none
  | _=>none
 | _,_=>none
structure AppOK (P:Program) (ty ty2:Nat) (c:TC) (b:Nat):Prop where
 ex:∃(e:TypeId) (D2 E':TypeDesc) (size bytes:Nat) (zero z2:Value),Ty P ty (.slice e) size bytes zero/\P.underlying ty2=some D2/\(∀k,D2≠.int k)/\Ty P e E' (csz c) b z2/\z2.cells.size=csz c/\(c=.int .u8->e=u8T)
 pos:0<b
 bz:bsz c<=b
theorem q64{ty ty2:Nat}{c:TC}{b:Nat}(htt:TT P tt)(h:qe2 tt ty ty2 c=some b):AppOK P ty ty2 c b:=by
 unfold qe2 at h;split at h<;>try cases h
 rename_i ti t2 hti ht2;have hty:=htt _ _ hti;split at h<;>try cases h
 rename_i e he;rw[he] at hty;split at h
 ·cases h
 rename_i te hte;cases hb:(qpe t2.und&&Nat.blt 0 te.bytes&&Nat.beq te.zero.cells.size te.sz&&Nat.beq te.sz (csz c)&&Nat.ble (bsz c) te.bytes&&u8ok c e) with
 | false=>rw[hb] at h;cases h
 | true =>
 rw[hb,jab] at h;cases h;simp only[jaf] at hb;obtain⟨⟨⟨⟨⟨b1,b2⟩,b3⟩,b4⟩,b5⟩,b6⟩:=hb;have hE:=htt _ _ hte;rw[jah b4] at hE b3;exact⟨⟨e,_,_,_,_,_,_,hty,(htt _ _ ht2).und,(fun k hk=>by rw[hk] at b1;cases b1),hE,jah b3,q12 b6⟩,by simpa using b2,jao b5⟩
theorem q3v{tr ty ty2 b:Nat}{id:Nat}{c:TC}{lx ly:List (El c)}{ux uy:Value}{fl:List Value}(hk:AppOK P ty ty2 c b)(p:Pre T E S)(hT:T.w id)(hA:E.A id)(ho:S.heap.get id=some (.arr c lx))(hx:E.hd id=ux)
  (hroom:Nat.ble ((lx.length+ly.length)*b) 140737488355328=true) (hs:TSrc P E c ly uy fl):Good P T E S (Builtin.append_ #[ty,ty2] tr #[ux,uy]) ⟨.arr S.next,(S.set id .dead).new (.arr c (lx++ly)),0,0⟩:=by
 obtain⟨⟨e,D2,E',size,bytes,zero,z2,h1,h2,h3,h4,h5,h8⟩,h6,h7⟩:=hk;exact zgm p hT hA ho hx h1 h2 h3 h4 h5 h6 h7 h8 (jao hroom) hs
def qf3(tt:Nat->Option TI)(S:IS)(ty ty2 id:Nat)(y:IV):Option Res :=
 match S.heap.get id with
 | some (.arr c _)=>match qe2 tt ty ty2 c with
  | none=>none
  | some b=>match tsrc S c y with
   | none=>none
   | some (ly,S1,rd,wr)=>match S1.heap.get id with
    | some (.arr c2 lx)=>match qbt c c2 ly with
     | none=>none
     | some ly2=>cond (Nat.ble ((lx.length+ly2.length)*b) 140737488355328) (some ⟨.arr S1.next,(S1.set id .dead).new (.arr c2 (lx++ly2)),rd,wr ||| 2 ^ id⟩) none
    | _=>none
 | _=>none
theorem zj1{tr ty ty2 id:Nat}{y:IV}{ux uy:Value}{r:Res}(htt:TT P tt)(p:Pre T E S)(h:qf3 tt S ty ty2 id y=some r)(hrd:tin T.r r.rd)(hwr:tin T.w r.wr)(hx:VR E (.arr id) ux)(hy:VR E y uy) :
  Good P T E S (Builtin.append_ #[ty,ty2] tr #[ux,uy]) r:=by
 unfold qf3 at h;split at h<;>try cases h
 rename_i c l0 ho;split at h
 ·cases h
 rename_i b hb;split at h
 ·cases h
 rename_i ly S1 rd wr hsrc;split at h<;>try cases h
 rename_i c2 lx ho1;split at h
 ·cases h
 rename_i ly2 hl;obtain⟨rfl,rfl⟩:=qcj hl;cases hk:Nat.ble ((lx.length+ly2.length)*b) 140737488355328 with
 | false=>rw[hk] at h;cases h
 | true =>
 rw[hk,jab] at h;cases h;obtain⟨hw1,hw2⟩:=qat hwr;obtain⟨E1,e1,q1,f1,fl,hs⟩:=zaa (P:=P) p hsrc hrd hw1 hy;cases hx with
 | arr hA hh =>
 obtain⟨a1,a2,a3,a4,a5⟩:=(q1.env p).alw id hA;obtain⟨u,E2,g1,g2,g3,g4⟩:=q3v (tr:=tr) (q64 htt hb) (q1.pre p) (qaf hw2) a1 ho1 (a4.trans hh) hk hs;rw[e1] at g1;exact⟨u,E2,g1,g2,Post.trans p q1 f1 g3,f1.trans g4 q1.le⟩
def qcr(tt:Nat->Option TI)(S:IS)(ty ty2:Nat)(c:TC)(l:List (El c))(rd:Nat):Option Res :=
 match qe2 tt ty ty2 c with
 | none=>none
 | some b=>cond (Nat.ble ((0+l.length)*b) 140737488355328) (some ⟨.arr (S.next+1),((S.new (.arr c [])).set S.next .dead).new (.arr c l),rd,0⟩) none
theorem ze3{tr ty ty2 rd cap:Nat}{c:TC}{l:List (El c)}{a:Option Addr}{uy:Value}{fl:List Value}{r:Res}(htt:TT P tt)(p:Pre T E S)(h:qcr tt S ty ty2 c l rd=some r)(hs:TSrc P E c l uy fl)(hz:c=.int .u8->a=none) :
  Good P T E S (Builtin.append_ #[ty,ty2] tr #[.slice a 0 0,uy]) r:=by
 unfold qcr at h;split at h
 ·cases h
 rename_i b hb;cases hk:Nat.ble ((0+l.length)*b) 140737488355328 with
 | false=>rw[hk] at h;cases h
 | true =>
 rw[hk,jab] at h;cases h;obtain⟨a1,a2⟩:=Post.ghost (hd:=.slice a 0 0) (o:=.arr c []) p rfl ⟨a,0,qah _ _ _,jap _,by omega,by simp,.inl ⟨qah _ _ _,rfl,hz⟩⟩;have hle:=a1.env p;have hs':TSrc P (E.gho S.next (.slice a 0 0)) c l uy fl:=⟨hs.size,hs.len,hs.first,by obtain⟨us,k1,k2⟩:=hs.rel;exact⟨us,k1,fun i hi j hj=>(k2 i hi j hj).mono hle⟩⟩;obtain⟨u,E2,g1,g2,g3,g4⟩:=q3v (tr:=tr) (id:=S.next) (lx:=[]) (q64 htt hb) (a1.pre p) (p.nw _ (jap _)) (Or.inr rfl:E.A S.next\/S.next=S.next) (by simp[IS.new,PT.get_set]) (qah _ _ _) hk hs';have g3':Post T (E.gho S.next (.slice a 0 0)) (S.new (.arr c [])) E2 (((S.new (.arr c [])).set S.next .dead).new (.arr c l)):=g3;have g4':Fresh (E.gho S.next (.slice a 0 0)) (S.new (.arr c [])) E2:=g4;exact⟨u,E2,g1,g2,Post.trans p a1 a2 g3',a2.trans g4' a1.le⟩
def qne:TC->Bool
 | .int .u8=>false
 | _=>true
def empS(c:TC):IV->Bool
 | .nilsl=>true
 | .sl _ _ 0 _ (some 0)=>qne c
 | _=>false
def iapp(tt:Nat->Option TI)(S:IS)(ty ty2:Nat)(x y:IV):Option Res :=
 match x with
 | .arr id=>qf3 tt S ty ty2 id y
 | x=>match y with
  | .lst c l=>cond (empS c x) (qcr tt S ty ty2 c l 0) none
  | .arr id=>match S.heap.get id with
   | some (.arr c l)=>cond (empS c x) (qcr tt S ty ty2 c l (2 ^ id)) none
   | some (.frz c l)=>cond (empS c x) (qcr tt S ty ty2 c l (2 ^ id)) none
   | _=>none
  | y=>qhm tt S ty ty2 x y
theorem zoh{c:TC}{x:IV}{u:Value}(h:empS c x=true)(hx:VR E x u):∃a,u=.slice a 0 0/\(c=.int .u8->a=none):=by
 unfold empS at h;split at h
 ·cases hx;exact⟨_,rfl,fun _=>rfl⟩
 ·cases hx with
  | sl cap hA h1 h2 h3 h4 h5=>rw[h4 _ rfl];exact⟨_,rfl,fun e=>by subst e;cases h⟩
 ·cases h
theorem zop{tr ty ty2:Nat}{x y:IV}{ux uy:Value}{r:Res}(htt:TT P tt)(p:Pre T E S)(h:iapp tt S ty ty2 x y=some r)(hrd:tin T.r r.rd)(hwr:tin T.w r.wr)(hx:VR E x ux)(hy:VR E y uy) :
  Good P T E S (Builtin.append_ #[ty,ty2] tr #[ux,uy]) r:=by
 have hN:∀{c:TC} {l:List (El c)} {rd:Nat},cond (empS c x) (qcr tt S ty ty2 c l rd) none=some r->(tin T.r rd->∃fl,TSrc P E c l uy fl)->Good P T E S (Builtin.append_ #[ty,ty2] tr #[ux,uy]) r:=by
  intro c l rd h hs;cases he:empS c x with
  | false=>rw[he] at h;cases h
  | true =>
   rw[he,jab] at h;obtain⟨a,rfl,hz⟩:=zoh he hx;have hr:r.rd=rd:=by
    unfold qcr at h;split at h
    ·cases h
    ·revert h;cases Nat.ble _ _<;>intro h<;>cases h;rfl
   obtain⟨fl,hs⟩:=hs (by rw[<- hr];exact hrd);exact ze3 (cap:=0) htt p h hs hz
 unfold iapp at h;split at h
 ·exact zj1 htt p h hrd hwr hx hy
 ·split at h
  ·exact hN h fun _=>qge hy
  ·rename_i id;split at h
   ·rename_i c l ho;exact hN h fun hr=>qhe p (qaf hr) hy (.inl ho)
   ·rename_i c l ho;exact hN h fun hr=>qhe p (qaf hr) hy (.inr ho)
   ·cases h
  ·exact zkk htt p h hrd hwr hx hy
end
end Go.Jx
end

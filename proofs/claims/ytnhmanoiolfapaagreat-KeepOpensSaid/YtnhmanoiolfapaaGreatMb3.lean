/- Texts: Jo, Jp, Jq, Jr, Js, Jt, Jrd, Jrw, Jtab, Krd, Ju, Jw, Jv, Jy, Jvs, Jra, Xb, Ksp, Jca. -/
import Derived.Test.YtnhmanoiolfapaaGreatMb2
import Derived.SizedLaws
import Derived.ProofKit
import Derived.Deep.Slices
import Derived.Lib.SmallJoins
import Derived.Carry
import Derived.Test.YtnhmanoiolfapaaGreatProg
import Derived.KernelRfl
import Derived.Test.YtnhmanoiolfapaaGreatMb1
import Derived.Laws.RangeAny
set_option linter.unusedVariables false
section
namespace Go.Jx
open Go Go.Sx Go.RowKit
universe u

structure FI where
 nt:Nat
 res:List ResultVar
 body:Code
def FT (P:Program) (ft:Nat->Option FI):Prop:=∀f fi,ft f=some fi->∃fn,P.funcs[f]?=some fn/\fn.body=some fi.body/\fn.ntmps=fi.nt/\fn.results=fi.res.toArray/\(fn.name == "runtime.NumGoroutine") = false/\qa9 fi.body=true

def qal:List IV->Nat->PT IV->PT IV
 | [],_,fr=>fr
 | v::vs,i,fr=>qal vs (i+1) (fr.set v i)
theorem q8v:∀(vs:List IV) (i:Nat) (fr:PT IV) (t:Nat),slot (qal vs i fr) t=if t<i then slot fr t else if t<i+vs.length then vs.getD (t-i) .unk else slot fr t
 | [],i,fr,t=>by
  simp only[qal,List.length_nil,Nat.add_zero];by_cases h:t<i
  ·rw[if_pos h]
  ·rw[if_neg h,if_neg h]
 | v::vs,i,fr,t=>by
  unfold qal;rw[q8v vs (i+1)];simp only[List.length_cons];by_cases h1:t<i
  ·rw[if_pos (by omega),if_pos h1,qd9,if_neg (by omega)]
  ·rw[if_neg h1];by_cases h2:t=i
   ·subst h2;rw[if_pos (by omega),if_pos (by omega),qd9,if_pos rfl];simp
   ·rw[if_neg (by omega)];by_cases h3:t<i+1+vs.length
    ·rw[if_pos h3,if_pos (by omega)];have:t-i=(t-(i+1))+1:=by omega
     rw[this];simp
    ·rw[if_neg h3,if_neg (by omega),qd9,if_neg h2]
theorem FR.enter{E:Env}{nt:Nat}{vs:List IV}{us:List Value}(h:VRs E vs us)(hl:vs.length<=nt):FR E nt (qal vs 0 .leaf) (us.toArray++Array.replicate (nt-us.toArray.size) undef):=by
 have hl2:=h.1;refine⟨by simp;omega,fun t ht=>?_⟩;rw[q8v,if_neg (by omega),Nat.zero_add,Nat.sub_zero];by_cases hv:t<vs.length
 ·rw[if_pos hv];have:=h.2 t hv (by omega);have e1:vs.getD t .unk=vs[t]:=by simp[List.getD_eq_getElem?_getD,hv]
  have e2:(us.toArray++Array.replicate (nt-us.toArray.size) undef).getD t undef=us[t]'(by omega):=by
   rw[Array.getD_eq_getD_getElem?,Array.getElem?_append_left (by simp;omega)];simp[show t<us.length by omega]
  rw[e1,e2];exact this
 ·rw[if_neg hv];have e2:(us.toArray++Array.replicate (nt-us.toArray.size) undef).getD t undef=undef:=by
   rw[Array.getD_eq_getD_getElem?,Array.getElem?_append_right (by simp;omega)];rw[Array.getElem?_replicate];split<;>rfl
  rw[e2];exact .unk _

section
variable {P : Program} {tt : Nat -> Option TI} {T : TW} {E : Env} {S : IS} {nt : Nat} {fr : PT IV}
theorem zn5{ty:TypeId}{id off:Nat}{ux:Value}{r:Res}(htt:TT P tt)(p:Pre T E S)(h:qd3 tt S ty (.ptr id off)=some r)(hr:tin T.r r.rd)(hx:VR E (.ptr id off) ux):∃u,(do loadVar ty (<- asAddr ux)).run P E.w=.ok u E.w/\VR E r.v u:=by
 simp only[qd3] at h;cases hx with
 | ptr hA =>
 have hconv:∀u,(Instr.loadAt ty (.pointer (some ⟨E.ρ id,off,none⟩))).run P E.w=.ok u E.w->(do loadVar ty (<- asAddr (.pointer (some ⟨E.ρ id,off,none⟩)))).run P E.w=.ok u E.w:=fun u hu=>by
  simp only[Instr.loadAt,Instr.sureAddr,Sem.run_bind,Sem.run_pure,Result.andThen_ok] at hu;simp only[asAddr,Sem.run_bind,Sem.run_pure,Result.andThen_ok,hu]
 split at h
 ·cases h
 rename_i ti hti;have hty:=htt _ _ hti;split at h<;>try cases h
 rotate_left
 ·rename_i jj hcs;cases hb:(Nat.beq off 1&&qbe ti.und) with
  | false=>rw[hb] at h;cases h
  | true =>
   rw[hb,cond_true] at h;cases h;simp only[Bool.and_eq_true] at hb;have h1:=Nat.eq_of_beq_eq_true hb.1;subst h1;obtain⟨q,v,k1,k2,k3⟩:=p.st.objs id (qai hr) hA _ hcs;exact⟨v,hconv v (qh9 hty hb.2 ((qqp k1 1).trans rfl)),k3⟩
 rename_i cs hcs;cases hag:qbe ti.und with
 | true =>
  rw[hag,cond_true] at h;split at h<;>cases h;rename_i v hv;obtain⟨cells,t,h1,h2,h3,h4⟩:=qel p (qai hr) hA hcs;obtain⟨u,h5,h6⟩:=q8q h1 h4 hv;exact⟨u,hconv u (qh9 hty hag h5),h6⟩
 | false =>
  rw[hag,cond_false] at h;cases hb:Nat.ble (off+ti.sz) cs.length with
  | false=>rw[hb] at h;cases h
  | true =>
   rw[hb,cond_true] at h;cases h;have hle:=Nat.le_of_ble_eq_true hb;obtain⟨cells,t,h1,h2,h3,h4⟩:=qel p (qai hr) hA hcs;have h5:=(h4.drop off).take ti.sz;have hlen:(((cells.toList.take cs.length).drop off).take ti.sz).length=ti.sz:=by simp;omega
   refine⟨.agg (((cells.toList.take cs.length).drop off).take ti.sz).toArray,hconv _ (qsm hty hag rfl hlen fun j hj=>?_),.agg h5.1 h5.2⟩;have hc:E.w.cell? ⟨E.ρ id,off+j,none⟩=cells.toList[off+j]?:=by simp[World.cell?,h1]
   rw[hc,List.getElem?_take,if_pos hj,List.getElem?_drop,List.getElem?_take,if_pos (show off+j<cs.length by omega)]
def ires(tt:Nat->Option TI)(nt:Nat)(fr:PT IV)(S:IS):List ResultVar->Option (List IV × Nat)
 | []=>some ([],0)
 | .tmp t::l=>cond (Nat.blt t nt) (match ires tt nt fr S l with
  | some (vs,rd)=>some (slot fr t::vs,rd)
  | none=>none) none
 | .cell t ty::l=>cond (Nat.blt t nt) (match (match slot fr t with|.ptr id off=>qd3 tt S ty (.ptr id off)|_=>none) with
  | some r=>match ires tt nt fr S l with
   | some (vs,rd)=>some (r.v::vs,r.rd ||| rd)
   | none=>none
  | none=>none) none
theorem qo3(htt:TT P tt)(p:Pre T E S){tmps:Array Value}(hf:FR E nt fr tmps):∀{l:List ResultVar} {vs:List IV} {rd:Nat},ires tt nt fr S l=some (vs,rd)->tin T.r rd->∃us,(l.mapM (qlu tmps)).run P E.w=.ok us E.w/\VRs E vs us
 | [],vs,rd,h,hr=>by cases h;exact⟨[],rfl,VRs.nil⟩
 | .tmp t::l,vs,rd,h,hr=>by
  unfold ires at h;cases hb:Nat.blt t nt with
  | false=>rw[hb] at h;cases h
  | true =>
  rw[hb,cond_true] at h;split at h<;>cases h;rename_i vs rd hvs;obtain⟨us,h1,h2⟩:=qo3 htt p hf hvs hr;refine⟨tmps.getD t undef::us,?_,VRs.cons (hf.get t (by simpa using hb)) h2⟩;simp only[List.mapM_cons,Sem.run_bind,qlu,Sem.run_pure,Result.andThen_ok,h1]
 | .cell t ty::l,vs,rd,h,hr=>by
  unfold ires at h;cases hb:Nat.blt t nt with
  | false=>rw[hb] at h;cases h
  | true =>
  rw[hb,cond_true] at h;split at h<;>try cases h
  rename_i r hl;split at h<;>cases h;rename_i vs rd hvs;obtain⟨t1,t2⟩:=qar hr;obtain⟨us,h1,h2⟩:=qo3 htt p hf hvs t2;split at hl<;>try cases hl
  rename_i id off hsl;have hft:=hf.get t (by simpa using hb);rw[hsl] at hft;obtain⟨u,k1,k2⟩:=zn5 htt p hl t1 hft;refine⟨u::us,?_,VRs.cons k2 h2⟩;have k1':(qlu tmps (.cell t ty)).run P E.w=.ok u E.w:=k1;simp only[List.mapM_cons,Sem.run_bind,k1',Result.andThen_ok,h1,Sem.run_pure]
def tupI:List IV->IV
 | [v]=>v
 | vs=>.tup vs
theorem zeq{fn:Func}{rs:List ResultVar}{tmps:Array Value}{us:List Value}{w:World}(hr:fn.results=rs.toArray)(h:(rs.mapM (qlu tmps)).run P w=.ok us w):(results fn tmps).run P w=.ok (qik us) w:=by
 have e:results fn tmps=(do
   let vs <- rs.toArray.mapM (qlu tmps)
   pure (if h:vs.size=1 then vs[0] else .tuple vs)):=by
  unfold results;rw[hr];rfl
 rw[e,List.mapM_toArray];simp only[Sem.run_bind,zc5,h,Result.andThen_ok,Sem.run_pure];cases us with
 | nil=>simp [qik]
 | cons v vs=>cases vs<;>simp [qik]
theorem zek{vs:List IV}{us:List Value}(h:VRs E vs us):VR E (tupI vs) (qik us):=by
 cases vs with
 | nil=>have:=h.1;cases us<;>simp at this;exact .tup (us:=[]) rfl (fun i h=>by simp at h)
 | cons v vs =>
  obtain⟨u,us,rfl,h1,h2⟩:=h.inv;cases vs with
  | nil=>have:=h2.1;cases us<;>simp at this;exact h1
  | cons v2 vs =>
   obtain⟨u2,us,rfl,h3,h4⟩:=h2.inv;exact .tup h.1 h.2

def qfy:List Nat->IS->Option (IS × Nat)
 | [],S=>some (S,0)
 | D::ds,S=>match S.heap.get D with
  | some (.defs true)=>match qfy ds (S.set D (.defs false)) with
   | some (S',wr)=>some (S',2 ^ D ||| wr)
   | none=>none
  | _=>none
structure Env.Lc (E E':Env):Prop where
 alw:∀id,E.A id->E'.A id/\E'.ρ id=E.ρ id/\E'.κ id=E.κ id/\E'.hd id=E.hd id/\E'.hb id=E.hb id
 kc:∀(b:Nat) (cells:Array Value) (t:TypeId) (fz:Nat × Nat),b ∉ E.m->E.w.heap[b]?=some (.cells cells t fz)->b ∉ E'.m/\E'.w.heap[b]?=some (.cells cells t fz)
theorem VR.lc{E E':Env}(e:E.Lc E'){v:IV}{u:Value}(h:VR E v u):VR E' v u:=by
 induction h with
 | unk u=>exact .unk u
 | bool b=>exact .bool b
 | int k n h=>exact .int k n h
 | str s h=>exact .str s h
 | lst0 h=>exact .lst0 h
 | lst us h1 h2 h3 hb hh hc _ ih =>
  obtain⟨k1,k2⟩:=e.kc _ _ _ _ hb hh;exact .lst us h1 h2 h3 k1 k2 hc ih
 | eptr us hb hh hc _ ih =>
  obtain⟨k1,k2⟩:=e.kc _ _ _ _ hb hh;exact .eptr us k1 k2 hc ih
 | arr hA hh=>obtain⟨a1,a2,a3,a4,a5⟩:=e.alw _ hA;exact .arr a1 (a4.trans hh)
 | aptr hA=>obtain⟨a1,a2,_⟩:=e.alw _ hA;rw[<- a2];exact .aptr a1
 | nilsl=>exact .nilsl
 | sl cap hA h1 h2 h3 h4 h5 =>
  obtain⟨a1,a2,a3,_⟩:=e.alw _ hA;rw[<- a2];exact .sl cap a1 h1 h2 (by rw[a3];exact h3) h4 (by rw[a3];exact h5)
 | nilptr=>exact .nilptr
 | gp hg=>exact .gp hg
 | ptr hA=>obtain⟨a1,a2,_⟩:=e.alw _ hA;rw[<- a2];exact .ptr a1
 | nilmap=>exact .nilmap
 | map hA=>obtain⟨a1,a2,_⟩:=e.alw _ hA;rw[<- a2];exact .map a1
 | nilfn=>exact .nilfn
 | fn hl _ ih=>exact .fn hl ih
 | bfn hl _ ih=>exact .bfn hl ih
 | yield hA=>obtain⟨a1,a2,_⟩:=e.alw _ hA;rw[<- a2];exact .yield a1
 | nili=>exact .nili
 | iface _ ih=>exact .iface ih
 | agg hl _ ih=>exact .agg hl ih
 | tup hl _ ih=>exact .tup hl ih
theorem VRs.lc{E E':Env}(e:E.Lc E'){cs:List IV}{us:List Value}(h:VRs E cs us):VRs E' cs us:=⟨h.1,fun i a b=>(h.2 i a b).lc e⟩
theorem FR.lc{E E':Env}(e:E.Lc E'){n:Nat}{fr:PT IV}{tmps:Array Value}(h:FR E n fr tmps):FR E' n fr tmps:=⟨h.size,fun t ht=>(h.get t ht).lc e⟩
theorem ARel.lc{E E':Env}(e:E.Lc E'){c:TC}{l:List (El c)}{cells:Array Value}(h:ARel E c l cells):ARel E' c l cells:=by
 obtain⟨us,h1,h2⟩:=h;exact⟨us,h1,fun i a j b=>(h2 i a j b).lc e⟩
theorem OR.lc{E E':Env}(e:E.Lc E'){id:Nat}{o:IObj}(hA:E.A id)(hB:o.blk=true->E.hb id=true)(hs:o.live=true->E.hb id=true->E'.w.heap[E.ρ id]?=E.w.heap[E.ρ id]?)(h:OR E id o):OR E' id o:=by
 obtain⟨a1,a2,a3,a4,a5⟩:=e.alw id hA;cases o with
 | dead=>trivial
 | frz c l=>show VR E' (.lst c l) (E'.hd id);rw[a4];exact VR.lc e h
 | row cs=>obtain⟨cells,t,h1,h2,h3,h4⟩:=h;exact⟨cells,t,by rw[a2,hs rfl (hB rfl),h1],by rw[a3,h2],h3,h4.lc e⟩
 | arr c l =>
  obtain⟨a,cap,h1,h2,h3,h4,h5⟩:=h;refine⟨a,cap,by rw[a4,h1],h2,h3,h4,?_⟩;rcases h5 with ⟨h5,h6⟩|⟨h5,h6,cells,t,h7,h8,h9⟩
  ·exact .inl ⟨by rw[a5,h5],h6⟩
  ·exact .inr ⟨by rw[a5,h5],by rw[a2,h6],cells,t,by rw[a2,hs rfl h5,h7],h8,h9.lc e⟩
 | map es=>obtain⟨ents,c,h1,h2,h3,h4⟩:=h;exact⟨ents,c,by rw[a2,hs rfl (hB rfl),h1],h2.lc e,h3.lc e,h4⟩
 | tmap k v es=>obtain⟨ents,c,h1,h2,h3,h4⟩:=h;exact⟨ents,c,by rw[a2,hs rfl (hB rfl),h1],h2.lc e,h3.lc e,h4⟩
 | iter s p=>show _/\_;rw[a2,hs rfl (hB rfl)];exact h
 | defs on=>show _=_;rw[a2,hs rfl (hB rfl)];exact h
 | bld j=>obtain⟨p,v,h1,h2,h3⟩:=h;exact⟨p,v,by rw[a2,hs rfl (hB rfl),h1],by rw[a2];exact h2,h3.lc e⟩
 | loop st pend nt fr ps assign body D =>
  obtain⟨fn,tmps,h1,h2,h3⟩:=h;obtain⟨b1,b2,_⟩:=e.alw D h3;exact⟨fn,tmps,by rw[a2,hs rfl (hB rfl),h1,b2],h2.lc e,b1⟩
theorem z03{B:Nat}{E0:Env}{S0':IS}{b:Nat}(p:Pre T E S)(hB:E0.w.heap.size<=b)(hm:b ∉ E.m)(hh:E.w.heap[b]?=some (.deferred (some [])))(k:PostB B T E0 S0' E S) :
  PostB B T E0 S0' (E.at_ (E.w.putObj b (.deferred none))) S/\Pre T (E.at_ (E.w.putObj b (.deferred none))) S/\E.Lc (E.at_ (E.w.putObj b (.deferred none))):=by
 have hlc:E.Lc (E.at_ (E.w.putObj b (.deferred none))):=⟨fun id h=>⟨h,rfl,rfl,rfl,rfl⟩,fun b' cells t fz h1 h2=>⟨h1,by
  show (E.w.putObj b (.deferred none)).heap[b']?=_;rw[World.putObj_heap_other (fun e=>by rw[e] at h2;rw[hh] at h2;cases h2)];exact h2⟩⟩
 have hst:St T.r (E.at_ (E.w.putObj b (.deferred none))) S.H:=by
  refine⟨fun j ht ha o hj=>?_,p.st.blk,p.st.own,p.st.inj,fun b' hb'=>?_⟩
  ·refine(p.st.objs j ht ha o hj).lc hlc ha (p.st.blk j ht ha o hj) fun hl hb=>?_;have:=p.st.own j ht ha ⟨hb,o,hj,hl⟩;exact World.putObj_heap_other (fun e=>hm (by rw[<- e];exact this))
  ·show b'<(E.w.putObj b (.deferred none)).heap.size;have:=p.st.lo b' hb';simpa using this
 refine⟨⟨hst,k.os,k.tape,k.output,?_,fun b' hb' hn=>?_,k.alw,k.new,k.old,k.memo,k.mem,k.bnd,k.le,k.fr⟩,⟨hst,p.bnd,p.nw,⟨fun b' hb'=>?_⟩⟩,hlc⟩
 ·show _<=(E.w.putObj b (.deferred none)).heap.size;have:=k.size;simpa using this
 ·show (E.w.putObj b (.deferred none)).heap[b']?=_;rw[World.putObj_heap_other (by omega)];exact k.same b' hb' hn
 ·obtain⟨h1,o,h2,h3⟩:=p.gl.h b' hb';refine⟨h1,o,?_,h3⟩;show (E.w.putObj b (.deferred none)).heap[b']?=_;rw[World.putObj_heap_other (fun e=>by
   rw[e,hh] at h2;obtain⟨cells,t,fz,h4,_⟩:=h3;rw[h4] at h2;cases h2)]
  exact h2
theorem q61{fn:Func}{tmps:Array Value}{R:Ending->World->Prop}{B:Nat}{E0:Env}{S0':IS}:∀{hid:List Nat} {E:Env},Pre T E S->PostB B T E0 S0' E S->hid.Nodup->(∀b∈hid,E0.w.heap.size<=b/\b ∉ E.m/\E.w.heap[b]?=some (.deferred (some []))) ->
  (∀E',PostB B T E0 S0' E' S->Pre T E' S->(∀v u,VR E v u->VR E' v u)->LeavesInM Fence.wide 0 P fn tmps R [] .returning E'.w)->LeavesInM Fence.wide 0 P fn tmps R (hidL hid) .returning E.w
 | [],E,p,k,_,_,hk=>hk E k p fun _ _ h=>h
 | b::hid,E,p,k,hn,hh,hk=>by
  obtain⟨h1,h2,h3⟩:=hh b List.mem_cons_self;obtain⟨g1,g2,g3⟩:=z03 p h1 h2 h3 k;obtain⟨n1,n2⟩:=List.nodup_cons.1 hn;refine⟨by simp,.inl ⟨b,_,rfl,run_takeDeferred h3,?_⟩⟩;refine q61 (E:=E.at_ (E.w.putObj b (.deferred none))) g2 g1 n2 (fun b' hb'=>?_) fun E' k1 k2 k3=>hk E' k1 k2 fun v u hv=>k3 v u (hv.lc g3);obtain⟨c1,c2,c3⟩:=hh b' (List.mem_cons_of_mem _ hb');refine⟨c1,c2,?_⟩;show (E.w.putObj b (.deferred none)).heap[b']?=_;rw[World.putObj_heap_other (fun e=>n1 (by rw[<- e];exact hb'))];exact c3
theorem q0a{fn:Func}{tmps:Array Value}{R:Ending->World->Prop}{B N:Nat}{E0:Env}{S0':IS}(hN:E0.w.heap.size<=N)(hT:∀id,B<=id->T.w id):∀{ds:List Nat} {S S':IS} {E:Env} {dl:List Deferred} {wr:Nat},Pre T E S->DS N E ds dl->PostB B T E0 S0' E S->qfy ds S=some (S',wr)->tin T.w wr ->
  (∀E',PostB B T E0 S0' E' S'->Pre T E' S'->(∀v u,VR E v u->VR E' v u)->LeavesInM Fence.wide 0 P fn tmps R [] .returning E'.w)->LeavesInM Fence.wide 0 P fn tmps R dl .returning E.w
 | [],S,S',E,dl,wr,p,hd,k,h,hw,hk=>by
  cases h;obtain⟨_,_,hid,h3,h4,h5⟩:=hd;rw[h3];exact q61 p k h4 (fun b hb=>⟨Nat.le_trans hN (h5 b hb).1,(h5 b hb).2⟩) hk
 | D::ds,S,S',E,dl,wr,p,hd,k,h,hw,hk=>by
  unfold qfy at h;split at h<;>try cases h
  rename_i hobj;split at h<;>cases h;rename_i S' wr hm;obtain⟨t1,t2⟩:=qar hw;obtain⟨d1,d2,hid,d3,d4,d5⟩:=hd;have hA:=(d2 D List.mem_cons_self).1;have g1:E.w.heap[E.ρ D]?=some (.deferred (some [])):=p.st.objs D (T.sub _ (qai t1)) hA _ hobj;have hL:Live E S.H D:=⟨p.st.blk D (T.sub _ (qai t1)) hA _ hobj rfl,_,hobj,rfl⟩;obtain⟨q1,q2⟩:=Post.write p (o':=.defs false) (qai t1) hA hL (Upd.putObj E.w (E.ρ D) (.deferred none)) (World.putObj_heap_same (qaw g1));have hme:=p.st.own D (T.sub _ (qai t1)) hA hL;rw[d3];refine⟨by simp,.inl ⟨E.ρ D,_,rfl,run_takeDeferred g1,?_⟩⟩;refine q0a hN hT (E:=E.at_ (E.w.putObj (E.ρ D) (.deferred none))) (q1.pre p) ⟨Nat.le_trans d1 q1.stp.size,fun D' hD'=>d2 D' (List.mem_cons_of_mem _ hD'),hid,rfl,d4,fun b hb=>?_⟩ (k.trans (PostB.of k.le hT q1 q2)) hm t2 fun E' k1 k2 k3=>hk E' k1 k2 fun v u hv=>k3 v u (hv.mono (q1.env p));obtain⟨c1,c2,c3⟩:=d5 b hb;refine⟨c1,c2,?_⟩;show (E.w.putObj (E.ρ D) (.deferred none)).heap[b]?=_;rw[World.putObj_heap_other (fun e=>c2 (by rw[e];exact hme))];exact c3

def igc(S:IS)(q:Res):Res :=
 cond (Nat.beq (q.wr % 2 ^ S.next) 0&&low2 S.next q.v) ⟨q.v,S,q.rd % 2 ^ S.next,0⟩ ⟨q.v,q.S,q.rd % 2 ^ S.next,q.wr % 2 ^ S.next⟩
def Tgc(T:TW)(N:Nat)(h:∀id,N<=id->T.w id):TW:=⟨T.r,fun id=>N<=id,fun id hi=>T.sub _ (h id hi)⟩
theorem q3c{T:Nat->Prop}{a N:Nat}(h:tin T (a % 2 ^ N))(hn:∀id,N<=id->T id):tin T a:=fun j hj=>by
 rcases Nat.lt_or_ge j N with h'|h'
 ·exact h j (by rw[Nat.testBit_mod_two_pow];simp [h',hj])
 ·exact hn j h'
theorem zgi{a N:Nat}(h:a % 2 ^ N=0):tin (fun id=>N<=id) a:=fun j hj=>by
 rcases Nat.lt_or_ge j N with h'|h'
 ·have:(a % 2 ^ N).testBit j=true:=by rw[Nat.testBit_mod_two_pow];simp [h',hj]
  rw[h] at this;simp at this
 ·exact h'
theorem zc3{q:Res}(p:Pre T E S)(hrd:tin T.r (igc S q).rd)(hwr:tin T.w (igc S q).wr):∃T':TW,Pre T' E S/\tin T'.r q.rd/\tin T'.w q.wr/\∀e w',RetE T' E S q e w'->RetE T E S (igc S q) e w':=by
 cases hb:(Nat.beq (q.wr % 2 ^ S.next) 0&&low2 S.next q.v) with
 | true =>
  have e:igc S q=⟨q.v,S,q.rd % 2 ^ S.next,0⟩:=by unfold igc;rw[hb];rfl
  rw[e] at hrd ⊢;simp only[Bool.and_eq_true] at hb;have hz:=Nat.eq_of_beq_eq_true hb.1;refine⟨Tgc T S.next p.nw,⟨p.st,p.bnd,fun id h=>h,p.gl⟩,q3c hrd (fun id h=>T.sub _ (p.nw id h)),zgi hz,fun e w' hR=>?_⟩;obtain⟨u,E',rfl,rfl,k1,k2,k3⟩:=hR;have hu:Upd [] E.w E'.w:=⟨k2.stp.os,k2.stp.tape,k2.stp.output,k2.stp.size,fun b hb _=>k2.stp.same b hb fun id ht ha _=>absurd (p.bnd id ha) (Nat.not_lt.2 ht)⟩;obtain⟨q1,q2⟩:=Post.idle p hu;have hlow:LowOK E' (E.at_ E'.w) S.next:=by
   refine⟨fun id hlt ha=>?_,fun b hb=>?_,rfl⟩
   ·have hA:E.A id:=Classical.byContradiction fun hn=>absurd (k3.fr id ha hn) (by omega);obtain⟨a,b,c,d,e⟩:=k2.stp.alw id hA;exact⟨hA,b.symm,c.symm,d.symm,e.symm⟩
   ·rcases k2.stp.mem b hb (p.st.lo b hb) with h|⟨id,c1,c2,_⟩
    ·exact h
    ·exact absurd (p.bnd id c2) (Nat.not_lt.2 c1)
  exact⟨u,E.at_ E'.w,rfl,rfl,qgd hlow hb.2 k1,q1,q2⟩
 | false =>
  have e:igc S q=⟨q.v,q.S,q.rd % 2 ^ S.next,q.wr % 2 ^ S.next⟩:=by unfold igc;rw[hb];rfl
  rw[e] at hrd hwr ⊢;exact⟨T,p,q3c hrd (fun id h=>T.sub _ (p.nw id h)),q3c hwr p.nw,fun e w' hR=>hR⟩
theorem q7i{q:Res}(h:FrR S q):FrR S (igc S q):=by
 unfold igc;cases (Nat.beq (q.wr % 2 ^ S.next) 0&&low2 S.next q.v) with
 | true=>exact⟨Nat.le_refl _,fun _ _ _=>rfl⟩
 | false =>
  refine⟨h.1,fun id hid hw=>h.2 id hid ?_⟩;have hw:(q.wr % 2 ^ S.next).testBit id=false:=hw;rw[Nat.testBit_mod_two_pow] at hw;simpa [hid] using hw
end
end Go.Jx
end

section
namespace Go.Jx
open Go Go.Sx Go.RowKit
universe u

def FrX(S S':IS)(wr:Nat):Prop:=S.next<=S'.next/\∀id,id<S.next->wr.testBit id=false->S'.H id=S.H id
theorem FrX.refl(S:IS)(wr:Nat):FrX S S wr:=⟨Nat.le_refl _,fun _ _ _=>rfl⟩
theorem FrX.trans{S S1 S2:IS}{w1 w2:Nat}(h:FrX S S1 w1)(k:FrX S1 S2 w2):FrX S S2 (w1 ||| w2) :=
 ⟨Nat.le_trans h.1 k.1,fun id hid hb=>by
  simp only[Nat.testBit_or,Bool.or_eq_false_iff] at hb;rw[k.2 id (Nat.lt_of_lt_of_le hid h.1) hb.2,h.2 id hid hb.1]⟩
theorem FrX.set(S:IS)(id:Nat)(o:IObj):FrX S (S.set id o) (2 ^ id) :=
 ⟨Nat.le_refl _,fun k hk hb=>by rw[IS.H_set,up_ne _ _ (qiu hb)]⟩
theorem FrX.new(S:IS)(o:IObj)(wr:Nat):FrX S (S.new o) wr :=
 ⟨Nat.le_succ _,fun k hk hb=>by rw[IS.H_new,up_ne _ _ (by omega)]⟩
theorem FrX.newTrans{S S':IS}{o:IObj}{wr:Nat}(k:FrX (S.new o) S' wr):FrX S S' wr:=by
 have:=(FrX.new S o 0).trans k
 rwa [Nat.zero_or] at this
theorem FrX.comm{S S':IS}{a b:Nat}(h:FrX S S' (a ||| b)):FrX S S' (b ||| a):=by rwa [Nat.or_comm]
def FrXB(B:Nat)(S S':IS)(wr:Nat):Prop:=B<=S'.next/\∀id,id<B->wr.testBit id=false->S'.H id=S.H id
theorem FrX.toB{B:Nat}{S S':IS}{wr:Nat}(hB:B<=S.next)(h:FrX S S' wr):FrXB B S S' wr:=⟨Nat.le_trans hB h.1,fun id hid hb=>h.2 id (Nat.lt_of_lt_of_le hid hB) hb⟩
theorem FrXB.trans{B:Nat}{S S1 S2:IS}{w1 w2:Nat}(h:FrXB B S S1 w1)(k:FrXB B S1 S2 w2):FrXB B S S2 (w1 ||| w2) :=
 ⟨k.1,fun id hid hb=>by
  simp only[Nat.testBit_or,Bool.or_eq_false_iff] at hb;rw[k.2 id hid hb.2,h.2 id hid hb.1]⟩
theorem FrXB.full{S S':IS}{wr:Nat}(h:FrXB S.next S S' wr):FrX S S' wr:=h
theorem qr6{S S':IS}{c:TC}{v v':IV}{w:Nat}(h:coeV S c v=some (v',S',w)):FrX S S' w:=by
 unfold coeV at h;split at h<;>try cases h
 ·exact FrX.new _ _ _
 ·split at h<;>try cases h
  rename_i c' l ho;cases hb:TC.beq c' c<;>rw[hb] at h<;>cases h;exact FrX.refl _ _
 ·rename_i id off len s cap0;split at h<;>try cases h
  rename_i cs ho;cases hb:(Nat.beq off 0&&Nat.beq s (csz c)&&Nat.ble (len*s) cs.length&&Nat.ble (len*bsz c) 140737488355328&&qpz c) with
  | false=>rw[hb] at h;cases h
  | true =>
  rw[hb,cond_true] at h;split at h<;>cases h;rename_i l _ _;have:=(FrX.set S id .dead).trans (FrX.new (S.set id .dead) (.arr c l) 0)
  rwa [Nat.or_zero] at this
theorem zak{nt:Nat}:∀(l:List (Nat × TC)) {fr fr':PT IV} {S S':IS} {w:Nat},coeS nt l fr S=some (fr',S',w)->FrX S S' w
 | [],fr,fr',S,S',w,h=>by cases h;exact FrX.refl _ _
 | (t,c)::l,fr,fr',S,S',w,h=>by
  simp only[coeS] at h;cases hb:Nat.blt t nt with
  | false=>rw[hb] at h;cases h
  | true =>
  rw[hb,cond_true] at h;split at h
  ·cases h
  rename_i h1;split at h<;>cases h;rename_i h2;exact(qr6 h1).trans (zak l h2)
theorem z1i{fr:PT IV}{S S':IS}{t off:Nat}{c:TC}{w:Nat}(h:qmq fr S t off c=some (S',w)):FrX S S' w:=by
 unfold qmq at h;split at h<;>try cases h
 split at h<;>try cases h
 split at h<;>try cases h
 split at h
 ·cases h
 rename_i h1;split at h<;>try cases h
 rename_i cs1 ho1;cases hb:Nat.blt _ cs1.length with
 | false=>rw[hb] at h;cases h
 | true =>
 rw[hb,cond_true] at h;cases h;exact(qr6 h1).trans (FrX.set _ _ _)
theorem zac{nt:Nat}{fr:PT IV}:∀(l:List (Nat × Nat × TC)) {S S':IS} {w:Nat},coeC nt fr l S=some (S',w)->FrX S S' w
 | [],S,S',w,h=>by cases h;exact FrX.refl _ _
 | (t,off,c)::l,S,S',w,h=>by
  simp only[coeC] at h;cases hb:Nat.blt t nt with
  | false=>rw[hb] at h;cases h
  | true =>
  rw[hb,cond_true] at h;split at h
  ·cases h
  rename_i h1;split at h<;>cases h;rename_i h2;exact(z1i h1).trans (zac l h2)
theorem qqo{kc vc:TC}{v:IV}{S S':IS}{w:Nat}(h:qfa S kc vc v=some (S',w)):FrX S S' w:=by
 unfold qfa at h;split at h<;>try cases h
 split at h<;>try cases h
 ·cases hb:(qea kc&&qea vc) with
  | false=>rw[hb] at h;cases h
  | true =>
  rw[hb,cond_true] at h;split at h<;>cases h;exact FrX.set _ _ _
 ·exact FrX.refl _ _
theorem q5h{nt:Nat}{fr:PT IV}:∀(l:List (Nat × TC × TC)) {S S':IS} {w:Nat},coeM nt fr l S=some (S',w)->FrX S S' w
 | [],S,S',w,h=>by cases h;exact FrX.refl _ _
 | (t,kc,vc)::l,S,S',w,h=>by
  simp only[coeM] at h;cases hb:Nat.blt t nt with
  | false=>rw[hb] at h;cases h
  | true =>
  rw[hb,cond_true] at h;split at h
  ·cases h
  rename_i h1;split at h<;>cases h;rename_i h2;exact(qqo h1).trans (q5h l h2)
theorem q7c{nt:Nat}{fr:PT IV}:∀(l:List (Nat × Nat × TC × TC)) {S S':IS} {w:Nat},coeD nt fr l S=some (S',w)->FrX S S' w
 | [],S,S',w,h=>by cases h;exact FrX.refl _ _
 | (t,off,kc,vc)::l,S,S',w,h=>by
  simp only[coeD] at h;cases hb:Nat.blt t nt with
  | false=>rw[hb] at h;cases h
  | true =>
  rw[hb,cond_true] at h;split at h
  ·cases h
  split at h
  ·cases h
  rename_i h1;split at h<;>cases h;rename_i h2;exact(FrX.refl S _).trans ((qqo h1).trans (q7c l h2))
theorem za9{S:IS}{B:Nat}:∀{k id:Nat},id<k->(qow S B k).testBit id=false->∀o,S.heap.get id=some o->lowO B o=true
 | 0,id,h,_,o,_=>absurd h (by omega)
 | k+1,id,h,hb,o,ho=>by
  unfold qow at hb;rw[Nat.testBit_or,Bool.or_eq_false_iff] at hb;by_cases e:id=k
  ·subst e;have h2:=hb.2;rw[ho] at h2;cases hl:lowO B o with
   | true=>rfl
   | false=>simp only[hl,cond_false,Nat.testBit_two_pow_self] at h2;cases h2
  ·exact za9 (by omega) hb.1 o ho
theorem za7:∀{ds:List Nat} {S S':IS} {w:Nat},qkd ds S=some (S',w)->FrX S S' w
 | [],S,S',w,h=>by cases h;exact FrX.refl _ _
 | D::ds,S,S',w,h=>by
  unfold qkd at h;split at h<;>try cases h
  split at h<;>cases h;rename_i h1;exact(FrX.set _ _ _).trans (za7 h1)
theorem zgw{nt B:Nat}{m:Option Nm}{fr:PT IV}{S:IS}{ds:List Nat}{x:NRes}(hB:B<=S.next)(h:qck nt m B fr S ds=some x):FrXB B S x.S x.wr:=by
 unfold qck at h;split at h
 ·cases h;exact(FrX.refl _ _).toB hB
 rename_i m;cases hfo:m.fo with
 | true=>rw[hfo,cond_true] at h;cases h;exact(FrX.refl _ _).toB hB
 | false =>
 rw[hfo,cond_false] at h;split at h
 ·cases h
 rename_i fr1 S1 w1 h1;split at h
 ·cases h
 rename_i S2 w2 h2;split at h
 ·cases h
 rename_i S3 w3 h3;split at h
 ·cases h
 rename_i S4 w4 h4;split at h
 ·cases h
 rename_i S5 w5 h5;simp only at h;generalize clos S5 B 1000 (m.keep.flatMap (fun t=>ids2 (slot fr1 t))++qo4 S5 B) []=q at h;cases hb:(ndB q&&q.all (fun id=>Nat.ble B id)) with
 | false=>rw[hb] at h;cases h
 | true =>
 rw[hb,cond_true] at h;cases h;have f4:=((zak _ h1).trans ((zac _ h2).trans ((q5h _ h3).trans ((q7c _ h4).trans (za7 h5))))).toB hB;refine f4.trans ⟨Nat.le_add_right _ _,fun id hid hbit=>?_⟩;rw[qz6,if_pos hid];unfold IS.H;cases ho:S5.heap.get id with
 | none=>rfl
 | some o=>simp only[qg6,za9 hid hbit o ho,cond_true]
section
variable {P : Program} {tt : Nat -> Option TI} {T : TW} {nt lf : Nat} {cl : Cl} {F : Fence} {round : Option Nat} {nm : Nat -> Option Nm} {B : Nat}
theorem q1i(hcl:ClFr cl){ops:List Oper}:∀{l:List Oper} {fr:PT IV} {S:IS} {q:FRes},iseq P tt nt cl ops l fr S=some q->FrX S q.S q.wr
 | [],fr,S,q,h=>by cases h;exact FrX.refl _ _
 | o::l,fr,S,q,h=>by
  unfold iseq at h;cases hgk:gOK ops fr o.guard with
  | false=>rw[hgk] at h;cases h
  | true =>
  rw[hgk,cond_true] at h;cases hw:qdh ops nt fr o.guard with
  | true =>
   rw[hw,cond_true] at h;split at h
   ·cases h
   rename_i r hr;split at h<;>cases h;rename_i q hq;exact FrX.trans (qte hcl _ hr) (q1i hcl hq)
  | false=>rw[hw,cond_false] at h;exact q1i hcl h
theorem q0d(hcl:ClFr cl){ops:List Oper}:∀{l:List Oper} {fr:PT IV} {S:IS} {q:Recs},qdl P tt nt cl ops l fr S=some q->FrX S q.S (orWr q.l)
 | [],fr,S,q,h=>by cases h;exact FrX.refl _ _
 | o::l,fr,S,q,h=>by
  unfold qdl at h;cases hgk:gOK ops fr o.guard with
  | false=>rw[hgk] at h;cases h
  | true =>
  rw[hgk,cond_true] at h;cases hw:qdh ops nt fr o.guard with
  | true =>
   rw[hw,cond_true] at h;split at h
   ·cases h
   rename_i r hr;split at h<;>cases h;rename_i q hq;exact FrX.trans (qte hcl _ hr) (q0d hcl hq)
  | false =>
   rw[hw,cond_false] at h;split at h<;>cases h;rename_i q hq;have:=q0d hcl hq;show FrX S q.S (0 ||| orWr q.l);rw[Nat.zero_or];exact this
theorem zpd(hcl:ClFr cl){ops:List Oper}{fr:PT IV}{S:IS}{q:FRes}(h:iany P tt nt cl ops fr S=some q):FrX S q.S q.wr:=by
 unfold iany at h;split at h
 ·cases h
 rename_i q0 hq;cases hc:ichk q0.l q0.S (befs ops []) [] with
 | true=>rw[hc,cond_true] at h;cases h;exact q0d hcl hq
 | false=>rw[hc] at h;cases h
theorem q70(hcl:ClFr cl){f:Nat}{caps:List IV}{S:IS}{id:Nat}{fr:PT IV}{ds:List Nat}{rd:Nat}{r:CRes}(h:ifin cl f caps S id fr ds rd=some r):FrX S r.S r.wr:=by
 unfold ifin at h;split at h
 ·cases h
 rename_i r1 hr1;have h1:FrX S r1.S r1.wr:=hcl _ _ _ _ hr1;split at h<;>try cases h
 split at h
 ·cases h
 ·split at h
  ·cases h;exact FrX.trans h1 (FrX.set _ _ _)
  ·split at h<;>cases h;exact FrX.trans h1 (FrX.set _ _ _)
theorem q0c{B:Nat}{S:IS}{r:CRes}(h:FrXB B S r.S r.wr):FrXB B S (mbR B r).S (mbR B r).wr:=by
 refine⟨h.1,fun id hid hb=>?_⟩;have hb:(mb B r.wr).testBit id=false:=hb;unfold mb at hb;cases h0:Nat.beq B 0 with
 | true =>
  have:B=0:=Nat.eq_of_beq_eq_true h0;omega
 | false=>rw[h0] at hb;exact h.2 id hid hb
theorem qyv(hz:frzF nm=false)(hcl:ClFr cl):∀(c:Code) {fr:PT IV} {S:IS} {ds:List Nat} {r:CRes},B<=S.next->qam P tt nm B nt cl lf round c fr S ds=some r->FrXB B S r.S r.wr:=by
 have eB:mB nm B=B:=by unfold mB;rw[hz];rfl
 intro c;induction c with
 | skip=>intro fr S ds r hB h;cases h;exact(FrX.refl _ _).toB hB
 | label l=>intro fr S ds r hB h;cases h;exact(FrX.refl _ _).toB hB
 | exit id=>intro fr S ds r hB h;cases h;exact(FrX.refl _ _).toB hB
 | goto l=>intro fr S ds r hB h;cases h;exact(FrX.refl _ _).toB hB
 | ret=>intro fr S ds r hB h;cases h;exact(FrX.refl _ _).toB hB
 | refuse _=>intro fr S ds r hB h;cases h
 | region id ops draw =>
  intro fr S ds r hB h;simp only[qam] at h;have h0:=qhp h;clear h;obtain⟨r,h,rfl⟩:=h0;rw[eB];refine q0c ?_;split at h
  ·cases h
  rename_i x hx;split at h<;>cases h;rename_i q hq;have h0:=zgw hB hx;cases draw with
  | true=>rw[cond_true] at hq;exact h0.trans ((zpd hcl hq).toB h0.1)
  | false=>rw[cond_false] at hq;exact h0.trans ((q1i hcl hq).toB h0.1)
 | seq x y ihx ihy =>
  intro fr S ds r hB h;simp only[qam] at h;split at h
  ·cases h
  rename_i r1 hr1;split at h
  ·split at h<;>cases h;rename_i q hq;exact FrXB.trans (ihx hB hr1) (ihy (ihx hB hr1).1 hq)
  ·cases h;exact ihx hB hr1
 | cond c x y ihx ihy =>
  intro fr S ds r hB h;simp only[qam] at h;split at h<;>try cases h
  rename_i b hb;cases b with
  | true=>exact ihx hB h
  | false=>exact ihy hB h
 | block id c ih =>
  intro fr S ds r hB h;simp only[qam] at h;split at h
  ·cases h
  rename_i r1 hr1;split at h
  ·rename_i id' he;cases hid:Nat.beq id' id with
   | true=>rw[hid,cond_true] at h;cases h;exact(ih hB hr1:FrXB B S r1.S r1.wr)
   | false=>rw[hid,cond_false] at h;cases h;exact ih hB hr1
  ·cases h;exact ih hB hr1
 | scope c ih =>
  intro fr S ds r hB h;simp only[qam] at h;split at h
  ·cases h
  rename_i r1 hr1;split at h
  ·cases h
  ·cases h;exact ih hB hr1
 | loop c ih =>
  intro fr S ds r hB h;simp only[qam] at h;split at h
  ·rename_i m hm;have h0:=qhp h;clear h;obtain⟨r,h,rfl⟩:=h0;rw[eB];refine q0c ?_;have key:∀(j:Nat) (fr:PT IV) (S:IS) (ds:List Nat) (r:CRes),B<=S.next->qc4 (qam P tt nm B nt cl lf round c) m.1 m.2 j fr S ds=some r->FrXB B S r.S m.2/\r.wr=m.2:=by
    intro j;induction j with
    | zero=>intro fr S ds r hB h;cases h
    | succ j ihj =>
     intro fr S ds r hB h;unfold qc4 at h;split at h
     ·cases h
     rename_i r1 hr1;cases hb:(subm r1.rd m.1&&subm r1.wr m.2) with
     | false=>rw[hb] at h;cases h
     | true =>
     rw[hb,cond_true] at h;simp only[Bool.and_eq_true] at hb;have f1:=ih hB hr1;have e:r1.wr ||| m.2=m.2:=Nat.eq_of_beq_eq_true hb.2;split at h
     ·obtain⟨f2,e2⟩:=ihj _ _ _ _ f1.1 h;have:=f1.trans f2;rw[e] at this;exact⟨this,e2⟩
     ·cases h;have:=f1.trans (FrX.refl r1.S m.2 |>.toB f1.1);rw[e] at this;exact⟨this,rfl⟩
   obtain⟨k1,k2⟩:=key _ _ _ _ _ hB h;rw[k2];exact k1
  have key:∀(j:Nat) (fr:PT IV) (S:IS) (ds:List Nat) (r:CRes),B<=S.next->qeu (qam P tt nm B nt cl lf round c) j fr S ds=some r->FrXB B S r.S r.wr:=by
   intro j;induction j with
   | zero=>intro fr S ds r hB h;cases h
   | succ j ihj =>
    intro fr S ds r hB h;unfold qeu at h;split at h
    ·cases h
    rename_i r1 hr1;split at h
    ·split at h<;>cases h;rename_i q hq;exact FrXB.trans (ih hB hr1) (ihj _ _ _ _ (ih hB hr1).1 hq)
    ·cases h;exact ih hB hr1
  exact key _ _ _ _ _ hB h
 | rangeFunc g ps assign body ih1 ih2 =>
  intro fr S ds r hB h;simp only[qam] at h;have h0:=qhp h;clear h;obtain⟨r,h,rfl⟩:=h0;rw[eB];refine q0c ?_;split at h<;>try cases h
  split at h
  ·exact(FrX.newTrans (FrX.newTrans (q70 hcl h))).toB hB
  ·split at h<;>try cases h
   exact(FrX.newTrans (q70 hcl h)).toB hB

def qds:List Nat->List IV->PT IV->PT IV
 | t::ts,v::vs,fr=>qds ts vs (fr.set v t)
 | _,_,fr=>fr
theorem q16{E:Env}:∀{ps:List Nat} {vs:List IV} {us:List Value} {fr:PT IV} {tmps:Array Value},VRs E vs us->FR E nt fr tmps->FR E nt (qds ps vs fr) ((ps.zip us).foldl (fun tmps (t,a)=>tmps.setIfInBounds t a) tmps)
 | [],vs,us,fr,tmps,hv,hf=>by simpa [qds] using hf
 | t::ps,[],us,fr,tmps,hv,hf=>by
  have:=hv.1;cases us with
  | nil=>simpa [qds] using hf
  | cons u us=>simp at this
 | t::ps,v::vs,us,fr,tmps,hv,hf=>by
  obtain⟨u,us,rfl,h1,h2⟩:=hv.inv;simp only[qds,List.zip_cons_cons,List.foldl_cons];exact q16 h2 (hf.put h1)
def qdt:IEx->Option Code
 | .normal=>none
 | .ret=>some .ret
 | .exit id=>some (.exit id)
 | .goto l=>some (.goto l)
def qe1(P:Program)(tt:Nat->Option TI)(cl:Cl)(lf:Nat)(id:Nat)(vs:List IV)(S:IS):Option Res :=
 match S.heap.get id with
 | some (.loop .ready _ nt fr ps assign body _)=>cond (Nat.beq vs.length ps.length&&qa9 assign&&qa9 body)
  (match qam P tt (fun _=>none) S.next nt cl lf (some id) assign (qds ps vs fr) S [] with
  | none=>none
  | some r1=>match r1.e with
   | .normal=>match r1.S.heap.get id with
    | some (.loop .ready pend nt2 fr2 ps2 as2 bd2 D2)=>match qam P tt (fun _=>none) S.next nt cl lf (some id) body r1.fr (r1.S.set id (.loop .busy pend nt2 fr2 ps2 as2 bd2 D2)) r1.ds with
     | none=>none
     | some r2=>match r2.S.heap.get id with
      | some (.loop _ _ nt3 fr3 ps3 as3 bd3 D3)=>some ⟨.bool (qdt r2.e).isNone,r2.S.set id (.loop (if (qdt r2.e).isNone then .ready else .done) (qdt r2.e) nt3 fr3 ps3 as3 bd3 D3),2 ^ id ||| (r1.rd ||| r2.rd),(r1.wr ||| 2 ^ id) ||| (r2.wr ||| 2 ^ id)⟩
      | _=>none
    | _=>none
   | _=>none) none
 | _=>none
theorem z02(hcl:ClFr cl){id:Nat}{vs:List IV}{S:IS}:FrO S (qe1 P tt cl lf id vs S):=by
 intro r h;unfold qe1 at h;split at h<;>try cases h
 rename_i x nt fr ps assign body y hobj;cases hb:(Nat.beq vs.length ps.length&&qa9 assign&&qa9 body) with
 | false=>rw[hb] at h;cases h
 | true =>
 rw[hb,cond_true] at h;split at h
 ·cases h
 rename_i r1 hr1;split at h<;>try cases h
 split at h<;>try cases h
 split at h
 ·cases h
 rename_i r2 hr2;split at h<;>cases h;have a1:=qyv rfl hcl _ (Nat.le_refl _) hr1;have a3:=qyv (S:=r1.S.set id _) rfl hcl _ a1.1 hr2;exact(a1.trans ((FrX.set r1.S id _).toB a1.1)).trans (a3.trans ((FrX.set r2.S id _).toB a3.1))
theorem zkp(hm:P.follows .mixedOrders=true)(hcl:ClOK P cl)(hfr:ClFr cl)(htt:TT P tt){id:Nat}{vs:List IV}{S:IS}{r:Res}(h:qe1 P tt cl lf id vs S=some r)
  (T:TW) (E:Env) (us:List Value) (p:Pre T E S) (hrd:tin T.r r.rd) (hwr:tin T.w r.wr) (hv:VRs E vs us) (hA:E.A id):YieldAt Fence.wide 0 P (E.ρ id) us.toArray E.w (RetE T E S r):=by
 unfold qe1 at h;split at h<;>try cases h
 rename_i pd nt fr ps assign body D hobj;cases hb:(Nat.beq vs.length ps.length&&qa9 assign&&qa9 body) with
 | false=>rw[hb] at h;cases h
 | true =>
 rw[hb,cond_true] at h;simp only[Bool.and_eq_true] at hb;obtain⟨⟨hb1,hb2⟩,hb3⟩:=hb;have hlen:=Nat.eq_of_beq_eq_true hb1;split at h
 ·cases h
 rename_i r1 hr1;split at h<;>try cases h
 rename_i he1;split at h<;>try cases h
 rename_i pend nt2 fr2 ps2 as2 bd2 D2 hobj1;split at h
 ·cases h
 rename_i r2 hr2;split at h<;>cases h;rename_i st3 pd3 nt3 fr3 ps3 as3 bd3 D3 hobj2;obtain⟨t1,t2⟩:=qar hrd;obtain⟨t3,t4⟩:=qar t2;obtain⟨v1,v2⟩:=qar hwr;obtain⟨v3,v4⟩:=qar v1;obtain⟨v5,_⟩:=qar v2;obtain⟨fn,tmps,g1,g2,g3⟩:=p.st.objs id (qai t1) hA _ hobj;have hy:=run_yield (P:=P) (args:=us.toArray) g1 (by simp only[List.size_toArray];rw[<- hv.1,hlen]);have hz:(ps.toArray.zip us.toArray).foldl (fun tmps (t,a)=>tmps.setIfInBounds t a) tmps=(ps.zip us).foldl (fun tmps (t,a)=>tmps.setIfInBounds t a) tmps:=by
  simp[List.zip_toArray]
 refine⟨fn,_,assign,body,hy,roundIn_of_wpIn trivial ?_⟩;have hFp:(Fence.wide.inRound (E.ρ id)).plain=Fence.wide:=rfl;refine qiy (T:=T) (E:=E) (a:={ tmps:=_,defers:=[] }) (S:=S) (ds:=[]) (round:=some id) (B:=S.next) (fun h=>(by cases h)) hm hFp hcl hfr htt assign hb2 p (Nat.le_refl _) p.nw ?_ (DS.nil (N:=0) (Nat.zero_le _)) (fun _=>⟨rfl,hA,p.bnd id hA⟩) hr1 t3 v3 ?_
 ·have:=q16 (ps:=ps) hv g2;rw[<- hz] at this;exact this
 intro E1 a1 k1 k2 kB;obtain⟨k3,k4⟩:=kB.full p;rw[he1];have p1:=k3.pre p;have hle1:=k3.env p;obtain⟨a1',a2',a3'⟩:=hle1.alw id hA;obtain⟨fn1,tmps1,g1',g2',g3'⟩:=p1.st.objs id (qai t1) a1' _ hobj1;rw[a2'] at g1';have hbg:=run_beginRound (P:=P) g1' rfl;have hL:Live E1 r1.S.H id:=⟨p1.st.blk id (qai t1) a1' _ hobj1 rfl,_,hobj1,rfl⟩;have hu1:Upd [E1.ρ id] E1.w (E1.w.putObj (E.ρ id) (.loop { state:=.busy,pending:=pend,fn:=fn1,tmps:=tmps1,params:=ps2.toArray,assign:=as2,body:=bd2,defers:=E1.ρ D2 })):=by rw[a2'];exact Upd.putObj _ _ _
 obtain⟨q1,q2⟩:=Post.write p1 (o':=.loop .busy pend nt2 fr2 ps2 as2 bd2 D2) (qai v4) a1' hL hu1
  ⟨fn1,tmps1,by
   rw[show (E1.at_ (E1.w.putObj (E.ρ id) (.loop { state:=.busy,pending:=pend,fn:=fn1,tmps:=tmps1,params:=ps2.toArray,assign:=as2,body:=bd2,defers:=E1.ρ D2 }))).ρ id=E.ρ id from a2'];exact World.putObj_heap_same (qaw g1'),FR.mono (Env.at_le p1.st (qai v4) a1' hL hu1) g2',g3'⟩
 have p2:=q1.pre p1;have hle2:=q1.env p1;have q3:=Post.trans p k3 k4 q1;have q4:=k4.trans q2 k3.le;refine⟨_,hbg,?_⟩;obtain⟨E2,hE2⟩:∃E2,E1.at_ (E1.w.putObj (E.ρ id) (.loop { state:=.busy,pending:=pend,fn:=fn1,tmps:=tmps1,params:=ps2.toArray,assign:=as2,body:=bd2,defers:=E1.ρ D2 }))=E2:=⟨_,rfl⟩;have hw2:E1.w.putObj (E.ρ id) (.loop { state:=.busy,pending:=pend,fn:=fn1,tmps:=tmps1,params:=ps2.toArray,assign:=as2,body:=bd2,defers:=E1.ρ D2 })=E2.w:=by rw[<- hE2];rfl
 have hleE2:E.Le E2:=by rw[<- hE2];exact hle1.trans hle2
 rw[hE2] at p2 hle2 q3 q4;show body.wpIn _ 0 P _ a1 (E1.w.putObj (E.ρ id) (.loop { state:=.busy,pending:=pend,fn:=fn1,tmps:=tmps1,params:=ps2.toArray,assign:=as2,body:=bd2,defers:=E1.ρ D2 }));rw[hw2];obtain⟨b1,b2,b3⟩:=hleE2.alw id hA;refine qiy (T:=T) (E:=E2) (a:=a1) (round:=some id) (B:=S.next) (fun h=>(by cases h)) hm hFp hcl hfr htt body hb3 p2 q3.le p.nw (k1.mono hle2) (k2.mono hle2 (by rw[<- hE2];exact q1.stp.size)) (fun _=>⟨by show some (E.ρ id)=some (E2.ρ id);rw[b2],b1,p.bnd id hA⟩) hr2 t4 v5 ?_;intro E3 a3 m1 m2 mB;obtain⟨q5,q6⟩:=PostB.full p ((PostB.of (Nat.le_refl _) p.nw q3 q4).trans mB);have p3:=q5.pre p;have hle3:=q5.env p;obtain⟨c1,c2,c3⟩:=hle3.alw id hA;obtain⟨fn3,tmps3,g13,g23,g33⟩:=p3.st.objs id (qai t1) c1 _ hobj2;rw[c2] at g13;have hend:=fun j=>run_endRound (P:=P) j g13;have hL3:Live E3 r2.S.H id:=⟨p3.st.blk id (qai t1) c1 _ hobj2 rfl,_,hobj2,rfl⟩;have fin:∀(st:LoopState) (pe:Option Code),RetE T E S ⟨.bool pe.isNone,r2.S.set id (.loop st pe nt3 fr3 ps3 as3 bd3 D3),2 ^ id ||| (r1.rd ||| r2.rd),(r1.wr ||| 2 ^ id) ||| (r2.wr ||| 2 ^ id)⟩ (.returned (.bool pe.isNone)) (E3.w.putObj (E.ρ id) (.loop { state:=st,pending:=pe,fn:=fn3,tmps:=tmps3,params:=ps3.toArray,assign:=as3,body:=bd3,defers:=E3.ρ D3 })):=fun st pe=>by
  have hu3:Upd [E3.ρ id] E3.w (E3.w.putObj (E.ρ id) (.loop { state:=st,pending:=pe,fn:=fn3,tmps:=tmps3,params:=ps3.toArray,assign:=as3,body:=bd3,defers:=E3.ρ D3 })):=by rw[c2];exact Upd.putObj _ _ _
  obtain⟨z1,z2⟩:=Post.write p3 (o':=.loop st pe nt3 fr3 ps3 as3 bd3 D3) (qai v4) c1 hL3 hu3
   ⟨fn3,tmps3,by
    rw[show (E3.at_ (E3.w.putObj (E.ρ id) (.loop { state:=st,pending:=pe,fn:=fn3,tmps:=tmps3,params:=ps3.toArray,assign:=as3,body:=bd3,defers:=E3.ρ D3 }))).ρ id=E.ρ id from c2];exact World.putObj_heap_same (qaw g13),FR.mono (Env.at_le p3.st (qai v4) c1 hL3 hu3) g23,g33⟩
  exact⟨_,_,rfl,rfl,.bool _,Post.trans p q5 q6 z1,q6.trans z2 q5.le⟩
 cases he:r2.e with
 | normal=>exact⟨_,_,hend none,by simpa [he,qdt] using fin .ready none⟩
 | ret=>exact⟨_,_,hend (some .ret),by simpa [he,qdt] using fin .done (some .ret)⟩
 | exit i=>exact⟨_,_,hend (some (.exit i)),by simpa [he,qdt] using fin .done (some (.exit i))⟩
 | goto l=>exact⟨_,_,hend (some (.goto l)),by simpa [he,qdt] using fin .done (some (.goto l))⟩

def qeh(tt:Nat->Option TI)(nt:Nat)(res:List ResultVar)(S0:IS)(r:CRes):Option Res :=
 match qfy r.ds r.S with
 | none=>none
 | some (S',wr)=>match ires tt nt r.fr S' res with
  | none=>none
  | some (vs,rd)=>some (igc S0 ⟨tupI vs,S',r.rd ||| rd,r.wr ||| wr⟩)
def IEx.leaves:IEx->Bool
 | .normal=>true
 | .ret=>true
 | _=>false
def Calm(cl:Cl):Prop:=∀tgt vs S r,cl tgt vs S=some r->r.wr=0->low2 S.next r.v=true->r.S=S
abbrev Ex:=Nat->Option (Cl->List IV->IS->Option Res)
structure ExOK (P:Program) (ex:Ex):Prop where
 fn:∀f g,ex f=some g->∀cl,ClOK P cl->ClFr cl->Calm cl->∀vs S r,g cl vs S=some r->∀(T:TW) (E:Env) (us:List Value),Pre T E S->tin T.r r.rd->tin T.w r.wr->VRs E vs us->qah P f/\CallsIn Fence.wide 0 P f us.toArray E.w (RetE T E S r)
 fr:∀f g,ex f=some g->∀cl,ClFr cl->∀vs S,FrO S (g cl vs S)
 calm:∀f g,ex f=some g->∀cl,Calm cl->∀vs S r,g cl vs S=some r->r.wr=0->low2 S.next r.v=true->r.S=S
def qcg(P:Program)(tt:Nat->Option TI)(ft:Nat->Option FI)(nm:Nat->Nat->Option Nm)(ex:Ex)(lf:Nat):Nat->Cl
 | 0,_,_,_=>none
 | n+1,tgt,vs,S=>match tgt with
  | .yield id=>qe1 P tt (qcg P tt ft nm ex lf n) lf id vs S
  | .fn f=>match ex f with
   | some g=>g (qcg P tt ft nm ex lf n) vs S
   | none=>match ft f with
    | none=>none
    | some fi=>cond (frzF (nm f)) none (cond (Nat.ble vs.length fi.nt) (match qam P tt (nm f) S.next fi.nt (qcg P tt ft nm ex lf n) lf none fi.body (qal vs 0 .leaf) S [] with
    | none=>none
    | some r=>cond r.e.leaves (qeh tt fi.nt fi.res S r) none) none)
theorem q6q:∀{ds:List Nat} {S S':IS} {wr:Nat},qfy ds S=some (S',wr)->FrX S S' wr
 | [],S,S',wr,h=>by cases h;exact FrX.refl _ _
 | D::ds,S,S',wr,h=>by
  unfold qfy at h;split at h<;>try cases h
  split at h<;>cases h;rename_i S' wr hm;exact FrX.trans (FrX.set _ _ _) (q6q hm)
theorem zh1{res:List ResultVar}{S0:IS}{r:CRes}(h0:FrX S0 r.S r.wr):FrO S0 (qeh tt nt res S0 r):=by
 intro q h;unfold qeh at h;split at h
 ·cases h
 rename_i S' wr hm;split at h<;>cases h;exact q7i (FrX.trans h0 (q6q hm))
variable {ft : Nat -> Option FI} {nmt : Nat -> Nat -> Option Nm} {ex : Ex}
theorem qgf(hex:ExOK P ex):∀n,ClFr (qcg P tt ft nmt ex lf n)
 | 0=>fun tgt vs S=>FrO.none
 | n+1=>fun tgt vs S=>by
  unfold qcg;cases tgt with
  | yield id=>exact z02 (qgf hex n)
  | fn f =>
   simp only;split
   ·rename_i g hg;exact hex.fr f g hg _ (qgf hex n) vs S
   split
   ·exact FrO.none
   rename_i fi hfi;cases hz:frzF (nmt f) with
   | true=>exact FrO.none
   | false =>
   simp only[cond_false];apply FrO.cond
   ·split
    ·exact FrO.none
    rename_i r hr;apply FrO.cond
    ·exact zh1 (qyv hz (qgf hex n) _ (Nat.le_refl _) hr).full
    ·exact FrO.none
   ·exact FrO.none
theorem zx4{id:Nat}{vs:List IV}{S:IS}{r:Res}(h:qe1 P tt cl lf id vs S=some r)(hw:r.wr=0):False:=by
 unfold qe1 at h;split at h<;>try cases h
 rename_i pe nt fr ps assign body D ho;cases hb:(Nat.beq vs.length ps.length&&qa9 assign&&qa9 body) with
 | false=>rw[hb] at h;cases h
 | true =>
 rw[hb,cond_true] at h;split at h
 ·cases h
 split at h<;>try cases h
 split at h<;>try cases h
 split at h
 ·cases h
 split at h<;>cases h;have h1:=(or_zero hw).1;have h2:=(or_zero h1).2;have:=Nat.one_le_two_pow (n:=id);omega
theorem zfr{S:IS}{q:Res}(hw:(igc S q).wr=0)(hv:low2 S.next (igc S q).v=true):(igc S q).S=S:=by
 unfold igc at hw hv ⊢;cases hb:(Nat.beq (q.wr % 2 ^ S.next) 0&&low2 S.next q.v) with
 | true=>rfl
 | false =>
  rw[hb,cond_false] at hw hv;rw[Bool.and_eq_false_iff] at hb;rcases hb with hb|hb
  ·rw[show q.wr % 2 ^ S.next=0 from hw] at hb;cases hb
  ·rw[show low2 S.next q.v=true from hv] at hb;cases hb
theorem zde(hex:ExOK P ex):∀n,Calm (qcg P tt ft nmt ex lf n)
 | 0=>fun tgt vs S r h=>by cases h
 | n+1=>fun tgt vs S r h hw hv=>by
  unfold qcg at h;cases tgt with
  | yield id=>exact(zx4 h hw).elim
  | fn f =>
   simp only at h;split at h
   ·rename_i g hg;exact hex.calm f g hg _ (zde hex n) vs S r h hw hv
   split at h
   ·cases h
   rename_i fi hfi;cases hz:frzF (nmt f) with
   | true=>rw[hz] at h;cases h
   | false =>
   rw[hz,cond_false] at h;cases hb:Nat.ble vs.length fi.nt with
   | false=>rw[hb] at h;cases h
   | true =>
   rw[hb,cond_true] at h;split at h
   ·cases h
   rename_i r1 hr1;cases hl:r1.e.leaves with
   | false=>rw[hl] at h;cases h
   | true =>
   rw[hl,cond_true] at h;unfold qeh at h;split at h
   ·cases h
   split at h<;>cases h;exact zfr hw hv
theorem q8e{fi:FI}{f:Nat}{nm:Nat->Option Nm}{vs:List IV}{S:IS}{r1:CRes}{r:Res}(hz:frzF nm=false)(hm:P.follows .mixedOrders=true)(htt:TT P tt)
  (hfi:∃fn,P.funcs[f]?=some fn/\fn.body=some fi.body/\fn.ntmps=fi.nt/\fn.results=fi.res.toArray/\(fn.name == "runtime.NumGoroutine") = false/\qa9 fi.body=true) (hcl:ClOK P cl) (hfr:ClFr cl)
  (hb:Nat.ble vs.length fi.nt=true) (hr1:qam P tt nm S.next fi.nt cl lf none fi.body (qal vs 0 .leaf) S []=some r1) (hl:r1.e.leaves=true) (h:qeh tt fi.nt fi.res S r1=some r)
  {T:TW} {E:Env} {us:List Value} (p:Pre T E S) (hrd:tin T.r r.rd) (hwr:tin T.w r.wr) (hv:VRs E vs us):qah P f/\CallsIn Fence.wide 0 P f us.toArray E.w (RetE T E S r):=by
 unfold qeh at h;split at h
 ·cases h
 rename_i S' wr hmk;split at h<;>cases h;rename_i vs' rd' hres;obtain⟨fn,f1,f2,f3,f4,f5,f6⟩:=hfi;refine⟨⟨fn,f1,by rw[f2];rfl,f5⟩,?_⟩;obtain⟨T',p',t1,t2,hback⟩:=zc3 p hrd hwr;obtain⟨u1,u2⟩:=qar t1;obtain⟨u3,u4⟩:=qar t2;refine callsIn_of_wp_marks f1 f2 trivial ?_;refine qiy (T:=T') (E:=E) (S:=S) (ds:=[]) (round:=none) (B:=S.next) (fun h=>by rw[hz] at h;cases h) hm rfl hcl hfr htt fi.body f6 p' (Nat.le_refl _) p'.nw ?_ (DS.nil (N:=E.w.heap.size) (Nat.le_refl _)) (fun _=>rfl) hr1 u1 u3 ?_
 ·have:=FR.enter (nt:=fi.nt) hv (Nat.le_of_ble_eq_true hb);rw[f3];exact this
 intro E1 a1 k1 k2 kB;obtain⟨k3,k4⟩:=kB.full p';have hlv:LeavesInM Fence.wide 0 P fn a1.tmps (RetE T E S (igc S ⟨tupI vs',S',r1.rd ||| rd',r1.wr ||| wr⟩)) a1.defers .returning E1.w:=by
  refine q0a (E0:=E) (S0':=S) (B:=S.next) (Nat.le_refl _) p'.nw (k3.pre p') k2 kB hmk u4 fun E2 hq p2 hv=>?_;obtain⟨us',h1,h2⟩:=qo3 htt p2 ⟨k1.size,fun t ht=>hv _ _ (k1.get t ht)⟩ hres u2;have h3:=zeq (P:=P) (w:=E2.w) f4 h1;refine⟨qik us',h3,?_⟩;exact hback _ _ ⟨_,E2,rfl,rfl,zek h2,hq.full p'⟩
 cases he:r1.e with
 | normal=>rw[he] at *;exact hlv
 | ret=>exact hlv
 | exit i=>rw[he] at hl;cases hl
 | goto l=>rw[he] at hl;cases hl
theorem qmk(hm:P.follows .mixedOrders=true)(htt:TT P tt)(hft:FT P ft)(hex:ExOK P ex):∀n,ClOK P (qcg P tt ft nmt ex lf n)
 | 0=>⟨fun _ _ _ _ h=>(by cases h),fun _ _ _ _ h=>(by cases h)⟩
 | n+1=>by
  refine⟨fun f vs S r h T E us p hrd hwr hv=>?_,fun id vs S r h T E us p hrd hwr hv hA=>?_⟩
  ·unfold qcg at h;simp only at h;split at h
   ·rename_i g hg;exact hex.fn f g hg _ (qmk hm htt hft hex n) (qgf hex n) (zde hex n) vs S r h T E us p hrd hwr hv
   split at h
   ·cases h
   rename_i fi hfi;cases hz:frzF (nmt f) with
   | true=>rw[hz] at h;cases h
   | false =>
   rw[hz,cond_false] at h;cases hb:Nat.ble vs.length fi.nt with
   | false=>rw[hb] at h;cases h
   | true =>
   rw[hb,cond_true] at h;split at h
   ·cases h
   rename_i r1 hr1;cases hl:r1.e.leaves with
   | false=>rw[hl] at h;cases h
   | true =>
   rw[hl,cond_true] at h;exact q8e hz hm htt (hft f fi hfi) (qmk hm htt hft hex n) (qgf hex n) hb hr1 hl h p hrd hwr hv
  ·unfold qcg at h;simp only at h;exact zkp hm (qmk hm htt hft hex n) (qgf hex n) htt h T E us p hrd hwr hv hA

end
end Go.Jx
end

section
namespace Go.Jx
open Go Go.Sx Go.RowKit
universe u

def ElA:List TC->Type
 | []=>Unit
 | c::cs=>El c × ElA cs
def argV:(cs:List TC)->ElA cs->List IV
 | [],_=>[]
 | c::cs,x=>asIV c x.1::argV cs x.2
def ElR:List (Bool × TC)->Type
 | []=>Unit
 | (true,c)::cs=>List (El c) × ElR cs
 | (false,c)::cs=>El c × ElR cs
def resV:(cs:List (Bool × TC))->Nat->ElR cs->List IV
 | [],_,_=>[]
 | (true,c)::cs,n,x=>.arr n::resV cs (n+1) x.2
 | (false,c)::cs,n,x=>asIV c x.1::resV cs n x.2
def resO:(cs:List (Bool × TC))->ElR cs->List IObj
 | [],_=>[]
 | (true,c)::cs,x=>.arr c x.1::resO cs x.2
 | (false,c)::cs,x=>resO cs x.2
def addO:List IObj->IS->IS
 | [],S=>S
 | o::l,S=>addO l (S.new o)
theorem qc3:∀(l:List IObj) (S:IS),(addO l S).next=S.next+l.length
 | [],S=>rfl
 | o::l,S=>by unfold addO;rw[qc3 l];simp [IS.new];omega
theorem qcb:∀(l:List IObj) (S:IS) (k:Nat),(addO l S).H k=if k<S.next then S.H k else if k<S.next+l.length then l[k-S.next]? else S.H k
 | [],S,k=>by
  simp only[addO,List.length_nil,Nat.add_zero];by_cases h:k<S.next
  ·rw[if_pos h]
  ·rw[if_neg h,if_neg h]
 | o::l,S,k=>by
  unfold addO;rw[qcb l];have e:(S.new o).next=S.next+1:=rfl
  rw[e,IS.H_new];by_cases h1:k<S.next
  ·rw[if_pos (by omega),if_pos h1,up_ne _ _ (by omega)]
  ·rw[if_neg h1];by_cases h2:k=S.next
   ·subst h2;rw[if_pos (by omega),qaj,if_pos (by simp)];simp
   ·rw[if_neg (by omega),up_ne _ _ h2];simp only[List.length_cons];by_cases h3:k<S.next+(l.length+1)
    ·rw[if_pos (by omega),if_pos h3,show k-S.next=(k-(S.next+1))+1 by omega,List.getElem?_cons_succ]
    ·rw[if_neg (by omega),if_neg h3]
def scal:TC->Bool
 | .list _=>false
 | .two a b=>scal a&&scal b
 | _=>true
structure Sm where
 pts:List TC
 rts:List (Bool × TC)
 f:ElA pts->Option (ElR rts)
def Sm.flat(s:Sm):Bool:=s.rts.all fun r=>scal r.2
def EM(M:List Nat)(w:World):Env:=⟨fun _=>0,fun _=>0,fun _=>.nilFunc,fun _=>false,fun _=>False,M,w⟩
def S0:IS:=⟨.leaf,0⟩
def T0:TW:=⟨fun _=>True,fun _=>True,fun _ h=>h⟩
theorem preM{M:List Nat}{w:World}(h:∀b∈M,b<w.heap.size)(g:Gl M w):Pre T0 (EM M w) S0 :=
 ⟨⟨fun id _ h=>h.elim,fun id _ h=>h.elim,fun id _ h=>h.elim,fun i j _ _ h=>h.elim,h⟩,fun id h=>h.elim,fun id _=>trivial,g⟩
structure Con (P:Program) (f:Nat) (s:Sm):Prop where
 callable:qah P f
 calls:∀(M:List Nat) (w:World) (x:ElA s.pts) (us:List Value) (y:ElR s.rts),s.f x=some y->(∀b∈M,b<w.heap.size)->Gl M w->VRs (EM M w) (argV s.pts x) us ->
  CallsIn Fence.wide 0 P f us.toArray w (RetE T0 (EM M w) S0 ⟨tupI (resV s.rts 0 y),addO (resO s.rts y) S0,0,0⟩)

def fitV:TC->IV->Bool
 | .two _ _,.agg _=>true
 | .two _ _,_=>false
 | _,.agg _=>false
 | _,.unk=>false
 | _,.tup _=>false
 | _,_=>true
def qek:(cs:List TC)->IS->List IV->Option (ElA cs × IS × Nat)
 | [],S,vs=>match vs with
  | []=>some ((),S,0)
  | _=>none
 | c::cs,S,vs=>match vs with
  | v::vs=>cond (fitV c v) (match icl c S (cellsOf v) with
   | some (x,[],S1,w1)=>match qek cs S1 vs with
    | some (xs,S2,w2)=>some ((x,xs),S2,w1 ||| w2)
    | none=>none
   | _=>none) none
  | _=>none
def exf(s:Sm)(vs:List IV)(S:IS):Option Res :=
 match qek s.pts S vs with
 | none=>none
 | some (x,S1,w)=>match s.f x with
  | none=>none
  | some y=>cond s.flat (some ⟨tupI (resV s.rts S.next y),addO (resO s.rts y) S,w,0⟩) (some ⟨tupI (resV s.rts S1.next y),addO (resO s.rts y) S1,0,w⟩)
section
variable {P : Program} {E : Env} {S : IS} {T : TW}
theorem qy3{E0 E:Env}{c:TC}{x:El c}{v:IV}{u:Value}(hf:fitV c v=true)(hv:VR E0 v u)(h:VRs E (cel c x) u.cells.toList):VR E (asIV c x) u:=by
 have hone:(∀a b,c≠.two a b)->u.cells.toList=[u]:=fun hc=>by
  cases c with
  | two a b=>exact absurd rfl (hc a b)
  | int k=>cases hv<;>first|rfl|cases hf
  | bool=>cases hv<;>first|rfl|cases hf
  | str=>cases hv<;>first|rfl|cases hf
  | list c=>cases hv<;>first|rfl|cases hf
 cases c with
 | two a b =>
  cases hv<;>try cases hf
  exact .agg h.1 h.2
 | int k=>rw[hone (by simp)] at h;exact h.2 0 (by simp[cel]) (by simp)
 | bool=>rw[hone (by simp)] at h;exact h.2 0 (by simp[cel]) (by simp)
 | str=>rw[hone (by simp)] at h;exact h.2 0 (by simp[cel]) (by simp)
 | list c=>rw[hone (by simp)] at h;exact h.2 0 (by simp[cel]) (by simp)
theorem q0o{c:TC}{v:IV}(h:fitV c v=true):qdn v=true:=by cases c<;>cases v<;>first|rfl|cases h
theorem qfh{E E':Env}(hm:∀b,b∈E'.m->b∈E.m)(hw:E'.w=E.w){c:TC}{x:El c}{u:Value}(h:VR E (asIV c x) u):VR E' (asIV c x) u:=by
 have hno:∀{v:IV} {u:Value},VR E v u->_:=fun h=>VR.noid hm hw h;cases c with
 | two a b =>
  cases h with
  | agg hl hh=>exact .agg hl fun i a b=>(hno (hh i a b)).2.2 _ _ (List.getElem_mem a)
 | int k=>exact(hno h).2.2 (.int k) x (by simp[cel,asIV])
 | bool=>exact(hno h).2.2 .bool x (by simp[cel,asIV])
 | str=>exact(hno h).2.2 .str x (by simp[cel,asIV])
 | list c=>exact(hno h).2.2 (.list c) x (by simp[cel,asIV])
theorem q2n:∀(cs:List TC) {E:Env} {S:IS} {vs:List IV} {us:List Value} {x:ElA cs} {S':IS} {w:Nat},qek cs S vs=some (x,S',w)->Pre T E S->tin T.w w->VRs E vs us ->
  ∃E',E'.w=E.w/\Post T E S E' S'/\Fresh E S E'/\VRs E' (argV cs x) us
 | [],E,S,vs,us,x,S',w,h,p,hw,hv=>by
  cases vs with
  | cons v vs=>cases h
  | nil=>cases h;exact⟨E,rfl,Post.refl p,Fresh.refl E S,hv⟩
 | c::cs,E,S,vs,us,x,S',w,h,p,hw,hv=>by
  cases vs with
  | nil=>cases h
  | cons v vs =>
  simp only[qek] at h;cases hb:fitV c v with
  | false=>rw[hb] at h;cases h
  | true =>
  rw[hb,cond_true] at h;split at h<;>try cases h
  rename_i x1 S1 w1 h1;split at h<;>cases h;rename_i xs S2 w2 h2;obtain⟨g1,g2⟩:=qar hw;obtain⟨u,us,rfl,a1,a2⟩:=hv.inv;obtain⟨E1,e1,q1,f1,us1,us2,e2,v1,v2⟩:=qe2 c h1 p g1 (a1.cells (q0o hb));have:us2=[]:=by have:=v2.1;simpa using this.symm
  subst this;rw[List.append_nil] at e2;rw[<- e2] at v1;have b1:=qy3 hb a1 v1;obtain⟨E2,e3,q2,f2,b2⟩:=q2n cs h2 (q1.pre p) g2 (a2.mono (q1.env p));exact⟨E2,e3.trans e1,Post.trans p q1 f1 q2,f1.trans f2 q1.le,VRs.cons (b1.mono (q2.env (q1.pre p))) b2⟩
theorem qy8{E E':Env}(hm:∀b,b∈E'.m->b∈E.m)(hw:E'.w=E.w):∀(cs:List TC) {x:ElA cs} {us:List Value},VRs E (argV cs x) us->VRs E' (argV cs x) us
 | [],x,us,h=>by have:=h.1;cases us with|nil=>exact VRs.nil|cons _ _=>simp [argV] at this
 | c::cs,x,us,h=>by
  obtain⟨u,us,rfl,a1,a2⟩:=VRs.inv (v:=asIV c x.1) (cs:=argV cs x.2) h;exact VRs.cons (qfh hm hw a1) (qy8 hm hw cs a2)
theorem qnm:∀(cs:List (Bool × TC)) (y:ElR cs) (o:IObj),o∈resO cs y->∃c l,o=.arr c l
 | [],y,o,h=>by cases h
 | (true,c)::cs,y,o,h=>by
  rcases List.mem_cons.1 h with h|h
  ·exact⟨c,y.1,h⟩
  ·exact qnm cs y.2 o h
 | (false,c)::cs,y,o,h=>qnm cs y.2 o h
theorem qgj{E E':Env}:∀{c:TC} {v:IV} {x:El c} {u:Value},scal c=true->v∈cel c x->VR E v u->VR E' v u
 | .int k,v,x,u,_,hm,h=>by
  have:v=.int k x:=by simpa [cel] using hm
  subst this;cases h;exact .int _ _ (by assumption)
 | .bool,v,x,u,_,hm,h=>by
  have:v=.bool x:=by simpa [cel] using hm
  subst this;cases h;exact .bool _
 | .str,v,x,u,_,hm,h=>by
  have:v=.str x:=by simpa [cel] using hm
  subst this;cases h;exact .str _ (by assumption)
 | .list c,v,x,u,hs,_,_=>by cases hs
 | .two a b,v,x,u,hs,hm,h=>by
  simp only[scal,Bool.and_eq_true] at hs;simp only[cel,List.mem_append] at hm;rcases hm with hm|hm
  ·exact qgj hs.1 hm h
  ·exact qgj hs.2 hm h
theorem zg9{E E':Env}{c:TC}{x:El c}{u:Value}(hs:scal c=true)(h:VR E (asIV c x) u):VR E' (asIV c x) u:=by
 cases c with
 | two a b =>
  cases h with
  | agg hl hh=>exact .agg hl fun i a b=>qgj hs (List.getElem_mem a) (hh i a b)
 | int k=>exact qgj (c:=.int k) (x:=x) hs (by simp[cel,asIV]) h
 | bool=>exact qgj (c:=.bool) (x:=x) hs (by simp[cel,asIV]) h
 | str=>exact qgj (c:=.str) (x:=x) hs (by simp[cel,asIV]) h
 | list c=>cases hs
def mrgC(Eb Er:Env)(n:Nat):Env :=
 ⟨fun id=>if id<n then Eb.ρ id else Er.ρ (id-n),fun id=>if id<n then Eb.κ id else Er.κ (id-n),fun id=>if id<n then Eb.hd id else Er.hd (id-n),fun id=>if id<n then Eb.hb id else Er.hb (id-n),
  fun id=>(id<n/\Eb.A id)\/(n<=id/\Er.A (id-n)),Eb.m++Er.m,Er.w⟩
theorem qej{Eb Er:Env}{n k:Nat}:(mrgC Eb Er n).ρ (n+k)=Er.ρ k/\(mrgC Eb Er n).κ (n+k)=Er.κ k/\(mrgC Eb Er n).hd (n+k)=Er.hd k/\(mrgC Eb Er n).hb (n+k)=Er.hb k:=by
 have h:¬n+k<n:=by omega
 refine⟨?_,?_,?_,?_⟩<;>simp only[mrgC,if_neg h,Nat.add_sub_cancel_left]
theorem qfl{Eb Er:Env}{n id:Nat}(h:id<n):(mrgC Eb Er n).ρ id=Eb.ρ id/\(mrgC Eb Er n).κ id=Eb.κ id/\(mrgC Eb Er n).hd id=Eb.hd id/\(mrgC Eb Er n).hb id=Eb.hb id:=by
 refine⟨?_,?_,?_,?_⟩<;>simp only[mrgC,if_pos h]
theorem qyb{Eb Er:Env}{n:Nat}(hd:∀{c:TC} {x:El c} {u:Value},VR Er (asIV c x) u->scal c=true\/True->(scal c=true->VR (mrgC Eb Er n) (asIV c x) u)/\((∀b,b∈Eb.m->b∈Er.m)->VR (mrgC Eb Er n) (asIV c x) u)) :
  ∀(cs:List (Bool × TC)) (k:Nat) {y:ElR cs} {us:List Value},((cs.all fun r=>scal r.2)=true\/∀b,b∈Eb.m->b∈Er.m)->VRs Er (resV cs k y) us->VRs (mrgC Eb Er n) (resV cs (n+k) y) us
 | [],k,y,us,hs,h=>by have:=h.1;cases us with|nil=>exact VRs.nil|cons _ _=>simp [resV] at this
 | (true,c)::cs,k,y,us,hs,h=>by
  obtain⟨u,us,rfl,a1,a2⟩:=VRs.inv (v:=.arr k) (cs:=resV cs (k+1) y.2) h;have:=qyb hd cs (k+1) (hs.imp (fun h=>by simp only[List.all_cons,Bool.and_eq_true] at h;exact h.2) fun h=>h) a2;cases a1 with
  | arr hA hh =>
  obtain⟨m1,m2,m3,m4⟩:=qej (Eb:=Eb) (Er:=Er) (n:=n) (k:=k);exact VRs.cons (.arr (.inr ⟨by omega,by rw[Nat.add_sub_cancel_left];exact hA⟩) (m3.trans hh)) this
 | (false,c)::cs,k,y,us,hs,h=>by
  obtain⟨u,us,rfl,a1,a2⟩:=VRs.inv (v:=asIV c y.1) (cs:=resV cs k y.2) h;have:=qyb hd cs k (hs.imp (fun h=>by simp only[List.all_cons,Bool.and_eq_true] at h;exact h.2) fun h=>h) a2;refine VRs.cons ?_ this;rcases hs with hs|hs
  ·simp only[List.all_cons,Bool.and_eq_true] at hs;exact(hd a1 (.inr trivial)).1 hs.1
  ·exact(hd a1 (.inr trivial)).2 hs
theorem q79{s:Sm}{y:ElR s.rts}{M:List Nat}{Eb:Env}{Sb:IS}{e:Ending}{w':World}{rd wr:Nat}(pb:Pre T Eb Sb)(hM:∀b∈M,b∈Eb.m)(hflat:s.flat=true\/∀b∈Eb.m,b∈M)
   (hR:RetE T0 (EM M Eb.w) S0 ⟨tupI (resV s.rts 0 y),addO (resO s.rts y) S0,0,0⟩ e w'):RetE T Eb Sb ⟨tupI (resV s.rts Sb.next y),addO (resO s.rts y) Sb,rd,wr⟩ e w':=by
 obtain⟨u,Er,rfl,rfl,k1,k2,k3⟩:=hR;have hsame:∀b,b<Eb.w.heap.size->Er.w.heap[b]?=Eb.w.heap[b]?:=fun b hb=>k2.stp.same b hb fun id _ hA _=>hA.elim;have hMr:∀b∈M,b∈Er.m:=fun b hb=>by
   rcases k2.stp.mem b hb (pb.st.lo b (hM b hb)) with h|⟨id,_,hA,_⟩
   · exact h
   · exact hA.elim
 have hrM:∀b∈Er.m,b∈M\/Eb.w.heap.size<=b:=k2.stp.memo;have hnew:∀id,Er.A id->Live Er (addO (resO s.rts y) S0).H id->Eb.w.heap.size<=Er.ρ id:=fun id hA hL=>by
   rcases k2.stp.new id hA (fun h=>h) hL with h|⟨j,_,hA,_⟩
   · exact h
   · exact hA.elim
 generalize hn:Sb.next=n
 have hle:Eb.Le (mrgC Eb Er n):=⟨fun id hA=>by
   have hlt:id<n:=by rw[<- hn];exact pb.bnd id hA
   obtain⟨m1,m2,m3,m4⟩:=qfl (Eb:=Eb) (Er:=Er) hlt;exact⟨.inl ⟨hlt,hA⟩,m1,m2,m3,m4⟩,⟨fun b hb hm=>⟨fun h=>by
     rcases List.mem_append.1 h with h|h
     · exact hm h
     · rcases hrM b h with h|h
       · exact hm (hM b h)
       · omega,hsame b hb⟩⟩⟩
 have hdat:(∀b,b∈Eb.m->b∈Er.m)->∀b,b∈(mrgC Eb Er n).m->b∈Er.m:=fun h b hb=>by
   rcases List.mem_append.1 hb with hb|hb
   · exact h b hb
   · exact hb
 have hflat2:(s.rts.all fun r=>scal r.2)=true\/∀b,b∈Eb.m->b∈Er.m:=hflat.imp (fun h=>h) fun h b hb=>hMr b (h b hb);have hv:∀us,VRs Er (resV s.rts 0 y) us->VRs (mrgC Eb Er n) (resV s.rts (n+0) y) us:=fun us=>qyb (Eb:=Eb) (Er:=Er) (n:=n) (fun {c x u} h _=>⟨fun hs=>zg9 hs h,fun hm=>qfh (hdat hm) rfl h⟩) s.rts 0 hflat2;have hHn:∀k,(addO (resO s.rts y) Sb).H (n+k)=if k<(resO s.rts y).length then (resO s.rts y)[k]? else Sb.H (n+k):=fun k=>by
   rw[qcb,if_neg (by omega),hn];by_cases h:k<(resO s.rts y).length
   · rw[if_pos h,if_pos (by omega),Nat.add_sub_cancel_left]
   · rw[if_neg h,if_neg (by omega)]
 have hHo:∀id,id<n->(addO (resO s.rts y) Sb).H id=Sb.H id:=fun id h=>by rw[qcb,if_pos (by omega)]
 have hH0:∀k,(addO (resO s.rts y) S0).H k=(resO s.rts y)[k]?:=fun k=>by
   rw[qcb];have e:S0.next=0:=rfl
   rw[e,if_neg (by omega),Nat.zero_add,Nat.sub_zero];by_cases h:k<(resO s.rts y).length
   · rw[if_pos h]
   · rw[if_neg h,List.getElem?_eq_none (by omega)];rfl
 have hbndr:∀k,Er.A k->k<(resO s.rts y).length:=fun k hA=>by
   have:=k2.bnd k hA;rw[qc3] at this;have e:S0.next=0:=rfl
   omega
 have hobj:∀{k:Nat} {o:IObj},Er.A k->(addO (resO s.rts y) Sb).H (n+k)=some o->(addO (resO s.rts y) S0).H k=some o:=fun {k o} hA h=>by
   rw[hHn,if_pos (hbndr k hA)] at h;rw[hH0];exact h
 have hlv:∀{k:Nat},Er.A k->Live (mrgC Eb Er n) (addO (resO s.rts y) Sb).H (n+k)->Live Er (addO (resO s.rts y) S0).H k:=fun {k} hA ⟨h0,o,h1,h2⟩=>⟨by rw[qej.2.2.2] at h0;exact h0,o,hobj hA h1,h2⟩;have hlo:∀{id:Nat},id<n->Live (mrgC Eb Er n) (addO (resO s.rts y) Sb).H id->Live Eb Sb.H id:=fun {id} hlt ⟨h0,o,h1,h2⟩=>⟨by rw[(qfl hlt).2.2.2] at h0;exact h0,o,by rw[hHo id hlt] at h1;exact h1,h2⟩;refine⟨u,mrgC Eb Er n,rfl,rfl,?_,⟨⟨?_,?_,?_,?_,?_⟩,⟨k2.stp.os,k2.stp.tape,k2.stp.output,k2.stp.size,fun b hb _=>hsame b hb,hle.alw,?_,?_,?_,fun b hb _=>.inl (List.mem_append_left _ hb)⟩,?_,?_⟩,⟨?_⟩⟩
 · -- the value
   have key:∀(vs ws:List IV),(∀us,VRs Er vs us->VRs (mrgC Eb Er n) ws us)->vs.length=ws.length->VR Er (tupI vs) u->VR (mrgC Eb Er n) (tupI ws) u:=by
     intro vs ws h hl hu;match vs,ws,hl with
     | [],[],_ =>
       cases hu with
       | tup hl hh=>have:=h _ ⟨hl,hh⟩;exact .tup this.1 this.2
     | [v],[w],_ =>
       have:=h [u] (VRs.cons hu VRs.nil);exact this.2 0 (by simp) (by simp)
     | v1::v2::vs,w1::w2::ws,_ =>
       cases hu with
       | tup hl hh=>have:=h _ ⟨hl,hh⟩;exact .tup this.1 this.2
   refine key _ _ (fun us h=>?_) ?_ k1
   · have:=hv us h
     rwa [Nat.add_zero] at this
   · have:∀(cs:List (Bool × TC)) (i j:Nat) (y:ElR cs),(resV cs i y).length=(resV cs j y).length:=by
       intro cs;induction cs with
       | nil=>intro i j y;rfl
       | cons c cs ih=>intro i j y;obtain⟨b,c⟩:=c;cases b<;>simp [resV]<;>exact ih _ _ y.2
     exact this _ _ _ _
 · -- objects
   intro id ht hA o ho;rcases hA with ⟨hlt,hA⟩|⟨hge,hA⟩
   · rw[hHo id hlt] at ho;exact(pb.st.objs id ht hA o ho).mono hle hA (pb.st.blk id ht hA o ho) fun hl hb=>hsame _ ((pb.st.objs id ht hA o ho).lt hl hb)
   · obtain⟨k,rfl⟩:∃k,id=n+k:=⟨id-n,by omega⟩;rw[Nat.add_sub_cancel_left] at hA;have ho':=hobj hA ho;obtain⟨m1,m2,m3,m4⟩:=qej (Eb:=Eb) (Er:=Er) (n:=n) (k:=k);have hor:=k2.st.objs k trivial hA o ho';have hmem:o∈resO s.rts y:=by rw[hH0] at ho';exact List.mem_of_getElem? ho'
     obtain⟨c,l,rfl⟩:=qnm _ _ _ hmem;have hsc:scal c=true\/∀b,b∈Eb.m->b∈Er.m:=by
       rcases hflat2 with h|h
       · left;have:∀(cs:List (Bool × TC)) (y:ElR cs),(cs.all fun r=>scal r.2)=true->.arr c l∈resO cs y->scal c=true:=by
           intro cs;induction cs with
           | nil=>intro y _ h;cases h
           | cons r cs ih =>
             intro y hs h;obtain⟨b,c'⟩:=r;simp only[List.all_cons,Bool.and_eq_true] at hs;cases b with
             | false=>exact ih y.2 hs.2 h
             | true =>
               rcases List.mem_cons.1 h with h|h
               · cases h;exact hs.1
               · exact ih y.2 hs.2 h
         exact this _ _ h hmem
       · exact .inr h
     obtain⟨a,cap,g1,g2,g3,g4,g5⟩:=hor;refine⟨a,cap,m3.trans g1,g2,g3,g4,g5.imp (fun⟨x,y⟩=>⟨m4.trans x,y⟩) fun⟨b1,b2,cells,t,b3,b4,us,b5,b6⟩=>⟨m4.trans b1,by rw[m1];exact b2,cells,t,by rw[m1];exact b3,b4,us,b5,fun i hi j hj=>?_⟩⟩;rcases hsc with h|h
     · exact qgj h (List.getElem_mem hj) (b6 i hi j hj)
     · exact(VR.noid (hdat h) rfl (b6 i hi j hj)).2.2 _ _ (List.getElem_mem hj)
 · intro id ht hA o ho hb;rcases hA with ⟨hlt,hA⟩|⟨hge,hA⟩
   · rw[hHo id hlt] at ho;rw[(qfl hlt).2.2.2];exact pb.st.blk id ht hA o ho hb
   · obtain⟨k,rfl⟩:∃k,id=n+k:=⟨id-n,by omega⟩;rw[Nat.add_sub_cancel_left] at hA;have ho':=hobj hA ho;rw[qej.2.2.2];exact k2.st.blk k trivial hA o ho' hb
 · intro id ht hA hL;rcases hA with ⟨hlt,hA⟩|⟨hge,hA⟩
   · rw[(qfl hlt).1];exact List.mem_append_left _ (pb.st.own id ht hA (hlo hlt hL))
   · obtain⟨k,rfl⟩:∃k,id=n+k:=⟨id-n,by omega⟩;rw[Nat.add_sub_cancel_left] at hA;rw[qej.1];exact List.mem_append_right _ (k2.st.own k trivial hA (hlv hA hL))
 · intro i j ti tj hAi hAj hLi hLj he;rcases hAi with ⟨hi,hAi⟩|⟨hi,hAi⟩<;>rcases hAj with ⟨hj,hAj⟩|⟨hj,hAj⟩
   · rw[(qfl hi).1,(qfl hj).1] at he;exact pb.st.inj i j ti tj hAi hAj (hlo hi hLi) (hlo hj hLj) he
   · obtain⟨k,rfl⟩:∃k,j=n+k:=⟨j-n,by omega⟩;rw[Nat.add_sub_cancel_left] at hAj;rw[(qfl hi).1,qej.1] at he;have h1:=hnew k hAj (hlv hAj hLj);have h2:=pb.st.lo _ (pb.st.own i ti hAi (hlo hi hLi));omega
   · obtain⟨k,rfl⟩:∃k,i=n+k:=⟨i-n,by omega⟩;rw[Nat.add_sub_cancel_left] at hAi;rw[(qfl hj).1,qej.1] at he;have h1:=hnew k hAi (hlv hAi hLi);have h2:=pb.st.lo _ (pb.st.own j tj hAj (hlo hj hLj));omega
   · obtain⟨k,rfl⟩:∃k,i=n+k:=⟨i-n,by omega⟩;obtain⟨k',rfl⟩:∃k,j=n+k:=⟨j-n,by omega⟩;rw[Nat.add_sub_cancel_left] at hAi hAj;rw[qej.1,qej.1] at he;rw[k2.st.inj k k' trivial trivial hAi hAj (hlv hAi hLi) (hlv hAj hLj) he]
 · intro b hb;rcases List.mem_append.1 hb with hb|hb
   · exact Nat.lt_of_lt_of_le (pb.st.lo b hb) k2.stp.size
   · exact k2.st.lo b hb
 · intro id hA hn' hL;rcases hA with ⟨hlt,hA⟩|⟨hge,hA⟩
   · exact absurd hA hn'
   · obtain⟨k,rfl⟩:∃k,id=n+k:=⟨id-n,by omega⟩;rw[Nat.add_sub_cancel_left] at hA;rw[qej.1];exact .inl (hnew k hA (hlv hA hL))
 · intro id ht hA hL;exact hlo (by rw[<- hn];exact pb.bnd id hA) hL
 · intro b hb;rcases List.mem_append.1 hb with hb|hb
   · exact .inl hb
   · rcases hrM b hb with h|h
     · exact .inl (hM b h)
     · exact .inr h
 · intro id hA;show id<(addO (resO s.rts y) Sb).next
   rw[qc3,hn];rcases hA with ⟨hlt,hA⟩|⟨hge,hA⟩
   · omega
   · have:=hbndr _ hA;omega
 · show Sb.next<=(addO (resO s.rts y) Sb).next
   rw[qc3];omega
 · intro id hA hn';rcases hA with ⟨hlt,hA⟩|⟨hge,hA⟩
   · exact absurd hA hn'
   · show Sb.next<=id
     omega
theorem z0k{f:Nat}{s:Sm}(hc:Con P f s){vs:List IV}{r:Res}(h:exf s vs S=some r){us:List Value}(p:Pre T E S)(hrd:tin T.r r.rd)(hwr:tin T.w r.wr)(hv:VRs E vs us) :
  qah P f/\CallsIn Fence.wide 0 P f us.toArray E.w (RetE T E S r):=by
 refine⟨hc.callable,?_⟩;unfold exf at h;split at h
 ·cases h
 rename_i x S1 w hx;split at h
 ·cases h
 rename_i y hy;cases hb:s.flat with
 | true =>
  rw[hb,cond_true] at h;cases h;have p':Pre ⟨T.r,T.r,fun _ h=>h⟩ E S:=⟨p.st,p.bnd,fun id h=>T.sub _ (p.nw id h),p.gl⟩;obtain⟨E1,e1,q1,f1,b1⟩:=q2n s.pts (T:=⟨T.r,T.r,fun _ h=>h⟩) hx p' hrd hv;have hm:∀b∈E1.m,b∈E.m:=fun b hb=>by
   rcases q1.stp.memo b hb with h|h
   ·exact h
   ·have:=q1.st.lo b hb;rw[e1] at this;omega
  have hcall:=hc.calls E1.m E.w x us y hy (fun b hb=>p.st.lo b (hm b hb)) (p.gl.sub hm) (qy8 (E:=E1) (E':=EM E1.m E.w) (fun _ h=>h) e1.symm s.pts b1);exact hcall.mono fun e w' hR=>q79 (Eb:=E) (Sb:=S) (T:=T) p hm (.inl hb) hR
 | false =>
  rw[hb,cond_false] at h;cases h;obtain⟨E1,e1,q1,f1,b1⟩:=q2n s.pts hx p hwr hv;have p1:=q1.pre p;have hcall:=hc.calls E1.m E1.w x us y hy p1.st.lo p1.gl (qy8 (E:=E1) (E':=EM E1.m E1.w) (fun _ h=>h) rfl s.pts b1);rw[<- e1];refine hcall.mono fun e w' hR=>?_;obtain⟨u,E2,g1,g2,g3,g4,g5⟩:=q79 (Eb:=E1) (Sb:=S1) (rd:=0) (wr:=w) p1 (fun _ h=>h) (.inr fun _ h=>h) hR;exact⟨u,E2,g1,g2,g3,Post.trans p q1 f1 g4,f1.trans g5 q1.le⟩
theorem qs6(l:List IObj)(S:IS)(w:Nat):FrX S (addO l S) w:=⟨by rw[qc3];omega,fun id hid _=>by rw[qcb,if_pos hid]⟩
theorem q6j:∀(cs:List TC) {S:IS} {vs:List IV} {x:ElA cs} {S':IS} {w:Nat},qek cs S vs=some (x,S',w)->FrX S S' w
 | [],S,vs,x,S',w,h=>by
  cases vs with
  | cons v vs=>cases h
  | nil=>cases h;exact FrX.refl _ _
 | c::cs,S,vs,x,S',w,h=>by
  cases vs with
  | nil=>cases h
  | cons v vs =>
  simp only[qek] at h;cases hb:fitV c v with
  | false=>rw[hb] at h;cases h
  | true =>
  rw[hb,cond_true] at h;split at h<;>try cases h
  rename_i h1;split at h<;>cases h;rename_i h2;obtain⟨a1,a2⟩:=qet c _ _ _ _ _ _ h1;exact FrX.trans ⟨Nat.le_of_eq a1.symm,fun id _ hb=>a2 id hb⟩ (q6j cs h2)
theorem ztr{s:Sm}{vs:List IV}:FrO S (exf s vs S):=fun r h=>by
 unfold exf at h;split at h
 ·cases h
 rename_i x S1 w hx;split at h
 ·cases h
 rename_i y hy;cases hb:s.flat with
 | true=>rw[hb,cond_true] at h;cases h;exact qs6 _ _ _
 | false =>
  rw[hb,cond_false] at h;cases h;have:=(q6j s.pts hx).trans (qs6 (resO s.rts y) S1 0);rw[Nat.or_zero] at this;exact this
theorem zfe(n:Nat):Nat.blt n n=false:=by
 cases h:Nat.blt n n with
 | false=>rfl
 | true=>exact absurd (show n<n from Nat.le_of_ble_eq_true h) (Nat.lt_irrefl n)
theorem zd3:∀(cs:List (Bool × TC)) (n:Nat) (y:ElR cs),(resV cs n y).all (low1 n)=true->resO cs y=[]
 | [],_,_,_=>rfl
 | (true,c)::cs,n,y,h=>by
  have h:(low1 n (.arr n)&&(resV cs (n+1) y.2).all (low1 n))=true:=h;have e:low1 n (.arr n)=Nat.blt n n:=rfl;rw[e,zfe] at h;cases h
 | (false,c)::cs,n,y,h=>by
  have h:(low1 n (asIV c y.1)&&(resV cs n y.2).all (low1 n))=true:=h;rw[Bool.and_eq_true] at h;exact zd3 cs n y.2 h.2
theorem q5p(cs:List (Bool × TC))(n:Nat)(y:ElR cs)(h:low2 n (tupI (resV cs n y))=true):resO cs y=[]:=by
 match cs,y,h with
 | [],y,h=>rfl
 | [(true,c)],y,h =>
  have e:low2 n (tupI (resV [(true,c)] n y))=Nat.blt n n:=rfl;rw[e,zfe] at h;cases h
 | [(false,c)],y,h=>rfl
 | (ba,a)::(bb,b)::cs,y,h =>
  refine zd3 _ n y ?_;cases ba<;>cases bb<;>exact h
theorem q9j:∀(cs:List TC) {S:IS} {vs:List IV} {x:ElA cs} {S':IS},qek cs S vs=some (x,S',0)->S'=S
 | [],S,vs,x,S',h=>by
  cases vs with
  | nil=>cases h;rfl
  | cons v vs=>cases h
 | c::cs,S,vs,x,S',h=>by
  cases vs with
  | nil=>cases h
  | cons v vs =>
  simp only[qek] at h;cases hb:fitV c v with
  | false=>rw[hb] at h;cases h
  | true =>
  rw[hb,cond_true] at h;split at h
  ·rename_i x1 S1 w1 h1;split at h
   ·rename_i xs S2 w2 h2;have hS:S2=S':=congrArg (fun o:Option (ElA (c::cs) × IS × Nat)=>match o with|some q=>q.2.1|none=>S') h;have hw:w1 ||| w2=0:=congrArg (fun o:Option (ElA (c::cs) × IS × Nat)=>match o with|some q=>q.2.2|none=>0) h;obtain⟨e1,e2⟩:=or_zero hw;rw[e1] at h1;rw[e2] at h2;rw[<- hS,q9j cs h2,(qme c h1).1]
   ·cases h
  ·cases h
theorem zl0{s:Sm}{vs:List IV}{S:IS}{r:Res}(h:exf s vs S=some r)(hw:r.wr=0)(hv:low2 S.next r.v=true):r.S=S:=by
 unfold exf at h;split at h
 ·cases h
 rename_i x S1 w hx;split at h
 ·cases h
 rename_i y hy;cases hb:s.flat with
 | true =>
  rw[hb,cond_true] at h;cases h;show addO (resO s.rts y) S=S;rw[q5p _ _ _ hv];rfl
 | false =>
  rw[hb,cond_false] at h;cases h;have hw:w=0:=hw;subst hw;have e:=q9j _ hx;subst e;show addO (resO s.rts y) S1=S1;rw[q5p _ _ _ hv];rfl
structure HxOK (P:Program) (f:Nat) (g:Cl->List IV->IS->Option Res):Prop where
 fn:∀cl,ClOK P cl->ClFr cl->Calm cl->∀vs S r,g cl vs S=some r->∀(T:TW) (E:Env) (us:List Value),Pre T E S->tin T.r r.rd->tin T.w r.wr->VRs E vs us->qah P f/\CallsIn Fence.wide 0 P f us.toArray E.w (RetE T E S r)
 fr:∀cl,ClFr cl->∀vs S,FrO S (g cl vs S)
 calm:∀cl,Calm cl->∀vs S r,g cl vs S=some r->r.wr=0->low2 S.next r.v=true->r.S=S
def ElQ:List (Bool × TC)->Type
 | []=>Unit
 | (true,_)::cs=>Nat × ElQ cs
 | (false,c)::cs=>El c × ElQ cs
def valQ:(cs:List (Bool × TC))->ElQ cs->List IV
 | [],_=>[]
 | (true,c)::cs,x=>.arr x.1::valQ cs x.2
 | (false,c)::cs,x=>asIV c x.1::valQ cs x.2
def idsQ:(cs:List (Bool × TC))->ElQ cs->List Nat
 | [],_=>[]
 | (true,c)::cs,x=>x.1::idsQ cs x.2
 | (false,c)::cs,x=>idsQ cs x.2
def clR:(cs:List (Bool × TC))->IS->List IV->Option (ElQ cs × IS × Nat)
 | [],S,vs=>match vs with
  | []=>some ((),S,0)
  | _=>none
 | (true,c)::cs,S,vs=>match vs with
  | v::vs=>match coeV S c v with
   | some (.arr id,S1,w1)=>match clR cs S1 vs with
    | some (q,S2,w2)=>some ((id,q),S2,w1 ||| w2)
    | none=>none
   | _=>none
  | _=>none
 | (false,c)::cs,S,vs=>match vs with
  | v::vs=>cond (fitV c v) (match icl c S (cellsOf v) with
   | some (x,[],S1,w1)=>match clR cs S1 vs with
    | some (q,S2,w2)=>some ((x,q),S2,w1 ||| w2)
    | none=>none
   | _=>none) none
  | _=>none
def qdk:(cs:List (Bool × TC))->ElQ cs->IS->Option (ElR cs)
 | [],_,_=>some ()
 | (true,c)::cs,x,S=>match S.heap.get x.1 with
  | some (.arr c' l)=>match qbp c' c l with
   | some l'=>match qdk cs x.2 S with
    | some y=>some (l',y)
    | none=>none
   | none=>none
  | _=>none
 | (false,c)::cs,x,S=>match qdk cs x.2 S with
  | some y=>some (x.1,y)
  | none=>none
theorem qqn:∀(cs:List (Bool × TC)) {E:Env} {S:IS} {vs:List IV} {us:List Value} {x:ElQ cs} {S':IS} {w:Nat},clR cs S vs=some (x,S',w)->Pre T E S->tin T.w w->VRs E vs us ->
  ∃E',E'.w=E.w/\Post T E S E' S'/\Fresh E S E'/\VRs E' (valQ cs x) us
 | [],E,S,vs,us,x,S',w,h,p,hw,hv=>by
  cases vs with
  | cons v vs=>cases h
  | nil=>cases h;exact⟨E,rfl,Post.refl p,Fresh.refl E S,hv⟩
 | (true,c)::cs,E,S,vs,us,x,S',w,h,p,hw,hv=>by
  cases vs with
  | nil=>cases h
  | cons v vs =>
  simp only[clR] at h;split at h<;>try cases h
  rename_i id S1 w1 h1;split at h<;>cases h;rename_i q S2 w2 h2;obtain⟨g1,g2⟩:=qar hw;obtain⟨u,us,rfl,a1,a2⟩:=hv.inv;obtain⟨E1,e1,q1,f1,v1⟩:=qn9 p h1 g1 a1;obtain⟨E2,e3,q2,f2,b2⟩:=qqn cs h2 (q1.pre p) g2 (a2.mono (q1.env p));exact⟨E2,e3.trans e1,Post.trans p q1 f1 q2,f1.trans f2 q1.le,VRs.cons (v1.mono (q2.env (q1.pre p))) b2⟩
 | (false,c)::cs,E,S,vs,us,x,S',w,h,p,hw,hv=>by
  cases vs with
  | nil=>cases h
  | cons v vs =>
  simp only[clR] at h;cases hb:fitV c v with
  | false=>rw[hb] at h;cases h
  | true =>
  rw[hb,cond_true] at h;split at h<;>try cases h
  rename_i x1 S1 w1 h1;split at h<;>cases h;rename_i xs S2 w2 h2;obtain⟨g1,g2⟩:=qar hw;obtain⟨u,us,rfl,a1,a2⟩:=hv.inv;obtain⟨E1,e1,q1,f1,us1,us2,e2,v1,v2⟩:=qe2 c h1 p g1 (a1.cells (q0o hb));have:us2=[]:=by have:=v2.1;simpa using this.symm
  subst this;rw[List.append_nil] at e2;rw[<- e2] at v1;have b1:=qy3 hb a1 v1;obtain⟨E2,e3,q2,f2,b2⟩:=qqn cs h2 (q1.pre p) g2 (a2.mono (q1.env p));exact⟨E2,e3.trans e1,Post.trans p q1 f1 q2,f1.trans f2 q1.le,VRs.cons (b1.mono (q2.env (q1.pre p))) b2⟩
theorem qsn:∀(cs:List (Bool × TC)) {x:ElQ cs} {S:IS} {y:ElR cs},qdk cs x S=some y->(resO cs y).length=(idsQ cs x).length/\∀k:Nat,(resO cs y)[k]?=((idsQ cs x)[k]?).bind fun id=>S.heap.get id
 | [],x,S,y,h=>⟨rfl,fun k=>by simp[resO,idsQ]⟩
 | (true,c)::cs,x,S,y,h=>by
  simp only[qdk] at h;split at h<;>try cases h
  rename_i c' l ho;split at h<;>try cases h
  rename_i l' hl;obtain⟨rfl,rfl⟩:=qcl hl;split at h<;>cases h;rename_i y' hy;obtain⟨a1,a2⟩:=qsn cs hy;refine⟨by simp[resO,idsQ,a1],fun k=>?_⟩;cases k with
  | zero=>simp [resO,idsQ,ho]
  | succ k=>simpa [resO,idsQ] using a2 k
 | (false,c)::cs,x,S,y,h=>by
  simp only[qdk] at h;split at h<;>cases h;rename_i y' hy;exact qsn cs hy
theorem qyc{q:List Nat}(hnd:ndB q=true):∀(cs:List (Bool × TC)) {x:ElQ cs} {S:IS} {y:ElR cs} {pre:List Nat} {us:List Value},q=pre++idsQ cs x->qdk cs x S=some y->VRs E (valQ cs x) us->VRs (renE 0 q E) (resV cs pre.length y) us
 | [],x,S,y,pre,us,hq,h,hv=>by have:=hv.1;cases us with|nil=>exact VRs.nil|cons _ _=>simp [valQ] at this
 | (true,c)::cs,x,S,y,pre,us,hq,h,hv=>by
  obtain⟨u,us,rfl,a1,a2⟩:=VRs.inv (v:=.arr x.1) (cs:=valQ cs x.2) hv;simp only[qdk] at h;split at h<;>try cases h
  split at h<;>try cases h
  split at h<;>cases h;rename_i y' hy;have h2:=qyc hnd cs (pre:=pre++[x.1]) (by rw[hq];simp [idsQ]) hy a2;rw[List.length_append] at h2;refine VRs.cons ?_ h2;have e:ol 0 q pre.length=x.1:=by
   unfold ol;rw[if_neg (by omega),Nat.sub_zero,hq];simp[idsQ,List.getD_eq_getElem?_getD]
  cases a1 with
  | arr hA hh=>exact .arr ⟨by rw[hq];simp [idsQ],by rw[e];exact hA⟩ (by simp only[renE,e];exact hh)
 | (false,c)::cs,x,S,y,pre,us,hq,h,hv=>by
  obtain⟨u,us,rfl,a1,a2⟩:=VRs.inv (v:=asIV c x.1) (cs:=valQ cs x.2) hv;simp only[qdk] at h;split at h<;>cases h;rename_i y' hy;exact VRs.cons (qfh (E:=E) (E':=renE 0 q E) (fun _ h=>h) rfl a1) (qyc hnd cs hq hy a2)
theorem Post.congr{E':Env}{S' S'':IS}(hH:S'.H=S''.H)(hn:S'.next=S''.next)(h:Post T E S E' S'):Post T E S E' S'' :=
 ⟨hH▸h.st,hH▸h.stp,fun id ha=>hn▸h.bnd id ha,hn▸h.le⟩
def qnt(n:Nat)(v:IV):Option (List IV) :=
 cond (Nat.beq n 1) (some [v]) (match v with
  | .tup vs=>cond (Nat.beq vs.length n) (some vs) none
  | _=>none)
def runR(s:Sm)(r:Res):Option (ElR s.rts) :=
 match qnt s.rts.length r.v with
 | none=>none
 | some vs=>match clR s.rts r.S vs with
  | none=>none
  | some (x,S2,_)=>cond (ndB (idsQ s.rts x)) (qdk s.rts x S2) none
theorem zu7{s:Sm}{r:Res}{y:ElR s.rts}{M:List Nat}{w w':World}{e:Ending}(hM:∀b∈M,b<w.heap.size)(hg:Gl M w)(h:runR s r=some y)(hR:RetE T0 (EM M w) S0 r e w') :
   RetE T0 (EM M w) S0 ⟨tupI (resV s.rts 0 y),addO (resO s.rts y) S0,0,0⟩ e w':=by
 obtain⟨u,E1,rfl,rfl,k1,k2,k3⟩:=hR;have p0:=preM hM hg;have p1:=k2.pre p0;unfold runR at h;split at h
 · cases h
 rename_i vs hvs;split at h
 · cases h
 rename_i x S2 w2 hx;cases hnd:ndB (idsQ s.rts x) with
 | false=>rw[hnd] at h;cases h
 | true =>
 rw[hnd,cond_true] at h
 -- the results one by one
 have hlist:∃us:List Value,VRs E1 vs us/\∀(E':Env) (ws:List IV),ws.length=s.rts.length->VRs E' ws us->VR E' (tupI ws) u:=by
   unfold qnt at hvs;cases hone:Nat.beq s.rts.length 1 with
   | true =>
     rw[hone,cond_true] at hvs;cases hvs;have hlen:=Nat.eq_of_beq_eq_true hone;exact⟨[u],VRs.cons k1 VRs.nil,fun E' ws hl hw=>by
       rw[hlen] at hl;match ws,hl with
       | [a],_=>exact hw.2 0 (by simp) (by simp)⟩
   | false =>
     rw[hone,cond_false] at hvs;split at hvs<;>try cases hvs
     rename_i ws0 hv;cases hb:Nat.beq ws0.length s.rts.length with
     | false=>rw[hb] at hvs;cases hvs
     | true =>
     rw[hb,cond_true] at hvs;cases hvs;rw[hv] at k1;cases k1 with
     | tup hl hh =>
     refine⟨_,⟨hl,hh⟩,fun E' ws hl' hw=>?_⟩;match ws,hl' with
     | [],_=>exact .tup hw.1 hw.2
     | [a],hl'=>rw[<- hl'] at hone;cases hone
     | a::b::ws,_=>exact .tup hw.1 hw.2
 obtain⟨us,hus,hfin⟩:=hlist;obtain⟨E2,e2,q2,f2,hv2⟩:=qqn s.rts hx p1 (fun _ _=>trivial) hus;have p2:=q2.pre p1;have hq:=Post.trans p0 k2 k3 q2;have hf:=k3.trans f2 k2.le;have b1:=PostB.of (B:=0) (Nat.zero_le _) (fun _ _=>trivial) hq hf;have b2:=q9b (z:=fun _=>none) (B:=0) (q:=idsQ s.rts x) p2 (Nat.zero_le _) (fun _ _=>trivial) (fun _ _ h=>by cases h) hnd (by rw[List.all_eq_true];intro _ _;rfl);obtain⟨z1,z2⟩:=PostB.full p0 (show PostB S0.next T0 (EM M w) S0 _ _ from b1.trans b2);obtain⟨g1,g2⟩:=qsn s.rts h;have hval:=qyc hnd s.rts (pre:=[]) rfl h hv2;refine⟨u,renE 0 (idsQ s.rts x) E2,rfl,e2,hfin _ _ ?_ hval,Post.congr ?_ ?_ z1,⟨fun id ha hn=>z2.fr id ha hn⟩⟩
 · have:∀(cs:List (Bool × TC)) (i:Nat) (y:ElR cs),(resV cs i y).length=cs.length:=by
     intro cs;induction cs with
     | nil=>intro i y;rfl
     | cons c cs ih=>intro i y;obtain⟨b,c⟩:=c;cases b<;>simp [resV]<;>exact ih _ y.2
   exact this _ _ _
 · funext k;rw[qz6,if_neg (show ¬k<0 by omega),qcb];have e0:S0.next=0:=rfl
   rw[e0,if_neg (show ¬k<0 by omega),Nat.zero_add,Nat.zero_add,Nat.sub_zero,g1];by_cases hk:k<(idsQ s.rts x).length
   · rw[if_pos hk,if_pos hk,g2 k,List.getElem?_eq_getElem hk];have e:ol 0 (idsQ s.rts x) k=(idsQ s.rts x)[k]:=by unfold ol;rw[if_neg (by omega),Nat.sub_zero,List.getD_eq_getElem?_getD,List.getElem?_eq_getElem hk];rfl
     rw[e];simp only[Option.bind_some];cases ho:S2.heap.get (idsQ s.rts x)[k] with
     | none=>rfl
     | some o =>
       have:o∈resO s.rts y:=by
         have:=g2 k;rw[List.getElem?_eq_getElem hk,Option.bind_some,ho] at this;exact List.mem_of_getElem? this
       obtain⟨c,l,rfl⟩:=qnm _ _ _ this;rfl
   · rw[if_neg hk,if_neg hk];rfl
 · show 0+(idsQ s.rts x).length=(addO (resO s.rts y) S0).next
   rw[qc3,g1];rfl
end
end Go.Jx
end

section
namespace Go.Jx
open Go Go.Sx Go.RowKit
universe u

def ob{R:Type}(x:Option Res)(k:Res->Option R):Option R:=match x with|some r=>k r|none=>none
theorem qbh{R:Type}(k:Res->Option R)(b:Bool)(x y:Option Res):ob (cond b x y) k=cond b (ob x k) (ob y k):=by cases b<;>rfl
def slEl(tt:Nat->Option TI)(ty:Nat):Option TI:=match tt ty with
 | none=>none
 | some ti=>match ti.und with
  | .slice e=>tt e
  | _=>none
section
variable {R : Type}
def qug(tt:Nat->Option TI)(S:IS)(ty:TypeId)(v:IV)(kk:Res->Option R):Option R:=match v with
 | .aptr id s i off=>match tt ty with
  | none=>none
  | some ti=>match S.heap.get id with
   | some (.arr c l)=>cond (Nat.beq s (csz c)) (match l[i]? with
    | none=>none
    | some x=>ob (cond (qbe ti.und) (match (cel c x)[off]? with|some v=>some ⟨v,S,2 ^ id,0⟩|none=>none)
     (cond (Nat.ble (off+ti.sz) (csz c)) (some ⟨.agg (((cel c x).drop off).take ti.sz),S,2 ^ id,0⟩) none)) kk) none
   | _=>none
 | v=>ob (qd3 tt S ty v) kk
theorem zqp(tt:Nat->Option TI)(S:IS)(ty:TypeId)(v:IV)(kk:Res->Option R):qug tt S ty v kk=ob (qd3 tt S ty v) kk:=by
 cases v<;>try rfl
 rename_i id s i off;simp only[qug,qd3];cases tt ty with
 | none=>rfl
 | some ti =>
  simp only;cases S.heap.get id with
  | none=>rfl
  | some o =>
   cases o<;>try rfl
   simp only[qbh];rename_i c l;cases Nat.beq s (csz c)
   ·rfl
   ·simp only[cond_true];cases l[i]? with
    | none=>rfl
    | some x=>simp only[qbh];rfl
def qpk(tt:Nat->Option TI)(S:IS)(ty:Nat)(n m:Int)(kk:Res->Option R):Option R:=match tt ty with
 | none=>none
 | some ti=>match ti.und with
  | .slice e=>match tt e with
   | none=>none
   | some te=>match tcOf tt 8 e with
    | none=>none
    | some c=>match zC c te.zero.cells.toList with
     | some []=>cond (Nat.beq te.sz (csz c)&&(Nat.blt 0 te.bytes&&(Nat.ble (bsz c) te.bytes&&u8ok c e)))
      (cond (iltI n 0) none (cond (Nat.ble (Nat.mul m.toNat te.bytes) 140737488355328) (kk ⟨.arr S.next,S.new (.arr c (Go.Jx.S.rep n (zEl c))),0,0⟩) none)) none
     | _=>none
  | _=>none
theorem zeg(tt:Nat->Option TI)(S:IS)(ty:Nat)(n m:Int)(kk:Res->Option R):qpk tt S ty n m kk=ob (imkC tt S ty n m) kk:=by
 unfold qpk imkC;cases tt ty with
 | none=>rfl
 | some ti =>
  simp only;cases ti.und<;>try rfl
  rename_i e;simp only;cases tt e with
  | none=>rfl
  | some te =>
   simp only;cases tcOf tt 8 e with
   | none=>rfl
   | some c =>
    simp only;cases zC c te.zero.cells.toList with
    | none=>rfl
    | some l =>
     cases l with
     | cons _ _=>rfl
     | nil=>simp only[qbh];rfl
def zbd(tt:Nat->Option TI)(S:IS)(ty:Nat)(v:IV)(kk:Res->Option R):Option R:=match v with
 | .int _ n=>qpk tt S ty n n kk
 | _=>none
def qz9(tt:Nat->Option TI)(S:IS)(ty:Nat)(v u:IV)(kk:Res->Option R):Option R:=match v,u with
 | .int _ n,.int _ m=>cond (iltI m n) none (qpk tt S ty n m kk)
 | _,_=>none
theorem ziu(tt:Nat->Option TI)(S:IS)(ty:Nat)(v:IV)(kk:Res->Option R):zbd tt S ty v kk=ob (qjs tt S ty v) kk:=by
 cases v<;>first|rfl|exact zeg ..
theorem zlh(tt:Nat->Option TI)(S:IS)(ty:Nat)(v u:IV)(kk:Res->Option R):qz9 tt S ty v u kk=ob (qgv tt S ty v u) kk:=by
 cases v<;>cases u<;>try rfl
 simp only[qz9,qgv,qbh,zeg];rfl
def q3s(tt:Nat->Option TI)(S:IS)(ty:TypeId)(v u:IV)(kk:Res->Option R):Option R:=match v with
 | .aptr id s i off=>match tt ty with
  | none=>none
  | some ti=>match S.heap.get id with
   | some (.arr c l)=>cond (Nat.beq s (csz c)&&Nat.beq (cellsOf u).length ti.sz&&Nat.ble (off+ti.sz) (csz c)&&(cellsOf u).all one1)
    (match l[i]? with
    | none=>none
    | some x=>match icl c S (putI (cel c x) off (cellsOf u)) with
     | some (x2,[],S2,w)=>cond (Nat.testBit w id) none (kk ⟨.tup [],S2.set id (.arr c (l.set i x2)),0,w ||| 2 ^ id⟩)
     | _=>none) none
   | _=>none
 | v=>ob (qfj tt S ty v u) kk
theorem zl4(tt:Nat->Option TI)(S:IS)(ty:TypeId)(v u:IV)(kk:Res->Option R):q3s tt S ty v u kk=ob (qfj tt S ty v u) kk:=by
 cases v<;>try rfl
 rename_i id s i off;simp only[q3s,qfj];cases tt ty with
 | none=>rfl
 | some ti =>
  simp only;cases S.heap.get id with
  | none=>rfl
  | some o =>
   cases o<;>try rfl
   rename_i c l;simp only[qbh];cases (Nat.beq s (csz c)&&Nat.beq (cellsOf u).length ti.sz&&Nat.ble (off+ti.sz) (csz c)&&(cellsOf u).all one1)
   ·rfl
   ·simp only[cond_true];cases l[i]? with
    | none=>rfl
    | some x =>
     simp only;cases icl c S (putI (cel c x) off (cellsOf u)) with
     | none=>rfl
     | some q =>
      obtain⟨x2,r,S2,w⟩:=q;cases r with
      | nil =>
       simp only;rw[qbh];rfl
      | cons a r=>rfl
def qs7(tt:Nat->Option TI)(S:IS)(ty:Nat)(v u:IV)(kk:Res->Option R):Option R:=match v,u with
 | .lst c l,.int _ i=>match slEl tt ty with
  | none=>none
  | some te=>cond (Nat.beq te.sz (csz c)) (match jget l i with
   | none=>none
   | some x=>kk ⟨.eptr c x 0,S,0,0⟩) none
 | .arr id,.int _ i=>match slEl tt ty with
  | none=>none
  | some te=>match S.heap.get id with
   | some (.arr c l)=>cond (Nat.beq te.sz (csz c)) (match jget l i with
    | none=>none
    | some x=>kk ⟨.aptr id (csz c) i.toNat 0,S,2 ^ id,0⟩) none
   | some (.frz c l)=>cond (Nat.beq te.sz (csz c)) (match jget l i with
    | none=>none
    | some x=>kk ⟨.eptr c x 0,S,2 ^ id,0⟩) none
   | _=>none
 | v,u=>ob (qew tt S ty v u) kk
theorem zkb(tt:Nat->Option TI)(S:IS)(ty:Nat)(v u:IV)(kk:Res->Option R):qs7 tt S ty v u kk=ob (qew tt S ty v u) kk:=by
 cases v<;>try rfl
 ·cases u<;>try rfl
  rename_i c l k i;simp only[qs7,qew,slEl];cases tt ty with
  | none=>rfl
  | some ti =>
   simp only;cases ti.und<;>try rfl
   rename_i e;simp only;cases tt e with
   | none=>rfl
   | some te =>
    simp only[qbh];cases Nat.beq te.sz (csz c)
    ·rfl
    ·simp only[cond_true];cases jget l i<;>rfl
 ·cases u<;>try rfl
  rename_i id k i;simp only[qs7,qew,slEl];cases tt ty with
  | none=>rfl
  | some ti =>
   simp only;cases ti.und<;>try rfl
   rename_i e;simp only;cases tt e with
   | none=>rfl
   | some te =>
    simp only;cases S.heap.get id with
    | none=>rfl
    | some o =>
     cases o<;>try rfl
     all_goals
      rename_i c l;simp only[qbh];cases Nat.beq te.sz (csz c)
      ·rfl
      ·simp only[cond_true];cases jget l i<;>rfl
def qx4(tt:Nat->Option TI)(S:IS)(ty:Nat)(lo hi mx:Option IV)(v:IV)(kk:Res->Option R):Option R:=match v with
 | .lst c l=>match slEl tt ty with
  | none=>none
  | some te=>match bndI lo 0,bndI hi l.length with
   | some a,some b=>match mx with
    | none=>cond (Nat.beq te.sz (csz c)) (cond (lchk a b l.length l.length) (kk ⟨.lst c (lsub l a b),S,0,0⟩) none) none
    | some mx=>match hi,bndI (some mx) 0 with
     | some _,some m=>cond (Nat.beq te.sz (csz c)) (cond (lchk a b m l.length) (kk ⟨.lst c (lsub l a b),S,0,0⟩) none) none
     | _,_=>none
   | _,_=>none
 | v=>ob (qe4 tt S ty lo hi mx v) kk
theorem zzq(tt:Nat->Option TI)(S:IS)(ty:Nat)(lo hi mx:Option IV)(v:IV)(kk:Res->Option R):qx4 tt S ty lo hi mx v kk=ob (qe4 tt S ty lo hi mx v) kk:=by
 cases v<;>try rfl
 rename_i c l;simp only[qx4,qe4,slEl];cases tt ty with
 | none=>rfl
 | some ti =>
  simp only;cases ti.und<;>try rfl
  rename_i e;simp only;cases tt e with
  | none=>rfl
  | some te =>
   simp only;cases bndI lo 0<;>cases bndI hi l.length<;>try rfl
   simp only;cases mx with
   | none=>simp only[qbh];rfl
   | some mx =>
    simp only;cases hi<;>cases bndI (some mx) 0<;>try rfl
    simp only[qbh];rfl
def q0q(tt:Nat->Option TI)(S:IS)(ty:Nat)(lo hi mx:Option IV)(s:ByteArray)(kk:Res->Option R):Option R :=
 match tt ty,mx with
 | some ti,none=>match ti.und with
  | .string=>match bndI lo 0,bndI hi s.size with
   | some a,some b=>cond (lchk a b s.size s.size) (kk ⟨.str (s.extract a.toNat b.toNat),S,0,0⟩) none
   | _,_=>none
  | _=>none
 | _,_=>none
theorem zyk(tt:Nat->Option TI)(S:IS)(ty:Nat)(lo hi mx:Option IV)(s:ByteArray)(kk:Res->Option R):q0q tt S ty lo hi mx s kk=ob (qh5 tt S ty lo hi mx s) kk:=by
 simp only[q0q,qh5];cases tt ty<;>cases mx<;>try rfl
 rename_i ti;simp only;cases ti.und<;>try rfl
 simp only;cases bndI lo 0<;>cases bndI hi s.size<;>try rfl
 simp only[qbh];rfl
def qtn(tt:Nat->Option TI)(S:IS)(ty:Nat)(lo hi mx:Option IV)(id:Nat)(wh:Bool)(kk:Res->Option R):Option R :=
 match tt ty,mx with
 | some ti,none=>match ti.und with
  | .slice e=>match tt e with
   | none=>none
   | some te=>match S.heap.get id with
    | some (.arr c l)=>match bndI lo 0,bndI hi l.length with
     | some a,some b=>cond wh (cond (ieqI a 0&&ieqI b l.length) (kk ⟨.arr id,S,2 ^ id,0⟩) none)
      (cond (Nat.beq te.sz (csz c)&&lchk a b l.length l.length) (kk ⟨.lst c (lsub l a b),S.set id (.frz c l),0,2 ^ id⟩) none)
     | _,_=>none
    | some (.frz c l)=>match bndI lo 0,bndI hi l.length with
     | some a,some b=>cond (Nat.beq te.sz (csz c)&&lchk a b l.length l.length) (kk ⟨.lst c (lsub l a b),S,2 ^ id,0⟩) none
     | _,_=>none
    | _=>none
  | _=>none
 | _,_=>none
theorem zrl(tt:Nat->Option TI)(S:IS)(ty:Nat)(lo hi mx:Option IV)(id:Nat)(wh:Bool)(kk:Res->Option R):qtn tt S ty lo hi mx id wh kk=ob (qf9 tt S ty lo hi mx id wh) kk:=by
 simp only[qtn,qf9];cases tt ty<;>cases mx<;>try rfl
 rename_i ti;simp only;cases ti.und<;>try rfl
 rename_i e;simp only;cases tt e<;>try rfl
 simp only;cases S.heap.get id<;>try rfl
 rename_i o;cases o<;>try rfl
 all_goals simp only
 ·rename_i c l;cases bndI lo 0<;>cases bndI hi l.length<;>try rfl
  simp only[qbh];rfl
 ·rename_i c l;cases bndI lo 0<;>cases bndI hi l.length<;>try rfl
  simp only[qbh];rfl
def qwz(tt:Nat->Option TI)(S:IS)(ty:Nat)(s:ByteArray)(i:Int)(kk:Res->Option R):Option R :=
 match tt ty with
 | some ti=>match ti.und with
  | .string=>match jget (qac s) i with
   | some x=>kk ⟨.int .u8 x,S,0,0⟩
   | none=>none
  | _=>none
 | none=>none
theorem zk0(tt:Nat->Option TI)(S:IS)(ty:Nat)(s:ByteArray)(i:Int)(kk:Res->Option R):qwz tt S ty s i kk=ob (qh0 tt S ty s i) kk:=by
 simp only[qwz,qh0];cases tt ty<;>try rfl
 rename_i ti;simp only;cases ti.und<;>try rfl
 simp only;cases jget (qac s) i<;>rfl
def qvd(S:IS)(v:IV)(b:Bool)(kk:Res->Option R):Option R:=match v,b with
 | .ptr id 0,true=>match S.heap.get id with
  | some (.iter s p)=>cond (Nat.blt p s.size) (kk ⟨.tup [.bool true,.int .i64 p,.int .i32 (Utf8.decode s p).1],S.set id (.iter s (p+(Utf8.decode s p).2)),0,2 ^ id⟩)
   (kk ⟨.tup [.bool false],S,2 ^ id,0⟩)
  | _=>none
 | _,_=>none
theorem zku(S:IS)(v:IV)(b:Bool)(kk:Res->Option R):qvd S v b kk=ob (qfb S v b) kk:=by
 have e:∀id,qfb S (.ptr id 0) true=(match S.heap.get id with
  | some (.iter s p)=>cond (Nat.blt p s.size) (some ⟨.tup [.bool true,.int .i64 p,.int .i32 (Utf8.decode s p).1],S.set id (.iter s (p+(Utf8.decode s p).2)),0,2 ^ id⟩) (some ⟨.tup [.bool false],S,2 ^ id,0⟩)
  | _=>none):=fun id=>rfl
 unfold qvd;split
 ·rename_i id;rw[e];cases S.heap.get id with
  | none=>rfl
  | some o =>
   cases o<;>first|rfl|(simp only[qbh];rfl)
 ·rename_i h;unfold qfb;split
  ·rename_i id;exact absurd rfl (h id rfl)
  ·rfl
def qy4(tt:Nat->Option TI)(S:IS)(ty ty2 id:Nat)(y:IV)(kk:Res->Option R):Option R :=
 match S.heap.get id with
 | some (.arr c _)=>match qf3 tt ty ty2 c with
  | none=>none
  | some b=>match tsrc S c y with
   | none=>none
   | some (ly,S1,rd,wr)=>match S1.heap.get id with
    | some (.arr c2 lx)=>match qbp c c2 ly with
     | none=>none
     | some ly2=>cond (Nat.ble ((lx.length+ly2.length)*b) 140737488355328) (kk ⟨.arr S1.next,(S1.set id .dead).new (.arr c2 (lx++ly2)),rd,wr ||| 2 ^ id⟩) none
    | _=>none
 | _=>none
theorem z3y(tt:Nat->Option TI)(S:IS)(ty ty2 id:Nat)(y:IV)(kk:Res->Option R):qy4 tt S ty ty2 id y kk=ob (qhq tt S ty ty2 id y) kk:=by
 simp only[qy4,qhq];cases S.heap.get id with
 | none=>rfl
 | some o =>
  cases o<;>try rfl
  rename_i c l;simp only;cases qf3 tt ty ty2 c with
  | none=>rfl
  | some b =>
   simp only;cases tsrc S c y with
   | none=>rfl
   | some q =>
    obtain⟨ly,S1,rd,wr⟩:=q;simp only;cases S1.heap.get id with
    | none=>rfl
    | some o =>
     cases o<;>try rfl
     rename_i c2 lx;simp only;cases qbp c c2 ly with
     | none=>rfl
     | some ly2=>simp only[qbh];rfl
def qfr(tt:Nat->Option TI)(S:IS)(ty ty2:Nat)(c:TC)(l:List (El c))(rd:Nat)(kk:Res->Option R):Option R :=
 match qf3 tt ty ty2 c with
 | none=>none
 | some b=>cond (Nat.ble ((0+l.length)*b) 140737488355328) (kk ⟨.arr (S.next+1),((S.new (.arr c [])).set S.next .dead).new (.arr c l),rd,0⟩) none
theorem q78(tt:Nat->Option TI)(S:IS)(ty ty2:Nat)(c:TC)(l:List (El c))(rd:Nat)(kk:Res->Option R):qfr tt S ty ty2 c l rd kk=ob (qda tt S ty ty2 c l rd) kk:=by
 simp only[qfr,qda];cases qf3 tt ty ty2 c with
 | none=>rfl
 | some b=>simp only[qbh];rfl
def qpp(tt:Nat->Option TI)(S:IS)(ty ty2:Nat)(x y:IV)(kk:Res->Option R):Option R :=
 match x with
 | .arr id=>qy4 tt S ty ty2 id y kk
 | x=>match y with
  | .lst c l=>cond (empS c x) (qfr tt S ty ty2 c l 0 kk) none
  | .arr id=>match S.heap.get id with
   | some (.arr c l)=>cond (empS c x) (qfr tt S ty ty2 c l (2 ^ id) kk) none
   | some (.frz c l)=>cond (empS c x) (qfr tt S ty ty2 c l (2 ^ id) kk) none
   | _=>none
  | y=>ob (qj6 tt S ty ty2 x y) kk
theorem zqn(tt:Nat->Option TI)(S:IS)(ty ty2:Nat)(x y:IV)(kk:Res->Option R):qpp tt S ty ty2 x y kk=ob (iapp tt S ty ty2 x y) kk:=by
 have hz:∀(z:Option IObj) (b:TC->Bool) (id:Nat),(match z with
   | some (.arr c l)=>cond (b c) (qfr tt S ty ty2 c l (2 ^ id) kk) none
   | some (.frz c l)=>cond (b c) (qfr tt S ty ty2 c l (2 ^ id) kk) none
   | _=>none)=ob (match z with
   | some (.arr c l)=>cond (b c) (qda tt S ty ty2 c l (2 ^ id)) none
   | some (.frz c l)=>cond (b c) (qda tt S ty ty2 c l (2 ^ id)) none
   | _=>none) kk:=fun z b id=>by
  cases z with
  | none=>rfl
  | some o =>
   cases o<;>try rfl
   all_goals (simp only[qbh,q78];rfl)
 have hl:∀(b:Bool) (c:TC) (l:List (El c)),cond b (qfr tt S ty ty2 c l 0 kk) none=ob (cond b (qda tt S ty ty2 c l 0) none) kk:=fun b c l=>by simp only[qbh,q78];rfl
 cases x<;>first|exact z3y _ _ _ _ _ _ _|(cases y<;>first|rfl|(simp only[qpp,iapp];exact hl _ _ _)|(simp only[qpp,iapp];exact hz _ (fun c=>empS c _) _))
def qlt(P:Program)(tt:Nat->Option TI)(nt:Nat)(fr:PT IV)(S:IS)(o:Oper)(op:BinOp)(T:TypeId)(ti:TI)(v u:IV)(kk:Res->Option R):Option R:=match v,u with
 | .str a,.str b=>match op with
  | .add=>cond (Nat.blt (a.size+b.size) 9223372036854775808) (kk ⟨.str (a++b),S,0,0⟩) none
  | op=>ob (qdq P tt nt fr S o op T ti (.str a) (.str b)) kk
 | .int k a,.int k' b=>match op with
  | .quo=>cond (decide (k=k')) (cond (ieqI b 0) none (kk ⟨.int k (k.wrap (a.tdiv b)),S,0,0⟩)) (ob (qbi P nt fr S o) kk)
  | .rem=>cond (decide (k=k')) (cond (ieqI b 0) none (kk ⟨.int k (a.tmod b),S,0,0⟩)) (ob (qbi P nt fr S o) kk)
  | op=>ob (qdq P tt nt fr S o op T ti (.int k a) (.int k' b)) kk
 | .lst _ l,.nilsl=>cond (isSl ti.und) (match l with
  | []=>none
  | _::_=>match op with
   | .eql=>kk ⟨.bool false,S,0,0⟩
   | .neq=>kk ⟨.bool true,S,0,0⟩
   | _=>none) none
 | v,u=>ob (qdq P tt nt fr S o op T ti v u) kk
theorem zq9(P:Program)(tt:Nat->Option TI)(nt:Nat)(fr:PT IV)(S:IS)(o:Oper)(op:BinOp)(T:TypeId)(ti:TI)(v u:IV)(kk:Res->Option R):qlt P tt nt fr S o op T ti v u kk=ob (qdq P tt nt fr S o op T ti v u) kk:=by
 cases v<;>cases u<;>try rfl
 ·cases op<;>try rfl
  all_goals
   rename_i k a k' b;simp only[qlt,qdq,qpx,ibin];cases decide (k=k') with
   | false=>rfl
   | true =>
    simp only[cond_true];cases ieqI b 0<;>rfl
 ·cases op<;>try rfl
  simp only[qlt,qdq,qbh];rfl
 ·simp only[qlt,qdq,qbh];rename_i c l;cases l<;>cases op<;>rfl
def exfK(s:Sm)(vs:List IV)(S:IS)(kk:Res->Option R):Option R :=
 match qek s.pts S vs with
 | none=>none
 | some (x,S1,w)=>match s.f x with
  | none=>none
  | some y=>cond s.flat (kk ⟨tupI (resV s.rts S.next y),addO (resO s.rts y) S,w,0⟩) (kk ⟨tupI (resV s.rts S1.next y),addO (resO s.rts y) S1,0,w⟩)
theorem zli(s:Sm)(vs:List IV)(S:IS)(kk:Res->Option R):exfK s vs S kk=ob (exf s vs S) kk:=by
 simp only[exfK,exf];cases qek s.pts S vs with
 | none=>rfl
 | some q =>
  obtain⟨x,S1,w⟩:=q;simp only;cases s.f x with
  | none=>rfl
  | some y=>simp only[qbh];rfl
def q2p(tt:Nat->Option TI)(S:IS)(ty:Nat)(v:IV)(kk:Res->Option R):Option R:=match v with
 | .map id=>match tt ty with
  | some ti=>match ti.und with
   | .map _ _=>match S.heap.get id with
    | some (.tmap _ _ es)=>cond (Nat.blt es.length 9223372036854775808) (kk ⟨.int .i64 es.length,S,2 ^ id,0⟩) none
    | _=>ob (ilen tt S ty (.map id)) kk
   | _=>none
  | none=>none
 | v=>ob (ilen tt S ty v) kk
theorem zv0(tt:Nat->Option TI)(S:IS)(ty:Nat)(v:IV)(kk:Res->Option R):q2p tt S ty v kk=ob (ilen tt S ty v) kk:=by
 cases v<;>try rfl
 rename_i id;simp only[q2p];cases h1:tt ty with
 | none=>simp only[ilen,h1];rfl
 | some ti =>
  simp only;cases h2:ti.und<;>try (simp only[ilen,h1,h2];rfl)
  simp only;cases h3:S.heap.get id with
  | none=>rfl
  | some o =>
   cases o<;>try rfl
   simp only[ilen,h1,h2,h3,qbh];rfl
end
end Go.Jx
end

section
namespace Go.Jx
open Go Go.Sx Go.RowKit
universe u

def bd{α R:Type}(x:Option α)(k:α->Option R):Option R:=match x with|some a=>k a|none=>none
theorem qmv{α R:Type}(k:α->Option R)(b:Bool)(x y:Option α):bd (cond b x y) k=cond b (bd x k) (bd y k):=by cases b<;>rfl
theorem qfe{α R:Type}(x:Option α)(f:α->Option Res)(k:Res->Option R):ob (oget x f) k=bd x fun a=>ob (f a) k:=by cases x<;>rfl
section
variable {R : Type}
def iopK(P:Program)(tt:Nat->Option TI)(nt:Nat)(fr:PT IV)(S:IS)(o:Oper)(kk:Res->Option R):Option R :=
 match o.op with
 | .load T x=>bd (evo nt fr x) fun v=>qug tt S T v kk
 | .store T x y=>bd (evo nt fr x) fun v=>bd (evo nt fr y) fun u=>q3s tt S T v u kk
 | .binOp op T x y _=>bd (evo nt fr x) fun v=>bd (evo nt fr y) fun u=>match tt T with
  | some ti=>qlt P tt nt fr S o op T ti v u kk
  | none=>none
 | .slice T x lo hi mx=>bd (evo nt fr x) fun v=>match v with
  | .lst c l=>bd (evM nt fr lo) fun lo=>bd (evM nt fr hi) fun hi=>bd (evM nt fr mx) fun mx=>qx4 tt S T lo hi mx (.lst c l) kk
  | .str s=>bd (evM nt fr lo) fun lo=>bd (evM nt fr hi) fun hi=>bd (evM nt fr mx) fun mx=>q0q tt S T lo hi mx s kk
  | .arr id=>bd (evM nt fr lo) fun lo=>bd (evM nt fr hi) fun hi=>bd (evM nt fr mx) fun mx=>qtn tt S T lo hi mx id (zbl o.pos) kk
  | _=>ob (iop P tt nt fr S o) kk
 | .indexAddr T x y=>bd (evo nt fr x) fun v=>bd (evo nt fr y) fun u=>qs7 tt S T v u kk
 | .makeSlice T x y=>bd (evo nt fr x) fun v=>cond (qsd x y) (zbd tt S T v kk) (bd (evo nt fr y) fun u=>qz9 tt S T v u kk)
 | .next x b=>bd (evo nt fr x) fun v=>qvd S v b kk
 | .index T x y=>bd (evo nt fr x) fun v=>bd (evo nt fr y) fun u=>match v,u with
  | .str s,.int _ i=>qwz tt S T s i kk
  | _,_=>ob (iop P tt nt fr S o) kk
 | .call ⟨.builtin .append,args,ts⟩=>match args.toList,ts.toList with
  | [x,y],[t1,t2]=>bd (evo nt fr x) fun v=>bd (evo nt fr y) fun u=>qpp tt S t1 t2 v u kk
  | _,_=>none
 | .call ⟨.builtin .len,args,ts⟩=>match args.toList,ts.toList with
  | [x],[t1]=>bd (evo nt fr x) fun v=>match v with
   | .map id=>q2p tt S t1 (.map id) kk
   | _=>ob (iop P tt nt fr S o) kk
  | _,_=>none
 | _=>ob (iop P tt nt fr S o) kk
theorem zbo(P:Program)(tt:Nat->Option TI)(nt:Nat)(fr:PT IV)(S:IS)(o:Oper)(kk:Res->Option R):iopK P tt nt fr S o kk=ob (iop P tt nt fr S o) kk:=by
 obtain⟨dst,op,ty,pos,aft,g⟩:=o;cases op<;>try rfl
 case load T x=>simp only[iopK,iop,qfe,zqp]
 case store T x y=>simp only[iopK,iop,qfe,zl4]
 case binOp op T x y t2 =>
  simp only[iopK,iop,qfe];cases evo nt fr x<;>try rfl
  cases evo nt fr y<;>try rfl
  simp only[bd];cases tt T<;>first|rfl|exact zq9 ..
 case slice T x lo hi mx =>
  simp only[iopK];cases he:evo nt fr x with
  | none=>simp only[iop,he];rfl
  | some v =>
   simp only[bd];cases v<;>try rfl
   ·simp only[iop,he,oget];cases evM nt fr lo<;>try rfl
    cases evM nt fr hi<;>try rfl
    cases evM nt fr mx<;>try rfl
    exact zyk ..
   ·simp only[iop,he,oget];cases evM nt fr lo<;>try rfl
    cases evM nt fr hi<;>try rfl
    cases evM nt fr mx<;>try rfl
    exact zzq ..
   ·simp only[iop,he,oget];cases evM nt fr lo<;>try rfl
    cases evM nt fr hi<;>try rfl
    cases evM nt fr mx<;>try rfl
    exact zrl ..
 case indexAddr T x y=>simp only[iopK,iop,qfe,zkb]
 case makeSlice T x y=>simp only[iopK,iop,qfe,qbh,ziu,zlh]
 case next x b=>simp only[iopK,iop,qfe,zku]
 case index T x y =>
  simp only[iopK];cases he:evo nt fr x with
  | none=>simp only[iop,he];rfl
  | some v =>
   simp only[bd];cases he2:evo nt fr y with
   | none=>simp only[iop,he,he2,oget];rfl
   | some u =>
    simp only;cases v<;>cases u<;>try rfl
    simp only[iop,he,he2,oget];exact zk0 ..
 case call c =>
  obtain⟨callee,args,ts⟩:=c;cases callee<;>try rfl
  rename_i b;cases b<;>try rfl
  case append =>
   simp only[iopK,iop];generalize args.toList=la;generalize ts.toList=lt;cases la with
   | nil=>rfl
   | cons x la=>cases la with
    | nil=>rfl
    | cons y la=>cases la with
     | cons z la=>rfl
     | nil=>cases lt with
      | nil=>rfl
      | cons t1 lt=>cases lt with
       | nil=>rfl
       | cons t2 lt=>cases lt with
        | cons t3 lt=>rfl
        | nil=>simp only[qfe,zqn]
  case len =>
   simp only[iopK,iop];generalize args.toList=la;generalize ts.toList=lt;cases la with
   | nil=>rfl
   | cons x la=>cases la with
    | cons y la=>rfl
    | nil=>cases lt with
     | nil=>rfl
     | cons t1 lt=>cases lt with
      | cons t2 lt=>rfl
      | nil =>
       simp only;cases he:evo nt fr x with
       | none=>rfl
       | some v =>
        simp only[bd,oget];cases v<;>try rfl
        exact zv0 ..
abbrev ClK(R:Type):=Tgt->List IV->IS->(Res->Option R)->Option R
def qka(P:Program)(tt:Nat->Option TI)(nt:Nat)(cl:ClK R)(fr:PT IV)(S:IS)(o:Oper)(kk:Res->Option R):Option R :=
 match o.op with
 | .call ⟨.value x,args,_⟩=>bd (evo nt fr x) fun v=>bd (evL nt fr args.toList) fun vs=>match v with
  | .fn f caps=>cl (.fn f) (vs++caps) S kk
  | .bfn f bs=>cl (.fn f) (bs++vs) S kk
  | .yield id=>cl (.yield id) vs S kk
  | _=>none
 | _=>iopK P tt nt fr S o kk
def ClEq(cl:Cl)(clK:ClK R):Prop:=∀tgt vs S kk,clK tgt vs S kk=ob (cl tgt vs S) kk
variable {P : Program} {tt : Nat -> Option TI} {nt : Nat} {cl : Cl} {clK : ClK R}
theorem q5u(h:ClEq cl clK)(fr:PT IV)(S:IS)(o:Oper)(kk:Res->Option R):qka P tt nt clK fr S o kk=ob (qcn P tt nt cl fr S o) kk:=by
 obtain⟨dst,op,ty,pos,aft,g⟩:=o;cases op
 case call c =>
  obtain⟨callee,args,ts⟩:=c;cases callee
  case value x =>
   simp only[qka,qcn,qfe];cases evo nt fr x<;>try rfl
   rename_i v;cases evL nt fr args.toList<;>try rfl
   rename_i vs;cases v<;>try rfl
   ·exact h ..
   ·exact h ..
   ·exact h ..
  all_goals (simp only[qka,qcn];exact zbo ..)
 all_goals (simp only[qka,qcn];exact zbo ..)
theorem PT.set_same{α:Type u}{x:α}:∀{t:PT α} {n:Nat},t.get n=some x->t.set x n=t
 | .leaf,n,h=>by cases h
 | .node v l r,n,h=>by
  unfold PT.get at h;unfold PT.set;cases h0:Nat.beq n 0 with
  | true=>rw[h0,cond_true] at h;subst h;rfl
  | false =>
   rw[h0,cond_false] at h;simp only[cond_false];cases h1:Nat.beq (n % 2) 1 with
   | true=>rw[h1,cond_true] at h;simp only[cond_true];rw[PT.set_same h]
   | false=>rw[h1,cond_false] at h;simp only[cond_false];rw[PT.set_same h]
theorem zyr{fr:PT IV}{t:Nat}{v:IV}(h:slot fr t=v)(hv:v≠.unk):fr.set v t=fr:=by
 unfold slot at h;cases hg:fr.get t with
 | none=>rw[hg] at h;exact absurd h.symm hv
 | some x=>rw[hg] at h;subst h;exact PT.set_same hg
def guK(ops:List Oper)(nt:Nat)(fr:PT IV)(g:Option (Nat × Bool))(yes no:PT IV->Option R):Option R :=
 match g with
 | none=>yes fr
 | some (j,want)=>match qcd ops j with
  | none=>no fr
  | some t=>match slot fr t with
   | .bool b=>cond (Nat.blt t nt) (cond b (cond want yes no (fr.set (.bool true) t)) (cond want no yes (fr.set (.bool false) t))) (no fr)
   | v=>cond (qdn v) (no fr) none
theorem q81(ops:List Oper)(nt:Nat)(fr:PT IV)(g:Option (Nat × Bool))(yes no:PT IV->Option R):guK ops nt fr g yes no=cond (gOK ops fr g) (cond (qdh ops nt fr g) (yes fr) (no fr)) none:=by
 unfold guK gOK qdh qqa;cases g with
 | none=>rfl
 | some q =>
  obtain⟨j,want⟩:=q;simp only;cases qcd ops j with
  | none=>rfl
  | some t =>
   simp only;cases hs:slot fr t
   case bool b =>
    have hf:fr.set (.bool b) t=fr:=zyr hs (by simp);simp only[qdn,cond_true];cases Nat.blt t nt
    ·rfl
    ·cases b<;>cases want<;>simp only[cond_true,cond_false,hf,Bool.not_true,Bool.not_false]
   all_goals (cases Nat.blt t nt<;>rfl)
def qjp(P:Program)(tt:Nat->Option TI)(nt:Nat)(cl:ClK R)(ops:List Oper):List Oper->PT IV->IS->(FRes->Option R)->Option R
 | [],fr,S,kk=>kk ⟨fr,S,0,0⟩
 | o::l,fr,S,kk=>guK ops nt fr o.guard
  (fun fr=>qka P tt nt cl fr S o fun r=>qjp P tt nt cl ops l (putD o.dst r.v fr) r.S fun q=>kk ⟨q.fr,q.S,r.rd ||| q.rd,r.wr ||| q.wr⟩)
  (fun fr=>qjp P tt nt cl ops l (putD o.dst (.tup []) fr) S kk)
theorem qtv(h:ClEq cl clK)(ops:List Oper):∀(l:List Oper) (fr:PT IV) (S:IS) (kk:FRes->Option R),qjp P tt nt clK ops l fr S kk=bd (iseq P tt nt cl ops l fr S) kk
 | [],fr,S,kk=>rfl
 | o::l,fr,S,kk=>by
  simp only[qjp,iseq,q81,qmv,q5u h,qtv h ops l];refine cond_congr' ?_;refine cond_congr' ?_;cases qcn P tt nt cl fr S o with
  | none=>rfl
  | some r =>
   simp only[ob];cases iseq P tt nt cl ops l (putD o.dst r.v fr) r.S<;>rfl
where cond_congr' {b:Bool} {x x' y:Option R} (h:x=x'):cond b x y=cond b x' y:=by rw[h]
def qny(P:Program)(tt:Nat->Option TI)(nt:Nat)(cl:ClK R)(ops:List Oper):List Oper->PT IV->IS->(Recs->Option R)->Option R
 | [],fr,S,kk=>kk ⟨[],fr,S⟩
 | o::l,fr,S,kk=>guK ops nt fr o.guard
  (fun fr=>qka P tt nt cl fr S o fun r=>qny P tt nt cl ops l (putD o.dst r.v fr) r.S fun q=>kk ⟨⟨fr,S,r.v,r.rd,r.wr,true⟩::q.l,q.fr,q.S⟩)
  (fun fr=>qny P tt nt cl ops l (putD o.dst (.tup []) fr) S fun q=>kk ⟨⟨fr,S,.tup [],0,0,false⟩::q.l,q.fr,q.S⟩)
theorem zcv(h:ClEq cl clK)(ops:List Oper):∀(l:List Oper) (fr:PT IV) (S:IS) (kk:Recs->Option R),qny P tt nt clK ops l fr S kk=bd (qdl P tt nt cl ops l fr S) kk
 | [],fr,S,kk=>rfl
 | o::l,fr,S,kk=>by
  simp only[qny,qdl,q81,qmv,q5u h,zcv h ops l];cases gOK ops fr o.guard
  ·rfl
  cases qdh ops nt fr o.guard
  ·simp only[cond_true,cond_false];cases qdl P tt nt cl ops l (putD o.dst (.tup []) fr) S<;>rfl
  ·simp only[cond_true];cases qcn P tt nt cl fr S o with
   | none=>rfl
   | some r =>
    simp only[ob];cases qdl P tt nt cl ops l (putD o.dst r.v fr) r.S<;>rfl
def qot(P:Program)(tt:Nat->Option TI)(nt:Nat)(cl:ClK R)(ops:List Oper)(fr:PT IV)(S:IS)(kk:FRes->Option R):Option R :=
 qny P tt nt cl ops ops fr S fun q=>cond (ichk q.l q.S (befs ops []) []) (kk ⟨q.fr,q.S,orRd q.l,orWr q.l⟩) none
theorem zc9(h:ClEq cl clK)(ops:List Oper)(fr:PT IV)(S:IS)(kk:FRes->Option R):qot P tt nt clK ops fr S kk=bd (iany P tt nt cl ops fr S) kk:=by
 simp only[qot,iany,zcv h];cases qdl P tt nt cl ops ops fr S with
 | none=>rfl
 | some q=>simp only[qmv];rfl

abbrev CdK(R:Type):=PT IV->IS->List Nat->(CRes->Option R)->Option R
def qqx(f:CdK R):Nat->CdK R
 | 0,_,_,_,_=>none
 | n+1,fr,S,ds,kk=>f fr S ds fun r=>match r.e with
  | .normal=>qqx f n r.fr r.S r.ds fun q=>kk (q.or r.rd r.wr)
  | _=>kk r
def qez(f:CdK R)(mr mw:Nat):Nat->CdK R
 | 0,_,_,_,_=>none
 | n+1,fr,S,ds,kk=>f fr S ds fun r=>cond (subm r.rd mr&&subm r.wr mw) (match r.e with
  | .normal=>qez f mr mw n r.fr r.S r.ds kk
  | e=>kk ⟨e,r.fr,r.S,r.ds,mr,mw⟩) none
def qqu(cl:ClK R)(f:Nat)(caps:List IV)(S:IS)(id:Nat)(fr:PT IV)(ds:List Nat)(rd:Nat)(kk:CRes->Option R):Option R :=
 cl (.fn f) (.yield id::caps) S fun r=>match r.S.heap.get id with
  | some (.loop st pend nt fr2 ps assign body D)=>match st with
   | .busy=>none
   | _=>match pend with
    | none=>kk ⟨.normal,fr,r.S.set id (.loop .exhausted pend nt fr2 ps assign body D),ds,rd ||| (r.rd ||| 2 ^ id),r.wr ||| 2 ^ id⟩
    | some c=>match qn7 c with
     | none=>none
     | some e=>kk ⟨e,fr,r.S.set id (.loop .exhausted pend nt fr2 ps assign body D),ds,rd ||| (r.rd ||| 2 ^ id),r.wr ||| 2 ^ id⟩
  | _=>none
theorem q9h(h:ClEq cl clK)(f:Nat)(caps:List IV)(S:IS)(id:Nat)(fr:PT IV)(ds:List Nat)(rd:Nat)(kk:CRes->Option R):qqu clK f caps S id fr ds rd kk=bd (ifin cl f caps S id fr ds rd) kk:=by
 simp only[qqu,ifin,h (.fn f)];cases cl (.fn f) (.yield id::caps) S with
 | none=>rfl
 | some r =>
  simp only[ob];cases r.S.heap.get id with
  | none=>rfl
  | some o =>
   cases o<;>try rfl
   rename_i st pend nt fr2 ps assign body D;cases st<;>try rfl
   all_goals
    cases pend with
    | none=>rfl
    | some c =>
     simp only;cases qn7 c<;>rfl
theorem q2z{B:Nat}(x:Option CRes)(kk:CRes->Option R):bd (mbO B x) kk=bd x fun r=>kk (mbR B r):=by cases x<;>rfl
def qa0(P:Program)(tt:Nat->Option TI)(nm:Nat->Option Nm)(B:Nat)(nt:Nat)(cl:ClK R)(lf:Nat)(round:Option Nat):Code->CdK R
 | .skip,fr,S,ds,kk=>kk ⟨.normal,fr,S,ds,0,0⟩
 | .label _,fr,S,ds,kk=>kk ⟨.normal,fr,S,ds,0,0⟩
 | .exit id,fr,S,ds,kk=>kk ⟨.exit id,fr,S,ds,0,0⟩
 | .goto l,fr,S,ds,kk=>kk ⟨.goto l,fr,S,ds,0,0⟩
 | .ret,fr,S,ds,kk=>kk ⟨.ret,fr,S,ds,0,0⟩
 | .refuse _,_,_,_,_=>none
 | .region id ops draw,fr,S,ds,kk=>bd (qck nt (nm id) B fr S ds) fun x =>
  cond draw (qot P tt nt cl ops.toList x.fr x.S fun q=>kk (mbR (mB nm B) ⟨.normal,q.fr,q.S,x.ds,q.rd,x.wr ||| q.wr⟩))
   (qjp P tt nt cl ops.toList ops.toList x.fr x.S fun q=>kk (mbR (mB nm B) ⟨.normal,q.fr,q.S,x.ds,q.rd,x.wr ||| q.wr⟩))
 | .seq x y,fr,S,ds,kk=>qa0 P tt nm B nt cl lf round x fr S ds fun r=>match r.e with
  | .normal=>qa0 P tt nm B nt cl lf round y r.fr r.S r.ds fun q=>kk (q.or r.rd r.wr)
  | _=>kk r
 | .cond c x y,fr,S,ds,kk=>match evo nt fr c with
  | some (.bool b)=>cond b (qa0 P tt nm B nt cl lf round x fr S ds kk) (qa0 P tt nm B nt cl lf round y fr S ds kk)
  | _=>none
 | .block id c,fr,S,ds,kk=>qa0 P tt nm B nt cl lf round c fr S ds fun r=>match r.e with
  | .exit id'=>cond (Nat.beq id' id) (kk ⟨.normal,r.fr,r.S,r.ds,r.rd,r.wr⟩) (kk r)
  | _=>kk r
 | .scope c,fr,S,ds,kk=>qa0 P tt nm B nt cl lf round c fr S ds fun r=>match r.e with
  | .goto _=>none
  | _=>kk r
 | .loop c,fr,S,ds,kk=>match qdy nm c with
  | some m=>qez (qa0 P tt nm B nt cl lf round c) m.1 m.2 lf fr S ds fun r=>kk (mbR (mB nm B) r)
  | none=>qqx (qa0 P tt nm B nt cl lf round c) lf fr S ds kk
 | .rangeFunc g ps assign body,fr,S,ds,kk=>match evo nt fr g with
  | some (.fn f caps)=>match round with
   | none=>qqu cl f caps ((S.new (.defs true)).new (.loop .ready none nt fr ps.toList assign body S.next)) (S.next+1) fr (S.next::ds) 0 fun r=>kk (mbR (mB nm B) r)
   | some l=>match S.heap.get l with
    | some (.loop _ _ _ _ _ _ _ D)=>qqu cl f caps (S.new (.loop .ready none nt fr ps.toList assign body D)) S.next fr ds (2 ^ l) fun r=>kk (mbR (mB nm B) r)
    | _=>none
  | _=>none
variable {nm : Nat -> Option Nm} {B lf : Nat} {round : Option Nat}
theorem q8s{g:PT IV->IS->List Nat->Option CRes}{f:CdK R}(h:∀fr S ds kk,f fr S ds kk=bd (g fr S ds) kk):∀n fr S ds kk,qqx f n fr S ds kk=bd (qeu g n fr S ds) kk
 | 0,_,_,_,_=>rfl
 | n+1,fr,S,ds,kk=>by
  simp only[qqx,qeu,h,q8s h n];cases g fr S ds with
  | none=>rfl
  | some r =>
   simp only[bd];cases r.e<;>try rfl
   simp only;cases qeu g n r.fr r.S r.ds<;>rfl
theorem q51{g:PT IV->IS->List Nat->Option CRes}{f:CdK R}{mr mw:Nat}(h:∀fr S ds kk,f fr S ds kk=bd (g fr S ds) kk):∀n fr S ds kk,qez f mr mw n fr S ds kk=bd (qc4 g mr mw n fr S ds) kk
 | 0,_,_,_,_=>rfl
 | n+1,fr,S,ds,kk=>by
  simp only[qez,qc4,h,q51 h n];cases g fr S ds with
  | none=>rfl
  | some r =>
   simp only[qmv];simp only[bd];cases subm r.rd mr&&subm r.wr mw
   ·rfl
   ·simp only[cond_true];cases r.e<;>rfl
theorem qe3(hcl:ClEq cl clK):∀(c:Code) (fr:PT IV) (S:IS) (ds:List Nat) (kk:CRes->Option R),qa0 P tt nm B nt clK lf round c fr S ds kk=bd (qam P tt nm B nt cl lf round c fr S ds) kk:=by
 intro c;induction c with
 | skip=>intros;rfl
 | label l=>intros;rfl
 | exit id=>intros;rfl
 | goto l=>intros;rfl
 | ret=>intros;rfl
 | refuse _=>intros;rfl
 | region id ops draw =>
  intro fr S ds kk;simp only[qa0,qam,q2z];cases qck nt (nm id) B fr S ds with
  | none=>rfl
  | some x =>
   simp only[bd,zc9 hcl,qtv hcl];cases draw with
   | true=>simp only[cond_true];cases iany P tt nt cl ops.toList x.fr x.S<;>rfl
   | false=>simp only[cond_false];cases iseq P tt nt cl ops.toList ops.toList x.fr x.S<;>rfl
 | seq x y ihx ihy =>
  intro fr S ds kk;simp only[qa0,qam,ihx,ihy];cases qam P tt nm B nt cl lf round x fr S ds with
  | none=>rfl
  | some r =>
   simp only[bd];cases r.e<;>try rfl
   simp only;cases qam P tt nm B nt cl lf round y r.fr r.S r.ds<;>rfl
 | cond c x y ihx ihy =>
  intro fr S ds kk;simp only[qa0,qam];cases evo nt fr c with
  | none=>rfl
  | some v =>
   cases v<;>try rfl
   simp only[ihx,ihy,qmv]
 | block id c ih =>
  intro fr S ds kk;simp only[qa0,qam,ih];cases qam P tt nm B nt cl lf round c fr S ds with
  | none=>rfl
  | some r =>
   simp only[bd];cases r.e<;>try rfl
   simp only;rename_i id';cases Nat.beq id' id<;>rfl
 | scope c ih =>
  intro fr S ds kk;simp only[qa0,qam,ih];cases qam P tt nm B nt cl lf round c fr S ds with
  | none=>rfl
  | some r =>
   simp only[bd];cases r.e<;>rfl
 | loop c ih =>
  intro fr S ds kk;simp only[qa0,qam];cases qdy nm c with
  | none=>exact q8s ih _ _ _ _ _
  | some m=>exact(q51 ih _ _ _ _ _).trans (q2z _ _).symm
 | rangeFunc g ps assign body ih1 ih2 =>
  intro fr S ds kk;simp only[qa0,qam,q2z];cases evo nt fr g with
  | none=>rfl
  | some v =>
   cases v<;>try rfl
   simp only;cases round with
   | none=>exact q9h hcl ..
   | some l =>
    simp only;cases S.heap.get l with
    | none=>rfl
    | some o =>
     cases o<;>try rfl
     exact q9h hcl ..
def qvx(P:Program)(tt:Nat->Option TI)(cl:ClK R)(lf:Nat)(id:Nat)(vs:List IV)(S:IS)(kk:Res->Option R):Option R :=
 match S.heap.get id with
 | some (.loop .ready _ nt fr ps assign body _)=>cond (Nat.beq vs.length ps.length&&qa9 assign&&qa9 body)
  (qa0 P tt (fun _=>none) S.next nt cl lf (some id) assign (qds ps vs fr) S [] fun r1=>match r1.e with
   | .normal=>match r1.S.heap.get id with
    | some (.loop .ready pend nt2 fr2 ps2 as2 bd2 D2)=>qa0 P tt (fun _=>none) S.next nt cl lf (some id) body r1.fr (r1.S.set id (.loop .busy pend nt2 fr2 ps2 as2 bd2 D2)) r1.ds fun r2 =>
     match r2.S.heap.get id with
     | some (.loop _ _ nt3 fr3 ps3 as3 bd3 D3)=>kk ⟨.bool (qdt r2.e).isNone,r2.S.set id (.loop (if (qdt r2.e).isNone then .ready else .done) (qdt r2.e) nt3 fr3 ps3 as3 bd3 D3),2 ^ id ||| (r1.rd ||| r2.rd),(r1.wr ||| 2 ^ id) ||| (r2.wr ||| 2 ^ id)⟩
     | _=>none
    | _=>none
   | _=>none) none
 | _=>none
theorem zwn(hcl:ClEq cl clK)(id:Nat)(vs:List IV)(S:IS)(kk:Res->Option R):qvx P tt clK lf id vs S kk=ob (qe1 P tt cl lf id vs S) kk:=by
 simp only[qvx,qe1];cases S.heap.get id with
 | none=>rfl
 | some o =>
  cases o<;>try rfl
  rename_i st pend nt fr ps assign body D;cases st<;>try rfl
  simp only[qbh,qe3 hcl];cases (Nat.beq vs.length ps.length&&qa9 assign&&qa9 body)
  ·rfl
  ·simp only[cond_true];cases qam P tt (fun _=>none) S.next nt cl lf (some id) assign (qds ps vs fr) S [] with
   | none=>rfl
   | some r1 =>
    simp only[bd];cases r1.e<;>try rfl
    simp only;cases r1.S.heap.get id with
    | none=>rfl
    | some o =>
     cases o<;>try rfl
     rename_i st pend2 nt2 fr2 ps2 as2 bd2 D2;cases st<;>try rfl
     simp only;cases qam P tt (fun _=>none) S.next nt cl lf (some id) body r1.fr (r1.S.set id (.loop .busy pend2 nt2 fr2 ps2 as2 bd2 D2)) r1.ds with
     | none=>rfl
     | some r2 =>
      simp only;cases r2.S.heap.get id with
      | none=>rfl
      | some o=>cases o<;>rfl
abbrev ClP:=(R:Type)->ClK R
structure Hx where
 f:Cl->List IV->IS->Option Res
 k:ClP->(R:Type)->List IV->IS->(Res->Option R)->Option R
 eq:∀(cl:Cl) (clP:ClP),(∀R,ClEq cl (clP R))->∀R vs S kk,k clP R vs S kk=ob (f cl vs S) kk
def exH(sm:Nat->Option Sm)(hx:Nat->Option Hx):Ex:=fun f=>match sm f with
 | some s=>some (fun _=>exf s)
 | none=>match hx f with
  | some h=>some h.f
  | none=>none
def qan(P:Program)(tt:Nat->Option TI)(ft:Nat->Option FI)(nm:Nat->Nat->Option Nm)(sm:Nat->Option Sm)(hx:Nat->Option Hx)(lf:Nat):Nat->ClP
 | 0,_,_,_,_,_=>none
 | n+1,R,tgt,vs,S,kk=>match tgt with
  | .yield id=>qvx P tt (qan P tt ft nm sm hx lf n R) lf id vs S kk
  | .fn f=>match sm f with
   | some s=>exfK s vs S kk
   | none=>match hx f with
    | some h=>h.k (qan P tt ft nm sm hx lf n) R vs S kk
    | none=>match ft f with
     | none=>none
     | some fi=>cond (frzF (nm f)) none (cond (Nat.ble vs.length fi.nt) (qa0 P tt (nm f) S.next fi.nt (qan P tt ft nm sm hx lf n R) lf none fi.body (qal vs 0 .leaf) S [] fun r=>cond r.e.leaves (bd (qeh tt fi.nt fi.res S r) kk) none) none)
theorem qa6{ft:Nat->Option FI}{nm:Nat->Nat->Option Nm}{sm:Nat->Option Sm}{hx:Nat->Option Hx}:∀n R,ClEq (qcg P tt ft nm (exH sm hx) lf n) (qan P tt ft nm sm hx lf n R)
 | 0,_=>fun _ _ _ _=>rfl
 | n+1,R=>fun tgt vs S kk=>by
  unfold qan qcg;cases tgt with
  | yield id=>exact zwn (qa6 n R) ..
  | fn f =>
   simp only[exH];cases sm f with
   | some s=>exact zli ..
   | none =>
    simp only;cases hx f with
    | some h=>exact h.eq _ _ (qa6 n) R vs S kk
    | none =>
     simp only;cases ft f with
     | none=>rfl
     | some fi =>
      simp only[qbh,qe3 (qa6 n R)];cases frzF (nm f)
      case true=>rfl
      simp only[cond_false];cases Nat.ble vs.length fi.nt
      ·rfl
      ·simp only[cond_true];cases qam P tt (nm f) S.next fi.nt (qcg P tt ft nm (exH sm hx) lf n) lf none fi.body (qal vs 0 .leaf) S [] with
       | none=>rfl
       | some r =>
        simp only[bd,qbh];cases r.e.leaves
        ·rfl
        ·cases qeh tt fi.nt fi.res S r<;>rfl
end
end Go.Jx
end

section
namespace Go.Jx
open Go Go.Sx Go.RowKit
universe u

def PT.Fa{α:Type u}:PT α->(Nat->α->Prop)->Prop
 | .leaf,_=>True
 | .node v l r,p=>(match v with|none=>True|some x=>p 0 x)/\l.Fa (fun k=>p (2*k+1))/\r.Fa (fun k=>p (2*k+2))
theorem PT.fa{α:Type u}:∀{t:PT α} {p:Nat->α->Prop},t.Fa p->∀k v,t.get k=some v->p k v
 | .leaf,p,h,k,v,hk=>by cases hk
 | .node x l r,p,h,k,v,hk=>by
  obtain⟨h1,h2,h3⟩:=h;unfold PT.get at hk;by_cases h0:k=0
  ·subst h0;rw[qdw rfl,cond_true] at hk;subst hk;exact h1
  ·rw[qbn h0,cond_false] at hk;by_cases h4:k % 2=1
   ·rw[qdw h4,cond_true] at hk;have:=PT.fa h2 _ _ hk
    rwa [show 2*(k / 2)+1=k by omega] at this
   ·rw[qbn h4,cond_false] at hk;have:=PT.fa h3 _ _ hk
    rwa [show 2*((k-1) / 2)+2=k by omega] at this
def FIok (P:Program) (f:Nat) (fi:FI):Prop:=∃fn,P.funcs[f]?=some fn/\fn.body=some fi.body/\fn.ntmps=fi.nt/\fn.results=fi.res.toArray/\(fn.name == "runtime.NumGoroutine") = false/\qa9 fi.body=true

def WfE:(c:TC)->El c->Prop
 | .int k=>fun(n:Int)=>k.wrap n=n
 | .bool=>fun _=>True
 | .str=>fun(s:ByteArray)=>s.size<9223372036854775808
 | .list c=>fun(l:List (El c))=>l.length*bsz c<=140737488355328/\∀x∈l,WfE c x
 | .two a b=>fun(x:El a × El b)=>WfE a x.1/\WfE b x.2
def WfA:(cs:List TC)->ElA cs->Prop
 | [],_=>True
 | c::cs,x=>WfE c x.1/\WfA cs x.2
theorem wf_cells{E:Env}:∀(c:TC) (x:El c) (us:Nat->Value),(∀j (h:j<(cel c x).length),VR E (cel c x)[j] (us j))->WfE c x
 | .int k,x,us,h=>by
  have:=h 0 (by simp[cel]);have h0:VR E (.int k x) (us 0):=this;generalize us 0=u at h0;cases h0;assumption
 | .bool,x,us,h=>trivial
 | .str,x,us,h=>by
  have:=h 0 (by simp[cel]);have h0:VR E (.str x) (us 0):=this;generalize us 0=u at h0;cases h0;assumption
 | .list c,l,us,h=>by
  have:=h 0 (by simp[cel]);have h0:VR E (.lst c l) (us 0):=this;generalize us 0=u at h0;cases h0 with
  | lst0 hc=>exact⟨by simp,fun x hx=>by cases hx⟩
  | lst us2 h1 h2 h3 hb hh hc hu =>
   refine⟨h3,fun x hx=>?_⟩;obtain⟨i,hi,rfl⟩:=List.mem_iff_getElem.1 hx;exact wf_cells c _ (us2 i) (hu i hi)
 | .two a b,x,us,h=>by
  have e:cel (.two a b) x=cel a x.1++cel b x.2:=rfl;refine⟨wf_cells (E:=E) a x.1 us fun j hj=>?_,wf_cells (E:=E) b x.2 (fun j=>us ((cel a x.1).length+j)) fun j hj=>?_⟩
  ·have:=h j (by rw[e,List.length_append];omega);simp only[e] at this
   rwa [List.getElem_append_left hj] at this
  ·have:=h ((cel a x.1).length+j) (by rw[e,List.length_append];omega);simp only[e] at this;rw[List.getElem_append_right (by omega)] at this;simpa only [Nat.add_sub_cancel_left] using this
theorem qu1{E:Env}{c:TC}{x:El c}{u:Value}(hc:cel c x=[asIV c x])(h:VR E (asIV c x) u):WfE c x :=
 wf_cells (E:=E) c x (fun _=>u) fun j hj=>by
  have:j=0:=by rw[hc] at hj;simp at hj;omega
  subst this;simp only[hc];exact h
theorem qrn{E:Env}{c:TC}{x:El c}{u:Value}(h:VR E (asIV c x) u):WfE c x:=by
 cases c with
 | two a b =>
  cases h with
  | agg hl hh =>
   rename_i us;refine wf_cells (E:=E) (.two a b) x (fun j=>us.getD j .nilFunc) fun j hj=>?_;have hj2:j<us.length:=by rw[<- hl];exact hj
   show VR E _ (us.getD j .nilFunc);rw[List.getD_eq_getElem?_getD,List.getElem?_eq_getElem hj2];exact hh j hj hj2
 | int k=>exact qu1 rfl h
 | bool=>trivial
 | str=>exact qu1 rfl h
 | list c=>exact qu1 rfl h
theorem q9r{E:Env}:∀{cs:List TC} {x:ElA cs} {us:List Value},VRs E (argV cs x) us->WfA cs x
 | [],x,us,h=>trivial
 | c::cs,x,us,h=>by
  obtain⟨u,us,rfl,a1,a2⟩:=VRs.inv (v:=asIV c x.1) (cs:=argV cs x.2) h;exact⟨qrn a1,q9r a2⟩
theorem conW{P:Program}{tt:Nat->Option TI}{ft:Nat->Option FI}{nm:Nat->Nat->Option Nm}{ex:Ex}{f:Nat}{s:Sm}(hm:P.follows .mixedOrders=true)(htt:TT P tt)(hft:FT P ft)(hex:ExOK P ex)(hC:qah P f)
  (hrun:∀(x:ElA s.pts) (y:ElR s.rts),WfA s.pts x->s.f x=some y->∃n lf r,qcg P tt ft nm ex lf n (.fn f) (argV s.pts x) S0=some r/\runR s r=some y):Con P f s:=by
 refine⟨hC,fun M w x us y hy hM hg hv=>?_⟩;obtain⟨n,lf,r,h1,h2⟩:=hrun x y (q9r hv) hy;obtain⟨_,hcall⟩:=(qmk (lf:=lf) hm htt hft hex n).fn f _ S0 r h1 T0 (EM M w) us (preM hM hg) (fun _ _=>trivial) (fun _ _=>trivial) hv;exact hcall.mono fun e w' hR=>zu7 hM hg h2 hR
theorem zcx{P:Program}{sm:Nat->Option Sm}{hx:Nat->Option Hx}(h:∀f s,sm f=some s->Con P f s)(h2:∀f g,hx f=some g->HxOK P f g.f):ExOK P (exH sm hx):=by
 have key:∀f g,exH sm hx f=some g->(∃s,sm f=some s/\g=fun _=>exf s)\/∃q,hx f=some q/\g=q.f:=fun f g hg=>by
  unfold exH at hg;split at hg
  ·rename_i s hs;cases hg;exact .inl ⟨s,hs,rfl⟩
  split at hg<;>cases hg;rename_i q hq;exact .inr ⟨q,hq,rfl⟩
 refine⟨fun f g hg cl a b c vs S r hr T E us p hrd hwr hv=>?_,fun f g hg cl a vs S=>?_,fun f g hg cl a vs S r hr hw hv=>?_⟩
 ·rcases key f g hg with ⟨s,hs,rfl⟩|⟨q,hq,rfl⟩
  ·exact z0k (h f s hs) hr p hrd hwr hv
  ·exact(h2 f q hq).fn cl a b c vs S r hr T E us p hrd hwr hv
 ·rcases key f g hg with ⟨s,hs,rfl⟩|⟨q,hq,rfl⟩
  ·exact ztr
  ·exact(h2 f q hq).fr cl a vs S
 ·rcases key f g hg with ⟨s,hs,rfl⟩|⟨q,hq,rfl⟩
  ·exact zl0 hr hw hv
  ·exact(h2 f q hq).calm cl a vs S r hr hw hv
theorem conK{P:Program}{tt:Nat->Option TI}{ft:Nat->Option FI}{nm:Nat->Nat->Option Nm}{sm:Nat->Option Sm}{hx:Nat->Option Hx}{f:Nat}{s:Sm}(hm:P.follows .mixedOrders=true)(htt:TT P tt)(hft:FT P ft)(hsm:∀f s,sm f=some s->Con P f s)
  (hhx:∀f g,hx f=some g->HxOK P f g.f) (hC:qah P f)
  (hrun:∀(x:ElA s.pts) (y:ElR s.rts),WfA s.pts x->s.f x=some y->∃n lf,qan P tt ft nm sm hx lf n _ (.fn f) (argV s.pts x) S0 (runR s)=some y):Con P f s:=by
 refine conW (nm:=nm) hm htt hft (zcx hsm hhx) hC fun x y hx2 hy=>?_;obtain⟨n,lf,h⟩:=hrun x y hx2 hy;rw[qa6 n] at h;cases hr:qcg P tt ft nm (exH sm hx) lf n (.fn f) (argV s.pts x) S0 with
 | none=>rw[hr] at h;cases h
 | some r=>rw[hr] at h;exact⟨n,lf,r,hr,h⟩
end Go.Jx
end

section
namespace Go.Jx
open Go Go.Sx Go.ChangeShapes Go.RowKit
def TRW(P:Program)(W:World)(T:TypeId)(cs:List Value):Prop :=
 ∃(H:Type) (en:TypeId × Value->H) (fuel:Nat) (x:DataW H × List MemPlace),DataW.trod en P W 0 (fun _=>true) true fuel T cs=some x/\∀n∈x.1.weights P T,n<=reachBytes
structure RdT (P:Program) (c:TC) (T:TypeId):Prop where
 sz:P.cellsOf T=csz c
 by_:bsz c<=P.bytesOf T
 rd:∀W cs,TRW P W T cs->∃x:El c,VRs (EM [] W) (cel c x) cs
theorem zw4{k:IntKind}{n:Int}(h:(Lit.int k n).wf=true):k.wrap n=n:=by
 have h':k.min<=n/\n<=k.max:=by simpa [Lit.wf] using h
 cases k<;>simp only[IntKind.min,IntKind.max,IntKind.wrap,IntKind.bits,IntKind.signed] at *<;>simp at *<;>omega
section
variable {P : Program} {W : World} {T : TypeId} {cs : List Value}
theorem VRs.one{E:Env}{v:IV}{u:Value}(h:VR E v u):VRs E [v] [u]:=VRs.cons h VRs.nil
theorem zh5(hT:P.underlying T=some .string)(hs:P.cellsOf T=1)(hb:P.bytesOf T=16):RdT P .str T:=⟨hs,Nat.le_of_eq hb.symm,fun W cs h=>by
 obtain⟨H,en,fuel,x,h,hw⟩:=h;obtain⟨s,h1,_,h2⟩:=DataW.trod_string hT h;exact⟨s,h1▸VRs.one (.str s (by unfold maxLen at h2;omega))⟩⟩
theorem z0p{k:IntKind}(hT:P.underlying T=some (.int k))(hs:P.cellsOf T=1)(hb:P.bytesOf T=bsz (.int k)):RdT P (.int k) T:=⟨hs,Nat.le_of_eq hb.symm,fun W cs h=>by
 obtain⟨H,en,fuel,x,h,hw⟩:=h;obtain⟨n,h1,_,h2⟩:=DataW.trod_int hT h;exact⟨n,h1▸VRs.one (.int k n (zw4 h2))⟩⟩
theorem TRW.fields{fs:Array Field}(hT:P.underlying T=some (.struct fs))(h:TRW P W T cs):cs.length=P.cellsOf T/\∀(i:Nat) (f:Field),fs[i]?=some f->TRW P W f.type ((cs.drop f.offset).take (P.cellsOf f.type)):=by
 obtain⟨H,en,fuel,x,h,hw⟩:=h;obtain⟨xs,n,rfl,rfl,h1,h2,h3⟩:=DataW.trod_struct hT h;refine⟨h1,fun i f hf=>?_⟩;have hi:i<xs.length:=by rw[h2];exact(Array.getElem?_eq_some_iff.1 hf).1
 refine⟨H,en,n,xs[i],by rw[h3 i f hf,List.getElem?_eq_getElem hi],fun m hm=>hw m ?_⟩;simp only[DataW.weights,hT];refine DataW.weights_mem_each (j:=i) (t:=f.type) (d:=xs[i].1) ?_ ?_ m hm
 ·rw[List.getElem?_map,Array.getElem?_toList,hf];rfl
 ·rw[List.getElem?_map,List.getElem?_eq_getElem hi];rfl
theorem q6h{H:Type}{e:TypeId}:∀{l:List (DataW H)} {d:DataW H},d∈l->∀n∈d.weights P e,n∈DataW.weightsAll P e l
 | [],d,h,_,_=>absurd h (by simp)
 | a::l,d,h,n,hn=>by
  rw[DataW.weightsAll,List.mem_append];rcases List.mem_cons.1 h with e|e
  ·exact .inl (e▸hn)
  ·exact .inr (q6h e n hn)
theorem q9c{c:TC}{e:TypeId}(hT:P.underlying T=some (.slice e))(he:RdT P c e)(hpos:0<csz c)(hs:P.cellsOf T=1)(hb:P.bytesOf T=24):RdT P (.list c) T:=⟨hs,Nat.le_of_eq hb.symm,fun W cs h=>by
 obtain⟨H,en,fuel,x,h,hw⟩:=h;rcases Go.Deep.open_slice hT h with ⟨rfl,_⟩|⟨a,len,cap,m,n,D,Pl,rfl,_,hl,hm,hmm,rfl,hi⟩
 ·exact⟨([]:List (El c)),VRs.one (.lst0 (by decide))⟩
 have hlm:len<=m:=by rw[hmm];simp;exact hl
 have hx:∀i,i<len->∃(x:El c) (cs':List Value),VRs (EM [] W) (cel c x) cs'/\W.cells? 0 (a.add (i*P.cellsOf e)) (P.cellsOf e)=some cs':=fun i hil=>by
  obtain⟨cs',h1,h2⟩:=hi i (by omega);obtain⟨x,hx⟩:=he.rd W cs' ⟨H,en,n,_,h2,fun k hk=>hw k (by
   simp only[DataW.weights,hT,List.mem_cons,List.mem_append];exact .inr (.inl (q6h (List.mem_map.2 ⟨i,List.mem_range.2 hil,rfl⟩) k hk)))⟩
  exact⟨x,cs',hx,h1⟩
 have hbytes:len*bsz c<=140737488355328:=by
  have h1:=hw ((((List.range len).map D).length+((List.range (m-len)).map fun j=>D (len+j)).length)*P.bytesOf e) (by simp only[DataW.weights,hT,List.mem_cons,true_or]);rw[List.length_map,List.length_range,Nat.add_mul] at h1;have h2:=Nat.mul_le_mul_left len he.by_;unfold reachBytes at h1;omega
 have hlist:∀k,k<=len->∃l:List (El c),l.length=k/\∀i (h:i<l.length),∃cs',VRs (EM [] W) (cel c l[i]) cs'/\W.cells? 0 (a.add (i*P.cellsOf e)) (P.cellsOf e)=some cs':=fun k=>by
  induction k with
  | zero=>intro _;exact⟨[],rfl,fun i h=>by simp at h⟩
  | succ k ih =>
   intro hk;obtain⟨l,h1,h2⟩:=ih (by omega);obtain⟨x,cs',h3,h4⟩:=hx k (by omega);refine⟨l++[x],by simp[h1],fun i hi=>?_⟩;by_cases hlt:i<l.length
   ·rw[List.getElem_append_left hlt];exact h2 i hlt
   ·have:i=l.length:=by simp at hi;omega
    subst this;rw[List.getElem_append_right (Nat.le_refl _)];simp only[Nat.sub_self,List.getElem_cons_zero];exact⟨cs',h3,by rw[h1];exact h4⟩
 obtain⟨l,hlen,hall⟩:=hlist len (Nat.le_refl _);subst hlen;have hcap:cap<9223372036854775808:=by unfold maxLen at hm;omega
 refine⟨l,VRs.one ?_⟩;cases l with
 | nil=>exact .lst0 hcap
 | cons x0 l =>
 obtain⟨cs0,_,k1⟩:=hall 0 (by simp);obtain⟨_,_,k3⟩:=World.cells?_some k1;have k4:=k3 0 (by rw[he.sz];exact hpos);have hlen0:0<cs0.length:=by
  obtain⟨_,k2,_⟩:=World.cells?_some k1;rw[k2,he.sz];exact hpos
 rw[List.getElem?_eq_getElem hlen0] at k4;have ha0:a.add (0*P.cellsOf e)=a:=by simp[Addr.add]
 rw[ha0] at k4;have ha1:a.add 0=a:=by simp[Addr.add]
 rw[ha1] at k4;unfold World.cell? at k4;split at k4<;>try cases k4
 rename_i cells t fz hc;obtain⟨ab,ao,asp⟩:=a;cases asp with
 | some p=>simp at k4
 | none =>
 have hcell:∀i (h:i<(x0::l).length),∃cs',VRs (EM [] W) (cel c (x0::l)[i]) cs'/\∀j,j<csz c->cells[ao+i*csz c+j]?=cs'[j]?:=fun i hi=>by
  obtain⟨cs',h1,h2⟩:=hall i hi;refine⟨cs',h1,fun j hj=>?_⟩;obtain⟨_,_,h3⟩:=World.cells?_some h2;have h4:=h3 j (by rw[he.sz];exact hj);rw[<- h4];have e1:(Addr.add ⟨ab,ao,none⟩ (i*P.cellsOf e)).add j=⟨ab,ao+i*csz c+j,none⟩:=by
   rw[he.sz];unfold Addr.add;by_cases hz:i*csz c=0
   ·rw[if_pos hz];by_cases hj0:j=0
    ·rw[if_pos hj0];simp
    ·rw[if_neg hj0];simp [hz]
   ·rw[if_neg hz];by_cases hj0:j=0
    ·rw[if_pos hj0];simp [hj0]
    ·rw[if_neg hj0]
  rw[e1];simp[World.cell?,hc]
 refine .lst (fun i j=>(cells[ao+i*csz c+j]?).getD .nilIface) hl hcap hbytes (by simp[EM]) hc (fun i hi j hj=>?_) (fun i hi j hj=>?_)
 ·obtain⟨cs',g1,g2⟩:=hcell i hi;have hj':j<cs'.length:=by have:=g1.1;rw[qb2] at this;omega
  rw[g2 j hj,List.getElem?_eq_getElem hj'];rfl
 ·obtain⟨cs',g1,g2⟩:=hcell i hi;have hj1:j<csz c:=by rw[qb2] at hj;exact hj
  have hj':j<cs'.length:=by have:=g1.1;rw[qb2] at this;omega
  have:=g1.2 j hj hj';rw[g2 j hj1,List.getElem?_eq_getElem hj'];exact this⟩
theorem q6c{a b:TC}{f0 f1:Field}(hT:P.underlying T=some (.struct #[f0,f1]))(h0:RdT P a f0.type)(h1:RdT P b f1.type)(o0:f0.offset=0)(o1:f1.offset=csz a)(hs:P.cellsOf T=csz a+csz b)(hb:Nat.ble (bsz (.two a b)) (P.bytesOf T)=true):RdT P (.two a b) T:=⟨hs,Nat.le_of_ble_eq_true hb,fun W cs h=>by
 obtain⟨hl,hf⟩:=TRW.fields hT h;obtain⟨x,hx⟩:=h0.rd W _ (hf 0 f0 rfl);obtain⟨y,hy⟩:=h1.rd W _ (hf 1 f1 rfl);refine⟨(x,y),?_⟩;rw[o0,List.drop_zero,h0.sz] at hx;rw[o1,h1.sz,List.take_of_length_le (by rw[List.length_drop];omega)] at hy;have:=VRs.append hx hy;rw[List.take_append_drop] at this;exact this⟩
end
end Go.Jx
end

section
namespace Go.Jx
open Go Go.Sx Go.RowKit
theorem con_true{P:Program}{f:Nat}{pts:List TC}(h:Con P f ⟨pts,[(false,.bool)],fun _=>some (true,())⟩)(w:World)(hg:Gl [] w)(x:ElA pts)(us:List Value)(hv:VRs (EM [] w) (argV pts x) us) :
  Calls P f us.toArray w (Ret fun v w'=>v=.bool true/\Upd [] w w') :=
 (callsIn_wide.1 (h.calls [] w x us (true,()) rfl (fun b hb=>by cases hb) hg hv)).mono fun e w' hR=>by
  obtain⟨v,E',rfl,rfl,k1,k2,k3⟩:=hR;exact⟨by cases k1;rfl,k2.stp.os,k2.stp.tape,k2.stp.output,k2.stp.size,fun b hb _=>k2.stp.same b hb fun id _ hA _=>hA.elim⟩
theorem vr_two{a b:TC}{E:Env}{cs:Array Value}{x:El (.two a b)}(h:VRs E (cel (.two a b) x) (Value.agg cs).cells.toList):VR E (asIV (.two a b) x) (.agg cs):=by
 have:=VR.agg h.1 h.2;have e:(Value.agg cs).cells.toList.toArray=cs:=by simp[Value.cells]
 rw[e] at this;exact this
section
open Go.ChangeShapes
variable {H : Type} {enc : TypeId × Value -> H} {P : Program} {w : World} {base : Nat} {spare : Nat -> Bool} {held : Bool}
end
end Go.Jx
end

noncomputable section
set_option maxRecDepth 100000
namespace Go.Proofs.YtnhmanoiolfapaaGreat
open Go Go.Sx Go.RowKit Go.Jx
abbrev cPut:TC:=(.two (.int .i64) .str)
abbrev cDisk:TC:=(.two (.list .str) (.list cPut))
abbrev cAct:TC:=(.two .bool cPut)
abbrev qv8:TC:=(.two (.list cAct) (.int .i64))
abbrev qad:TC:=(.two (.int .i64) (.two .str .bool))
abbrev qag:TC:=(.two cDisk (.two (.int .i64) (.two (.int .i64) (.list qad))))
abbrev qwd:TC:=(.two qag (.int .i64))
abbrev q3x:TC:=(.two (.list qad) (.two (.int .i64) (.two .bool .bool)))
abbrev qun:TC:=(.two (.int .i64) (.int .i64))
abbrev cKeepRecord:TC:=(.two (.list qad) (.two (.int .i64) .bool))
noncomputable def ti1:TI:=⟨1,8,(.func #[] #[] false),(.nilFunc)⟩
noncomputable def ti2:TI:=⟨1,8,(.int .i64),(.int .i64 0)⟩
noncomputable def ti3:TI:=⟨1,8,(.int .i64),(.int .i64 0)⟩
noncomputable def ti4:TI:=⟨1,1,(.bool),(.bool false)⟩
noncomputable def ti5:TI:=⟨1,1,(.int .u8),(.int .u8 0)⟩
noncomputable def ti6:TI:=⟨1,1,(.int .u8),(.int .u8 0)⟩
noncomputable def ti7:TI:=⟨4,24,(.struct #[⟨"x", 2,0, false, "", "runtime", 0⟩, ⟨"y", 3,1, false, "", "runtime", 8⟩, ⟨"signed", 4,2, false, "", "runtime", 16⟩, ⟨"code", 6,3, false, "", "runtime", 17⟩]),(.agg #[.int .i64 0,.int .i64 0,.bool false,.int .u8 0])⟩
noncomputable def ti9:TI:=⟨1,16,(.string),(.string ⟨#[]⟩)⟩
noncomputable def ti22:TI:=⟨1,24,(.slice 9),(.slice none 0 0)⟩
noncomputable def ti23:TI:=⟨1,24,(.slice 94),(.slice none 0 0)⟩
noncomputable def ti25:TI:=⟨2,48,(.struct #[⟨"Sectors", 22,0, false, "", "", 0⟩, ⟨"Pending", 23,1, false, "", "", 24⟩]),(.agg #[.slice none 0 0,.slice none 0 0])⟩
noncomputable def ti28:TI:=⟨1,24,(.slice 96),(.slice none 0 0)⟩
noncomputable def ti29:TI:=⟨1,8,(.int .i64),(.int .i64 0)⟩
noncomputable def ti33:TI:=⟨2,32,(.struct #[⟨"L", 28,0, false, "", "", 0⟩, ⟨"E", 29,1, false, "", "", 24⟩]),(.agg #[.slice none 0 0,.int .i64 0])⟩
noncomputable def ti35:TI:=⟨1,24,(.slice 92),(.slice none 0 0)⟩
noncomputable def ti37:TI:=⟨5,88,(.struct #[⟨"Disk", 25,0, false, "", "", 0⟩, ⟨"Half", 3,2, false, "", "", 48⟩, ⟨"Used", 3,3, false, "", "", 56⟩, ⟨"Cells", 35,4, false, "", "", 64⟩]),(.agg #[.slice none 0 0,.slice none 0 0,.int .i64 0,.int .i64 0,.slice none 0 0])⟩
noncomputable def ti41:TI:=⟨6,96,(.struct #[⟨"J", 37,0, false, "", "", 0⟩, ⟨"E", 29,5, false, "", "", 88⟩]),(.agg #[.slice none 0 0,.slice none 0 0,.int .i64 0,.int .i64 0,.slice none 0 0,.int .i64 0])⟩
noncomputable def ti56:TI:=⟨1,24,(.slice 3),(.slice none 0 0)⟩
noncomputable def ti63:TI:=⟨3,56,(.struct #[⟨"D", 25,0, false, "", "", 0⟩, ⟨"E", 29,2, false, "", "", 48⟩]),(.agg #[.slice none 0 0,.slice none 0 0,.int .i64 0])⟩
noncomputable def ti75:TI:=⟨1,24,(.slice 76),(.slice none 0 0)⟩
noncomputable def ti76:TI:=⟨1,24,(.slice 137),(.slice none 0 0)⟩
noncomputable def ti77:TI:=⟨1,2,(.int .u16),(.int .u16 0)⟩
noncomputable def ti78:TI:=⟨1,24,(.slice 5),(.slice none 0 0)⟩
noncomputable def ti92:TI:=⟨3,32,(.struct #[⟨"Key", 3,0, false, "", "", 0⟩, ⟨"Bytes", 9,1, false, "", "", 8⟩, ⟨"Gone", 4,2, false, "", "", 24⟩]),(.agg #[.int .i64 0,.string ⟨#[]⟩,.bool false])⟩
noncomputable def ti94:TI:=⟨2,24,(.struct #[⟨"At", 3,0, false, "", "", 0⟩, ⟨"Bytes", 9,1, false, "", "", 8⟩]),(.agg #[.int .i64 0,.string ⟨#[]⟩])⟩
noncomputable def ti96:TI:=⟨3,32,(.struct #[⟨"Sync", 4,0, false, "", "", 0⟩, ⟨"Put", 94,1, false, "", "", 8⟩]),(.agg #[.bool false,.int .i64 0,.string ⟨#[]⟩])⟩
noncomputable def ti98:TI:=⟨1,24,(.struct #[⟨"acts", 28,0, false, "", "cosigner/keep", 0⟩]),(.agg #[.slice none 0 0])⟩
noncomputable def qma:TI:=⟨4,40,(.struct #[⟨"L", 35,0, false, "", "", 0⟩, ⟨"Many", 3,1, false, "", "", 24⟩, ⟨"None", 4,2, false, "", "", 32⟩, ⟨"Ok", 4,3, false, "", "", 33⟩]),(.agg #[.slice none 0 0,.int .i64 0,.bool false,.bool false])⟩
noncomputable def qno:TI:=⟨1,8,(.func #[9] #[4] false),(.nilFunc)⟩
noncomputable def qnb:TI:=⟨1,8,(.func #[3] #[4] false),(.nilFunc)⟩
noncomputable def qon:TI:=⟨1,8,(.func #[94] #[4] false),(.nilFunc)⟩
noncomputable def qlb:TI:=⟨4,4,(.struct #[⟨"Key", 5,0, false, "", "", 0⟩, ⟨"Long", 5,1, false, "", "", 1⟩, ⟨"Byte", 5,2, false, "", "", 2⟩, ⟨"Gone", 4,3, false, "", "", 3⟩]),(.agg #[.int .u8 0,.int .u8 0,.int .u8 0,.bool false])⟩
noncomputable def qmw:TI:=⟨1,8,(.int .u64),(.int .u64 0)⟩
noncomputable def qk8:TI:=⟨2,16,(.struct #[⟨"from", 3,0, false, "", "cosigner/keep", 0⟩, ⟨"to", 3,1, false, "", "cosigner/keep", 8⟩]),(.agg #[.int .i64 0,.int .i64 0])⟩
noncomputable def qlh:TI:=⟨1,8,(.map 3 9),(.map none)⟩
noncomputable def qmh:TI:=⟨1,8,(.func #[173] #[] false),(.nilFunc)⟩
noncomputable def qop:TI:=⟨3,40,(.struct #[⟨"cells", 35,0, false, "", "cosigner/keep", 0⟩, ⟨"sectors", 3,1, false, "", "cosigner/keep", 24⟩, ⟨"torn", 4,2, false, "", "cosigner/keep", 32⟩]),(.agg #[.slice none 0 0,.int .i64 0,.bool false])⟩
noncomputable def qll:TI:=⟨1,8,(.func #[92] #[4] false),(.nilFunc)⟩
noncomputable def qm1:TI:=⟨1,8,(.func #[151] #[4] false),(.nilFunc)⟩
noncomputable def qoq:TI:=⟨1,8,(.func #[92] #[3] false),(.nilFunc)⟩
noncomputable def qk2:TI:=⟨1,8,(.func #[92,92] #[3] false),(.nilFunc)⟩
theorem ty1:Ty Tryz.prog 1 ti1.und ti1.sz ti1.bytes ti1.zero:=Ty.mk' (by kernel_rfl) (by kernel_rfl)
theorem ty2:Ty Tryz.prog 2 ti2.und ti2.sz ti2.bytes ti2.zero:=Ty.mk' (by kernel_rfl) (by kernel_rfl)
theorem ty3:Ty Tryz.prog 3 ti3.und ti3.sz ti3.bytes ti3.zero:=Ty.mk' (by kernel_rfl) (by kernel_rfl)
theorem ty4:Ty Tryz.prog 4 ti4.und ti4.sz ti4.bytes ti4.zero:=Ty.mk' (by kernel_rfl) (by kernel_rfl)
theorem ty5:Ty Tryz.prog 5 ti5.und ti5.sz ti5.bytes ti5.zero:=Ty.mk' (by kernel_rfl) (by kernel_rfl)
theorem ty6:Ty Tryz.prog 6 ti6.und ti6.sz ti6.bytes ti6.zero:=Ty.mk' (by kernel_rfl) (by kernel_rfl)
theorem ty7:Ty Tryz.prog 7 ti7.und ti7.sz ti7.bytes ti7.zero:=Ty.mk' (by kernel_rfl) (by kernel_rfl)
theorem ty9:Ty Tryz.prog 9 ti9.und ti9.sz ti9.bytes ti9.zero:=Ty.mk' (by kernel_rfl) (by kernel_rfl)
theorem ty22:Ty Tryz.prog 22 ti22.und ti22.sz ti22.bytes ti22.zero:=Ty.mk' (by kernel_rfl) (by kernel_rfl)
theorem ty23:Ty Tryz.prog 23 ti23.und ti23.sz ti23.bytes ti23.zero:=Ty.mk' (by kernel_rfl) (by kernel_rfl)
theorem ty25:Ty Tryz.prog 25 ti25.und ti25.sz ti25.bytes ti25.zero:=Ty.mk' (by kernel_rfl) (by kernel_rfl)
theorem ty28:Ty Tryz.prog 28 ti28.und ti28.sz ti28.bytes ti28.zero:=Ty.mk' (by kernel_rfl) (by kernel_rfl)
theorem ty29:Ty Tryz.prog 29 ti29.und ti29.sz ti29.bytes ti29.zero:=Ty.mk' (by kernel_rfl) (by kernel_rfl)
theorem ty33:Ty Tryz.prog 33 ti33.und ti33.sz ti33.bytes ti33.zero:=Ty.mk' (by kernel_rfl) (by kernel_rfl)
theorem ty35:Ty Tryz.prog 35 ti35.und ti35.sz ti35.bytes ti35.zero:=Ty.mk' (by kernel_rfl) (by kernel_rfl)
theorem ty37:Ty Tryz.prog 37 ti37.und ti37.sz ti37.bytes ti37.zero:=Ty.mk' (by kernel_rfl) (by kernel_rfl)
theorem ty41:Ty Tryz.prog 41 ti41.und ti41.sz ti41.bytes ti41.zero:=Ty.mk' (by kernel_rfl) (by kernel_rfl)
theorem ty56:Ty Tryz.prog 56 ti56.und ti56.sz ti56.bytes ti56.zero:=Ty.mk' (by kernel_rfl) (by kernel_rfl)
theorem ty63:Ty Tryz.prog 63 ti63.und ti63.sz ti63.bytes ti63.zero:=Ty.mk' (by kernel_rfl) (by kernel_rfl)
theorem ty75:Ty Tryz.prog 75 ti75.und ti75.sz ti75.bytes ti75.zero:=Ty.mk' (by kernel_rfl) (by kernel_rfl)
theorem ty76:Ty Tryz.prog 76 ti76.und ti76.sz ti76.bytes ti76.zero:=Ty.mk' (by kernel_rfl) (by kernel_rfl)
theorem ty77:Ty Tryz.prog 77 ti77.und ti77.sz ti77.bytes ti77.zero:=Ty.mk' (by kernel_rfl) (by kernel_rfl)
theorem ty78:Ty Tryz.prog 78 ti78.und ti78.sz ti78.bytes ti78.zero:=Ty.mk' (by kernel_rfl) (by kernel_rfl)
theorem ty92:Ty Tryz.prog 92 ti92.und ti92.sz ti92.bytes ti92.zero:=Ty.mk' (by kernel_rfl) (by kernel_rfl)
theorem ty94:Ty Tryz.prog 94 ti94.und ti94.sz ti94.bytes ti94.zero:=Ty.mk' (by kernel_rfl) (by kernel_rfl)
theorem ty96:Ty Tryz.prog 96 ti96.und ti96.sz ti96.bytes ti96.zero:=Ty.mk' (by kernel_rfl) (by kernel_rfl)
theorem ty98:Ty Tryz.prog 98 ti98.und ti98.sz ti98.bytes ti98.zero:=Ty.mk' (by kernel_rfl) (by kernel_rfl)
theorem zn8:Ty Tryz.prog 110 qma.und qma.sz qma.bytes qma.zero:=Ty.mk' (by kernel_rfl) (by kernel_rfl)
theorem zzj:Ty Tryz.prog 125 qno.und qno.sz qno.bytes qno.zero:=Ty.mk' (by kernel_rfl) (by kernel_rfl)
theorem zne:Ty Tryz.prog 130 qnb.und qnb.sz qnb.bytes qnb.zero:=Ty.mk' (by kernel_rfl) (by kernel_rfl)
theorem z3z:Ty Tryz.prog 132 qon.und qon.sz qon.bytes qon.zero:=Ty.mk' (by kernel_rfl) (by kernel_rfl)
theorem zzs:Ty Tryz.prog 137 qlb.und qlb.sz qlb.bytes qlb.zero:=Ty.mk' (by kernel_rfl) (by kernel_rfl)
theorem qsi:Ty Tryz.prog 141 qmw.und qmw.sz qmw.bytes qmw.zero:=Ty.mk' (by kernel_rfl) (by kernel_rfl)
theorem z0r:Ty Tryz.prog 143 qk8.und qk8.sz qk8.bytes qk8.zero:=Ty.mk' (by kernel_rfl) (by kernel_rfl)
theorem q8x:Ty Tryz.prog 146 qlh.und qlh.sz qlh.bytes qlh.zero:=Ty.mk' (by kernel_rfl) (by kernel_rfl)
theorem zyz:Ty Tryz.prog 148 qmh.und qmh.sz qmh.bytes qmh.zero:=Ty.mk' (by kernel_rfl) (by kernel_rfl)
theorem qi0:Ty Tryz.prog 151 qop.und qop.sz qop.bytes qop.zero:=Ty.mk' (by kernel_rfl) (by kernel_rfl)
theorem zjd:Ty Tryz.prog 153 qll.und qll.sz qll.bytes qll.zero:=Ty.mk' (by kernel_rfl) (by kernel_rfl)
theorem z1e:Ty Tryz.prog 173 qm1.und qm1.sz qm1.bytes qm1.zero:=Ty.mk' (by kernel_rfl) (by kernel_rfl)
theorem qy6:Ty Tryz.prog 177 qoq.und qoq.sz qoq.bytes qoq.zero:=Ty.mk' (by kernel_rfl) (by kernel_rfl)
theorem zlo:Ty Tryz.prog 190 qk2.und qk2.sz qk2.bytes qk2.zero:=Ty.mk' (by kernel_rfl) (by kernel_rfl)
def fbO(f:Func):Code:=match f.body with|some c=>c|none=>.skip
noncomputable def ttT:PT TI:=(.node none (.node (some ti1) (.node (some ti3) (.node (some ti7) (.node none (.node none (.node (some ti63) .leaf .leaf) .leaf) (.node none (.node none (.node (some qk8) .leaf .leaf) .leaf) .leaf)) (.node (some ti23) .leaf (.node none (.node none (.node (some qop) .leaf .leaf) .leaf) .leaf))) (.node none (.node none (.node (some ti35) .leaf .leaf) .leaf) (.node none (.node none (.node (some ti75) .leaf .leaf) .leaf) .leaf))) (.node (some ti5) (.node (some ti9) (.node none (.node (some ti33) .leaf .leaf) (.node none .leaf (.node none (.node (some qoq) .leaf .leaf) .leaf))) (.node (some ti25) (.node (some ti41) (.node none (.node (some qlb) .leaf .leaf) .leaf) .leaf) (.node none (.node none (.node (some qll) .leaf .leaf) .leaf) .leaf))) (.node none (.node none (.node (some ti37) .leaf .leaf) .leaf) (.node (some ti29) (.node none (.node (some ti77) (.node (some qmw) .leaf .leaf) .leaf) (.node none (.node (some qm1) .leaf .leaf) .leaf)) (.node none .leaf (.node (some qno) .leaf .leaf)))))) (.node (some ti2) (.node (some ti4) (.node none (.node none (.node none .leaf (.node (some ti96) .leaf .leaf)) .leaf) (.node none .leaf (.node (some ti56) .leaf .leaf))) (.node none (.node none (.node none (.node none (.node (some qon) .leaf .leaf) .leaf) .leaf) (.node none (.node none (.node (some qmh) .leaf .leaf) .leaf) .leaf)) (.node (some ti28) (.node none (.node (some ti76) .leaf .leaf) .leaf) (.node none (.node (some ti92) .leaf .leaf) .leaf)))) (.node (some ti6) (.node none (.node none (.node none (.node none (.node (some qnb) .leaf .leaf) .leaf) (.node (some ti98) .leaf .leaf)) (.node none (.node none (.node (some qlh) .leaf .leaf) .leaf) .leaf)) .leaf) (.node none (.node (some ti22) .leaf .leaf) (.node none (.node none (.node (some ti78) .leaf .leaf) (.node (some qma) .leaf .leaf)) (.node none (.node (some ti94) .leaf .leaf) (.node none (.node (some qk2) .leaf .leaf) .leaf)))))))
theorem ttFa:ttT.Fa (fun T ti=>Ty Tryz.prog T ti.und ti.sz ti.bytes ti.zero):=⟨trivial,⟨ty1,⟨ty3,⟨ty7,⟨trivial,⟨trivial,⟨ty63,trivial,trivial⟩,trivial⟩,⟨trivial,⟨trivial,⟨z0r,trivial,trivial⟩,trivial⟩,trivial⟩⟩,⟨ty23,trivial,⟨trivial,⟨trivial,⟨qi0,trivial,trivial⟩,trivial⟩,trivial⟩⟩⟩,⟨trivial,⟨trivial,⟨ty35,trivial,trivial⟩,trivial⟩,⟨trivial,⟨trivial,⟨ty75,trivial,trivial⟩,trivial⟩,trivial⟩⟩⟩,⟨ty5,⟨ty9,⟨trivial,⟨ty33,trivial,trivial⟩,⟨trivial,trivial,⟨trivial,⟨qy6,trivial,trivial⟩,trivial⟩⟩⟩,⟨ty25,⟨ty41,⟨trivial,⟨zzs,trivial,trivial⟩,trivial⟩,trivial⟩,⟨trivial,⟨trivial,⟨zjd,trivial,trivial⟩,trivial⟩,trivial⟩⟩⟩,⟨trivial,⟨trivial,⟨ty37,trivial,trivial⟩,trivial⟩,⟨ty29,⟨trivial,⟨ty77,⟨qsi,trivial,trivial⟩,trivial⟩,⟨trivial,⟨z1e,trivial,trivial⟩,trivial⟩⟩,⟨trivial,trivial,⟨zzj,trivial,trivial⟩⟩⟩⟩⟩⟩,⟨ty2,⟨ty4,⟨trivial,⟨trivial,⟨trivial,trivial,⟨ty96,trivial,trivial⟩⟩,trivial⟩,⟨trivial,trivial,⟨ty56,trivial,trivial⟩⟩⟩,⟨trivial,⟨trivial,⟨trivial,⟨trivial,⟨z3z,trivial,trivial⟩,trivial⟩,trivial⟩,⟨trivial,⟨trivial,⟨zyz,trivial,trivial⟩,trivial⟩,trivial⟩⟩,⟨ty28,⟨trivial,⟨ty76,trivial,trivial⟩,trivial⟩,⟨trivial,⟨ty92,trivial,trivial⟩,trivial⟩⟩⟩⟩,⟨ty6,⟨trivial,⟨trivial,⟨trivial,⟨trivial,⟨zne,trivial,trivial⟩,trivial⟩,⟨ty98,trivial,trivial⟩⟩,⟨trivial,⟨trivial,⟨q8x,trivial,trivial⟩,trivial⟩,trivial⟩⟩,trivial⟩,⟨trivial,⟨ty22,trivial,trivial⟩,⟨trivial,⟨trivial,⟨ty78,trivial,trivial⟩,⟨zn8,trivial,trivial⟩⟩,⟨trivial,⟨ty94,trivial,trivial⟩,⟨trivial,⟨zlo,trivial,trivial⟩,trivial⟩⟩⟩⟩⟩⟩⟩
theorem ttOK:TT Tryz.prog ttT.get:=fun T ti h=>PT.fa ttFa T ti h
noncomputable def fb3:Code:=fbO Tryz.f3
noncomputable def fi3:FI:=⟨56,[ResultVar.tmp 2],fb3⟩
theorem fo3:FIok Tryz.prog 3 fi3:=⟨_,Tryz.func3,by kernel_rfl,Tryz.ntmps3,Tryz.results3,by kernel_rfl,by kernel_rfl⟩
theorem cal3:qah Tryz.prog 3:=⟨_,Tryz.func3,by kernel_rfl,by kernel_rfl⟩
noncomputable def fb4:Code:=fbO Tryz.f4
noncomputable def fi4:FI:=⟨159,[ResultVar.tmp 6],fb4⟩
theorem fo4:FIok Tryz.prog 4 fi4:=⟨_,Tryz.func4,by kernel_rfl,Tryz.ntmps4,Tryz.results4,by kernel_rfl,by kernel_rfl⟩
noncomputable def fb5:Code:=fbO Tryz.f5
noncomputable def fi5:FI:=⟨133,[ResultVar.tmp 8],fb5⟩
theorem fo5:FIok Tryz.prog 5 fi5:=⟨_,Tryz.func5,by kernel_rfl,Tryz.ntmps5,Tryz.results5,by kernel_rfl,by kernel_rfl⟩
noncomputable def fb6:Code:=fbO Tryz.f6
noncomputable def fi6:FI:=⟨94,[ResultVar.tmp 4],fb6⟩
theorem fo6:FIok Tryz.prog 6 fi6:=⟨_,Tryz.func6,by kernel_rfl,Tryz.ntmps6,Tryz.results6,by kernel_rfl,by kernel_rfl⟩
noncomputable def fb7:Code:=fbO Tryz.f7
noncomputable def fi7:FI:=⟨199,[ResultVar.tmp 14],fb7⟩
theorem fo7:FIok Tryz.prog 7 fi7:=⟨_,Tryz.func7,by kernel_rfl,Tryz.ntmps7,Tryz.results7,by kernel_rfl,by kernel_rfl⟩
noncomputable def fb8:Code:=fbO Tryz.f8
noncomputable def fi8:FI:=⟨216,[ResultVar.tmp 10],fb8⟩
theorem fo8:FIok Tryz.prog 8 fi8:=⟨_,Tryz.func8,by kernel_rfl,Tryz.ntmps8,Tryz.results8,by kernel_rfl,by kernel_rfl⟩
noncomputable def fb9:Code:=fbO Tryz.f9
noncomputable def fi9:FI:=⟨255,[ResultVar.tmp 0],fb9⟩
theorem fo9:FIok Tryz.prog 9 fi9:=⟨_,Tryz.func9,by kernel_rfl,Tryz.ntmps9,Tryz.results9,by kernel_rfl,by kernel_rfl⟩
theorem cal9:qah Tryz.prog 9:=⟨_,Tryz.func9,by kernel_rfl,by kernel_rfl⟩
noncomputable def fb10:Code:=fbO Tryz.f10
noncomputable def fi10:FI:=⟨37,[ResultVar.tmp 2],fb10⟩
theorem fo10:FIok Tryz.prog 10 fi10:=⟨_,Tryz.func10,by kernel_rfl,Tryz.ntmps10,Tryz.results10,by kernel_rfl,by kernel_rfl⟩
theorem zod:qah Tryz.prog 10:=⟨_,Tryz.func10,by kernel_rfl,by kernel_rfl⟩
noncomputable def fb11:Code:=fbO Tryz.f11
noncomputable def fi11:FI:=⟨29,[ResultVar.tmp 2,ResultVar.tmp 3],fb11⟩
theorem fo11:FIok Tryz.prog 11 fi11:=⟨_,Tryz.func11,by kernel_rfl,Tryz.ntmps11,Tryz.results11,by kernel_rfl,by kernel_rfl⟩
theorem zog:qah Tryz.prog 11:=⟨_,Tryz.func11,by kernel_rfl,by kernel_rfl⟩
noncomputable def fb12:Code:=fbO Tryz.f12
noncomputable def fi12:FI:=⟨35,[ResultVar.cell 2 33],fb12⟩
theorem fo12:FIok Tryz.prog 12 fi12:=⟨_,Tryz.func12,by kernel_rfl,Tryz.ntmps12,Tryz.results12,by kernel_rfl,by kernel_rfl⟩
theorem zjy:qah Tryz.prog 12:=⟨_,Tryz.func12,by kernel_rfl,by kernel_rfl⟩
noncomputable def fb13:Code:=fbO Tryz.f13
noncomputable def fi13:FI:=⟨27,[ResultVar.cell 2 37,ResultVar.tmp 3],fb13⟩
theorem fo13:FIok Tryz.prog 13 fi13:=⟨_,Tryz.func13,by kernel_rfl,Tryz.ntmps13,Tryz.results13,by kernel_rfl,by kernel_rfl⟩
theorem znh:qah Tryz.prog 13:=⟨_,Tryz.func13,by kernel_rfl,by kernel_rfl⟩
noncomputable def fb14:Code:=fbO Tryz.f14
noncomputable def fi14:FI:=⟨109,[ResultVar.cell 2 41],fb14⟩
theorem fo14:FIok Tryz.prog 14 fi14:=⟨_,Tryz.func14,by kernel_rfl,Tryz.ntmps14,Tryz.results14,by kernel_rfl,by kernel_rfl⟩
theorem z0d:qah Tryz.prog 14:=⟨_,Tryz.func14,by kernel_rfl,by kernel_rfl⟩
noncomputable def fb15:Code:=fbO Tryz.f15
noncomputable def fi15:FI:=⟨26,[ResultVar.tmp 4],fb15⟩
theorem fo15:FIok Tryz.prog 15 fi15:=⟨_,Tryz.func15,by kernel_rfl,Tryz.ntmps15,Tryz.results15,by kernel_rfl,by kernel_rfl⟩
theorem zmt:qah Tryz.prog 15:=⟨_,Tryz.func15,by kernel_rfl,by kernel_rfl⟩
noncomputable def fb16:Code:=fbO Tryz.f16
noncomputable def fi16:FI:=⟨31,[ResultVar.tmp 4],fb16⟩
theorem fo16:FIok Tryz.prog 16 fi16:=⟨_,Tryz.func16,by kernel_rfl,Tryz.ntmps16,Tryz.results16,by kernel_rfl,by kernel_rfl⟩
theorem zrv:qah Tryz.prog 16:=⟨_,Tryz.func16,by kernel_rfl,by kernel_rfl⟩
noncomputable def fb17:Code:=fbO Tryz.f17
noncomputable def fi17:FI:=⟨30,[ResultVar.tmp 2],fb17⟩
theorem fo17:FIok Tryz.prog 17 fi17:=⟨_,Tryz.func17,by kernel_rfl,Tryz.ntmps17,Tryz.results17,by kernel_rfl,by kernel_rfl⟩
noncomputable def fb18:Code:=fbO Tryz.f18
noncomputable def fi18:FI:=⟨32,[ResultVar.tmp 4,ResultVar.tmp 5,ResultVar.tmp 6],fb18⟩
theorem fo18:FIok Tryz.prog 18 fi18:=⟨_,Tryz.func18,by kernel_rfl,Tryz.ntmps18,Tryz.results18,by kernel_rfl,by kernel_rfl⟩
noncomputable def fb19:Code:=fbO Tryz.f19
noncomputable def fi19:FI:=⟨37,[ResultVar.tmp 4,ResultVar.tmp 5,ResultVar.tmp 6],fb19⟩
theorem fo19:FIok Tryz.prog 19 fi19:=⟨_,Tryz.func19,by kernel_rfl,Tryz.ntmps19,Tryz.results19,by kernel_rfl,by kernel_rfl⟩
noncomputable def fb20:Code:=fbO Tryz.f20
noncomputable def fi20:FI:=⟨12,[ResultVar.tmp 2,ResultVar.tmp 3],fb20⟩
theorem fo20:FIok Tryz.prog 20 fi20:=⟨_,Tryz.func20,by kernel_rfl,Tryz.ntmps20,Tryz.results20,by kernel_rfl,by kernel_rfl⟩
theorem zpb:qah Tryz.prog 20:=⟨_,Tryz.func20,by kernel_rfl,by kernel_rfl⟩
noncomputable def fb21:Code:=fbO Tryz.f21
noncomputable def fi21:FI:=⟨9,[ResultVar.tmp 2,ResultVar.tmp 3],fb21⟩
theorem fo21:FIok Tryz.prog 21 fi21:=⟨_,Tryz.func21,by kernel_rfl,Tryz.ntmps21,Tryz.results21,by kernel_rfl,by kernel_rfl⟩
noncomputable def fb22:Code:=fbO Tryz.f22
noncomputable def fi22:FI:=⟨57,[ResultVar.tmp 2,ResultVar.tmp 3],fb22⟩
theorem fo22:FIok Tryz.prog 22 fi22:=⟨_,Tryz.func22,by kernel_rfl,Tryz.ntmps22,Tryz.results22,by kernel_rfl,by kernel_rfl⟩
theorem z3i:qah Tryz.prog 22:=⟨_,Tryz.func22,by kernel_rfl,by kernel_rfl⟩
noncomputable def fb23:Code:=fbO Tryz.f23
noncomputable def fi23:FI:=⟨59,[ResultVar.tmp 2,ResultVar.tmp 3],fb23⟩
theorem fo23:FIok Tryz.prog 23 fi23:=⟨_,Tryz.func23,by kernel_rfl,Tryz.ntmps23,Tryz.results23,by kernel_rfl,by kernel_rfl⟩
noncomputable def fb24:Code:=fbO Tryz.f24
noncomputable def fi24:FI:=⟨24,[ResultVar.tmp 4,ResultVar.tmp 5],fb24⟩
theorem fo24:FIok Tryz.prog 24 fi24:=⟨_,Tryz.func24,by kernel_rfl,Tryz.ntmps24,Tryz.results24,by kernel_rfl,by kernel_rfl⟩
theorem zg7:qah Tryz.prog 24:=⟨_,Tryz.func24,by kernel_rfl,by kernel_rfl⟩
noncomputable def fb25:Code:=fbO Tryz.f25
noncomputable def fi25:FI:=⟨43,[ResultVar.cell 4 33],fb25⟩
theorem fo25:FIok Tryz.prog 25 fi25:=⟨_,Tryz.func25,by kernel_rfl,Tryz.ntmps25,Tryz.results25,by kernel_rfl,by kernel_rfl⟩
noncomputable def fb26:Code:=fbO Tryz.f26
noncomputable def fi26:FI:=⟨21,[ResultVar.cell 4 37,ResultVar.tmp 5],fb26⟩
theorem fo26:FIok Tryz.prog 26 fi26:=⟨_,Tryz.func26,by kernel_rfl,Tryz.ntmps26,Tryz.results26,by kernel_rfl,by kernel_rfl⟩
theorem zv7:qah Tryz.prog 26:=⟨_,Tryz.func26,by kernel_rfl,by kernel_rfl⟩
noncomputable def fb27:Code:=fbO Tryz.f27
noncomputable def fi27:FI:=⟨10,[ResultVar.cell 4 41],fb27⟩
theorem fo27:FIok Tryz.prog 27 fi27:=⟨_,Tryz.func27,by kernel_rfl,Tryz.ntmps27,Tryz.results27,by kernel_rfl,by kernel_rfl⟩
noncomputable def fb28:Code:=fbO Tryz.f28
noncomputable def fi28:FI:=⟨18,[ResultVar.cell 2 25,ResultVar.tmp 3],fb28⟩
theorem fo28:FIok Tryz.prog 28 fi28:=⟨_,Tryz.func28,by kernel_rfl,Tryz.ntmps28,Tryz.results28,by kernel_rfl,by kernel_rfl⟩
theorem zoc:qah Tryz.prog 28:=⟨_,Tryz.func28,by kernel_rfl,by kernel_rfl⟩
noncomputable def fb29:Code:=fbO Tryz.f29
noncomputable def fi29:FI:=⟨27,[ResultVar.cell 2 25,ResultVar.tmp 3],fb29⟩
theorem fo29:FIok Tryz.prog 29 fi29:=⟨_,Tryz.func29,by kernel_rfl,Tryz.ntmps29,Tryz.results29,by kernel_rfl,by kernel_rfl⟩
noncomputable def fb30:Code:=fbO Tryz.f30
noncomputable def fi30:FI:=⟨42,[ResultVar.tmp 4,ResultVar.tmp 5],fb30⟩
theorem fo30:FIok Tryz.prog 30 fi30:=⟨_,Tryz.func30,by kernel_rfl,Tryz.ntmps30,Tryz.results30,by kernel_rfl,by kernel_rfl⟩
noncomputable def fb31:Code:=fbO Tryz.f31
noncomputable def fi31:FI:=⟨52,[ResultVar.tmp 4,ResultVar.tmp 5],fb31⟩
theorem fo31:FIok Tryz.prog 31 fi31:=⟨_,Tryz.func31,by kernel_rfl,Tryz.ntmps31,Tryz.results31,by kernel_rfl,by kernel_rfl⟩
noncomputable def fb32:Code:=fbO Tryz.f32
noncomputable def fi32:FI:=⟨83,[ResultVar.cell 4 25,ResultVar.tmp 5],fb32⟩
theorem fo32:FIok Tryz.prog 32 fi32:=⟨_,Tryz.func32,by kernel_rfl,Tryz.ntmps32,Tryz.results32,by kernel_rfl,by kernel_rfl⟩
theorem zn7:qah Tryz.prog 32:=⟨_,Tryz.func32,by kernel_rfl,by kernel_rfl⟩
noncomputable def fb33:Code:=fbO Tryz.f33
noncomputable def fi33:FI:=⟨89,[ResultVar.cell 4 63],fb33⟩
theorem fo33:FIok Tryz.prog 33 fi33:=⟨_,Tryz.func33,by kernel_rfl,Tryz.ntmps33,Tryz.results33,by kernel_rfl,by kernel_rfl⟩
noncomputable def fb34:Code:=fbO Tryz.f34
noncomputable def fi34:FI:=⟨64,[ResultVar.cell 4 25,ResultVar.tmp 5],fb34⟩
theorem fo34:FIok Tryz.prog 34 fi34:=⟨_,Tryz.func34,by kernel_rfl,Tryz.ntmps34,Tryz.results34,by kernel_rfl,by kernel_rfl⟩
theorem zr8:qah Tryz.prog 34:=⟨_,Tryz.func34,by kernel_rfl,by kernel_rfl⟩
noncomputable def fb35:Code:=fbO Tryz.f35
noncomputable def fi35:FI:=⟨53,[ResultVar.cell 4 63],fb35⟩
theorem fo35:FIok Tryz.prog 35 fi35:=⟨_,Tryz.func35,by kernel_rfl,Tryz.ntmps35,Tryz.results35,by kernel_rfl,by kernel_rfl⟩
noncomputable def fb36:Code:=fbO Tryz.f36
noncomputable def fi36:FI:=⟨59,[ResultVar.tmp 4],fb36⟩
theorem fo36:FIok Tryz.prog 36 fi36:=⟨_,Tryz.func36,by kernel_rfl,Tryz.ntmps36,Tryz.results36,by kernel_rfl,by kernel_rfl⟩
theorem zzw:qah Tryz.prog 36:=⟨_,Tryz.func36,by kernel_rfl,by kernel_rfl⟩
noncomputable def fb37:Code:=fbO Tryz.f37
noncomputable def fi37:FI:=⟨35,[ResultVar.tmp 2],fb37⟩
theorem fo37:FIok Tryz.prog 37 fi37:=⟨_,Tryz.func37,by kernel_rfl,Tryz.ntmps37,Tryz.results37,by kernel_rfl,by kernel_rfl⟩
theorem zjl:qah Tryz.prog 37:=⟨_,Tryz.func37,by kernel_rfl,by kernel_rfl⟩
noncomputable def fb38:Code:=fbO Tryz.f38
noncomputable def fi38:FI:=⟨61,[ResultVar.tmp 2],fb38⟩
theorem fo38:FIok Tryz.prog 38 fi38:=⟨_,Tryz.func38,by kernel_rfl,Tryz.ntmps38,Tryz.results38,by kernel_rfl,by kernel_rfl⟩
theorem zk4:qah Tryz.prog 38:=⟨_,Tryz.func38,by kernel_rfl,by kernel_rfl⟩
noncomputable def fb39:Code:=fbO Tryz.f39
noncomputable def fi39:FI:=⟨20,[ResultVar.tmp 2,ResultVar.tmp 3],fb39⟩
theorem fo39:FIok Tryz.prog 39 fi39:=⟨_,Tryz.func39,by kernel_rfl,Tryz.ntmps39,Tryz.results39,by kernel_rfl,by kernel_rfl⟩
theorem zsx:qah Tryz.prog 39:=⟨_,Tryz.func39,by kernel_rfl,by kernel_rfl⟩
noncomputable def fb40:Code:=fbO Tryz.f40
noncomputable def fi40:FI:=⟨64,[ResultVar.cell 2 33],fb40⟩
theorem fo40:FIok Tryz.prog 40 fi40:=⟨_,Tryz.func40,by kernel_rfl,Tryz.ntmps40,Tryz.results40,by kernel_rfl,by kernel_rfl⟩
noncomputable def fb41:Code:=fbO Tryz.f41
noncomputable def fi41:FI:=⟨18,[ResultVar.cell 2 37,ResultVar.tmp 3],fb41⟩
theorem fo41:FIok Tryz.prog 41 fi41:=⟨_,Tryz.func41,by kernel_rfl,Tryz.ntmps41,Tryz.results41,by kernel_rfl,by kernel_rfl⟩
theorem zwt:qah Tryz.prog 41:=⟨_,Tryz.func41,by kernel_rfl,by kernel_rfl⟩
noncomputable def fb42:Code:=fbO Tryz.f42
noncomputable def fi42:FI:=⟨7,[ResultVar.cell 2 41],fb42⟩
theorem fo42:FIok Tryz.prog 42 fi42:=⟨_,Tryz.func42,by kernel_rfl,Tryz.ntmps42,Tryz.results42,by kernel_rfl,by kernel_rfl⟩
noncomputable def fb43:Code:=fbO Tryz.f43
noncomputable def fi43:FI:=⟨49,[ResultVar.cell 4 37,ResultVar.tmp 5],fb43⟩
theorem fo43:FIok Tryz.prog 43 fi43:=⟨_,Tryz.func43,by kernel_rfl,Tryz.ntmps43,Tryz.results43,by kernel_rfl,by kernel_rfl⟩
noncomputable def fb44:Code:=fbO Tryz.f44
noncomputable def fi44:FI:=⟨38,[ResultVar.cell 4 41],fb44⟩
theorem fo44:FIok Tryz.prog 44 fi44:=⟨_,Tryz.func44,by kernel_rfl,Tryz.ntmps44,Tryz.results44,by kernel_rfl,by kernel_rfl⟩
noncomputable def fb45:Code:=fbO Tryz.f45
noncomputable def fi45:FI:=⟨19,[ResultVar.tmp 2],fb45⟩
theorem fo45:FIok Tryz.prog 45 fi45:=⟨_,Tryz.func45,by kernel_rfl,Tryz.ntmps45,Tryz.results45,by kernel_rfl,by kernel_rfl⟩
noncomputable def fb46:Code:=fbO Tryz.f46
noncomputable def fi46:FI:=⟨55,[ResultVar.cell 4 37,ResultVar.tmp 5],fb46⟩
theorem fo46:FIok Tryz.prog 46 fi46:=⟨_,Tryz.func46,by kernel_rfl,Tryz.ntmps46,Tryz.results46,by kernel_rfl,by kernel_rfl⟩
noncomputable def fb47:Code:=fbO Tryz.f47
noncomputable def fi47:FI:=⟨66,[ResultVar.tmp 2],fb47⟩
theorem fo47:FIok Tryz.prog 47 fi47:=⟨_,Tryz.func47,by kernel_rfl,Tryz.ntmps47,Tryz.results47,by kernel_rfl,by kernel_rfl⟩
noncomputable def fb48:Code:=fbO Tryz.f48
noncomputable def fi48:FI:=⟨68,[ResultVar.tmp 4],fb48⟩
theorem fo48:FIok Tryz.prog 48 fi48:=⟨_,Tryz.func48,by kernel_rfl,Tryz.ntmps48,Tryz.results48,by kernel_rfl,by kernel_rfl⟩
noncomputable def fb49:Code:=fbO Tryz.f49
noncomputable def fi49:FI:=⟨58,[ResultVar.cell 8 25,ResultVar.tmp 9],fb49⟩
theorem fo49:FIok Tryz.prog 49 fi49:=⟨_,Tryz.func49,by kernel_rfl,Tryz.ntmps49,Tryz.results49,by kernel_rfl,by kernel_rfl⟩
noncomputable def fb50:Code:=fbO Tryz.f50
noncomputable def fi50:FI:=⟨26,[ResultVar.tmp 4],fb50⟩
theorem fo50:FIok Tryz.prog 50 fi50:=⟨_,Tryz.func50,by kernel_rfl,Tryz.ntmps50,Tryz.results50,by kernel_rfl,by kernel_rfl⟩
theorem zlp:qah Tryz.prog 50:=⟨_,Tryz.func50,by kernel_rfl,by kernel_rfl⟩
noncomputable def fb51:Code:=fbO Tryz.f51
noncomputable def fi51:FI:=⟨19,[ResultVar.tmp 4],fb51⟩
theorem fo51:FIok Tryz.prog 51 fi51:=⟨_,Tryz.func51,by kernel_rfl,Tryz.ntmps51,Tryz.results51,by kernel_rfl,by kernel_rfl⟩
noncomputable def fb52:Code:=fbO Tryz.f52
noncomputable def fi52:FI:=⟨47,[ResultVar.cell 2 37,ResultVar.tmp 3],fb52⟩
theorem fo52:FIok Tryz.prog 52 fi52:=⟨_,Tryz.func52,by kernel_rfl,Tryz.ntmps52,Tryz.results52,by kernel_rfl,by kernel_rfl⟩
theorem zxr:qah Tryz.prog 52:=⟨_,Tryz.func52,by kernel_rfl,by kernel_rfl⟩
noncomputable def fb53:Code:=fbO Tryz.f53
noncomputable def fi53:FI:=⟨31,[],fb53⟩
theorem fo53:FIok Tryz.prog 53 fi53:=⟨_,Tryz.func53,by kernel_rfl,Tryz.ntmps53,Tryz.results53,by kernel_rfl,by kernel_rfl⟩
theorem zp9:qah Tryz.prog 53:=⟨_,Tryz.func53,by kernel_rfl,by kernel_rfl⟩
noncomputable def fb54:Code:=fbO Tryz.f54
noncomputable def fi54:FI:=⟨2,[ResultVar.tmp 0],fb54⟩
theorem fo54:FIok Tryz.prog 54 fi54:=⟨_,Tryz.func54,by kernel_rfl,Tryz.ntmps54,Tryz.results54,by kernel_rfl,by kernel_rfl⟩
theorem ztj:qah Tryz.prog 54:=⟨_,Tryz.func54,by kernel_rfl,by kernel_rfl⟩
noncomputable def fb55:Code:=fbO Tryz.f55
noncomputable def fi55:FI:=⟨12,[],fb55⟩
theorem fo55:FIok Tryz.prog 55 fi55:=⟨_,Tryz.func55,by kernel_rfl,Tryz.ntmps55,Tryz.results55,by kernel_rfl,by kernel_rfl⟩
theorem z14:qah Tryz.prog 55:=⟨_,Tryz.func55,by kernel_rfl,by kernel_rfl⟩
noncomputable def fb56:Code:=fbO Tryz.f56
noncomputable def fi56:FI:=⟨37,[ResultVar.tmp 2],fb56⟩
theorem fo56:FIok Tryz.prog 56 fi56:=⟨_,Tryz.func56,by kernel_rfl,Tryz.ntmps56,Tryz.results56,by kernel_rfl,by kernel_rfl⟩
theorem zuq:qah Tryz.prog 56:=⟨_,Tryz.func56,by kernel_rfl,by kernel_rfl⟩
noncomputable def fb57:Code:=fbO Tryz.f57
noncomputable def fi57:FI:=⟨6,[ResultVar.tmp 2],fb57⟩
theorem fo57:FIok Tryz.prog 57 fi57:=⟨_,Tryz.func57,by kernel_rfl,Tryz.ntmps57,Tryz.results57,by kernel_rfl,by kernel_rfl⟩
theorem zx5:qah Tryz.prog 57:=⟨_,Tryz.func57,by kernel_rfl,by kernel_rfl⟩
noncomputable def fb58:Code:=fbO Tryz.f58
noncomputable def fi58:FI:=⟨9,[ResultVar.cell 4 96],fb58⟩
theorem fo58:FIok Tryz.prog 58 fi58:=⟨_,Tryz.func58,by kernel_rfl,Tryz.ntmps58,Tryz.results58,by kernel_rfl,by kernel_rfl⟩
theorem zw1:qah Tryz.prog 58:=⟨_,Tryz.func58,by kernel_rfl,by kernel_rfl⟩
noncomputable def fb59:Code:=fbO Tryz.f59
noncomputable def fi59:FI:=⟨2,[ResultVar.cell 0 96],fb59⟩
theorem fo59:FIok Tryz.prog 59 fi59:=⟨_,Tryz.func59,by kernel_rfl,Tryz.ntmps59,Tryz.results59,by kernel_rfl,by kernel_rfl⟩
theorem zqw:qah Tryz.prog 59:=⟨_,Tryz.func59,by kernel_rfl,by kernel_rfl⟩
noncomputable def fb60:Code:=fbO Tryz.f60
noncomputable def fi60:FI:=⟨82,[ResultVar.tmp 4],fb60⟩
theorem fo60:FIok Tryz.prog 60 fi60:=⟨_,Tryz.func60,by kernel_rfl,Tryz.ntmps60,Tryz.results60,by kernel_rfl,by kernel_rfl⟩
theorem zwm:qah Tryz.prog 60:=⟨_,Tryz.func60,by kernel_rfl,by kernel_rfl⟩
noncomputable def fb61:Code:=fbO Tryz.f61
noncomputable def fi61:FI:=⟨79,[ResultVar.cell 2 37,ResultVar.tmp 3],fb61⟩
theorem fo61:FIok Tryz.prog 61 fi61:=⟨_,Tryz.func61,by kernel_rfl,Tryz.ntmps61,Tryz.results61,by kernel_rfl,by kernel_rfl⟩
theorem z07:qah Tryz.prog 61:=⟨_,Tryz.func61,by kernel_rfl,by kernel_rfl⟩
noncomputable def fb62:Code:=fbO Tryz.f62
noncomputable def fi62:FI:=⟨18,[ResultVar.tmp 4,ResultVar.tmp 5],fb62⟩
theorem fo62:FIok Tryz.prog 62 fi62:=⟨_,Tryz.func62,by kernel_rfl,Tryz.ntmps62,Tryz.results62,by kernel_rfl,by kernel_rfl⟩
theorem z18:qah Tryz.prog 62:=⟨_,Tryz.func62,by kernel_rfl,by kernel_rfl⟩
noncomputable def fb63:Code:=fbO Tryz.f63
noncomputable def fi63:FI:=⟨141,[ResultVar.cell 6 110],fb63⟩
theorem fo63:FIok Tryz.prog 63 fi63:=⟨_,Tryz.func63,by kernel_rfl,Tryz.ntmps63,Tryz.results63,by kernel_rfl,by kernel_rfl⟩
theorem z3p:qah Tryz.prog 63:=⟨_,Tryz.func63,by kernel_rfl,by kernel_rfl⟩
noncomputable def fb64:Code:=fbO Tryz.f64
noncomputable def fi64:FI:=⟨85,[ResultVar.tmp 4],fb64⟩
theorem fo64:FIok Tryz.prog 64 fi64:=⟨_,Tryz.func64,by kernel_rfl,Tryz.ntmps64,Tryz.results64,by kernel_rfl,by kernel_rfl⟩
theorem zq4:qah Tryz.prog 64:=⟨_,Tryz.func64,by kernel_rfl,by kernel_rfl⟩
noncomputable def fb65:Code:=fbO Tryz.f65
noncomputable def fi65:FI:=⟨46,[ResultVar.tmp 2],fb65⟩
theorem fo65:FIok Tryz.prog 65 fi65:=⟨_,Tryz.func65,by kernel_rfl,Tryz.ntmps65,Tryz.results65,by kernel_rfl,by kernel_rfl⟩
theorem zt4:qah Tryz.prog 65:=⟨_,Tryz.func65,by kernel_rfl,by kernel_rfl⟩
noncomputable def fb66:Code:=fbO Tryz.f66
noncomputable def fi66:FI:=⟨15,[ResultVar.tmp 6],fb66⟩
theorem fo66:FIok Tryz.prog 66 fi66:=⟨_,Tryz.func66,by kernel_rfl,Tryz.ntmps66,Tryz.results66,by kernel_rfl,by kernel_rfl⟩
theorem zi4:qah Tryz.prog 66:=⟨_,Tryz.func66,by kernel_rfl,by kernel_rfl⟩
noncomputable def fb67:Code:=fbO Tryz.f67
noncomputable def fi67:FI:=⟨16,[ResultVar.tmp 2],fb67⟩
theorem fo67:FIok Tryz.prog 67 fi67:=⟨_,Tryz.func67,by kernel_rfl,Tryz.ntmps67,Tryz.results67,by kernel_rfl,by kernel_rfl⟩
noncomputable def fb68:Code:=fbO Tryz.f68
noncomputable def fi68:FI:=⟨15,[ResultVar.tmp 6],fb68⟩
theorem fo68:FIok Tryz.prog 68 fi68:=⟨_,Tryz.func68,by kernel_rfl,Tryz.ntmps68,Tryz.results68,by kernel_rfl,by kernel_rfl⟩
theorem zwz:qah Tryz.prog 68:=⟨_,Tryz.func68,by kernel_rfl,by kernel_rfl⟩
noncomputable def fb69:Code:=fbO Tryz.f69
noncomputable def fi69:FI:=⟨19,[ResultVar.tmp 2],fb69⟩
theorem fo69:FIok Tryz.prog 69 fi69:=⟨_,Tryz.func69,by kernel_rfl,Tryz.ntmps69,Tryz.results69,by kernel_rfl,by kernel_rfl⟩
theorem zx1:qah Tryz.prog 69:=⟨_,Tryz.func69,by kernel_rfl,by kernel_rfl⟩
noncomputable def fb70:Code:=fbO Tryz.f70
noncomputable def fi70:FI:=⟨12,[ResultVar.tmp 2],fb70⟩
theorem fo70:FIok Tryz.prog 70 fi70:=⟨_,Tryz.func70,by kernel_rfl,Tryz.ntmps70,Tryz.results70,by kernel_rfl,by kernel_rfl⟩
noncomputable def fb71:Code:=fbO Tryz.f71
noncomputable def fi71:FI:=⟨19,[ResultVar.tmp 4],fb71⟩
theorem fo71:FIok Tryz.prog 71 fi71:=⟨_,Tryz.func71,by kernel_rfl,Tryz.ntmps71,Tryz.results71,by kernel_rfl,by kernel_rfl⟩
theorem z4q:qah Tryz.prog 71:=⟨_,Tryz.func71,by kernel_rfl,by kernel_rfl⟩
noncomputable def fb72:Code:=fbO Tryz.f72
noncomputable def fi72:FI:=⟨70,[ResultVar.tmp 4,ResultVar.tmp 5],fb72⟩
theorem fo72:FIok Tryz.prog 72 fi72:=⟨_,Tryz.func72,by kernel_rfl,Tryz.ntmps72,Tryz.results72,by kernel_rfl,by kernel_rfl⟩
theorem zqc:qah Tryz.prog 72:=⟨_,Tryz.func72,by kernel_rfl,by kernel_rfl⟩
noncomputable def fb73:Code:=fbO Tryz.f73
noncomputable def fi73:FI:=⟨62,[ResultVar.tmp 8],fb73⟩
theorem fo73:FIok Tryz.prog 73 fi73:=⟨_,Tryz.func73,by kernel_rfl,Tryz.ntmps73,Tryz.results73,by kernel_rfl,by kernel_rfl⟩
noncomputable def fb74:Code:=fbO Tryz.f74
noncomputable def fi74:FI:=⟨22,[ResultVar.cell 4 37],fb74⟩
theorem fo74:FIok Tryz.prog 74 fi74:=⟨_,Tryz.func74,by kernel_rfl,Tryz.ntmps74,Tryz.results74,by kernel_rfl,by kernel_rfl⟩
theorem z19:qah Tryz.prog 74:=⟨_,Tryz.func74,by kernel_rfl,by kernel_rfl⟩
noncomputable def fb75:Code:=fbO Tryz.f75
noncomputable def fi75:FI:=⟨18,[ResultVar.cell 4 41],fb75⟩
theorem fo75:FIok Tryz.prog 75 fi75:=⟨_,Tryz.func75,by kernel_rfl,Tryz.ntmps75,Tryz.results75,by kernel_rfl,by kernel_rfl⟩
noncomputable def fb76:Code:=fbO Tryz.f76
noncomputable def fi76:FI:=⟨48,[ResultVar.tmp 4],fb76⟩
theorem fo76:FIok Tryz.prog 76 fi76:=⟨_,Tryz.func76,by kernel_rfl,Tryz.ntmps76,Tryz.results76,by kernel_rfl,by kernel_rfl⟩
theorem zro:qah Tryz.prog 76:=⟨_,Tryz.func76,by kernel_rfl,by kernel_rfl⟩
noncomputable def fb77:Code:=fbO Tryz.f77
noncomputable def fi77:FI:=⟨8,[ResultVar.tmp 2],fb77⟩
theorem fo77:FIok Tryz.prog 77 fi77:=⟨_,Tryz.func77,by kernel_rfl,Tryz.ntmps77,Tryz.results77,by kernel_rfl,by kernel_rfl⟩
theorem zdp:qah Tryz.prog 77:=⟨_,Tryz.func77,by kernel_rfl,by kernel_rfl⟩
noncomputable def fb78:Code:=fbO Tryz.f78
noncomputable def fi78:FI:=⟨8,[ResultVar.tmp 2],fb78⟩
theorem fo78:FIok Tryz.prog 78 fi78:=⟨_,Tryz.func78,by kernel_rfl,Tryz.ntmps78,Tryz.results78,by kernel_rfl,by kernel_rfl⟩
theorem q7o:qah Tryz.prog 78:=⟨_,Tryz.func78,by kernel_rfl,by kernel_rfl⟩
noncomputable def fb79:Code:=fbO Tryz.f79
noncomputable def fi79:FI:=⟨6,[ResultVar.tmp 2],fb79⟩
theorem fo79:FIok Tryz.prog 79 fi79:=⟨_,Tryz.func79,by kernel_rfl,Tryz.ntmps79,Tryz.results79,by kernel_rfl,by kernel_rfl⟩
theorem zu0:qah Tryz.prog 79:=⟨_,Tryz.func79,by kernel_rfl,by kernel_rfl⟩
noncomputable def fb80:Code:=fbO Tryz.f80
noncomputable def fi80:FI:=⟨24,[ResultVar.tmp 4],fb80⟩
theorem fo80:FIok Tryz.prog 80 fi80:=⟨_,Tryz.func80,by kernel_rfl,Tryz.ntmps80,Tryz.results80,by kernel_rfl,by kernel_rfl⟩
theorem zqq:qah Tryz.prog 80:=⟨_,Tryz.func80,by kernel_rfl,by kernel_rfl⟩
noncomputable def fb81:Code:=fbO Tryz.f81
noncomputable def fi81:FI:=⟨47,[ResultVar.tmp 6],fb81⟩
theorem fo81:FIok Tryz.prog 81 fi81:=⟨_,Tryz.func81,by kernel_rfl,Tryz.ntmps81,Tryz.results81,by kernel_rfl,by kernel_rfl⟩
noncomputable def fb82:Code:=fbO Tryz.f82
noncomputable def fi82:FI:=⟨14,[ResultVar.tmp 2],fb82⟩
theorem fo82:FIok Tryz.prog 82 fi82:=⟨_,Tryz.func82,by kernel_rfl,Tryz.ntmps82,Tryz.results82,by kernel_rfl,by kernel_rfl⟩
noncomputable def fb83:Code:=fbO Tryz.f83
noncomputable def fi83:FI:=⟨9,[ResultVar.tmp 4],fb83⟩
theorem fo83:FIok Tryz.prog 83 fi83:=⟨_,Tryz.func83,by kernel_rfl,Tryz.ntmps83,Tryz.results83,by kernel_rfl,by kernel_rfl⟩
noncomputable def fb84:Code:=fbO Tryz.f84
noncomputable def fi84:FI:=⟨6,[ResultVar.tmp 2],fb84⟩
theorem fo84:FIok Tryz.prog 84 fi84:=⟨_,Tryz.func84,by kernel_rfl,Tryz.ntmps84,Tryz.results84,by kernel_rfl,by kernel_rfl⟩
noncomputable def fb85:Code:=fbO Tryz.f85
noncomputable def fi85:FI:=⟨9,[ResultVar.tmp 4],fb85⟩
theorem fo85:FIok Tryz.prog 85 fi85:=⟨_,Tryz.func85,by kernel_rfl,Tryz.ntmps85,Tryz.results85,by kernel_rfl,by kernel_rfl⟩
noncomputable def fb86:Code:=fbO Tryz.f86
noncomputable def fi86:FI:=⟨15,[ResultVar.tmp 3],fb86⟩
theorem fo86:FIok Tryz.prog 86 fi86:=⟨_,Tryz.func86,by kernel_rfl,Tryz.ntmps86,Tryz.results86,by kernel_rfl,by kernel_rfl⟩
noncomputable def fb87:Code:=fbO Tryz.f87
noncomputable def fi87:FI:=⟨9,[ResultVar.tmp 4],fb87⟩
theorem fo87:FIok Tryz.prog 87 fi87:=⟨_,Tryz.func87,by kernel_rfl,Tryz.ntmps87,Tryz.results87,by kernel_rfl,by kernel_rfl⟩
noncomputable def fb88:Code:=fbO Tryz.f88
noncomputable def fi88:FI:=⟨82,[ResultVar.tmp 2,ResultVar.tmp 3],fb88⟩
theorem fo88:FIok Tryz.prog 88 fi88:=⟨_,Tryz.func88,by kernel_rfl,Tryz.ntmps88,Tryz.results88,by kernel_rfl,by kernel_rfl⟩
theorem z1a:qah Tryz.prog 88:=⟨_,Tryz.func88,by kernel_rfl,by kernel_rfl⟩
noncomputable def fb89:Code:=fbO Tryz.f89
noncomputable def fi89:FI:=⟨22,[ResultVar.tmp 4],fb89⟩
theorem fo89:FIok Tryz.prog 89 fi89:=⟨_,Tryz.func89,by kernel_rfl,Tryz.ntmps89,Tryz.results89,by kernel_rfl,by kernel_rfl⟩
theorem zqm:qah Tryz.prog 89:=⟨_,Tryz.func89,by kernel_rfl,by kernel_rfl⟩
noncomputable def fb91:Code:=fbO Tryz.f91
noncomputable def fi91:FI:=⟨36,[ResultVar.tmp 2],fb91⟩
theorem fo91:FIok Tryz.prog 91 fi91:=⟨_,Tryz.func91,by kernel_rfl,Tryz.ntmps91,Tryz.results91,by kernel_rfl,by kernel_rfl⟩
theorem z0y:qah Tryz.prog 91:=⟨_,Tryz.func91,by kernel_rfl,by kernel_rfl⟩
noncomputable def fb92:Code:=fbO Tryz.f92
noncomputable def fi92:FI:=⟨10,[ResultVar.tmp 2],fb92⟩
theorem fo92:FIok Tryz.prog 92 fi92:=⟨_,Tryz.func92,by kernel_rfl,Tryz.ntmps92,Tryz.results92,by kernel_rfl,by kernel_rfl⟩
theorem zhm:qah Tryz.prog 92:=⟨_,Tryz.func92,by kernel_rfl,by kernel_rfl⟩
noncomputable def fb93:Code:=fbO Tryz.f93
noncomputable def fi93:FI:=⟨15,[ResultVar.cell 4 143],fb93⟩
theorem fo93:FIok Tryz.prog 93 fi93:=⟨_,Tryz.func93,by kernel_rfl,Tryz.ntmps93,Tryz.results93,by kernel_rfl,by kernel_rfl⟩
theorem zn4:qah Tryz.prog 93:=⟨_,Tryz.func93,by kernel_rfl,by kernel_rfl⟩
noncomputable def fb94:Code:=fbO Tryz.f94
noncomputable def fi94:FI:=⟨4,[ResultVar.tmp 2],fb94⟩
theorem fo94:FIok Tryz.prog 94 fi94:=⟨_,Tryz.func94,by kernel_rfl,Tryz.ntmps94,Tryz.results94,by kernel_rfl,by kernel_rfl⟩
noncomputable def fb95:Code:=fbO Tryz.f95
noncomputable def fi95:FI:=⟨9,[ResultVar.tmp 4],fb95⟩
theorem fo95:FIok Tryz.prog 95 fi95:=⟨_,Tryz.func95,by kernel_rfl,Tryz.ntmps95,Tryz.results95,by kernel_rfl,by kernel_rfl⟩
noncomputable def fb96:Code:=fbO Tryz.f96
noncomputable def fi96:FI:=⟨5,[ResultVar.tmp 2],fb96⟩
theorem fo96:FIok Tryz.prog 96 fi96:=⟨_,Tryz.func96,by kernel_rfl,Tryz.ntmps96,Tryz.results96,by kernel_rfl,by kernel_rfl⟩
noncomputable def fb97:Code:=fbO Tryz.f97
noncomputable def fi97:FI:=⟨23,[],fb97⟩
theorem fo97:FIok Tryz.prog 97 fi97:=⟨_,Tryz.func97,by kernel_rfl,Tryz.ntmps97,Tryz.results97,by kernel_rfl,by kernel_rfl⟩
theorem zxd:qah Tryz.prog 97:=⟨_,Tryz.func97,by kernel_rfl,by kernel_rfl⟩
noncomputable def fb98:Code:=fbO Tryz.f98
noncomputable def fi98:FI:=⟨21,[ResultVar.tmp 2],fb98⟩
theorem fo98:FIok Tryz.prog 98 fi98:=⟨_,Tryz.func98,by kernel_rfl,Tryz.ntmps98,Tryz.results98,by kernel_rfl,by kernel_rfl⟩
theorem zms:qah Tryz.prog 98:=⟨_,Tryz.func98,by kernel_rfl,by kernel_rfl⟩
noncomputable def fb99:Code:=fbO Tryz.f99
noncomputable def fi99:FI:=⟨19,[ResultVar.tmp 2],fb99⟩
theorem fo99:FIok Tryz.prog 99 fi99:=⟨_,Tryz.func99,by kernel_rfl,Tryz.ntmps99,Tryz.results99,by kernel_rfl,by kernel_rfl⟩
theorem zww:qah Tryz.prog 99:=⟨_,Tryz.func99,by kernel_rfl,by kernel_rfl⟩
noncomputable def zwh:Code:=fbO Tryz.f100
noncomputable def qeb:FI:=⟨26,[ResultVar.tmp 4],zwh⟩
theorem zsi:FIok Tryz.prog 100 qeb:=⟨_,Tryz.func100,by kernel_rfl,Tryz.ntmps100,Tryz.results100,by kernel_rfl,by kernel_rfl⟩
theorem zwd:qah Tryz.prog 100:=⟨_,Tryz.func100,by kernel_rfl,by kernel_rfl⟩
noncomputable def zre:Code:=fbO Tryz.f101
noncomputable def qfc:FI:=⟨6,[ResultVar.tmp 2],zre⟩
theorem zkk:FIok Tryz.prog 101 qfc:=⟨_,Tryz.func101,by kernel_rfl,Tryz.ntmps101,Tryz.results101,by kernel_rfl,by kernel_rfl⟩
theorem z4n:qah Tryz.prog 101:=⟨_,Tryz.func101,by kernel_rfl,by kernel_rfl⟩
noncomputable def qm4:Code:=fbO Tryz.f103
noncomputable def qvy:FI:=⟨19,[ResultVar.tmp 4],qm4⟩
theorem zcy:FIok Tryz.prog 103 qvy:=⟨_,Tryz.func103,by kernel_rfl,Tryz.ntmps103,Tryz.results103,by kernel_rfl,by kernel_rfl⟩
noncomputable def qk7:Code:=fbO Tryz.f104
noncomputable def qto:FI:=⟨19,[ResultVar.tmp 4],qk7⟩
theorem zao:FIok Tryz.prog 104 qto:=⟨_,Tryz.func104,by kernel_rfl,Tryz.ntmps104,Tryz.results104,by kernel_rfl,by kernel_rfl⟩
noncomputable def ql0:Code:=fbO Tryz.f105
noncomputable def qy5:FI:=⟨19,[ResultVar.tmp 4],ql0⟩
theorem zfb:FIok Tryz.prog 105 qy5:=⟨_,Tryz.func105,by kernel_rfl,Tryz.ntmps105,Tryz.results105,by kernel_rfl,by kernel_rfl⟩
noncomputable def z42:Code:=fbO Tryz.f111
noncomputable def q9p:FI:=⟨28,[],z42⟩
theorem zn2:FIok Tryz.prog 111 q9p:=⟨_,Tryz.func111,by kernel_rfl,Tryz.ntmps111,Tryz.results111,by kernel_rfl,by kernel_rfl⟩
theorem z1k:qah Tryz.prog 111:=⟨_,Tryz.func111,by kernel_rfl,by kernel_rfl⟩
noncomputable def zw3:Code:=fbO Tryz.f112
noncomputable def qec:FI:=⟨84,[ResultVar.cell 2 151],zw3⟩
theorem z4v:FIok Tryz.prog 112 qec:=⟨_,Tryz.func112,by kernel_rfl,Tryz.ntmps112,Tryz.results112,by kernel_rfl,by kernel_rfl⟩
theorem zcq:qah Tryz.prog 112:=⟨_,Tryz.func112,by kernel_rfl,by kernel_rfl⟩
noncomputable def qog:Code:=fbO Tryz.f113
noncomputable def q3o:FI:=⟨19,[ResultVar.tmp 4],qog⟩
theorem zda:FIok Tryz.prog 113 q3o:=⟨_,Tryz.func113,by kernel_rfl,Tryz.ntmps113,Tryz.results113,by kernel_rfl,by kernel_rfl⟩
noncomputable def zs2:Code:=fbO Tryz.f114
noncomputable def zev:FI:=⟨12,[ResultVar.tmp 4],zs2⟩
theorem zg3:FIok Tryz.prog 114 zev:=⟨_,Tryz.func114,by kernel_rfl,Tryz.ntmps114,Tryz.results114,by kernel_rfl,by kernel_rfl⟩
theorem zik:qah Tryz.prog 114:=⟨_,Tryz.func114,by kernel_rfl,by kernel_rfl⟩
noncomputable def z4k:Code:=fbO Tryz.f115
noncomputable def zfa:FI:=⟨5,[ResultVar.tmp 2],z4k⟩
theorem zxy:FIok Tryz.prog 115 zfa:=⟨_,Tryz.func115,by kernel_rfl,Tryz.ntmps115,Tryz.results115,by kernel_rfl,by kernel_rfl⟩
theorem q7h:qah Tryz.prog 115:=⟨_,Tryz.func115,by kernel_rfl,by kernel_rfl⟩
noncomputable def zqf:Code:=fbO Tryz.f121
noncomputable def qed:FI:=⟨75,[ResultVar.tmp 2,ResultVar.tmp 3],zqf⟩
theorem zi1:FIok Tryz.prog 121 qed:=⟨_,Tryz.func121,by kernel_rfl,Tryz.ntmps121,Tryz.results121,by kernel_rfl,by kernel_rfl⟩
theorem zuo:qah Tryz.prog 121:=⟨_,Tryz.func121,by kernel_rfl,by kernel_rfl⟩
noncomputable def z0x:Code:=fbO Tryz.f122
noncomputable def zd9:FI:=⟨8,[ResultVar.tmp 2],z0x⟩
theorem zh9:FIok Tryz.prog 122 zd9:=⟨_,Tryz.func122,by kernel_rfl,Tryz.ntmps122,Tryz.results122,by kernel_rfl,by kernel_rfl⟩
theorem zoo:qah Tryz.prog 122:=⟨_,Tryz.func122,by kernel_rfl,by kernel_rfl⟩
noncomputable def zri:Code:=fbO Tryz.f123
noncomputable def q8n:FI:=⟨14,[],zri⟩
theorem zf8:FIok Tryz.prog 123 q8n:=⟨_,Tryz.func123,by kernel_rfl,Tryz.ntmps123,Tryz.results123,by kernel_rfl,by kernel_rfl⟩
theorem zia:qah Tryz.prog 123:=⟨_,Tryz.func123,by kernel_rfl,by kernel_rfl⟩
noncomputable def zmp:Code:=fbO Tryz.f124
noncomputable def q6e:FI:=⟨13,[ResultVar.tmp 5],zmp⟩
theorem zv1:FIok Tryz.prog 124 q6e:=⟨_,Tryz.func124,by kernel_rfl,Tryz.ntmps124,Tryz.results124,by kernel_rfl,by kernel_rfl⟩
noncomputable def z0f:Code:=fbO Tryz.f125
noncomputable def zdu:FI:=⟨20,[ResultVar.tmp 4],z0f⟩
theorem zg4:FIok Tryz.prog 125 zdu:=⟨_,Tryz.func125,by kernel_rfl,Tryz.ntmps125,Tryz.results125,by kernel_rfl,by kernel_rfl⟩
theorem zr9:qah Tryz.prog 125:=⟨_,Tryz.func125,by kernel_rfl,by kernel_rfl⟩
noncomputable def ftT:PT FI:=(.node none (.node none (.node (some fi3) (.node (some fi7) (.node (some fi15) (.node (some fi31) (.node (some fi63) .leaf .leaf) (.node (some fi95) .leaf .leaf)) (.node (some fi47) (.node (some fi79) .leaf .leaf) (.node (some q9p) .leaf .leaf))) (.node (some fi23) (.node (some fi39) (.node (some fi71) .leaf .leaf) (.node (some qvy) .leaf .leaf)) (.node (some fi55) (.node (some fi87) .leaf .leaf) .leaf))) (.node (some fi11) (.node (some fi19) (.node (some fi35) (.node (some fi67) .leaf .leaf) (.node (some fi99) .leaf .leaf)) (.node (some fi51) (.node (some fi83) .leaf .leaf) (.node (some zfa) .leaf .leaf))) (.node (some fi27) (.node (some fi43) (.node (some fi75) .leaf .leaf) .leaf) (.node (some fi59) (.node (some fi91) .leaf .leaf) (.node (some q8n) .leaf .leaf))))) (.node (some fi5) (.node (some fi9) (.node (some fi17) (.node (some fi33) (.node (some fi65) .leaf .leaf) (.node (some fi97) .leaf .leaf)) (.node (some fi49) (.node (some fi81) .leaf .leaf) (.node (some q3o) .leaf .leaf))) (.node (some fi25) (.node (some fi41) (.node (some fi73) .leaf .leaf) (.node (some qy5) .leaf .leaf)) (.node (some fi57) (.node (some fi89) .leaf .leaf) (.node (some qed) .leaf .leaf)))) (.node (some fi13) (.node (some fi21) (.node (some fi37) (.node (some fi69) .leaf .leaf) (.node (some qfc) .leaf .leaf)) (.node (some fi53) (.node (some fi85) .leaf .leaf) .leaf)) (.node (some fi29) (.node (some fi45) (.node (some fi77) .leaf .leaf) .leaf) (.node (some fi61) (.node (some fi93) .leaf .leaf) (.node (some zdu) .leaf .leaf)))))) (.node none (.node (some fi4) (.node (some fi8) (.node (some fi16) (.node (some fi32) (.node (some fi64) .leaf .leaf) (.node (some fi96) .leaf .leaf)) (.node (some fi48) (.node (some fi80) .leaf .leaf) (.node (some qec) .leaf .leaf))) (.node (some fi24) (.node (some fi40) (.node (some fi72) .leaf .leaf) (.node (some qto) .leaf .leaf)) (.node (some fi56) (.node (some fi88) .leaf .leaf) .leaf))) (.node (some fi12) (.node (some fi20) (.node (some fi36) (.node (some fi68) .leaf .leaf) (.node (some qeb) .leaf .leaf)) (.node (some fi52) (.node (some fi84) .leaf .leaf) .leaf)) (.node (some fi28) (.node (some fi44) (.node (some fi76) .leaf .leaf) .leaf) (.node (some fi60) (.node (some fi92) .leaf .leaf) (.node (some q6e) .leaf .leaf))))) (.node (some fi6) (.node (some fi10) (.node (some fi18) (.node (some fi34) (.node (some fi66) .leaf .leaf) (.node (some fi98) .leaf .leaf)) (.node (some fi50) (.node (some fi82) .leaf .leaf) (.node (some zev) .leaf .leaf))) (.node (some fi26) (.node (some fi42) (.node (some fi74) .leaf .leaf) .leaf) (.node (some fi58) .leaf (.node (some zd9) .leaf .leaf)))) (.node (some fi14) (.node (some fi22) (.node (some fi38) (.node (some fi70) .leaf .leaf) .leaf) (.node (some fi54) (.node (some fi86) .leaf .leaf) .leaf)) (.node (some fi30) (.node (some fi46) (.node (some fi78) .leaf .leaf) .leaf) (.node (some fi62) (.node (some fi94) .leaf .leaf) .leaf))))))
theorem ftFa:ftT.Fa (fun f fi=>FIok Tryz.prog f fi):=⟨trivial,⟨trivial,⟨fo3,⟨fo7,⟨fo15,⟨fo31,⟨fo63,trivial,trivial⟩,⟨fo95,trivial,trivial⟩⟩,⟨fo47,⟨fo79,trivial,trivial⟩,⟨zn2,trivial,trivial⟩⟩⟩,⟨fo23,⟨fo39,⟨fo71,trivial,trivial⟩,⟨zcy,trivial,trivial⟩⟩,⟨fo55,⟨fo87,trivial,trivial⟩,trivial⟩⟩⟩,⟨fo11,⟨fo19,⟨fo35,⟨fo67,trivial,trivial⟩,⟨fo99,trivial,trivial⟩⟩,⟨fo51,⟨fo83,trivial,trivial⟩,⟨zxy,trivial,trivial⟩⟩⟩,⟨fo27,⟨fo43,⟨fo75,trivial,trivial⟩,trivial⟩,⟨fo59,⟨fo91,trivial,trivial⟩,⟨zf8,trivial,trivial⟩⟩⟩⟩⟩,⟨fo5,⟨fo9,⟨fo17,⟨fo33,⟨fo65,trivial,trivial⟩,⟨fo97,trivial,trivial⟩⟩,⟨fo49,⟨fo81,trivial,trivial⟩,⟨zda,trivial,trivial⟩⟩⟩,⟨fo25,⟨fo41,⟨fo73,trivial,trivial⟩,⟨zfb,trivial,trivial⟩⟩,⟨fo57,⟨fo89,trivial,trivial⟩,⟨zi1,trivial,trivial⟩⟩⟩⟩,⟨fo13,⟨fo21,⟨fo37,⟨fo69,trivial,trivial⟩,⟨zkk,trivial,trivial⟩⟩,⟨fo53,⟨fo85,trivial,trivial⟩,trivial⟩⟩,⟨fo29,⟨fo45,⟨fo77,trivial,trivial⟩,trivial⟩,⟨fo61,⟨fo93,trivial,trivial⟩,⟨zg4,trivial,trivial⟩⟩⟩⟩⟩⟩,⟨trivial,⟨fo4,⟨fo8,⟨fo16,⟨fo32,⟨fo64,trivial,trivial⟩,⟨fo96,trivial,trivial⟩⟩,⟨fo48,⟨fo80,trivial,trivial⟩,⟨z4v,trivial,trivial⟩⟩⟩,⟨fo24,⟨fo40,⟨fo72,trivial,trivial⟩,⟨zao,trivial,trivial⟩⟩,⟨fo56,⟨fo88,trivial,trivial⟩,trivial⟩⟩⟩,⟨fo12,⟨fo20,⟨fo36,⟨fo68,trivial,trivial⟩,⟨zsi,trivial,trivial⟩⟩,⟨fo52,⟨fo84,trivial,trivial⟩,trivial⟩⟩,⟨fo28,⟨fo44,⟨fo76,trivial,trivial⟩,trivial⟩,⟨fo60,⟨fo92,trivial,trivial⟩,⟨zv1,trivial,trivial⟩⟩⟩⟩⟩,⟨fo6,⟨fo10,⟨fo18,⟨fo34,⟨fo66,trivial,trivial⟩,⟨fo98,trivial,trivial⟩⟩,⟨fo50,⟨fo82,trivial,trivial⟩,⟨zg3,trivial,trivial⟩⟩⟩,⟨fo26,⟨fo42,⟨fo74,trivial,trivial⟩,trivial⟩,⟨fo58,trivial,⟨zh9,trivial,trivial⟩⟩⟩⟩,⟨fo14,⟨fo22,⟨fo38,⟨fo70,trivial,trivial⟩,trivial⟩,⟨fo54,⟨fo86,trivial,trivial⟩,trivial⟩⟩,⟨fo30,⟨fo46,⟨fo78,trivial,trivial⟩,trivial⟩,⟨fo62,⟨fo94,trivial,trivial⟩,trivial⟩⟩⟩⟩⟩⟩
theorem ftOK:FT Tryz.prog ftT.get:=fun f fi h=>PT.fa ftFa f fi h
theorem mixed:Tryz.prog.follows .mixedOrders=true:=by kernel_rfl
theorem rd9:RdT Tryz.prog .str 9:=zh5 Tryz.underlying9 (by kernel_rfl) (by kernel_rfl)
theorem rd22:RdT Tryz.prog (.list .str) 22:=q9c Tryz.underlying22 rd9 (by decide) (by kernel_rfl) (by kernel_rfl)
theorem rd3:RdT Tryz.prog (.int .i64) 3:=z0p Tryz.underlying3 (by kernel_rfl) (by kernel_rfl)
theorem rd94:RdT Tryz.prog cPut 94:=q6c Tryz.underlying94 rd3 rd9 rfl rfl (by kernel_rfl) (by kernel_rfl)
theorem rd23:RdT Tryz.prog (.list cPut) 23:=q9c Tryz.underlying23 rd94 (by decide) (by kernel_rfl) (by kernel_rfl)
theorem rd25:RdT Tryz.prog cDisk 25:=q6c Tryz.underlying25 rd22 rd23 rfl rfl (by kernel_rfl) (by kernel_rfl)
end Go.Proofs.YtnhmanoiolfapaaGreat
end

section
namespace Go.Jx
open Go Go.Sx Go.RowKit
universe u

def regs:Code->List Nat
 | .region id _ _=>[id]
 | .seq a b=>regs a++regs b
 | .cond _ a b=>regs a++regs b
 | .block _ c=>regs c
 | .scope c=>regs c
 | .loop c=>regs c
 | _=>[]
def hasR(k:Nat)(c:Code):Bool:=(regs c).any fun i=>Nat.beq i k
section
variable {R : Type} (P : Program) (tt : Nat -> Option TI) (nm : Nat -> Option Nm) (B : Nat) (nt : Nat) (cl : ClK R) (lf : Nat)
def qdp(ops:List Oper)(draw:Bool)(x:NRes)(kk:CRes->Option R):Option R :=
 cond draw (qot P tt nt cl ops x.fr x.S fun q=>kk (mbR (mB nm B) ⟨.normal,q.fr,q.S,x.ds,q.rd,x.wr ||| q.wr⟩))
  (qjp P tt nt cl ops ops x.fr x.S fun q=>kk (mbR (mB nm B) ⟨.normal,q.fr,q.S,x.ds,q.rd,x.wr ||| q.wr⟩))
def qbc(k:Nat):Code->List Nat->NRes->(CRes->Option R)->Option R
 | .region id ops draw,ns,x,kk=>cond (Nat.beq id k) (qdp P tt nm B nt cl ops.toList draw x kk) none
 | .seq a b,ns,x,kk=>cond (hasR k a) (qbc k a ns x fun r=>match r.e with
  | .normal=>qa0 P tt nm B nt cl lf none b r.fr r.S r.ds fun q=>kk (q.or r.rd r.wr)
  | _=>kk r) (qbc k b ns x kk)
 | .cond c a b,ns,x,kk=>cond (hasR k a) (qbc k a ns x kk) (qbc k b ns x kk)
 | .block id c,ns,x,kk=>qbc k c ns x fun r=>match r.e with
  | .exit id'=>cond (Nat.beq id' id) (kk ⟨.normal,r.fr,r.S,r.ds,r.rd,r.wr⟩) (kk r)
  | _=>kk r
 | .scope c,ns,x,kk=>qbc k c ns x fun r=>match r.e with
  | .goto _=>none
  | _=>kk r
 | .loop c,ns,x,kk=>match ns with
  | []=>none
  | n::ns=>match qdy nm c with
   | none=>none
   | some m=>qbc k c ns x fun r=>cond (subm r.rd m.1&&subm r.wr m.2) (match r.e with
    | .normal=>qez (qa0 P tt nm B nt cl lf none c) m.1 m.2 n r.fr r.S r.ds fun r=>kk (mbR (mB nm B) r)
    | e=>kk (mbR (mB nm B) ⟨e,r.fr,r.S,r.ds,m.1,m.2⟩)) none
 | _,_,_,_=>none
end
theorem qr7{k:Nat}{c:Code}:hasR k c=true↔k∈regs c:=by
 unfold hasR;rw[List.any_eq_true];constructor
 ·rintro⟨i,hi,h⟩;rw[<- Nat.eq_of_beq_eq_true h];exact hi
 ·intro h;exact⟨k,h,Nat.beq_refl k⟩
theorem zyg{q:CRes}{a b:Nat}(ha:a=0)(hb:b=0):q.or a b=q:=by
 subst ha;subst hb;show (⟨q.e,q.fr,q.S,q.ds,0 ||| q.rd,0 ||| q.wr⟩:CRes)=q;rw[Nat.zero_or,Nat.zero_or]
def qak(tt:Nat->Option TI)(fi:FI)(s:Sm)(r:CRes):Option (ElR s.rts):=cond r.e.leaves (bd (qeh tt fi.nt fi.res S0 r) (runR s)) none
end Go.Jx
end

section
namespace Go.Jx
open Go Go.Sx Go.RowKit
universe u

def nz(x:NRes):NRes:=⟨x.fr,x.S,x.ds,0⟩
section
variable {R : Type} (P : Program) (tt : Nat -> Option TI) (nm : Nat -> Option Nm) (B : Nat) (nt : Nat) (cl : ClK R) (lf : Nat) (st hd : Nat -> Bool) (J : Nat -> List Nat -> NRes -> Option R)
def qrp(c:Code)(ns:List Nat)(fr:PT IV)(S:IS)(ds:List Nat):Option R:=match fk c with
 | none=>none
 | some h=>bd (qck nt (nm h) B fr S ds) fun x=>J h ns (nz x)
def qb3:Code->List Nat->CdK R
 | .region id ops draw,ps,fr,S,ds,kk=>bd (qck nt (nm id) B fr S ds) fun x=>cond (st id) (J id ps (nz x)) (qdp P tt nm B nt cl ops.toList draw x kk)
 | .seq a b,ps,fr,S,ds,kk=>qb3 a ps fr S ds fun r=>match r.e with
  | .normal=>qb3 b ps r.fr r.S r.ds kk
  | _=>kk r
 | .cond c a b,ps,fr,S,ds,kk=>match evo nt fr c with
  | some (.bool b')=>cond b' (qb3 a ps fr S ds kk) (qb3 b ps fr S ds kk)
  | _=>none
 | .block id c,ps,fr,S,ds,kk=>qb3 c ps fr S ds fun r=>match r.e with
  | .exit id'=>cond (Nat.beq id' id) (kk ⟨.normal,r.fr,r.S,r.ds,r.rd,r.wr⟩) (kk r)
  | _=>kk r
 | .scope c,ps,fr,S,ds,kk=>qb3 c ps fr S ds fun r=>match r.e with
  | .goto _=>none
  | _=>kk r
 | .loop c,ps,fr,S,ds,kk=>qrp nm B nt J c (ps++[lf]) fr S ds
 | c,ps,fr,S,ds,kk=>qa0 P tt nm B nt cl lf none c fr S ds kk
def qcc(k:Nat):Code->List Nat->List Nat->NRes->(CRes->Option R)->Option R
 | .region id ops draw,ps,ns,x,kk=>cond (Nat.beq id k) (qdp P tt nm B nt cl ops.toList draw x kk) none
 | .seq a b,ps,ns,x,kk=>cond (hasR k a) (qcc k a ps ns x fun r=>match r.e with
  | .normal=>qb3 P tt nm B nt cl lf st J b ps r.fr r.S r.ds kk
  | _=>kk r) (qcc k b ps ns x kk)
 | .cond c a b,ps,ns,x,kk=>cond (hasR k a) (qcc k a ps ns x kk) (qcc k b ps ns x kk)
 | .block id c,ps,ns,x,kk=>qcc k c ps ns x fun r=>match r.e with
  | .exit id'=>cond (Nat.beq id' id) (kk ⟨.normal,r.fr,r.S,r.ds,r.rd,r.wr⟩) (kk r)
  | _=>kk r
 | .scope c,ps,ns,x,kk=>qcc k c ps ns x fun r=>match r.e with
  | .goto _=>none
  | _=>kk r
 | .loop c,ps,ns,x,kk=>match ns with
  | []=>none
  | n::ns=>match qdy nm c with
   | none=>none
   | some m=>qcc k c (ps++[n]) ns x fun r=>cond (subm r.rd m.1&&subm r.wr m.2) (match r.e with
    | .normal=>qrp nm B nt J c (ps++[n]) r.fr r.S r.ds
    | e=>kk (mbR (mB nm B) ⟨e,r.fr,r.S,r.ds,m.1,m.2⟩)) none
 | _,_,_,_,_=>none
end
def okC(nm:Nat->Option Nm)(st hd:Nat->Bool):Code->Option Nat->Bool
 | .region id _ _,o=>match o with|none=>!hd id|some h=>Nat.beq id h&&(st id&&hd id)
 | .seq a b,o=>okC nm st hd a o&&okC nm st hd b none
 | .cond _ a b,o=>o.isNone&&(okC nm st hd a none&&okC nm st hd b none)
 | .block _ c,o=>okC nm st hd c o
 | .scope c,o=>okC nm st hd c o
 | .loop c,o=>o.isNone&&((qdy nm c).isSome&&(match fk c with|some h=>okC nm st hd c (some h)|none=>false))
 | _,o=>o.isNone
def dnL:List Nat->Option (List Nat)
 | []=>none
 | [n]=>match n with|0=>none|m+1=>some [m]
 | n::m::l=>match dnL (m::l) with|none=>none|some l'=>some (n::l')
def dn(b:Bool)(ns:List Nat):Option (List Nat):=cond b (dnL ns) (some ns)
theorem zk8{b:Bool}{n:Nat}{ns:List Nat}(h:b=true->ns≠[]):dn b (n::ns)=match dn b ns with|none=>none|some l=>some (n::l):=by
 cases b with
 | false=>rfl
 | true=>cases ns with
  | nil=>exact absurd rfl (h rfl)
  | cons m l=>rfl
section
variable {R : Type} {P : Program} {tt : Nat -> Option TI} {nm : Nat -> Option Nm} {B : Nat} {nt : Nat} {cl : Cl} {clK : ClK R} {lf : Nat} {st hd : Nat -> Bool} {J : Nat -> List Nat -> NRes -> Option R}
def Keq(k k':CRes->Option R):Prop:=∀r,r.rd=0->r.wr=0->k r=k' r
theorem mz(hB0:mB nm B=0)(a:Nat):mb (mB nm B) a=0:=by rw[hB0];rfl
theorem zfd(hB0:mB nm B=0)(h:ClEq cl clK){ops:List Oper}{draw:Bool}{x:NRes}{k k':CRes->Option R}(hk:Keq k k'):qdp P tt nm B nt clK ops draw x k=qdp P tt nm B nt clK ops draw x k':=by
 unfold qdp;cases draw with
 | true =>
  simp only[cond_true,zc9 h];cases iany P tt nt cl ops x.fr x.S with
  | none=>rfl
  | some q=>exact hk _ (mz hB0 _) (mz hB0 _)
 | false =>
  simp only[cond_false,qtv h];cases iseq P tt nt cl ops ops x.fr x.S with
  | none=>rfl
  | some q=>exact hk _ (mz hB0 _) (mz hB0 _)
theorem qm3{h:Nat}:∀{c:Code},okC nm st hd c (some h)=true->fk c=some h/\st h=true/\hd h=true/\h∈regs c
 | .region id _ _,hc=>by
  simp only[okC,Bool.and_eq_true] at hc;obtain rfl:=Nat.eq_of_beq_eq_true hc.1;exact⟨rfl,hc.2.1,hc.2.2,by simp[regs]⟩
 | .seq a b,hc=>by
  simp only[okC,Bool.and_eq_true] at hc;obtain⟨h1,h2,h3,h4⟩:=qm3 hc.1;exact⟨by simp only[fk,h1],h2,h3,by simp[regs,h4]⟩
 | .cond _ a b,hc=>by simp[okC] at hc
 | .block _ c,hc=>qm3 (c:=c) hc
 | .scope c,hc=>qm3 (c:=c) hc
 | .loop c,hc=>by simp[okC] at hc
 | .skip,hc=>by simp[okC] at hc
 | .label _,hc=>by simp[okC] at hc
 | .exit _,hc=>by simp[okC] at hc
 | .goto _,hc=>by simp[okC] at hc
 | .ret,hc=>by simp[okC] at hc
 | .refuse _,hc=>by simp[okC] at hc
 | .rangeFunc ..,hc=>by simp[okC] at hc
theorem qrs{h:Nat}:∀{c:Code} {fr:PT IV} {S:IS} {ds:List Nat} {kk:CRes->Option R},okC nm st hd c (some h)=true ->
  qa0 P tt nm B nt clK lf none c fr S ds kk=bd (qck nt (nm h) B fr S ds) fun x=>qbc P tt nm B nt clK lf h c [] x kk
 | .region id ops draw,fr,S,ds,kk,hc=>by
  simp only[okC,Bool.and_eq_true] at hc;obtain rfl:=Nat.eq_of_beq_eq_true hc.1;show bd (qck nt (nm id) B fr S ds) (fun x=>qdp P tt nm B nt clK ops.toList draw x kk)=_;simp only[qbc,Nat.beq_refl,cond_true]
 | .seq a b,fr,S,ds,kk,hc=>by
  simp only[okC,Bool.and_eq_true] at hc;simp only[qa0,qbc,qr7.2 (qm3 hc.1).2.2.2,cond_true];exact qrs (c:=a) hc.1
 | .cond _ a b,fr,S,ds,kk,hc=>by simp[okC] at hc
 | .block _ c,fr,S,ds,kk,hc=>qrs (c:=c) hc
 | .scope c,fr,S,ds,kk,hc=>qrs (c:=c) hc
 | .loop c,fr,S,ds,kk,hc=>by simp[okC] at hc
 | .skip,fr,S,ds,kk,hc=>by simp[okC] at hc
 | .label _,fr,S,ds,kk,hc=>by simp[okC] at hc
 | .exit _,fr,S,ds,kk,hc=>by simp[okC] at hc
 | .goto _,fr,S,ds,kk,hc=>by simp[okC] at hc
 | .ret,fr,S,ds,kk,hc=>by simp[okC] at hc
 | .refuse _,fr,S,ds,kk,hc=>by simp[okC] at hc
 | .rangeFunc ..,fr,S,ds,kk,hc=>by simp[okC] at hc
def qc8(P:Program)(tt:Nat->Option TI)(nm:Nat->Option Nm)(B:Nat)(nt:Nat)(clK:ClK R)(lf:Nat)(hd:Nat->Bool)(k:Nat)(c:Code)(ns:List Nat)(x:NRes)(kk:CRes->Option R):Option R:=match dn (hd k) ns with
 | none=>none
 | some ns'=>qbc P tt nm B nt clK lf k c ns' x kk
def JeqB(P:Program)(tt:Nat->Option TI)(nm:Nat->Option Nm)(B:Nat)(nt:Nat)(clK:ClK R)(lf:Nat)(st hd:Nat->Bool)(J:Nat->List Nat->NRes->Option R)(c:Code)(ps:List Nat)(k':CRes->Option R):Prop :=
 ∀k ns x,k∈regs c->st k=true->(hd k=true->ns≠[])->J k (ps++ns) x=qc8 P tt nm B nt clK lf hd k c ns x k'
theorem q8g{k:Nat}{a b:Code}(n3:∀x∈regs a,∀y∈regs b,x≠y)(hi:k∈regs b):hasR k a=false:=by
 cases hb:hasR k a with
 | false=>rfl
 | true=>exact absurd rfl (n3 k (qr7.1 hb) k hi)
theorem JeqB.fst{a b:Code}{ps:List Nat}{k':CRes->Option R}(hJ:JeqB P tt nm B nt clK lf st hd J (.seq a b) ps k'):JeqB P tt nm B nt clK lf st hd J a ps (fun r=>match r.e with
  | .normal=>qa0 P tt nm B nt clK lf none b r.fr r.S r.ds fun q=>k' (q.or r.rd r.wr)
  | _=>k' r):=fun i ns x hi hs hn=>by
 rw[hJ i ns x (by simp[regs,hi]) hs hn];simp only[qc8,qbc,qr7.2 hi,cond_true];all_goals rfl
theorem JeqB.snd{a b:Code}{ps:List Nat}{k':CRes->Option R}(n3:∀x∈regs a,∀y∈regs b,x≠y)(hJ:JeqB P tt nm B nt clK lf st hd J (.seq a b) ps k'):JeqB P tt nm B nt clK lf st hd J b ps k':=fun i ns x hi hs hn=>by
 rw[hJ i ns x (by simp[regs,hi]) hs hn];simp only[qc8,qbc,q8g n3 hi,cond_false]
theorem JeqB.cond1{c:Operand}{a b:Code}{ps:List Nat}{k':CRes->Option R}(hJ:JeqB P tt nm B nt clK lf st hd J (.cond c a b) ps k'):JeqB P tt nm B nt clK lf st hd J a ps k':=fun i ns x hi hs hn=>by
 rw[hJ i ns x (by simp[regs,hi]) hs hn];simp only[qc8,qbc,qr7.2 hi,cond_true]
theorem JeqB.cond2{c:Operand}{a b:Code}{ps:List Nat}{k':CRes->Option R}(n3:∀x∈regs a,∀y∈regs b,x≠y)(hJ:JeqB P tt nm B nt clK lf st hd J (.cond c a b) ps k'):JeqB P tt nm B nt clK lf st hd J b ps k':=fun i ns x hi hs hn=>by
 rw[hJ i ns x (by simp[regs,hi]) hs hn];simp only[qc8,qbc,q8g n3 hi,cond_false]
theorem JeqB.body{c:Code}{ps:List Nat}{k':CRes->Option R}{m:Nat × Nat}(hm:qdy nm c=some m)(hJ:JeqB P tt nm B nt clK lf st hd J (.loop c) ps k')(n:Nat):JeqB P tt nm B nt clK lf st hd J c (ps++[n]) (fun r=>cond (subm r.rd m.1&&subm r.wr m.2) (match r.e with
    | .normal=>qez (qa0 P tt nm B nt clK lf none c) m.1 m.2 n r.fr r.S r.ds fun r=>k' (mbR (mB nm B) r)
    | e=>k' (mbR (mB nm B) ⟨e,r.fr,r.S,r.ds,m.1,m.2⟩)) none):=fun i ns x hi hs hn=>by
 have:=hJ i (n::ns) x hi hs (fun _=>by simp);rw[show ps++(n::ns)=(ps++[n])++ns by simp] at this;rw[this];simp only[qc8,zk8 hn];cases dn (hd i) ns with
 | none=>rfl
 | some ns'=>simp only[qbc,hm];all_goals rfl
theorem zco(hB0:mB nm B=0)(ops:List Oper)(draw:Bool)(x:NRes)(kk:CRes->Option R):qdp P tt nm B nt clK ops draw (nz x) kk=qdp P tt nm B nt clK ops draw x kk:=by
 unfold qdp nz mbR;rw[hB0];rfl
theorem qfm(hB0:mB nm B=0){k:Nat}:∀(c:Code) (ns:List Nat) (x:NRes) (kk:CRes->Option R),qbc P tt nm B nt clK lf k c ns (nz x) kk=qbc P tt nm B nt clK lf k c ns x kk
 | .region id ops draw,ns,x,kk=>by simp only[qbc,zco hB0]
 | .seq a b,ns,x,kk=>by
  simp only[qbc];rw[qfm hB0 a,qfm hB0 b]
 | .cond c a b,ns,x,kk=>by
  simp only[qbc];rw[qfm hB0 a,qfm hB0 b]
 | .block id c,ns,x,kk=>by simp only[qbc];rw[qfm hB0 c]
 | .scope c,ns,x,kk=>by simp only[qbc];rw[qfm hB0 c]
 | .loop c,ns,x,kk=>by
  cases ns with
  | nil=>rfl
  | cons n ns =>
   simp only[qbc];cases qdy nm c with
   | none=>rfl
   | some m=>simp only;rw[qfm hB0 c]
 | .skip,ns,x,kk=>rfl
 | .label _,ns,x,kk=>rfl
 | .exit _,ns,x,kk=>rfl
 | .goto _,ns,x,kk=>rfl
 | .ret,ns,x,kk=>rfl
 | .refuse _,ns,x,kk=>rfl
 | .rangeFunc ..,ns,x,kk=>rfl
theorem q97(hB0:mB nm B=0){c:Code}{h:Nat}{ps:List Nat}{k':CRes->Option R}{m:Nat × Nat}(hc:okC nm st hd c (some h)=true)(hm:qdy nm c=some m)(hJ:JeqB P tt nm B nt clK lf st hd J (.loop c) ps k')(n:Nat)(fr:PT IV)(S:IS)(ds:List Nat) :
  qrp nm B nt J c (ps++[n]) fr S ds=qez (qa0 P tt nm B nt clK lf none c) m.1 m.2 n fr S ds fun r=>k' (mbR (mB nm B) r):=by
 obtain⟨h1,h2,h3,h4⟩:=qm3 hc;have e:∀x,J h (ps++[n]) (nz x)=qc8 P tt nm B nt clK lf hd h (.loop c) [n] x k':=fun x=>by
  rw[hJ h [n] (nz x) h4 h2 (fun _=>by simp)];unfold qc8;cases dn (hd h) [n] with
  | none=>rfl
  | some ns'=>exact qfm hB0 _ _ _ _
 simp only[qrp,h1,e,qc8,h3,dn,cond_true];cases n with
 | zero =>
  simp only[dnL,qez];cases qck nt (nm h) B fr S ds<;>rfl
 | succ n =>
  simp only[dnL,qbc,hm,qez];rw[qrs hc];all_goals rfl
theorem zat{b:Code}{ps:List Nat}{k k':CRes->Option R}(ihb:∀fr S ds,qb3 P tt nm B nt clK lf st J b ps fr S ds k=qa0 P tt nm B nt clK lf none b fr S ds k')(hk:Keq k k'):Keq (fun r=>match r.e with
  | .normal=>qb3 P tt nm B nt clK lf st J b ps r.fr r.S r.ds k
  | _=>k r) (fun r=>match r.e with
  | .normal=>qa0 P tt nm B nt clK lf none b r.fr r.S r.ds fun q=>k' (q.or r.rd r.wr)
  | _=>k' r):=fun r h1 h2=>by
 have e:(fun q:CRes=>k' (q.or r.rd r.wr))=k':=by funext q;rw[zyg h1 h2]
 cases he:r.e<;>simp only[he]<;>first|exact hk r h1 h2|(rw[e];exact ihb _ _ _)
theorem za3{id:Nat}{k k':CRes->Option R}(hk:Keq k k'):Keq (fun r=>match r.e with
  | .exit id'=>cond (Nat.beq id' id) (k ⟨.normal,r.fr,r.S,r.ds,r.rd,r.wr⟩) (k r)
  | _=>k r) (fun r=>match r.e with
  | .exit id'=>cond (Nat.beq id' id) (k' ⟨.normal,r.fr,r.S,r.ds,r.rd,r.wr⟩) (k' r)
  | _=>k' r):=fun r h1 h2=>by
 cases he:r.e<;>simp only[he]<;>first|exact hk r h1 h2|skip
 rename_i id';cases Nat.beq id' id
 ·exact hk r h1 h2
 ·exact hk _ h1 h2
theorem zag{k k':CRes->Option R}(hk:Keq k k'):Keq (fun r=>match r.e with
  | .goto _=>none
  | _=>k r) (fun r=>match r.e with
  | .goto _=>none
  | _=>k' r):=fun r h1 h2=>by
 cases he:r.e<;>simp only[he]<;>exact hk r h1 h2
theorem q7e(hB0:mB nm B=0)(h:ClEq cl clK):∀(c:Code) (ps:List Nat) (fr:PT IV) (S:IS) (ds:List Nat) (k k':CRes->Option R),(regs c).Nodup->okC nm st hd c none=true->JeqB P tt nm B nt clK lf st hd J c ps k'->Keq k k' ->
  qb3 P tt nm B nt clK lf st J c ps fr S ds k=qa0 P tt nm B nt clK lf none c fr S ds k':=by
 intro c;induction c with
 | skip=>intro ps fr S ds k k' hn hl hJ hk;exact hk _ rfl rfl
 | label l=>intro ps fr S ds k k' hn hl hJ hk;exact hk _ rfl rfl
 | exit id=>intro ps fr S ds k k' hn hl hJ hk;exact hk _ rfl rfl
 | goto l=>intro ps fr S ds k k' hn hl hJ hk;exact hk _ rfl rfl
 | ret=>intro ps fr S ds k k' hn hl hJ hk;exact hk _ rfl rfl
 | refuse _=>intro ps fr S ds k k' hn hl hJ hk;rfl
 | region id ops draw =>
  intro ps fr S ds k k' hn hl hJ hk;simp only[okC,Bool.not_eq_true'] at hl;show bd (qck nt (nm id) B fr S ds) (fun x=>cond (st id) (J id ps (nz x)) (qdp P tt nm B nt clK ops.toList draw x k))=bd (qck nt (nm id) B fr S ds) (fun x=>qdp P tt nm B nt clK ops.toList draw x k');cases qck nt (nm id) B fr S ds with
  | none=>rfl
  | some x =>
   simp only[bd];cases hs:st id with
   | true =>
    have:=hJ id [] (nz x) (by simp[regs]) hs (fun h=>by rw[hl] at h;cases h);rw[List.append_nil] at this;rw[cond_true,this];simp only[qc8,hl,dn,cond_false,qbc,Nat.beq_refl,cond_true];exact zco hB0 _ _ _ _
   | false=>rw[cond_false];exact zfd hB0 h hk
 | seq a b iha ihb =>
  intro ps fr S ds k k' hn hl hJ hk;simp only[regs,List.nodup_append] at hn;obtain⟨n1,n2,n3⟩:=hn;simp only[okC,Bool.and_eq_true] at hl;exact iha ps fr S ds _ _ n1 hl.1 hJ.fst (zat (fun fr S ds=>ihb ps fr S ds k k' n2 hl.2 (hJ.snd n3) hk) hk)
 | cond c a b iha ihb =>
  intro ps fr S ds k k' hn hl hJ hk;simp only[regs,List.nodup_append] at hn;obtain⟨n1,n2,n3⟩:=hn;simp only[okC,Bool.and_eq_true] at hl;simp only[qb3,qa0];cases evo nt fr c with
  | none=>rfl
  | some v =>
   cases v<;>try rfl
   simp only;rw[iha ps fr S ds k k' n1 hl.2.1 hJ.cond1 hk,ihb ps fr S ds k k' n2 hl.2.2 (hJ.cond2 n3) hk]
 | block id c ih =>
  intro ps fr S ds k k' hn hl hJ hk;exact ih ps fr S ds _ _ hn hl (fun i ns x hi hs hne=>hJ i ns x hi hs hne) (za3 hk)
 | scope c ih =>
  intro ps fr S ds k k' hn hl hJ hk;exact ih ps fr S ds _ _ hn hl (fun i ns x hi hs hne=>hJ i ns x hi hs hne) (zag hk)
 | loop c ih =>
  intro ps fr S ds k k' hn hl hJ hk;simp only[okC,Bool.and_eq_true,Option.isSome_iff_exists] at hl;obtain⟨_,⟨m,hm⟩,hl⟩:=hl;split at hl
  ·rename_i i hi;simp only[qb3,qa0,hm];exact q97 hB0 hl hm hJ _ _ _ _
  ·cases hl
 | rangeFunc g ps' assign body ih1 ih2 =>
  intro ps fr S ds k k' hn hl hJ hk;show qa0 P tt nm B nt clK lf none (.rangeFunc g ps' assign body) fr S ds k=_;rw[qe3 h,qe3 h];cases hq:qam P tt nm B nt cl lf none (.rangeFunc g ps' assign body) fr S ds with
  | none=>rfl
  | some r =>
   simp only[qam] at hq;obtain⟨r0,_,rfl⟩:=qhp hq;exact hk _ (mz hB0 _) (mz hB0 _)
theorem z2s(hB0:mB nm B=0)(h:ClEq cl clK){i0:Nat}:∀(c:Code) (o:Option Nat) (ps ns:List Nat) (x:NRes) (k k':CRes->Option R),(regs c).Nodup->okC nm st hd c o=true->JeqB P tt nm B nt clK lf st hd J c ps k'->Keq k k' ->
  qcc P tt nm B nt clK lf st J i0 c ps ns x k=qbc P tt nm B nt clK lf i0 c ns x k':=by
 intro c;induction c with
 | skip=>intros;rfl
 | label l=>intros;rfl
 | exit id=>intros;rfl
 | goto l=>intros;rfl
 | ret=>intros;rfl
 | refuse _=>intros;rfl
 | region id ops draw =>
  intro o ps ns x k k' hn hl hJ hk;simp only[qcc,qbc];rw[zfd hB0 h hk]
 | seq a b iha ihb =>
  intro o ps ns x k k' hn hl hJ hk;simp only[regs,List.nodup_append] at hn;obtain⟨n1,n2,n3⟩:=hn;simp only[okC,Bool.and_eq_true] at hl;simp only[qcc,qbc];rw[ihb none ps ns x k k' n2 hl.2 (hJ.snd n3) hk];rw[iha o ps ns x _ _ n1 hl.1 hJ.fst (zat (fun fr S ds=>q7e hB0 h b ps fr S ds k k' n2 hl.2 (hJ.snd n3) hk) hk)];all_goals rfl
 | cond c a b iha ihb =>
  intro o ps ns x k k' hn hl hJ hk;simp only[regs,List.nodup_append] at hn;obtain⟨n1,n2,n3⟩:=hn;simp only[okC,Bool.and_eq_true] at hl;simp only[qcc,qbc];rw[iha none ps ns x k k' n1 hl.2.1 hJ.cond1 hk,ihb none ps ns x k k' n2 hl.2.2 (hJ.cond2 n3) hk]
 | block id c ih =>
  intro o ps ns x k k' hn hl hJ hk;exact ih o ps ns x _ _ hn hl (fun i ns x hi hs hne=>hJ i ns x hi hs hne) (za3 hk)
 | scope c ih =>
  intro o ps ns x k k' hn hl hJ hk;exact ih o ps ns x _ _ hn hl (fun i ns x hi hs hne=>hJ i ns x hi hs hne) (zag hk)
 | loop c ih =>
  intro o ps ns x k k' hn hl hJ hk;cases ns with
  | nil=>rfl
  | cons n ns =>
  simp only[okC,Bool.and_eq_true,Option.isSome_iff_exists] at hl;obtain⟨_,⟨m,hm⟩,hl⟩:=hl;split at hl
  ·rename_i i hi;simp only[qcc,qbc,hm];refine ih (some i) (ps++[n]) ns x _ _ hn hl (hJ.body hm n) (fun r h1 h2=>?_);cases (subm r.rd m.1&&subm r.wr m.2) with
   | false=>rfl
   | true =>
    simp only[cond_true];cases r.e<;>simp only<;>first|exact q97 hB0 hl hm hJ _ _ _ _|exact hk _ (mz hB0 _) (mz hB0 _)
  ·cases hl
 | rangeFunc g ps' assign body ih1 ih2=>intros;rfl

def atNB(P:Program)(tt:Nat->Option TI)(nm:Nat->Option Nm)(B:Nat)(nt:Nat)(body:Code)(clK:ClK R)(lf:Nat)(hd:Nat->Bool)(kk:CRes->Option R)(k:Nat)(ns:List Nat)(x:NRes):Option R :=
 qc8 P tt nm B nt clK lf hd k body ns x kk
theorem q7m(hB0:mB nm B=0){body:Code}{kk:CRes->Option R}(h:ClEq cl clK)(hn:(regs body).Nodup)(hl:okC nm st hd body none=true)(k:Nat)(ns ns':List Nat)(hd':dn (hd k) ns=some ns')(x:NRes) :
  atNB P tt nm B nt body clK lf hd kk k ns x=qcc P tt nm B nt clK lf st (atNB P tt nm B nt body clK lf hd kk) k body [] ns' x kk:=by
 unfold atNB;simp only[qc8,hd'];exact(z2s hB0 h body none [] ns' x _ _ hn hl (fun i ns x _ _ _=>rfl) (fun _ _ _=>rfl)).symm
theorem q4s{body:Code}{kk:CRes->Option R}(k:Nat)(ns:List Nat)(hd':dn (hd k) ns=none)(x:NRes):atNB P tt nm B nt body clK lf hd kk k ns x=none:=by
 unfold atNB;simp only[qc8,hd']
theorem zb5(hB0:mB nm B=0){body:Code}{kk:CRes->Option R}(h:ClEq cl clK)(hn:(regs body).Nodup)(hl:okC nm st hd body none=true)(fr:PT IV)(S:IS) :
  qa0 P tt nm B nt clK lf none body fr S [] kk=qb3 P tt nm B nt clK lf st (atNB P tt nm B nt body clK lf hd kk) body [] fr S [] kk :=
 (q7e hB0 h body [] fr S [] _ _ hn hl (fun i ns x _ _ _=>rfl) (fun _ _ _=>rfl)).symm
end
theorem mB_z(nm:Nat->Option Nm):mB nm 0=0:=by unfold mB;cases frzF nm<;>rfl
def qat{R:Type}(P:Program)(tt:Nat->Option TI)(nm:Nat->Option Nm)(nt:Nat)(cl:ClK R)(lf:Nat)(st:Nat->Bool)(J:Nat->List Nat->NRes->Option R)(c:Code)(ps:List Nat):CdK R:=qb3 P tt nm 0 nt cl lf st J c ps
def qbu{R:Type}(P:Program)(tt:Nat->Option TI)(nm:Nat->Option Nm)(nt:Nat)(cl:ClK R)(lf:Nat)(st:Nat->Bool)(J:Nat->List Nat->NRes->Option R)(k:Nat)(c:Code)(ps ns:List Nat)(x:NRes)(kk:CRes->Option R):Option R:=qcc P tt nm 0 nt cl lf st J k c ps ns x kk
section
variable {P : Program} {tt : Nat -> Option TI} {nm : Nat -> Option Nm} {lf : Nat} {st hd : Nat -> Bool} {cl : Cl}
def atN(P:Program)(tt:Nat->Option TI)(nm:Nat->Option Nm)(fi:FI)(s:Sm)(clK:ClK (ElR s.rts))(lf:Nat)(hd:Nat->Bool)(k:Nat)(ns:List Nat)(x:NRes):Option (ElR s.rts) :=
 atNB P tt nm 0 fi.nt fi.body clK lf hd (qak tt fi s) k ns x
theorem qbl{fi:FI}{s:Sm}{clK:ClK (ElR s.rts)}(h:ClEq cl clK)(hn:(regs fi.body).Nodup)(hl:okC nm st hd fi.body none=true)(k:Nat)(ns ns':List Nat)(hd':dn (hd k) ns=some ns')(x:NRes) :
  atN P tt nm fi s clK lf hd k ns x=qbu P tt nm fi.nt clK lf st (atN P tt nm fi s clK lf hd) k fi.body [] ns' x (qak tt fi s):=q7m (mB_z nm) h hn hl k ns ns' hd' x
theorem qbm{fi:FI}{s:Sm}{clK:ClK (ElR s.rts)}(k:Nat)(ns:List Nat)(hd':dn (hd k) ns=none)(x:NRes):atN P tt nm fi s clK lf hd k ns x=none:=q4s k ns hd' x
theorem zld{fi:FI}{s:Sm}{clK:ClK (ElR s.rts)}(h:ClEq cl clK)(hn:(regs fi.body).Nodup)(hl:okC nm st hd fi.body none=true)(fr:PT IV) :
  qa0 P tt nm 0 fi.nt clK lf none fi.body fr S0 [] (qak tt fi s)=qat P tt nm fi.nt clK lf st (atN P tt nm fi s clK lf hd) fi.body [] fr S0 [] (qak tt fi s):=zb5 (mB_z nm) h hn hl fr S0
end

def qa2{α R:Type}(T:(α->Option R)->α->Option R):Nat->α->Option R
 | 0,_=>none
 | n+1,a=>T (qa2 T n) a
end Go.Jx
end

section
namespace Go.Jx
open Go Go.Sx Go.RowKit
universe u

def idxO{α:Type}(p:α->Option Bool):List α->Nat->Option Int
 | [],_=>some (-1)
 | x::l,i=>match p x with
  | none=>none
  | some b=>cond b (some (Int.ofNat i)) (idxO p l (i+1))
theorem zef{α:Type}{p:α->Option Bool}{q:α->Bool}:∀{l:List α} {i:Nat},(∀x∈l,p x=some (q x))->idxO p l i=some (match l.findIdx? q with|some j=>Int.ofNat (i+j)|none=>-1)
 | [],i,h=>rfl
 | x::l,i,h=>by
  unfold idxO;rw[h x List.mem_cons_self,List.findIdx?_cons];cases hq:q x with
  | true=>rfl
  | false =>
   simp only[cond_false];rw[zef fun y hy=>h y (List.mem_cons_of_mem _ hy)];cases l.findIdx? q with
   | none=>rfl
   | some j=>exact congrArg (fun n=>some (Int.ofNat n)) (show i+1+j=i+(j+1) by omega)
def below(N:Nat):Nat:=2 ^ N-1
def ansB(m:Nat)(r:Res):Option Bool:=match r.v with
 | .bool b=>cond (Nat.beq r.wr 0&&subm r.rd m) (some b) none
 | _=>none
def idxF(c:TC)(cl:Cl)(vs:List IV)(S:IS):Option Res:=match vs with
 | [.lst c' l,.fn g caps]=>match qbp c' c l with
  | none=>none
  | some l=>match idxO (fun x=>ob (cl (.fn g) (asIV c x::caps) S) (ansB (below S.next))) l 0 with
   | none=>none
   | some i=>some ⟨.int .i64 i,S,below S.next,0⟩
 | _=>none
def idxK(c:TC)(clP:ClP)(R:Type)(vs:List IV)(S:IS)(kk:Res->Option R):Option R:=match vs with
 | [.lst c' l,.fn g caps]=>match qbp c' c l with
  | none=>none
  | some l=>match idxO (fun x=>clP Bool (.fn g) (asIV c x::caps) S (ansB (below S.next))) l 0 with
   | none=>none
   | some i=>kk ⟨.int .i64 i,S,below S.next,0⟩
 | _=>none
theorem zkh(c:TC)(cl:Cl)(clP:ClP)(h:∀R,ClEq cl (clP R))(R:Type)(vs:List IV)(S:IS)(kk:Res->Option R):idxK c clP R vs S kk=ob (idxF c cl vs S) kk:=by
 unfold idxK idxF;split
 ·rename_i c' l g caps;cases qbp c' c l with
  | none=>rfl
  | some l =>
   simp only[h Bool _ _ _ _];cases idxO (fun x=>ob (cl (.fn g) (asIV c x::caps) S) (ansB (below S.next))) l 0<;>rfl
 ·rfl
def qpa(c:TC):Hx:=⟨idxF c,idxK c,zkh c⟩
theorem quh{c:TC}{cl:Cl}{vs:List IV}{S:IS}{r:Res}(h:idxF c cl vs S=some r):∃c' l0 g caps l i,vs=[.lst c' l0,.fn g caps]/\qbp c' c l0=some l/\idxO (fun x=>ob (cl (.fn g) (asIV c x::caps) S) (ansB (below S.next))) l 0=some i/\r=⟨.int .i64 i,S,below S.next,0⟩:=by
 unfold idxF at h;split at h
 ·rename_i c' l g caps;cases hr:qbp c' c l with
  | none=>rw[hr] at h;cases h
  | some l2 =>
   rw[hr] at h;simp only at h;split at h<;>cases h;rename_i i hi;exact⟨_,_,_,_,_,_,rfl,hr,hi,rfl⟩
 ·cases h

def tup(ss:List Nat)(r:CRes):IEx × List IV × IS × List Nat × Nat × Nat:=(r.e,ss.map (slot r.fr),r.S,r.ds,r.rd,r.wr)
theorem qso(B:Nat):mb B 0=0:=by unfold mb;cases Nat.beq B 0<;>rfl
theorem q1g(a:Nat):Nat.lor a 0=a:=Nat.or_zero a
theorem z27(a:Nat):Nat.lor 0 a=a:=Nat.zero_or a
theorem qub{P:Program}{tt:Nat->Option TI}{nm:Nat->Option Nm}{B nt lf:Nat}{cl:Cl}{c:Code}{fr:PT IV}{S:IS}{ds:List Nat}{ss:List Nat}{y:IEx × List IV × IS × List Nat × Nat × Nat}
  (h:qa0 P tt nm B nt (fun t vs S kk=>ob (cl t vs S) kk) lf none c fr S ds (fun r=>some (tup ss r))=some y):∃r,qam P tt nm B nt cl lf none c fr S ds=some r/\tup ss r=y:=by
 rw[qe3 (cl:=cl) (fun _ _ _ _=>rfl)] at h;cases hr:qam P tt nm B nt cl lf none c fr S ds with
 | none=>rw[hr] at h;cases h
 | some r=>rw[hr] at h;cases h;exact⟨r,rfl,rfl⟩
theorem ze0{fr fr':PT IV}:∀{l:List Nat} {r:PT IV},(∀t∈l,slot fr t=slot fr' t)->qke fr l r=qke fr' l r
 | [],r,h=>rfl
 | t::l,r,h=>by
  unfold qke;rw[h t List.mem_cons_self];exact ze0 fun k hk=>h k (List.mem_cons_of_mem _ hk)
theorem qk9{P:Program}{tt:Nat->Option TI}{nm:Nat->Option Nm}{B nt lf:Nat}{cl:Cl}{m:Nm}{h:Nat}(hm:nm h=some m)(hf:m.fo=true){fr fr':PT IV}(hs:∀t∈m.keep,slot fr t=slot fr' t) :
  ∀{c:Code} {S:IS} {ds:List Nat},okC nm (fun k=>Nat.beq k h) (fun k=>Nat.beq k h) c (some h)=true->qam P tt nm B nt cl lf none c fr S ds=qam P tt nm B nt cl lf none c fr' S ds
 | .region id ops draw,S,ds,hc=>by
  simp only[okC,Bool.and_eq_true] at hc;obtain rfl:=Nat.eq_of_beq_eq_true hc.1;simp only[qam,hm,qck,hf,cond_true,ze0 hs]
 | .seq a b,S,ds,hc=>by
  simp only[okC,Bool.and_eq_true] at hc;simp only[qam];rw[qk9 hm hf hs (c:=a) hc.1]
 | .cond _ a b,S,ds,hc=>by simp[okC] at hc
 | .block _ c,S,ds,hc=>by
  simp only[qam];rw[qk9 hm hf hs (c:=c) hc]
 | .scope c,S,ds,hc=>by
  simp only[qam];rw[qk9 hm hf hs (c:=c) hc]
 | .loop c,S,ds,hc=>by simp[okC] at hc
 | .skip,S,ds,hc=>by simp[okC] at hc
 | .label _,S,ds,hc=>by simp[okC] at hc
 | .exit _,S,ds,hc=>by simp[okC] at hc
 | .goto _,S,ds,hc=>by simp[okC] at hc
 | .ret,S,ds,hc=>by simp[okC] at hc
 | .refuse _,S,ds,hc=>by simp[okC] at hc
 | .rangeFunc ..,S,ds,hc=>by simp[okC] at hc
def nmI(k:Nat)(keep:List Nat)(mr:Nat):Nat->Option Nm:=fun j=>cond (Nat.beq j k) (some ⟨keep,[],[],[],[],mr,0,true⟩) none
theorem mB_I(keep:List Nat)(mr B:Nat):mB (nmI 2 keep mr) B=B:=rfl
def frI(c:TC)(l:List (El c))(g:Nat)(caps:List IV)(i:Int):PT IV:=(((PT.leaf.set (.lst c l) 0).set (.fn g caps) 1).set (.int .i64 (Int.ofNat l.length)) 7).set (.int .i64 i) 8
def frA(c:TC)(l:List (El c))(g:Nat)(caps:List IV):PT IV:=(qal [.lst c l,.fn g caps] 0 .leaf).set (.int .i64 0) 4
def frB(c:TC)(l:List (El c))(g:Nat)(caps:List IV):PT IV:=(((frA c l g caps).set (.lst c l) 6).set (.int .i64 (Int.ofNat l.length)) 7).set (.int .i64 0) 8
structure IdxFacts (P:Program) (tt:Nat->Option TI) (c:TC) (fi:FI) (A B L C:Code):Prop where
 body:fi.body=.seq A (.seq (.seq B (.block 0 (.loop L))) C)
 two:Nat.ble 2 fi.nt=true
 head:∀mr,okC (nmI 2 [0,1,7,8] mr) (fun k=>Nat.beq k 2) (fun k=>Nat.beq k 2) L (some 2)=true
 a:∀(R:Type) (clK:ClK R) (B0 mr lf:Nat) (l:List (El c)) (g:Nat) (caps:List IV) (S:IS) (kk:CRes->Option R),qa0 P tt (nmI 2 [0,1,7,8] mr) B0 fi.nt clK lf none A (qal [.lst c l,.fn g caps] 0 .leaf) S [] kk=kk ⟨.normal,frA c l g caps,S,[],mb B0 0,mb B0 0⟩
 b:∀(R:Type) (clK:ClK R) (B0 mr lf:Nat) (l:List (El c)) (g:Nat) (caps:List IV) (S:IS) (kk:CRes->Option R),qa0 P tt (nmI 2 [0,1,7,8] mr) B0 fi.nt clK lf none B (frA c l g caps) S [] kk=kk ⟨.normal,frB c l g caps,S,[],mb B0 0,mb B0 0⟩
 l:∀(R:Type) (clK:ClK R) (B0 mr lf:Nat) (l:List (El c)) (g:Nat) (caps:List IV) (S:IS) (i:Int) (kk:_->Option R),qa0 P tt (nmI 2 [0,1,7,8] mr) B0 fi.nt clK lf none L (frI c l g caps i) S [] (fun r=>kk (tup [0,1,4,7,8] r)) =
  cond (iltI i (Int.ofNat l.length)) (match jget l i with
   | none=>none
   | some x=>clK (.fn g) (asIV c x::caps) S fun r=>match r.v with
    | .bool b=>cond b
     (kk (.ret,[.lst c l,.fn g caps,.int .i64 i,.int .i64 (Int.ofNat l.length),.int .i64 i],r.S,[],(mb B0 0).lor (Nat.lor 0 ((mb B0 0).lor ((mb B0 (Nat.lor 0 (Nat.lor 0 (Nat.lor 0 (Nat.lor 0 (Nat.lor 0 (r.rd.lor 0))))))).lor ((mb B0 0).lor 0)))),
      (mb B0 0).lor (Nat.lor 0 ((mb B0 0).lor ((mb B0 (Nat.lor 0 (Nat.lor 0 (Nat.lor 0 (Nat.lor 0 (Nat.lor 0 (Nat.lor 0 (r.wr.lor 0)))))))).lor ((mb B0 0).lor 0))))))
     (kk (.normal,[.lst c l,.fn g caps,.unk,.int .i64 (Int.ofNat l.length),.int .i64 (IntKind.i64.wrap (i+1))],r.S,[],(mb B0 0).lor (Nat.lor 0 (((mb B0 0).lor ((mb B0 (Nat.lor 0 (Nat.lor 0 (Nat.lor 0 (Nat.lor 0 (Nat.lor 0 (r.rd.lor 0))))))).lor 0)).lor (mb B0 0))),
      (mb B0 0).lor (Nat.lor 0 (((mb B0 0).lor ((mb B0 (Nat.lor 0 (Nat.lor 0 (Nat.lor 0 (Nat.lor 0 (Nat.lor 0 (Nat.lor 0 (r.wr.lor 0)))))))).lor 0)).lor (mb B0 0)))))
    | _=>none)
   (kk (.exit 0,[.lst c l,.fn g caps,.unk,.int .i64 (Int.ofNat l.length),.int .i64 i],S,[],(mb B0 0).lor 0,(mb B0 0).lor 0))
 e:∀(R:Type) (clK:ClK R) (B0 mr lf:Nat) (fr:PT IV) (S:IS) (kk:CRes->Option R),qa0 P tt (nmI 2 [0,1,7,8] mr) B0 fi.nt clK lf none C fr S [] kk=kk ⟨.ret,fr.set (.int .i64 (-1)) 4,S,[],(mb B0 0).lor 0,(mb B0 0).lor 0⟩
 res:fi.res=[.tmp 4]
 nt4:Nat.blt 4 fi.nt=true
 lm:∀mr,qdy (nmI 2 [0,1,7,8] mr) L=some (mr,0)
variable {P : Program} {tt : Nat -> Option TI} {c : TC} {fi : FI} {A B L C : Code}
theorem qpg(a:Nat):subm 0 a=true:=by unfold subm;rw[Nat.zero_or];exact Nat.beq_refl a
theorem ztq{B0 a m:Nat}(h:subm a m=true):subm (mb B0 a) m=true:=by
 unfold mb;cases Nat.beq B0 0
 ·exact h
 ·exact qpg m
theorem zml(F:IdxFacts P tt c fi A B L C){cl:Cl}(hcalm:Calm cl){l:List (El c)}(hl:l.length*bsz c<=140737488355328){g:Nat}{caps:List IV}{S:IS}{i:Int}{lf:Nat}:∀(rest pre:List (El c)) (fuel:Nat) (fr:PT IV),
  l=pre++rest->rest.length<fuel->(slot fr 0=.lst c l/\slot fr 1=.fn g caps/\slot fr 7=.int .i64 (Int.ofNat l.length)/\slot fr 8=.int .i64 (Int.ofNat pre.length)) ->
  idxO (fun x=>ob (cl (.fn g) (asIV c x::caps) S) (ansB (below S.next))) rest pre.length=some i ->
  ∃r,qc4 (qam P tt (nmI 2 [0,1,7,8] (below S.next)) S.next fi.nt cl lf none L) (below S.next) 0 fuel fr S []=some r/\r.S=S/\r.ds=[]/\r.wr=0/\((r.e=.ret/\slot r.fr 4=.int .i64 i)\/(r.e=.exit 0/\i=-1)):=by
 intro rest;induction rest with
 | nil =>
  intro pre fuel fr hp hf hs hi;cases fuel with
  | zero=>exact absurd hf (by simp)
  | succ n =>
  cases hi;have e1:=qk9 (P:=P) (tt:=tt) (B:=S.next) (nt:=fi.nt) (lf:=lf) (cl:=cl) (h:=2) (m:=⟨[0,1,7,8],[],[],[],[],below S.next,0,true⟩) rfl rfl (fr:=fr) (fr':=frI c l g caps (Int.ofNat pre.length)) (by
   intro t ht;simp only[List.mem_cons,List.not_mem_nil,or_false] at ht;rcases ht with rfl|rfl|rfl|rfl
   ·exact hs.1
   ·exact hs.2.1
   ·exact hs.2.2.1
   ·exact hs.2.2.2) (c:=L) (S:=S) (ds:=[]) (F.head _)
  have e2:=F.l (IEx × List IV × IS × List Nat × Nat × Nat) (fun t vs S kk=>ob (cl t vs S) kk) S.next (below S.next) lf l g caps S (Int.ofNat pre.length) some
  rw[show iltI (Int.ofNat pre.length) (Int.ofNat l.length)=false by rw[qbs,hp];simp,cond_false] at e2;obtain⟨r,hr,ht⟩:=qub e2;simp only[tup,Prod.mk.injEq,qso,q1g] at ht;obtain⟨t1,t2,t3,t4,t5,t6⟩:=ht;refine⟨⟨.exit 0,r.fr,S,[],below S.next,0⟩,?_,rfl,rfl,rfl,.inr ⟨rfl,rfl⟩⟩;unfold qc4;rw[e1];have hr':qam P tt (nmI 2 [0,1,7,8] (below S.next)) S.next fi.nt cl lf none L (frI c l g caps (Int.ofNat pre.length)) S []=some r:=hr
  simp only[hr',t5,t6,qpg,Bool.and_self,cond_true,t1,t3,t4]
 | cons x rest ih =>
  intro pre fuel fr hp hf hs hi;cases fuel with
  | zero=>exact absurd hf (by simp)
  | succ n =>
  have e1:=qk9 (P:=P) (tt:=tt) (B:=S.next) (nt:=fi.nt) (lf:=lf) (cl:=cl) (h:=2) (m:=⟨[0,1,7,8],[],[],[],[],below S.next,0,true⟩) rfl rfl (fr:=fr) (fr':=frI c l g caps (Int.ofNat pre.length)) (by
   intro t ht;simp only[List.mem_cons,List.not_mem_nil,or_false] at ht;rcases ht with rfl|rfl|rfl|rfl
   ·exact hs.1
   ·exact hs.2.1
   ·exact hs.2.2.1
   ·exact hs.2.2.2) (c:=L) (S:=S) (ds:=[]) (F.head _)
  have e2:=F.l (IEx × List IV × IS × List Nat × Nat × Nat) (fun t vs S kk=>ob (cl t vs S) kk) S.next (below S.next) lf l g caps S (Int.ofNat pre.length) some
  have hlen:l.length=pre.length+(rest.length+1):=by rw[hp];simp
  rw[show iltI (Int.ofNat pre.length) (Int.ofNat l.length)=true by rw[qbs];simp;omega,cond_true,
   show jget l (Int.ofNat pre.length)=some x by unfold jget;rw[if_pos (by simp)];rw[hp];simp] at e2
  simp only at e2;unfold idxO at hi;cases hc:cl (.fn g) (asIV c x::caps) S with
  | none=>rw[hc] at hi;cases hi
  | some r0 =>
  rw[hc] at hi e2;simp only[ob] at hi e2;cases hv:r0.v<;>simp only[ansB,hv] at hi<;>try (cases hi;done)
  rename_i b;cases hmk:(Nat.beq r0.wr 0&&subm r0.rd (below S.next)) with
  | false=>rw[hmk] at hi;cases hi
  | true =>
  rw[hmk] at hi;simp only[Bool.and_eq_true] at hmk;have hw0:r0.wr=0:=Nat.eq_of_beq_eq_true hmk.1;have hS:r0.S=S:=hcalm _ _ _ _ hc hw0 (by rw[hv];rfl);simp only[hv,hS,hw0,qso,q1g,z27] at e2;simp only[cond_true] at hi;have hsm:subm (mb S.next r0.rd) (below S.next)=true:=ztq hmk.2;cases b with
  | true =>
   cases hi;rw[cond_true] at e2;obtain⟨r,hr,ht⟩:=qub e2;simp only[tup,Prod.mk.injEq,List.map_cons,List.cons.injEq] at ht;obtain⟨t1,t2,t3,t4,t5,t6⟩:=ht;refine⟨⟨.ret,r.fr,S,[],below S.next,0⟩,?_,rfl,rfl,rfl,.inl ⟨rfl,t2.2.2.1⟩⟩;unfold qc4;rw[e1];have hr':qam P tt (nmI 2 [0,1,7,8] (below S.next)) S.next fi.nt cl lf none L (frI c l g caps (Int.ofNat pre.length)) S []=some r:=hr
   simp only[hr',t5,t6,hsm,qpg,Bool.and_self,cond_true,t1,t3,t4]
  | false =>
   rw[cond_false] at e2 hi;obtain⟨r,hr,ht⟩:=qub e2;simp only[tup,Prod.mk.injEq,List.map_cons,List.cons.injEq] at ht;obtain⟨t1,t2,t3,t4,t5,t6⟩:=ht;have hw:IntKind.i64.wrap (Int.ofNat pre.length+1)=Int.ofNat (pre++[x]).length:=by
    rw[show Int.ofNat (pre++[x]).length=Int.ofNat pre.length+1 by simp];refine qfx ?_;have hb:1<=bsz c:=qm0 c;have:l.length*1<=l.length*bsz c:=Nat.mul_le_mul_left _ hb;simp;omega
   obtain⟨q,q1,q2⟩:=ih (pre++[x]) n r.fr (by rw[hp];simp) (by simp at hf;omega) ⟨t2.1,t2.2.1,t2.2.2.2.1,by rw[<- hw];exact t2.2.2.2.2.1⟩ (by rw[show (pre++[x]).length=pre.length+1 by simp];exact hi);refine⟨q,?_,q2⟩;unfold qc4;rw[e1];have hr':qam P tt (nmI 2 [0,1,7,8] (below S.next)) S.next fi.nt cl lf none L (frI c l g caps (Int.ofNat pre.length)) S []=some r:=hr
   simp only[hr',t5,t6,hsm,qpg,Bool.and_self,cond_true,t1,t3,t4];exact q1
where qm0:∀c:TC,1<=bsz c
 | .int k=>by cases k<;>simp [bsz]
 | .bool=>by simp[bsz]
 | .str=>by simp[bsz]
 | .list _=>by simp[bsz]
 | .two a b=>by have:=qm0 a;simp only[bsz];omega

theorem runK{nm:Nat->Option Nm}{B nt lf:Nat}{cl:Cl}{c:Code}{fr:PT IV}{S:IS}{ds:List Nat}{y:CRes}
  (h:qa0 P tt nm B nt (fun t vs S kk=>ob (cl t vs S) kk) lf none c fr S ds some=some y):qam P tt nm B nt cl lf none c fr S ds=some y:=by
 rw[qe3 (cl:=cl) (fun _ _ _ _=>rfl)] at h;cases hr:qam P tt nm B nt cl lf none c fr S ds with
 | none=>rw[hr] at h;cases h
 | some r=>rw[hr] at h;cases h;rfl
theorem zg2{T:Nat->Prop}{n a:Nat}(h:tin T (below n)):tin T (a % 2 ^ n):=fun j hj=>h j (by
 rw[Nat.testBit_mod_two_pow] at hj;simp only[Bool.and_eq_true,decide_eq_true_eq] at hj;unfold below;rw[Nat.testBit_two_pow_sub_one];simpa using hj.1)
theorem zf7{E:Env}{c:TC}{l:List (El c)}{u:Value}(h:VR E (.lst c l) u):l.length*bsz c<=140737488355328:=by
 cases h with
 | lst0 hc=>simp
 | lst us h1 h2 h3 hb hh hc hu=>exact h3
theorem q4t{f:Nat}{nm:Nat->Option Nm}{lf:Nat}{cl:Cl}{vs:List IV}{S:IS}{fr:PT IV}{e:IEx}{rd:Nat}{k:IntKind}{i:Int}{t:Nat}(hz:frzF nm=false)(hm:P.follows .mixedOrders=true)(htt:TT P tt)(hfi:FIok P f fi)(hcl:ClOK P cl)(hfr:ClFr cl)
  (hb:Nat.ble vs.length fi.nt=true) (hr:qam P tt nm S.next fi.nt cl lf none fi.body (qal vs 0 .leaf) S []=some ⟨e,fr,S,[],rd,0⟩) (he:e.leaves=true) (hres:fi.res=[.tmp t]) (hnt:Nat.blt t fi.nt=true) (hs:slot fr t=.int k i)
  {T:TW} {E:Env} {us:List Value} (p:Pre T E S) (hrd:tin T.r (below S.next)) (hv:VRs E vs us):qah P f/\CallsIn Fence.wide 0 P f us.toArray E.w (RetE T E S ⟨.int k i,S,below S.next,0⟩):=by
 refine q8e (fi:=fi) (r:=⟨.int k i,S,(rd ||| 0) % 2 ^ S.next,0⟩) hz hm htt hfi hcl hfr hb hr he ?_ p (zg2 hrd) (fun j hj=>by simp at hj) hv;have e1:qfy ([]:List Nat) S=some (S,0):=rfl;simp only[qeh,e1,hres,ires,hnt,cond_true,hs];simp only[tupI,Nat.or_self,igc,Nat.zero_mod,low2,low0,Nat.beq_refl,Bool.and_self,cond_true]
theorem qqb{f:Nat}(F:IdxFacts P tt c fi A B L C)(hm:P.follows .mixedOrders=true)(htt:TT P tt)(hfi:FIok P f fi):HxOK P f (idxF c):=by
 refine⟨fun cl hcl hfr hcalm vs S r h T E us p hrd hwr hv=>?_,fun cl hfr vs S r h=>?_,fun cl hcalm vs S r h _ _=>?_⟩
 ·obtain⟨c',l1,g,caps,l0,i,rfl,hrc,hi,rfl⟩:=quh h;obtain⟨rfl,rfl⟩:=qcl hrc;have hlen:l0.length*bsz c'<=140737488355328:=by
   obtain⟨u,us,_,a1,_⟩:=hv.inv;exact zf7 a1
  have ha:=runK (F.a CRes (fun t vs S kk=>ob (cl t vs S) kk) S.next (below S.next) (l0.length+1) l0 g caps S some);have hb:=runK (F.b CRes (fun t vs S kk=>ob (cl t vs S) kk) S.next (below S.next) (l0.length+1) l0 g caps S some);obtain⟨r,hr,hS,hds,hw,hcase⟩:=zml F hcalm hlen (lf:=l0.length+1) l0 [] (l0.length+1) (frB c' l0 g caps) rfl (Nat.lt_succ_self _) ⟨rfl,rfl,rfl,rfl⟩ hi;obtain⟨re,rfr,rS,rds,rrd,rwr⟩:=r;simp only at hS hds hw hcase;subst hS;subst hds;subst hw;rcases hcase with ⟨he,hs⟩|⟨he,hi2⟩
  ·subst he;refine q4t (vs:=[.lst c' l0,.fn g caps]) (nm:=nmI 2 [0,1,7,8] (below rS.next)) (lf:=l0.length+1) (fr:=rfr) (e:=.ret) (k:=.i64) (i:=i) (t:=4) (rd:=mb rS.next rrd) rfl hm htt hfi hcl hfr F.two ?_ rfl F.res F.nt4 hs p hrd hv;rw[F.body];simp only[qam,ha,hb,F.lm,hr,mbO,mbR,mB_I,qso,CRes.or,Nat.zero_or]
  ·subst he;subst hi2;have hc:=runK (F.e CRes (fun t vs S kk=>ob (cl t vs S) kk) rS.next (below rS.next) (l0.length+1) rfr rS some);refine q4t (vs:=[.lst c' l0,.fn g caps]) (nm:=nmI 2 [0,1,7,8] (below rS.next)) (lf:=l0.length+1) (fr:=rfr.set (.int .i64 (-1)) 4) (e:=.ret) (k:=.i64) (i:=-1) (t:=4) (rd:=mb rS.next rrd) rfl hm htt hfi hcl hfr F.two ?_ rfl F.res F.nt4 (by rw[qd9,if_pos rfl]) p hrd hv;rw[F.body];simp only[qam,ha,hb,F.lm,hr,mbO,mbR,mB_I,qso,CRes.or,Nat.zero_or,Nat.beq_refl,cond_true,hc,q1g,Nat.or_zero]
 ·obtain⟨_,_,_,_,_,_,_,_,_,rfl⟩:=quh h;exact FrO.same _ rfl
 ·obtain⟨_,_,_,_,_,_,_,_,_,rfl⟩:=quh h;rfl
def cL:Code->Code
 | .seq a _=>a
 | c=>c
def cR:Code->Code
 | .seq _ b=>b
 | c=>c
def cB:Code->Code
 | .block _ c=>c
 | .loop c=>c
 | .scope c=>c
 | c=>c
end Go.Jx
end

section
namespace Go.Jx
open Go Go.Sx Go.RowKit
universe u

def smL:List (Nat × Sm)->Nat->Option Sm
 | [],_=>none
 | e::l,f=>cond (Nat.beq f e.1) (some e.2) (smL l f)
def SmOK(P:Program):List (Nat × Sm)->Prop
 | []=>True
 | e::l=>Con P e.1 e.2/\SmOK P l
theorem qva{P:Program}:∀{l:List (Nat × Sm)},SmOK P l->∀f s,smL l f=some s->Con P f s
 | [],_,f,s,h=>by cases h
 | e::l,hl,f,s,h=>by
  unfold smL at h;cases hb:Nat.beq f e.1 with
  | true=>rw[hb,cond_true] at h;cases h;rw[Nat.eq_of_beq_eq_true hb];exact hl.1
  | false=>rw[hb,cond_false] at h;exact qva hl.2 f s h
def hxL:List (Nat × Hx)->Nat->Option Hx
 | [],_=>none
 | e::l,f=>cond (Nat.beq f e.1) (some e.2) (hxL l f)
def qaq(P:Program):List (Nat × Hx)->Prop
 | []=>True
 | e::l=>HxOK P e.1 e.2.f/\qaq P l
theorem q0i{P:Program}:∀{l:List (Nat × Hx)},qaq P l->∀f s,hxL l f=some s->HxOK P f s.f
 | [],_,f,s,h=>by cases h
 | e::l,hl,f,s,h=>by
  unfold hxL at h;cases hb:Nat.beq f e.1 with
  | true=>rw[hb,cond_true] at h;cases h;rw[Nat.eq_of_beq_eq_true hb];exact hl.1
  | false=>rw[hb,cond_false] at h;exact q0i hl.2 f s h
def nm1(f:Nat)(nmf:Nat->Option Nm):Nat->Nat->Option Nm:=fun g=>cond (Nat.beq g f) nmf fun _=>none
theorem zq5(f:Nat)(nmf:Nat->Option Nm):nm1 f nmf f=nmf:=by unfold nm1;rw[Nat.beq_refl,cond_true]
theorem conT{P:Program}{tt:Nat->Option TI}{ft:Nat->Option FI}{sml:List (Nat × Sm)}{hxl:List (Nat × Hx)}{f:Nat}{s:Sm}{fi:FI}{nmf:Nat->Option Nm}{st hd:Nat->Bool}(n:Nat)(hm:P.follows .mixedOrders=true)(htt:TT P tt)(hft:FT P ft)(hsm:SmOK P sml)
  (hhx:qaq P hxl) (hC:qah P f) (h1:smL sml f=none) (h2:hxL hxl f=none) (h3:ft f=some fi) (h4:∀x,Nat.ble (argV s.pts x).length fi.nt=true) (hn:(regs fi.body).Nodup) (hl:okC nmf st hd fi.body none=true)
  (hrun:∀(x:ElA s.pts) (y:ElR s.rts),WfA s.pts x->s.f x=some y->∃lf,
   qat P tt nmf fi.nt (qan P tt ft (nm1 f nmf) (smL sml) (hxL hxl) lf n (ElR s.rts)) lf st (atN P tt nmf fi s (qan P tt ft (nm1 f nmf) (smL sml) (hxL hxl) lf n (ElR s.rts)) lf hd) fi.body [] (qal (argV s.pts x) 0 .leaf) S0 [] (qak tt fi s)=some y) (hz:frzF nmf=false:=by rfl):Con P f s:=by
 refine conK (nm:=nm1 f nmf) (sm:=smL sml) (hx:=hxL hxl) hm htt hft (qva hsm) (q0i hhx) hC fun x y hx2 hy=>?_;obtain⟨lf,hr⟩:=hrun x y hx2 hy;refine⟨n+1,lf,?_⟩;rw[<- zld (qa6 n _) hn hl] at hr;have e:=zq5 f nmf;unfold qan;simp only[h1,h2,h3,h4,cond_true,e,hz,cond_false];exact hr
def S.lit(l:List Nat):ByteArray:=⟨⟨l.map UInt8.ofNat⟩⟩
end Go.Jx
end

section
namespace Go.Jx
open Go Go.Sx Go.RowKit
universe u

section
variable {P : Program} {tt : Nat -> Option TI} {nm : Nat -> Option Nm} {B nt lf : Nat} {round : Option Nat} {cl cl' : Cl}
end

def nmS(mr mw:Nat):Nat->Option Nm:=fun j=>cond (Nat.beq j 2) (some ⟨[1,2,10],[],[],[],[],mr,mw,true⟩) none
def frS(g:Nat)(caps:List IV)(b:Bool)(id:Nat):PT IV:=((PT.leaf.set (.fn g caps) 1).set (.bool b) 2).set (.ptr id 0) 10
structure SixFacts (P:Program) (tt:Nat->Option TI) (fi:FI) (A B L C:Code):Prop where
 body:fi.body=.seq A (.seq (.seq B (.block 0 (.loop L))) C)
 three:Nat.ble 3 fi.nt=true
 head:∀mr mw,okC (nmS mr mw) (fun k=>Nat.beq k 2) (fun k=>Nat.beq k 2) L (some 2)=true
 ab:∀(R:Type) (clK:ClK R) (B0 mr mw lf:Nat) (s:ByteArray) (g:Nat) (caps:List IV) (b:Bool) (S:IS) (kk:_->Option R),qa0 P tt (nmS mr mw) B0 fi.nt clK lf none (.seq A B) (qal [.str s,.fn g caps,.bool b] 0 .leaf) S [] (fun r=>kk (tup [1,2,10] r)) =
  kk (.normal,[.fn g caps,.bool b,.ptr S.next 0],S.new (.iter s 0),[],(mb B0 0).lor (mb B0 0),(mb B0 0).lor (mb B0 0))
 l:∀(R:Type) (B0 mr mw lf:Nat) (g:Nat) (caps:List IV) (b a:Bool) (id rd:Nat) (S S':IS) (test:Tgt->List IV->IS->Bool) (kk:_->Option R),qa0 P tt (nmS mr mw) B0 fi.nt (fun t vs S kk=>cond (test t vs S) (kk ⟨.bool a,S',rd,0⟩) none) lf none L (frS g caps b id) S [] (fun r=>kk (tup [1,2,6,10] r)) =
  match S.heap.get id with
  | some (.iter s p)=>cond (Nat.blt p s.size)
   (cond (test (.fn g) (.int .i32 (Int.ofNat (Utf8.decode s p).1)::caps) (S.set id (.iter s (p+(Utf8.decode s p).2))))
    (cond (decide (a=b))
     (kk (.ret,[.fn g caps,.bool b,.int .i64 (Int.ofNat p),.ptr id 0],S',[],(mb B0 0).lor (Nat.lor 0 ((mb B0 0).lor ((mb B0 (Nat.lor 0 (Nat.lor 0 (rd.lor 0)))).lor ((mb B0 0).lor 0)))),
      (mb B0 (Nat.lor 0 ((Nat.pow 2 id).lor 0))).lor (Nat.lor 0 ((mb B0 0).lor ((mb B0 0).lor ((mb B0 0).lor 0))))))
     (kk (.normal,[.fn g caps,.bool b,.unk,.ptr id 0],S',[],(mb B0 0).lor (Nat.lor 0 ((mb B0 0).lor ((mb B0 (Nat.lor 0 (Nat.lor 0 (rd.lor 0)))).lor 0))),
      (mb B0 (Nat.lor 0 ((Nat.pow 2 id).lor 0))).lor (Nat.lor 0 ((mb B0 0).lor ((mb B0 0).lor 0))))))
    none)
   (kk (.exit 0,[.fn g caps,.bool b,.unk,.ptr id 0],S,[],(mb B0 ((Nat.pow 2 id).lor 0)).lor 0,(mb B0 0).lor 0))
  | _=>none
 e:∀(R:Type) (clK:ClK R) (B0 mr mw lf:Nat) (fr:PT IV) (S:IS) (kk:CRes->Option R),qa0 P tt (nmS mr mw) B0 fi.nt clK lf none C fr S [] kk=kk ⟨.ret,fr.set (.int .i64 (-1)) 6,S,[],(mb B0 0).lor 0,(mb B0 0).lor 0⟩
 res:fi.res=[.tmp 6]
 nt6:Nat.blt 6 fi.nt=true
 lm:∀mr mw,qdy (nmS mr mw) L=some (mr,mw)
variable {P : Program} {tt : Nat -> Option TI} {fi : FI} {A B L C : Code}
end Go.Jx
end

section
namespace Go.Jx
open Go Go.Sx Go.RowKit
universe u

theorem qbr{α:Type}{l:List α}{i:Nat}:jget l (Int.ofNat i)=l[i]?:=by unfold jget;rw[if_pos (by simp)];simp
theorem qyr{α:Type}{l:List α}{i:Int}(h0:0<=i)(h1:i<l.length):∃x,jget l i=some x/\l[i.toNat]?=some x/\x∈l:=by
 have h2:i.toNat<l.length:=by omega
 refine⟨l[i.toNat],?_,List.getElem?_eq_getElem h2,List.getElem_mem h2⟩;unfold jget;rw[if_pos h0,List.getElem?_eq_getElem h2]
theorem qm0:∀c:TC,1<=bsz c
 | .int k=>by cases k<;>simp [bsz]
 | .bool=>by simp[bsz]
 | .str=>by simp[bsz]
 | .list _=>by simp[bsz]
 | .two a b=>by have:=qm0 a;simp only[bsz];omega
def LF:Nat:=9223372036854775808
theorem qct{c:TC}{l:El (.list c)}(h:WfE (.list c) l):List.length (α:=El c) l<LF:=by
 have h1:=h.1;have h2:=qm0 c;have:List.length (α:=El c) l*1<=List.length (α:=El c) l*bsz c:=Nat.mul_le_mul_left _ h2;unfold LF;omega
theorem zqo{n:Nat}(h:n+1<LF):IntKind.i64.wrap (Int.add (Int.ofNat n) (Int.ofNat 1))=Int.ofNat (n+1):=by
 unfold LF at h;rw[show Int.add (Int.ofNat n) (Int.ofNat 1)=Int.ofNat (n+1) from rfl];exact qfx (by simp;omega)
structure Rnd {α:Type} (l:List α) (i:Nat) (v:α) (rest:List α):Prop where
 drop:l.drop i=v::rest
 mem:v∈l
 lt:i<l.length
 ilt:iltI (Int.ofNat i) (Int.ofNat l.length)=true
 get:jget l (Int.ofNat i)=some v
 get?:l[i]?=some v
 next:IntKind.i64.wrap (Int.add (Int.ofNat i) (Int.ofNat 1))=Int.ofNat (i+1)
 tail:l.drop (i+1)=rest
 take:l.take (i+1)=l.take i++[v]
theorem qce(n:Nat):iltI (Int.ofNat n) (Int.ofNat n)=false:=by rw[qbs];simp
theorem z4r{α:Type}{l:List α}{i:Nat}(h:i<l.length)(hl:l.length<LF):∃v rest,Rnd l i v rest:=by
 refine⟨l[i],l.drop (i+1),List.drop_eq_getElem_cons h,List.getElem_mem h,h,by rw[qbs];simp;omega,?_,List.getElem?_eq_getElem h,zqo (by omega),rfl,?_⟩
 ·rw[qbr];exact List.getElem?_eq_getElem h
 ·rw[List.take_succ_eq_append_getElem h]
theorem q6g{α σ A R:Type}{T:(A->Option R)->A->Option R}(l:List α)(mk:Int->σ->A)(I:Nat->σ->Prop)(g:List α->Nat->σ->Option R)(hl:l.length<LF)
  (hnil:∀K s,I l.length s->T K (mk (Int.ofNat l.length) s)=g [] l.length s)
  (hcons:∀K i v rest s,I i s->Rnd l i v rest->(∀s',I (i+1) s'->K (mk (Int.ofNat (i+1)) s')=g rest (i+1) s')->T K (mk (Int.ofNat i) s)=g (v::rest) i s) :
  ∀n i s,i<=l.length->I i s->l.length-i<n->qa2 T n (mk (Int.ofNat i) s)=g (l.drop i) i s
 | 0,i,s,_,_,h=>by omega
 | n+1,i,s,hi,hI,h=>by
  show T (qa2 T n) (mk (Int.ofNat i) s)=_;by_cases e:i=l.length
  ·subst e;rw[hnil _ _ hI,List.drop_length]
  ·obtain⟨v,rest,r⟩:=z4r (l:=l) (i:=i) (by omega) hl;rw[hcons (qa2 T n) i v rest s hI r fun s' hI'=>?_,r.drop];rw[q6g l mk I g hl hnil hcons n (i+1) s' (by have:=r.lt;omega) hI' (by omega),r.tail]
theorem range0{α σ A R:Type}{T:(A->Option R)->A->Option R}(l:List α)(mk:Int->σ->A)(I:Nat->σ->Prop)(g:List α->Nat->σ->Option R)(hl:l.length<LF)
  (hnil:∀K s,I l.length s->T K (mk (Int.ofNat l.length) s)=g [] l.length s)
  (hcons:∀K i v rest s,I i s->Rnd l i v rest->(∀s',I (i+1) s'->K (mk (Int.ofNat (i+1)) s')=g rest (i+1) s')->T K (mk (Int.ofNat i) s)=g (v::rest) i s)
  (s:σ) (hI:I 0 s):qa2 T LF (mk (Int.ofNat 0) s)=g l 0 s:=by
 have:=q6g l mk I g hl hnil hcons LF 0 s (Nat.zero_le _) hI (by omega)
 rwa [List.drop_zero] at this
theorem q14{α R:Type}{T:(Int->Option R)->Int->Option R}(l:List α)(g:List α->Nat->Option R)(hl:l.length<LF)
  (hnil:∀K,T K (Int.ofNat l.length)=g [] l.length)
  (hcons:∀K i v rest,Rnd l i v rest->K (Int.ofNat (i+1))=g rest (i+1)->T K (Int.ofNat i)=g (v::rest) i):qa2 T LF (Int.ofNat 0)=g l 0 :=
 range0 (σ:=Unit) l (fun i _=>i) (fun _ _=>True) (fun rest i _=>g rest i) hl (fun K _ _=>hnil K) (fun K i v rest _ _ r h=>hcons K i v rest r (h () trivial)) () trivial
namespace S
def idx{α:Type}(p:α->Bool)(l:List α):Int:=match l.findIdx? p with
 | some j=>Int.ofNat j
 | none=>-1
theorem idx_nonneg{α:Type}(p:α->Bool)(l:List α):0<=idx p l↔l.any p=true:=by
 unfold idx;cases h:l.findIdx? p with
 | none =>
  simp only;rw[List.findIdx?_eq_none_iff] at h;constructor
  ·intro h;omega
  ·intro h2;rw[List.any_eq_true] at h2;obtain⟨x,hx,hp⟩:=h2;rw[h x hx] at hp;cases hp
 | some j =>
  simp only;obtain⟨h1,h2,h3⟩:=List.findIdx?_eq_some_iff_getElem.1 h;constructor
  ·intro _;rw[List.any_eq_true];exact⟨_,List.getElem_mem h1,h2⟩
  ·intro _;exact Int.natCast_nonneg _
end S
theorem qox{α:Type}{p:α->Option Bool}(q:α->Bool){l:List α}(h:∀x∈l,p x=some (q x)):idxO p l 0=some (S.idx q l):=by
 rw[zef h];unfold S.idx;cases l.findIdx? q<;>simp
end Go.Jx
end

section
namespace Go.Jx
open Go Go.Sx Go.RowKit
theorem qa5(a b:Nat):iltI (Int.ofNat a) (Int.ofNat b)=decide (a<b):=by
 rw[qbs];simp
theorem qg9(a b:Nat):ieqI (Int.ofNat a) (Int.ofNat b)=decide (a=b):=by
 rw[qdb];by_cases h:a=b
 ·rw[decide_eq_true h,h];exact decide_eq_true rfl
 ·rw[decide_eq_false h];exact decide_eq_false fun e=>h (Int.ofNat.inj e)
theorem qd8{x y:Int}(h:x<y):iltI x y=true:=by rw[qbs];exact decide_eq_true h
theorem qd4{x y:Int}(h:¬x<y):iltI x y=false:=by rw[qbs];exact decide_eq_false h
theorem qbk{x y:Int}(h:x=y):ieqI x y=true:=by rw[qdb];exact decide_eq_true h
theorem qbg{x y:Int}(h:¬x=y):ieqI x y=false:=by rw[qdb];exact decide_eq_false h
theorem qcr(s:ByteArray):(qac s).length=s.size:=by
 unfold qac;rw[List.length_map];exact Array.length_toList
theorem zu3{s:ByteArray}{i:Nat}(h:i<s.size):(qac s)[i]?=some ((s[i]'h).toNat:Int):=by
 unfold qac;rw[List.getElem?_map,List.getElem?_eq_getElem (by simpa using h)];rfl
theorem zhz{s:ByteArray}{b:Int}(h:b∈qac s):0<=b/\b<256:=by
 unfold qac at h;obtain⟨x,_,rfl⟩:=List.mem_map.1 h;have:=x.toNat_lt;constructor<;>omega
theorem qe9(s:ByteArray):qaf (qac s)=s:=by
 obtain⟨⟨l⟩⟩:=s;unfold qaf qac;congr 2;simp only[List.map_map]
 conv=>rhs;rw[<- List.map_id l]
 refine List.map_congr_left fun x _=>?_;simp
theorem qbf{l:List Int}(h:∀b∈l,0<=b/\b<256):qac (qaf l)=l:=by
 unfold qaf qac;simp only[List.map_map]
 conv=>rhs;rw[<- List.map_id l]
 refine List.map_congr_left fun x hx=>?_;obtain⟨h1,h2⟩:=h x hx;simp only[Function.comp,UInt8.toNat_ofNat',id];omega
theorem qee{s t:ByteArray}(h:qac s=qac t):s=t:=by rw[<- qe9 s,<- qe9 t,h]
theorem qmc(s:ByteArray)(a b:Nat):qac (s.extract a b)=(qac s).extract a b:=by
 unfold qac;rw[ByteArray.data_extract,Array.toList_extract];simp[List.extract_eq_take_drop,List.map_take,List.map_drop]
theorem zbs(s:ByteArray)(a b:Nat)(h:s.size<=b):qac (s.extract a b)=(qac s).drop a:=by
 rw[qmc,List.extract_eq_take_drop];refine List.take_of_length_le ?_;rw[List.length_drop,qcr];omega
theorem q9m(s:ByteArray)(b:Nat):qac (s.extract 0 b)=(qac s).take b:=by
 rw[qmc,List.extract_eq_take_drop];rfl
theorem z49(s t:ByteArray):qac (s++t)=qac s++qac t:=by
 unfold qac;rw[ByteArray.data_append,Array.toList_append,List.map_append]
theorem q9o(a b:ByteArray):keqS a b=decide (qac a=qac b):=by
 unfold keqS;by_cases h:a=b
 ·rw[decide_eq_true h,decide_eq_true (congrArg qac h)]
 ·rw[decide_eq_false h,decide_eq_false fun e=>h (qee e)]
end Go.Jx
end

noncomputable section
set_option maxRecDepth 100000
namespace Go.Proofs.YtnhmanoiolfapaaGreat
open Go Go.Sx Go.RowKit Go.Jx
abbrev DPut:Type:=Int × ByteArray
abbrev qab:Type:=List ByteArray × List DPut
abbrev qaa:Type:=Int × ByteArray × Bool
abbrev DAct:Type:=Bool × DPut
abbrev qae:Type:=qab × Int × Int × List qaa
abbrev qwo:Type:=List DAct
abbrev zox:Type:=Int × Int
abbrev qff:Type:=List qaa × Int × Bool
abbrev zqu:Type:=List DAct × Int
abbrev q4o:Type:=qae × Int
abbrev q09:Type:=List qaa × Int × Bool × Bool
namespace S
def lit(l:List UInt8):ByteArray:=⟨l.toArray⟩
def none_:ByteArray:=S.lit []
def blank:ByteArray:=qaf (List.replicate 64 0)
def inI(n lo hi:Int):Bool:=decide (lo<=n)&&decide (n<=hi)
def newDisk(n:Int):qab × Int:=if inI n 8 1000=true/\n % 2=0 then ((List.replicate n.toNat blank,[]),0) else (([],[]),1)
def short(s:ByteArray):Bool:=!decide (s.size=64)
def badPut(n:Int)(p:DPut):Bool:=short p.2||!inI p.1 0 (n-1)
def checkDisk(d:qab):Int :=
 if 1000<d.1.length\/4000<d.2.length then 3
 else if d.1.length<8\/¬d.1.length % 2=0\/d.2.any (badPut d.1.length)=true\/d.1.any short=true then 1 else 0
def settled(l:List ByteArray)(q:List DPut):List ByteArray:=q.foldl (fun l p=>l.set p.1.toNat p.2) l
def doGo:List DAct->List ByteArray->List DPut->qab × Int
 | [],l,q=>((l,q),0)
 | a::r,l,q=>cond a.1 (if a.2.1=0/\a.2.2.size=0 then doGo r (settled l q) [] else (([],[]),1))
  (cond (badPut l.length a.2) (([],[]),1) (if q.length=4000 then (([],[]),3) else doGo r l (q++[a.2])))
def doD(d:qab)(l:List DAct):qab × Int:=if checkDisk d=0 then doGo l d.1 d.2 else (([],[]),checkDisk d)
def tear(s p:ByteArray)(n:Nat):ByteArray:=qaf ((qac p).take n++(qac s).drop n)
def crashGo:List DPut->List Int->List ByteArray->List ByteArray
 | p::q,n::r,l=>crashGo q r (l.set p.1.toNat (tear (l.getD p.1.toNat none_) p.2 n.toNat))
 | _,_,l=>l
def crash(d:qab)(kept:List Int):qab × Int :=
 if checkDisk d=0 then (if d.2.length<kept.length\/kept.any (fun n=>!inI n 0 64)=true then (([],[]),1) else ((crashGo d.2 kept d.1,[]),0)) else (([],[]),checkDisk d)
def two(n:Nat):List Int:=[((n / 256 % 256:Nat):Int),((n % 256:Nat):Int)]
def cellB(c:qaa):List Int:=(c.1 % 256)::cond c.2.2 (two 0) (two (c.2.1.size+1)++qac c.2.1)
def body(l:List qaa):List Int:=l.flatMap cellB
def recB(l:List qaa)(mark:Int):List Int:=mark::(((body l).length / 65536 % 256:Nat):Int)::(two (body l).length++body l)
def chunks:Nat->List Int->List ByteArray
 | 0,_=>[]
 | f+1,b=>cond b.isEmpty [] (qaf (b.take 64++List.replicate (64-b.length) 0)::chunks f (b.drop 64))
def packed(l:List qaa)(mark:Int):List ByteArray:=chunks (recB l mark).length (recB l mark)
def numB(n:Nat):Nat->List Int
 | 0=>[]
 | k+1=>numB (n / 256) k++[((n % 256:Nat):Int)]
def put(at_:Int)(s:ByteArray):DAct:=(false,at_,s)
def puts:Int->List ByteArray->List DAct
 | _,[]=>[]
 | at_,s::l=>put at_ s::puts (at_+1) l
def sync:DAct:=(true,0,none_)
def format(d:qab):List DAct × Int :=
 if checkDisk d=0 then (if d.2.length=0 then ([put 1 blank,put 2 blank,sync]++puts 1 (packed [] 1)++[sync,put 0 blank,sync],0) else ([],12)) else ([],checkDisk d)
def half(n:Nat)(h:Int):Int × Int:=if h=0 then (1,((n / 2:Nat):Int)) else (((n / 2:Nat):Int),(n:Int)-1)
def changes:Nat->List Int->Int->Option (List qaa)
 | 0,_,_=>none
 | f+1,[],_=>some []
 | f+1,k::r,last=>match r with
  | a::b::r=>if 199<k\/k<=last\/(r.length:Int)+1<a*256+b\/4001<a*256+b then none
   else if a*256+b=0 then (match changes f r k with
    | some l=>some ((k,none_,true)::l)
    | none=>none)
   else (match changes f (r.drop (a*256+b-1).toNat) k with
    | some l=>some ((k,qaf (r.take (a*256+b-1).toNat),false)::l)
    | none=>none)
  | _=>none
def recN(s:List Int):Nat:=(s.getD 1 0*65536+s.getD 2 0*256+s.getD 3 0).toNat
def recM(s:List Int):Nat:=(recN s+4+63) / 64
def readR(l:List ByteArray):Option (List qaa × Nat) :=
 if ¬(qac (l.getD 0 none_)).getD 0 0=1\/l.length<recM (qac (l.getD 0 none_)) then none
 else match changes (recN (qac (l.getD 0 none_))+1) ((((l.take (recM (qac (l.getD 0 none_)))).flatMap qac).drop 4).take (recN (qac (l.getD 0 none_)))) (-1) with
  | some c=>cond ((((l.take (recM (qac (l.getD 0 none_)))).flatMap qac).drop (4+recN (qac (l.getD 0 none_)))).all fun b=>decide (b=0)) (some (c,recM (qac (l.getD 0 none_)))) none
  | none=>none
def ins1(c:qaa):List qaa->List qaa
 | []=>cond c.2.2 [] [c]
 | a::r=>if a.1<c.1 then a::ins1 c r else if a.1=c.1 then cond c.2.2 r (c::r) else cond c.2.2 (a::r) (c::a::r)
def changed(m l:List qaa):List qaa:=l.foldl (fun m c=>ins1 c m) m
def recs:Nat->List ByteArray->List qaa->Nat->Option (List qaa × Nat)
 | 0,_,_,_=>none
 | f+1,l,c,u=>match l with
  | []=>some (c,u)
  | s::r=>if (qac s).getD 0 0=0 then some (c,u) else match readR (s::r) with
   | none=>none
   | some x=>cond (decide (u=0)&&x.1.any (·.2.2)) none (recs f (l.drop x.2) (changed c x.1) (u+x.2))
def halfS(l:List ByteArray)(h:Int):List ByteArray:=(l.take (half l.length h).2.toNat).drop (half l.length h).1.toNat
def opened(l:List ByteArray):Option (Int × Nat × List qaa) :=
 if 1<(qac (l.getD 0 none_)).getD 0 0\/¬(qac (l.getD 0 none_)).drop 1=List.replicate 63 0 then none
 else match recs (l.length+1) (halfS l ((qac (l.getD 0 none_)).getD 0 0)) [] 0 with
  | some (c,u)=>if u=0 then none else some ((qac (l.getD 0 none_)).getD 0 0,u,c)
  | none=>none
def noJ:qae:=(([],[]),0,0,[])
def open_(d:qab):qae × Int :=
 if checkDisk d=0 then (if d.2.length=0 then (match opened d.1 with
  | some (h,u,c)=>(((d.1,[]),h,(u:Int),c),0)
  | none=>(noJ,15)) else (noJ,12)) else (noJ,checkDisk d)
def right(j:qae):Bool:=decide ((open_ j.1).2=0)&&decide ((open_ j.1).1=j)
def value(j:qae)(k:Int):ByteArray × Bool × Int :=
 if right j=true/\inI k 0 199=true then (match j.2.2.2.find? (fun c=>decide (c.1=k)) with
  | some c=>(c.2.1,true,0)
  | none=>(none_,false,0)) else (none_,false,1)
def roomOf(j:qae):Int:=(half j.1.1.length j.2.1).2-(half j.1.1.length j.2.1).1-j.2.2.1
def room(j:qae):Int × Int:=if right j=true then (roomOf j,0) else (0,1)
def okGo:List qaa->Int->Bool
 | [],_=>true
 | c::l,last=>inI c.1 0 199&&(decide (c.2.1.size<=4000)&&(!(c.2.2&&!decide (c.2.1.size=0))&&(decide (last<c.1)&&okGo l c.1)))
def okC(l:List qaa):Bool:=okGo l (-1)
def size(l:List qaa):Int × Int :=
 if 60<l.length then (0,3) else if l.length=0 then (0,1) else cond (okC l) (((packed l 1).length:Int),0) (0,1)
def commit(j:qae)(l:List qaa):Option (List DAct) :=
 if roomOf j<(packed l 1).length then none
 else some (puts ((half j.1.1.length j.2.1).1+j.2.2.1) (packed l 0)++(cond (decide ((half j.1.1.length j.2.1).1+j.2.2.1+(packed l 1).length<(half j.1.1.length j.2.1).2)) [put ((half j.1.1.length j.2.1).1+j.2.2.1+(packed l 1).length) blank] []) ++
  [sync,put ((half j.1.1.length j.2.1).1+j.2.2.1) ((packed l 1).getD 0 none_),sync])
def plan(j:qae)(l:List qaa):List DAct × Int :=
 if right j=true then (if (size l).2=0 then (match commit j l with
  | some a=>(a,0)
  | none=>([],14)) else ([],(size l).2)) else ([],1)
def behind(j:qae)(l:List DAct):qae × Int:=open_ (doD j.1 l).1
def commitJ(j:qae)(l:List qaa):qae × Int:=if (plan j l).2=0 then behind j (plan j l).1 else (noJ,(plan j l).2)
def turn(j:qae):Option (List DAct) :=
 if (half j.1.1.length (1-j.2.1)).2-(half j.1.1.length (1-j.2.1)).1<(packed j.2.2.2 1).length then none
 else some (puts (half j.1.1.length (1-j.2.1)).1 (List.replicate ((half j.1.1.length (1-j.2.1)).2-(half j.1.1.length (1-j.2.1)).1).toNat blank)++[sync]++puts (half j.1.1.length (1-j.2.1)).1 (packed j.2.2.2 0) ++
  [sync,put (half j.1.1.length (1-j.2.1)).1 ((packed j.2.2.2 1).getD 0 none_),sync,put 0 (qaf ((1-j.2.1)::List.replicate 63 0)),sync])
def planTurn(j:qae):List DAct × Int:=if right j=true then (match turn j with
  | some a=>(a,0)
  | none=>([],14)) else ([],1)
def turnJ(j:qae):qae × Int:=if (planTurn j).2=0 then behind j (planTurn j).1 else (noJ,(planTurn j).2)
end S
end Go.Proofs.YtnhmanoiolfapaaGreat
end

section
namespace Go.Jx
open Go Go.Sx Go.RowKit
universe u

structure ObjTo (E:Env) (S:IS) (E':Env) (id k:Nat) (o:IObj):Prop where
 rel:OR E' k o
 live:o.live=true->∃o0,S.H id=some o0/\o0.live=true
 blk:o.blk=true->E'.hb k=true
theorem q6z{B:Nat}{q:List Nat}(hnd:q.Nodup)(hqB:∀id∈q,B<=id):∀i j,i<B+q.length->j<B+q.length->ol B q i=ol B q j->i=j:=fun i j hi hj h=>by
 have hol:∀id,B<=id->id<B+q.length->B<=ol B q id:=fun id h1 h2=>by
  have h3:id-B<q.length:=by omega
  unfold ol;rw[if_neg (by omega),List.getD_eq_getElem?_getD,List.getElem?_eq_getElem h3];exact hqB _ (List.getElem_mem h3)
 rcases Nat.lt_or_ge i B with h1|h1
 ·have e1:ol B q i=i:=if_pos h1;rcases Nat.lt_or_ge j B with h2|h2
  ·rwa [e1,show ol B q j=j from if_pos h2] at h
  ·have:=hol j h2 hj;omega
 ·rcases Nat.lt_or_ge j B with h2|h2
  ·have e2:ol B q j=j:=if_pos h2;have:=hol i h1 hi;omega
  ·have h3:i-B<q.length:=by omega
   have h4:j-B<q.length:=by omega
   have e1:ol B q i=q[i-B]:=by unfold ol;rw[if_neg (by omega),List.getD_eq_getElem?_getD,List.getElem?_eq_getElem h3];rfl
   have e2:ol B q j=q[j-B]:=by unfold ol;rw[if_neg (by omega),List.getD_eq_getElem?_getD,List.getElem?_eq_getElem h4];rfl
   rw[e1,e2] at h;have:=(List.getElem_inj hnd).1 h;omega
theorem qb8{q:List Nat}{k:Nat}(h:k<q.length):ol 0 q k∈q/\q[k]?=some (ol 0 q k):=by
 have e:ol 0 q k=q[k]:=by unfold ol;rw[if_neg (by omega),Nat.sub_zero,List.getD_eq_getElem?_getD,List.getElem?_eq_getElem h];rfl
 rw[e];exact⟨List.getElem_mem h,List.getElem?_eq_getElem h⟩
theorem qx2{q:List Nat}{id:Nat}(h:id∈q):∃k,k<q.length/\ol 0 q k=id:=by
 obtain⟨k,hk,rfl⟩:=List.mem_iff_getElem.1 h;refine⟨k,hk,?_⟩;unfold ol;rw[if_neg (by omega),Nat.sub_zero,List.getD_eq_getElem?_getD,List.getElem?_eq_getElem hk];rfl
theorem Pre.re{T:TW}{E:Env}{S S':IS}{q:List Nat}(p:Pre T E S)(hn:q.Nodup)(hT:∀id∈q,T.r id)(hN:S'.next=q.length)
  (ho:∀k o,k<q.length->E.A (ol 0 q k)->S'.H k=some o->ObjTo E S (renE 0 q E) (ol 0 q k) k o):Pre T0 (renE 0 q E) S':=by
 have hl:∀k,(renE 0 q E).A k->k<q.length:=fun k h=>by have:=h.1;omega
 have hTr:∀k,k<q.length->T.r (ol 0 q k):=fun k h=>hT _ (qb8 h).1;have hlv:∀k,(renE 0 q E).A k->Live (renE 0 q E) S'.H k->Live E S.H (ol 0 q k):=fun k ha ⟨h0,o,h1,h2⟩=>⟨h0,(ho k o (hl k ha) ha.2 h1).live h2⟩
 refine⟨⟨fun k _ ha o h=>(ho k o (hl k ha) ha.2 h).rel,fun k _ ha o h hb=>(ho k o (hl k ha) ha.2 h).blk hb,fun k _ ha h=>p.st.own _ (hTr k (hl k ha)) ha.2 (hlv k ha h),
  fun i j _ _ c d e f h=>q6z hn (fun _ _=>Nat.zero_le _) i j (by have:=hl i c;omega) (by have:=hl j d;omega) (p.st.inj _ _ (hTr i (hl i c)) (hTr j (hl j d)) c.2 d.2 (hlv i c e) (hlv j d f) h),p.st.lo⟩,fun k ha=>by rw[hN];exact hl k ha,fun _ _=>trivial,p.gl⟩
theorem PostB.re{T:TW}{E:Env}{S S':IS}{B:Nat}{q:List Nat}(p:Pre T E S)(hT:∀id,B<=id->T.w id)(hn:q.Nodup)(hqB:∀id∈q,B<=id)(hN:S'.next=B+q.length)
  (ho:∀k o,k<B+q.length->E.A (ol B q k)->S'.H k=some o->ObjTo E S (renE B q E) (ol B q k) k o):PostB B T E S (renE B q E) S':=by
 have hol:∀id,B<=id->id<B+q.length->B<=ol B q id:=fun id h1 h2=>by
  have h3:id-B<q.length:=by omega
  unfold ol;rw[if_neg (by omega),List.getD_eq_getElem?_getD,List.getElem?_eq_getElem h3];exact hqB _ (List.getElem_mem h3)
 have hTr:∀id,id<B+q.length->T.r id->T.r (ol B q id):=fun id h1 h2=>by
  rcases Nat.lt_or_ge id B with h3|h3
  ·rw[show ol B q id=id from if_pos h3];exact h2
  ·exact T.sub _ (hT _ (hol id h3 h1))
 have hlv:∀k,(renE B q E).A k->Live (renE B q E) S'.H k->Live E S.H (ol B q k):=fun k ha ⟨h0,o,h1,h2⟩=>⟨h0,(ho k o ha.1 ha.2 h1).live h2⟩
 refine⟨⟨fun k ht ha o h=>(ho k o ha.1 ha.2 h).rel,fun k ht ha o h hb=>(ho k o ha.1 ha.2 h).blk hb,fun k ht ha h=>p.st.own _ (hTr k ha.1 ht) ha.2 (hlv k ha h),
  fun i j a b c d e f h=>q6z hn hqB i j c.1 d.1 (p.st.inj _ _ (hTr i c.1 a) (hTr j d.1 b) c.2 d.2 (hlv i c e) (hlv j d f) h),p.st.lo⟩,
  rfl,rfl,rfl,Nat.le_refl _,fun _ _ _=>rfl,fun id hb hA=>?_,fun id hb ha hl=>.inr ⟨ol B q id,hT _ (hol id hb ha.1),ha.2,hlv id ha hl,rfl⟩,fun id hb ht ha hl=>?_,fun b h=>.inl h,fun b h _=>.inl h,fun id ha=>by rw[hN];exact ha.1,by rw[hN];exact Nat.le_add_right _ _,fun id hb ha=>?_⟩
 ·have e:ol B q id=id:=if_pos hb;exact⟨⟨by omega,by rw[e];exact hA⟩,by simp only[renE,e],by simp only[renE,e],by simp only[renE,e],by simp only[renE,e]⟩
 ·have e:ol B q id=id:=if_pos hb;have:=hlv id ⟨by omega,by rw[e];exact ha⟩ hl
  rwa [e] at this
 ·have e:ol B q id=id:=if_pos hb;have:=ha.2
  rwa [e] at this
def mrgR(E Er:Env)(n m:Nat):Env :=
 ⟨fun id=>if id<n then E.ρ id else Er.ρ (id-n+m),fun id=>if id<n then E.κ id else Er.κ (id-n+m),fun id=>if id<n then E.hd id else Er.hd (id-n+m),fun id=>if id<n then E.hb id else Er.hb (id-n+m),
  fun id=>(id<n/\E.A id)\/(n<=id/\Er.A (id-n+m)),Er.m,Er.w⟩
section
variable {E Er : Env} {n m : Nat}
theorem qdr{id:Nat}(h:id<n):(mrgR E Er n m).ρ id=E.ρ id/\(mrgR E Er n m).κ id=E.κ id/\(mrgR E Er n m).hd id=E.hd id/\(mrgR E Er n m).hb id=E.hb id:=by
 refine⟨?_,?_,?_,?_⟩<;>simp only[mrgR,if_pos h]
theorem qj0{k:Nat}(h:m<=k):(mrgR E Er n m).ρ (n+(k-m))=Er.ρ k/\(mrgR E Er n m).κ (n+(k-m))=Er.κ k/\(mrgR E Er n m).hd (n+(k-m))=Er.hd k/\(mrgR E Er n m).hb (n+(k-m))=Er.hb k/\(Er.A k->(mrgR E Er n m).A (n+(k-m))):=by
 have h1:¬n+(k-m)<n:=by omega
 have h2:n+(k-m)-n+m=k:=by omega
 refine⟨?_,?_,?_,?_,fun hA=>.inr ⟨by omega,by rw[h2];exact hA⟩⟩<;>simp only[mrgR,if_neg h1,h2]
theorem q8h{T:TW}{S Sx Sr S':IS}{q:List Nat}(p:Pre T E S)(hnd:q.Nodup)(hT:∀id∈q,T.w id)(hA:∀id∈q,E.A id)(hm:m<=q.length)(hn:n=S.next)
   (hsx:∀k,k<q.length->Live (renE 0 q E) Sx.H k->Live E S.H (ol 0 q k)) (h:PostB m T0 (renE 0 q E) Sx Er Sr)
   (hN:S'.next=n+(Sr.next-m))
   (h1:∀id,id<n->id ∉ q->S'.H id=S.H id)
   (h2:∀k o,k<m->S'.H (ol 0 q k)=some o->ObjTo Er Sr (mrgR E Er n m) k (ol 0 q k) o)
   (h3:∀k o,m<=k->k<q.length->S'.H (ol 0 q k)=some o->o=.dead)
   (h4:∀k o,m<=k->Er.A k->S'.H (n+(k-m))=some o->ObjTo Er Sr (mrgR E Er n m) k (n+(k-m)) o) :
   Post T E S (mrgR E Er n m) S'/\Fresh E S (mrgR E Er n m):=by
 have hlt:∀id,E.A id->id<n:=fun id h=>by rw[hn];exact p.bnd id h
 have hqA:∀k,k<q.length->(renE 0 q E).A k:=fun k hk=>⟨by omega,hA _ (qb8 hk).1⟩
 -- a live object of the caller's beside these is at no block of theirs
 have hapart:∀id,id ∉ q->T.r id->E.A id->Live E S.H id->∀k,(renE 0 q E).A k->Live (renE 0 q E) Sx.H k->(renE 0 q E).ρ k≠E.ρ id:=fun id hid ht ha hl k hk hkl e=>by
   have hk1:k<q.length:=by have:=hk.1;omega
   have h5:=(qb8 hk1).1;have:=p.st.inj _ _ (T.sub _ (hT _ h5)) ht hk.2 ha (hsx k hk1 hkl) hl e;exact hid (this▸h5)
 have hsame:∀b,b<E.w.heap.size->(∀k,(renE 0 q E).A k->Live (renE 0 q E) Sx.H k->(renE 0 q E).ρ k≠b)->Er.w.heap[b]?=E.w.heap[b]?:=fun b hb hk=>h.same b hb fun k _=>hk k;have hown:∀k,(renE 0 q E).A k->Live (renE 0 q E) Sx.H k->(renE 0 q E).ρ k∈E.m:=fun k hk hkl=>by
   have hk1:k<q.length:=by have:=hk.1;omega
   exact p.st.own _ (T.sub _ (hT _ (qb8 hk1).1)) hk.2 (hsx k hk1 hkl)
 have hle:E.Le (mrgR E Er n m):=⟨fun id ha=>by
   obtain⟨m1,m2,m3,m4⟩:=qdr (E:=E) (Er:=Er) (m:=m) (hlt id ha);exact⟨.inl ⟨hlt id ha,ha⟩,m1,m2,m3,m4⟩,⟨fun b hb hbm=>⟨fun h'=>by
     rcases h.memo b h' with h5|h5
     · exact hbm h5
     · have:(renE 0 q E).w.heap.size=E.w.heap.size:=rfl;omega,hsame b hb fun k hk hkl e=>hbm (e▸hown k hk hkl)⟩⟩⟩
 -- rows
 have hrow:∀k,k<m->(renE 0 q E).A k/\Er.A k/\Er.ρ k=E.ρ (ol 0 q k)/\Er.hb k=E.hb (ol 0 q k)/\ol 0 q k<n:=fun k hk=>by
   have ha:=hqA k (by omega);obtain⟨a1,a2,a3,a4,a5⟩:=h.alw k hk ha;exact⟨ha,a1,a2,a5,hlt _ ha.2⟩
 -- where a live object of the new state comes from
 have hcase:∀id,(mrgR E Er n m).A id->Live (mrgR E Er n m) S'.H id ->
     (id<n/\id ∉ q/\E.A id/\Live E S.H id)\/∃k,Er.A k/\Live Er Sr.H k/\(mrgR E Er n m).ρ id=Er.ρ k/\((k<m/\id=ol 0 q k)\/(m<=k/\id=n+(k-m))):=fun id ha ⟨g1,o,g2,g3⟩=>by
   rcases ha with ⟨hi,ha⟩|⟨hi,ha⟩
   · by_cases hq:id∈q
     · obtain⟨k,hk,rfl⟩:=qx2 hq;by_cases hkm:k<m
       · obtain⟨r1,r2,r3,r4,r5⟩:=hrow k hkm;refine .inr ⟨k,r2,⟨?_,(h2 k o hkm g2).live g3⟩,(qdr hi).1.trans r3.symm,.inl ⟨hkm,rfl⟩⟩;rw[r4,<- (qdr (E:=E) (Er:=Er) (m:=m) hi).2.2.2];exact g1
       · have:=h3 k o (by omega) hk g2;subst this;cases g3
     · rw[h1 id hi hq] at g2;exact .inl ⟨hi,hq,ha,by rw[<- (qdr (E:=E) (Er:=Er) (m:=m) hi).2.2.2];exact g1,o,g2,g3⟩
   · obtain⟨k,hk,rfl⟩:∃k,m<=k/\id=n+(k-m):=⟨id-n+m,by omega,by omega⟩;have e:n+(k-m)-n+m=k:=by omega
     rw[e] at ha;obtain⟨m1,m2,m3,m4,m5⟩:=qj0 (E:=E) (Er:=Er) (n:=n) hk;exact .inr ⟨k,ha,⟨by rw[<- m4];exact g1,(h4 k o hk ha g2).live g3⟩,m1,.inr ⟨hk,rfl⟩⟩
 have hin:∀id,id<n->id ∉ q->T.r id->E.A id->Live E S.H id->(mrgR E Er n m).ρ id∈Er.m/\∀k,Er.A k->Live Er Sr.H k->Er.ρ k≠E.ρ id:=fun id hi hq ht ha hl=>by
   have hmem:=p.st.own id ht ha hl;refine⟨?_,fun k hk hkl e=>?_⟩
   · rw[(qdr hi).1];rcases h.mem _ hmem (p.st.lo _ hmem) with g|⟨k,_,g1,g2,g3⟩
     · exact g
     · exact absurd g3 (hapart id hq ht ha hl k g1 g2)
   · by_cases hkm:k<m
     · exact hapart id hq ht ha hl k (hrow k hkm).1 (h.old k hkm trivial (hrow k hkm).1 hkl) (by rw[<- e];exact(hrow k hkm).2.2.1.symm)
     · rcases h.new k (by omega) hk hkl with g|⟨j,_,g1,g2,g3⟩
       · have:=p.st.lo _ hmem;have e2:(renE 0 q E).w.heap.size=E.w.heap.size:=rfl;omega
       · exact hapart id hq ht ha hl j g1 g2 (by rw[<- g3];exact e)
 refine⟨⟨⟨?_,?_,?_,?_,h.st.lo⟩,⟨h.os,h.tape,h.output,h.size,fun b hb hk=>?_,hle.alw,?_,?_,fun b hb=>h.memo b hb,fun b hb hl=>?_⟩,?_,?_⟩,⟨?_⟩⟩
 · intro id ht ha o ho;rcases ha with ⟨hi,ha⟩|⟨hi,ha⟩
   · by_cases hq:id∈q
     · obtain⟨k,hk,rfl⟩:=qx2 hq;by_cases hkm:k<m
       · exact(h2 k o hkm ho).rel
       · have:=h3 k o (by omega) hk ho;subst this;trivial
     · rw[h1 id hi hq] at ho;exact(p.st.objs id ht ha o ho).mono hle ha (p.st.blk id ht ha o ho) fun hl hb=>hsame _ ((p.st.objs id ht ha o ho).lt hl hb) (hapart id hq ht ha ⟨hb,o,ho,hl⟩)
   · obtain⟨k,hk,rfl⟩:∃k,m<=k/\id=n+(k-m):=⟨id-n+m,by omega,by omega⟩;have e:n+(k-m)-n+m=k:=by omega
     rw[e] at ha;exact(h4 k o hk ha ho).rel
 · intro id ht ha o ho hb;rcases ha with ⟨hi,ha⟩|⟨hi,ha⟩
   · by_cases hq:id∈q
     · obtain⟨k,hk,rfl⟩:=qx2 hq;by_cases hkm:k<m
       · exact(h2 k o hkm ho).blk hb
       · have:=h3 k o (by omega) hk ho;subst this;cases hb
     · rw[h1 id hi hq] at ho;rw[(qdr hi).2.2.2];exact p.st.blk id ht ha o ho hb
   · obtain⟨k,hk,rfl⟩:∃k,m<=k/\id=n+(k-m):=⟨id-n+m,by omega,by omega⟩;have e:n+(k-m)-n+m=k:=by omega
     rw[e] at ha;exact(h4 k o hk ha ho).blk hb
 · intro id ht ha hl;rcases hcase id ha hl with ⟨g1,g2,g3,g4⟩|⟨k,g1,g2,g3,_⟩
   · exact(hin id g1 g2 ht g3 g4).1
   · rw[g3];exact h.st.own k trivial g1 g2
 · intro i j ti tj hi hj li lj he;rcases hcase i hi li with ⟨a1,a2,a3,a4⟩|⟨k,a1,a2,a3,a4⟩<;>rcases hcase j hj lj with ⟨b1,b2,b3,b4⟩|⟨k',b1,b2,b3,b4⟩
   · rw[(qdr a1).1,(qdr b1).1] at he;exact p.st.inj i j ti tj a3 b3 a4 b4 he
   · rw[(qdr a1).1,b3] at he;exact absurd he.symm ((hin i a1 a2 ti a3 a4).2 k' b1 b2)
   · rw[(qdr b1).1,a3] at he;exact absurd he ((hin j b1 b2 tj b3 b4).2 k a1 a2)
   · rw[a3,b3] at he;have:=h.st.inj k k' trivial trivial a1 b1 a2 b2 he;subst this;rcases a4 with ⟨a4,rfl⟩|⟨a4,rfl⟩<;>rcases b4 with ⟨b4,rfl⟩|⟨b4,rfl⟩<;>first|rfl|omega
 · refine hsame b hb fun k hk1 hkl e=>?_;have hk2:k<q.length:=by have:=hk1.1;omega
   exact hk _ (hT _ (qb8 hk2).1) hk1.2 (hsx k hk2 hkl) e
 · intro id ha hna hl;rcases hcase id ha hl with ⟨g1,g2,g3,g4⟩|⟨k,g1,g2,g3,g4⟩
   · exact absurd g3 hna
   · rcases g4 with ⟨g4,rfl⟩|⟨g4,rfl⟩
     · exact absurd (hrow k g4).1.2 hna
     · rw[g3];rcases h.new k g4 g1 g2 with g|⟨j,_,j1,j2,j3⟩
       · exact .inl g
       · have hj:j<q.length:=by have:=j1.1;omega
         exact .inr ⟨_,hT _ (qb8 hj).1,j1.2,hsx j hj j2,j3⟩
 · intro id ht ha hl;rcases hcase id (.inl ⟨hlt id ha,ha⟩) hl with ⟨g1,g2,g3,g4⟩|⟨k,g1,g2,g3,g4⟩
   · exact g4
   · rcases g4 with ⟨g4,rfl⟩|⟨g4,rfl⟩
     · exact hsx k (by omega) (h.old k g4 trivial (hrow k g4).1 g2)
     · have:=hlt _ ha;omega
 · rcases h.mem b hb hl with g|⟨k,_,g1,g2,g3⟩
   · exact .inl g
   · have hk:k<q.length:=by have:=g1.1;omega
     exact .inr ⟨_,hT _ (qb8 hk).1,g1.2,hsx k hk g2,g3⟩
 · intro id ha;rw[hN];rcases ha with ⟨hi,_⟩|⟨hi,ha⟩
   · omega
   · have:=h.bnd _ ha;omega
 · rw[hN];omega
 · intro id ha hna;rcases ha with ⟨_,ha⟩|⟨hi,_⟩
   · exact absurd ha hna
   · omega
end
end Go.Jx
end

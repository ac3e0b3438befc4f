/- Texts: Jo, Jp, Jq, Jr, Js, Jt, Jrd, Jrw, Jtab, Xty, Xrd, Ju, Jw, Jv, Jy, Jvs, Jra, Xb, Xe1, Xe2a, Xe2b, Xe2c, Xe2d. -/
import Derived.Test.YtanenikkloolfaaGreatDoorMy2
import Derived.SizedLaws
import Derived.ProofKit
import Derived.Deep.Slices
import Derived.Lib.SmallJoins
import Derived.Carry
import Derived.Test.YtanenikkloolfaaGreatDoorProg
import Derived.KernelRfl
import Derived.Test.YtanenikkloolfaaGreatDoorRows
import Derived.OpenShut
import Derived.LaidMore
import Derived.Lay
import Derived.Test.YtanenikkloolfaaGreatDoorMy1
import Derived.Laws.RangeAny
import Derived.Lib.Strings
import Derived.Lib.Slices
import Derived.Lib.Walk
import Derived.Lib.Bytealg
import Derived.Lib.Builder
import Derived.Lib.UnsafeStr
import Derived.OwnWalk
import Derived.Shelf.RegionOpenPlain
import Derived.WalkKit
import Derived.Laws.Externs
set_option linter.unusedVariables false
section
namespace Go.Jx
open Go Go.Sx Go.RowKit
universe u

structure FI where
 nt:Nat
 res:List ResultVar
 body:Code
def FT (P:Program) (ft:Nat->Option FI):Prop:=∀f fi,ft f=some fi->∃fn,P.funcs[f]?=some fn/\fn.body=some fi.body/\fn.ntmps=fi.nt/\fn.results=fi.res.toArray/\(fn.name == "runtime.NumGoroutine") = false/\qap fi.body=true

def argGo:List IV->Nat->PT IV->PT IV
 | [],_,fr=>fr
 | v::vs,i,fr=>argGo vs (i+1) (fr.set v i)
theorem qu0:∀(vs:List IV) (i:Nat) (fr:PT IV) (t:Nat),slot (argGo vs i fr) t=if t<i then slot fr t else if t<i+vs.length then vs.getD (t-i) .unk else slot fr t
 | [],i,fr,t=>by
   simp only[argGo,List.length_nil,Nat.add_zero]
   by_cases h:t<i
   · rw[if_pos h]
   · rw[if_neg h,if_neg h]
 | v::vs,i,fr,t=>by
   unfold argGo
   rw[qu0 vs (i+1)]
   simp only[List.length_cons]
   by_cases h1:t<i
   · rw[if_pos (by omega),if_pos h1,qb5,if_neg (by omega)]
   · rw[if_neg h1]
     by_cases h2:t=i
     · subst h2
       rw[if_pos (by omega),if_pos (by omega),qb5,if_pos rfl]
       simp
     · rw[if_neg (by omega)]
       by_cases h3:t<i+1+vs.length
       · rw[if_pos h3,if_pos (by omega)]
         have:t-i=(t-(i+1))+1:=by omega
         rw[this];simp
       · rw[if_neg h3,if_neg (by omega),qb5,if_neg h2]
theorem FR.enter {E:Env} {nt:Nat} {vs:List IV} {us:List Value} (h:VRs E vs us) (hl:vs.length<=nt):FR E nt (argGo vs 0 .leaf) (us.toArray++Array.replicate (nt-us.toArray.size) undef):=by
 have hl2:=h.1
 refine⟨by simp;omega,fun t ht=>?_⟩
 rw[qu0,if_neg (by omega),Nat.zero_add,Nat.sub_zero]
 by_cases hv:t<vs.length
 · rw[if_pos hv]
   have:=h.2 t hv (by omega)
   have e1:vs.getD t .unk=vs[t]:=by simp[List.getD_eq_getElem?_getD,hv]
   have e2:(us.toArray++Array.replicate (nt-us.toArray.size) undef).getD t undef=us[t]'(by omega):=by
     rw[Array.getD_eq_getD_getElem?,Array.getElem?_append_left (by simp;omega)]
     simp[show t<us.length by omega]
   rw[e1,e2];exact this
 · rw[if_neg hv]
   have e2:(us.toArray++Array.replicate (nt-us.toArray.size) undef).getD t undef=undef:=by
     rw[Array.getD_eq_getD_getElem?,Array.getElem?_append_right (by simp;omega)]
     rw[Array.getElem?_replicate]
     split<;>rfl
   rw[e2]
   exact .unk _

section
variable {P : Program} {tt : Nat -> Option TI} {T : TW} {E : Env} {S : IS} {nt : Nat} {fr : PT IV}
theorem q2b {ty:TypeId} {id off:Nat} {ux:Value} {r:Res} (htt:TT P tt) (p:Pre T E S) (h:iload tt S ty (.ptr id off)=some r) (hr:tin T.r r.rd) (hx:VR E (.ptr id off) ux):∃u,(do loadVar ty (<- asAddr ux)).run P E.w=.ok u E.w/\VR E r.v u:=by
 simp only[iload] at h
 cases hx with
 | ptr hA =>
 have hconv:∀u,(Instr.loadAt ty (.pointer (some ⟨E.ρ id,off,none⟩))).run P E.w=.ok u E.w->(do loadVar ty (<- asAddr (.pointer (some ⟨E.ρ id,off,none⟩)))).run P E.w=.ok u E.w:=fun u hu=>by
   simp only[Instr.loadAt,Instr.sureAddr,Sem.run_bind,Sem.run_pure,Result.andThen_ok] at hu
   simp only[asAddr,Sem.run_bind,Sem.run_pure,Result.andThen_ok,hu]
 split at h
 · cases h
 rename_i ti hti
 have hty:=htt _ _ hti
 split at h<;>try cases h
 rotate_left
 · rename_i jj hcs
   cases hb:(Nat.beq off 1&&qax ti.und) with
   | false=>rw[hb] at h;cases h
   | true =>
     rw[hb,cond_true] at h;cases h
     simp only[Bool.and_eq_true] at hb
     have h1:=Nat.eq_of_beq_eq_true hb.1
     subst h1
     obtain⟨q,v,k1,k2,k3⟩:=p.st.objs id (qac hr) hA _ hcs
     exact⟨v,hconv v (qep hty hb.2 ((qj4 k1 1).trans rfl)),k3⟩
 rename_i cs hcs
 cases hag:qax ti.und with
 | true =>
   rw[hag,cond_true] at h
   split at h<;>cases h
   rename_i v hv
   obtain⟨cells,t,h1,h2,h3,h4⟩:=qca p (qac hr) hA hcs
   obtain⟨u,h5,h6⟩:=qxk h1 h4 hv
   exact⟨u,hconv u (qep hty hag h5),h6⟩
 | false =>
   rw[hag,cond_false] at h
   cases hb:Nat.ble (off+ti.sz) cs.length with
   | false=>rw[hb] at h;cases h
   | true =>
     rw[hb,cond_true] at h
     cases h
     have hle:=Nat.le_of_ble_eq_true hb
     obtain⟨cells,t,h1,h2,h3,h4⟩:=qca p (qac hr) hA hcs
     have h5:=(h4.drop off).take ti.sz
     have hlen:(((cells.toList.take cs.length).drop off).take ti.sz).length=ti.sz:=by simp;omega
     refine⟨.agg (((cells.toList.take cs.length).drop off).take ti.sz).toArray,hconv _ (qin hty hag rfl hlen fun j hj=>?_),.agg h5.1 h5.2⟩
     have hc:E.w.cell? ⟨E.ρ id,off+j,none⟩=cells.toList[off+j]?:=by simp[World.cell?,h1]
     rw[hc,List.getElem?_take,if_pos hj,List.getElem?_drop,List.getElem?_take,if_pos (show off+j<cs.length by omega)]
def ires (tt:Nat->Option TI) (nt:Nat) (fr:PT IV) (S:IS):List ResultVar->Option (List IV × Nat)
 | []=>some ([],0)
 | .tmp t::l=>cond (Nat.blt t nt) (match ires tt nt fr S l with
   | some (vs,rd)=>some (slot fr t::vs,rd)
   | none=>none) none
 | .cell t ty::l=>cond (Nat.blt t nt) (match (match slot fr t with|.ptr id off=>iload tt S ty (.ptr id off)|_=>none) with
   | some r=>match ires tt nt fr S l with
     | some (vs,rd)=>some (r.v::vs,r.rd ||| rd)
     | none=>none
   | none=>none) none
theorem qj8 (htt:TT P tt) (p:Pre T E S) {tmps:Array Value} (hf:FR E nt fr tmps):∀{l:List ResultVar} {vs:List IV} {rd:Nat},ires tt nt fr S l=some (vs,rd)->tin T.r rd->∃us,(l.mapM (qg3 tmps)).run P E.w=.ok us E.w/\VRs E vs us
 | [],vs,rd,h,hr=>by cases h;exact⟨[],rfl,VRs.nil⟩
 | .tmp t::l,vs,rd,h,hr=>by
   unfold ires at h
   cases hb:Nat.blt t nt with
   | false=>rw[hb] at h;cases h
   | true =>
   rw[hb,cond_true] at h
   split at h<;>cases h
   rename_i vs rd hvs
   obtain⟨us,h1,h2⟩:=qj8 htt p hf hvs hr
   refine⟨tmps.getD t undef::us,?_,VRs.cons (hf.get t (by simpa using hb)) h2⟩
   simp only[List.mapM_cons,Sem.run_bind,qg3,Sem.run_pure,Result.andThen_ok,h1]
 | .cell t ty::l,vs,rd,h,hr=>by
   unfold ires at h
   cases hb:Nat.blt t nt with
   | false=>rw[hb] at h;cases h
   | true =>
   rw[hb,cond_true] at h
   split at h<;>try cases h
   rename_i r hl
   split at h<;>cases h
   rename_i vs rd hvs
   obtain⟨t1,t2⟩:=qak hr
   obtain⟨us,h1,h2⟩:=qj8 htt p hf hvs t2
   split at hl<;>try cases hl
   rename_i id off hsl
   have hft:=hf.get t (by simpa using hb)
   rw[hsl] at hft
   obtain⟨u,k1,k2⟩:=q2b htt p hl t1 hft
   refine⟨u::us,?_,VRs.cons k2 h2⟩
   have k1':(qg3 tmps (.cell t ty)).run P E.w=.ok u E.w:=k1
   simp only[List.mapM_cons,Sem.run_bind,k1',Result.andThen_ok,h1,Sem.run_pure]
def tupI:List IV->IV
 | [v]=>v
 | vs=>.tup vs
theorem qy1 {fn:Func} {rs:List ResultVar} {tmps:Array Value} {us:List Value} {w:World} (hr:fn.results=rs.toArray) (h:(rs.mapM (qg3 tmps)).run P w=.ok us w):(results fn tmps).run P w=.ok (tupOf us) w:=by
 have e:results fn tmps=(do
     let vs <- rs.toArray.mapM (qg3 tmps)
     pure (if h:vs.size=1 then vs[0] else .tuple vs)):=by
   unfold results;rw[hr];rfl
 rw[e,List.mapM_toArray]
 simp only[Sem.run_bind,qwq,h,Result.andThen_ok,Sem.run_pure]
 cases us with
 | nil=>simp [tupOf]
 | cons v vs=>cases vs<;>simp [tupOf]
theorem qsc {vs:List IV} {us:List Value} (h:VRs E vs us):VR E (tupI vs) (tupOf us):=by
 cases vs with
 | nil=>have:=h.1;cases us<;>simp at this;exact .tup (us:=[]) rfl (fun i h=>by simp at h)
 | cons v vs =>
   obtain⟨u,us,rfl,h1,h2⟩:=h.inv
   cases vs with
   | nil=>have:=h2.1;cases us<;>simp at this;exact h1
   | cons v2 vs =>
     obtain⟨u2,us,rfl,h3,h4⟩:=h2.inv
     exact .tup h.1 h.2

def qc8:List Nat->IS->Option (IS × Nat)
 | [],S=>some (S,0)
 | D::ds,S=>match S.heap.get D with
   | some (.defs true)=>match qc8 ds (S.set D (.defs false)) with
     | some (S',wr)=>some (S',2 ^ D ||| wr)
     | none=>none
   | _=>none
structure Env.Lc (E E':Env):Prop where
 alw:∀id,E.A id->E'.A id/\E'.ρ id=E.ρ id/\E'.κ id=E.κ id/\E'.hd id=E.hd id/\E'.hb id=E.hb id
 kc:∀(b:Nat) (cells:Array Value) (t:TypeId) (fz:Nat × Nat),b ∉ E.m->E.w.heap[b]?=some (.cells cells t fz)->b ∉ E'.m/\E'.w.heap[b]?=some (.cells cells t fz)
theorem VR.lc {E E':Env} (e:E.Lc E') {v:IV} {u:Value} (h:VR E v u):VR E' v u:=by
 induction h with
 | unk u=>exact .unk u
 | bool b=>exact .bool b
 | int k n h=>exact .int k n h
 | str s h=>exact .str s h
 | lst0 h=>exact .lst0 h
 | lst us h1 h2 h3 hb hh hc _ ih =>
   obtain⟨k1,k2⟩:=e.kc _ _ _ _ hb hh
   exact .lst us h1 h2 h3 k1 k2 hc ih
 | eptr us hb hh hc _ ih =>
   obtain⟨k1,k2⟩:=e.kc _ _ _ _ hb hh
   exact .eptr us k1 k2 hc ih
 | arr hA hh=>obtain⟨a1,a2,a3,a4,a5⟩:=e.alw _ hA;exact .arr a1 (a4.trans hh)
 | aptr hA=>obtain⟨a1,a2,_⟩:=e.alw _ hA;rw[<- a2];exact .aptr a1
 | nilsl=>exact .nilsl
 | sl cap hA h1 h2 h3 h4 h5 =>
   obtain⟨a1,a2,a3,_⟩:=e.alw _ hA
   rw[<- a2];exact .sl cap a1 h1 h2 (by rw[a3];exact h3) h4 (by rw[a3];exact h5)
 | nilptr=>exact .nilptr
 | gp hg=>exact .gp hg
 | ptr hA=>obtain⟨a1,a2,_⟩:=e.alw _ hA;rw[<- a2];exact .ptr a1
 | nilmap=>exact .nilmap
 | map hA=>obtain⟨a1,a2,_⟩:=e.alw _ hA;rw[<- a2];exact .map a1
 | nilfn=>exact .nilfn
 | fn hl _ ih=>exact .fn hl ih
 | yield hA=>obtain⟨a1,a2,_⟩:=e.alw _ hA;rw[<- a2];exact .yield a1
 | nili=>exact .nili
 | iface _ ih=>exact .iface ih
 | agg hl _ ih=>exact .agg hl ih
 | tup hl _ ih=>exact .tup hl ih
theorem VRs.lc {E E':Env} (e:E.Lc E') {cs:List IV} {us:List Value} (h:VRs E cs us):VRs E' cs us:=⟨h.1,fun i a b=>(h.2 i a b).lc e⟩
theorem FR.lc {E E':Env} (e:E.Lc E') {n:Nat} {fr:PT IV} {tmps:Array Value} (h:FR E n fr tmps):FR E' n fr tmps:=⟨h.size,fun t ht=>(h.get t ht).lc e⟩
theorem ARel.lc {E E':Env} (e:E.Lc E') {c:TC} {l:List (El c)} {cells:Array Value} (h:ARel E c l cells):ARel E' c l cells:=by
 obtain⟨us,h1,h2⟩:=h;exact⟨us,h1,fun i a j b=>(h2 i a j b).lc e⟩
theorem OR.lc {E E':Env} (e:E.Lc E') {id:Nat} {o:IObj} (hA:E.A id) (hB:o.blk=true->E.hb id=true) (hs:o.live=true->E.hb id=true->E'.w.heap[E.ρ id]?=E.w.heap[E.ρ id]?) (h:OR E id o):OR E' id o:=by
 obtain⟨a1,a2,a3,a4,a5⟩:=e.alw id hA
 cases o with
 | dead=>trivial
 | frz c l=>show VR E' (.lst c l) (E'.hd id);rw[a4];exact VR.lc e h
 | row cs=>obtain⟨cells,t,h1,h2,h3,h4⟩:=h;exact⟨cells,t,by rw[a2,hs rfl (hB rfl),h1],by rw[a3,h2],h3,h4.lc e⟩
 | arr c l =>
   obtain⟨a,cap,h1,h2,h3,h4,h5⟩:=h
   refine⟨a,cap,by rw[a4,h1],h2,h3,h4,?_⟩
   rcases h5 with ⟨h5,h6⟩|⟨h5,h6,cells,t,h7,h8,h9⟩
   · exact .inl ⟨by rw[a5,h5],h6⟩
   · exact .inr ⟨by rw[a5,h5],by rw[a2,h6],cells,t,by rw[a2,hs rfl h5,h7],h8,h9.lc e⟩
 | map es=>obtain⟨ents,c,h1,h2,h3⟩:=h;exact⟨ents,c,by rw[a2,hs rfl (hB rfl),h1],h2.lc e,h3.lc e⟩
 | tmap k v es=>obtain⟨ents,c,h1,h2,h3⟩:=h;exact⟨ents,c,by rw[a2,hs rfl (hB rfl),h1],h2.lc e,h3.lc e⟩
 | iter s p=>show _/\_;rw[a2,hs rfl (hB rfl)];exact h
 | defs on=>show _=_;rw[a2,hs rfl (hB rfl)];exact h
 | bld j=>obtain⟨p,v,h1,h2,h3⟩:=h;exact⟨p,v,by rw[a2,hs rfl (hB rfl),h1],by rw[a2];exact h2,h3.lc e⟩
 | loop st pend nt fr ps assign body D =>
   obtain⟨fn,tmps,h1,h2,h3⟩:=h
   obtain⟨b1,b2,_⟩:=e.alw D h3
   exact⟨fn,tmps,by rw[a2,hs rfl (hB rfl),h1,b2],h2.lc e,b1⟩
theorem q0t {B:Nat} {E0:Env} {S0':IS} {b:Nat} (p:Pre T E S) (hB:E0.w.heap.size<=b) (hm:b ∉ E.m) (hh:E.w.heap[b]?=some (.deferred (some []))) (k:PostB B T E0 S0' E S) :
   PostB B T E0 S0' (E.at_ (E.w.putObj b (.deferred none))) S/\Pre T (E.at_ (E.w.putObj b (.deferred none))) S/\E.Lc (E.at_ (E.w.putObj b (.deferred none))):=by
 have hlc:E.Lc (E.at_ (E.w.putObj b (.deferred none))):=⟨fun id h=>⟨h,rfl,rfl,rfl,rfl⟩,fun b' cells t fz h1 h2=>⟨h1,by
   show (E.w.putObj b (.deferred none)).heap[b']?=_
   rw[World.putObj_heap_other (fun e=>by rw[e] at h2;rw[hh] at h2;cases h2)]
   exact h2⟩⟩
 have hst:St T.r (E.at_ (E.w.putObj b (.deferred none))) S.H:=by
   refine⟨fun j ht ha o hj=>?_,p.st.blk,p.st.own,p.st.inj,fun b' hb'=>?_⟩
   · refine(p.st.objs j ht ha o hj).lc hlc ha (p.st.blk j ht ha o hj) fun hl hb=>?_
     have:=p.st.own j ht ha ⟨hb,o,hj,hl⟩
     exact World.putObj_heap_other (fun e=>hm (by rw[<- e];exact this))
   · show b'<(E.w.putObj b (.deferred none)).heap.size
     have:=p.st.lo b' hb'
     simpa using this
 refine⟨⟨hst,k.os,k.tape,k.output,?_,fun b' hb' hn=>?_,k.alw,k.new,k.old,k.memo,k.mem,k.bnd,k.le,k.fr⟩,⟨hst,p.bnd,p.nw,⟨fun b' hb'=>?_⟩⟩,hlc⟩
 · show _<=(E.w.putObj b (.deferred none)).heap.size
   have:=k.size
   simpa using this
 · show (E.w.putObj b (.deferred none)).heap[b']?=_
   rw[World.putObj_heap_other (by omega)]
   exact k.same b' hb' hn
 · obtain⟨h1,o,h2,h3⟩:=p.gl.h b' hb'
   refine⟨h1,o,?_,h3⟩
   show (E.w.putObj b (.deferred none)).heap[b']?=_
   rw[World.putObj_heap_other (fun e=>by
     rw[e,hh] at h2
     obtain⟨cells,t,fz,h4,_⟩:=h3
     rw[h4] at h2;cases h2)]
   exact h2
theorem qv4 {fn:Func} {tmps:Array Value} {R:Ending->World->Prop} {B:Nat} {E0:Env} {S0':IS}:∀{hid:List Nat} {E:Env},Pre T E S->PostB B T E0 S0' E S->hid.Nodup->(∀b∈hid,E0.w.heap.size<=b/\b ∉ E.m/\E.w.heap[b]?=some (.deferred (some []))) ->
   (∀E',PostB B T E0 S0' E' S->Pre T E' S->(∀v u,VR E v u->VR E' v u)->LeavesInM Fence.wide 0 P fn tmps R [] .returning E'.w)->LeavesInM Fence.wide 0 P fn tmps R (hidL hid) .returning E.w
 | [],E,p,k,_,_,hk=>hk E k p fun _ _ h=>h
 | b::hid,E,p,k,hn,hh,hk=>by
   obtain⟨h1,h2,h3⟩:=hh b List.mem_cons_self
   obtain⟨g1,g2,g3⟩:=q0t p h1 h2 h3 k
   obtain⟨n1,n2⟩:=List.nodup_cons.1 hn
   refine⟨by simp,.inl ⟨b,_,rfl,run_takeDeferred h3,?_⟩⟩
   refine qv4 (E:=E.at_ (E.w.putObj b (.deferred none))) g2 g1 n2 (fun b' hb'=>?_) fun E' k1 k2 k3=>hk E' k1 k2 fun v u hv=>k3 v u (hv.lc g3)
   obtain⟨c1,c2,c3⟩:=hh b' (List.mem_cons_of_mem _ hb')
   refine⟨c1,c2,?_⟩
   show (E.w.putObj b (.deferred none)).heap[b']?=_
   rw[World.putObj_heap_other (fun e=>n1 (by rw[<- e];exact hb'))]
   exact c3
theorem qm2 {fn:Func} {tmps:Array Value} {R:Ending->World->Prop} {B N:Nat} {E0:Env} {S0':IS} (hN:E0.w.heap.size<=N) (hT:∀id,B<=id->T.w id):∀{ds:List Nat} {S S':IS} {E:Env} {dl:List Deferred} {wr:Nat},Pre T E S->DS N E ds dl->PostB B T E0 S0' E S->qc8 ds S=some (S',wr)->tin T.w wr ->
   (∀E',PostB B T E0 S0' E' S'->Pre T E' S'->(∀v u,VR E v u->VR E' v u)->LeavesInM Fence.wide 0 P fn tmps R [] .returning E'.w)->LeavesInM Fence.wide 0 P fn tmps R dl .returning E.w
 | [],S,S',E,dl,wr,p,hd,k,h,hw,hk=>by
   cases h
   obtain⟨_,_,hid,h3,h4,h5⟩:=hd
   rw[h3]
   exact qv4 p k h4 (fun b hb=>⟨Nat.le_trans hN (h5 b hb).1,(h5 b hb).2⟩) hk
 | D::ds,S,S',E,dl,wr,p,hd,k,h,hw,hk=>by
   unfold qc8 at h
   split at h<;>try cases h
   rename_i hobj
   split at h<;>cases h
   rename_i S' wr hm
   obtain⟨t1,t2⟩:=qak hw
   obtain⟨d1,d2,hid,d3,d4,d5⟩:=hd
   have hA:=(d2 D List.mem_cons_self).1
   have g1:E.w.heap[E.ρ D]?=some (.deferred (some [])):=p.st.objs D (T.sub _ (qac t1)) hA _ hobj
   have hL:Live E S.H D:=⟨p.st.blk D (T.sub _ (qac t1)) hA _ hobj rfl,_,hobj,rfl⟩
   obtain⟨q1,q2⟩:=Post.write p (o':=.defs false) (qac t1) hA hL (Upd.putObj E.w (E.ρ D) (.deferred none)) (World.putObj_heap_same (qaq g1))
   have hme:=p.st.own D (T.sub _ (qac t1)) hA hL
   rw[d3]
   refine⟨by simp,.inl ⟨E.ρ D,_,rfl,run_takeDeferred g1,?_⟩⟩
   refine qm2 hN hT (E:=E.at_ (E.w.putObj (E.ρ D) (.deferred none))) (q1.pre p) ⟨Nat.le_trans d1 q1.stp.size,fun D' hD'=>d2 D' (List.mem_cons_of_mem _ hD'),hid,rfl,d4,fun b hb=>?_⟩ (k.trans (PostB.of k.le hT q1 q2)) hm t2 fun E' k1 k2 k3=>hk E' k1 k2 fun v u hv=>k3 v u (hv.mono (q1.env p))
   obtain⟨c1,c2,c3⟩:=d5 b hb
   refine⟨c1,c2,?_⟩
   show (E.w.putObj (E.ρ D) (.deferred none)).heap[b]?=_
   rw[World.putObj_heap_other (fun e=>c2 (by rw[e];exact hme))]
   exact c3

def igc (S:IS) (q:Res):Res :=
 cond (Nat.beq (q.wr % 2 ^ S.next) 0&&low2 S.next q.v) ⟨q.v,S,q.rd % 2 ^ S.next,0⟩ ⟨q.v,q.S,q.rd % 2 ^ S.next,q.wr % 2 ^ S.next⟩
def Tgc (T:TW) (N:Nat) (h:∀id,N<=id->T.w id):TW:=⟨T.r,fun id=>N<=id,fun id hi=>T.sub _ (h id hi)⟩
theorem qri {T:Nat->Prop} {a N:Nat} (h:tin T (a % 2 ^ N)) (hn:∀id,N<=id->T id):tin T a:=fun j hj=>by
 rcases Nat.lt_or_ge j N with h'|h'
 · exact h j (by rw[Nat.testBit_mod_two_pow];simp [h',hj])
 · exact hn j h'
theorem qzn {a N:Nat} (h:a % 2 ^ N=0):tin (fun id=>N<=id) a:=fun j hj=>by
 rcases Nat.lt_or_ge j N with h'|h'
 · have:(a % 2 ^ N).testBit j=true:=by rw[Nat.testBit_mod_two_pow];simp [h',hj]
   rw[h] at this;simp at this
 · exact h'
theorem qze {q:Res} (p:Pre T E S) (hrd:tin T.r (igc S q).rd) (hwr:tin T.w (igc S q).wr):∃T':TW,Pre T' E S/\tin T'.r q.rd/\tin T'.w q.wr/\∀e w',RetE T' E S q e w'->RetE T E S (igc S q) e w':=by
 cases hb:(Nat.beq (q.wr % 2 ^ S.next) 0&&low2 S.next q.v) with
 | true =>
   have e:igc S q=⟨q.v,S,q.rd % 2 ^ S.next,0⟩:=by unfold igc;rw[hb];rfl
   rw[e] at hrd ⊢
   simp only[Bool.and_eq_true] at hb
   have hz:=Nat.eq_of_beq_eq_true hb.1
   refine⟨Tgc T S.next p.nw,⟨p.st,p.bnd,fun id h=>h,p.gl⟩,qri hrd (fun id h=>T.sub _ (p.nw id h)),qzn hz,fun e w' hR=>?_⟩
   obtain⟨u,E',rfl,rfl,k1,k2,k3⟩:=hR
   have hu:Upd [] E.w E'.w:=⟨k2.stp.os,k2.stp.tape,k2.stp.output,k2.stp.size,fun b hb _=>k2.stp.same b hb fun id ht ha _=>absurd (p.bnd id ha) (Nat.not_lt.2 ht)⟩
   obtain⟨q1,q2⟩:=Post.idle p hu
   have hlow:LowOK E' (E.at_ E'.w) S.next:=by
     refine⟨fun id hlt ha=>?_,fun b hb=>?_,rfl⟩
     · have hA:E.A id:=Classical.byContradiction fun hn=>absurd (k3.fr id ha hn) (by omega)
       obtain⟨a,b,c,d,e⟩:=k2.stp.alw id hA
       exact⟨hA,b.symm,c.symm,d.symm,e.symm⟩
     · rcases k2.stp.mem b hb (p.st.lo b hb) with h|⟨id,c1,c2,_⟩
       · exact h
       · exact absurd (p.bnd id c2) (Nat.not_lt.2 c1)
   exact⟨u,E.at_ E'.w,rfl,rfl,qdy hlow hb.2 k1,q1,q2⟩
 | false =>
   have e:igc S q=⟨q.v,q.S,q.rd % 2 ^ S.next,q.wr % 2 ^ S.next⟩:=by unfold igc;rw[hb];rfl
   rw[e] at hrd hwr ⊢
   exact⟨T,p,qri hrd (fun id h=>T.sub _ (p.nw id h)),qri hwr p.nw,fun e w' hR=>hR⟩
theorem qvl {q:Res} (h:FrR S q):FrR S (igc S q):=by
 unfold igc
 cases (Nat.beq (q.wr % 2 ^ S.next) 0&&low2 S.next q.v) with
 | true=>exact⟨Nat.le_refl _,fun _ _ _=>rfl⟩
 | false =>
   refine⟨h.1,fun id hid hw=>h.2 id hid ?_⟩
   have hw:(q.wr % 2 ^ S.next).testBit id=false:=hw
   rw[Nat.testBit_mod_two_pow] at hw
   simpa [hid] using hw
end
end Go.Jx
end

section
namespace Go.Jx
open Go Go.Sx Go.RowKit
universe u

def FrX (S S':IS) (wr:Nat):Prop:=S.next<=S'.next/\∀id,id<S.next->wr.testBit id=false->S'.H id=S.H id
theorem FrX.refl (S:IS) (wr:Nat):FrX S S wr:=⟨Nat.le_refl _,fun _ _ _=>rfl⟩
theorem FrX.trans {S S1 S2:IS} {w1 w2:Nat} (h:FrX S S1 w1) (k:FrX S1 S2 w2):FrX S S2 (w1 ||| w2) :=
 ⟨Nat.le_trans h.1 k.1,fun id hid hb=>by
   simp only[Nat.testBit_or,Bool.or_eq_false_iff] at hb
   rw[k.2 id (Nat.lt_of_lt_of_le hid h.1) hb.2,h.2 id hid hb.1]⟩
theorem FrX.set (S:IS) (id:Nat) (o:IObj):FrX S (S.set id o) (2 ^ id) :=
 ⟨Nat.le_refl _,fun k hk hb=>by rw[IS.H_set,up_ne _ _ (qf2 hb)]⟩
theorem FrX.new (S:IS) (o:IObj) (wr:Nat):FrX S (S.new o) wr :=
 ⟨Nat.le_succ _,fun k hk hb=>by rw[IS.H_new,up_ne _ _ (by omega)]⟩
theorem FrX.newTrans {S S':IS} {o:IObj} {wr:Nat} (k:FrX (S.new o) S' wr):FrX S S' wr:=by
 have:=(FrX.new S o 0).trans k
 rwa [Nat.zero_or] at this
def FrXB (B:Nat) (S S':IS) (wr:Nat):Prop:=B<=S'.next/\∀id,id<B->wr.testBit id=false->S'.H id=S.H id
theorem FrX.toB {B:Nat} {S S':IS} {wr:Nat} (hB:B<=S.next) (h:FrX S S' wr):FrXB B S S' wr:=⟨Nat.le_trans hB h.1,fun id hid hb=>h.2 id (Nat.lt_of_lt_of_le hid hB) hb⟩
theorem FrXB.trans {B:Nat} {S S1 S2:IS} {w1 w2:Nat} (h:FrXB B S S1 w1) (k:FrXB B S1 S2 w2):FrXB B S S2 (w1 ||| w2) :=
 ⟨k.1,fun id hid hb=>by
   simp only[Nat.testBit_or,Bool.or_eq_false_iff] at hb
   rw[k.2 id hid hb.2,h.2 id hid hb.1]⟩
theorem FrXB.full {S S':IS} {wr:Nat} (h:FrXB S.next S S' wr):FrX S S' wr:=h
theorem qio {S S':IS} {c:TC} {v v':IV} {w:Nat} (h:coeV S c v=some (v',S',w)):FrX S S' w:=by
 unfold coeV at h
 split at h<;>try cases h
 · exact FrX.new _ _ _
 · split at h<;>try cases h
   rename_i c' l ho
   cases hb:TC.beq c' c<;>rw[hb] at h<;>cases h
   exact FrX.refl _ _
 · rename_i id off len s cap0
   split at h<;>try cases h
   rename_i cs ho
   cases hb:(Nat.beq off 0&&Nat.beq s (csz c)&&Nat.ble (len*s) cs.length&&Nat.ble (len*bsz c) 140737488355328&&notU8 c) with
   | false=>rw[hb] at h;cases h
   | true =>
   rw[hb,cond_true] at h
   split at h<;>cases h
   rename_i l _ _
   have:=(FrX.set S id .dead).trans (FrX.new (S.set id .dead) (.arr c l) 0)
   rwa [Nat.or_zero] at this
theorem qwa {nt:Nat}:∀(l:List (Nat × TC)) {fr fr':PT IV} {S S':IS} {w:Nat},coeS nt l fr S=some (fr',S',w)->FrX S S' w
 | [],fr,fr',S,S',w,h=>by cases h;exact FrX.refl _ _
 | (t,c)::l,fr,fr',S,S',w,h=>by
   simp only[coeS] at h
   cases hb:Nat.blt t nt with
   | false=>rw[hb] at h;cases h
   | true =>
   rw[hb,cond_true] at h
   split at h
   · cases h
   rename_i h1
   split at h<;>cases h
   rename_i h2
   exact(qio h1).trans (qwa l h2)
theorem q2w {fr:PT IV} {S S':IS} {t off:Nat} {c:TC} {w:Nat} (h:coeC1 fr S t off c=some (S',w)):FrX S S' w:=by
 unfold coeC1 at h
 split at h<;>try cases h
 split at h<;>try cases h
 split at h<;>try cases h
 split at h
 · cases h
 rename_i h1
 split at h<;>try cases h
 rename_i cs1 ho1
 cases hb:Nat.blt _ cs1.length with
 | false=>rw[hb] at h;cases h
 | true =>
 rw[hb,cond_true] at h;cases h
 exact(qio h1).trans (FrX.set _ _ _)
theorem qzj {nt:Nat} {fr:PT IV}:∀(l:List (Nat × Nat × TC)) {S S':IS} {w:Nat},coeC nt fr l S=some (S',w)->FrX S S' w
 | [],S,S',w,h=>by cases h;exact FrX.refl _ _
 | (t,off,c)::l,S,S',w,h=>by
   simp only[coeC] at h
   cases hb:Nat.blt t nt with
   | false=>rw[hb] at h;cases h
   | true =>
   rw[hb,cond_true] at h
   split at h
   · cases h
   rename_i h1
   split at h<;>cases h
   rename_i h2
   exact(q2w h1).trans (qzj l h2)
theorem qqd {kc vc:TC} {v:IV} {S S':IS} {w:Nat} (h:coeM1 S kc vc v=some (S',w)):FrX S S' w:=by
 unfold coeM1 at h
 split at h<;>try cases h
 split at h<;>try cases h
 · cases hb:(qb1 kc&&qb1 vc) with
   | false=>rw[hb] at h;cases h
   | true =>
   rw[hb,cond_true] at h
   split at h<;>cases h
   exact FrX.set _ _ _
 · exact FrX.refl _ _
theorem qw9 {nt:Nat} {fr:PT IV}:∀(l:List (Nat × TC × TC)) {S S':IS} {w:Nat},coeM nt fr l S=some (S',w)->FrX S S' w
 | [],S,S',w,h=>by cases h;exact FrX.refl _ _
 | (t,kc,vc)::l,S,S',w,h=>by
   simp only[coeM] at h
   cases hb:Nat.blt t nt with
   | false=>rw[hb] at h;cases h
   | true =>
   rw[hb,cond_true] at h
   split at h
   · cases h
   rename_i h1
   split at h<;>cases h
   rename_i h2
   exact(qqd h1).trans (qw9 l h2)
theorem qso {nt:Nat} {fr:PT IV}:∀(l:List (Nat × Nat × TC × TC)) {S S':IS} {w:Nat},coeD nt fr l S=some (S',w)->FrX S S' w
 | [],S,S',w,h=>by cases h;exact FrX.refl _ _
 | (t,off,kc,vc)::l,S,S',w,h=>by
   simp only[coeD] at h
   cases hb:Nat.blt t nt with
   | false=>rw[hb] at h;cases h
   | true =>
   rw[hb,cond_true] at h
   split at h
   · cases h
   split at h
   · cases h
   rename_i h1
   split at h<;>cases h
   rename_i h2
   exact(FrX.refl S _).trans ((qqd h1).trans (qso l h2))
theorem qul {S:IS} {B:Nat}:∀{k id:Nat},id<k->(qjg S B k).testBit id=false->∀o,S.heap.get id=some o->lowO B o=true
 | 0,id,h,_,o,_=>absurd h (by omega)
 | k+1,id,h,hb,o,ho=>by
   unfold qjg at hb
   rw[Nat.testBit_or,Bool.or_eq_false_iff] at hb
   by_cases e:id=k
   · subst e
     have h2:=hb.2
     rw[ho] at h2
     cases hl:lowO B o with
     | true=>rfl
     | false=>simp only[hl,cond_false,Nat.testBit_two_pow_self] at h2;cases h2
   · exact qul (by omega) hb.1 o ho
theorem qtk:∀{ds:List Nat} {S S':IS} {w:Nat},sealD ds S=some (S',w)->FrX S S' w
 | [],S,S',w,h=>by cases h;exact FrX.refl _ _
 | D::ds,S,S',w,h=>by
   unfold sealD at h
   split at h<;>try cases h
   split at h<;>cases h
   rename_i h1
   exact(FrX.set _ _ _).trans (qtk h1)
theorem q0n {nt B:Nat} {m:Option Nm} {fr:PT IV} {S:IS} {ds:List Nat} {x:NRes} (hB:B<=S.next) (h:inorm nt m B fr S ds=some x):FrXB B S x.S x.wr:=by
 unfold inorm at h
 split at h
 · cases h;exact(FrX.refl _ _).toB hB
 rename_i m
 cases hfo:m.fo with
 | true=>rw[hfo,cond_true] at h;cases h;exact(FrX.refl _ _).toB hB
 | false =>
 rw[hfo,cond_false] at h
 split at h
 · cases h
 rename_i fr1 S1 w1 h1
 split at h
 · cases h
 rename_i S2 w2 h2
 split at h
 · cases h
 rename_i S3 w3 h3
 split at h
 · cases h
 rename_i S4 w4 h4
 split at h
 · cases h
 rename_i S5 w5 h5
 simp only at h
 generalize clos S5 B 1000 (m.keep.flatMap (fun t=>ids2 (slot fr1 t))++qi1 S5 B) []=q at h
 cases hb:(ndB q&&q.all (fun id=>Nat.ble B id)) with
 | false=>rw[hb] at h;cases h
 | true =>
 rw[hb,cond_true] at h;cases h
 have f4:=((qwa _ h1).trans ((qzj _ h2).trans ((qw9 _ h3).trans ((qso _ h4).trans (qtk h5))))).toB hB
 refine f4.trans ⟨Nat.le_add_right _ _,fun id hid hbit=>?_⟩
 rw[qnv,if_pos hid]
 unfold IS.H
 cases ho:S5.heap.get id with
 | none=>rfl
 | some o=>simp only[qd4,qul hid hbit o ho,cond_true]
section
variable {P : Program} {tt : Nat -> Option TI} {T : TW} {nt lf : Nat} {cl : Cl} {F : Fence} {round : Option Nat} {nm : Nat -> Option Nm} {B : Nat}
theorem qpd (hcl:ClFr cl) {ops:List Oper}:∀{l:List Oper} {fr:PT IV} {S:IS} {q:FRes},iseq P tt nt cl ops l fr S=some q->FrX S q.S q.wr
 | [],fr,S,q,h=>by cases h;exact FrX.refl _ _
 | o::l,fr,S,q,h=>by
   unfold iseq at h
   cases hgk:gOK ops fr o.guard with
   | false=>rw[hgk] at h;cases h
   | true =>
   rw[hgk,cond_true] at h
   cases hw:wantI ops nt fr o.guard with
   | true =>
     rw[hw,cond_true] at h
     split at h
     · cases h
     rename_i r hr
     split at h<;>cases h
     rename_i q hq
     exact FrX.trans (qmg hcl _ hr) (qpd hcl hq)
   | false=>rw[hw,cond_false] at h;exact qpd hcl h
theorem qqo (hcl:ClFr cl) {ops:List Oper}:∀{l:List Oper} {fr:PT IV} {S:IS} {q:Recs},irecs P tt nt cl ops l fr S=some q->FrX S q.S (orWr q.l)
 | [],fr,S,q,h=>by cases h;exact FrX.refl _ _
 | o::l,fr,S,q,h=>by
   unfold irecs at h
   cases hgk:gOK ops fr o.guard with
   | false=>rw[hgk] at h;cases h
   | true =>
   rw[hgk,cond_true] at h
   cases hw:wantI ops nt fr o.guard with
   | true =>
     rw[hw,cond_true] at h
     split at h
     · cases h
     rename_i r hr
     split at h<;>cases h
     rename_i q hq
     exact FrX.trans (qmg hcl _ hr) (qqo hcl hq)
   | false =>
     rw[hw,cond_false] at h
     split at h<;>cases h
     rename_i q hq
     have:=qqo hcl hq
     show FrX S q.S (0 ||| orWr q.l)
     rw[Nat.zero_or];exact this
theorem iany_fr (hcl:ClFr cl) {ops:List Oper} {fr:PT IV} {S:IS} {q:FRes} (h:iany P tt nt cl ops fr S=some q):FrX S q.S q.wr:=by
 unfold iany at h
 split at h
 · cases h
 rename_i q0 hq
 cases hc:ichk q0.l q0.S (befs ops []) [] with
 | true=>rw[hc,cond_true] at h;cases h;exact qqo hcl hq
 | false=>rw[hc] at h;cases h
theorem qsr (hcl:ClFr cl) {f:Nat} {caps:List IV} {S:IS} {id:Nat} {fr:PT IV} {ds:List Nat} {rd:Nat} {r:CRes} (h:ifin cl f caps S id fr ds rd=some r):FrX S r.S r.wr:=by
 unfold ifin at h
 split at h
 · cases h
 rename_i r1 hr1
 have h1:FrX S r1.S r1.wr:=hcl _ _ _ _ hr1
 split at h<;>try cases h
 split at h
 · cases h
 · split at h
   · cases h;exact FrX.trans h1 (FrX.set _ _ _)
   · split at h<;>cases h
     exact FrX.trans h1 (FrX.set _ _ _)
theorem qrq {B:Nat} {S:IS} {r:CRes} (h:FrXB B S r.S r.wr):FrXB B S (mbR B r).S (mbR B r).wr:=by
 refine⟨h.1,fun id hid hb=>?_⟩
 have hb:(mb B r.wr).testBit id=false:=hb
 unfold mb at hb
 cases h0:Nat.beq B 0 with
 | true =>
   have:B=0:=Nat.eq_of_beq_eq_true h0
   omega
 | false=>rw[h0] at hb;exact h.2 id hid hb
theorem qrb (hz:frzF nm=false) (hcl:ClFr cl):∀(c:Code) {fr:PT IV} {S:IS} {ds:List Nat} {r:CRes},B<=S.next->icode P tt nm B nt cl lf round c fr S ds=some r->FrXB B S r.S r.wr:=by
 have eB:mB nm B=B:=by unfold mB;rw[hz];rfl
 intro c
 induction c with
 | skip=>intro fr S ds r hB h;cases h;exact(FrX.refl _ _).toB hB
 | label l=>intro fr S ds r hB h;cases h;exact(FrX.refl _ _).toB hB
 | exit id=>intro fr S ds r hB h;cases h;exact(FrX.refl _ _).toB hB
 | goto l=>intro fr S ds r hB h;cases h;exact(FrX.refl _ _).toB hB
 | ret=>intro fr S ds r hB h;cases h;exact(FrX.refl _ _).toB hB
 | refuse _=>intro fr S ds r hB h;cases h
 | region id ops draw =>
   intro fr S ds r hB h
   simp only[icode] at h
   have h0:=qci h;clear h;obtain⟨r,h,rfl⟩:=h0
   rw[eB]
   refine qrq ?_
   split at h
   · cases h
   rename_i x hx
   split at h<;>cases h
   rename_i q hq
   have h0:=q0n hB hx
   cases draw with
   | true=>rw[cond_true] at hq;exact h0.trans ((iany_fr hcl hq).toB h0.1)
   | false=>rw[cond_false] at hq;exact h0.trans ((qpd hcl hq).toB h0.1)
 | seq x y ihx ihy =>
   intro fr S ds r hB h
   simp only[icode] at h
   split at h
   · cases h
   rename_i r1 hr1
   split at h
   · split at h<;>cases h
     rename_i q hq
     exact FrXB.trans (ihx hB hr1) (ihy (ihx hB hr1).1 hq)
   · cases h;exact ihx hB hr1
 | cond c x y ihx ihy =>
   intro fr S ds r hB h
   simp only[icode] at h
   split at h<;>try cases h
   rename_i b hb
   cases b with
   | true=>exact ihx hB h
   | false=>exact ihy hB h
 | block id c ih =>
   intro fr S ds r hB h
   simp only[icode] at h
   split at h
   · cases h
   rename_i r1 hr1
   split at h
   · rename_i id' he
     cases hid:Nat.beq id' id with
     | true=>rw[hid,cond_true] at h;cases h;exact(ih hB hr1:FrXB B S r1.S r1.wr)
     | false=>rw[hid,cond_false] at h;cases h;exact ih hB hr1
   · cases h;exact ih hB hr1
 | scope c ih =>
   intro fr S ds r hB h
   simp only[icode] at h
   split at h
   · cases h
   rename_i r1 hr1
   split at h
   · cases h
   · cases h;exact ih hB hr1
 | loop c ih =>
   intro fr S ds r hB h
   simp only[icode] at h
   split at h
   · rename_i m hm
     have h0:=qci h;clear h;obtain⟨r,h,rfl⟩:=h0
     rw[eB]
     refine qrq ?_
     have key:∀(j:Nat) (fr:PT IV) (S:IS) (ds:List Nat) (r:CRes),B<=S.next->qbh (icode P tt nm B nt cl lf round c) m.1 m.2 j fr S ds=some r->FrXB B S r.S m.2/\r.wr=m.2:=by
       intro j
       induction j with
       | zero=>intro fr S ds r hB h;cases h
       | succ j ihj =>
         intro fr S ds r hB h
         unfold qbh at h
         split at h
         · cases h
         rename_i r1 hr1
         cases hb:(subm r1.rd m.1&&subm r1.wr m.2) with
         | false=>rw[hb] at h;cases h
         | true =>
         rw[hb,cond_true] at h
         simp only[Bool.and_eq_true] at hb
         have f1:=ih hB hr1
         have e:r1.wr ||| m.2=m.2:=Nat.eq_of_beq_eq_true hb.2
         split at h
         · obtain⟨f2,e2⟩:=ihj _ _ _ _ f1.1 h
           have:=f1.trans f2
           rw[e] at this
           exact⟨this,e2⟩
         · cases h
           have:=f1.trans (FrX.refl r1.S m.2 |>.toB f1.1)
           rw[e] at this
           exact⟨this,rfl⟩
     obtain⟨k1,k2⟩:=key _ _ _ _ _ hB h
     rw[k2];exact k1
   have key:∀(j:Nat) (fr:PT IV) (S:IS) (ds:List Nat) (r:CRes),B<=S.next->iiter (icode P tt nm B nt cl lf round c) j fr S ds=some r->FrXB B S r.S r.wr:=by
     intro j
     induction j with
     | zero=>intro fr S ds r hB h;cases h
     | succ j ihj =>
       intro fr S ds r hB h
       unfold iiter at h
       split at h
       · cases h
       rename_i r1 hr1
       split at h
       · split at h<;>cases h
         rename_i q hq
         exact FrXB.trans (ih hB hr1) (ihj _ _ _ _ (ih hB hr1).1 hq)
       · cases h;exact ih hB hr1
   exact key _ _ _ _ _ hB h
 | rangeFunc g ps assign body ih1 ih2 =>
   intro fr S ds r hB h
   simp only[icode] at h
   have h0:=qci h;clear h;obtain⟨r,h,rfl⟩:=h0
   rw[eB]
   refine qrq ?_
   split at h<;>try cases h
   split at h
   · exact(FrX.newTrans (FrX.newTrans (qsr hcl h))).toB hB
   · split at h<;>try cases h
     exact(FrX.newTrans (qsr hcl h)).toB hB

def setPs:List Nat->List IV->PT IV->PT IV
 | t::ts,v::vs,fr=>setPs ts vs (fr.set v t)
 | _,_,fr=>fr
theorem ql3 {E:Env}:∀{ps:List Nat} {vs:List IV} {us:List Value} {fr:PT IV} {tmps:Array Value},VRs E vs us->FR E nt fr tmps->FR E nt (setPs ps vs fr) ((ps.zip us).foldl (fun tmps (t,a)=>tmps.setIfInBounds t a) tmps)
 | [],vs,us,fr,tmps,hv,hf=>by simpa [setPs] using hf
 | t::ps,[],us,fr,tmps,hv,hf=>by
   have:=hv.1
   cases us with
   | nil=>simpa [setPs] using hf
   | cons u us=>simp at this
 | t::ps,v::vs,us,fr,tmps,hv,hf=>by
   obtain⟨u,us,rfl,h1,h2⟩:=hv.inv
   simp only[setPs,List.zip_cons_cons,List.foldl_cons]
   exact ql3 h2 (hf.put h1)
def endOf:IEx->Option Code
 | .normal=>none
 | .ret=>some .ret
 | .exit id=>some (.exit id)
 | .goto l=>some (.goto l)
def qcp (P:Program) (tt:Nat->Option TI) (cl:Cl) (lf:Nat) (id:Nat) (vs:List IV) (S:IS):Option Res :=
 match S.heap.get id with
 | some (.loop .ready _ nt fr ps assign body _)=>cond (Nat.beq vs.length ps.length&&qap assign&&qap body)
   (match icode P tt (fun _=>none) S.next nt cl lf (some id) assign (setPs ps vs fr) S [] with
   | none=>none
   | some r1=>match r1.e with
     | .normal=>match r1.S.heap.get id with
       | some (.loop .ready pend nt2 fr2 ps2 as2 bd2 D2)=>match icode P tt (fun _=>none) S.next nt cl lf (some id) body r1.fr (r1.S.set id (.loop .busy pend nt2 fr2 ps2 as2 bd2 D2)) r1.ds with
         | none=>none
         | some r2=>match r2.S.heap.get id with
           | some (.loop _ _ nt3 fr3 ps3 as3 bd3 D3)=>some ⟨.bool (endOf r2.e).isNone,r2.S.set id (.loop (if (endOf r2.e).isNone then .ready else .done) (endOf r2.e) nt3 fr3 ps3 as3 bd3 D3),2 ^ id ||| (r1.rd ||| r2.rd),(r1.wr ||| 2 ^ id) ||| (r2.wr ||| 2 ^ id)⟩
           | _=>none
       | _=>none
     | _=>none) none
 | _=>none
theorem q6d (hcl:ClFr cl) {id:Nat} {vs:List IV} {S:IS}:FrO S (qcp P tt cl lf id vs S):=by
 intro r h
 unfold qcp at h
 split at h<;>try cases h
 rename_i x nt fr ps assign body y hobj
 cases hb:(Nat.beq vs.length ps.length&&qap assign&&qap body) with
 | false=>rw[hb] at h;cases h
 | true =>
 rw[hb,cond_true] at h
 split at h
 · cases h
 rename_i r1 hr1
 split at h<;>try cases h
 split at h<;>try cases h
 split at h
 · cases h
 rename_i r2 hr2
 split at h<;>cases h
 have a1:=qrb rfl hcl _ (Nat.le_refl _) hr1
 have a3:=qrb (S:=r1.S.set id _) rfl hcl _ a1.1 hr2
 exact(a1.trans ((FrX.set r1.S id _).toB a1.1)).trans (a3.trans ((FrX.set r2.S id _).toB a3.1))
theorem q5t (hm:P.follows .mixedOrders=true) (hcl:ClOK P cl) (hfr:ClFr cl) (htt:TT P tt) {id:Nat} {vs:List IV} {S:IS} {r:Res} (h:qcp P tt cl lf id vs S=some r)
   (T:TW) (E:Env) (us:List Value) (p:Pre T E S) (hrd:tin T.r r.rd) (hwr:tin T.w r.wr) (hv:VRs E vs us) (hA:E.A id):YieldAt Fence.wide 0 P (E.ρ id) us.toArray E.w (RetE T E S r):=by
 unfold qcp at h
 split at h<;>try cases h
 rename_i pd nt fr ps assign body D hobj
 cases hb:(Nat.beq vs.length ps.length&&qap assign&&qap body) with
 | false=>rw[hb] at h;cases h
 | true =>
 rw[hb,cond_true] at h
 simp only[Bool.and_eq_true] at hb
 obtain⟨⟨hb1,hb2⟩,hb3⟩:=hb
 have hlen:=Nat.eq_of_beq_eq_true hb1
 split at h
 · cases h
 rename_i r1 hr1
 split at h<;>try cases h
 rename_i he1
 split at h<;>try cases h
 rename_i pend nt2 fr2 ps2 as2 bd2 D2 hobj1
 split at h
 · cases h
 rename_i r2 hr2
 split at h<;>cases h
 rename_i st3 pd3 nt3 fr3 ps3 as3 bd3 D3 hobj2
 obtain⟨t1,t2⟩:=qak hrd
 obtain⟨t3,t4⟩:=qak t2
 obtain⟨v1,v2⟩:=qak hwr
 obtain⟨v3,v4⟩:=qak v1
 obtain⟨v5,_⟩:=qak v2
 obtain⟨fn,tmps,g1,g2,g3⟩:=p.st.objs id (qac t1) hA _ hobj
 have hy:=run_yield (P:=P) (args:=us.toArray) g1 (by simp only[List.size_toArray];rw[<- hv.1,hlen])
 have hz:(ps.toArray.zip us.toArray).foldl (fun tmps (t,a)=>tmps.setIfInBounds t a) tmps=(ps.zip us).foldl (fun tmps (t,a)=>tmps.setIfInBounds t a) tmps:=by
   simp[List.zip_toArray]
 refine⟨fn,_,assign,body,hy,roundIn_of_wpIn trivial ?_⟩
 have hFp:(Fence.wide.inRound (E.ρ id)).plain=Fence.wide:=rfl
 refine qet (T:=T) (E:=E) (a:={ tmps:=_,defers:=[] }) (S:=S) (ds:=[]) (round:=some id) (B:=S.next) (fun h=>(by cases h)) hm hFp hcl hfr htt assign hb2 p (Nat.le_refl _) p.nw ?_ (DS.nil (N:=0) (Nat.zero_le _)) (fun _=>⟨rfl,hA,p.bnd id hA⟩) hr1 t3 v3 ?_
 · have:=ql3 (ps:=ps) hv g2
   rw[<- hz] at this;exact this
 intro E1 a1 k1 k2 kB
 obtain⟨k3,k4⟩:=kB.full p
 rw[he1]
 have p1:=k3.pre p
 have hle1:=k3.env p
 obtain⟨a1',a2',a3'⟩:=hle1.alw id hA
 obtain⟨fn1,tmps1,g1',g2',g3'⟩:=p1.st.objs id (qac t1) a1' _ hobj1
 rw[a2'] at g1'
 have hbg:=run_beginRound (P:=P) g1' rfl
 have hL:Live E1 r1.S.H id:=⟨p1.st.blk id (qac t1) a1' _ hobj1 rfl,_,hobj1,rfl⟩
 have hu1:Upd [E1.ρ id] E1.w (E1.w.putObj (E.ρ id) (.loop { state:=.busy,pending:=pend,fn:=fn1,tmps:=tmps1,params:=ps2.toArray,assign:=as2,body:=bd2,defers:=E1.ρ D2 })):=by rw[a2'];exact Upd.putObj _ _ _
 obtain⟨q1,q2⟩:=Post.write p1 (o':=.loop .busy pend nt2 fr2 ps2 as2 bd2 D2) (qac v4) a1' hL hu1
   ⟨fn1,tmps1,by
     rw[show (E1.at_ (E1.w.putObj (E.ρ id) (.loop { state:=.busy,pending:=pend,fn:=fn1,tmps:=tmps1,params:=ps2.toArray,assign:=as2,body:=bd2,defers:=E1.ρ D2 }))).ρ id=E.ρ id from a2']
     exact World.putObj_heap_same (qaq g1'),FR.mono (Env.at_le p1.st (qac v4) a1' hL hu1) g2',g3'⟩
 have p2:=q1.pre p1
 have hle2:=q1.env p1
 have q3:=Post.trans p k3 k4 q1
 have q4:=k4.trans q2 k3.le
 refine⟨_,hbg,?_⟩
 obtain⟨E2,hE2⟩:∃E2,E1.at_ (E1.w.putObj (E.ρ id) (.loop { state:=.busy,pending:=pend,fn:=fn1,tmps:=tmps1,params:=ps2.toArray,assign:=as2,body:=bd2,defers:=E1.ρ D2 }))=E2:=⟨_,rfl⟩
 have hw2:E1.w.putObj (E.ρ id) (.loop { state:=.busy,pending:=pend,fn:=fn1,tmps:=tmps1,params:=ps2.toArray,assign:=as2,body:=bd2,defers:=E1.ρ D2 })=E2.w:=by rw[<- hE2];rfl
 have hleE2:E.Le E2:=by rw[<- hE2];exact hle1.trans hle2
 rw[hE2] at p2 hle2 q3 q4
 show body.wpIn _ 0 P _ a1 (E1.w.putObj (E.ρ id) (.loop { state:=.busy,pending:=pend,fn:=fn1,tmps:=tmps1,params:=ps2.toArray,assign:=as2,body:=bd2,defers:=E1.ρ D2 }))
 rw[hw2]
 obtain⟨b1,b2,b3⟩:=hleE2.alw id hA
 refine qet (T:=T) (E:=E2) (a:=a1) (round:=some id) (B:=S.next) (fun h=>(by cases h)) hm hFp hcl hfr htt body hb3 p2 q3.le p.nw (k1.mono hle2) (k2.mono hle2 (by rw[<- hE2];exact q1.stp.size)) (fun _=>⟨by show some (E.ρ id)=some (E2.ρ id);rw[b2],b1,p.bnd id hA⟩) hr2 t4 v5 ?_
 intro E3 a3 m1 m2 mB
 obtain⟨q5,q6⟩:=PostB.full p ((PostB.of (Nat.le_refl _) p.nw q3 q4).trans mB)
 have p3:=q5.pre p
 have hle3:=q5.env p
 obtain⟨c1,c2,c3⟩:=hle3.alw id hA
 obtain⟨fn3,tmps3,g13,g23,g33⟩:=p3.st.objs id (qac t1) c1 _ hobj2
 rw[c2] at g13
 have hend:=fun j=>run_endRound (P:=P) j g13
 have hL3:Live E3 r2.S.H id:=⟨p3.st.blk id (qac t1) c1 _ hobj2 rfl,_,hobj2,rfl⟩
 have fin:∀(st:LoopState) (pe:Option Code),RetE T E S ⟨.bool pe.isNone,r2.S.set id (.loop st pe nt3 fr3 ps3 as3 bd3 D3),2 ^ id ||| (r1.rd ||| r2.rd),(r1.wr ||| 2 ^ id) ||| (r2.wr ||| 2 ^ id)⟩ (.returned (.bool pe.isNone)) (E3.w.putObj (E.ρ id) (.loop { state:=st,pending:=pe,fn:=fn3,tmps:=tmps3,params:=ps3.toArray,assign:=as3,body:=bd3,defers:=E3.ρ D3 })):=fun st pe=>by
   have hu3:Upd [E3.ρ id] E3.w (E3.w.putObj (E.ρ id) (.loop { state:=st,pending:=pe,fn:=fn3,tmps:=tmps3,params:=ps3.toArray,assign:=as3,body:=bd3,defers:=E3.ρ D3 })):=by rw[c2];exact Upd.putObj _ _ _
   obtain⟨z1,z2⟩:=Post.write p3 (o':=.loop st pe nt3 fr3 ps3 as3 bd3 D3) (qac v4) c1 hL3 hu3
     ⟨fn3,tmps3,by
       rw[show (E3.at_ (E3.w.putObj (E.ρ id) (.loop { state:=st,pending:=pe,fn:=fn3,tmps:=tmps3,params:=ps3.toArray,assign:=as3,body:=bd3,defers:=E3.ρ D3 }))).ρ id=E.ρ id from c2]
       exact World.putObj_heap_same (qaq g13),FR.mono (Env.at_le p3.st (qac v4) c1 hL3 hu3) g23,g33⟩
   exact⟨_,_,rfl,rfl,.bool _,Post.trans p q5 q6 z1,q6.trans z2 q5.le⟩
 cases he:r2.e with
 | normal=>exact⟨_,_,hend none,by simpa [he,endOf] using fin .ready none⟩
 | ret=>exact⟨_,_,hend (some .ret),by simpa [he,endOf] using fin .done (some .ret)⟩
 | exit i=>exact⟨_,_,hend (some (.exit i)),by simpa [he,endOf] using fin .done (some (.exit i))⟩
 | goto l=>exact⟨_,_,hend (some (.goto l)),by simpa [he,endOf] using fin .done (some (.goto l))⟩

def qb2 (tt:Nat->Option TI) (nt:Nat) (res:List ResultVar) (S0:IS) (r:CRes):Option Res :=
 match qc8 r.ds r.S with
 | none=>none
 | some (S',wr)=>match ires tt nt r.fr S' res with
   | none=>none
   | some (vs,rd)=>some (igc S0 ⟨tupI vs,S',r.rd ||| rd,r.wr ||| wr⟩)
def IEx.leaves:IEx->Bool
 | .normal=>true
 | .ret=>true
 | _=>false
def Calm (cl:Cl):Prop:=∀tgt vs S r,cl tgt vs S=some r->r.wr=0->low2 S.next r.v=true->r.S=S
abbrev Ex:=Nat->Option (Cl->List IV->IS->Option Res)
structure ExOK (P:Program) (ex:Ex):Prop where
 fn:∀f g,ex f=some g->∀cl,ClOK P cl->ClFr cl->Calm cl->∀vs S r,g cl vs S=some r->∀(T:TW) (E:Env) (us:List Value),Pre T E S->tin T.r r.rd->tin T.w r.wr->VRs E vs us->qaf P f/\CallsIn Fence.wide 0 P f us.toArray E.w (RetE T E S r)
 fr:∀f g,ex f=some g->∀cl,ClFr cl->∀vs S,FrO S (g cl vs S)
 calm:∀f g,ex f=some g->∀cl,Calm cl->∀vs S r,g cl vs S=some r->r.wr=0->low2 S.next r.v=true->r.S=S
def icall (P:Program) (tt:Nat->Option TI) (ft:Nat->Option FI) (nm:Nat->Nat->Option Nm) (ex:Ex) (lf:Nat):Nat->Cl
 | 0,_,_,_=>none
 | n+1,tgt,vs,S=>match tgt with
   | .yield id=>qcp P tt (icall P tt ft nm ex lf n) lf id vs S
   | .fn f=>match ex f with
     | some g=>g (icall P tt ft nm ex lf n) vs S
     | none=>match ft f with
       | none=>none
       | some fi=>cond (frzF (nm f)) none (cond (Nat.ble vs.length fi.nt) (match icode P tt (nm f) S.next fi.nt (icall P tt ft nm ex lf n) lf none fi.body (argGo vs 0 .leaf) S [] with
       | none=>none
       | some r=>cond r.e.leaves (qb2 tt fi.nt fi.res S r) none) none)
theorem qx6:∀{ds:List Nat} {S S':IS} {wr:Nat},qc8 ds S=some (S',wr)->FrX S S' wr
 | [],S,S',wr,h=>by cases h;exact FrX.refl _ _
 | D::ds,S,S',wr,h=>by
   unfold qc8 at h
   split at h<;>try cases h
   split at h<;>cases h
   rename_i S' wr hm
   exact FrX.trans (FrX.set _ _ _) (qx6 hm)
theorem q2y {res:List ResultVar} {S0:IS} {r:CRes} (h0:FrX S0 r.S r.wr):FrO S0 (qb2 tt nt res S0 r):=by
 intro q h
 unfold qb2 at h
 split at h
 · cases h
 rename_i S' wr hm
 split at h<;>cases h
 exact qvl (FrX.trans h0 (qx6 hm))
variable {ft : Nat -> Option FI} {nmt : Nat -> Nat -> Option Nm} {ex : Ex}
theorem qdi (hex:ExOK P ex):∀n,ClFr (icall P tt ft nmt ex lf n)
 | 0=>fun tgt vs S=>FrO.none
 | n+1=>fun tgt vs S=>by
   unfold icall
   cases tgt with
   | yield id=>exact q6d (qdi hex n)
   | fn f =>
     simp only
     split
     · rename_i g hg
       exact hex.fr f g hg _ (qdi hex n) vs S
     split
     · exact FrO.none
     rename_i fi hfi
     cases hz:frzF (nmt f) with
     | true=>exact FrO.none
     | false =>
     simp only[cond_false]
     apply FrO.cond
     · split
       · exact FrO.none
       rename_i r hr
       apply FrO.cond
       · exact q2y (qrb hz (qdi hex n) _ (Nat.le_refl _) hr).full
       · exact FrO.none
     · exact FrO.none
theorem q0z {id:Nat} {vs:List IV} {S:IS} {r:Res} (h:qcp P tt cl lf id vs S=some r) (hw:r.wr=0):False:=by
 unfold qcp at h
 split at h<;>try cases h
 rename_i pe nt fr ps assign body D ho
 cases hb:(Nat.beq vs.length ps.length&&qap assign&&qap body) with
 | false=>rw[hb] at h;cases h
 | true =>
 rw[hb,cond_true] at h
 split at h
 · cases h
 split at h<;>try cases h
 split at h<;>try cases h
 split at h
 · cases h
 split at h<;>cases h
 have h1:=(or_zero hw).1
 have h2:=(or_zero h1).2
 have:=Nat.one_le_two_pow (n:=id)
 omega
theorem qtg {S:IS} {q:Res} (hw:(igc S q).wr=0) (hv:low2 S.next (igc S q).v=true):(igc S q).S=S:=by
 unfold igc at hw hv ⊢
 cases hb:(Nat.beq (q.wr % 2 ^ S.next) 0&&low2 S.next q.v) with
 | true=>rfl
 | false =>
   rw[hb,cond_false] at hw hv
   rw[Bool.and_eq_false_iff] at hb
   rcases hb with hb|hb
   · rw[show q.wr % 2 ^ S.next=0 from hw] at hb;cases hb
   · rw[show low2 S.next q.v=true from hv] at hb;cases hb
theorem qyl (hex:ExOK P ex):∀n,Calm (icall P tt ft nmt ex lf n)
 | 0=>fun tgt vs S r h=>by cases h
 | n+1=>fun tgt vs S r h hw hv=>by
   unfold icall at h
   cases tgt with
   | yield id=>exact(q0z h hw).elim
   | fn f =>
     simp only at h
     split at h
     · rename_i g hg
       exact hex.calm f g hg _ (qyl hex n) vs S r h hw hv
     split at h
     · cases h
     rename_i fi hfi
     cases hz:frzF (nmt f) with
     | true=>rw[hz] at h;cases h
     | false =>
     rw[hz,cond_false] at h
     cases hb:Nat.ble vs.length fi.nt with
     | false=>rw[hb] at h;cases h
     | true =>
     rw[hb,cond_true] at h
     split at h
     · cases h
     rename_i r1 hr1
     cases hl:r1.e.leaves with
     | false=>rw[hl] at h;cases h
     | true =>
     rw[hl,cond_true] at h
     unfold qb2 at h
     split at h
     · cases h
     split at h<;>cases h
     exact qtg hw hv
theorem qy6 {fi:FI} {f:Nat} {nm:Nat->Option Nm} {vs:List IV} {S:IS} {r1:CRes} {r:Res} (hz:frzF nm=false) (hm:P.follows .mixedOrders=true) (htt:TT P tt)
   (hfi:∃fn,P.funcs[f]?=some fn/\fn.body=some fi.body/\fn.ntmps=fi.nt/\fn.results=fi.res.toArray/\(fn.name == "runtime.NumGoroutine") = false/\qap fi.body=true) (hcl:ClOK P cl) (hfr:ClFr cl)
   (hb:Nat.ble vs.length fi.nt=true) (hr1:icode P tt nm S.next fi.nt cl lf none fi.body (argGo vs 0 .leaf) S []=some r1) (hl:r1.e.leaves=true) (h:qb2 tt fi.nt fi.res S r1=some r)
   {T:TW} {E:Env} {us:List Value} (p:Pre T E S) (hrd:tin T.r r.rd) (hwr:tin T.w r.wr) (hv:VRs E vs us):qaf P f/\CallsIn Fence.wide 0 P f us.toArray E.w (RetE T E S r):=by
 unfold qb2 at h
 split at h
 · cases h
 rename_i S' wr hmk
 split at h<;>cases h
 rename_i vs' rd' hres
 obtain⟨fn,f1,f2,f3,f4,f5,f6⟩:=hfi
 refine⟨⟨fn,f1,by rw[f2];rfl,f5⟩,?_⟩
 obtain⟨T',p',t1,t2,hback⟩:=qze p hrd hwr
 obtain⟨u1,u2⟩:=qak t1
 obtain⟨u3,u4⟩:=qak t2
 refine callsIn_of_wp_marks f1 f2 trivial ?_
 refine qet (T:=T') (E:=E) (S:=S) (ds:=[]) (round:=none) (B:=S.next) (fun h=>by rw[hz] at h;cases h) hm rfl hcl hfr htt fi.body f6 p' (Nat.le_refl _) p'.nw ?_ (DS.nil (N:=E.w.heap.size) (Nat.le_refl _)) (fun _=>rfl) hr1 u1 u3 ?_
 · have:=FR.enter (nt:=fi.nt) hv (Nat.le_of_ble_eq_true hb)
   rw[f3];exact this
 intro E1 a1 k1 k2 kB
 obtain⟨k3,k4⟩:=kB.full p'
 have hlv:LeavesInM Fence.wide 0 P fn a1.tmps (RetE T E S (igc S ⟨tupI vs',S',r1.rd ||| rd',r1.wr ||| wr⟩)) a1.defers .returning E1.w:=by
   refine qm2 (E0:=E) (S0':=S) (B:=S.next) (Nat.le_refl _) p'.nw (k3.pre p') k2 kB hmk u4 fun E2 hq p2 hv=>?_
   obtain⟨us',h1,h2⟩:=qj8 htt p2 ⟨k1.size,fun t ht=>hv _ _ (k1.get t ht)⟩ hres u2
   have h3:=qy1 (P:=P) (w:=E2.w) f4 h1
   refine⟨tupOf us',h3,?_⟩
   exact hback _ _ ⟨_,E2,rfl,rfl,qsc h2,hq.full p'⟩
 cases he:r1.e with
 | normal=>rw[he] at *;exact hlv
 | ret=>exact hlv
 | exit i=>rw[he] at hl;cases hl
 | goto l=>rw[he] at hl;cases hl
theorem qfc (hm:P.follows .mixedOrders=true) (htt:TT P tt) (hft:FT P ft) (hex:ExOK P ex):∀n,ClOK P (icall P tt ft nmt ex lf n)
 | 0=>⟨fun _ _ _ _ h=>(by cases h),fun _ _ _ _ h=>(by cases h)⟩
 | n+1=>by
   refine⟨fun f vs S r h T E us p hrd hwr hv=>?_,fun id vs S r h T E us p hrd hwr hv hA=>?_⟩
   · unfold icall at h
     simp only at h
     split at h
     · rename_i g hg
       exact hex.fn f g hg _ (qfc hm htt hft hex n) (qdi hex n) (qyl hex n) vs S r h T E us p hrd hwr hv
     split at h
     · cases h
     rename_i fi hfi
     cases hz:frzF (nmt f) with
     | true=>rw[hz] at h;cases h
     | false =>
     rw[hz,cond_false] at h
     cases hb:Nat.ble vs.length fi.nt with
     | false=>rw[hb] at h;cases h
     | true =>
     rw[hb,cond_true] at h
     split at h
     · cases h
     rename_i r1 hr1
     cases hl:r1.e.leaves with
     | false=>rw[hl] at h;cases h
     | true =>
     rw[hl,cond_true] at h
     exact qy6 hz hm htt (hft f fi hfi) (qfc hm htt hft hex n) (qdi hex n) hb hr1 hl h p hrd hwr hv
   · unfold icall at h
     simp only at h
     exact q5t hm (qfc hm htt hft hex n) (qdi hex n) htt h T E us p hrd hwr hv hA

end
end Go.Jx
end

section
namespace Go.Jx
open Go Go.Sx Go.RowKit
universe u

def ElA:List TC->Type
 | []=>Unit
 | c::cs=>El c × ElA cs
def argV:(cs:List TC)->ElA cs->List IV
 | [],_=>[]
 | c::cs,x=>asIV c x.1::argV cs x.2
def ElR:List (Bool × TC)->Type
 | []=>Unit
 | (true,c)::cs=>List (El c) × ElR cs
 | (false,c)::cs=>El c × ElR cs
def resV:(cs:List (Bool × TC))->Nat->ElR cs->List IV
 | [],_,_=>[]
 | (true,c)::cs,n,x=>.arr n::resV cs (n+1) x.2
 | (false,c)::cs,n,x=>asIV c x.1::resV cs n x.2
def resO:(cs:List (Bool × TC))->ElR cs->List IObj
 | [],_=>[]
 | (true,c)::cs,x=>.arr c x.1::resO cs x.2
 | (false,c)::cs,x=>resO cs x.2
def addO:List IObj->IS->IS
 | [],S=>S
 | o::l,S=>addO l (S.new o)
theorem qbn:∀(l:List IObj) (S:IS),(addO l S).next=S.next+l.length
 | [],S=>rfl
 | o::l,S=>by unfold addO;rw[qbn l];simp [IS.new];omega
theorem qbi:∀(l:List IObj) (S:IS) (k:Nat),(addO l S).H k=if k<S.next then S.H k else if k<S.next+l.length then l[k-S.next]? else S.H k
 | [],S,k=>by
   simp only[addO,List.length_nil,Nat.add_zero]
   by_cases h:k<S.next
   · rw[if_pos h]
   · rw[if_neg h,if_neg h]
 | o::l,S,k=>by
   unfold addO
   rw[qbi l]
   have e:(S.new o).next=S.next+1:=rfl
   rw[e,IS.H_new]
   by_cases h1:k<S.next
   · rw[if_pos (by omega),if_pos h1,up_ne _ _ (by omega)]
   · rw[if_neg h1]
     by_cases h2:k=S.next
     · subst h2
       rw[if_pos (by omega),qad,if_pos (by simp)];simp
     · rw[if_neg (by omega),up_ne _ _ h2]
       simp only[List.length_cons]
       by_cases h3:k<S.next+(l.length+1)
       · rw[if_pos (by omega),if_pos h3,show k-S.next=(k-(S.next+1))+1 by omega,List.getElem?_cons_succ]
       · rw[if_neg (by omega),if_neg h3]
def scal:TC->Bool
 | .list _=>false
 | .two a b=>scal a&&scal b
 | _=>true
structure Sm where
 pts:List TC
 rts:List (Bool × TC)
 f:ElA pts->Option (ElR rts)
def Sm.flat (s:Sm):Bool:=s.rts.all fun r=>scal r.2
def EM (M:List Nat) (w:World):Env:=⟨fun _=>0,fun _=>0,fun _=>.nilFunc,fun _=>false,fun _=>False,M,w⟩
def S0:IS:=⟨.leaf,0⟩
def T0:TW:=⟨fun _=>True,fun _=>True,fun _ h=>h⟩
theorem preM {M:List Nat} {w:World} (h:∀b∈M,b<w.heap.size) (g:Gl M w):Pre T0 (EM M w) S0 :=
 ⟨⟨fun id _ h=>h.elim,fun id _ h=>h.elim,fun id _ h=>h.elim,fun i j _ _ h=>h.elim,h⟩,fun id h=>h.elim,fun id _=>trivial,g⟩
structure Con (P:Program) (f:Nat) (s:Sm):Prop where
 callable:qaf P f
 calls:∀(M:List Nat) (w:World) (x:ElA s.pts) (us:List Value) (y:ElR s.rts),s.f x=some y->(∀b∈M,b<w.heap.size)->Gl M w->VRs (EM M w) (argV s.pts x) us ->
   CallsIn Fence.wide 0 P f us.toArray w (RetE T0 (EM M w) S0 ⟨tupI (resV s.rts 0 y),addO (resO s.rts y) S0,0,0⟩)

def fitV:TC->IV->Bool
 | .two _ _,.agg _=>true
 | .two _ _,_=>false
 | _,.agg _=>false
 | _,.unk=>false
 | _,.tup _=>false
 | _,_=>true
def qb6:(cs:List TC)->IS->List IV->Option (ElA cs × IS × Nat)
 | [],S,vs=>match vs with
   | []=>some ((),S,0)
   | _=>none
 | c::cs,S,vs=>match vs with
   | v::vs=>cond (fitV c v) (match icl c S (cellsOf v) with
     | some (x,[],S1,w1)=>match qb6 cs S1 vs with
       | some (xs,S2,w2)=>some ((x,xs),S2,w1 ||| w2)
       | none=>none
     | _=>none) none
   | _=>none
def exf (s:Sm) (vs:List IV) (S:IS):Option Res :=
 match qb6 s.pts S vs with
 | none=>none
 | some (x,S1,w)=>match s.f x with
   | none=>none
   | some y=>cond s.flat (some ⟨tupI (resV s.rts S.next y),addO (resO s.rts y) S,w,0⟩) (some ⟨tupI (resV s.rts S1.next y),addO (resO s.rts y) S1,0,w⟩)
section
variable {P : Program} {E : Env} {S : IS} {T : TW}
theorem qox {E0 E:Env} {c:TC} {x:El c} {v:IV} {u:Value} (hf:fitV c v=true) (hv:VR E0 v u) (h:VRs E (cel c x) u.cells.toList):VR E (asIV c x) u:=by
 have hone:(∀a b,c≠.two a b)->u.cells.toList=[u]:=fun hc=>by
   cases c with
   | two a b=>exact absurd rfl (hc a b)
   | int k=>cases hv<;>first|rfl|cases hf
   | bool=>cases hv<;>first|rfl|cases hf
   | str=>cases hv<;>first|rfl|cases hf
   | list c=>cases hv<;>first|rfl|cases hf
 cases c with
 | two a b =>
   cases hv<;>try cases hf
   exact .agg h.1 h.2
 | int k=>rw[hone (by simp)] at h;exact h.2 0 (by simp[cel]) (by simp)
 | bool=>rw[hone (by simp)] at h;exact h.2 0 (by simp[cel]) (by simp)
 | str=>rw[hone (by simp)] at h;exact h.2 0 (by simp[cel]) (by simp)
 | list c=>rw[hone (by simp)] at h;exact h.2 0 (by simp[cel]) (by simp)
theorem qll {c:TC} {v:IV} (h:fitV c v=true):known v=true:=by cases c<;>cases v<;>first|rfl|cases h
theorem qdg {E E':Env} (hm:∀b,b∈E'.m->b∈E.m) (hw:E'.w=E.w) {c:TC} {x:El c} {u:Value} (h:VR E (asIV c x) u):VR E' (asIV c x) u:=by
 have hno:∀{v:IV} {u:Value},VR E v u->_:=fun h=>VR.noid hm hw h
 cases c with
 | two a b =>
   cases h with
   | agg hl hh=>exact .agg hl fun i a b=>(hno (hh i a b)).2.2 _ _ (List.getElem_mem a)
 | int k=>exact(hno h).2.2 (.int k) x (by simp[cel,asIV])
 | bool=>exact(hno h).2.2 .bool x (by simp[cel,asIV])
 | str=>exact(hno h).2.2 .str x (by simp[cel,asIV])
 | list c=>exact(hno h).2.2 (.list c) x (by simp[cel,asIV])
theorem qhg:∀(cs:List TC) {E:Env} {S:IS} {vs:List IV} {us:List Value} {x:ElA cs} {S':IS} {w:Nat},qb6 cs S vs=some (x,S',w)->Pre T E S->tin T.w w->VRs E vs us ->
   ∃E',E'.w=E.w/\Post T E S E' S'/\Fresh E S E'/\VRs E' (argV cs x) us
 | [],E,S,vs,us,x,S',w,h,p,hw,hv=>by
   cases vs with
   | cons v vs=>cases h
   | nil=>cases h;exact⟨E,rfl,Post.refl p,Fresh.refl E S,hv⟩
 | c::cs,E,S,vs,us,x,S',w,h,p,hw,hv=>by
   cases vs with
   | nil=>cases h
   | cons v vs =>
   simp only[qb6] at h
   cases hb:fitV c v with
   | false=>rw[hb] at h;cases h
   | true =>
   rw[hb,cond_true] at h
   split at h<;>try cases h
   rename_i x1 S1 w1 h1
   split at h<;>cases h
   rename_i xs S2 w2 h2
   obtain⟨g1,g2⟩:=qak hw
   obtain⟨u,us,rfl,a1,a2⟩:=hv.inv
   obtain⟨E1,e1,q1,f1,us1,us2,e2,v1,v2⟩:=qcm c h1 p g1 (a1.cells (qll hb))
   have:us2=[]:=by have:=v2.1;simpa using this.symm
   subst this
   rw[List.append_nil] at e2
   rw[<- e2] at v1
   have b1:=qox hb a1 v1
   obtain⟨E2,e3,q2,f2,b2⟩:=qhg cs h2 (q1.pre p) g2 (a2.mono (q1.env p))
   exact⟨E2,e3.trans e1,Post.trans p q1 f1 q2,f1.trans f2 q1.le,VRs.cons (b1.mono (q2.env (q1.pre p))) b2⟩
theorem qgt {E E':Env} (hm:∀b,b∈E'.m->b∈E.m) (hw:E'.w=E.w):∀(cs:List TC) {x:ElA cs} {us:List Value},VRs E (argV cs x) us->VRs E' (argV cs x) us
 | [],x,us,h=>by have:=h.1;cases us with|nil=>exact VRs.nil|cons _ _=>simp [argV] at this
 | c::cs,x,us,h=>by
   obtain⟨u,us,rfl,a1,a2⟩:=VRs.inv (v:=asIV c x.1) (cs:=argV cs x.2) h
   exact VRs.cons (qdg hm hw a1) (qgt hm hw cs a2)
theorem qh7:∀(cs:List (Bool × TC)) (y:ElR cs) (o:IObj),o∈resO cs y->∃c l,o=.arr c l
 | [],y,o,h=>by cases h
 | (true,c)::cs,y,o,h=>by
   rcases List.mem_cons.1 h with h|h
   · exact⟨c,y.1,h⟩
   · exact qh7 cs y.2 o h
 | (false,c)::cs,y,o,h=>qh7 cs y.2 o h
theorem qdo {E E':Env}:∀{c:TC} {v:IV} {x:El c} {u:Value},scal c=true->v∈cel c x->VR E v u->VR E' v u
 | .int k,v,x,u,_,hm,h=>by
   have:v=.int k x:=by simpa [cel] using hm
   subst this;cases h;exact .int _ _ (by assumption)
 | .bool,v,x,u,_,hm,h=>by
   have:v=.bool x:=by simpa [cel] using hm
   subst this;cases h;exact .bool _
 | .str,v,x,u,_,hm,h=>by
   have:v=.str x:=by simpa [cel] using hm
   subst this;cases h;exact .str _ (by assumption)
 | .list c,v,x,u,hs,_,_=>by cases hs
 | .two a b,v,x,u,hs,hm,h=>by
   simp only[scal,Bool.and_eq_true] at hs
   simp only[cel,List.mem_append] at hm
   rcases hm with hm|hm
   · exact qdo hs.1 hm h
   · exact qdo hs.2 hm h
theorem scal_as {E E':Env} {c:TC} {x:El c} {u:Value} (hs:scal c=true) (h:VR E (asIV c x) u):VR E' (asIV c x) u:=by
 cases c with
 | two a b =>
   cases h with
   | agg hl hh=>exact .agg hl fun i a b=>qdo hs (List.getElem_mem a) (hh i a b)
 | int k=>exact qdo (c:=.int k) (x:=x) hs (by simp[cel,asIV]) h
 | bool=>exact qdo (c:=.bool) (x:=x) hs (by simp[cel,asIV]) h
 | str=>exact qdo (c:=.str) (x:=x) hs (by simp[cel,asIV]) h
 | list c=>cases hs
def mrgC (Eb Er:Env) (n:Nat):Env :=
 ⟨fun id=>if id<n then Eb.ρ id else Er.ρ (id-n),fun id=>if id<n then Eb.κ id else Er.κ (id-n),fun id=>if id<n then Eb.hd id else Er.hd (id-n),fun id=>if id<n then Eb.hb id else Er.hb (id-n),
   fun id=>(id<n/\Eb.A id)\/(n<=id/\Er.A (id-n)),Eb.m++Er.m,Er.w⟩
theorem qce {Eb Er:Env} {n k:Nat}:(mrgC Eb Er n).ρ (n+k)=Er.ρ k/\(mrgC Eb Er n).κ (n+k)=Er.κ k/\(mrgC Eb Er n).hd (n+k)=Er.hd k/\(mrgC Eb Er n).hb (n+k)=Er.hb k:=by
 have h:¬n+k<n:=by omega
 refine⟨?_,?_,?_,?_⟩<;>simp only[mrgC,if_neg h,Nat.add_sub_cancel_left]
theorem qcw {Eb Er:Env} {n id:Nat} (h:id<n):(mrgC Eb Er n).ρ id=Eb.ρ id/\(mrgC Eb Er n).κ id=Eb.κ id/\(mrgC Eb Er n).hd id=Eb.hd id/\(mrgC Eb Er n).hb id=Eb.hb id:=by
 refine⟨?_,?_,?_,?_⟩<;>simp only[mrgC,if_pos h]
theorem qqq {Eb Er:Env} {n:Nat} (hd:∀{c:TC} {x:El c} {u:Value},VR Er (asIV c x) u->scal c=true\/True->(scal c=true->VR (mrgC Eb Er n) (asIV c x) u)/\((∀b,b∈Eb.m->b∈Er.m)->VR (mrgC Eb Er n) (asIV c x) u)) :
   ∀(cs:List (Bool × TC)) (k:Nat) {y:ElR cs} {us:List Value},((cs.all fun r=>scal r.2)=true\/∀b,b∈Eb.m->b∈Er.m)->VRs Er (resV cs k y) us->VRs (mrgC Eb Er n) (resV cs (n+k) y) us
 | [],k,y,us,hs,h=>by have:=h.1;cases us with|nil=>exact VRs.nil|cons _ _=>simp [resV] at this
 | (true,c)::cs,k,y,us,hs,h=>by
   obtain⟨u,us,rfl,a1,a2⟩:=VRs.inv (v:=.arr k) (cs:=resV cs (k+1) y.2) h
   have:=qqq hd cs (k+1) (hs.imp (fun h=>by simp only[List.all_cons,Bool.and_eq_true] at h;exact h.2) fun h=>h) a2
   cases a1 with
   | arr hA hh =>
   obtain⟨m1,m2,m3,m4⟩:=qce (Eb:=Eb) (Er:=Er) (n:=n) (k:=k)
   exact VRs.cons (.arr (.inr ⟨by omega,by rw[Nat.add_sub_cancel_left];exact hA⟩) (m3.trans hh)) this
 | (false,c)::cs,k,y,us,hs,h=>by
   obtain⟨u,us,rfl,a1,a2⟩:=VRs.inv (v:=asIV c y.1) (cs:=resV cs k y.2) h
   have:=qqq hd cs k (hs.imp (fun h=>by simp only[List.all_cons,Bool.and_eq_true] at h;exact h.2) fun h=>h) a2
   refine VRs.cons ?_ this
   rcases hs with hs|hs
   · simp only[List.all_cons,Bool.and_eq_true] at hs
     exact(hd a1 (.inr trivial)).1 hs.1
   · exact(hd a1 (.inr trivial)).2 hs
theorem qle {s:Sm} {y:ElR s.rts} {M:List Nat} {Eb:Env} {Sb:IS} {e:Ending} {w':World} {rd wr:Nat} (pb:Pre T Eb Sb) (hM:∀b∈M,b∈Eb.m) (hflat:s.flat=true\/∀b∈Eb.m,b∈M)
   (hR:RetE T0 (EM M Eb.w) S0 ⟨tupI (resV s.rts 0 y),addO (resO s.rts y) S0,0,0⟩ e w'):RetE T Eb Sb ⟨tupI (resV s.rts Sb.next y),addO (resO s.rts y) Sb,rd,wr⟩ e w':=by
 obtain⟨u,Er,rfl,rfl,k1,k2,k3⟩:=hR
 have hsame:∀b,b<Eb.w.heap.size->Er.w.heap[b]?=Eb.w.heap[b]?:=fun b hb=>k2.stp.same b hb fun id _ hA _=>hA.elim
 have hMr:∀b∈M,b∈Er.m:=fun b hb=>by
   rcases k2.stp.mem b hb (pb.st.lo b (hM b hb)) with h|⟨id,_,hA,_⟩
   · exact h
   · exact hA.elim
 have hrM:∀b∈Er.m,b∈M\/Eb.w.heap.size<=b:=k2.stp.memo
 have hnew:∀id,Er.A id->Live Er (addO (resO s.rts y) S0).H id->Eb.w.heap.size<=Er.ρ id:=fun id hA hL=>by
   rcases k2.stp.new id hA (fun h=>h) hL with h|⟨j,_,hA,_⟩
   · exact h
   · exact hA.elim
 generalize hn:Sb.next=n
 have hle:Eb.Le (mrgC Eb Er n):=⟨fun id hA=>by
   have hlt:id<n:=by rw[<- hn];exact pb.bnd id hA
   obtain⟨m1,m2,m3,m4⟩:=qcw (Eb:=Eb) (Er:=Er) hlt
   exact⟨.inl ⟨hlt,hA⟩,m1,m2,m3,m4⟩,⟨fun b hb hm=>⟨fun h=>by
     rcases List.mem_append.1 h with h|h
     · exact hm h
     · rcases hrM b h with h|h
       · exact hm (hM b h)
       · omega,hsame b hb⟩⟩⟩
 have hdat:(∀b,b∈Eb.m->b∈Er.m)->∀b,b∈(mrgC Eb Er n).m->b∈Er.m:=fun h b hb=>by
   rcases List.mem_append.1 hb with hb|hb
   · exact h b hb
   · exact hb
 have hflat2:(s.rts.all fun r=>scal r.2)=true\/∀b,b∈Eb.m->b∈Er.m:=hflat.imp (fun h=>h) fun h b hb=>hMr b (h b hb)
 have hv:∀us,VRs Er (resV s.rts 0 y) us->VRs (mrgC Eb Er n) (resV s.rts (n+0) y) us:=fun us=>qqq (Eb:=Eb) (Er:=Er) (n:=n) (fun {c x u} h _=>⟨fun hs=>scal_as hs h,fun hm=>qdg (hdat hm) rfl h⟩) s.rts 0 hflat2
 have hHn:∀k,(addO (resO s.rts y) Sb).H (n+k)=if k<(resO s.rts y).length then (resO s.rts y)[k]? else Sb.H (n+k):=fun k=>by
   rw[qbi,if_neg (by omega),hn]
   by_cases h:k<(resO s.rts y).length
   · rw[if_pos h,if_pos (by omega),Nat.add_sub_cancel_left]
   · rw[if_neg h,if_neg (by omega)]
 have hHo:∀id,id<n->(addO (resO s.rts y) Sb).H id=Sb.H id:=fun id h=>by rw[qbi,if_pos (by omega)]
 have hH0:∀k,(addO (resO s.rts y) S0).H k=(resO s.rts y)[k]?:=fun k=>by
   rw[qbi]
   have e:S0.next=0:=rfl
   rw[e,if_neg (by omega),Nat.zero_add,Nat.sub_zero]
   by_cases h:k<(resO s.rts y).length
   · rw[if_pos h]
   · rw[if_neg h,List.getElem?_eq_none (by omega)];rfl
 have hbndr:∀k,Er.A k->k<(resO s.rts y).length:=fun k hA=>by
   have:=k2.bnd k hA
   rw[qbn] at this
   have e:S0.next=0:=rfl
   omega
 have hobj:∀{k:Nat} {o:IObj},Er.A k->(addO (resO s.rts y) Sb).H (n+k)=some o->(addO (resO s.rts y) S0).H k=some o:=fun {k o} hA h=>by
   rw[hHn,if_pos (hbndr k hA)] at h;rw[hH0];exact h
 have hlv:∀{k:Nat},Er.A k->Live (mrgC Eb Er n) (addO (resO s.rts y) Sb).H (n+k)->Live Er (addO (resO s.rts y) S0).H k:=fun {k} hA ⟨h0,o,h1,h2⟩=>⟨by rw[qce.2.2.2] at h0;exact h0,o,hobj hA h1,h2⟩
 have hlo:∀{id:Nat},id<n->Live (mrgC Eb Er n) (addO (resO s.rts y) Sb).H id->Live Eb Sb.H id:=fun {id} hlt ⟨h0,o,h1,h2⟩=>⟨by rw[(qcw hlt).2.2.2] at h0;exact h0,o,by rw[hHo id hlt] at h1;exact h1,h2⟩
 refine⟨u,mrgC Eb Er n,rfl,rfl,?_,⟨⟨?_,?_,?_,?_,?_⟩,⟨k2.stp.os,k2.stp.tape,k2.stp.output,k2.stp.size,fun b hb _=>hsame b hb,hle.alw,?_,?_,?_,fun b hb _=>.inl (List.mem_append_left _ hb)⟩,?_,?_⟩,⟨?_⟩⟩
 · -- the value
   have key:∀(vs ws:List IV),(∀us,VRs Er vs us->VRs (mrgC Eb Er n) ws us)->vs.length=ws.length->VR Er (tupI vs) u->VR (mrgC Eb Er n) (tupI ws) u:=by
     intro vs ws h hl hu
     match vs,ws,hl with
     | [],[],_ =>
       cases hu with
       | tup hl hh=>have:=h _ ⟨hl,hh⟩;exact .tup this.1 this.2
     | [v],[w],_ =>
       have:=h [u] (VRs.cons hu VRs.nil)
       exact this.2 0 (by simp) (by simp)
     | v1::v2::vs,w1::w2::ws,_ =>
       cases hu with
       | tup hl hh=>have:=h _ ⟨hl,hh⟩;exact .tup this.1 this.2
   refine key _ _ (fun us h=>?_) ?_ k1
   · have:=hv us h
     rwa [Nat.add_zero] at this
   · have:∀(cs:List (Bool × TC)) (i j:Nat) (y:ElR cs),(resV cs i y).length=(resV cs j y).length:=by
       intro cs
       induction cs with
       | nil=>intro i j y;rfl
       | cons c cs ih=>intro i j y;obtain⟨b,c⟩:=c;cases b<;>simp [resV]<;>exact ih _ _ y.2
     exact this _ _ _ _
 · -- objects
   intro id ht hA o ho
   rcases hA with ⟨hlt,hA⟩|⟨hge,hA⟩
   · rw[hHo id hlt] at ho
     exact(pb.st.objs id ht hA o ho).mono hle hA (pb.st.blk id ht hA o ho) fun hl hb=>hsame _ ((pb.st.objs id ht hA o ho).lt hl hb)
   · obtain⟨k,rfl⟩:∃k,id=n+k:=⟨id-n,by omega⟩
     rw[Nat.add_sub_cancel_left] at hA
     have ho':=hobj hA ho
     obtain⟨m1,m2,m3,m4⟩:=qce (Eb:=Eb) (Er:=Er) (n:=n) (k:=k)
     have hor:=k2.st.objs k trivial hA o ho'
     have hmem:o∈resO s.rts y:=by rw[hH0] at ho';exact List.mem_of_getElem? ho'
     obtain⟨c,l,rfl⟩:=qh7 _ _ _ hmem
     have hsc:scal c=true\/∀b,b∈Eb.m->b∈Er.m:=by
       rcases hflat2 with h|h
       · left
         have:∀(cs:List (Bool × TC)) (y:ElR cs),(cs.all fun r=>scal r.2)=true->.arr c l∈resO cs y->scal c=true:=by
           intro cs
           induction cs with
           | nil=>intro y _ h;cases h
           | cons r cs ih =>
             intro y hs h
             obtain⟨b,c'⟩:=r
             simp only[List.all_cons,Bool.and_eq_true] at hs
             cases b with
             | false=>exact ih y.2 hs.2 h
             | true =>
               rcases List.mem_cons.1 h with h|h
               · cases h;exact hs.1
               · exact ih y.2 hs.2 h
         exact this _ _ h hmem
       · exact .inr h
     obtain⟨a,cap,g1,g2,g3,g4,g5⟩:=hor
     refine⟨a,cap,m3.trans g1,g2,g3,g4,g5.imp (fun⟨x,y⟩=>⟨m4.trans x,y⟩) fun⟨b1,b2,cells,t,b3,b4,us,b5,b6⟩=>⟨m4.trans b1,by rw[m1];exact b2,cells,t,by rw[m1];exact b3,b4,us,b5,fun i hi j hj=>?_⟩⟩
     rcases hsc with h|h
     · exact qdo h (List.getElem_mem hj) (b6 i hi j hj)
     · exact(VR.noid (hdat h) rfl (b6 i hi j hj)).2.2 _ _ (List.getElem_mem hj)
 · intro id ht hA o ho hb
   rcases hA with ⟨hlt,hA⟩|⟨hge,hA⟩
   · rw[hHo id hlt] at ho
     rw[(qcw hlt).2.2.2]
     exact pb.st.blk id ht hA o ho hb
   · obtain⟨k,rfl⟩:∃k,id=n+k:=⟨id-n,by omega⟩
     rw[Nat.add_sub_cancel_left] at hA
     have ho':=hobj hA ho
     rw[qce.2.2.2]
     exact k2.st.blk k trivial hA o ho' hb
 · intro id ht hA hL
   rcases hA with ⟨hlt,hA⟩|⟨hge,hA⟩
   · rw[(qcw hlt).1]
     exact List.mem_append_left _ (pb.st.own id ht hA (hlo hlt hL))
   · obtain⟨k,rfl⟩:∃k,id=n+k:=⟨id-n,by omega⟩
     rw[Nat.add_sub_cancel_left] at hA
     rw[qce.1]
     exact List.mem_append_right _ (k2.st.own k trivial hA (hlv hA hL))
 · intro i j ti tj hAi hAj hLi hLj he
   rcases hAi with ⟨hi,hAi⟩|⟨hi,hAi⟩<;>rcases hAj with ⟨hj,hAj⟩|⟨hj,hAj⟩
   · rw[(qcw hi).1,(qcw hj).1] at he
     exact pb.st.inj i j ti tj hAi hAj (hlo hi hLi) (hlo hj hLj) he
   · obtain⟨k,rfl⟩:∃k,j=n+k:=⟨j-n,by omega⟩
     rw[Nat.add_sub_cancel_left] at hAj
     rw[(qcw hi).1,qce.1] at he
     have h1:=hnew k hAj (hlv hAj hLj)
     have h2:=pb.st.lo _ (pb.st.own i ti hAi (hlo hi hLi))
     omega
   · obtain⟨k,rfl⟩:∃k,i=n+k:=⟨i-n,by omega⟩
     rw[Nat.add_sub_cancel_left] at hAi
     rw[(qcw hj).1,qce.1] at he
     have h1:=hnew k hAi (hlv hAi hLi)
     have h2:=pb.st.lo _ (pb.st.own j tj hAj (hlo hj hLj))
     omega
   · obtain⟨k,rfl⟩:∃k,i=n+k:=⟨i-n,by omega⟩
     obtain⟨k',rfl⟩:∃k,j=n+k:=⟨j-n,by omega⟩
     rw[Nat.add_sub_cancel_left] at hAi hAj
     rw[qce.1,qce.1] at he
     rw[k2.st.inj k k' trivial trivial hAi hAj (hlv hAi hLi) (hlv hAj hLj) he]
 · intro b hb
   rcases List.mem_append.1 hb with hb|hb
   · exact Nat.lt_of_lt_of_le (pb.st.lo b hb) k2.stp.size
   · exact k2.st.lo b hb
 · intro id hA hn' hL
   rcases hA with ⟨hlt,hA⟩|⟨hge,hA⟩
   · exact absurd hA hn'
   · obtain⟨k,rfl⟩:∃k,id=n+k:=⟨id-n,by omega⟩
     rw[Nat.add_sub_cancel_left] at hA
     rw[qce.1]
     exact .inl (hnew k hA (hlv hA hL))
 · intro id ht hA hL
   exact hlo (by rw[<- hn];exact pb.bnd id hA) hL
 · intro b hb
   rcases List.mem_append.1 hb with hb|hb
   · exact .inl hb
   · rcases hrM b hb with h|h
     · exact .inl (hM b h)
     · exact .inr h
 · intro id hA
   show id<(addO (resO s.rts y) Sb).next
   rw[qbn,hn]
   rcases hA with ⟨hlt,hA⟩|⟨hge,hA⟩
   · omega
   · have:=hbndr _ hA;omega
 · show Sb.next<=(addO (resO s.rts y) Sb).next
   rw[qbn];omega
 · intro id hA hn'
   rcases hA with ⟨hlt,hA⟩|⟨hge,hA⟩
   · exact absurd hA hn'
   · show Sb.next<=id
     omega
theorem q6r {f:Nat} {s:Sm} (hc:Con P f s) {vs:List IV} {r:Res} (h:exf s vs S=some r) {us:List Value} (p:Pre T E S) (hrd:tin T.r r.rd) (hwr:tin T.w r.wr) (hv:VRs E vs us) :
   qaf P f/\CallsIn Fence.wide 0 P f us.toArray E.w (RetE T E S r):=by
 refine⟨hc.callable,?_⟩
 unfold exf at h
 split at h
 · cases h
 rename_i x S1 w hx
 split at h
 · cases h
 rename_i y hy
 cases hb:s.flat with
 | true =>
   rw[hb,cond_true] at h;cases h
   have p':Pre ⟨T.r,T.r,fun _ h=>h⟩ E S:=⟨p.st,p.bnd,fun id h=>T.sub _ (p.nw id h),p.gl⟩
   obtain⟨E1,e1,q1,f1,b1⟩:=qhg s.pts (T:=⟨T.r,T.r,fun _ h=>h⟩) hx p' hrd hv
   have hm:∀b∈E1.m,b∈E.m:=fun b hb=>by
     rcases q1.stp.memo b hb with h|h
     · exact h
     · have:=q1.st.lo b hb;rw[e1] at this;omega
   have hcall:=hc.calls E1.m E.w x us y hy (fun b hb=>p.st.lo b (hm b hb)) (p.gl.sub hm) (qgt (E:=E1) (E':=EM E1.m E.w) (fun _ h=>h) e1.symm s.pts b1)
   exact hcall.mono fun e w' hR=>qle (Eb:=E) (Sb:=S) (T:=T) p hm (.inl hb) hR
 | false =>
   rw[hb,cond_false] at h;cases h
   obtain⟨E1,e1,q1,f1,b1⟩:=qhg s.pts hx p hwr hv
   have p1:=q1.pre p
   have hcall:=hc.calls E1.m E1.w x us y hy p1.st.lo p1.gl (qgt (E:=E1) (E':=EM E1.m E1.w) (fun _ h=>h) rfl s.pts b1)
   rw[<- e1]
   refine hcall.mono fun e w' hR=>?_
   obtain⟨u,E2,g1,g2,g3,g4,g5⟩:=qle (Eb:=E1) (Sb:=S1) (rd:=0) (wr:=w) p1 (fun _ h=>h) (.inr fun _ h=>h) hR
   exact⟨u,E2,g1,g2,g3,Post.trans p q1 f1 g4,f1.trans g5 q1.le⟩
theorem qk5 (l:List IObj) (S:IS) (w:Nat):FrX S (addO l S) w:=⟨by rw[qbn];omega,fun id hid _=>by rw[qbi,if_pos hid]⟩
theorem qsw:∀(cs:List TC) {S:IS} {vs:List IV} {x:ElA cs} {S':IS} {w:Nat},qb6 cs S vs=some (x,S',w)->FrX S S' w
 | [],S,vs,x,S',w,h=>by
   cases vs with
   | cons v vs=>cases h
   | nil=>cases h;exact FrX.refl _ _
 | c::cs,S,vs,x,S',w,h=>by
   cases vs with
   | nil=>cases h
   | cons v vs =>
   simp only[qb6] at h
   cases hb:fitV c v with
   | false=>rw[hb] at h;cases h
   | true =>
   rw[hb,cond_true] at h
   split at h<;>try cases h
   rename_i h1
   split at h<;>cases h
   rename_i h2
   obtain⟨a1,a2⟩:=qcq c _ _ _ _ _ _ h1
   exact FrX.trans ⟨Nat.le_of_eq a1.symm,fun id _ hb=>a2 id hb⟩ (qsw cs h2)
theorem qsi {s:Sm} {vs:List IV}:FrO S (exf s vs S):=fun r h=>by
 unfold exf at h
 split at h
 · cases h
 rename_i x S1 w hx
 split at h
 · cases h
 rename_i y hy
 cases hb:s.flat with
 | true=>rw[hb,cond_true] at h;cases h;exact qk5 _ _ _
 | false =>
   rw[hb,cond_false] at h;cases h
   have:=(qsw s.pts hx).trans (qk5 (resO s.rts y) S1 0)
   rw[Nat.or_zero] at this;exact this
theorem qsx (n:Nat):Nat.blt n n=false:=by
 cases h:Nat.blt n n with
 | false=>rfl
 | true=>exact absurd (show n<n from Nat.le_of_ble_eq_true h) (Nat.lt_irrefl n)
theorem qts:∀(cs:List (Bool × TC)) (n:Nat) (y:ElR cs),(resV cs n y).all (low1 n)=true->resO cs y=[]
 | [],_,_,_=>rfl
 | (true,c)::cs,n,y,h=>by
   have h:(low1 n (.arr n)&&(resV cs (n+1) y.2).all (low1 n))=true:=h
   have e:low1 n (.arr n)=Nat.blt n n:=rfl
   rw[e,qsx] at h
   cases h
 | (false,c)::cs,n,y,h=>by
   have h:(low1 n (asIV c y.1)&&(resV cs n y.2).all (low1 n))=true:=h
   rw[Bool.and_eq_true] at h
   exact qts cs n y.2 h.2
theorem qvo (cs:List (Bool × TC)) (n:Nat) (y:ElR cs) (h:low2 n (tupI (resV cs n y))=true):resO cs y=[]:=by
 match cs,y,h with
 | [],y,h=>rfl
 | [(true,c)],y,h =>
   have e:low2 n (tupI (resV [(true,c)] n y))=Nat.blt n n:=rfl
   rw[e,qsx] at h
   cases h
 | [(false,c)],y,h=>rfl
 | (ba,a)::(bb,b)::cs,y,h =>
   refine qts _ n y ?_
   cases ba<;>cases bb<;>exact h
theorem qx9:∀(cs:List TC) {S:IS} {vs:List IV} {x:ElA cs} {S':IS},qb6 cs S vs=some (x,S',0)->S'=S
 | [],S,vs,x,S',h=>by
   cases vs with
   | nil=>cases h;rfl
   | cons v vs=>cases h
 | c::cs,S,vs,x,S',h=>by
   cases vs with
   | nil=>cases h
   | cons v vs =>
   simp only[qb6] at h
   cases hb:fitV c v with
   | false=>rw[hb] at h;cases h
   | true =>
   rw[hb,cond_true] at h
   split at h
   · rename_i x1 S1 w1 h1
     split at h
     · rename_i xs S2 w2 h2
       have hS:S2=S':=congrArg (fun o:Option (ElA (c::cs) × IS × Nat)=>match o with|some q=>q.2.1|none=>S') h
       have hw:w1 ||| w2=0:=congrArg (fun o:Option (ElA (c::cs) × IS × Nat)=>match o with|some q=>q.2.2|none=>0) h
       obtain⟨e1,e2⟩:=or_zero hw
       rw[e1] at h1
       rw[e2] at h2
       rw[<- hS,qx9 cs h2,(qgp c h1).1]
     · cases h
   · cases h
theorem qui {s:Sm} {vs:List IV} {S:IS} {r:Res} (h:exf s vs S=some r) (hw:r.wr=0) (hv:low2 S.next r.v=true):r.S=S:=by
 unfold exf at h
 split at h
 · cases h
 rename_i x S1 w hx
 split at h
 · cases h
 rename_i y hy
 cases hb:s.flat with
 | true =>
   rw[hb,cond_true] at h;cases h
   show addO (resO s.rts y) S=S
   rw[qvo _ _ _ hv];rfl
 | false =>
   rw[hb,cond_false] at h;cases h
   have hw:w=0:=hw
   subst hw
   have e:=qx9 _ hx
   subst e
   show addO (resO s.rts y) S1=S1
   rw[qvo _ _ _ hv];rfl
structure HxOK (P:Program) (f:Nat) (g:Cl->List IV->IS->Option Res):Prop where
 fn:∀cl,ClOK P cl->ClFr cl->Calm cl->∀vs S r,g cl vs S=some r->∀(T:TW) (E:Env) (us:List Value),Pre T E S->tin T.r r.rd->tin T.w r.wr->VRs E vs us->qaf P f/\CallsIn Fence.wide 0 P f us.toArray E.w (RetE T E S r)
 fr:∀cl,ClFr cl->∀vs S,FrO S (g cl vs S)
 calm:∀cl,Calm cl->∀vs S r,g cl vs S=some r->r.wr=0->low2 S.next r.v=true->r.S=S
def ElQ:List (Bool × TC)->Type
 | []=>Unit
 | (true,_)::cs=>Nat × ElQ cs
 | (false,c)::cs=>El c × ElQ cs
def valQ:(cs:List (Bool × TC))->ElQ cs->List IV
 | [],_=>[]
 | (true,c)::cs,x=>.arr x.1::valQ cs x.2
 | (false,c)::cs,x=>asIV c x.1::valQ cs x.2
def idsQ:(cs:List (Bool × TC))->ElQ cs->List Nat
 | [],_=>[]
 | (true,c)::cs,x=>x.1::idsQ cs x.2
 | (false,c)::cs,x=>idsQ cs x.2
def clR:(cs:List (Bool × TC))->IS->List IV->Option (ElQ cs × IS × Nat)
 | [],S,vs=>match vs with
   | []=>some ((),S,0)
   | _=>none
 | (true,c)::cs,S,vs=>match vs with
   | v::vs=>match coeV S c v with
     | some (.arr id,S1,w1)=>match clR cs S1 vs with
       | some (q,S2,w2)=>some ((id,q),S2,w1 ||| w2)
       | none=>none
     | _=>none
   | _=>none
 | (false,c)::cs,S,vs=>match vs with
   | v::vs=>cond (fitV c v) (match icl c S (cellsOf v) with
     | some (x,[],S1,w1)=>match clR cs S1 vs with
       | some (q,S2,w2)=>some ((x,q),S2,w1 ||| w2)
       | none=>none
     | _=>none) none
   | _=>none
def fillR:(cs:List (Bool × TC))->ElQ cs->IS->Option (ElR cs)
 | [],_,_=>some ()
 | (true,c)::cs,x,S=>match S.heap.get x.1 with
   | some (.arr c' l)=>match qbc c' c l with
     | some l'=>match fillR cs x.2 S with
       | some y=>some (l',y)
       | none=>none
     | none=>none
   | _=>none
 | (false,c)::cs,x,S=>match fillR cs x.2 S with
   | some y=>some (x.1,y)
   | none=>none
theorem qk2:∀(cs:List (Bool × TC)) {E:Env} {S:IS} {vs:List IV} {us:List Value} {x:ElQ cs} {S':IS} {w:Nat},clR cs S vs=some (x,S',w)->Pre T E S->tin T.w w->VRs E vs us ->
   ∃E',E'.w=E.w/\Post T E S E' S'/\Fresh E S E'/\VRs E' (valQ cs x) us
 | [],E,S,vs,us,x,S',w,h,p,hw,hv=>by
   cases vs with
   | cons v vs=>cases h
   | nil=>cases h;exact⟨E,rfl,Post.refl p,Fresh.refl E S,hv⟩
 | (true,c)::cs,E,S,vs,us,x,S',w,h,p,hw,hv=>by
   cases vs with
   | nil=>cases h
   | cons v vs =>
   simp only[clR] at h
   split at h<;>try cases h
   rename_i id S1 w1 h1
   split at h<;>cases h
   rename_i q S2 w2 h2
   obtain⟨g1,g2⟩:=qak hw
   obtain⟨u,us,rfl,a1,a2⟩:=hv.inv
   obtain⟨E1,e1,q1,f1,v1⟩:=qhp p h1 g1 a1
   obtain⟨E2,e3,q2,f2,b2⟩:=qk2 cs h2 (q1.pre p) g2 (a2.mono (q1.env p))
   exact⟨E2,e3.trans e1,Post.trans p q1 f1 q2,f1.trans f2 q1.le,VRs.cons (v1.mono (q2.env (q1.pre p))) b2⟩
 | (false,c)::cs,E,S,vs,us,x,S',w,h,p,hw,hv=>by
   cases vs with
   | nil=>cases h
   | cons v vs =>
   simp only[clR] at h
   cases hb:fitV c v with
   | false=>rw[hb] at h;cases h
   | true =>
   rw[hb,cond_true] at h
   split at h<;>try cases h
   rename_i x1 S1 w1 h1
   split at h<;>cases h
   rename_i xs S2 w2 h2
   obtain⟨g1,g2⟩:=qak hw
   obtain⟨u,us,rfl,a1,a2⟩:=hv.inv
   obtain⟨E1,e1,q1,f1,us1,us2,e2,v1,v2⟩:=qcm c h1 p g1 (a1.cells (qll hb))
   have:us2=[]:=by have:=v2.1;simpa using this.symm
   subst this
   rw[List.append_nil] at e2
   rw[<- e2] at v1
   have b1:=qox hb a1 v1
   obtain⟨E2,e3,q2,f2,b2⟩:=qk2 cs h2 (q1.pre p) g2 (a2.mono (q1.env p))
   exact⟨E2,e3.trans e1,Post.trans p q1 f1 q2,f1.trans f2 q1.le,VRs.cons (b1.mono (q2.env (q1.pre p))) b2⟩
theorem qjm:∀(cs:List (Bool × TC)) {x:ElQ cs} {S:IS} {y:ElR cs},fillR cs x S=some y->(resO cs y).length=(idsQ cs x).length/\∀k:Nat,(resO cs y)[k]?=((idsQ cs x)[k]?).bind fun id=>S.heap.get id
 | [],x,S,y,h=>⟨rfl,fun k=>by simp[resO,idsQ]⟩
 | (true,c)::cs,x,S,y,h=>by
   simp only[fillR] at h
   split at h<;>try cases h
   rename_i c' l ho
   split at h<;>try cases h
   rename_i l' hl
   obtain⟨rfl,rfl⟩:=qbm hl
   split at h<;>cases h
   rename_i y' hy
   obtain⟨a1,a2⟩:=qjm cs hy
   refine⟨by simp[resO,idsQ,a1],fun k=>?_⟩
   cases k with
   | zero=>simp [resO,idsQ,ho]
   | succ k=>simpa [resO,idsQ] using a2 k
 | (false,c)::cs,x,S,y,h=>by
   simp only[fillR] at h
   split at h<;>cases h
   rename_i y' hy
   exact qjm cs hy
theorem qpx {q:List Nat} (hnd:ndB q=true):∀(cs:List (Bool × TC)) {x:ElQ cs} {S:IS} {y:ElR cs} {pre:List Nat} {us:List Value},q=pre++idsQ cs x->fillR cs x S=some y->VRs E (valQ cs x) us->VRs (renE 0 q E) (resV cs pre.length y) us
 | [],x,S,y,pre,us,hq,h,hv=>by have:=hv.1;cases us with|nil=>exact VRs.nil|cons _ _=>simp [valQ] at this
 | (true,c)::cs,x,S,y,pre,us,hq,h,hv=>by
   obtain⟨u,us,rfl,a1,a2⟩:=VRs.inv (v:=.arr x.1) (cs:=valQ cs x.2) hv
   simp only[fillR] at h
   split at h<;>try cases h
   split at h<;>try cases h
   split at h<;>cases h
   rename_i y' hy
   have h2:=qpx hnd cs (pre:=pre++[x.1]) (by rw[hq];simp [idsQ]) hy a2
   rw[List.length_append] at h2
   refine VRs.cons ?_ h2
   have e:ol 0 q pre.length=x.1:=by
     unfold ol
     rw[if_neg (by omega),Nat.sub_zero,hq]
     simp[idsQ,List.getD_eq_getElem?_getD]
   cases a1 with
   | arr hA hh=>exact .arr ⟨by rw[hq];simp [idsQ],by rw[e];exact hA⟩ (by simp only[renE,e];exact hh)
 | (false,c)::cs,x,S,y,pre,us,hq,h,hv=>by
   obtain⟨u,us,rfl,a1,a2⟩:=VRs.inv (v:=asIV c x.1) (cs:=valQ cs x.2) hv
   simp only[fillR] at h
   split at h<;>cases h
   rename_i y' hy
   exact VRs.cons (qdg (E:=E) (E':=renE 0 q E) (fun _ h=>h) rfl a1) (qpx hnd cs hq hy a2)
theorem Post.congr {E':Env} {S' S'':IS} (hH:S'.H=S''.H) (hn:S'.next=S''.next) (h:Post T E S E' S'):Post T E S E' S'' :=
 ⟨hH▸h.st,hH▸h.stp,fun id ha=>hn▸h.bnd id ha,hn▸h.le⟩
def untup (n:Nat) (v:IV):Option (List IV) :=
 cond (Nat.beq n 1) (some [v]) (match v with
   | .tup vs=>cond (Nat.beq vs.length n) (some vs) none
   | _=>none)
def runR (s:Sm) (r:Res):Option (ElR s.rts) :=
 match untup s.rts.length r.v with
 | none=>none
 | some vs=>match clR s.rts r.S vs with
   | none=>none
   | some (x,S2,_)=>cond (ndB (idsQ s.rts x)) (fillR s.rts x S2) none
theorem qth {s:Sm} {r:Res} {y:ElR s.rts} {M:List Nat} {w w':World} {e:Ending} (hM:∀b∈M,b<w.heap.size) (hg:Gl M w) (h:runR s r=some y) (hR:RetE T0 (EM M w) S0 r e w') :
   RetE T0 (EM M w) S0 ⟨tupI (resV s.rts 0 y),addO (resO s.rts y) S0,0,0⟩ e w':=by
 obtain⟨u,E1,rfl,rfl,k1,k2,k3⟩:=hR
 have p0:=preM hM hg
 have p1:=k2.pre p0
 unfold runR at h
 split at h
 · cases h
 rename_i vs hvs
 split at h
 · cases h
 rename_i x S2 w2 hx
 cases hnd:ndB (idsQ s.rts x) with
 | false=>rw[hnd] at h;cases h
 | true =>
 rw[hnd,cond_true] at h
 -- the results one by one
 have hlist:∃us:List Value,VRs E1 vs us/\∀(E':Env) (ws:List IV),ws.length=s.rts.length->VRs E' ws us->VR E' (tupI ws) u:=by
   unfold untup at hvs
   cases hone:Nat.beq s.rts.length 1 with
   | true =>
     rw[hone,cond_true] at hvs;cases hvs
     have hlen:=Nat.eq_of_beq_eq_true hone
     exact⟨[u],VRs.cons k1 VRs.nil,fun E' ws hl hw=>by
       rw[hlen] at hl
       match ws,hl with
       | [a],_=>exact hw.2 0 (by simp) (by simp)⟩
   | false =>
     rw[hone,cond_false] at hvs
     split at hvs<;>try cases hvs
     rename_i ws0 hv
     cases hb:Nat.beq ws0.length s.rts.length with
     | false=>rw[hb] at hvs;cases hvs
     | true =>
     rw[hb,cond_true] at hvs;cases hvs
     rw[hv] at k1
     cases k1 with
     | tup hl hh =>
     refine⟨_,⟨hl,hh⟩,fun E' ws hl' hw=>?_⟩
     match ws,hl' with
     | [],_=>exact .tup hw.1 hw.2
     | [a],hl'=>rw[<- hl'] at hone;cases hone
     | a::b::ws,_=>exact .tup hw.1 hw.2
 obtain⟨us,hus,hfin⟩:=hlist
 obtain⟨E2,e2,q2,f2,hv2⟩:=qk2 s.rts hx p1 (fun _ _=>trivial) hus
 have p2:=q2.pre p1
 have hq:=Post.trans p0 k2 k3 q2
 have hf:=k3.trans f2 k2.le
 have b1:=PostB.of (B:=0) (Nat.zero_le _) (fun _ _=>trivial) hq hf
 have b2:=qr6 (z:=fun _=>none) (B:=0) (q:=idsQ s.rts x) p2 (Nat.zero_le _) (fun _ _=>trivial) (fun _ _ h=>by cases h) hnd (by rw[List.all_eq_true];intro _ _;rfl)
 obtain⟨z1,z2⟩:=PostB.full p0 (show PostB S0.next T0 (EM M w) S0 _ _ from b1.trans b2)
 obtain⟨g1,g2⟩:=qjm s.rts h
 have hval:=qpx hnd s.rts (pre:=[]) rfl h hv2
 refine⟨u,renE 0 (idsQ s.rts x) E2,rfl,e2,hfin _ _ ?_ hval,Post.congr ?_ ?_ z1,⟨fun id ha hn=>z2.fr id ha hn⟩⟩
 · have:∀(cs:List (Bool × TC)) (i:Nat) (y:ElR cs),(resV cs i y).length=cs.length:=by
     intro cs
     induction cs with
     | nil=>intro i y;rfl
     | cons c cs ih=>intro i y;obtain⟨b,c⟩:=c;cases b<;>simp [resV]<;>exact ih _ y.2
   exact this _ _ _
 · funext k
   rw[qnv,if_neg (show ¬k<0 by omega),qbi]
   have e0:S0.next=0:=rfl
   rw[e0,if_neg (show ¬k<0 by omega),Nat.zero_add,Nat.zero_add,Nat.sub_zero,g1]
   by_cases hk:k<(idsQ s.rts x).length
   · rw[if_pos hk,if_pos hk,g2 k,List.getElem?_eq_getElem hk]
     have e:ol 0 (idsQ s.rts x) k=(idsQ s.rts x)[k]:=by unfold ol;rw[if_neg (by omega),Nat.sub_zero,List.getD_eq_getElem?_getD,List.getElem?_eq_getElem hk];rfl
     rw[e]
     simp only[Option.bind_some]
     cases ho:S2.heap.get (idsQ s.rts x)[k] with
     | none=>rfl
     | some o =>
       have:o∈resO s.rts y:=by
         have:=g2 k
         rw[List.getElem?_eq_getElem hk,Option.bind_some,ho] at this
         exact List.mem_of_getElem? this
       obtain⟨c,l,rfl⟩:=qh7 _ _ _ this
       rfl
   · rw[if_neg hk,if_neg hk];rfl
 · show 0+(idsQ s.rts x).length=(addO (resO s.rts y) S0).next
   rw[qbn,g1];rfl
end
end Go.Jx
end

section
namespace Go.Jx
open Go Go.Sx Go.RowKit
universe u

def ob {R:Type} (x:Option Res) (k:Res->Option R):Option R:=match x with|some r=>k r|none=>none
theorem qay {R:Type} (k:Res->Option R) (b:Bool) (x y:Option Res):ob (cond b x y) k=cond b (ob x k) (ob y k):=by cases b<;>rfl
def slEl (tt:Nat->Option TI) (ty:Nat):Option TI:=match tt ty with
 | none=>none
 | some ti=>match ti.und with
   | .slice e=>tt e
   | _=>none
section
variable {R : Type}
def qqv (tt:Nat->Option TI) (S:IS) (ty:TypeId) (v:IV) (kk:Res->Option R):Option R:=match v with
 | .aptr id s i off=>match tt ty with
   | none=>none
   | some ti=>match S.heap.get id with
     | some (.arr c l)=>cond (Nat.beq s (csz c)) (match l[i]? with
       | none=>none
       | some x=>ob (cond (qax ti.und) (match (cel c x)[off]? with|some v=>some ⟨v,S,2 ^ id,0⟩|none=>none)
         (cond (Nat.ble (off+ti.sz) (csz c)) (some ⟨.agg (((cel c x).drop off).take ti.sz),S,2 ^ id,0⟩) none)) kk) none
     | _=>none
 | v=>ob (iload tt S ty v) kk
theorem q3v (tt:Nat->Option TI) (S:IS) (ty:TypeId) (v:IV) (kk:Res->Option R):qqv tt S ty v kk=ob (iload tt S ty v) kk:=by
 cases v<;>try rfl
 rename_i id s i off
 simp only[qqv,iload]
 cases tt ty with
 | none=>rfl
 | some ti =>
   simp only
   cases S.heap.get id with
   | none=>rfl
   | some o =>
     cases o<;>try rfl
     simp only[qay]
     rename_i c l
     cases Nat.beq s (csz c)
     · rfl
     · simp only[cond_true]
       cases l[i]? with
       | none=>rfl
       | some x=>simp only[qay];rfl
def imkCK (tt:Nat->Option TI) (S:IS) (ty:Nat) (n m:Int) (kk:Res->Option R):Option R:=match tt ty with
 | none=>none
 | some ti=>match ti.und with
   | .slice e=>match tt e with
     | none=>none
     | some te=>match tcOf tt 8 e with
       | none=>none
       | some c=>match zC c te.zero.cells.toList with
         | some []=>cond (Nat.beq te.sz (csz c)&&(Nat.blt 0 te.bytes&&(Nat.ble (bsz c) te.bytes&&u8ok c e)))
           (cond (iltI n 0) none (cond (Nat.ble (Nat.mul m.toNat te.bytes) 140737488355328) (kk ⟨.arr S.next,S.new (.arr c (Go.Jx.S.rep n (zEl c))),0,0⟩) none)) none
         | _=>none
   | _=>none
theorem qvw (tt:Nat->Option TI) (S:IS) (ty:Nat) (n m:Int) (kk:Res->Option R):imkCK tt S ty n m kk=ob (imkC tt S ty n m) kk:=by
 unfold imkCK imkC
 cases tt ty with
 | none=>rfl
 | some ti =>
   simp only
   cases ti.und<;>try rfl
   rename_i e
   simp only
   cases tt e with
   | none=>rfl
   | some te =>
     simp only
     cases tcOf tt 8 e with
     | none=>rfl
     | some c =>
       simp only
       cases zC c te.zero.cells.toList with
       | none=>rfl
       | some l =>
         cases l with
         | cons _ _=>rfl
         | nil=>simp only[qay];rfl
def qyq (tt:Nat->Option TI) (S:IS) (ty:Nat) (v:IV) (kk:Res->Option R):Option R:=match v with
 | .int _ n=>imkCK tt S ty n n kk
 | _=>none
def ql2 (tt:Nat->Option TI) (S:IS) (ty:Nat) (v u:IV) (kk:Res->Option R):Option R:=match v,u with
 | .int _ n,.int _ m=>cond (iltI m n) none (imkCK tt S ty n m kk)
 | _,_=>none
theorem q6h (tt:Nat->Option TI) (S:IS) (ty:Nat) (v:IV) (kk:Res->Option R):qyq tt S ty v kk=ob (qem tt S ty v) kk:=by
 cases v<;>first|rfl|exact qvw ..
theorem q55 (tt:Nat->Option TI) (S:IS) (ty:Nat) (v u:IV) (kk:Res->Option R):ql2 tt S ty v u kk=ob (imake tt S ty v u) kk:=by
 cases v<;>cases u<;>try rfl
 simp only[ql2,imake,qay,qvw]
 rfl
def qo9 (tt:Nat->Option TI) (S:IS) (ty:TypeId) (v u:IV) (kk:Res->Option R):Option R:=match v with
 | .aptr id s i off=>match tt ty with
   | none=>none
   | some ti=>match S.heap.get id with
     | some (.arr c l)=>cond (Nat.beq s (csz c)&&Nat.beq (cellsOf u).length ti.sz&&Nat.ble (off+ti.sz) (csz c)&&(cellsOf u).all one1)
       (match l[i]? with
       | none=>none
       | some x=>match icl c S (putI (cel c x) off (cellsOf u)) with
         | some (x2,[],S2,w)=>cond (Nat.testBit w id) none (kk ⟨.tup [],S2.set id (.arr c (l.set i x2)),0,w ||| 2 ^ id⟩)
         | _=>none) none
     | _=>none
 | v=>ob (qcv tt S ty v u) kk
theorem q52 (tt:Nat->Option TI) (S:IS) (ty:TypeId) (v u:IV) (kk:Res->Option R):qo9 tt S ty v u kk=ob (qcv tt S ty v u) kk:=by
 cases v<;>try rfl
 rename_i id s i off
 simp only[qo9,qcv]
 cases tt ty with
 | none=>rfl
 | some ti =>
   simp only
   cases S.heap.get id with
   | none=>rfl
   | some o =>
     cases o<;>try rfl
     rename_i c l
     simp only[qay]
     cases (Nat.beq s (csz c)&&Nat.beq (cellsOf u).length ti.sz&&Nat.ble (off+ti.sz) (csz c)&&(cellsOf u).all one1)
     · rfl
     · simp only[cond_true]
       cases l[i]? with
       | none=>rfl
       | some x =>
         simp only
         cases icl c S (putI (cel c x) off (cellsOf u)) with
         | none=>rfl
         | some q =>
           obtain⟨x2,r,S2,w⟩:=q
           cases r with
           | nil =>
             simp only
             rw[qay];rfl
           | cons a r=>rfl
def qh9 (tt:Nat->Option TI) (S:IS) (ty:Nat) (v u:IV) (kk:Res->Option R):Option R:=match v,u with
 | .lst c l,.int _ i=>match slEl tt ty with
   | none=>none
   | some te=>cond (Nat.beq te.sz (csz c)) (match jget l i with
     | none=>none
     | some x=>kk ⟨.eptr c x 0,S,0,0⟩) none
 | .arr id,.int _ i=>match slEl tt ty with
   | none=>none
   | some te=>match S.heap.get id with
     | some (.arr c l)=>cond (Nat.beq te.sz (csz c)) (match jget l i with
       | none=>none
       | some x=>kk ⟨.aptr id (csz c) i.toNat 0,S,2 ^ id,0⟩) none
     | some (.frz c l)=>cond (Nat.beq te.sz (csz c)) (match jget l i with
       | none=>none
       | some x=>kk ⟨.eptr c x 0,S,2 ^ id,0⟩) none
     | _=>none
 | v,u=>ob (qcr tt S ty v u) kk
theorem q5r (tt:Nat->Option TI) (S:IS) (ty:Nat) (v u:IV) (kk:Res->Option R):qh9 tt S ty v u kk=ob (qcr tt S ty v u) kk:=by
 cases v<;>try rfl
 · cases u<;>try rfl
   rename_i c l k i
   simp only[qh9,qcr,slEl]
   cases tt ty with
   | none=>rfl
   | some ti =>
     simp only
     cases ti.und<;>try rfl
     rename_i e
     simp only
     cases tt e with
     | none=>rfl
     | some te =>
       simp only[qay]
       cases Nat.beq te.sz (csz c)
       · rfl
       · simp only[cond_true];cases jget l i<;>rfl
 · cases u<;>try rfl
   rename_i id k i
   simp only[qh9,qcr,slEl]
   cases tt ty with
   | none=>rfl
   | some ti =>
     simp only
     cases ti.und<;>try rfl
     rename_i e
     simp only
     cases tt e with
     | none=>rfl
     | some te =>
       simp only
       cases S.heap.get id with
       | none=>rfl
       | some o =>
         cases o<;>try rfl
         all_goals
           rename_i c l
           simp only[qay]
           cases Nat.beq te.sz (csz c)
           · rfl
           · simp only[cond_true];cases jget l i<;>rfl
def qre (tt:Nat->Option TI) (S:IS) (ty:Nat) (lo hi mx:Option IV) (v:IV) (kk:Res->Option R):Option R:=match v with
 | .lst c l=>match slEl tt ty with
   | none=>none
   | some te=>match bndI lo 0,bndI hi l.length with
     | some a,some b=>match mx with
       | none=>cond (Nat.beq te.sz (csz c)) (cond (lchk a b l.length l.length) (kk ⟨.lst c (lsub l a b),S,0,0⟩) none) none
       | some mx=>match hi,bndI (some mx) 0 with
         | some _,some m=>cond (Nat.beq te.sz (csz c)) (cond (lchk a b m l.length) (kk ⟨.lst c (lsub l a b),S,0,0⟩) none) none
         | _,_=>none
     | _,_=>none
 | v=>ob (qcn tt S ty lo hi mx v) kk
theorem q2u (tt:Nat->Option TI) (S:IS) (ty:Nat) (lo hi mx:Option IV) (v:IV) (kk:Res->Option R):qre tt S ty lo hi mx v kk=ob (qcn tt S ty lo hi mx v) kk:=by
 cases v<;>try rfl
 rename_i c l
 simp only[qre,qcn,slEl]
 cases tt ty with
 | none=>rfl
 | some ti =>
   simp only
   cases ti.und<;>try rfl
   rename_i e
   simp only
   cases tt e with
   | none=>rfl
   | some te =>
     simp only
     cases bndI lo 0<;>cases bndI hi l.length<;>try rfl
     simp only
     cases mx with
     | none=>simp only[qay];rfl
     | some mx =>
       simp only
       cases hi<;>cases bndI (some mx) 0<;>try rfl
       simp only[qay];rfl
def qm7 (tt:Nat->Option TI) (S:IS) (ty:Nat) (lo hi mx:Option IV) (s:ByteArray) (kk:Res->Option R):Option R :=
 match tt ty,mx with
 | some ti,none=>match ti.und with
   | .string=>match bndI lo 0,bndI hi s.size with
     | some a,some b=>cond (lchk a b s.size s.size) (kk ⟨.str (s.extract a.toNat b.toNat),S,0,0⟩) none
     | _,_=>none
   | _=>none
 | _,_=>none
theorem q5a (tt:Nat->Option TI) (S:IS) (ty:Nat) (lo hi mx:Option IV) (s:ByteArray) (kk:Res->Option R):qm7 tt S ty lo hi mx s kk=ob (qd9 tt S ty lo hi mx s) kk:=by
 simp only[qm7,qd9]
 cases tt ty<;>cases mx<;>try rfl
 rename_i ti
 simp only
 cases ti.und<;>try rfl
 simp only
 cases bndI lo 0<;>cases bndI hi s.size<;>try rfl
 simp only[qay];rfl
def qq9 (tt:Nat->Option TI) (S:IS) (ty:Nat) (lo hi mx:Option IV) (id:Nat) (wh:Bool) (kk:Res->Option R):Option R :=
 match tt ty,mx with
 | some ti,none=>match ti.und with
   | .slice e=>match tt e with
     | none=>none
     | some te=>match S.heap.get id with
       | some (.arr c l)=>match bndI lo 0,bndI hi l.length with
         | some a,some b=>cond wh (cond (ieqI a 0&&ieqI b l.length) (kk ⟨.arr id,S,2 ^ id,0⟩) none)
           (cond (Nat.beq te.sz (csz c)&&lchk a b l.length l.length) (kk ⟨.lst c (lsub l a b),S.set id (.frz c l),0,2 ^ id⟩) none)
         | _,_=>none
       | some (.frz c l)=>match bndI lo 0,bndI hi l.length with
         | some a,some b=>cond (Nat.beq te.sz (csz c)&&lchk a b l.length l.length) (kk ⟨.lst c (lsub l a b),S,2 ^ id,0⟩) none
         | _,_=>none
       | _=>none
   | _=>none
 | _,_=>none
theorem q10 (tt:Nat->Option TI) (S:IS) (ty:Nat) (lo hi mx:Option IV) (id:Nat) (wh:Bool) (kk:Res->Option R):qq9 tt S ty lo hi mx id wh kk=ob (qdq tt S ty lo hi mx id wh) kk:=by
 simp only[qq9,qdq]
 cases tt ty<;>cases mx<;>try rfl
 rename_i ti
 simp only
 cases ti.und<;>try rfl
 rename_i e
 simp only
 cases tt e<;>try rfl
 simp only
 cases S.heap.get id<;>try rfl
 rename_i o
 cases o<;>try rfl
 all_goals simp only
 · rename_i c l
   cases bndI lo 0<;>cases bndI hi l.length<;>try rfl
   simp only[qay];rfl
 · rename_i c l
   cases bndI lo 0<;>cases bndI hi l.length<;>try rfl
   simp only[qay];rfl
def qlp (tt:Nat->Option TI) (S:IS) (ty:Nat) (s:ByteArray) (i:Int) (kk:Res->Option R):Option R :=
 match tt ty with
 | some ti=>match ti.und with
   | .string=>match jget (qaa s) i with
     | some x=>kk ⟨.int .u8 x,S,0,0⟩
     | none=>none
   | _=>none
 | none=>none
theorem qzm (tt:Nat->Option TI) (S:IS) (ty:Nat) (s:ByteArray) (i:Int) (kk:Res->Option R):qlp tt S ty s i kk=ob (qd3 tt S ty s i) kk:=by
 simp only[qlp,qd3]
 cases tt ty<;>try rfl
 rename_i ti
 simp only
 cases ti.und<;>try rfl
 simp only
 cases jget (qaa s) i<;>rfl
def qlt (S:IS) (v:IV) (b:Bool) (kk:Res->Option R):Option R:=match v,b with
 | .ptr id 0,true=>match S.heap.get id with
   | some (.iter s p)=>cond (Nat.blt p s.size) (kk ⟨.tup [.bool true,.int .i64 p,.int .i32 (Utf8.decode s p).1],S.set id (.iter s (p+(Utf8.decode s p).2)),0,2 ^ id⟩)
     (kk ⟨.tup [.bool false],S,2 ^ id,0⟩)
   | _=>none
 | _,_=>none
theorem q6l (S:IS) (v:IV) (b:Bool) (kk:Res->Option R):qlt S v b kk=ob (inext S v b) kk:=by
 have e:∀id,inext S (.ptr id 0) true=(match S.heap.get id with
   | some (.iter s p)=>cond (Nat.blt p s.size) (some ⟨.tup [.bool true,.int .i64 p,.int .i32 (Utf8.decode s p).1],S.set id (.iter s (p+(Utf8.decode s p).2)),0,2 ^ id⟩) (some ⟨.tup [.bool false],S,2 ^ id,0⟩)
   | _=>none):=fun id=>rfl
 unfold qlt
 split
 · rename_i id
   rw[e]
   cases S.heap.get id with
   | none=>rfl
   | some o =>
     cases o<;>first|rfl|(simp only[qay];rfl)
 · rename_i h
   unfold inext
   split
   · rename_i id;exact absurd rfl (h id rfl)
   · rfl
def qm1 (tt:Nat->Option TI) (S:IS) (ty ty2 id:Nat) (y:IV) (kk:Res->Option R):Option R :=
 match S.heap.get id with
 | some (.arr c _)=>match qdh tt ty ty2 c with
   | none=>none
   | some b=>match tsrc S c y with
     | none=>none
     | some (ly,S1,rd,wr)=>match S1.heap.get id with
       | some (.arr c2 lx)=>match qbc c c2 ly with
         | none=>none
         | some ly2=>cond (Nat.ble ((lx.length+ly2.length)*b) 140737488355328) (kk ⟨.arr S1.next,(S1.set id .dead).new (.arr c2 (lx++ly2)),rd,wr ||| 2 ^ id⟩) none
       | _=>none
 | _=>none
theorem q0u (tt:Nat->Option TI) (S:IS) (ty ty2 id:Nat) (y:IV) (kk:Res->Option R):qm1 tt S ty ty2 id y kk=ob (iappA tt S ty ty2 id y) kk:=by
 simp only[qm1,iappA]
 cases S.heap.get id with
 | none=>rfl
 | some o =>
   cases o<;>try rfl
   rename_i c l
   simp only
   cases qdh tt ty ty2 c with
   | none=>rfl
   | some b =>
     simp only
     cases tsrc S c y with
     | none=>rfl
     | some q =>
       obtain⟨ly,S1,rd,wr⟩:=q
       simp only
       cases S1.heap.get id with
       | none=>rfl
       | some o =>
         cases o<;>try rfl
         rename_i c2 lx
         simp only
         cases qbc c c2 ly with
         | none=>rfl
         | some ly2=>simp only[qay];rfl
def qc5 (tt:Nat->Option TI) (S:IS) (ty ty2:Nat) (c:TC) (l:List (El c)) (rd:Nat) (kk:Res->Option R):Option R :=
 match qdh tt ty ty2 c with
 | none=>none
 | some b=>cond (Nat.ble ((0+l.length)*b) 140737488355328) (kk ⟨.arr (S.next+1),((S.new (.arr c [])).set S.next .dead).new (.arr c l),rd,0⟩) none
theorem qzg (tt:Nat->Option TI) (S:IS) (ty ty2:Nat) (c:TC) (l:List (El c)) (rd:Nat) (kk:Res->Option R):qc5 tt S ty ty2 c l rd kk=ob (iappN tt S ty ty2 c l rd) kk:=by
 simp only[qc5,iappN]
 cases qdh tt ty ty2 c with
 | none=>rfl
 | some b=>simp only[qay];rfl
def iappK (tt:Nat->Option TI) (S:IS) (ty ty2:Nat) (x y:IV) (kk:Res->Option R):Option R :=
 match x with
 | .arr id=>qm1 tt S ty ty2 id y kk
 | x=>match y with
   | .lst c l=>cond (empS c x) (qc5 tt S ty ty2 c l 0 kk) none
   | .arr id=>match S.heap.get id with
     | some (.arr c l)=>cond (empS c x) (qc5 tt S ty ty2 c l (2 ^ id) kk) none
     | some (.frz c l)=>cond (empS c x) (qc5 tt S ty ty2 c l (2 ^ id) kk) none
     | _=>none
   | y=>ob (qea tt S ty ty2 x y) kk
theorem q4b (tt:Nat->Option TI) (S:IS) (ty ty2:Nat) (x y:IV) (kk:Res->Option R):iappK tt S ty ty2 x y kk=ob (iapp tt S ty ty2 x y) kk:=by
 have hz:∀(z:Option IObj) (b:TC->Bool) (id:Nat),(match z with
     | some (.arr c l)=>cond (b c) (qc5 tt S ty ty2 c l (2 ^ id) kk) none
     | some (.frz c l)=>cond (b c) (qc5 tt S ty ty2 c l (2 ^ id) kk) none
     | _=>none)=ob (match z with
     | some (.arr c l)=>cond (b c) (iappN tt S ty ty2 c l (2 ^ id)) none
     | some (.frz c l)=>cond (b c) (iappN tt S ty ty2 c l (2 ^ id)) none
     | _=>none) kk:=fun z b id=>by
   cases z with
   | none=>rfl
   | some o =>
     cases o<;>try rfl
     all_goals (simp only[qay,qzg];rfl)
 have hl:∀(b:Bool) (c:TC) (l:List (El c)),cond b (qc5 tt S ty ty2 c l 0 kk) none=ob (cond b (iappN tt S ty ty2 c l 0) none) kk:=fun b c l=>by simp only[qay,qzg];rfl
 cases x<;>first|exact q0u _ _ _ _ _ _ _|(cases y<;>first|rfl|(simp only[iappK,iapp];exact hl _ _ _)|(simp only[iappK,iapp];exact hz _ (fun c=>empS c _) _))
def qgr (P:Program) (tt:Nat->Option TI) (nt:Nat) (fr:PT IV) (S:IS) (o:Oper) (op:BinOp) (T:TypeId) (ti:TI) (v u:IV) (kk:Res->Option R):Option R:=match v,u with
 | .str a,.str b=>match op with
   | .add=>cond (Nat.blt (a.size+b.size) 9223372036854775808) (kk ⟨.str (a++b),S,0,0⟩) none
   | op=>ob (qbv P tt nt fr S o op T ti (.str a) (.str b)) kk
 | .int k a,.int k' b=>match op with
   | .quo=>cond (decide (k=k')) (cond (ieqI b 0) none (kk ⟨.int k (k.wrap (a.tdiv b)),S,0,0⟩)) (ob (icalm P nt fr S o) kk)
   | .rem=>cond (decide (k=k')) (cond (ieqI b 0) none (kk ⟨.int k (a.tmod b),S,0,0⟩)) (ob (icalm P nt fr S o) kk)
   | op=>ob (qbv P tt nt fr S o op T ti (.int k a) (.int k' b)) kk
 | .lst _ l,.nilsl=>cond (isSl ti.und) (match l with
   | []=>none
   | _::_=>match op with
     | .eql=>kk ⟨.bool false,S,0,0⟩
     | .neq=>kk ⟨.bool true,S,0,0⟩
     | _=>none) none
 | v,u=>ob (qbv P tt nt fr S o op T ti v u) kk
theorem q6p (P:Program) (tt:Nat->Option TI) (nt:Nat) (fr:PT IV) (S:IS) (o:Oper) (op:BinOp) (T:TypeId) (ti:TI) (v u:IV) (kk:Res->Option R):qgr P tt nt fr S o op T ti v u kk=ob (qbv P tt nt fr S o op T ti v u) kk:=by
 cases v<;>cases u<;>try rfl
 · cases op<;>try rfl
   all_goals
     rename_i k a k' b
     simp only[qgr,qbv,qia,ibin]
     cases decide (k=k') with
     | false=>rfl
     | true =>
       simp only[cond_true]
       cases ieqI b 0<;>rfl
 · cases op<;>try rfl
   simp only[qgr,qbv,qay];rfl
 · simp only[qgr,qbv,qay]
   rename_i c l
   cases l<;>cases op<;>rfl
def exfK (s:Sm) (vs:List IV) (S:IS) (kk:Res->Option R):Option R :=
 match qb6 s.pts S vs with
 | none=>none
 | some (x,S1,w)=>match s.f x with
   | none=>none
   | some y=>cond s.flat (kk ⟨tupI (resV s.rts S.next y),addO (resO s.rts y) S,w,0⟩) (kk ⟨tupI (resV s.rts S1.next y),addO (resO s.rts y) S1,0,w⟩)
theorem qt2 (s:Sm) (vs:List IV) (S:IS) (kk:Res->Option R):exfK s vs S kk=ob (exf s vs S) kk:=by
 simp only[exfK,exf]
 cases qb6 s.pts S vs with
 | none=>rfl
 | some q =>
   obtain⟨x,S1,w⟩:=q
   simp only
   cases s.f x with
   | none=>rfl
   | some y=>simp only[qay];rfl
def ilenK (tt:Nat->Option TI) (S:IS) (ty:Nat) (v:IV) (kk:Res->Option R):Option R:=match v with
 | .map id=>match tt ty with
   | some ti=>match ti.und with
     | .map _ _=>match S.heap.get id with
       | some (.tmap _ _ es)=>cond (Nat.blt es.length 9223372036854775808) (kk ⟨.int .i64 es.length,S,2 ^ id,0⟩) none
       | _=>ob (ilen tt S ty (.map id)) kk
     | _=>none
   | none=>none
 | v=>ob (ilen tt S ty v) kk
theorem qz2 (tt:Nat->Option TI) (S:IS) (ty:Nat) (v:IV) (kk:Res->Option R):ilenK tt S ty v kk=ob (ilen tt S ty v) kk:=by
 cases v<;>try rfl
 rename_i id
 simp only[ilenK]
 cases h1:tt ty with
 | none=>simp only[ilen,h1];rfl
 | some ti =>
   simp only
   cases h2:ti.und<;>try (simp only[ilen,h1,h2];rfl)
   simp only
   cases h3:S.heap.get id with
   | none=>rfl
   | some o =>
     cases o<;>try rfl
     simp only[ilen,h1,h2,h3,qay];rfl
end
end Go.Jx
end

section
namespace Go.Jx
open Go Go.Sx Go.RowKit
universe u

def bd {α R:Type} (x:Option α) (k:α->Option R):Option R:=match x with|some a=>k a|none=>none
theorem qgs {α R:Type} (k:α->Option R) (b:Bool) (x y:Option α):bd (cond b x y) k=cond b (bd x k) (bd y k):=by cases b<;>rfl
theorem qc2 {α R:Type} (x:Option α) (f:α->Option Res) (k:Res->Option R):ob (oget x f) k=bd x fun a=>ob (f a) k:=by cases x<;>rfl
section
variable {R : Type}
def iopK (P:Program) (tt:Nat->Option TI) (nt:Nat) (fr:PT IV) (S:IS) (o:Oper) (kk:Res->Option R):Option R :=
 match o.op with
 | .load T x=>bd (evo nt fr x) fun v=>qqv tt S T v kk
 | .store T x y=>bd (evo nt fr x) fun v=>bd (evo nt fr y) fun u=>qo9 tt S T v u kk
 | .binOp op T x y _=>bd (evo nt fr x) fun v=>bd (evo nt fr y) fun u=>match tt T with
   | some ti=>qgr P tt nt fr S o op T ti v u kk
   | none=>none
 | .slice T x lo hi mx=>bd (evo nt fr x) fun v=>match v with
   | .lst c l=>bd (evM nt fr lo) fun lo=>bd (evM nt fr hi) fun hi=>bd (evM nt fr mx) fun mx=>qre tt S T lo hi mx (.lst c l) kk
   | .str s=>bd (evM nt fr lo) fun lo=>bd (evM nt fr hi) fun hi=>bd (evM nt fr mx) fun mx=>qm7 tt S T lo hi mx s kk
   | .arr id=>bd (evM nt fr lo) fun lo=>bd (evM nt fr hi) fun hi=>bd (evM nt fr mx) fun mx=>qq9 tt S T lo hi mx id (qzl o.pos) kk
   | _=>ob (iop P tt nt fr S o) kk
 | .indexAddr T x y=>bd (evo nt fr x) fun v=>bd (evo nt fr y) fun u=>qh9 tt S T v u kk
 | .makeSlice T x y=>bd (evo nt fr x) fun v=>cond (qiw x y) (qyq tt S T v kk) (bd (evo nt fr y) fun u=>ql2 tt S T v u kk)
 | .next x b=>bd (evo nt fr x) fun v=>qlt S v b kk
 | .index T x y=>bd (evo nt fr x) fun v=>bd (evo nt fr y) fun u=>match v,u with
   | .str s,.int _ i=>qlp tt S T s i kk
   | _,_=>ob (iop P tt nt fr S o) kk
 | .call ⟨.builtin .append,args,ts⟩=>match args.toList,ts.toList with
   | [x,y],[t1,t2]=>bd (evo nt fr x) fun v=>bd (evo nt fr y) fun u=>iappK tt S t1 t2 v u kk
   | _,_=>none
 | .call ⟨.builtin .len,args,ts⟩=>match args.toList,ts.toList with
   | [x],[t1]=>bd (evo nt fr x) fun v=>match v with
     | .map id=>ilenK tt S t1 (.map id) kk
     | _=>ob (iop P tt nt fr S o) kk
   | _,_=>none
 | _=>ob (iop P tt nt fr S o) kk
theorem qw2 (P:Program) (tt:Nat->Option TI) (nt:Nat) (fr:PT IV) (S:IS) (o:Oper) (kk:Res->Option R):iopK P tt nt fr S o kk=ob (iop P tt nt fr S o) kk:=by
 obtain⟨dst,op,ty,pos,aft,g⟩:=o
 cases op<;>try rfl
 case load T x=>simp only[iopK,iop,qc2,q3v]
 case store T x y=>simp only[iopK,iop,qc2,q52]
 case binOp op T x y t2 =>
   simp only[iopK,iop,qc2]
   cases evo nt fr x<;>try rfl
   cases evo nt fr y<;>try rfl
   simp only[bd]
   cases tt T<;>first|rfl|exact q6p ..
 case slice T x lo hi mx =>
   simp only[iopK]
   cases he:evo nt fr x with
   | none=>simp only[iop,he];rfl
   | some v =>
     simp only[bd]
     cases v<;>try rfl
     · simp only[iop,he,oget]
       cases evM nt fr lo<;>try rfl
       cases evM nt fr hi<;>try rfl
       cases evM nt fr mx<;>try rfl
       exact q5a ..
     · simp only[iop,he,oget]
       cases evM nt fr lo<;>try rfl
       cases evM nt fr hi<;>try rfl
       cases evM nt fr mx<;>try rfl
       exact q2u ..
     · simp only[iop,he,oget]
       cases evM nt fr lo<;>try rfl
       cases evM nt fr hi<;>try rfl
       cases evM nt fr mx<;>try rfl
       exact q10 ..
 case indexAddr T x y=>simp only[iopK,iop,qc2,q5r]
 case makeSlice T x y=>simp only[iopK,iop,qc2,qay,q6h,q55]
 case next x b=>simp only[iopK,iop,qc2,q6l]
 case index T x y =>
   simp only[iopK]
   cases he:evo nt fr x with
   | none=>simp only[iop,he];rfl
   | some v =>
     simp only[bd]
     cases he2:evo nt fr y with
     | none=>simp only[iop,he,he2,oget];rfl
     | some u =>
       simp only
       cases v<;>cases u<;>try rfl
       simp only[iop,he,he2,oget]
       exact qzm ..
 case call c =>
   obtain⟨callee,args,ts⟩:=c
   cases callee<;>try rfl
   rename_i b
   cases b<;>try rfl
   case append =>
     simp only[iopK,iop]
     generalize args.toList=la
     generalize ts.toList=lt
     cases la with
     | nil=>rfl
     | cons x la=>cases la with
       | nil=>rfl
       | cons y la=>cases la with
         | cons z la=>rfl
         | nil=>cases lt with
           | nil=>rfl
           | cons t1 lt=>cases lt with
             | nil=>rfl
             | cons t2 lt=>cases lt with
               | cons t3 lt=>rfl
               | nil=>simp only[qc2,q4b]
   case len =>
     simp only[iopK,iop]
     generalize args.toList=la
     generalize ts.toList=lt
     cases la with
     | nil=>rfl
     | cons x la=>cases la with
       | cons y la=>rfl
       | nil=>cases lt with
         | nil=>rfl
         | cons t1 lt=>cases lt with
           | cons t2 lt=>rfl
           | nil =>
             simp only
             cases he:evo nt fr x with
             | none=>rfl
             | some v =>
               simp only[bd,oget]
               cases v<;>try rfl
               exact qz2 ..
abbrev ClK (R:Type):=Tgt->List IV->IS->(Res->Option R)->Option R
def qeg (P:Program) (tt:Nat->Option TI) (nt:Nat) (cl:ClK R) (fr:PT IV) (S:IS) (o:Oper) (kk:Res->Option R):Option R :=
 match o.op with
 | .call ⟨.value x,args,_⟩=>bd (evo nt fr x) fun v=>bd (evL nt fr args.toList) fun vs=>match v with
   | .fn f caps=>cl (.fn f) (vs++caps) S kk
   | .yield id=>cl (.yield id) vs S kk
   | _=>none
 | _=>iopK P tt nt fr S o kk
def ClEq (cl:Cl) (clK:ClK R):Prop:=∀tgt vs S kk,clK tgt vs S kk=ob (cl tgt vs S) kk
variable {P : Program} {tt : Nat -> Option TI} {nt : Nat} {cl : Cl} {clK : ClK R}
theorem qyj (h:ClEq cl clK) (fr:PT IV) (S:IS) (o:Oper) (kk:Res->Option R):qeg P tt nt clK fr S o kk=ob (istep P tt nt cl fr S o) kk:=by
 obtain⟨dst,op,ty,pos,aft,g⟩:=o
 cases op
 case call c =>
   obtain⟨callee,args,ts⟩:=c
   cases callee
   case value x =>
     simp only[qeg,istep,qc2]
     cases evo nt fr x<;>try rfl
     rename_i v
     cases evL nt fr args.toList<;>try rfl
     rename_i vs
     cases v<;>try rfl
     · exact h ..
     · exact h ..
   all_goals (simp only[qeg,istep];exact qw2 ..)
 all_goals (simp only[qeg,istep];exact qw2 ..)
theorem PT.set_same {α:Type u} {x:α}:∀{t:PT α} {n:Nat},t.get n=some x->t.set x n=t
 | .leaf,n,h=>by cases h
 | .node v l r,n,h=>by
   unfold PT.get at h
   unfold PT.set
   cases h0:Nat.beq n 0 with
   | true=>rw[h0,cond_true] at h;subst h;rfl
   | false =>
     rw[h0,cond_false] at h
     simp only[cond_false]
     cases h1:Nat.beq (n % 2) 1 with
     | true=>rw[h1,cond_true] at h;simp only[cond_true];rw[PT.set_same h]
     | false=>rw[h1,cond_false] at h;simp only[cond_false];rw[PT.set_same h]
theorem q3a {fr:PT IV} {t:Nat} {v:IV} (h:slot fr t=v) (hv:v≠.unk):fr.set v t=fr:=by
 unfold slot at h
 cases hg:fr.get t with
 | none=>rw[hg] at h;exact absurd h.symm hv
 | some x=>rw[hg] at h;subst h;exact PT.set_same hg
def guK (ops:List Oper) (nt:Nat) (fr:PT IV) (g:Option (Nat × Bool)) (yes no:PT IV->Option R):Option R :=
 match g with
 | none=>yes fr
 | some (j,want)=>match dstAt ops j with
   | none=>no fr
   | some t=>match slot fr t with
     | .bool b=>cond (Nat.blt t nt) (cond b (cond want yes no (fr.set (.bool true) t)) (cond want no yes (fr.set (.bool false) t))) (no fr)
     | v=>cond (known v) (no fr) none
theorem qtl (ops:List Oper) (nt:Nat) (fr:PT IV) (g:Option (Nat × Bool)) (yes no:PT IV->Option R):guK ops nt fr g yes no=cond (gOK ops fr g) (cond (wantI ops nt fr g) (yes fr) (no fr)) none:=by
 unfold guK gOK wantI qi6
 cases g with
 | none=>rfl
 | some q =>
   obtain⟨j,want⟩:=q
   simp only
   cases dstAt ops j with
   | none=>rfl
   | some t =>
     simp only
     cases hs:slot fr t
     case bool b =>
       have hf:fr.set (.bool b) t=fr:=q3a hs (by simp)
       simp only[known,cond_true]
       cases Nat.blt t nt
       · rfl
       · cases b<;>cases want<;>simp only[cond_true,cond_false,hf,Bool.not_true,Bool.not_false]
     all_goals (cases Nat.blt t nt<;>rfl)
def iseqK (P:Program) (tt:Nat->Option TI) (nt:Nat) (cl:ClK R) (ops:List Oper):List Oper->PT IV->IS->(FRes->Option R)->Option R
 | [],fr,S,kk=>kk ⟨fr,S,0,0⟩
 | o::l,fr,S,kk=>guK ops nt fr o.guard
   (fun fr=>qeg P tt nt cl fr S o fun r=>iseqK P tt nt cl ops l (putD o.dst r.v fr) r.S fun q=>kk ⟨q.fr,q.S,r.rd ||| q.rd,r.wr ||| q.wr⟩)
   (fun fr=>iseqK P tt nt cl ops l (putD o.dst (.tup []) fr) S kk)
theorem qma (h:ClEq cl clK) (ops:List Oper):∀(l:List Oper) (fr:PT IV) (S:IS) (kk:FRes->Option R),iseqK P tt nt clK ops l fr S kk=bd (iseq P tt nt cl ops l fr S) kk
 | [],fr,S,kk=>rfl
 | o::l,fr,S,kk=>by
   simp only[iseqK,iseq,qtl,qgs,qyj h,qma h ops l]
   refine cond_congr' ?_
   refine cond_congr' ?_
   cases istep P tt nt cl fr S o with
   | none=>rfl
   | some r =>
     simp only[ob]
     cases iseq P tt nt cl ops l (putD o.dst r.v fr) r.S<;>rfl
where cond_congr' {b:Bool} {x x' y:Option R} (h:x=x'):cond b x y=cond b x' y:=by rw[h]
def qhv (P:Program) (tt:Nat->Option TI) (nt:Nat) (cl:ClK R) (ops:List Oper):List Oper->PT IV->IS->(Recs->Option R)->Option R
 | [],fr,S,kk=>kk ⟨[],fr,S⟩
 | o::l,fr,S,kk=>guK ops nt fr o.guard
   (fun fr=>qeg P tt nt cl fr S o fun r=>qhv P tt nt cl ops l (putD o.dst r.v fr) r.S fun q=>kk ⟨⟨fr,S,r.v,r.rd,r.wr,true⟩::q.l,q.fr,q.S⟩)
   (fun fr=>qhv P tt nt cl ops l (putD o.dst (.tup []) fr) S fun q=>kk ⟨⟨fr,S,.tup [],0,0,false⟩::q.l,q.fr,q.S⟩)
theorem qx7 (h:ClEq cl clK) (ops:List Oper):∀(l:List Oper) (fr:PT IV) (S:IS) (kk:Recs->Option R),qhv P tt nt clK ops l fr S kk=bd (irecs P tt nt cl ops l fr S) kk
 | [],fr,S,kk=>rfl
 | o::l,fr,S,kk=>by
   simp only[qhv,irecs,qtl,qgs,qyj h,qx7 h ops l]
   cases gOK ops fr o.guard
   · rfl
   cases wantI ops nt fr o.guard
   · simp only[cond_true,cond_false]
     cases irecs P tt nt cl ops l (putD o.dst (.tup []) fr) S<;>rfl
   · simp only[cond_true]
     cases istep P tt nt cl fr S o with
     | none=>rfl
     | some r =>
       simp only[ob]
       cases irecs P tt nt cl ops l (putD o.dst r.v fr) r.S<;>rfl
def ianyK (P:Program) (tt:Nat->Option TI) (nt:Nat) (cl:ClK R) (ops:List Oper) (fr:PT IV) (S:IS) (kk:FRes->Option R):Option R :=
 qhv P tt nt cl ops ops fr S fun q=>cond (ichk q.l q.S (befs ops []) []) (kk ⟨q.fr,q.S,orRd q.l,orWr q.l⟩) none
theorem qzc (h:ClEq cl clK) (ops:List Oper) (fr:PT IV) (S:IS) (kk:FRes->Option R):ianyK P tt nt clK ops fr S kk=bd (iany P tt nt cl ops fr S) kk:=by
 simp only[ianyK,iany,qx7 h]
 cases irecs P tt nt cl ops ops fr S with
 | none=>rfl
 | some q=>simp only[qgs];rfl

abbrev CdK (R:Type):=PT IV->IS->List Nat->(CRes->Option R)->Option R
def qj9 (f:CdK R):Nat->CdK R
 | 0,_,_,_,_=>none
 | n+1,fr,S,ds,kk=>f fr S ds fun r=>match r.e with
   | .normal=>qj9 f n r.fr r.S r.ds fun q=>kk (q.or r.rd r.wr)
   | _=>kk r
def qcs (f:CdK R) (mr mw:Nat):Nat->CdK R
 | 0,_,_,_,_=>none
 | n+1,fr,S,ds,kk=>f fr S ds fun r=>cond (subm r.rd mr&&subm r.wr mw) (match r.e with
   | .normal=>qcs f mr mw n r.fr r.S r.ds kk
   | e=>kk ⟨e,r.fr,r.S,r.ds,mr,mw⟩) none
def ifinK (cl:ClK R) (f:Nat) (caps:List IV) (S:IS) (id:Nat) (fr:PT IV) (ds:List Nat) (rd:Nat) (kk:CRes->Option R):Option R :=
 cl (.fn f) (.yield id::caps) S fun r=>match r.S.heap.get id with
   | some (.loop st pend nt fr2 ps assign body D)=>match st with
     | .busy=>none
     | _=>match pend with
       | none=>kk ⟨.normal,fr,r.S.set id (.loop .exhausted pend nt fr2 ps assign body D),ds,rd ||| (r.rd ||| 2 ^ id),r.wr ||| 2 ^ id⟩
       | some c=>match qhm c with
         | none=>none
         | some e=>kk ⟨e,fr,r.S.set id (.loop .exhausted pend nt fr2 ps assign body D),ds,rd ||| (r.rd ||| 2 ^ id),r.wr ||| 2 ^ id⟩
   | _=>none
theorem qu9 (h:ClEq cl clK) (f:Nat) (caps:List IV) (S:IS) (id:Nat) (fr:PT IV) (ds:List Nat) (rd:Nat) (kk:CRes->Option R):ifinK clK f caps S id fr ds rd kk=bd (ifin cl f caps S id fr ds rd) kk:=by
 simp only[ifinK,ifin,h (.fn f)]
 cases cl (.fn f) (.yield id::caps) S with
 | none=>rfl
 | some r =>
   simp only[ob]
   cases r.S.heap.get id with
   | none=>rfl
   | some o =>
     cases o<;>try rfl
     rename_i st pend nt fr2 ps assign body D
     cases st<;>try rfl
     all_goals
       cases pend with
       | none=>rfl
       | some c =>
         simp only
         cases qhm c<;>rfl
theorem qmn {B:Nat} (x:Option CRes) (kk:CRes->Option R):bd (mbO B x) kk=bd x fun r=>kk (mbR B r):=by cases x<;>rfl
def qan (P:Program) (tt:Nat->Option TI) (nm:Nat->Option Nm) (B:Nat) (nt:Nat) (cl:ClK R) (lf:Nat) (round:Option Nat):Code->CdK R
 | .skip,fr,S,ds,kk=>kk ⟨.normal,fr,S,ds,0,0⟩
 | .label _,fr,S,ds,kk=>kk ⟨.normal,fr,S,ds,0,0⟩
 | .exit id,fr,S,ds,kk=>kk ⟨.exit id,fr,S,ds,0,0⟩
 | .goto l,fr,S,ds,kk=>kk ⟨.goto l,fr,S,ds,0,0⟩
 | .ret,fr,S,ds,kk=>kk ⟨.ret,fr,S,ds,0,0⟩
 | .refuse _,_,_,_,_=>none
 | .region id ops draw,fr,S,ds,kk=>bd (inorm nt (nm id) B fr S ds) fun x =>
   cond draw (ianyK P tt nt cl ops.toList x.fr x.S fun q=>kk (mbR (mB nm B) ⟨.normal,q.fr,q.S,x.ds,q.rd,x.wr ||| q.wr⟩))
     (iseqK P tt nt cl ops.toList ops.toList x.fr x.S fun q=>kk (mbR (mB nm B) ⟨.normal,q.fr,q.S,x.ds,q.rd,x.wr ||| q.wr⟩))
 | .seq x y,fr,S,ds,kk=>qan P tt nm B nt cl lf round x fr S ds fun r=>match r.e with
   | .normal=>qan P tt nm B nt cl lf round y r.fr r.S r.ds fun q=>kk (q.or r.rd r.wr)
   | _=>kk r
 | .cond c x y,fr,S,ds,kk=>match evo nt fr c with
   | some (.bool b)=>cond b (qan P tt nm B nt cl lf round x fr S ds kk) (qan P tt nm B nt cl lf round y fr S ds kk)
   | _=>none
 | .block id c,fr,S,ds,kk=>qan P tt nm B nt cl lf round c fr S ds fun r=>match r.e with
   | .exit id'=>cond (Nat.beq id' id) (kk ⟨.normal,r.fr,r.S,r.ds,r.rd,r.wr⟩) (kk r)
   | _=>kk r
 | .scope c,fr,S,ds,kk=>qan P tt nm B nt cl lf round c fr S ds fun r=>match r.e with
   | .goto _=>none
   | _=>kk r
 | .loop c,fr,S,ds,kk=>match loopM nm c with
   | some m=>qcs (qan P tt nm B nt cl lf round c) m.1 m.2 lf fr S ds fun r=>kk (mbR (mB nm B) r)
   | none=>qj9 (qan P tt nm B nt cl lf round c) lf fr S ds kk
 | .rangeFunc g ps assign body,fr,S,ds,kk=>match evo nt fr g with
   | some (.fn f caps)=>match round with
     | none=>ifinK cl f caps ((S.new (.defs true)).new (.loop .ready none nt fr ps.toList assign body S.next)) (S.next+1) fr (S.next::ds) 0 fun r=>kk (mbR (mB nm B) r)
     | some l=>match S.heap.get l with
       | some (.loop _ _ _ _ _ _ _ D)=>ifinK cl f caps (S.new (.loop .ready none nt fr ps.toList assign body D)) S.next fr ds (2 ^ l) fun r=>kk (mbR (mB nm B) r)
       | _=>none
   | _=>none
variable {nm : Nat -> Option Nm} {B lf : Nat} {round : Option Nat}
theorem qtw {g:PT IV->IS->List Nat->Option CRes} {f:CdK R} (h:∀fr S ds kk,f fr S ds kk=bd (g fr S ds) kk):∀n fr S ds kk,qj9 f n fr S ds kk=bd (iiter g n fr S ds) kk
 | 0,_,_,_,_=>rfl
 | n+1,fr,S,ds,kk=>by
   simp only[qj9,iiter,h,qtw h n]
   cases g fr S ds with
   | none=>rfl
   | some r =>
     simp only[bd]
     cases r.e<;>try rfl
     simp only
     cases iiter g n r.fr r.S r.ds<;>rfl
theorem qxp {g:PT IV->IS->List Nat->Option CRes} {f:CdK R} {mr mw:Nat} (h:∀fr S ds kk,f fr S ds kk=bd (g fr S ds) kk):∀n fr S ds kk,qcs f mr mw n fr S ds kk=bd (qbh g mr mw n fr S ds) kk
 | 0,_,_,_,_=>rfl
 | n+1,fr,S,ds,kk=>by
   simp only[qcs,qbh,h,qxp h n]
   cases g fr S ds with
   | none=>rfl
   | some r =>
     simp only[qgs]
     simp only[bd]
     cases subm r.rd mr&&subm r.wr mw
     · rfl
     · simp only[cond_true]
       cases r.e<;>rfl
theorem qco (hcl:ClEq cl clK):∀(c:Code) (fr:PT IV) (S:IS) (ds:List Nat) (kk:CRes->Option R),qan P tt nm B nt clK lf round c fr S ds kk=bd (icode P tt nm B nt cl lf round c fr S ds) kk:=by
 intro c
 induction c with
 | skip=>intros;rfl
 | label l=>intros;rfl
 | exit id=>intros;rfl
 | goto l=>intros;rfl
 | ret=>intros;rfl
 | refuse _=>intros;rfl
 | region id ops draw =>
   intro fr S ds kk
   simp only[qan,icode,qmn]
   cases inorm nt (nm id) B fr S ds with
   | none=>rfl
   | some x =>
     simp only[bd,qzc hcl,qma hcl]
     cases draw with
     | true=>simp only[cond_true];cases iany P tt nt cl ops.toList x.fr x.S<;>rfl
     | false=>simp only[cond_false];cases iseq P tt nt cl ops.toList ops.toList x.fr x.S<;>rfl
 | seq x y ihx ihy =>
   intro fr S ds kk
   simp only[qan,icode,ihx,ihy]
   cases icode P tt nm B nt cl lf round x fr S ds with
   | none=>rfl
   | some r =>
     simp only[bd]
     cases r.e<;>try rfl
     simp only
     cases icode P tt nm B nt cl lf round y r.fr r.S r.ds<;>rfl
 | cond c x y ihx ihy =>
   intro fr S ds kk
   simp only[qan,icode]
   cases evo nt fr c with
   | none=>rfl
   | some v =>
     cases v<;>try rfl
     simp only[ihx,ihy,qgs]
 | block id c ih =>
   intro fr S ds kk
   simp only[qan,icode,ih]
   cases icode P tt nm B nt cl lf round c fr S ds with
   | none=>rfl
   | some r =>
     simp only[bd]
     cases r.e<;>try rfl
     simp only
     rename_i id'
     cases Nat.beq id' id<;>rfl
 | scope c ih =>
   intro fr S ds kk
   simp only[qan,icode,ih]
   cases icode P tt nm B nt cl lf round c fr S ds with
   | none=>rfl
   | some r =>
     simp only[bd]
     cases r.e<;>rfl
 | loop c ih =>
   intro fr S ds kk
   simp only[qan,icode]
   cases loopM nm c with
   | none=>exact qtw ih _ _ _ _ _
   | some m=>exact(qxp ih _ _ _ _ _).trans (qmn _ _).symm
 | rangeFunc g ps assign body ih1 ih2 =>
   intro fr S ds kk
   simp only[qan,icode,qmn]
   cases evo nt fr g with
   | none=>rfl
   | some v =>
     cases v<;>try rfl
     simp only
     cases round with
     | none=>exact qu9 hcl ..
     | some l =>
       simp only
       cases S.heap.get l with
       | none=>rfl
       | some o =>
         cases o<;>try rfl
         exact qu9 hcl ..
def qlm (P:Program) (tt:Nat->Option TI) (cl:ClK R) (lf:Nat) (id:Nat) (vs:List IV) (S:IS) (kk:Res->Option R):Option R :=
 match S.heap.get id with
 | some (.loop .ready _ nt fr ps assign body _)=>cond (Nat.beq vs.length ps.length&&qap assign&&qap body)
   (qan P tt (fun _=>none) S.next nt cl lf (some id) assign (setPs ps vs fr) S [] fun r1=>match r1.e with
     | .normal=>match r1.S.heap.get id with
       | some (.loop .ready pend nt2 fr2 ps2 as2 bd2 D2)=>qan P tt (fun _=>none) S.next nt cl lf (some id) body r1.fr (r1.S.set id (.loop .busy pend nt2 fr2 ps2 as2 bd2 D2)) r1.ds fun r2 =>
         match r2.S.heap.get id with
         | some (.loop _ _ nt3 fr3 ps3 as3 bd3 D3)=>kk ⟨.bool (endOf r2.e).isNone,r2.S.set id (.loop (if (endOf r2.e).isNone then .ready else .done) (endOf r2.e) nt3 fr3 ps3 as3 bd3 D3),2 ^ id ||| (r1.rd ||| r2.rd),(r1.wr ||| 2 ^ id) ||| (r2.wr ||| 2 ^ id)⟩
         | _=>none
       | _=>none
     | _=>none) none
 | _=>none
theorem q2g (hcl:ClEq cl clK) (id:Nat) (vs:List IV) (S:IS) (kk:Res->Option R):qlm P tt clK lf id vs S kk=ob (qcp P tt cl lf id vs S) kk:=by
 simp only[qlm,qcp]
 cases S.heap.get id with
 | none=>rfl
 | some o =>
   cases o<;>try rfl
   rename_i st pend nt fr ps assign body D
   cases st<;>try rfl
   simp only[qay,qco hcl]
   cases (Nat.beq vs.length ps.length&&qap assign&&qap body)
   · rfl
   · simp only[cond_true]
     cases icode P tt (fun _=>none) S.next nt cl lf (some id) assign (setPs ps vs fr) S [] with
     | none=>rfl
     | some r1 =>
       simp only[bd]
       cases r1.e<;>try rfl
       simp only
       cases r1.S.heap.get id with
       | none=>rfl
       | some o =>
         cases o<;>try rfl
         rename_i st pend2 nt2 fr2 ps2 as2 bd2 D2
         cases st<;>try rfl
         simp only
         cases icode P tt (fun _=>none) S.next nt cl lf (some id) body r1.fr (r1.S.set id (.loop .busy pend2 nt2 fr2 ps2 as2 bd2 D2)) r1.ds with
         | none=>rfl
         | some r2 =>
           simp only
           cases r2.S.heap.get id with
           | none=>rfl
           | some o=>cases o<;>rfl
abbrev ClP:=(R:Type)->ClK R
structure Hx where
 f:Cl->List IV->IS->Option Res
 k:ClP->(R:Type)->List IV->IS->(Res->Option R)->Option R
 eq:∀(cl:Cl) (clP:ClP),(∀R,ClEq cl (clP R))->∀R vs S kk,k clP R vs S kk=ob (f cl vs S) kk
def exH (sm:Nat->Option Sm) (hx:Nat->Option Hx):Ex:=fun f=>match sm f with
 | some s=>some (fun _=>exf s)
 | none=>match hx f with
   | some h=>some h.f
   | none=>none
def qah (P:Program) (tt:Nat->Option TI) (ft:Nat->Option FI) (nm:Nat->Nat->Option Nm) (sm:Nat->Option Sm) (hx:Nat->Option Hx) (lf:Nat):Nat->ClP
 | 0,_,_,_,_,_=>none
 | n+1,R,tgt,vs,S,kk=>match tgt with
   | .yield id=>qlm P tt (qah P tt ft nm sm hx lf n R) lf id vs S kk
   | .fn f=>match sm f with
     | some s=>exfK s vs S kk
     | none=>match hx f with
       | some h=>h.k (qah P tt ft nm sm hx lf n) R vs S kk
       | none=>match ft f with
         | none=>none
         | some fi=>cond (frzF (nm f)) none (cond (Nat.ble vs.length fi.nt) (qan P tt (nm f) S.next fi.nt (qah P tt ft nm sm hx lf n R) lf none fi.body (argGo vs 0 .leaf) S [] fun r=>cond r.e.leaves (bd (qb2 tt fi.nt fi.res S r) kk) none) none)
theorem qam {ft:Nat->Option FI} {nm:Nat->Nat->Option Nm} {sm:Nat->Option Sm} {hx:Nat->Option Hx}:∀n R,ClEq (icall P tt ft nm (exH sm hx) lf n) (qah P tt ft nm sm hx lf n R)
 | 0,_=>fun _ _ _ _=>rfl
 | n+1,R=>fun tgt vs S kk=>by
   unfold qah icall
   cases tgt with
   | yield id=>exact q2g (qam n R) ..
   | fn f =>
     simp only[exH]
     cases sm f with
     | some s=>exact qt2 ..
     | none =>
       simp only
       cases hx f with
       | some h=>exact h.eq _ _ (qam n) R vs S kk
       | none =>
         simp only
         cases ft f with
         | none=>rfl
         | some fi =>
           simp only[qay,qco (qam n R)]
           cases frzF (nm f)
           case true=>rfl
           simp only[cond_false]
           cases Nat.ble vs.length fi.nt
           · rfl
           · simp only[cond_true]
             cases icode P tt (nm f) S.next fi.nt (icall P tt ft nm (exH sm hx) lf n) lf none fi.body (argGo vs 0 .leaf) S [] with
             | none=>rfl
             | some r =>
               simp only[bd,qay]
               cases r.e.leaves
               · rfl
               · cases qb2 tt fi.nt fi.res S r<;>rfl
end
end Go.Jx
end

section
namespace Go.Jx
open Go Go.Sx Go.RowKit
universe u

def PT.Fa {α:Type u}:PT α->(Nat->α->Prop)->Prop
 | .leaf,_=>True
 | .node v l r,p=>(match v with|none=>True|some x=>p 0 x)/\l.Fa (fun k=>p (2*k+1))/\r.Fa (fun k=>p (2*k+2))
theorem PT.fa {α:Type u}:∀{t:PT α} {p:Nat->α->Prop},t.Fa p->∀k v,t.get k=some v->p k v
 | .leaf,p,h,k,v,hk=>by cases hk
 | .node x l r,p,h,k,v,hk=>by
   obtain⟨h1,h2,h3⟩:=h
   unfold PT.get at hk
   by_cases h0:k=0
   · subst h0
     rw[beq_t rfl,cond_true] at hk
     subst hk;exact h1
   · rw[beq_f h0,cond_false] at hk
     by_cases h4:k % 2=1
     · rw[beq_t h4,cond_true] at hk
       have:=PT.fa h2 _ _ hk
       rwa [show 2*(k / 2)+1=k by omega] at this
     · rw[beq_f h4,cond_false] at hk
       have:=PT.fa h3 _ _ hk
       rwa [show 2*((k-1) / 2)+2=k by omega] at this
def FIok (P:Program) (f:Nat) (fi:FI):Prop:=∃fn,P.funcs[f]?=some fn/\fn.body=some fi.body/\fn.ntmps=fi.nt/\fn.results=fi.res.toArray/\(fn.name == "runtime.NumGoroutine") = false/\qap fi.body=true

def WfE:(c:TC)->El c->Prop
 | .int k=>fun(n:Int)=>k.wrap n=n
 | .bool=>fun _=>True
 | .str=>fun(s:ByteArray)=>s.size<9223372036854775808
 | .list c=>fun(l:List (El c))=>l.length*bsz c<=140737488355328/\∀x∈l,WfE c x
 | .two a b=>fun(x:El a × El b)=>WfE a x.1/\WfE b x.2
def WfA:(cs:List TC)->ElA cs->Prop
 | [],_=>True
 | c::cs,x=>WfE c x.1/\WfA cs x.2
theorem wf_cells {E:Env}:∀(c:TC) (x:El c) (us:Nat->Value),(∀j (h:j<(cel c x).length),VR E (cel c x)[j] (us j))->WfE c x
 | .int k,x,us,h=>by
   have:=h 0 (by simp[cel])
   have h0:VR E (.int k x) (us 0):=this
   generalize us 0=u at h0
   cases h0;assumption
 | .bool,x,us,h=>trivial
 | .str,x,us,h=>by
   have:=h 0 (by simp[cel])
   have h0:VR E (.str x) (us 0):=this
   generalize us 0=u at h0
   cases h0;assumption
 | .list c,l,us,h=>by
   have:=h 0 (by simp[cel])
   have h0:VR E (.lst c l) (us 0):=this
   generalize us 0=u at h0
   cases h0 with
   | lst0 hc=>exact⟨by simp,fun x hx=>by cases hx⟩
   | lst us2 h1 h2 h3 hb hh hc hu =>
     refine⟨h3,fun x hx=>?_⟩
     obtain⟨i,hi,rfl⟩:=List.mem_iff_getElem.1 hx
     exact wf_cells c _ (us2 i) (hu i hi)
 | .two a b,x,us,h=>by
   have e:cel (.two a b) x=cel a x.1++cel b x.2:=rfl
   refine⟨wf_cells (E:=E) a x.1 us fun j hj=>?_,wf_cells (E:=E) b x.2 (fun j=>us ((cel a x.1).length+j)) fun j hj=>?_⟩
   · have:=h j (by rw[e,List.length_append];omega)
     simp only[e] at this
     rwa [List.getElem_append_left hj] at this
   · have:=h ((cel a x.1).length+j) (by rw[e,List.length_append];omega)
     simp only[e] at this
     rw[List.getElem_append_right (by omega)] at this
     simpa only [Nat.add_sub_cancel_left] using this
theorem qos {E:Env} {c:TC} {x:El c} {u:Value} (hc:cel c x=[asIV c x]) (h:VR E (asIV c x) u):WfE c x :=
 wf_cells (E:=E) c x (fun _=>u) fun j hj=>by
   have:j=0:=by rw[hc] at hj;simp at hj;omega
   subst this
   simp only[hc];exact h
theorem wf_as {E:Env} {c:TC} {x:El c} {u:Value} (h:VR E (asIV c x) u):WfE c x:=by
 cases c with
 | two a b =>
   cases h with
   | agg hl hh =>
     rename_i us
     refine wf_cells (E:=E) (.two a b) x (fun j=>us.getD j .nilFunc) fun j hj=>?_
     have hj2:j<us.length:=by rw[<- hl];exact hj
     show VR E _ (us.getD j .nilFunc)
     rw[List.getD_eq_getElem?_getD,List.getElem?_eq_getElem hj2]
     exact hh j hj hj2
 | int k=>exact qos rfl h
 | bool=>trivial
 | str=>exact qos rfl h
 | list c=>exact qos rfl h
theorem qlk {E:Env}:∀{cs:List TC} {x:ElA cs} {us:List Value},VRs E (argV cs x) us->WfA cs x
 | [],x,us,h=>trivial
 | c::cs,x,us,h=>by
   obtain⟨u,us,rfl,a1,a2⟩:=VRs.inv (v:=asIV c x.1) (cs:=argV cs x.2) h
   exact⟨wf_as a1,qlk a2⟩
theorem conW {P:Program} {tt:Nat->Option TI} {ft:Nat->Option FI} {nm:Nat->Nat->Option Nm} {ex:Ex} {f:Nat} {s:Sm} (hm:P.follows .mixedOrders=true) (htt:TT P tt) (hft:FT P ft) (hex:ExOK P ex) (hC:qaf P f)
   (hrun:∀(x:ElA s.pts) (y:ElR s.rts),WfA s.pts x->s.f x=some y->∃n lf r,icall P tt ft nm ex lf n (.fn f) (argV s.pts x) S0=some r/\runR s r=some y):Con P f s:=by
 refine⟨hC,fun M w x us y hy hM hg hv=>?_⟩
 obtain⟨n,lf,r,h1,h2⟩:=hrun x y (qlk hv) hy
 obtain⟨_,hcall⟩:=(qfc (lf:=lf) hm htt hft hex n).fn f _ S0 r h1 T0 (EM M w) us (preM hM hg) (fun _ _=>trivial) (fun _ _=>trivial) hv
 exact hcall.mono fun e w' hR=>qth hM hg h2 hR
theorem qna {P:Program} {sm:Nat->Option Sm} {hx:Nat->Option Hx} (h:∀f s,sm f=some s->Con P f s) (h2:∀f g,hx f=some g->HxOK P f g.f):ExOK P (exH sm hx):=by
 have key:∀f g,exH sm hx f=some g->(∃s,sm f=some s/\g=fun _=>exf s)\/∃q,hx f=some q/\g=q.f:=fun f g hg=>by
   unfold exH at hg
   split at hg
   · rename_i s hs;cases hg;exact .inl ⟨s,hs,rfl⟩
   split at hg<;>cases hg
   rename_i q hq
   exact .inr ⟨q,hq,rfl⟩
 refine⟨fun f g hg cl a b c vs S r hr T E us p hrd hwr hv=>?_,fun f g hg cl a vs S=>?_,fun f g hg cl a vs S r hr hw hv=>?_⟩
 · rcases key f g hg with ⟨s,hs,rfl⟩|⟨q,hq,rfl⟩
   · exact q6r (h f s hs) hr p hrd hwr hv
   · exact(h2 f q hq).fn cl a b c vs S r hr T E us p hrd hwr hv
 · rcases key f g hg with ⟨s,hs,rfl⟩|⟨q,hq,rfl⟩
   · exact qsi
   · exact(h2 f q hq).fr cl a vs S
 · rcases key f g hg with ⟨s,hs,rfl⟩|⟨q,hq,rfl⟩
   · exact qui hr hw hv
   · exact(h2 f q hq).calm cl a vs S r hr hw hv
theorem conK {P:Program} {tt:Nat->Option TI} {ft:Nat->Option FI} {nm:Nat->Nat->Option Nm} {sm:Nat->Option Sm} {hx:Nat->Option Hx} {f:Nat} {s:Sm} (hm:P.follows .mixedOrders=true) (htt:TT P tt) (hft:FT P ft) (hsm:∀f s,sm f=some s->Con P f s)
   (hhx:∀f g,hx f=some g->HxOK P f g.f) (hC:qaf P f)
   (hrun:∀(x:ElA s.pts) (y:ElR s.rts),WfA s.pts x->s.f x=some y->∃n lf,qah P tt ft nm sm hx lf n _ (.fn f) (argV s.pts x) S0 (runR s)=some y):Con P f s:=by
 refine conW (nm:=nm) hm htt hft (qna hsm hhx) hC fun x y hx2 hy=>?_
 obtain⟨n,lf,h⟩:=hrun x y hx2 hy
 rw[qam n] at h
 cases hr:icall P tt ft nm (exH sm hx) lf n (.fn f) (argV s.pts x) S0 with
 | none=>rw[hr] at h;cases h
 | some r=>rw[hr] at h;exact⟨n,lf,r,hr,h⟩
end Go.Jx
end

section
namespace Go.Jx
open Go Go.Sx Go.ChangeShapes Go.RowKit
def TRW (P:Program) (W:World) (T:TypeId) (cs:List Value):Prop :=
 ∃(H:Type) (en:TypeId × Value->H) (fuel:Nat) (x:DataW H × List MemPlace),DataW.trod en P W 0 (fun _=>true) true fuel T cs=some x/\∀n∈x.1.weights P T,n<=reachBytes
structure RdT (P:Program) (c:TC) (T:TypeId):Prop where
 sz:P.cellsOf T=csz c
 by_:P.bytesOf T=bsz c
 rd:∀W cs,TRW P W T cs->∃x:El c,VRs (EM [] W) (cel c x) cs
theorem q3o {k:IntKind} {n:Int} (h:(Lit.int k n).wf=true):k.wrap n=n:=by
 have h':k.min<=n/\n<=k.max:=by simpa [Lit.wf] using h
 cases k<;>simp only[IntKind.min,IntKind.max,IntKind.wrap,IntKind.bits,IntKind.signed] at *<;>simp at *<;>omega
section
variable {P : Program} {W : World} {T : TypeId} {cs : List Value}
theorem VRs.one {E:Env} {v:IV} {u:Value} (h:VR E v u):VRs E [v] [u]:=VRs.cons h VRs.nil
theorem rdt_str (hT:P.underlying T=some .string) (hs:P.cellsOf T=1) (hb:P.bytesOf T=16):RdT P .str T:=⟨hs,hb,fun W cs h=>by
 obtain⟨H,en,fuel,x,h,hw⟩:=h
 obtain⟨s,h1,_,h2⟩:=DataW.trod_string hT h
 exact⟨s,h1▸VRs.one (.str s (by unfold maxLen at h2;omega))⟩⟩
theorem rdt_int {k:IntKind} (hT:P.underlying T=some (.int k)) (hs:P.cellsOf T=1) (hb:P.bytesOf T=bsz (.int k)):RdT P (.int k) T:=⟨hs,hb,fun W cs h=>by
 obtain⟨H,en,fuel,x,h,hw⟩:=h
 obtain⟨n,h1,_,h2⟩:=DataW.trod_int hT h
 exact⟨n,h1▸VRs.one (.int k n (q3o h2))⟩⟩
theorem TRW.fields {fs:Array Field} (hT:P.underlying T=some (.struct fs)) (h:TRW P W T cs):cs.length=P.cellsOf T/\∀(i:Nat) (f:Field),fs[i]?=some f->TRW P W f.type ((cs.drop f.offset).take (P.cellsOf f.type)):=by
 obtain⟨H,en,fuel,x,h,hw⟩:=h
 obtain⟨xs,n,rfl,rfl,h1,h2,h3⟩:=DataW.trod_struct hT h
 refine⟨h1,fun i f hf=>?_⟩
 have hi:i<xs.length:=by rw[h2];exact(Array.getElem?_eq_some_iff.1 hf).1
 refine⟨H,en,n,xs[i],by rw[h3 i f hf,List.getElem?_eq_getElem hi],fun m hm=>hw m ?_⟩
 simp only[DataW.weights,hT]
 refine DataW.weights_mem_each (j:=i) (t:=f.type) (d:=xs[i].1) ?_ ?_ m hm
 · rw[List.getElem?_map,Array.getElem?_toList,hf];rfl
 · rw[List.getElem?_map,List.getElem?_eq_getElem hi];rfl
theorem qr0 {H:Type} {e:TypeId}:∀{l:List (DataW H)} {d:DataW H},d∈l->∀n∈d.weights P e,n∈DataW.weightsAll P e l
 | [],d,h,_,_=>absurd h (by simp)
 | a::l,d,h,n,hn=>by
   rw[DataW.weightsAll,List.mem_append]
   rcases List.mem_cons.1 h with e|e
   · exact .inl (e▸hn)
   · exact .inr (qr0 e n hn)
theorem q53 {c:TC} {e:TypeId} (hT:P.underlying T=some (.slice e)) (he:RdT P c e) (hpos:0<csz c) (hs:P.cellsOf T=1) (hb:P.bytesOf T=24):RdT P (.list c) T:=⟨hs,hb,fun W cs h=>by
 obtain⟨H,en,fuel,x,h,hw⟩:=h
 rcases Go.Deep.open_slice hT h with ⟨rfl,_⟩|⟨a,len,cap,m,n,D,Pl,rfl,_,hl,hm,hmm,rfl,hi⟩
 · exact⟨([]:List (El c)),VRs.one (.lst0 (by decide))⟩
 have hlm:len<=m:=by rw[hmm];simp;exact hl
 have hx:∀i,i<len->∃(x:El c) (cs':List Value),VRs (EM [] W) (cel c x) cs'/\W.cells? 0 (a.add (i*P.cellsOf e)) (P.cellsOf e)=some cs':=fun i hil=>by
   obtain⟨cs',h1,h2⟩:=hi i (by omega)
   obtain⟨x,hx⟩:=he.rd W cs' ⟨H,en,n,_,h2,fun k hk=>hw k (by
     simp only[DataW.weights,hT,List.mem_cons,List.mem_append]
     exact .inr (.inl (qr0 (List.mem_map.2 ⟨i,List.mem_range.2 hil,rfl⟩) k hk)))⟩
   exact⟨x,cs',hx,h1⟩
 have hbytes:len*bsz c<=140737488355328:=by
   have h1:=hw ((((List.range len).map D).length+((List.range (m-len)).map fun j=>D (len+j)).length)*P.bytesOf e) (by simp only[DataW.weights,hT,List.mem_cons,true_or])
   rw[he.by_,List.length_map,List.length_range,Nat.add_mul] at h1
   unfold reachBytes at h1
   omega
 have hlist:∀k,k<=len->∃l:List (El c),l.length=k/\∀i (h:i<l.length),∃cs',VRs (EM [] W) (cel c l[i]) cs'/\W.cells? 0 (a.add (i*P.cellsOf e)) (P.cellsOf e)=some cs':=fun k=>by
   induction k with
   | zero=>intro _;exact⟨[],rfl,fun i h=>by simp at h⟩
   | succ k ih =>
     intro hk
     obtain⟨l,h1,h2⟩:=ih (by omega)
     obtain⟨x,cs',h3,h4⟩:=hx k (by omega)
     refine⟨l++[x],by simp[h1],fun i hi=>?_⟩
     by_cases hlt:i<l.length
     · rw[List.getElem_append_left hlt];exact h2 i hlt
     · have:i=l.length:=by simp at hi;omega
       subst this
       rw[List.getElem_append_right (Nat.le_refl _)]
       simp only[Nat.sub_self,List.getElem_cons_zero]
       exact⟨cs',h3,by rw[h1];exact h4⟩
 obtain⟨l,hlen,hall⟩:=hlist len (Nat.le_refl _)
 subst hlen
 have hcap:cap<9223372036854775808:=by unfold maxLen at hm;omega
 refine⟨l,VRs.one ?_⟩
 cases l with
 | nil=>exact .lst0 hcap
 | cons x0 l =>
 obtain⟨cs0,_,k1⟩:=hall 0 (by simp)
 obtain⟨_,_,k3⟩:=World.cells?_some k1
 have k4:=k3 0 (by rw[he.sz];exact hpos)
 have hlen0:0<cs0.length:=by
   obtain⟨_,k2,_⟩:=World.cells?_some k1
   rw[k2,he.sz];exact hpos
 rw[List.getElem?_eq_getElem hlen0] at k4
 have ha0:a.add (0*P.cellsOf e)=a:=by simp[Addr.add]
 rw[ha0] at k4
 have ha1:a.add 0=a:=by simp[Addr.add]
 rw[ha1] at k4
 unfold World.cell? at k4
 split at k4<;>try cases k4
 rename_i cells t fz hc
 obtain⟨ab,ao,asp⟩:=a
 cases asp with
 | some p=>simp at k4
 | none =>
 have hcell:∀i (h:i<(x0::l).length),∃cs',VRs (EM [] W) (cel c (x0::l)[i]) cs'/\∀j,j<csz c->cells[ao+i*csz c+j]?=cs'[j]?:=fun i hi=>by
   obtain⟨cs',h1,h2⟩:=hall i hi
   refine⟨cs',h1,fun j hj=>?_⟩
   obtain⟨_,_,h3⟩:=World.cells?_some h2
   have h4:=h3 j (by rw[he.sz];exact hj)
   rw[<- h4]
   have e1:(Addr.add ⟨ab,ao,none⟩ (i*P.cellsOf e)).add j=⟨ab,ao+i*csz c+j,none⟩:=by
     rw[he.sz]
     unfold Addr.add
     by_cases hz:i*csz c=0
     · rw[if_pos hz]
       by_cases hj0:j=0
       · rw[if_pos hj0];simp
       · rw[if_neg hj0];simp [hz]
     · rw[if_neg hz]
       by_cases hj0:j=0
       · rw[if_pos hj0];simp [hj0]
       · rw[if_neg hj0]
   rw[e1]
   simp[World.cell?,hc]
 refine .lst (fun i j=>(cells[ao+i*csz c+j]?).getD .nilIface) hl hcap hbytes (by simp[EM]) hc (fun i hi j hj=>?_) (fun i hi j hj=>?_)
 · obtain⟨cs',g1,g2⟩:=hcell i hi
   have hj':j<cs'.length:=by have:=g1.1;rw[qbf] at this;omega
   rw[g2 j hj,List.getElem?_eq_getElem hj'];rfl
 · obtain⟨cs',g1,g2⟩:=hcell i hi
   have hj1:j<csz c:=by rw[qbf] at hj;exact hj
   have hj':j<cs'.length:=by have:=g1.1;rw[qbf] at this;omega
   have:=g1.2 j hj hj'
   rw[g2 j hj1,List.getElem?_eq_getElem hj']
   exact this⟩
theorem rdt_two {a b:TC} {f0 f1:Field} (hT:P.underlying T=some (.struct #[f0,f1])) (h0:RdT P a f0.type) (h1:RdT P b f1.type) (o0:f0.offset=0) (o1:f1.offset=csz a) (hs:P.cellsOf T=csz a+csz b) (hb:P.bytesOf T=bsz (.two a b)):RdT P (.two a b) T:=⟨hs,hb,fun W cs h=>by
 obtain⟨hl,hf⟩:=TRW.fields hT h
 obtain⟨x,hx⟩:=h0.rd W _ (hf 0 f0 rfl)
 obtain⟨y,hy⟩:=h1.rd W _ (hf 1 f1 rfl)
 refine⟨(x,y),?_⟩
 rw[o0,List.drop_zero,h0.sz] at hx
 rw[o1,h1.sz,List.take_of_length_le (by rw[List.length_drop];omega)] at hy
 have:=VRs.append hx hy
 rw[List.take_append_drop] at this
 exact this⟩
theorem qtr {a b c:TC} {f0 f1 f2:Field} (hT:P.underlying T=some (.struct #[f0,f1,f2])) (h0:RdT P a f0.type) (h1:RdT P b f1.type) (h2:RdT P c f2.type) (o0:f0.offset=0) (o1:f1.offset=csz a) (o2:f2.offset=csz a+csz b) (hs:P.cellsOf T=csz a+(csz b+csz c)) (hb:P.bytesOf T=bsz (.two a (.two b c))):RdT P (.two a (.two b c)) T:=⟨hs,hb,fun W cs h=>by
 obtain⟨hl,hf⟩:=TRW.fields hT h
 obtain⟨x,hx⟩:=h0.rd W _ (hf 0 f0 rfl)
 obtain⟨y,hy⟩:=h1.rd W _ (hf 1 f1 rfl)
 obtain⟨z,hz⟩:=h2.rd W _ (hf 2 f2 rfl)
 refine⟨(x,(y,z)),?_⟩
 rw[o0,List.drop_zero,h0.sz] at hx
 rw[o1,h1.sz] at hy
 rw[o2,h2.sz,List.take_of_length_le (by rw[List.length_drop];omega),<- List.drop_drop] at hz
 have h12:=VRs.append hy hz
 rw[List.take_append_drop] at h12
 have:=VRs.append hx h12
 rw[List.take_append_drop] at this
 exact this⟩
end
end Go.Jx
end

section
namespace Go.Jx
open Go Go.Sx Go.RowKit
theorem con_true {P:Program} {f:Nat} {pts:List TC} (h:Con P f ⟨pts,[(false,.bool)],fun _=>some (true,())⟩) (w:World) (hg:Gl [] w) (x:ElA pts) (us:List Value) (hv:VRs (EM [] w) (argV pts x) us) :
   Calls P f us.toArray w (Ret fun v w'=>v=.bool true/\Upd [] w w') :=
 (callsIn_wide.1 (h.calls [] w x us (true,()) rfl (fun b hb=>by cases hb) hg hv)).mono fun e w' hR=>by
   obtain⟨v,E',rfl,rfl,k1,k2,k3⟩:=hR
   exact⟨by cases k1;rfl,k2.stp.os,k2.stp.tape,k2.stp.output,k2.stp.size,fun b hb _=>k2.stp.same b hb fun id _ hA _=>hA.elim⟩
theorem vr_list {c:TC} {E:Env} {a:Option Addr} {len cap:Nat} {x:El (.list c)} (h:VRs E (cel (.list c) x) (Value.slice a len cap).cells.toList):VR E (asIV (.list c) x) (.slice a len cap) :=
 h.2 0 (by simp[cel]) (by simp[Value.cells])
theorem vr_two {a b:TC} {E:Env} {cs:Array Value} {x:El (.two a b)} (h:VRs E (cel (.two a b) x) (Value.agg cs).cells.toList):VR E (asIV (.two a b) x) (.agg cs):=by
 have:=VR.agg h.1 h.2
 have e:(Value.agg cs).cells.toList.toArray=cs:=by simp[Value.cells]
 rw[e] at this
 exact this
theorem vr_str {E:Env} {s:ByteArray} {x:El .str} (h:VRs E (cel .str x) (Value.string s).cells.toList):VR E (asIV .str x) (.string s) :=
 h.2 0 (by simp[cel]) (by simp[Value.cells])
theorem qpc {k:IntKind} {E:Env} {n:Int} {x:El (.int k)} (h:VRs E (cel (.int k) x) (Value.int k n).cells.toList):VR E (asIV (.int k) x) (.int k n) :=
 h.2 0 (by simp[cel]) (by simp[Value.cells])
section
open Go.ChangeShapes
variable {H : Type} {enc : TypeId × Value -> H} {P : Program} {w : World} {base : Nat} {spare : Nat -> Bool} {held : Bool}
end
end Go.Jx
end

noncomputable section
set_option maxRecDepth 100000
namespace Go.Proofs.YtanenikkloolfaaGreatDoor
open Go Go.Sx Go.RowKit Go.Jx
abbrev cChange:TC:=(.two (.int .i64) (.two (.int .i64) .str))
abbrev qal:TC:=(.two (.int .i64) (.int .i64))
abbrev cToken:TC:=(.two (.int .i64) (.two .str qal))
abbrev qq2:TC:=(.two (.list cToken) (.two (.int .i64) (.two qal (.int .i64))))
abbrev qf0:TC:=(.two (.list cToken) (.two (.list cToken) (.two qal (.int .i64))))
abbrev qmj:TC:=(.two .str (.int .i64))
abbrev cLexPiece:TC:=(.two cToken (.two (.int .i64) (.int .i64)))
abbrev qe8:TC:=(.two (.int .i64) (.int .i64))
abbrev qed:TC:=(.two (.int .i64) (.int .i64))
noncomputable def ti1:TI:=⟨1,8,(.func #[] #[] false),(.nilFunc)⟩
noncomputable def ti2:TI:=⟨1,8,(.int .i64),(.int .i64 0)⟩
noncomputable def ti3:TI:=⟨1,8,(.int .i64),(.int .i64 0)⟩
noncomputable def ti4:TI:=⟨1,1,(.bool),(.bool false)⟩
noncomputable def ti5:TI:=⟨1,1,(.int .u8),(.int .u8 0)⟩
noncomputable def ti9:TI:=⟨1,16,(.string),(.string ⟨#[]⟩)⟩
noncomputable def ti21:TI:=⟨1,4,(.int .i32),(.int .i32 0)⟩
noncomputable def ti22:TI:=⟨1,24,(.slice 49),(.slice none 0 0)⟩
noncomputable def ti24:TI:=⟨3,32,(.struct #[⟨"From", 3,0, false, "", "", 0⟩, ⟨"To", 3,1, false, "", "", 8⟩, ⟨"With", 9,2, false, "", "", 16⟩]),(.agg #[.int .i64 0,.int .i64 0,.string ⟨#[]⟩])⟩
noncomputable def ti28:TI:=⟨2,16,(.struct #[⟨"Line", 3,0, false, "", "", 0⟩, ⟨"Column", 3,1, false, "", "", 8⟩]),(.agg #[.int .i64 0,.int .i64 0])⟩
noncomputable def ti29:TI:=⟨1,8,(.int .i64),(.int .i64 0)⟩
noncomputable def ti33:TI:=⟨5,56,(.struct #[⟨"L", 22,0, false, "", "", 0⟩, ⟨"N", 3,1, false, "", "", 24⟩, ⟨"At", 28,2, false, "", "", 32⟩, ⟨"E", 29,4, false, "", "", 48⟩]),(.agg #[.slice none 0 0,.int .i64 0,.int .i64 0,.int .i64 0,.int .i64 0])⟩
noncomputable def ti36:TI:=⟨5,72,(.struct #[⟨"L", 22,0, false, "", "", 0⟩, ⟨"Notes", 22,1, false, "", "", 24⟩, ⟨"At", 28,2, false, "", "", 48⟩, ⟨"E", 29,4, false, "", "", 64⟩]),(.agg #[.slice none 0 0,.slice none 0 0,.int .i64 0,.int .i64 0,.int .i64 0])⟩
noncomputable def ti37:TI:=⟨1,8,(.func #[9] #[36] false),(.nilFunc)⟩
noncomputable def ti44:TI:=⟨2,24,(.struct #[⟨"S", 9,0, false, "", "", 0⟩, ⟨"E", 29,1, false, "", "", 16⟩]),(.agg #[.string ⟨#[]⟩,.int .i64 0])⟩
noncomputable def ti49:TI:=⟨4,40,(.struct #[⟨"Kind", 3,0, false, "", "", 0⟩, ⟨"Text", 9,1, false, "", "", 8⟩, ⟨"At", 28,2, false, "", "", 24⟩]),(.agg #[.int .i64 0,.string ⟨#[]⟩,.int .i64 0,.int .i64 0])⟩
noncomputable def ti51:TI:=⟨2,16,(.struct #[⟨"Is", 4,0, false, "", "", 0⟩, ⟨"E", 29,1, false, "", "", 8⟩]),(.agg #[.bool false,.int .i64 0])⟩
noncomputable def ti63:TI:=⟨1,24,(.slice 3),(.slice none 0 0)⟩
noncomputable def ti66:TI:=⟨1,24,(.slice 9),(.slice none 0 0)⟩
noncomputable def ti74:TI:=⟨1,8,(.func #[3] #[4] false),(.nilFunc)⟩
noncomputable def ti81:TI:=⟨1,8,(.func #[49,49] #[4] false),(.nilFunc)⟩
noncomputable def ti83:TI:=⟨1,8,(.func #[49] #[4] false),(.nilFunc)⟩
noncomputable def ti91:TI:=⟨1,24,(.slice 5),(.slice none 0 0)⟩
noncomputable def ti93:TI:=⟨2,32,(.struct #[⟨"addr", 90,0, false, "", "strings", 0⟩, ⟨"buf", 91,1, false, "", "strings", 8⟩]),(.agg #[.pointer none,.slice none 0 0])⟩
noncomputable def ti105:TI:=⟨1,8,(.func #[138] #[] false),(.nilFunc)⟩
noncomputable def ti108:TI:=⟨6,56,(.struct #[⟨"Token", 49,0, true, "", "", 0⟩, ⟨"at", 3,4, false, "", "cosigner/lex", 40⟩, ⟨"err", 29,5, false, "", "cosigner/lex", 48⟩]),(.agg #[.int .i64 0,.string ⟨#[]⟩,.int .i64 0,.int .i64 0,.int .i64 0,.int .i64 0])⟩
noncomputable def ti110:TI:=⟨1,24,(.slice 22),(.slice none 0 0)⟩
noncomputable def ti112:TI:=⟨2,16,(.struct #[⟨"N", 3,0, false, "", "", 0⟩, ⟨"E", 29,1, false, "", "", 8⟩]),(.agg #[.int .i64 0,.int .i64 0])⟩
noncomputable def ti117:TI:=⟨1,8,(.func #[5] #[4] false),(.nilFunc)⟩
noncomputable def ti120:TI:=⟨2,16,(.struct #[⟨"K", 3,0, false, "", "", 0⟩, ⟨"E", 29,1, false, "", "", 8⟩]),(.agg #[.int .i64 0,.int .i64 0])⟩
noncomputable def ti127:TI:=⟨256,256,(.array 256 4),(.agg #[.bool false,.bool false,.bool false,.bool false,.bool false,.bool false,.bool false,.bool false,.bool false,.bool false,.bool false,.bool false,.bool false,.bool false,.bool false,.bool false,.bool false,.bool false,.bool false,.bool false,.bool false,.bool false,.bool false,.bool false,.bool false,.bool false,.bool false,.bool false,.bool false,.bool false,.bool false,.bool false,.bool false,.bool false,.bool false,.bool false,.bool false,.bool false,.bool false,.bool false,.bool false,.bool false,.bool false,.bool false,.bool false,.bool false,.bool false,.bool false,.bool false,.bool false,.bool false,.bool false,.bool false,.bool false,.bool false,.bool false,.bool false,.bool false,.bool false,.bool false,.bool false,.bool false,.bool false,.bool false,.bool false,.bool false,.bool false,.bool false,.bool false,.bool false,.bool false,.bool false,.bool false,.bool false,.bool false,.bool false,.bool false,.bool false,.bool false,.bool false,.bool false,.bool false,.bool false,.bool false,.bool false,.bool false,.bool false,.bool false,.bool false,.bool false,.bool false,.bool false,.bool false,.bool false,.bool false,.bool false,.bool false,.bool false,.bool false,.bool false,.bool false,.bool false,.bool false,.bool false,.bool false,.bool false,.bool false,.bool false,.bool false,.bool false,.bool false,.bool false,.bool false,.bool false,.bool false,.bool false,.bool false,.bool false,.bool false,.bool false,.bool false,.bool false,.bool false,.bool false,.bool false,.bool false,.bool false,.bool false,.bool false,.bool false,.bool false,.bool false,.bool false,.bool false,.bool false,.bool false,.bool false,.bool false,.bool false,.bool false,.bool false,.bool false,.bool false,.bool false,.bool false,.bool false,.bool false,.bool false,.bool false,.bool false,.bool false,.bool false,.bool false,.bool false,.bool false,.bool false,.bool false,.bool false,.bool false,.bool false,.bool false,.bool false,.bool false,.bool false,.bool false,.bool false,.bool false,.bool false,.bool false,.bool false,.bool false,.bool false,.bool false,.bool false,.bool false,.bool false,.bool false,.bool false,.bool false,.bool false,.bool false,.bool false,.bool false,.bool false,.bool false,.bool false,.bool false,.bool false,.bool false,.bool false,.bool false,.bool false,.bool false,.bool false,.bool false,.bool false,.bool false,.bool false,.bool false,.bool false,.bool false,.bool false,.bool false,.bool false,.bool false,.bool false,.bool false,.bool false,.bool false,.bool false,.bool false,.bool false,.bool false,.bool false,.bool false,.bool false,.bool false,.bool false,.bool false,.bool false,.bool false,.bool false,.bool false,.bool false,.bool false,.bool false,.bool false,.bool false,.bool false,.bool false,.bool false,.bool false,.bool false,.bool false,.bool false,.bool false,.bool false,.bool false,.bool false,.bool false,.bool false,.bool false,.bool false,.bool false,.bool false,.bool false,.bool false,.bool false,.bool false,.bool false,.bool false,.bool false,.bool false,.bool false,.bool false,.bool false])⟩
noncomputable def ti135:TI:=⟨256,256,(.array 256 5),(.agg #[.int .u8 0,.int .u8 0,.int .u8 0,.int .u8 0,.int .u8 0,.int .u8 0,.int .u8 0,.int .u8 0,.int .u8 0,.int .u8 0,.int .u8 0,.int .u8 0,.int .u8 0,.int .u8 0,.int .u8 0,.int .u8 0,.int .u8 0,.int .u8 0,.int .u8 0,.int .u8 0,.int .u8 0,.int .u8 0,.int .u8 0,.int .u8 0,.int .u8 0,.int .u8 0,.int .u8 0,.int .u8 0,.int .u8 0,.int .u8 0,.int .u8 0,.int .u8 0,.int .u8 0,.int .u8 0,.int .u8 0,.int .u8 0,.int .u8 0,.int .u8 0,.int .u8 0,.int .u8 0,.int .u8 0,.int .u8 0,.int .u8 0,.int .u8 0,.int .u8 0,.int .u8 0,.int .u8 0,.int .u8 0,.int .u8 0,.int .u8 0,.int .u8 0,.int .u8 0,.int .u8 0,.int .u8 0,.int .u8 0,.int .u8 0,.int .u8 0,.int .u8 0,.int .u8 0,.int .u8 0,.int .u8 0,.int .u8 0,.int .u8 0,.int .u8 0,.int .u8 0,.int .u8 0,.int .u8 0,.int .u8 0,.int .u8 0,.int .u8 0,.int .u8 0,.int .u8 0,.int .u8 0,.int .u8 0,.int .u8 0,.int .u8 0,.int .u8 0,.int .u8 0,.int .u8 0,.int .u8 0,.int .u8 0,.int .u8 0,.int .u8 0,.int .u8 0,.int .u8 0,.int .u8 0,.int .u8 0,.int .u8 0,.int .u8 0,.int .u8 0,.int .u8 0,.int .u8 0,.int .u8 0,.int .u8 0,.int .u8 0,.int .u8 0,.int .u8 0,.int .u8 0,.int .u8 0,.int .u8 0,.int .u8 0,.int .u8 0,.int .u8 0,.int .u8 0,.int .u8 0,.int .u8 0,.int .u8 0,.int .u8 0,.int .u8 0,.int .u8 0,.int .u8 0,.int .u8 0,.int .u8 0,.int .u8 0,.int .u8 0,.int .u8 0,.int .u8 0,.int .u8 0,.int .u8 0,.int .u8 0,.int .u8 0,.int .u8 0,.int .u8 0,.int .u8 0,.int .u8 0,.int .u8 0,.int .u8 0,.int .u8 0,.int .u8 0,.int .u8 0,.int .u8 0,.int .u8 0,.int .u8 0,.int .u8 0,.int .u8 0,.int .u8 0,.int .u8 0,.int .u8 0,.int .u8 0,.int .u8 0,.int .u8 0,.int .u8 0,.int .u8 0,.int .u8 0,.int .u8 0,.int .u8 0,.int .u8 0,.int .u8 0,.int .u8 0,.int .u8 0,.int .u8 0,.int .u8 0,.int .u8 0,.int .u8 0,.int .u8 0,.int .u8 0,.int .u8 0,.int .u8 0,.int .u8 0,.int .u8 0,.int .u8 0,.int .u8 0,.int .u8 0,.int .u8 0,.int .u8 0,.int .u8 0,.int .u8 0,.int .u8 0,.int .u8 0,.int .u8 0,.int .u8 0,.int .u8 0,.int .u8 0,.int .u8 0,.int .u8 0,.int .u8 0,.int .u8 0,.int .u8 0,.int .u8 0,.int .u8 0,.int .u8 0,.int .u8 0,.int .u8 0,.int .u8 0,.int .u8 0,.int .u8 0,.int .u8 0,.int .u8 0,.int .u8 0,.int .u8 0,.int .u8 0,.int .u8 0,.int .u8 0,.int .u8 0,.int .u8 0,.int .u8 0,.int .u8 0,.int .u8 0,.int .u8 0,.int .u8 0,.int .u8 0,.int .u8 0,.int .u8 0,.int .u8 0,.int .u8 0,.int .u8 0,.int .u8 0,.int .u8 0,.int .u8 0,.int .u8 0,.int .u8 0,.int .u8 0,.int .u8 0,.int .u8 0,.int .u8 0,.int .u8 0,.int .u8 0,.int .u8 0,.int .u8 0,.int .u8 0,.int .u8 0,.int .u8 0,.int .u8 0,.int .u8 0,.int .u8 0,.int .u8 0,.int .u8 0,.int .u8 0,.int .u8 0,.int .u8 0,.int .u8 0,.int .u8 0,.int .u8 0,.int .u8 0,.int .u8 0,.int .u8 0,.int .u8 0,.int .u8 0,.int .u8 0,.int .u8 0,.int .u8 0,.int .u8 0,.int .u8 0,.int .u8 0,.int .u8 0,.int .u8 0,.int .u8 0,.int .u8 0,.int .u8 0,.int .u8 0,.int .u8 0,.int .u8 0,.int .u8 0,.int .u8 0,.int .u8 0,.int .u8 0])⟩
noncomputable def ti137:TI:=⟨1,8,(.func #[21] #[4] false),(.nilFunc)⟩
noncomputable def ti138:TI:=⟨1,8,(.func #[108] #[4] false),(.nilFunc)⟩
noncomputable def ti156:TI:=⟨22,352,(.array 22 9),(.agg #[.string ⟨#[]⟩,.string ⟨#[]⟩,.string ⟨#[]⟩,.string ⟨#[]⟩,.string ⟨#[]⟩,.string ⟨#[]⟩,.string ⟨#[]⟩,.string ⟨#[]⟩,.string ⟨#[]⟩,.string ⟨#[]⟩,.string ⟨#[]⟩,.string ⟨#[]⟩,.string ⟨#[]⟩,.string ⟨#[]⟩,.string ⟨#[]⟩,.string ⟨#[]⟩,.string ⟨#[]⟩,.string ⟨#[]⟩,.string ⟨#[]⟩,.string ⟨#[]⟩,.string ⟨#[]⟩,.string ⟨#[]⟩])⟩
noncomputable def ti162:TI:=⟨1,8,(.int .u64),(.int .u64 0)⟩
theorem ty1:Ty Tryz.prog 1 ti1.und ti1.sz ti1.bytes ti1.zero:=Ty.mk' (by kernel_rfl) (by kernel_rfl)
theorem ty2:Ty Tryz.prog 2 ti2.und ti2.sz ti2.bytes ti2.zero:=Ty.mk' (by kernel_rfl) (by kernel_rfl)
theorem ty3:Ty Tryz.prog 3 ti3.und ti3.sz ti3.bytes ti3.zero:=Ty.mk' (by kernel_rfl) (by kernel_rfl)
theorem ty4:Ty Tryz.prog 4 ti4.und ti4.sz ti4.bytes ti4.zero:=Ty.mk' (by kernel_rfl) (by kernel_rfl)
theorem ty5:Ty Tryz.prog 5 ti5.und ti5.sz ti5.bytes ti5.zero:=Ty.mk' (by kernel_rfl) (by kernel_rfl)
theorem ty9:Ty Tryz.prog 9 ti9.und ti9.sz ti9.bytes ti9.zero:=Ty.mk' (by kernel_rfl) (by kernel_rfl)
theorem ty21:Ty Tryz.prog 21 ti21.und ti21.sz ti21.bytes ti21.zero:=Ty.mk' (by kernel_rfl) (by kernel_rfl)
theorem ty22:Ty Tryz.prog 22 ti22.und ti22.sz ti22.bytes ti22.zero:=Ty.mk' (by kernel_rfl) (by kernel_rfl)
theorem ty24:Ty Tryz.prog 24 ti24.und ti24.sz ti24.bytes ti24.zero:=Ty.mk' (by kernel_rfl) (by kernel_rfl)
theorem ty28:Ty Tryz.prog 28 ti28.und ti28.sz ti28.bytes ti28.zero:=Ty.mk' (by kernel_rfl) (by kernel_rfl)
theorem ty29:Ty Tryz.prog 29 ti29.und ti29.sz ti29.bytes ti29.zero:=Ty.mk' (by kernel_rfl) (by kernel_rfl)
theorem ty33:Ty Tryz.prog 33 ti33.und ti33.sz ti33.bytes ti33.zero:=Ty.mk' (by kernel_rfl) (by kernel_rfl)
theorem ty36:Ty Tryz.prog 36 ti36.und ti36.sz ti36.bytes ti36.zero:=Ty.mk' (by kernel_rfl) (by kernel_rfl)
theorem ty37:Ty Tryz.prog 37 ti37.und ti37.sz ti37.bytes ti37.zero:=Ty.mk' (by kernel_rfl) (by kernel_rfl)
theorem ty44:Ty Tryz.prog 44 ti44.und ti44.sz ti44.bytes ti44.zero:=Ty.mk' (by kernel_rfl) (by kernel_rfl)
theorem ty49:Ty Tryz.prog 49 ti49.und ti49.sz ti49.bytes ti49.zero:=Ty.mk' (by kernel_rfl) (by kernel_rfl)
theorem ty51:Ty Tryz.prog 51 ti51.und ti51.sz ti51.bytes ti51.zero:=Ty.mk' (by kernel_rfl) (by kernel_rfl)
theorem ty63:Ty Tryz.prog 63 ti63.und ti63.sz ti63.bytes ti63.zero:=Ty.mk' (by kernel_rfl) (by kernel_rfl)
theorem ty66:Ty Tryz.prog 66 ti66.und ti66.sz ti66.bytes ti66.zero:=Ty.mk' (by kernel_rfl) (by kernel_rfl)
theorem ty74:Ty Tryz.prog 74 ti74.und ti74.sz ti74.bytes ti74.zero:=Ty.mk' (by kernel_rfl) (by kernel_rfl)
theorem ty81:Ty Tryz.prog 81 ti81.und ti81.sz ti81.bytes ti81.zero:=Ty.mk' (by kernel_rfl) (by kernel_rfl)
theorem ty83:Ty Tryz.prog 83 ti83.und ti83.sz ti83.bytes ti83.zero:=Ty.mk' (by kernel_rfl) (by kernel_rfl)
theorem ty91:Ty Tryz.prog 91 ti91.und ti91.sz ti91.bytes ti91.zero:=Ty.mk' (by kernel_rfl) (by kernel_rfl)
theorem ty93:Ty Tryz.prog 93 ti93.und ti93.sz ti93.bytes ti93.zero:=Ty.mk' (by kernel_rfl) (by kernel_rfl)
theorem ty105:Ty Tryz.prog 105 ti105.und ti105.sz ti105.bytes ti105.zero:=Ty.mk' (by kernel_rfl) (by kernel_rfl)
theorem ty108:Ty Tryz.prog 108 ti108.und ti108.sz ti108.bytes ti108.zero:=Ty.mk' (by kernel_rfl) (by kernel_rfl)
theorem ty110:Ty Tryz.prog 110 ti110.und ti110.sz ti110.bytes ti110.zero:=Ty.mk' (by kernel_rfl) (by kernel_rfl)
theorem ty112:Ty Tryz.prog 112 ti112.und ti112.sz ti112.bytes ti112.zero:=Ty.mk' (by kernel_rfl) (by kernel_rfl)
theorem ty117:Ty Tryz.prog 117 ti117.und ti117.sz ti117.bytes ti117.zero:=Ty.mk' (by kernel_rfl) (by kernel_rfl)
theorem ty120:Ty Tryz.prog 120 ti120.und ti120.sz ti120.bytes ti120.zero:=Ty.mk' (by kernel_rfl) (by kernel_rfl)
theorem ty127:Ty Tryz.prog 127 ti127.und ti127.sz ti127.bytes ti127.zero:=Ty.mk' (by kernel_rfl) (by kernel_rfl)
theorem ty135:Ty Tryz.prog 135 ti135.und ti135.sz ti135.bytes ti135.zero:=Ty.mk' (by kernel_rfl) (by kernel_rfl)
theorem ty137:Ty Tryz.prog 137 ti137.und ti137.sz ti137.bytes ti137.zero:=Ty.mk' (by kernel_rfl) (by kernel_rfl)
theorem ty138:Ty Tryz.prog 138 ti138.und ti138.sz ti138.bytes ti138.zero:=Ty.mk' (by kernel_rfl) (by kernel_rfl)
theorem ty156:Ty Tryz.prog 156 ti156.und ti156.sz ti156.bytes ti156.zero:=Ty.mk' (by kernel_rfl) (by kernel_rfl)
theorem ty162:Ty Tryz.prog 162 ti162.und ti162.sz ti162.bytes ti162.zero:=Ty.mk' (by kernel_rfl) (by kernel_rfl)
def fbO (f:Func):Code:=match f.body with|some c=>c|none=>.skip
noncomputable def ttT:PT TI:=(.node none (.node (some ti1) (.node (some ti3) (.node none (.node none (.node none (.node (some ti63) (.node (some ti127) .leaf .leaf) .leaf) .leaf) .leaf) (.node none (.node none (.node none (.node (some ti135) .leaf .leaf) .leaf) .leaf) .leaf)) (.node none (.node none .leaf (.node (some ti51) (.node (some ti83) .leaf .leaf) .leaf)) (.node none .leaf (.node none (.node (some ti91) .leaf .leaf) .leaf)))) (.node (some ti5) (.node (some ti9) (.node none (.node (some ti33) .leaf .leaf) (.node (some ti49) (.node (some ti81) .leaf .leaf) .leaf)) (.node none (.node none (.node none (.node (some ti137) .leaf .leaf) .leaf) (.node (some ti105) .leaf .leaf)) .leaf)) (.node none (.node (some ti21) (.node (some ti37) .leaf .leaf) (.node none .leaf (.node (some ti117) .leaf .leaf))) (.node (some ti29) .leaf (.node none (.node (some ti93) .leaf .leaf) .leaf))))) (.node (some ti2) (.node (some ti4) (.node none (.node none .leaf (.node none .leaf (.node (some ti112) .leaf .leaf))) (.node (some ti24) .leaf (.node none .leaf (.node (some ti120) .leaf .leaf)))) (.node none (.node none (.node (some ti36) .leaf .leaf) .leaf) (.node (some ti28) (.node (some ti44) .leaf (.node (some ti108) .leaf .leaf)) (.node none (.node none (.node (some ti156) .leaf .leaf) .leaf) .leaf)))) (.node none (.node none (.node none (.node none (.node (some ti66) .leaf .leaf) (.node none (.node (some ti162) .leaf .leaf) .leaf)) .leaf) (.node none (.node none (.node (some ti74) (.node (some ti138) .leaf .leaf) .leaf) .leaf) .leaf)) (.node none (.node (some ti22) .leaf .leaf) (.node none (.node none .leaf (.node (some ti110) .leaf .leaf)) .leaf)))))
theorem ttFa:ttT.Fa (fun T ti=>Ty Tryz.prog T ti.und ti.sz ti.bytes ti.zero):=⟨trivial,⟨ty1,⟨ty3,⟨trivial,⟨trivial,⟨trivial,⟨ty63,⟨ty127,trivial,trivial⟩,trivial⟩,trivial⟩,trivial⟩,⟨trivial,⟨trivial,⟨trivial,⟨ty135,trivial,trivial⟩,trivial⟩,trivial⟩,trivial⟩⟩,⟨trivial,⟨trivial,trivial,⟨ty51,⟨ty83,trivial,trivial⟩,trivial⟩⟩,⟨trivial,trivial,⟨trivial,⟨ty91,trivial,trivial⟩,trivial⟩⟩⟩⟩,⟨ty5,⟨ty9,⟨trivial,⟨ty33,trivial,trivial⟩,⟨ty49,⟨ty81,trivial,trivial⟩,trivial⟩⟩,⟨trivial,⟨trivial,⟨trivial,⟨ty137,trivial,trivial⟩,trivial⟩,⟨ty105,trivial,trivial⟩⟩,trivial⟩⟩,⟨trivial,⟨ty21,⟨ty37,trivial,trivial⟩,⟨trivial,trivial,⟨ty117,trivial,trivial⟩⟩⟩,⟨ty29,trivial,⟨trivial,⟨ty93,trivial,trivial⟩,trivial⟩⟩⟩⟩⟩,⟨ty2,⟨ty4,⟨trivial,⟨trivial,trivial,⟨trivial,trivial,⟨ty112,trivial,trivial⟩⟩⟩,⟨ty24,trivial,⟨trivial,trivial,⟨ty120,trivial,trivial⟩⟩⟩⟩,⟨trivial,⟨trivial,⟨ty36,trivial,trivial⟩,trivial⟩,⟨ty28,⟨ty44,trivial,⟨ty108,trivial,trivial⟩⟩,⟨trivial,⟨trivial,⟨ty156,trivial,trivial⟩,trivial⟩,trivial⟩⟩⟩⟩,⟨trivial,⟨trivial,⟨trivial,⟨trivial,⟨ty66,trivial,trivial⟩,⟨trivial,⟨ty162,trivial,trivial⟩,trivial⟩⟩,trivial⟩,⟨trivial,⟨trivial,⟨ty74,⟨ty138,trivial,trivial⟩,trivial⟩,trivial⟩,trivial⟩⟩,⟨trivial,⟨ty22,trivial,trivial⟩,⟨trivial,⟨trivial,trivial,⟨ty110,trivial,trivial⟩⟩,trivial⟩⟩⟩⟩⟩
theorem ttOK:TT Tryz.prog ttT.get:=fun T ti h=>PT.fa ttFa T ti h
noncomputable def fb3:Code:=fbO Tryz.f3
noncomputable def fi3:FI:=⟨116,[ResultVar.tmp 6],fb3⟩
theorem fo3:FIok Tryz.prog 3 fi3:=⟨_,Tryz.func3,by kernel_rfl,Tryz.ntmps3,Tryz.results3,by kernel_rfl,by kernel_rfl⟩
theorem cal3:qaf Tryz.prog 3:=⟨_,Tryz.func3,by kernel_rfl,by kernel_rfl⟩
noncomputable def fb4:Code:=fbO Tryz.f4
noncomputable def fi4:FI:=⟨83,[ResultVar.tmp 2],fb4⟩
theorem fo4:FIok Tryz.prog 4 fi4:=⟨_,Tryz.func4,by kernel_rfl,Tryz.ntmps4,Tryz.results4,by kernel_rfl,by kernel_rfl⟩
noncomputable def fb5:Code:=fbO Tryz.f5
noncomputable def fi5:FI:=⟨61,[ResultVar.tmp 4],fb5⟩
theorem fo5:FIok Tryz.prog 5 fi5:=⟨_,Tryz.func5,by kernel_rfl,Tryz.ntmps5,Tryz.results5,by kernel_rfl,by kernel_rfl⟩
noncomputable def fb6:Code:=fbO Tryz.f6
noncomputable def fi6:FI:=⟨16,[ResultVar.tmp 2],fb6⟩
theorem fo6:FIok Tryz.prog 6 fi6:=⟨_,Tryz.func6,by kernel_rfl,Tryz.ntmps6,Tryz.results6,by kernel_rfl,by kernel_rfl⟩
noncomputable def fb7:Code:=fbO Tryz.f7
noncomputable def fi7:FI:=⟨213,[ResultVar.tmp 0],fb7⟩
theorem fo7:FIok Tryz.prog 7 fi7:=⟨_,Tryz.func7,by kernel_rfl,Tryz.ntmps7,Tryz.results7,by kernel_rfl,by kernel_rfl⟩
theorem cal7:qaf Tryz.prog 7:=⟨_,Tryz.func7,by kernel_rfl,by kernel_rfl⟩
noncomputable def fb8:Code:=fbO Tryz.f8
noncomputable def fi8:FI:=⟨181,[ResultVar.tmp 6,ResultVar.tmp 7,ResultVar.cell 8 28,ResultVar.tmp 9],fb8⟩
theorem fo8:FIok Tryz.prog 8 fi8:=⟨_,Tryz.func8,by kernel_rfl,Tryz.ntmps8,Tryz.results8,by kernel_rfl,by kernel_rfl⟩
theorem cal8:qaf Tryz.prog 8:=⟨_,Tryz.func8,by kernel_rfl,by kernel_rfl⟩
noncomputable def fb9:Code:=fbO Tryz.f9
noncomputable def fi9:FI:=⟨173,[ResultVar.cell 6 33],fb9⟩
theorem fo9:FIok Tryz.prog 9 fi9:=⟨_,Tryz.func9,by kernel_rfl,Tryz.ntmps9,Tryz.results9,by kernel_rfl,by kernel_rfl⟩
theorem cal9:qaf Tryz.prog 9:=⟨_,Tryz.func9,by kernel_rfl,by kernel_rfl⟩
noncomputable def fb10:Code:=fbO Tryz.f10
noncomputable def fi10:FI:=⟨21,[ResultVar.cell 2 36],fb10⟩
theorem fo10:FIok Tryz.prog 10 fi10:=⟨_,Tryz.func10,by kernel_rfl,Tryz.ntmps10,Tryz.results10,by kernel_rfl,by kernel_rfl⟩
theorem cal10:qaf Tryz.prog 10:=⟨_,Tryz.func10,by kernel_rfl,by kernel_rfl⟩
noncomputable def fb11:Code:=fbO Tryz.f11
noncomputable def fi11:FI:=⟨26,[ResultVar.tmp 4],fb11⟩
theorem fo11:FIok Tryz.prog 11 fi11:=⟨_,Tryz.func11,by kernel_rfl,Tryz.ntmps11,Tryz.results11,by kernel_rfl,by kernel_rfl⟩
theorem cal11:qaf Tryz.prog 11:=⟨_,Tryz.func11,by kernel_rfl,by kernel_rfl⟩
noncomputable def fb12:Code:=fbO Tryz.f12
noncomputable def fi12:FI:=⟨30,[ResultVar.tmp 2],fb12⟩
theorem fo12:FIok Tryz.prog 12 fi12:=⟨_,Tryz.func12,by kernel_rfl,Tryz.ntmps12,Tryz.results12,by kernel_rfl,by kernel_rfl⟩
noncomputable def fb13:Code:=fbO Tryz.f13
noncomputable def fi13:FI:=⟨8,[ResultVar.tmp 2,ResultVar.tmp 3],fb13⟩
theorem fo13:FIok Tryz.prog 13 fi13:=⟨_,Tryz.func13,by kernel_rfl,Tryz.ntmps13,Tryz.results13,by kernel_rfl,by kernel_rfl⟩
noncomputable def fb14:Code:=fbO Tryz.f14
noncomputable def fi14:FI:=⟨5,[ResultVar.cell 2 44],fb14⟩
theorem fo14:FIok Tryz.prog 14 fi14:=⟨_,Tryz.func14,by kernel_rfl,Tryz.ntmps14,Tryz.results14,by kernel_rfl,by kernel_rfl⟩
noncomputable def fb15:Code:=fbO Tryz.f15
noncomputable def fi15:FI:=⟨8,[ResultVar.tmp 2,ResultVar.tmp 3],fb15⟩
theorem fo15:FIok Tryz.prog 15 fi15:=⟨_,Tryz.func15,by kernel_rfl,Tryz.ntmps15,Tryz.results15,by kernel_rfl,by kernel_rfl⟩
noncomputable def fb16:Code:=fbO Tryz.f16
noncomputable def fi16:FI:=⟨5,[ResultVar.cell 2 44],fb16⟩
theorem fo16:FIok Tryz.prog 16 fi16:=⟨_,Tryz.func16,by kernel_rfl,Tryz.ntmps16,Tryz.results16,by kernel_rfl,by kernel_rfl⟩
noncomputable def fb17:Code:=fbO Tryz.f17
noncomputable def fi17:FI:=⟨17,[ResultVar.tmp 4,ResultVar.tmp 5],fb17⟩
theorem fo17:FIok Tryz.prog 17 fi17:=⟨_,Tryz.func17,by kernel_rfl,Tryz.ntmps17,Tryz.results17,by kernel_rfl,by kernel_rfl⟩
noncomputable def fb18:Code:=fbO Tryz.f18
noncomputable def fi18:FI:=⟨22,[ResultVar.cell 4 51],fb18⟩
theorem fo18:FIok Tryz.prog 18 fi18:=⟨_,Tryz.func18,by kernel_rfl,Tryz.ntmps18,Tryz.results18,by kernel_rfl,by kernel_rfl⟩
noncomputable def fb19:Code:=fbO Tryz.f19
noncomputable def fi19:FI:=⟨61,[ResultVar.tmp 2,ResultVar.tmp 3],fb19⟩
theorem fo19:FIok Tryz.prog 19 fi19:=⟨_,Tryz.func19,by kernel_rfl,Tryz.ntmps19,Tryz.results19,by kernel_rfl,by kernel_rfl⟩
noncomputable def fb20:Code:=fbO Tryz.f20
noncomputable def fi20:FI:=⟨37,[ResultVar.cell 2 44],fb20⟩
theorem fo20:FIok Tryz.prog 20 fi20:=⟨_,Tryz.func20,by kernel_rfl,Tryz.ntmps20,Tryz.results20,by kernel_rfl,by kernel_rfl⟩
noncomputable def fb21:Code:=fbO Tryz.f21
noncomputable def fi21:FI:=⟨32,[ResultVar.tmp 4,ResultVar.tmp 5],fb21⟩
theorem fo21:FIok Tryz.prog 21 fi21:=⟨_,Tryz.func21,by kernel_rfl,Tryz.ntmps21,Tryz.results21,by kernel_rfl,by kernel_rfl⟩
noncomputable def fb22:Code:=fbO Tryz.f22
noncomputable def fi22:FI:=⟨31,[ResultVar.cell 4 51],fb22⟩
theorem fo22:FIok Tryz.prog 22 fi22:=⟨_,Tryz.func22,by kernel_rfl,Tryz.ntmps22,Tryz.results22,by kernel_rfl,by kernel_rfl⟩
noncomputable def fb23:Code:=fbO Tryz.f23
noncomputable def fi23:FI:=⟨30,[ResultVar.tmp 2,ResultVar.cell 3 28,ResultVar.tmp 4],fb23⟩
theorem fo23:FIok Tryz.prog 23 fi23:=⟨_,Tryz.func23,by kernel_rfl,Tryz.ntmps23,Tryz.results23,by kernel_rfl,by kernel_rfl⟩
noncomputable def fb24:Code:=fbO Tryz.f24
noncomputable def fi24:FI:=⟨60,[ResultVar.tmp 4,ResultVar.tmp 5],fb24⟩
theorem fo24:FIok Tryz.prog 24 fi24:=⟨_,Tryz.func24,by kernel_rfl,Tryz.ntmps24,Tryz.results24,by kernel_rfl,by kernel_rfl⟩
theorem cal24:qaf Tryz.prog 24:=⟨_,Tryz.func24,by kernel_rfl,by kernel_rfl⟩
noncomputable def fb25:Code:=fbO Tryz.f25
noncomputable def fi25:FI:=⟨8,[ResultVar.cell 4 28],fb25⟩
theorem fo25:FIok Tryz.prog 25 fi25:=⟨_,Tryz.func25,by kernel_rfl,Tryz.ntmps25,Tryz.results25,by kernel_rfl,by kernel_rfl⟩
noncomputable def fb26:Code:=fbO Tryz.f26
noncomputable def fi26:FI:=⟨39,[ResultVar.tmp 2,ResultVar.tmp 3,ResultVar.tmp 4],fb26⟩
theorem fo26:FIok Tryz.prog 26 fi26:=⟨_,Tryz.func26,by kernel_rfl,Tryz.ntmps26,Tryz.results26,by kernel_rfl,by kernel_rfl⟩
noncomputable def fb27:Code:=fbO Tryz.f27
noncomputable def fi27:FI:=⟨2,[ResultVar.tmp 0],fb27⟩
theorem fo27:FIok Tryz.prog 27 fi27:=⟨_,Tryz.func27,by kernel_rfl,Tryz.ntmps27,Tryz.results27,by kernel_rfl,by kernel_rfl⟩
theorem cal27:qaf Tryz.prog 27:=⟨_,Tryz.func27,by kernel_rfl,by kernel_rfl⟩
noncomputable def fb28:Code:=fbO Tryz.f28
noncomputable def fi28:FI:=⟨48,[ResultVar.tmp 4,ResultVar.tmp 5],fb28⟩
theorem fo28:FIok Tryz.prog 28 fi28:=⟨_,Tryz.func28,by kernel_rfl,Tryz.ntmps28,Tryz.results28,by kernel_rfl,by kernel_rfl⟩
theorem cal28:qaf Tryz.prog 28:=⟨_,Tryz.func28,by kernel_rfl,by kernel_rfl⟩
noncomputable def fb29:Code:=fbO Tryz.f29
noncomputable def fi29:FI:=⟨17,[ResultVar.tmp 4],fb29⟩
theorem fo29:FIok Tryz.prog 29 fi29:=⟨_,Tryz.func29,by kernel_rfl,Tryz.ntmps29,Tryz.results29,by kernel_rfl,by kernel_rfl⟩
theorem cal29:qaf Tryz.prog 29:=⟨_,Tryz.func29,by kernel_rfl,by kernel_rfl⟩
noncomputable def fb30:Code:=fbO Tryz.f30
noncomputable def fi30:FI:=⟨27,[ResultVar.cell 4 28,ResultVar.tmp 5],fb30⟩
theorem fo30:FIok Tryz.prog 30 fi30:=⟨_,Tryz.func30,by kernel_rfl,Tryz.ntmps30,Tryz.results30,by kernel_rfl,by kernel_rfl⟩
theorem cal30:qaf Tryz.prog 30:=⟨_,Tryz.func30,by kernel_rfl,by kernel_rfl⟩
noncomputable def fb31:Code:=fbO Tryz.f31
noncomputable def fi31:FI:=⟨53,[ResultVar.cell 6 22,ResultVar.cell 7 28,ResultVar.cell 8 29],fb31⟩
theorem fo31:FIok Tryz.prog 31 fi31:=⟨_,Tryz.func31,by kernel_rfl,Tryz.ntmps31,Tryz.results31,by kernel_rfl,by kernel_rfl⟩
theorem cal31:qaf Tryz.prog 31:=⟨_,Tryz.func31,by kernel_rfl,by kernel_rfl⟩
noncomputable def fb32:Code:=fbO Tryz.f32
noncomputable def fi32:FI:=⟨8,[ResultVar.tmp 4],fb32⟩
theorem fo32:FIok Tryz.prog 32 fi32:=⟨_,Tryz.func32,by kernel_rfl,Tryz.ntmps32,Tryz.results32,by kernel_rfl,by kernel_rfl⟩
theorem cal32:qaf Tryz.prog 32:=⟨_,Tryz.func32,by kernel_rfl,by kernel_rfl⟩
noncomputable def fb33:Code:=fbO Tryz.f33
noncomputable def fi33:FI:=⟨5,[ResultVar.tmp 2],fb33⟩
theorem fo33:FIok Tryz.prog 33 fi33:=⟨_,Tryz.func33,by kernel_rfl,Tryz.ntmps33,Tryz.results33,by kernel_rfl,by kernel_rfl⟩
noncomputable def fb34:Code:=fbO Tryz.f34
noncomputable def fi34:FI:=⟨17,[ResultVar.tmp 2],fb34⟩
theorem fo34:FIok Tryz.prog 34 fi34:=⟨_,Tryz.func34,by kernel_rfl,Tryz.ntmps34,Tryz.results34,by kernel_rfl,by kernel_rfl⟩
theorem cal34:qaf Tryz.prog 34:=⟨_,Tryz.func34,by kernel_rfl,by kernel_rfl⟩
noncomputable def fb35:Code:=fbO Tryz.f35
noncomputable def fi35:FI:=⟨50,[ResultVar.cell 4 44],fb35⟩
theorem fo35:FIok Tryz.prog 35 fi35:=⟨_,Tryz.func35,by kernel_rfl,Tryz.ntmps35,Tryz.results35,by kernel_rfl,by kernel_rfl⟩
theorem cal35:qaf Tryz.prog 35:=⟨_,Tryz.func35,by kernel_rfl,by kernel_rfl⟩
noncomputable def fb36:Code:=fbO Tryz.f36
noncomputable def fi36:FI:=⟨40,[ResultVar.tmp 4],fb36⟩
theorem fo36:FIok Tryz.prog 36 fi36:=⟨_,Tryz.func36,by kernel_rfl,Tryz.ntmps36,Tryz.results36,by kernel_rfl,by kernel_rfl⟩
theorem cal36:qaf Tryz.prog 36:=⟨_,Tryz.func36,by kernel_rfl,by kernel_rfl⟩
noncomputable def fb37:Code:=fbO Tryz.f37
noncomputable def fi37:FI:=⟨26,[ResultVar.cell 4 28],fb37⟩
theorem fo37:FIok Tryz.prog 37 fi37:=⟨_,Tryz.func37,by kernel_rfl,Tryz.ntmps37,Tryz.results37,by kernel_rfl,by kernel_rfl⟩
theorem cal37:qaf Tryz.prog 37:=⟨_,Tryz.func37,by kernel_rfl,by kernel_rfl⟩
noncomputable def fb38:Code:=fbO Tryz.f38
noncomputable def fi38:FI:=⟨31,[ResultVar.tmp 2],fb38⟩
theorem fo38:FIok Tryz.prog 38 fi38:=⟨_,Tryz.func38,by kernel_rfl,Tryz.ntmps38,Tryz.results38,by kernel_rfl,by kernel_rfl⟩
theorem cal38:qaf Tryz.prog 38:=⟨_,Tryz.func38,by kernel_rfl,by kernel_rfl⟩
noncomputable def fb39:Code:=fbO Tryz.f39
noncomputable def fi39:FI:=⟨131,[ResultVar.cell 2 36],fb39⟩
theorem fo39:FIok Tryz.prog 39 fi39:=⟨_,Tryz.func39,by kernel_rfl,Tryz.ntmps39,Tryz.results39,by kernel_rfl,by kernel_rfl⟩
theorem cal39:qaf Tryz.prog 39:=⟨_,Tryz.func39,by kernel_rfl,by kernel_rfl⟩
noncomputable def fb40:Code:=fbO Tryz.f40
noncomputable def fi40:FI:=⟨41,[ResultVar.tmp 4,ResultVar.tmp 5],fb40⟩
theorem fo40:FIok Tryz.prog 40 fi40:=⟨_,Tryz.func40,by kernel_rfl,Tryz.ntmps40,Tryz.results40,by kernel_rfl,by kernel_rfl⟩
noncomputable def fb41:Code:=fbO Tryz.f41
noncomputable def fi41:FI:=⟨5,[ResultVar.tmp 4],fb41⟩
theorem fo41:FIok Tryz.prog 41 fi41:=⟨_,Tryz.func41,by kernel_rfl,Tryz.ntmps41,Tryz.results41,by kernel_rfl,by kernel_rfl⟩
noncomputable def fb42:Code:=fbO Tryz.f42
noncomputable def fi42:FI:=⟨105,[ResultVar.cell 4 44],fb42⟩
theorem fo42:FIok Tryz.prog 42 fi42:=⟨_,Tryz.func42,by kernel_rfl,Tryz.ntmps42,Tryz.results42,by kernel_rfl,by kernel_rfl⟩
noncomputable def fb43:Code:=fbO Tryz.f43
noncomputable def fi43:FI:=⟨32,[ResultVar.tmp 4],fb43⟩
theorem fo43:FIok Tryz.prog 43 fi43:=⟨_,Tryz.func43,by kernel_rfl,Tryz.ntmps43,Tryz.results43,by kernel_rfl,by kernel_rfl⟩
noncomputable def fb44:Code:=fbO Tryz.f44
noncomputable def fi44:FI:=⟨24,[ResultVar.tmp 2],fb44⟩
theorem fo44:FIok Tryz.prog 44 fi44:=⟨_,Tryz.func44,by kernel_rfl,Tryz.ntmps44,Tryz.results44,by kernel_rfl,by kernel_rfl⟩
noncomputable def fb45:Code:=fbO Tryz.f45
noncomputable def fi45:FI:=⟨17,[ResultVar.tmp 2],fb45⟩
theorem fo45:FIok Tryz.prog 45 fi45:=⟨_,Tryz.func45,by kernel_rfl,Tryz.ntmps45,Tryz.results45,by kernel_rfl,by kernel_rfl⟩
noncomputable def fb46:Code:=fbO Tryz.f46
noncomputable def fi46:FI:=⟨26,[ResultVar.tmp 4],fb46⟩
theorem fo46:FIok Tryz.prog 46 fi46:=⟨_,Tryz.func46,by kernel_rfl,Tryz.ntmps46,Tryz.results46,by kernel_rfl,by kernel_rfl⟩
noncomputable def fb47:Code:=fbO Tryz.f47
noncomputable def fi47:FI:=⟨27,[ResultVar.tmp 2,ResultVar.tmp 3],fb47⟩
theorem fo47:FIok Tryz.prog 47 fi47:=⟨_,Tryz.func47,by kernel_rfl,Tryz.ntmps47,Tryz.results47,by kernel_rfl,by kernel_rfl⟩
noncomputable def fb48:Code:=fbO Tryz.f48
noncomputable def fi48:FI:=⟨37,[ResultVar.tmp 4],fb48⟩
theorem fo48:FIok Tryz.prog 48 fi48:=⟨_,Tryz.func48,by kernel_rfl,Tryz.ntmps48,Tryz.results48,by kernel_rfl,by kernel_rfl⟩
noncomputable def fb49:Code:=fbO Tryz.f49
noncomputable def fi49:FI:=⟨75,[ResultVar.tmp 4],fb49⟩
theorem fo49:FIok Tryz.prog 49 fi49:=⟨_,Tryz.func49,by kernel_rfl,Tryz.ntmps49,Tryz.results49,by kernel_rfl,by kernel_rfl⟩
noncomputable def fb50:Code:=fbO Tryz.f50
noncomputable def fi50:FI:=⟨42,[ResultVar.tmp 2],fb50⟩
theorem fo50:FIok Tryz.prog 50 fi50:=⟨_,Tryz.func50,by kernel_rfl,Tryz.ntmps50,Tryz.results50,by kernel_rfl,by kernel_rfl⟩
noncomputable def fb51:Code:=fbO Tryz.f51
noncomputable def fi51:FI:=⟨32,[ResultVar.tmp 6],fb51⟩
theorem fo51:FIok Tryz.prog 51 fi51:=⟨_,Tryz.func51,by kernel_rfl,Tryz.ntmps51,Tryz.results51,by kernel_rfl,by kernel_rfl⟩
noncomputable def fb52:Code:=fbO Tryz.f52
noncomputable def fi52:FI:=⟨17,[ResultVar.tmp 4],fb52⟩
theorem fo52:FIok Tryz.prog 52 fi52:=⟨_,Tryz.func52,by kernel_rfl,Tryz.ntmps52,Tryz.results52,by kernel_rfl,by kernel_rfl⟩
noncomputable def fb53:Code:=fbO Tryz.f53
noncomputable def fi53:FI:=⟨41,[ResultVar.tmp 4],fb53⟩
theorem fo53:FIok Tryz.prog 53 fi53:=⟨_,Tryz.func53,by kernel_rfl,Tryz.ntmps53,Tryz.results53,by kernel_rfl,by kernel_rfl⟩
noncomputable def fb54:Code:=fbO Tryz.f54
noncomputable def fi54:FI:=⟨34,[ResultVar.tmp 4],fb54⟩
theorem fo54:FIok Tryz.prog 54 fi54:=⟨_,Tryz.func54,by kernel_rfl,Tryz.ntmps54,Tryz.results54,by kernel_rfl,by kernel_rfl⟩
theorem cal54:qaf Tryz.prog 54:=⟨_,Tryz.func54,by kernel_rfl,by kernel_rfl⟩
noncomputable def fb55:Code:=fbO Tryz.f55
noncomputable def fi55:FI:=⟨19,[ResultVar.tmp 4,ResultVar.tmp 5],fb55⟩
theorem fo55:FIok Tryz.prog 55 fi55:=⟨_,Tryz.func55,by kernel_rfl,Tryz.ntmps55,Tryz.results55,by kernel_rfl,by kernel_rfl⟩
noncomputable def fb56:Code:=fbO Tryz.f56
noncomputable def fi56:FI:=⟨8,[ResultVar.tmp 2],fb56⟩
theorem fo56:FIok Tryz.prog 56 fi56:=⟨_,Tryz.func56,by kernel_rfl,Tryz.ntmps56,Tryz.results56,by kernel_rfl,by kernel_rfl⟩
noncomputable def fb57:Code:=fbO Tryz.f57
noncomputable def fi57:FI:=⟨14,[ResultVar.tmp 2],fb57⟩
theorem fo57:FIok Tryz.prog 57 fi57:=⟨_,Tryz.func57,by kernel_rfl,Tryz.ntmps57,Tryz.results57,by kernel_rfl,by kernel_rfl⟩
theorem cal57:qaf Tryz.prog 57:=⟨_,Tryz.func57,by kernel_rfl,by kernel_rfl⟩
noncomputable def fb58:Code:=fbO Tryz.f58
noncomputable def fi58:FI:=⟨106,[ResultVar.tmp 2],fb58⟩
theorem fo58:FIok Tryz.prog 58 fi58:=⟨_,Tryz.func58,by kernel_rfl,Tryz.ntmps58,Tryz.results58,by kernel_rfl,by kernel_rfl⟩
noncomputable def fb59:Code:=fbO Tryz.f59
noncomputable def fi59:FI:=⟨18,[ResultVar.tmp 2],fb59⟩
theorem fo59:FIok Tryz.prog 59 fi59:=⟨_,Tryz.func59,by kernel_rfl,Tryz.ntmps59,Tryz.results59,by kernel_rfl,by kernel_rfl⟩
theorem cal59:qaf Tryz.prog 59:=⟨_,Tryz.func59,by kernel_rfl,by kernel_rfl⟩
noncomputable def fb60:Code:=fbO Tryz.f60
noncomputable def fi60:FI:=⟨20,[ResultVar.tmp 4],fb60⟩
theorem fo60:FIok Tryz.prog 60 fi60:=⟨_,Tryz.func60,by kernel_rfl,Tryz.ntmps60,Tryz.results60,by kernel_rfl,by kernel_rfl⟩
theorem cal60:qaf Tryz.prog 60:=⟨_,Tryz.func60,by kernel_rfl,by kernel_rfl⟩
noncomputable def fb61:Code:=fbO Tryz.f61
noncomputable def fi61:FI:=⟨8,[ResultVar.tmp 4],fb61⟩
theorem fo61:FIok Tryz.prog 61 fi61:=⟨_,Tryz.func61,by kernel_rfl,Tryz.ntmps61,Tryz.results61,by kernel_rfl,by kernel_rfl⟩
theorem cal61:qaf Tryz.prog 61:=⟨_,Tryz.func61,by kernel_rfl,by kernel_rfl⟩
noncomputable def fb62:Code:=fbO Tryz.f62
noncomputable def fi62:FI:=⟨4,[ResultVar.tmp 2],fb62⟩
theorem fo62:FIok Tryz.prog 62 fi62:=⟨_,Tryz.func62,by kernel_rfl,Tryz.ntmps62,Tryz.results62,by kernel_rfl,by kernel_rfl⟩
noncomputable def fb63:Code:=fbO Tryz.f63
noncomputable def fi63:FI:=⟨66,[ResultVar.tmp 8],fb63⟩
theorem fo63:FIok Tryz.prog 63 fi63:=⟨_,Tryz.func63,by kernel_rfl,Tryz.ntmps63,Tryz.results63,by kernel_rfl,by kernel_rfl⟩
theorem cal63:qaf Tryz.prog 63:=⟨_,Tryz.func63,by kernel_rfl,by kernel_rfl⟩
noncomputable def fb64:Code:=fbO Tryz.f64
noncomputable def fi64:FI:=⟨60,[ResultVar.cell 4 112],fb64⟩
theorem fo64:FIok Tryz.prog 64 fi64:=⟨_,Tryz.func64,by kernel_rfl,Tryz.ntmps64,Tryz.results64,by kernel_rfl,by kernel_rfl⟩
theorem cal64:qaf Tryz.prog 64:=⟨_,Tryz.func64,by kernel_rfl,by kernel_rfl⟩
noncomputable def fb65:Code:=fbO Tryz.f65
noncomputable def fi65:FI:=⟨41,[ResultVar.tmp 4,ResultVar.tmp 5],fb65⟩
theorem fo65:FIok Tryz.prog 65 fi65:=⟨_,Tryz.func65,by kernel_rfl,Tryz.ntmps65,Tryz.results65,by kernel_rfl,by kernel_rfl⟩
theorem cal65:qaf Tryz.prog 65:=⟨_,Tryz.func65,by kernel_rfl,by kernel_rfl⟩
noncomputable def fb66:Code:=fbO Tryz.f66
noncomputable def fi66:FI:=⟨43,[ResultVar.tmp 4],fb66⟩
theorem fo66:FIok Tryz.prog 66 fi66:=⟨_,Tryz.func66,by kernel_rfl,Tryz.ntmps66,Tryz.results66,by kernel_rfl,by kernel_rfl⟩
theorem cal66:qaf Tryz.prog 66:=⟨_,Tryz.func66,by kernel_rfl,by kernel_rfl⟩
noncomputable def fb67:Code:=fbO Tryz.f67
noncomputable def fi67:FI:=⟨17,[ResultVar.tmp 2],fb67⟩
theorem fo67:FIok Tryz.prog 67 fi67:=⟨_,Tryz.func67,by kernel_rfl,Tryz.ntmps67,Tryz.results67,by kernel_rfl,by kernel_rfl⟩
theorem cal67:qaf Tryz.prog 67:=⟨_,Tryz.func67,by kernel_rfl,by kernel_rfl⟩
noncomputable def fb68:Code:=fbO Tryz.f68
noncomputable def fi68:FI:=⟨23,[ResultVar.tmp 4],fb68⟩
theorem fo68:FIok Tryz.prog 68 fi68:=⟨_,Tryz.func68,by kernel_rfl,Tryz.ntmps68,Tryz.results68,by kernel_rfl,by kernel_rfl⟩
theorem cal68:qaf Tryz.prog 68:=⟨_,Tryz.func68,by kernel_rfl,by kernel_rfl⟩
noncomputable def fb69:Code:=fbO Tryz.f69
noncomputable def fi69:FI:=⟨38,[ResultVar.cell 2 120],fb69⟩
theorem fo69:FIok Tryz.prog 69 fi69:=⟨_,Tryz.func69,by kernel_rfl,Tryz.ntmps69,Tryz.results69,by kernel_rfl,by kernel_rfl⟩
theorem cal69:qaf Tryz.prog 69:=⟨_,Tryz.func69,by kernel_rfl,by kernel_rfl⟩
noncomputable def fb70:Code:=fbO Tryz.f70
noncomputable def fi70:FI:=⟨9,[ResultVar.tmp 4],fb70⟩
theorem fo70:FIok Tryz.prog 70 fi70:=⟨_,Tryz.func70,by kernel_rfl,Tryz.ntmps70,Tryz.results70,by kernel_rfl,by kernel_rfl⟩
noncomputable def fb71:Code:=fbO Tryz.f71
noncomputable def fi71:FI:=⟨6,[ResultVar.tmp 2],fb71⟩
theorem fo71:FIok Tryz.prog 71 fi71:=⟨_,Tryz.func71,by kernel_rfl,Tryz.ntmps71,Tryz.results71,by kernel_rfl,by kernel_rfl⟩
noncomputable def fb72:Code:=fbO Tryz.f72
noncomputable def fi72:FI:=⟨17,[ResultVar.tmp 4],fb72⟩
theorem fo72:FIok Tryz.prog 72 fi72:=⟨_,Tryz.func72,by kernel_rfl,Tryz.ntmps72,Tryz.results72,by kernel_rfl,by kernel_rfl⟩
noncomputable def fb73:Code:=fbO Tryz.f73
noncomputable def fi73:FI:=⟨48,[ResultVar.tmp 2,ResultVar.tmp 3],fb73⟩
theorem fo73:FIok Tryz.prog 73 fi73:=⟨_,Tryz.func73,by kernel_rfl,Tryz.ntmps73,Tryz.results73,by kernel_rfl,by kernel_rfl⟩
theorem cal73:qaf Tryz.prog 73:=⟨_,Tryz.func73,by kernel_rfl,by kernel_rfl⟩
noncomputable def fb74:Code:=fbO Tryz.f74
noncomputable def fi74:FI:=⟨5,[ResultVar.tmp 2],fb74⟩
theorem fo74:FIok Tryz.prog 74 fi74:=⟨_,Tryz.func74,by kernel_rfl,Tryz.ntmps74,Tryz.results74,by kernel_rfl,by kernel_rfl⟩
noncomputable def fb75:Code:=fbO Tryz.f75
noncomputable def fi75:FI:=⟨23,[ResultVar.tmp 4],fb75⟩
theorem fo75:FIok Tryz.prog 75 fi75:=⟨_,Tryz.func75,by kernel_rfl,Tryz.ntmps75,Tryz.results75,by kernel_rfl,by kernel_rfl⟩
noncomputable def fb76:Code:=fbO Tryz.f76
noncomputable def fi76:FI:=⟨21,[ResultVar.cell 2 127,ResultVar.tmp 3],fb76⟩
theorem fo76:FIok Tryz.prog 76 fi76:=⟨_,Tryz.func76,by kernel_rfl,Tryz.ntmps76,Tryz.results76,by kernel_rfl,by kernel_rfl⟩
noncomputable def fb77:Code:=fbO Tryz.f77
noncomputable def fi77:FI:=⟨22,[ResultVar.tmp 4],fb77⟩
theorem fo77:FIok Tryz.prog 77 fi77:=⟨_,Tryz.func77,by kernel_rfl,Tryz.ntmps77,Tryz.results77,by kernel_rfl,by kernel_rfl⟩
noncomputable def fb79:Code:=fbO Tryz.f79
noncomputable def fi79:FI:=⟨25,[],fb79⟩
theorem fo79:FIok Tryz.prog 79 fi79:=⟨_,Tryz.func79,by kernel_rfl,Tryz.ntmps79,Tryz.results79,by kernel_rfl,by kernel_rfl⟩
noncomputable def fb82:Code:=fbO Tryz.f82
noncomputable def fi82:FI:=⟨8,[ResultVar.tmp 4],fb82⟩
theorem fo82:FIok Tryz.prog 82 fi82:=⟨_,Tryz.func82,by kernel_rfl,Tryz.ntmps82,Tryz.results82,by kernel_rfl,by kernel_rfl⟩
theorem cal82:qaf Tryz.prog 82:=⟨_,Tryz.func82,by kernel_rfl,by kernel_rfl⟩
noncomputable def fb83:Code:=fbO Tryz.f83
noncomputable def fi83:FI:=⟨20,[],fb83⟩
theorem fo83:FIok Tryz.prog 83 fi83:=⟨_,Tryz.func83,by kernel_rfl,Tryz.ntmps83,Tryz.results83,by kernel_rfl,by kernel_rfl⟩
theorem cal83:qaf Tryz.prog 83:=⟨_,Tryz.func83,by kernel_rfl,by kernel_rfl⟩
noncomputable def fb86:Code:=fbO Tryz.f86
noncomputable def fi86:FI:=⟨6,[ResultVar.tmp 2],fb86⟩
theorem fo86:FIok Tryz.prog 86 fi86:=⟨_,Tryz.func86,by kernel_rfl,Tryz.ntmps86,Tryz.results86,by kernel_rfl,by kernel_rfl⟩
noncomputable def fb87:Code:=fbO Tryz.f87
noncomputable def fi87:FI:=⟨19,[ResultVar.tmp 4],fb87⟩
theorem fo87:FIok Tryz.prog 87 fi87:=⟨_,Tryz.func87,by kernel_rfl,Tryz.ntmps87,Tryz.results87,by kernel_rfl,by kernel_rfl⟩
theorem cal87:qaf Tryz.prog 87:=⟨_,Tryz.func87,by kernel_rfl,by kernel_rfl⟩
noncomputable def fb88:Code:=fbO Tryz.f88
noncomputable def fi88:FI:=⟨91,[],fb88⟩
theorem fo88:FIok Tryz.prog 88 fi88:=⟨_,Tryz.func88,by kernel_rfl,Tryz.ntmps88,Tryz.results88,by kernel_rfl,by kernel_rfl⟩
theorem cal88:qaf Tryz.prog 88:=⟨_,Tryz.func88,by kernel_rfl,by kernel_rfl⟩
noncomputable def fb89:Code:=fbO Tryz.f89
noncomputable def fi89:FI:=⟨17,[ResultVar.tmp 2],fb89⟩
theorem fo89:FIok Tryz.prog 89 fi89:=⟨_,Tryz.func89,by kernel_rfl,Tryz.ntmps89,Tryz.results89,by kernel_rfl,by kernel_rfl⟩
theorem cal89:qaf Tryz.prog 89:=⟨_,Tryz.func89,by kernel_rfl,by kernel_rfl⟩
noncomputable def fb90:Code:=fbO Tryz.f90
noncomputable def fi90:FI:=⟨8,[ResultVar.tmp 4],fb90⟩
theorem fo90:FIok Tryz.prog 90 fi90:=⟨_,Tryz.func90,by kernel_rfl,Tryz.ntmps90,Tryz.results90,by kernel_rfl,by kernel_rfl⟩
theorem cal90:qaf Tryz.prog 90:=⟨_,Tryz.func90,by kernel_rfl,by kernel_rfl⟩
noncomputable def fb91:Code:=fbO Tryz.f91
noncomputable def fi91:FI:=⟨8,[ResultVar.tmp 4],fb91⟩
theorem fo91:FIok Tryz.prog 91 fi91:=⟨_,Tryz.func91,by kernel_rfl,Tryz.ntmps91,Tryz.results91,by kernel_rfl,by kernel_rfl⟩
theorem cal91:qaf Tryz.prog 91:=⟨_,Tryz.func91,by kernel_rfl,by kernel_rfl⟩
noncomputable def fb92:Code:=fbO Tryz.f92
noncomputable def fi92:FI:=⟨9,[ResultVar.tmp 2],fb92⟩
theorem fo92:FIok Tryz.prog 92 fi92:=⟨_,Tryz.func92,by kernel_rfl,Tryz.ntmps92,Tryz.results92,by kernel_rfl,by kernel_rfl⟩
noncomputable def fb93:Code:=fbO Tryz.f93
noncomputable def fi93:FI:=⟨16,[ResultVar.tmp 2],fb93⟩
theorem fo93:FIok Tryz.prog 93 fi93:=⟨_,Tryz.func93,by kernel_rfl,Tryz.ntmps93,Tryz.results93,by kernel_rfl,by kernel_rfl⟩
theorem cal93:qaf Tryz.prog 93:=⟨_,Tryz.func93,by kernel_rfl,by kernel_rfl⟩
noncomputable def fb95:Code:=fbO Tryz.f95
noncomputable def fi95:FI:=⟨2,[ResultVar.tmp 0],fb95⟩
theorem fo95:FIok Tryz.prog 95 fi95:=⟨_,Tryz.func95,by kernel_rfl,Tryz.ntmps95,Tryz.results95,by kernel_rfl,by kernel_rfl⟩
theorem cal95:qaf Tryz.prog 95:=⟨_,Tryz.func95,by kernel_rfl,by kernel_rfl⟩
noncomputable def fb96:Code:=fbO Tryz.f96
noncomputable def fi96:FI:=⟨9,[ResultVar.tmp 2],fb96⟩
theorem fo96:FIok Tryz.prog 96 fi96:=⟨_,Tryz.func96,by kernel_rfl,Tryz.ntmps96,Tryz.results96,by kernel_rfl,by kernel_rfl⟩
noncomputable def fb97:Code:=fbO Tryz.f97
noncomputable def fi97:FI:=⟨9,[ResultVar.tmp 2],fb97⟩
theorem fo97:FIok Tryz.prog 97 fi97:=⟨_,Tryz.func97,by kernel_rfl,Tryz.ntmps97,Tryz.results97,by kernel_rfl,by kernel_rfl⟩
noncomputable def fb98:Code:=fbO Tryz.f98
noncomputable def fi98:FI:=⟨9,[ResultVar.tmp 2],fb98⟩
theorem fo98:FIok Tryz.prog 98 fi98:=⟨_,Tryz.func98,by kernel_rfl,Tryz.ntmps98,Tryz.results98,by kernel_rfl,by kernel_rfl⟩
noncomputable def fb99:Code:=fbO Tryz.f99
noncomputable def fi99:FI:=⟨18,[ResultVar.tmp 4],fb99⟩
theorem fo99:FIok Tryz.prog 99 fi99:=⟨_,Tryz.func99,by kernel_rfl,Tryz.ntmps99,Tryz.results99,by kernel_rfl,by kernel_rfl⟩
theorem cal99:qaf Tryz.prog 99:=⟨_,Tryz.func99,by kernel_rfl,by kernel_rfl⟩
noncomputable def fb100:Code:=fbO Tryz.f100
noncomputable def fi100:FI:=⟨46,[ResultVar.cell 2 112],fb100⟩
theorem fo100:FIok Tryz.prog 100 fi100:=⟨_,Tryz.func100,by kernel_rfl,Tryz.ntmps100,Tryz.results100,by kernel_rfl,by kernel_rfl⟩
theorem cal100:qaf Tryz.prog 100:=⟨_,Tryz.func100,by kernel_rfl,by kernel_rfl⟩
noncomputable def fb101:Code:=fbO Tryz.f101
noncomputable def fi101:FI:=⟨51,[ResultVar.cell 2 120],fb101⟩
theorem fo101:FIok Tryz.prog 101 fi101:=⟨_,Tryz.func101,by kernel_rfl,Tryz.ntmps101,Tryz.results101,by kernel_rfl,by kernel_rfl⟩
theorem cal101:qaf Tryz.prog 101:=⟨_,Tryz.func101,by kernel_rfl,by kernel_rfl⟩
noncomputable def fb102:Code:=fbO Tryz.f102
noncomputable def fi102:FI:=⟨19,[ResultVar.tmp 4],fb102⟩
theorem fo102:FIok Tryz.prog 102 fi102:=⟨_,Tryz.func102,by kernel_rfl,Tryz.ntmps102,Tryz.results102,by kernel_rfl,by kernel_rfl⟩
noncomputable def fb103:Code:=fbO Tryz.f103
noncomputable def fi103:FI:=⟨9,[ResultVar.tmp 2],fb103⟩
theorem fo103:FIok Tryz.prog 103 fi103:=⟨_,Tryz.func103,by kernel_rfl,Tryz.ntmps103,Tryz.results103,by kernel_rfl,by kernel_rfl⟩
noncomputable def fb104:Code:=fbO Tryz.f104
noncomputable def fi104:FI:=⟨36,[ResultVar.tmp 2,ResultVar.tmp 3],fb104⟩
theorem fo104:FIok Tryz.prog 104 fi104:=⟨_,Tryz.func104,by kernel_rfl,Tryz.ntmps104,Tryz.results104,by kernel_rfl,by kernel_rfl⟩
theorem cal104:qaf Tryz.prog 104:=⟨_,Tryz.func104,by kernel_rfl,by kernel_rfl⟩
noncomputable def fb105:Code:=fbO Tryz.f105
noncomputable def fi105:FI:=⟨34,[ResultVar.tmp 2,ResultVar.tmp 3],fb105⟩
theorem fo105:FIok Tryz.prog 105 fi105:=⟨_,Tryz.func105,by kernel_rfl,Tryz.ntmps105,Tryz.results105,by kernel_rfl,by kernel_rfl⟩
theorem cal105:qaf Tryz.prog 105:=⟨_,Tryz.func105,by kernel_rfl,by kernel_rfl⟩
noncomputable def fb106:Code:=fbO Tryz.f106
noncomputable def fi106:FI:=⟨10,[ResultVar.tmp 4],fb106⟩
theorem fo106:FIok Tryz.prog 106 fi106:=⟨_,Tryz.func106,by kernel_rfl,Tryz.ntmps106,Tryz.results106,by kernel_rfl,by kernel_rfl⟩
noncomputable def fb109:Code:=fbO Tryz.f109
noncomputable def fi109:FI:=⟨30,[],fb109⟩
theorem fo109:FIok Tryz.prog 109 fi109:=⟨_,Tryz.func109,by kernel_rfl,Tryz.ntmps109,Tryz.results109,by kernel_rfl,by kernel_rfl⟩
noncomputable def fb110:Code:=fbO Tryz.f110
noncomputable def fi110:FI:=⟨143,[ResultVar.tmp 4],fb110⟩
theorem fo110:FIok Tryz.prog 110 fi110:=⟨_,Tryz.func110,by kernel_rfl,Tryz.ntmps110,Tryz.results110,by kernel_rfl,by kernel_rfl⟩
noncomputable def fb113:Code:=fbO Tryz.f113
noncomputable def fi113:FI:=⟨17,[ResultVar.tmp 2],fb113⟩
theorem fo113:FIok Tryz.prog 113 fi113:=⟨_,Tryz.func113,by kernel_rfl,Tryz.ntmps113,Tryz.results113,by kernel_rfl,by kernel_rfl⟩
noncomputable def fb114:Code:=fbO Tryz.f114
noncomputable def fi114:FI:=⟨18,[ResultVar.tmp 4],fb114⟩
theorem fo114:FIok Tryz.prog 114 fi114:=⟨_,Tryz.func114,by kernel_rfl,Tryz.ntmps114,Tryz.results114,by kernel_rfl,by kernel_rfl⟩
noncomputable def fb115:Code:=fbO Tryz.f115
noncomputable def fi115:FI:=⟨21,[ResultVar.tmp 6],fb115⟩
theorem fo115:FIok Tryz.prog 115 fi115:=⟨_,Tryz.func115,by kernel_rfl,Tryz.ntmps115,Tryz.results115,by kernel_rfl,by kernel_rfl⟩
noncomputable def fb116:Code:=fbO Tryz.f116
noncomputable def fi116:FI:=⟨2,[ResultVar.cell 0 156],fb116⟩
theorem fo116:FIok Tryz.prog 116 fi116:=⟨_,Tryz.func116,by kernel_rfl,Tryz.ntmps116,Tryz.results116,by kernel_rfl,by kernel_rfl⟩
noncomputable def fb118:Code:=fbO Tryz.f118
noncomputable def fi118:FI:=⟨2,[ResultVar.tmp 0],fb118⟩
theorem fo118:FIok Tryz.prog 118 fi118:=⟨_,Tryz.func118,by kernel_rfl,Tryz.ntmps118,Tryz.results118,by kernel_rfl,by kernel_rfl⟩
noncomputable def fb119:Code:=fbO Tryz.f119
noncomputable def fi119:FI:=⟨18,[ResultVar.tmp 4],fb119⟩
theorem fo119:FIok Tryz.prog 119 fi119:=⟨_,Tryz.func119,by kernel_rfl,Tryz.ntmps119,Tryz.results119,by kernel_rfl,by kernel_rfl⟩
theorem qq6:qaf Tryz.prog 119:=⟨_,Tryz.func119,by kernel_rfl,by kernel_rfl⟩
noncomputable def fb120:Code:=fbO Tryz.f120
noncomputable def fi120:FI:=⟨10,[ResultVar.tmp 2],fb120⟩
theorem fo120:FIok Tryz.prog 120 fi120:=⟨_,Tryz.func120,by kernel_rfl,Tryz.ntmps120,Tryz.results120,by kernel_rfl,by kernel_rfl⟩
noncomputable def fb121:Code:=fbO Tryz.f121
noncomputable def fi121:FI:=⟨9,[ResultVar.tmp 2],fb121⟩
theorem fo121:FIok Tryz.prog 121 fi121:=⟨_,Tryz.func121,by kernel_rfl,Tryz.ntmps121,Tryz.results121,by kernel_rfl,by kernel_rfl⟩
noncomputable def fb122:Code:=fbO Tryz.f122
noncomputable def fi122:FI:=⟨10,[ResultVar.tmp 2],fb122⟩
theorem fo122:FIok Tryz.prog 122 fi122:=⟨_,Tryz.func122,by kernel_rfl,Tryz.ntmps122,Tryz.results122,by kernel_rfl,by kernel_rfl⟩
noncomputable def fb123:Code:=fbO Tryz.f123
noncomputable def fi123:FI:=⟨9,[ResultVar.tmp 2],fb123⟩
theorem fo123:FIok Tryz.prog 123 fi123:=⟨_,Tryz.func123,by kernel_rfl,Tryz.ntmps123,Tryz.results123,by kernel_rfl,by kernel_rfl⟩
noncomputable def fb124:Code:=fbO Tryz.f124
noncomputable def fi124:FI:=⟨9,[ResultVar.tmp 4],fb124⟩
theorem fo124:FIok Tryz.prog 124 fi124:=⟨_,Tryz.func124,by kernel_rfl,Tryz.ntmps124,Tryz.results124,by kernel_rfl,by kernel_rfl⟩
theorem cal124:qaf Tryz.prog 124:=⟨_,Tryz.func124,by kernel_rfl,by kernel_rfl⟩
noncomputable def fb128:Code:=fbO Tryz.f128
noncomputable def fi128:FI:=⟨8,[ResultVar.tmp 4],fb128⟩
theorem fo128:FIok Tryz.prog 128 fi128:=⟨_,Tryz.func128,by kernel_rfl,Tryz.ntmps128,Tryz.results128,by kernel_rfl,by kernel_rfl⟩
theorem cal128:qaf Tryz.prog 128:=⟨_,Tryz.func128,by kernel_rfl,by kernel_rfl⟩
noncomputable def fb130:Code:=fbO Tryz.f130
noncomputable def fi130:FI:=⟨6,[ResultVar.tmp 2],fb130⟩
theorem fo130:FIok Tryz.prog 130 fi130:=⟨_,Tryz.func130,by kernel_rfl,Tryz.ntmps130,Tryz.results130,by kernel_rfl,by kernel_rfl⟩
noncomputable def fb135:Code:=fbO Tryz.f135
noncomputable def fi135:FI:=⟨19,[ResultVar.tmp 4],fb135⟩
theorem fo135:FIok Tryz.prog 135 fi135:=⟨_,Tryz.func135,by kernel_rfl,Tryz.ntmps135,Tryz.results135,by kernel_rfl,by kernel_rfl⟩
theorem cal135:qaf Tryz.prog 135:=⟨_,Tryz.func135,by kernel_rfl,by kernel_rfl⟩
noncomputable def ftT:PT FI:=(.node none (.node none (.node (some fi3) (.node (some fi7) (.node (some fi15) (.node (some fi31) (.node (some fi63) .leaf .leaf) (.node (some fi95) .leaf .leaf)) (.node (some fi47) (.node (some fi79) .leaf .leaf) .leaf)) (.node (some fi23) (.node (some fi39) (.node (some fi71) (.node (some fi135) .leaf .leaf) .leaf) (.node (some fi103) .leaf .leaf)) (.node (some fi55) (.node (some fi87) .leaf .leaf) (.node (some fi119) .leaf .leaf)))) (.node (some fi11) (.node (some fi19) (.node (some fi35) (.node (some fi67) .leaf .leaf) (.node (some fi99) .leaf .leaf)) (.node (some fi51) (.node (some fi83) .leaf .leaf) (.node (some fi115) .leaf .leaf))) (.node (some fi27) (.node (some fi43) (.node (some fi75) .leaf .leaf) .leaf) (.node (some fi59) (.node (some fi91) .leaf .leaf) (.node (some fi123) .leaf .leaf))))) (.node (some fi5) (.node (some fi9) (.node (some fi17) (.node (some fi33) (.node (some fi65) .leaf .leaf) (.node (some fi97) .leaf .leaf)) (.node (some fi49) .leaf (.node (some fi113) .leaf .leaf))) (.node (some fi25) (.node (some fi41) (.node (some fi73) .leaf .leaf) (.node (some fi105) .leaf .leaf)) (.node (some fi57) (.node (some fi89) .leaf .leaf) (.node (some fi121) .leaf .leaf)))) (.node (some fi13) (.node (some fi21) (.node (some fi37) (.node (some fi69) .leaf .leaf) (.node (some fi101) .leaf .leaf)) (.node (some fi53) .leaf .leaf)) (.node (some fi29) (.node (some fi45) (.node (some fi77) .leaf .leaf) (.node (some fi109) .leaf .leaf)) (.node (some fi61) (.node (some fi93) .leaf .leaf) .leaf))))) (.node none (.node (some fi4) (.node (some fi8) (.node (some fi16) (.node (some fi32) (.node (some fi64) (.node (some fi128) .leaf .leaf) .leaf) (.node (some fi96) .leaf .leaf)) (.node (some fi48) .leaf .leaf)) (.node (some fi24) (.node (some fi40) (.node (some fi72) .leaf .leaf) (.node (some fi104) .leaf .leaf)) (.node (some fi56) (.node (some fi88) .leaf .leaf) (.node (some fi120) .leaf .leaf)))) (.node (some fi12) (.node (some fi20) (.node (some fi36) (.node (some fi68) .leaf .leaf) (.node (some fi100) .leaf .leaf)) (.node (some fi52) .leaf (.node (some fi116) .leaf .leaf))) (.node (some fi28) (.node (some fi44) (.node (some fi76) .leaf .leaf) .leaf) (.node (some fi60) (.node (some fi92) .leaf .leaf) (.node (some fi124) .leaf .leaf))))) (.node (some fi6) (.node (some fi10) (.node (some fi18) (.node (some fi34) (.node (some fi66) (.node (some fi130) .leaf .leaf) .leaf) (.node (some fi98) .leaf .leaf)) (.node (some fi50) (.node (some fi82) .leaf .leaf) (.node (some fi114) .leaf .leaf))) (.node (some fi26) (.node (some fi42) (.node (some fi74) .leaf .leaf) (.node (some fi106) .leaf .leaf)) (.node (some fi58) (.node (some fi90) .leaf .leaf) (.node (some fi122) .leaf .leaf)))) (.node (some fi14) (.node (some fi22) (.node (some fi38) (.node (some fi70) .leaf .leaf) (.node (some fi102) .leaf .leaf)) (.node (some fi54) (.node (some fi86) .leaf .leaf) (.node (some fi118) .leaf .leaf))) (.node (some fi30) (.node (some fi46) .leaf (.node (some fi110) .leaf .leaf)) (.node (some fi62) .leaf .leaf))))))
theorem ftFa:ftT.Fa (fun f fi=>FIok Tryz.prog f fi):=⟨trivial,⟨trivial,⟨fo3,⟨fo7,⟨fo15,⟨fo31,⟨fo63,trivial,trivial⟩,⟨fo95,trivial,trivial⟩⟩,⟨fo47,⟨fo79,trivial,trivial⟩,trivial⟩⟩,⟨fo23,⟨fo39,⟨fo71,⟨fo135,trivial,trivial⟩,trivial⟩,⟨fo103,trivial,trivial⟩⟩,⟨fo55,⟨fo87,trivial,trivial⟩,⟨fo119,trivial,trivial⟩⟩⟩⟩,⟨fo11,⟨fo19,⟨fo35,⟨fo67,trivial,trivial⟩,⟨fo99,trivial,trivial⟩⟩,⟨fo51,⟨fo83,trivial,trivial⟩,⟨fo115,trivial,trivial⟩⟩⟩,⟨fo27,⟨fo43,⟨fo75,trivial,trivial⟩,trivial⟩,⟨fo59,⟨fo91,trivial,trivial⟩,⟨fo123,trivial,trivial⟩⟩⟩⟩⟩,⟨fo5,⟨fo9,⟨fo17,⟨fo33,⟨fo65,trivial,trivial⟩,⟨fo97,trivial,trivial⟩⟩,⟨fo49,trivial,⟨fo113,trivial,trivial⟩⟩⟩,⟨fo25,⟨fo41,⟨fo73,trivial,trivial⟩,⟨fo105,trivial,trivial⟩⟩,⟨fo57,⟨fo89,trivial,trivial⟩,⟨fo121,trivial,trivial⟩⟩⟩⟩,⟨fo13,⟨fo21,⟨fo37,⟨fo69,trivial,trivial⟩,⟨fo101,trivial,trivial⟩⟩,⟨fo53,trivial,trivial⟩⟩,⟨fo29,⟨fo45,⟨fo77,trivial,trivial⟩,⟨fo109,trivial,trivial⟩⟩,⟨fo61,⟨fo93,trivial,trivial⟩,trivial⟩⟩⟩⟩⟩,⟨trivial,⟨fo4,⟨fo8,⟨fo16,⟨fo32,⟨fo64,⟨fo128,trivial,trivial⟩,trivial⟩,⟨fo96,trivial,trivial⟩⟩,⟨fo48,trivial,trivial⟩⟩,⟨fo24,⟨fo40,⟨fo72,trivial,trivial⟩,⟨fo104,trivial,trivial⟩⟩,⟨fo56,⟨fo88,trivial,trivial⟩,⟨fo120,trivial,trivial⟩⟩⟩⟩,⟨fo12,⟨fo20,⟨fo36,⟨fo68,trivial,trivial⟩,⟨fo100,trivial,trivial⟩⟩,⟨fo52,trivial,⟨fo116,trivial,trivial⟩⟩⟩,⟨fo28,⟨fo44,⟨fo76,trivial,trivial⟩,trivial⟩,⟨fo60,⟨fo92,trivial,trivial⟩,⟨fo124,trivial,trivial⟩⟩⟩⟩⟩,⟨fo6,⟨fo10,⟨fo18,⟨fo34,⟨fo66,⟨fo130,trivial,trivial⟩,trivial⟩,⟨fo98,trivial,trivial⟩⟩,⟨fo50,⟨fo82,trivial,trivial⟩,⟨fo114,trivial,trivial⟩⟩⟩,⟨fo26,⟨fo42,⟨fo74,trivial,trivial⟩,⟨fo106,trivial,trivial⟩⟩,⟨fo58,⟨fo90,trivial,trivial⟩,⟨fo122,trivial,trivial⟩⟩⟩⟩,⟨fo14,⟨fo22,⟨fo38,⟨fo70,trivial,trivial⟩,⟨fo102,trivial,trivial⟩⟩,⟨fo54,⟨fo86,trivial,trivial⟩,⟨fo118,trivial,trivial⟩⟩⟩,⟨fo30,⟨fo46,trivial,⟨fo110,trivial,trivial⟩⟩,⟨fo62,trivial,trivial⟩⟩⟩⟩⟩⟩
theorem ftOK:FT Tryz.prog ftT.get:=fun f fi h=>PT.fa ftFa f fi h
theorem mixed:Tryz.prog.follows .mixedOrders=true:=by kernel_rfl
theorem rd9:RdT Tryz.prog .str 9:=rdt_str Tryz.underlying9 (by kernel_rfl) (by kernel_rfl)
theorem rd3:RdT Tryz.prog (.int .i64) 3:=rdt_int Tryz.underlying3 (by kernel_rfl) (by kernel_rfl)
theorem rd28:RdT Tryz.prog qal 28:=rdt_two Tryz.underlying28 rd3 rd3 rfl rfl (by kernel_rfl) (by kernel_rfl)
theorem rd24:RdT Tryz.prog cChange 24:=qtr Tryz.underlying24 rd3 rd3 rd9 rfl rfl rfl (by kernel_rfl) (by kernel_rfl)
theorem rd49:RdT Tryz.prog cToken 49:=qtr Tryz.underlying49 rd3 rd9 rd28 rfl rfl rfl (by kernel_rfl) (by kernel_rfl)
theorem rd22:RdT Tryz.prog (.list cToken) 22:=q53 Tryz.underlying22 rd49 (by decide) (by kernel_rfl) (by kernel_rfl)
end Go.Proofs.YtanenikkloolfaaGreatDoor
end

section
set_option maxRecDepth 100000
namespace Go.Proofs.YtanenikkloolfaaGreatDoor
open Go Go.Sx Go.ChangeShapes Go.WideShapes Go.ChangeAt Go.RowKit Go.Jx
theorem ownKnobT:ownKnob Tryz.prog.godebug=none:=by kernel_rfl
theorem laidT:laidOutB Tryz.prog=true:=by kernel_rfl
theorem trw_of {H:Type} {en:TypeId × Value->H} {W:World} {T:TypeId} {v:Value} {d:DataW H} {ps:List MemPlace} (h:DataW.Trod en Tryz.prog W 0 (fun _=>true) true T v d ps) (hw:∀n∈d.weights Tryz.prog T,n<=reachBytes):TRW Tryz.prog W T v.cells.toList:=by
 obtain⟨fuel,h⟩:=h
 exact⟨H,en,fuel,_,h,hw⟩
noncomputable def qb8:List Int:=match glTab 0 with|some l=>l|none=>[]
theorem q6b:glTab 0=some qb8:=rfl
theorem q1r:(Rows.laid_strings_asciiSpace:DataW Unit)=.agg (qb8.map fun n=>.lit (.int .u8 n)):=by kernel_rfl
theorem qyk:qb8.length=256:=by kernel_rfl
noncomputable def laidL:List (String × DataW Unit) := [("unicode/utf8.acceptRanges", Rows.laid_unicode_utf8_acceptRanges), ("unicode.White_Space", Rows.laid_unicode_White_Space), ("strings.asciiSpace", Rows.laid_strings_asciiSpace), ("unicode/utf8.first", Rows.laid_unicode_utf8_first)]
theorem qrv {W:World} (h:laidMetH Tryz.prog laidL W) (r:Nat) (hr:r<256):∃z,qb8[r]?=some z/\W.cell? ⟨0,r,none⟩=some (.int .u8 z)/\IntKind.u8.wrap z=z:=by
 rw[MakeChecks.laidMetH_plain _ _ _ (by kernel_rfl)] at h
 obtain⟨ps,⟨_,_,_,_,_,_,_,_,_,_,⟨_,_,_,_,_,_,_,_,_,_,⟨g,t,cs,fuel,p,q,hg,ht,hv,hd,_,_⟩,_⟩,_⟩,_,_⟩:=h
 obtain rfl:=Option.some.inj ((show Tryz.prog.globalNamed "strings.asciiSpace" = some 0 by kernel_rfl).symm.trans hg)
 obtain rfl:=Option.some.inj ((show (Tryz.prog.globals[0]?).map (·.type)=some 135 by kernel_rfl).symm.trans ht)
 obtain⟨xs,m,_,ex,_,hl,hel⟩:=DataW.trod_array Tryz.underlying135 hd
 have c5:Tryz.prog.cellsOf 5=1:=by kernel_rfl
 have hE:=hel r hr
 rw[c5,Nat.mul_one,List.getElem?_eq_getElem (by omega)] at hE
 obtain⟨z,e1,e2,e0⟩:=DataW.trod_int Tryz.underlying5 hE
 rw[q1r] at ex
 have e3:(xs.map (·.1))=qb8.map fun n=>.lit (.int .u8 n):=(DataW.agg.inj (Prod.mk.inj ex).1).symm
 have e4:(xs.map (·.1))[r]?=(qb8.map fun n=>(DataW.lit (.int .u8 n):DataW Unit))[r]?:=by rw[e3]
 have hlen:=qyk
 rw[List.getElem?_map,List.getElem?_map,List.getElem?_eq_getElem (by omega:r<xs.length),List.getElem?_eq_getElem (by omega:r<qb8.length),e2] at e4
 have hz:qb8[r]?=some z:=by
   rw[List.getElem?_eq_getElem (by omega:r<qb8.length)]
   simp only[Option.map_some,Option.some.injEq,DataW.lit.injEq,Lit.int.injEq,true_and] at e4
   rw[e4]
 have hw:IntKind.u8.wrap z=z:=by
   have hall:qb8.all (fun z=>decide (IntKind.u8.wrap z=z))=true:=by kernel_rfl
   exact of_decide_eq_true (List.all_eq_true.1 hall z (List.mem_of_getElem? hz))
 refine⟨z,hz,?_,hw⟩
 rw[World.var?_cell hg hv r]
 have:cs.toList[r]?=some (.int .u8 z):=by
   have h0:((cs.toList.drop r).take 1)[0]?=some (.int .u8 z):=by rw[e1];rfl
   simpa using h0
 simpa using this
theorem gl_of_laid {W:World} (h:laidMetH Tryz.prog laidL W):Gl [] W:=⟨fun b hb=>by
 have hb0:b=0:=by
   unfold glB at hb
   match b,hb with
   | 0,_=>rfl
   | b+1,hb=>exact absurd hb (by simp[glTab])
 subst hb0
 refine⟨by simp,?_⟩
 obtain⟨z0,_,h0,_⟩:=qrv h 0 (by decide)
 have hh:∃cells t fz,W.heap[0]?=some (.cells cells t fz):=by
   unfold World.cell? at h0
   cases hp:W.heap[0]? with
   | none=>rw[hp] at h0;cases h0
   | some o =>
     rw[hp] at h0
     cases o<;>first|exact⟨_,_,_,rfl⟩|cases h0
 obtain⟨cells,t,fz,hh⟩:=hh
 refine⟨_,hh,cells,t,fz,rfl,fun l hl i n hi=>?_⟩
 rw[q6b] at hl
 cases hl
 have hlt:=(List.getElem?_eq_some_iff.1 hi).1
 rw[qyk] at hlt
 obtain⟨z,hz,hc,hw⟩:=qrv h i hlt
 rw[hi] at hz
 cases hz
 refine⟨?_,hw⟩
 unfold World.cell? at hc
 rw[hh] at hc
 simpa using hc⟩
end Go.Proofs.YtanenikkloolfaaGreatDoor
end

section
namespace Go.Jx
open Go Go.Sx Go.RowKit
universe u

def regs:Code->List Nat
 | .region id _ _=>[id]
 | .seq a b=>regs a++regs b
 | .cond _ a b=>regs a++regs b
 | .block _ c=>regs c
 | .scope c=>regs c
 | .loop c=>regs c
 | _=>[]
def hasR (k:Nat) (c:Code):Bool:=(regs c).any fun i=>Nat.beq i k
section
variable {R : Type} (P : Program) (tt : Nat -> Option TI) (nm : Nat -> Option Nm) (B : Nat) (nt : Nat) (cl : ClK R) (lf : Nat)
def regKB (ops:List Oper) (draw:Bool) (x:NRes) (kk:CRes->Option R):Option R :=
 cond draw (ianyK P tt nt cl ops x.fr x.S fun q=>kk (mbR (mB nm B) ⟨.normal,q.fr,q.S,x.ds,q.rd,x.wr ||| q.wr⟩))
   (iseqK P tt nt cl ops ops x.fr x.S fun q=>kk (mbR (mB nm B) ⟨.normal,q.fr,q.S,x.ds,q.rd,x.wr ||| q.wr⟩))
def qau (k:Nat):Code->List Nat->NRes->(CRes->Option R)->Option R
 | .region id ops draw,ns,x,kk=>cond (Nat.beq id k) (regKB P tt nm B nt cl ops.toList draw x kk) none
 | .seq a b,ns,x,kk=>cond (hasR k a) (qau k a ns x fun r=>match r.e with
   | .normal=>qan P tt nm B nt cl lf none b r.fr r.S r.ds fun q=>kk (q.or r.rd r.wr)
   | _=>kk r) (qau k b ns x kk)
 | .cond c a b,ns,x,kk=>cond (hasR k a) (qau k a ns x kk) (qau k b ns x kk)
 | .block id c,ns,x,kk=>qau k c ns x fun r=>match r.e with
   | .exit id'=>cond (Nat.beq id' id) (kk ⟨.normal,r.fr,r.S,r.ds,r.rd,r.wr⟩) (kk r)
   | _=>kk r
 | .scope c,ns,x,kk=>qau k c ns x fun r=>match r.e with
   | .goto _=>none
   | _=>kk r
 | .loop c,ns,x,kk=>match ns with
   | []=>none
   | n::ns=>match loopM nm c with
     | none=>none
     | some m=>qau k c ns x fun r=>cond (subm r.rd m.1&&subm r.wr m.2) (match r.e with
       | .normal=>qcs (qan P tt nm B nt cl lf none c) m.1 m.2 n r.fr r.S r.ds fun r=>kk (mbR (mB nm B) r)
       | e=>kk (mbR (mB nm B) ⟨e,r.fr,r.S,r.ds,m.1,m.2⟩)) none
 | _,_,_,_=>none
end
theorem qkv {k:Nat} {c:Code}:hasR k c=true↔k∈regs c:=by
 unfold hasR
 rw[List.any_eq_true]
 constructor
 · rintro⟨i,hi,h⟩;rw[<- Nat.eq_of_beq_eq_true h];exact hi
 · intro h;exact⟨k,h,Nat.beq_refl k⟩
theorem q5k {q:CRes} {a b:Nat} (ha:a=0) (hb:b=0):q.or a b=q:=by
 subst ha;subst hb
 show (⟨q.e,q.fr,q.S,q.ds,0 ||| q.rd,0 ||| q.wr⟩:CRes)=q
 rw[Nat.zero_or,Nat.zero_or]
def lastK (tt:Nat->Option TI) (fi:FI) (s:Sm) (r:CRes):Option (ElR s.rts):=cond r.e.leaves (bd (qb2 tt fi.nt fi.res S0 r) (runR s)) none
end Go.Jx
end

section
namespace Go.Jx
open Go Go.Sx Go.RowKit
universe u

def nz (x:NRes):NRes:=⟨x.fr,x.S,x.ds,0⟩
section
variable {R : Type} (P : Program) (tt : Nat -> Option TI) (nm : Nat -> Option Nm) (B : Nat) (nt : Nat) (cl : ClK R) (lf : Nat) (st hd : Nat -> Bool) (J : Nat -> List Nat -> NRes -> Option R)
def qj1 (c:Code) (ns:List Nat) (fr:PT IV) (S:IS) (ds:List Nat):Option R:=match fk c with
 | none=>none
 | some h=>bd (inorm nt (nm h) B fr S ds) fun x=>J h ns (nz x)
def qa8:Code->List Nat->CdK R
 | .region id ops draw,ps,fr,S,ds,kk=>bd (inorm nt (nm id) B fr S ds) fun x=>cond (st id) (J id ps (nz x)) (regKB P tt nm B nt cl ops.toList draw x kk)
 | .seq a b,ps,fr,S,ds,kk=>qa8 a ps fr S ds fun r=>match r.e with
   | .normal=>qa8 b ps r.fr r.S r.ds kk
   | _=>kk r
 | .cond c a b,ps,fr,S,ds,kk=>match evo nt fr c with
   | some (.bool b')=>cond b' (qa8 a ps fr S ds kk) (qa8 b ps fr S ds kk)
   | _=>none
 | .block id c,ps,fr,S,ds,kk=>qa8 c ps fr S ds fun r=>match r.e with
   | .exit id'=>cond (Nat.beq id' id) (kk ⟨.normal,r.fr,r.S,r.ds,r.rd,r.wr⟩) (kk r)
   | _=>kk r
 | .scope c,ps,fr,S,ds,kk=>qa8 c ps fr S ds fun r=>match r.e with
   | .goto _=>none
   | _=>kk r
 | .loop c,ps,fr,S,ds,kk=>qj1 nm B nt J c (ps++[lf]) fr S ds
 | c,ps,fr,S,ds,kk=>qan P tt nm B nt cl lf none c fr S ds kk
def qa9 (k:Nat):Code->List Nat->List Nat->NRes->(CRes->Option R)->Option R
 | .region id ops draw,ps,ns,x,kk=>cond (Nat.beq id k) (regKB P tt nm B nt cl ops.toList draw x kk) none
 | .seq a b,ps,ns,x,kk=>cond (hasR k a) (qa9 k a ps ns x fun r=>match r.e with
   | .normal=>qa8 P tt nm B nt cl lf st J b ps r.fr r.S r.ds kk
   | _=>kk r) (qa9 k b ps ns x kk)
 | .cond c a b,ps,ns,x,kk=>cond (hasR k a) (qa9 k a ps ns x kk) (qa9 k b ps ns x kk)
 | .block id c,ps,ns,x,kk=>qa9 k c ps ns x fun r=>match r.e with
   | .exit id'=>cond (Nat.beq id' id) (kk ⟨.normal,r.fr,r.S,r.ds,r.rd,r.wr⟩) (kk r)
   | _=>kk r
 | .scope c,ps,ns,x,kk=>qa9 k c ps ns x fun r=>match r.e with
   | .goto _=>none
   | _=>kk r
 | .loop c,ps,ns,x,kk=>match ns with
   | []=>none
   | n::ns=>match loopM nm c with
     | none=>none
     | some m=>qa9 k c (ps++[n]) ns x fun r=>cond (subm r.rd m.1&&subm r.wr m.2) (match r.e with
       | .normal=>qj1 nm B nt J c (ps++[n]) r.fr r.S r.ds
       | e=>kk (mbR (mB nm B) ⟨e,r.fr,r.S,r.ds,m.1,m.2⟩)) none
 | _,_,_,_,_=>none
end
def okC (nm:Nat->Option Nm) (st hd:Nat->Bool):Code->Option Nat->Bool
 | .region id _ _,o=>match o with|none=>!hd id|some h=>Nat.beq id h&&(st id&&hd id)
 | .seq a b,o=>okC nm st hd a o&&okC nm st hd b none
 | .cond _ a b,o=>o.isNone&&(okC nm st hd a none&&okC nm st hd b none)
 | .block _ c,o=>okC nm st hd c o
 | .scope c,o=>okC nm st hd c o
 | .loop c,o=>o.isNone&&((loopM nm c).isSome&&(match fk c with|some h=>okC nm st hd c (some h)|none=>false))
 | _,o=>o.isNone
def dnL:List Nat->Option (List Nat)
 | []=>none
 | [n]=>match n with|0=>none|m+1=>some [m]
 | n::m::l=>match dnL (m::l) with|none=>none|some l'=>some (n::l')
def dn (b:Bool) (ns:List Nat):Option (List Nat):=cond b (dnL ns) (some ns)
theorem dn_cons {b:Bool} {n:Nat} {ns:List Nat} (h:b=true->ns≠[]):dn b (n::ns)=match dn b ns with|none=>none|some l=>some (n::l):=by
 cases b with
 | false=>rfl
 | true=>cases ns with
   | nil=>exact absurd rfl (h rfl)
   | cons m l=>rfl
section
variable {R : Type} {P : Program} {tt : Nat -> Option TI} {nm : Nat -> Option Nm} {B : Nat} {nt : Nat} {cl : Cl} {clK : ClK R} {lf : Nat} {st hd : Nat -> Bool} {J : Nat -> List Nat -> NRes -> Option R}
def Keq (k k':CRes->Option R):Prop:=∀r,r.rd=0->r.wr=0->k r=k' r
theorem mz (hB0:mB nm B=0) (a:Nat):mb (mB nm B) a=0:=by rw[hB0];rfl
theorem qs6 (hB0:mB nm B=0) (h:ClEq cl clK) {ops:List Oper} {draw:Bool} {x:NRes} {k k':CRes->Option R} (hk:Keq k k'):regKB P tt nm B nt clK ops draw x k=regKB P tt nm B nt clK ops draw x k':=by
 unfold regKB
 cases draw with
 | true =>
   simp only[cond_true,qzc h]
   cases iany P tt nt cl ops x.fr x.S with
   | none=>rfl
   | some q=>exact hk _ (mz hB0 _) (mz hB0 _)
 | false =>
   simp only[cond_false,qma h]
   cases iseq P tt nt cl ops ops x.fr x.S with
   | none=>rfl
   | some q=>exact hk _ (mz hB0 _) (mz hB0 _)
theorem qhe {h:Nat}:∀{c:Code},okC nm st hd c (some h)=true->fk c=some h/\st h=true/\hd h=true/\h∈regs c
 | .region id _ _,hc=>by
   simp only[okC,Bool.and_eq_true] at hc
   obtain rfl:=Nat.eq_of_beq_eq_true hc.1
   exact⟨rfl,hc.2.1,hc.2.2,by simp[regs]⟩
 | .seq a b,hc=>by
   simp only[okC,Bool.and_eq_true] at hc
   obtain⟨h1,h2,h3,h4⟩:=qhe hc.1
   exact⟨by simp only[fk,h1],h2,h3,by simp[regs,h4]⟩
 | .cond _ a b,hc=>by simp[okC] at hc
 | .block _ c,hc=>qhe (c:=c) hc
 | .scope c,hc=>qhe (c:=c) hc
 | .loop c,hc=>by simp[okC] at hc
 | .skip,hc=>by simp[okC] at hc
 | .label _,hc=>by simp[okC] at hc
 | .exit _,hc=>by simp[okC] at hc
 | .goto _,hc=>by simp[okC] at hc
 | .ret,hc=>by simp[okC] at hc
 | .refuse _,hc=>by simp[okC] at hc
 | .rangeFunc ..,hc=>by simp[okC] at hc
theorem qis {h:Nat}:∀{c:Code} {fr:PT IV} {S:IS} {ds:List Nat} {kk:CRes->Option R},okC nm st hd c (some h)=true ->
   qan P tt nm B nt clK lf none c fr S ds kk=bd (inorm nt (nm h) B fr S ds) fun x=>qau P tt nm B nt clK lf h c [] x kk
 | .region id ops draw,fr,S,ds,kk,hc=>by
   simp only[okC,Bool.and_eq_true] at hc
   obtain rfl:=Nat.eq_of_beq_eq_true hc.1
   show bd (inorm nt (nm id) B fr S ds) (fun x=>regKB P tt nm B nt clK ops.toList draw x kk)=_
   simp only[qau,Nat.beq_refl,cond_true]
 | .seq a b,fr,S,ds,kk,hc=>by
   simp only[okC,Bool.and_eq_true] at hc
   simp only[qan,qau,qkv.2 (qhe hc.1).2.2.2,cond_true]
   exact qis (c:=a) hc.1
 | .cond _ a b,fr,S,ds,kk,hc=>by simp[okC] at hc
 | .block _ c,fr,S,ds,kk,hc=>qis (c:=c) hc
 | .scope c,fr,S,ds,kk,hc=>qis (c:=c) hc
 | .loop c,fr,S,ds,kk,hc=>by simp[okC] at hc
 | .skip,fr,S,ds,kk,hc=>by simp[okC] at hc
 | .label _,fr,S,ds,kk,hc=>by simp[okC] at hc
 | .exit _,fr,S,ds,kk,hc=>by simp[okC] at hc
 | .goto _,fr,S,ds,kk,hc=>by simp[okC] at hc
 | .ret,fr,S,ds,kk,hc=>by simp[okC] at hc
 | .refuse _,fr,S,ds,kk,hc=>by simp[okC] at hc
 | .rangeFunc ..,fr,S,ds,kk,hc=>by simp[okC] at hc
def qbq (P:Program) (tt:Nat->Option TI) (nm:Nat->Option Nm) (B:Nat) (nt:Nat) (clK:ClK R) (lf:Nat) (hd:Nat->Bool) (k:Nat) (c:Code) (ns:List Nat) (x:NRes) (kk:CRes->Option R):Option R:=match dn (hd k) ns with
 | none=>none
 | some ns'=>qau P tt nm B nt clK lf k c ns' x kk
def JeqB (P:Program) (tt:Nat->Option TI) (nm:Nat->Option Nm) (B:Nat) (nt:Nat) (clK:ClK R) (lf:Nat) (st hd:Nat->Bool) (J:Nat->List Nat->NRes->Option R) (c:Code) (ps:List Nat) (k':CRes->Option R):Prop :=
 ∀k ns x,k∈regs c->st k=true->(hd k=true->ns≠[])->J k (ps++ns) x=qbq P tt nm B nt clK lf hd k c ns x k'
theorem qs8 {k:Nat} {a b:Code} (n3:∀x∈regs a,∀y∈regs b,x≠y) (hi:k∈regs b):hasR k a=false:=by
 cases hb:hasR k a with
 | false=>rfl
 | true=>exact absurd rfl (n3 k (qkv.1 hb) k hi)
theorem JeqB.fst {a b:Code} {ps:List Nat} {k':CRes->Option R} (hJ:JeqB P tt nm B nt clK lf st hd J (.seq a b) ps k'):JeqB P tt nm B nt clK lf st hd J a ps (fun r=>match r.e with
   | .normal=>qan P tt nm B nt clK lf none b r.fr r.S r.ds fun q=>k' (q.or r.rd r.wr)
   | _=>k' r):=fun i ns x hi hs hn=>by
 rw[hJ i ns x (by simp[regs,hi]) hs hn]
 simp only[qbq,qau,qkv.2 hi,cond_true]
 all_goals rfl
theorem JeqB.snd {a b:Code} {ps:List Nat} {k':CRes->Option R} (n3:∀x∈regs a,∀y∈regs b,x≠y) (hJ:JeqB P tt nm B nt clK lf st hd J (.seq a b) ps k'):JeqB P tt nm B nt clK lf st hd J b ps k':=fun i ns x hi hs hn=>by
 rw[hJ i ns x (by simp[regs,hi]) hs hn]
 simp only[qbq,qau,qs8 n3 hi,cond_false]
theorem JeqB.cond1 {c:Operand} {a b:Code} {ps:List Nat} {k':CRes->Option R} (hJ:JeqB P tt nm B nt clK lf st hd J (.cond c a b) ps k'):JeqB P tt nm B nt clK lf st hd J a ps k':=fun i ns x hi hs hn=>by
 rw[hJ i ns x (by simp[regs,hi]) hs hn]
 simp only[qbq,qau,qkv.2 hi,cond_true]
theorem JeqB.cond2 {c:Operand} {a b:Code} {ps:List Nat} {k':CRes->Option R} (n3:∀x∈regs a,∀y∈regs b,x≠y) (hJ:JeqB P tt nm B nt clK lf st hd J (.cond c a b) ps k'):JeqB P tt nm B nt clK lf st hd J b ps k':=fun i ns x hi hs hn=>by
 rw[hJ i ns x (by simp[regs,hi]) hs hn]
 simp only[qbq,qau,qs8 n3 hi,cond_false]
theorem JeqB.body {c:Code} {ps:List Nat} {k':CRes->Option R} {m:Nat × Nat} (hm:loopM nm c=some m) (hJ:JeqB P tt nm B nt clK lf st hd J (.loop c) ps k') (n:Nat):JeqB P tt nm B nt clK lf st hd J c (ps++[n]) (fun r=>cond (subm r.rd m.1&&subm r.wr m.2) (match r.e with
       | .normal=>qcs (qan P tt nm B nt clK lf none c) m.1 m.2 n r.fr r.S r.ds fun r=>k' (mbR (mB nm B) r)
       | e=>k' (mbR (mB nm B) ⟨e,r.fr,r.S,r.ds,m.1,m.2⟩)) none):=fun i ns x hi hs hn=>by
 have:=hJ i (n::ns) x hi hs (fun _=>by simp)
 rw[show ps++(n::ns)=(ps++[n])++ns by simp] at this
 rw[this]
 simp only[qbq,dn_cons hn]
 cases dn (hd i) ns with
 | none=>rfl
 | some ns'=>simp only[qau,hm];all_goals rfl
theorem qtt (hB0:mB nm B=0) (ops:List Oper) (draw:Bool) (x:NRes) (kk:CRes->Option R):regKB P tt nm B nt clK ops draw (nz x) kk=regKB P tt nm B nt clK ops draw x kk:=by
 unfold regKB nz mbR
 rw[hB0]
 rfl
theorem qc3 (hB0:mB nm B=0) {k:Nat}:∀(c:Code) (ns:List Nat) (x:NRes) (kk:CRes->Option R),qau P tt nm B nt clK lf k c ns (nz x) kk=qau P tt nm B nt clK lf k c ns x kk
 | .region id ops draw,ns,x,kk=>by simp only[qau,qtt hB0]
 | .seq a b,ns,x,kk=>by
   simp only[qau]
   rw[qc3 hB0 a,qc3 hB0 b]
 | .cond c a b,ns,x,kk=>by
   simp only[qau]
   rw[qc3 hB0 a,qc3 hB0 b]
 | .block id c,ns,x,kk=>by simp only[qau];rw[qc3 hB0 c]
 | .scope c,ns,x,kk=>by simp only[qau];rw[qc3 hB0 c]
 | .loop c,ns,x,kk=>by
   cases ns with
   | nil=>rfl
   | cons n ns =>
     simp only[qau]
     cases loopM nm c with
     | none=>rfl
     | some m=>simp only;rw[qc3 hB0 c]
 | .skip,ns,x,kk=>rfl
 | .label _,ns,x,kk=>rfl
 | .exit _,ns,x,kk=>rfl
 | .goto _,ns,x,kk=>rfl
 | .ret,ns,x,kk=>rfl
 | .refuse _,ns,x,kk=>rfl
 | .rangeFunc ..,ns,x,kk=>rfl
theorem qtc (hB0:mB nm B=0) {c:Code} {h:Nat} {ps:List Nat} {k':CRes->Option R} {m:Nat × Nat} (hc:okC nm st hd c (some h)=true) (hm:loopM nm c=some m) (hJ:JeqB P tt nm B nt clK lf st hd J (.loop c) ps k') (n:Nat) (fr:PT IV) (S:IS) (ds:List Nat) :
   qj1 nm B nt J c (ps++[n]) fr S ds=qcs (qan P tt nm B nt clK lf none c) m.1 m.2 n fr S ds fun r=>k' (mbR (mB nm B) r):=by
 obtain⟨h1,h2,h3,h4⟩:=qhe hc
 have e:∀x,J h (ps++[n]) (nz x)=qbq P tt nm B nt clK lf hd h (.loop c) [n] x k':=fun x=>by
   rw[hJ h [n] (nz x) h4 h2 (fun _=>by simp)]
   unfold qbq
   cases dn (hd h) [n] with
   | none=>rfl
   | some ns'=>exact qc3 hB0 _ _ _ _
 simp only[qj1,h1,e,qbq,h3,dn,cond_true]
 cases n with
 | zero =>
   simp only[dnL,qcs]
   cases inorm nt (nm h) B fr S ds<;>rfl
 | succ n =>
   simp only[dnL,qau,hm,qcs]
   rw[qis hc]
   all_goals rfl
theorem qub {b:Code} {ps:List Nat} {k k':CRes->Option R} (ihb:∀fr S ds,qa8 P tt nm B nt clK lf st J b ps fr S ds k=qan P tt nm B nt clK lf none b fr S ds k') (hk:Keq k k'):Keq (fun r=>match r.e with
   | .normal=>qa8 P tt nm B nt clK lf st J b ps r.fr r.S r.ds k
   | _=>k r) (fun r=>match r.e with
   | .normal=>qan P tt nm B nt clK lf none b r.fr r.S r.ds fun q=>k' (q.or r.rd r.wr)
   | _=>k' r):=fun r h1 h2=>by
 have e:(fun q:CRes=>k' (q.or r.rd r.wr))=k':=by funext q;rw[q5k h1 h2]
 cases he:r.e<;>simp only[he]<;>first|exact hk r h1 h2|(rw[e];exact ihb _ _ _)
theorem qx5 {id:Nat} {k k':CRes->Option R} (hk:Keq k k'):Keq (fun r=>match r.e with
   | .exit id'=>cond (Nat.beq id' id) (k ⟨.normal,r.fr,r.S,r.ds,r.rd,r.wr⟩) (k r)
   | _=>k r) (fun r=>match r.e with
   | .exit id'=>cond (Nat.beq id' id) (k' ⟨.normal,r.fr,r.S,r.ds,r.rd,r.wr⟩) (k' r)
   | _=>k' r):=fun r h1 h2=>by
 cases he:r.e<;>simp only[he]<;>first|exact hk r h1 h2|skip
 rename_i id'
 cases Nat.beq id' id
 · exact hk r h1 h2
 · exact hk _ h1 h2
theorem qsp {k k':CRes->Option R} (hk:Keq k k'):Keq (fun r=>match r.e with
   | .goto _=>none
   | _=>k r) (fun r=>match r.e with
   | .goto _=>none
   | _=>k' r):=fun r h1 h2=>by
 cases he:r.e<;>simp only[he]<;>exact hk r h1 h2
theorem qxe (hB0:mB nm B=0) (h:ClEq cl clK):∀(c:Code) (ps:List Nat) (fr:PT IV) (S:IS) (ds:List Nat) (k k':CRes->Option R),(regs c).Nodup->okC nm st hd c none=true->JeqB P tt nm B nt clK lf st hd J c ps k'->Keq k k' ->
   qa8 P tt nm B nt clK lf st J c ps fr S ds k=qan P tt nm B nt clK lf none c fr S ds k':=by
 intro c
 induction c with
 | skip=>intro ps fr S ds k k' hn hl hJ hk;exact hk _ rfl rfl
 | label l=>intro ps fr S ds k k' hn hl hJ hk;exact hk _ rfl rfl
 | exit id=>intro ps fr S ds k k' hn hl hJ hk;exact hk _ rfl rfl
 | goto l=>intro ps fr S ds k k' hn hl hJ hk;exact hk _ rfl rfl
 | ret=>intro ps fr S ds k k' hn hl hJ hk;exact hk _ rfl rfl
 | refuse _=>intro ps fr S ds k k' hn hl hJ hk;rfl
 | region id ops draw =>
   intro ps fr S ds k k' hn hl hJ hk
   simp only[okC,Bool.not_eq_true'] at hl
   show bd (inorm nt (nm id) B fr S ds) (fun x=>cond (st id) (J id ps (nz x)) (regKB P tt nm B nt clK ops.toList draw x k))=bd (inorm nt (nm id) B fr S ds) (fun x=>regKB P tt nm B nt clK ops.toList draw x k')
   cases inorm nt (nm id) B fr S ds with
   | none=>rfl
   | some x =>
     simp only[bd]
     cases hs:st id with
     | true =>
       have:=hJ id [] (nz x) (by simp[regs]) hs (fun h=>by rw[hl] at h;cases h)
       rw[List.append_nil] at this
       rw[cond_true,this]
       simp only[qbq,hl,dn,cond_false,qau,Nat.beq_refl,cond_true]
       exact qtt hB0 _ _ _ _
     | false=>rw[cond_false];exact qs6 hB0 h hk
 | seq a b iha ihb =>
   intro ps fr S ds k k' hn hl hJ hk
   simp only[regs,List.nodup_append] at hn
   obtain⟨n1,n2,n3⟩:=hn
   simp only[okC,Bool.and_eq_true] at hl
   exact iha ps fr S ds _ _ n1 hl.1 hJ.fst (qub (fun fr S ds=>ihb ps fr S ds k k' n2 hl.2 (hJ.snd n3) hk) hk)
 | cond c a b iha ihb =>
   intro ps fr S ds k k' hn hl hJ hk
   simp only[regs,List.nodup_append] at hn
   obtain⟨n1,n2,n3⟩:=hn
   simp only[okC,Bool.and_eq_true] at hl
   simp only[qa8,qan]
   cases evo nt fr c with
   | none=>rfl
   | some v =>
     cases v<;>try rfl
     simp only
     rw[iha ps fr S ds k k' n1 hl.2.1 hJ.cond1 hk,ihb ps fr S ds k k' n2 hl.2.2 (hJ.cond2 n3) hk]
 | block id c ih =>
   intro ps fr S ds k k' hn hl hJ hk
   exact ih ps fr S ds _ _ hn hl (fun i ns x hi hs hne=>hJ i ns x hi hs hne) (qx5 hk)
 | scope c ih =>
   intro ps fr S ds k k' hn hl hJ hk
   exact ih ps fr S ds _ _ hn hl (fun i ns x hi hs hne=>hJ i ns x hi hs hne) (qsp hk)
 | loop c ih =>
   intro ps fr S ds k k' hn hl hJ hk
   simp only[okC,Bool.and_eq_true,Option.isSome_iff_exists] at hl
   obtain⟨_,⟨m,hm⟩,hl⟩:=hl
   split at hl
   · rename_i i hi
     simp only[qa8,qan,hm]
     exact qtc hB0 hl hm hJ _ _ _ _
   · cases hl
 | rangeFunc g ps' assign body ih1 ih2 =>
   intro ps fr S ds k k' hn hl hJ hk
   show qan P tt nm B nt clK lf none (.rangeFunc g ps' assign body) fr S ds k=_
   rw[qco h,qco h]
   cases hq:icode P tt nm B nt cl lf none (.rangeFunc g ps' assign body) fr S ds with
   | none=>rfl
   | some r =>
     simp only[icode] at hq
     obtain⟨r0,_,rfl⟩:=qci hq
     exact hk _ (mz hB0 _) (mz hB0 _)
theorem q0g (hB0:mB nm B=0) (h:ClEq cl clK) {i0:Nat}:∀(c:Code) (o:Option Nat) (ps ns:List Nat) (x:NRes) (k k':CRes->Option R),(regs c).Nodup->okC nm st hd c o=true->JeqB P tt nm B nt clK lf st hd J c ps k'->Keq k k' ->
   qa9 P tt nm B nt clK lf st J i0 c ps ns x k=qau P tt nm B nt clK lf i0 c ns x k':=by
 intro c
 induction c with
 | skip=>intros;rfl
 | label l=>intros;rfl
 | exit id=>intros;rfl
 | goto l=>intros;rfl
 | ret=>intros;rfl
 | refuse _=>intros;rfl
 | region id ops draw =>
   intro o ps ns x k k' hn hl hJ hk
   simp only[qa9,qau]
   rw[qs6 hB0 h hk]
 | seq a b iha ihb =>
   intro o ps ns x k k' hn hl hJ hk
   simp only[regs,List.nodup_append] at hn
   obtain⟨n1,n2,n3⟩:=hn
   simp only[okC,Bool.and_eq_true] at hl
   simp only[qa9,qau]
   rw[ihb none ps ns x k k' n2 hl.2 (hJ.snd n3) hk]
   rw[iha o ps ns x _ _ n1 hl.1 hJ.fst (qub (fun fr S ds=>qxe hB0 h b ps fr S ds k k' n2 hl.2 (hJ.snd n3) hk) hk)]
   all_goals rfl
 | cond c a b iha ihb =>
   intro o ps ns x k k' hn hl hJ hk
   simp only[regs,List.nodup_append] at hn
   obtain⟨n1,n2,n3⟩:=hn
   simp only[okC,Bool.and_eq_true] at hl
   simp only[qa9,qau]
   rw[iha none ps ns x k k' n1 hl.2.1 hJ.cond1 hk,ihb none ps ns x k k' n2 hl.2.2 (hJ.cond2 n3) hk]
 | block id c ih =>
   intro o ps ns x k k' hn hl hJ hk
   exact ih o ps ns x _ _ hn hl (fun i ns x hi hs hne=>hJ i ns x hi hs hne) (qx5 hk)
 | scope c ih =>
   intro o ps ns x k k' hn hl hJ hk
   exact ih o ps ns x _ _ hn hl (fun i ns x hi hs hne=>hJ i ns x hi hs hne) (qsp hk)
 | loop c ih =>
   intro o ps ns x k k' hn hl hJ hk
   cases ns with
   | nil=>rfl
   | cons n ns =>
   simp only[okC,Bool.and_eq_true,Option.isSome_iff_exists] at hl
   obtain⟨_,⟨m,hm⟩,hl⟩:=hl
   split at hl
   · rename_i i hi
     simp only[qa9,qau,hm]
     refine ih (some i) (ps++[n]) ns x _ _ hn hl (hJ.body hm n) (fun r h1 h2=>?_)
     cases (subm r.rd m.1&&subm r.wr m.2) with
     | false=>rfl
     | true =>
       simp only[cond_true]
       cases r.e<;>simp only<;>first|exact qtc hB0 hl hm hJ _ _ _ _|exact hk _ (mz hB0 _) (mz hB0 _)
   · cases hl
 | rangeFunc g ps' assign body ih1 ih2=>intros;rfl

def atNB (P:Program) (tt:Nat->Option TI) (nm:Nat->Option Nm) (B:Nat) (nt:Nat) (body:Code) (clK:ClK R) (lf:Nat) (hd:Nat->Bool) (kk:CRes->Option R) (k:Nat) (ns:List Nat) (x:NRes):Option R :=
 qbq P tt nm B nt clK lf hd k body ns x kk
theorem qp1 (hB0:mB nm B=0) {body:Code} {kk:CRes->Option R} (h:ClEq cl clK) (hn:(regs body).Nodup) (hl:okC nm st hd body none=true) (k:Nat) (ns ns':List Nat) (hd':dn (hd k) ns=some ns') (x:NRes) :
   atNB P tt nm B nt body clK lf hd kk k ns x=qa9 P tt nm B nt clK lf st (atNB P tt nm B nt body clK lf hd kk) k body [] ns' x kk:=by
 unfold atNB
 simp only[qbq,hd']
 exact(q0g hB0 h body none [] ns' x _ _ hn hl (fun i ns x _ _ _=>rfl) (fun _ _ _=>rfl)).symm
theorem qnh {body:Code} {kk:CRes->Option R} (k:Nat) (ns:List Nat) (hd':dn (hd k) ns=none) (x:NRes):atNB P tt nm B nt body clK lf hd kk k ns x=none:=by
 unfold atNB
 simp only[qbq,hd']
theorem qn9 (hB0:mB nm B=0) {body:Code} {kk:CRes->Option R} (h:ClEq cl clK) (hn:(regs body).Nodup) (hl:okC nm st hd body none=true) (fr:PT IV) (S:IS) :
   qan P tt nm B nt clK lf none body fr S [] kk=qa8 P tt nm B nt clK lf st (atNB P tt nm B nt body clK lf hd kk) body [] fr S [] kk :=
 (qxe hB0 h body [] fr S [] _ _ hn hl (fun i ns x _ _ _=>rfl) (fun _ _ _=>rfl)).symm
end
theorem mB_z (nm:Nat->Option Nm):mB nm 0=0:=by unfold mB;cases frzF nm<;>rfl
def qao {R:Type} (P:Program) (tt:Nat->Option TI) (nm:Nat->Option Nm) (nt:Nat) (cl:ClK R) (lf:Nat) (st:Nat->Bool) (J:Nat->List Nat->NRes->Option R) (c:Code) (ps:List Nat):CdK R:=qa8 P tt nm 0 nt cl lf st J c ps
def qaz {R:Type} (P:Program) (tt:Nat->Option TI) (nm:Nat->Option Nm) (nt:Nat) (cl:ClK R) (lf:Nat) (st:Nat->Bool) (J:Nat->List Nat->NRes->Option R) (k:Nat) (c:Code) (ps ns:List Nat) (x:NRes) (kk:CRes->Option R):Option R:=qa9 P tt nm 0 nt cl lf st J k c ps ns x kk
section
variable {P : Program} {tt : Nat -> Option TI} {nm : Nat -> Option Nm} {lf : Nat} {st hd : Nat -> Bool} {cl : Cl}
def atN (P:Program) (tt:Nat->Option TI) (nm:Nat->Option Nm) (fi:FI) (s:Sm) (clK:ClK (ElR s.rts)) (lf:Nat) (hd:Nat->Bool) (k:Nat) (ns:List Nat) (x:NRes):Option (ElR s.rts) :=
 atNB P tt nm 0 fi.nt fi.body clK lf hd (lastK tt fi s) k ns x
theorem qav {fi:FI} {s:Sm} {clK:ClK (ElR s.rts)} (h:ClEq cl clK) (hn:(regs fi.body).Nodup) (hl:okC nm st hd fi.body none=true) (k:Nat) (ns ns':List Nat) (hd':dn (hd k) ns=some ns') (x:NRes) :
   atN P tt nm fi s clK lf hd k ns x=qaz P tt nm fi.nt clK lf st (atN P tt nm fi s clK lf hd) k fi.body [] ns' x (lastK tt fi s):=qp1 (mB_z nm) h hn hl k ns ns' hd' x
theorem qa2 {fi:FI} {s:Sm} {clK:ClK (ElR s.rts)} (k:Nat) (ns:List Nat) (hd':dn (hd k) ns=none) (x:NRes):atN P tt nm fi s clK lf hd k ns x=none:=qnh k ns hd' x
theorem at_in {fi:FI} {s:Sm} {clK:ClK (ElR s.rts)} (h:ClEq cl clK) (hn:(regs fi.body).Nodup) (hl:okC nm st hd fi.body none=true) (fr:PT IV) :
   qan P tt nm 0 fi.nt clK lf none fi.body fr S0 [] (lastK tt fi s)=qao P tt nm fi.nt clK lf st (atN P tt nm fi s clK lf hd) fi.body [] fr S0 [] (lastK tt fi s):=qn9 (mB_z nm) h hn hl fr S0
end

def rounds {α R:Type} (T:(α->Option R)->α->Option R):Nat->α->Option R
 | 0,_=>none
 | n+1,a=>T (rounds T n) a
end Go.Jx
end

section
namespace Go.Jx
open Go Go.Sx Go.RowKit
universe u

def below (N:Nat):Nat:=2 ^ N-1
def ansB (m:Nat) (r:Res):Option Bool:=match r.v with
 | .bool b=>cond (Nat.beq r.wr 0&&subm r.rd m) (some b) none
 | _=>none
def tup (ss:List Nat) (r:CRes):IEx × List IV × IS × List Nat × Nat × Nat:=(r.e,ss.map (slot r.fr),r.S,r.ds,r.rd,r.wr)
theorem qj5 (B:Nat):mb B 0=0:=by unfold mb;cases Nat.beq B 0<;>rfl
theorem qim (a:Nat):Nat.lor a 0=a:=Nat.or_zero a
theorem qy8 (a:Nat):Nat.lor 0 a=a:=Nat.zero_or a
theorem qjw {P:Program} {tt:Nat->Option TI} {nm:Nat->Option Nm} {B nt lf:Nat} {cl:Cl} {c:Code} {fr:PT IV} {S:IS} {ds:List Nat} {ss:List Nat} {y:IEx × List IV × IS × List Nat × Nat × Nat}
   (h:qan P tt nm B nt (fun t vs S kk=>ob (cl t vs S) kk) lf none c fr S ds (fun r=>some (tup ss r))=some y):∃r,icode P tt nm B nt cl lf none c fr S ds=some r/\tup ss r=y:=by
 rw[qco (cl:=cl) (fun _ _ _ _=>rfl)] at h
 cases hr:icode P tt nm B nt cl lf none c fr S ds with
 | none=>rw[hr] at h;cases h
 | some r=>rw[hr] at h;cases h;exact⟨r,rfl,rfl⟩
theorem qy5 {fr fr':PT IV}:∀{l:List Nat} {r:PT IV},(∀t∈l,slot fr t=slot fr' t)->keepO fr l r=keepO fr' l r
 | [],r,h=>rfl
 | t::l,r,h=>by
   unfold keepO
   rw[h t List.mem_cons_self]
   exact qy5 fun k hk=>h k (List.mem_cons_of_mem _ hk)
theorem qii {P:Program} {tt:Nat->Option TI} {nm:Nat->Option Nm} {B nt lf:Nat} {cl:Cl} {m:Nm} {h:Nat} (hm:nm h=some m) (hf:m.fo=true) {fr fr':PT IV} (hs:∀t∈m.keep,slot fr t=slot fr' t) :
   ∀{c:Code} {S:IS} {ds:List Nat},okC nm (fun k=>Nat.beq k h) (fun k=>Nat.beq k h) c (some h)=true->icode P tt nm B nt cl lf none c fr S ds=icode P tt nm B nt cl lf none c fr' S ds
 | .region id ops draw,S,ds,hc=>by
   simp only[okC,Bool.and_eq_true] at hc
   obtain rfl:=Nat.eq_of_beq_eq_true hc.1
   simp only[icode,hm,inorm,hf,cond_true,qy5 hs]
 | .seq a b,S,ds,hc=>by
   simp only[okC,Bool.and_eq_true] at hc
   simp only[icode]
   rw[qii hm hf hs (c:=a) hc.1]
 | .cond _ a b,S,ds,hc=>by simp[okC] at hc
 | .block _ c,S,ds,hc=>by
   simp only[icode]
   rw[qii hm hf hs (c:=c) hc]
 | .scope c,S,ds,hc=>by
   simp only[icode]
   rw[qii hm hf hs (c:=c) hc]
 | .loop c,S,ds,hc=>by simp[okC] at hc
 | .skip,S,ds,hc=>by simp[okC] at hc
 | .label _,S,ds,hc=>by simp[okC] at hc
 | .exit _,S,ds,hc=>by simp[okC] at hc
 | .goto _,S,ds,hc=>by simp[okC] at hc
 | .ret,S,ds,hc=>by simp[okC] at hc
 | .refuse _,S,ds,hc=>by simp[okC] at hc
 | .rangeFunc ..,S,ds,hc=>by simp[okC] at hc
def frA (c:TC) (l:List (El c)) (g:Nat) (caps:List IV):PT IV:=(argGo [.lst c l,.fn g caps] 0 .leaf).set (.int .i64 0) 4
variable {P : Program} {tt : Nat -> Option TI} {c : TC} {fi : FI} {A B L C : Code}
theorem q50 (a:Nat):subm a a=true:=by unfold subm;rw[Nat.or_self];exact Nat.beq_refl a
theorem qxf (a:Nat):subm 0 a=true:=by unfold subm;rw[Nat.zero_or];exact Nat.beq_refl a
theorem qol {B0 a m:Nat} (h:subm a m=true):subm (mb B0 a) m=true:=by
 unfold mb
 cases Nat.beq B0 0
 · exact h
 · exact qxf m
theorem runK {nm:Nat->Option Nm} {B nt lf:Nat} {cl:Cl} {c:Code} {fr:PT IV} {S:IS} {ds:List Nat} {y:CRes}
   (h:qan P tt nm B nt (fun t vs S kk=>ob (cl t vs S) kk) lf none c fr S ds some=some y):icode P tt nm B nt cl lf none c fr S ds=some y:=by
 rw[qco (cl:=cl) (fun _ _ _ _=>rfl)] at h
 cases hr:icode P tt nm B nt cl lf none c fr S ds with
 | none=>rw[hr] at h;cases h
 | some r=>rw[hr] at h;cases h;rfl
theorem q27 {T:Nat->Prop} {n a:Nat} (h:tin T (below n)):tin T (a % 2 ^ n):=fun j hj=>h j (by
 rw[Nat.testBit_mod_two_pow] at hj
 simp only[Bool.and_eq_true,decide_eq_true_eq] at hj
 unfold below
 rw[Nat.testBit_two_pow_sub_one]
 simpa using hj.1)
def cL:Code->Code
 | .seq a _=>a
 | c=>c
def cR:Code->Code
 | .seq _ b=>b
 | c=>c
def cB:Code->Code
 | .block _ c=>c
 | .loop c=>c
 | .scope c=>c
 | c=>c
end Go.Jx
end

section
namespace Go.Jx
open Go Go.Sx Go.RowKit
universe u

def smL:List (Nat × Sm)->Nat->Option Sm
 | [],_=>none
 | e::l,f=>cond (Nat.beq f e.1) (some e.2) (smL l f)
def SmOK (P:Program):List (Nat × Sm)->Prop
 | []=>True
 | e::l=>Con P e.1 e.2/\SmOK P l
theorem qby {P:Program}:∀{l:List (Nat × Sm)},SmOK P l->∀f s,smL l f=some s->Con P f s
 | [],_,f,s,h=>by cases h
 | e::l,hl,f,s,h=>by
   unfold smL at h
   cases hb:Nat.beq f e.1 with
   | true=>rw[hb,cond_true] at h;cases h;rw[Nat.eq_of_beq_eq_true hb];exact hl.1
   | false=>rw[hb,cond_false] at h;exact qby hl.2 f s h
def hxL:List (Nat × Hx)->Nat->Option Hx
 | [],_=>none
 | e::l,f=>cond (Nat.beq f e.1) (some e.2) (hxL l f)
def HxsOK (P:Program):List (Nat × Hx)->Prop
 | []=>True
 | e::l=>HxOK P e.1 e.2.f/\HxsOK P l
theorem qb4 {P:Program}:∀{l:List (Nat × Hx)},HxsOK P l->∀f s,hxL l f=some s->HxOK P f s.f
 | [],_,f,s,h=>by cases h
 | e::l,hl,f,s,h=>by
   unfold hxL at h
   cases hb:Nat.beq f e.1 with
   | true=>rw[hb,cond_true] at h;cases h;rw[Nat.eq_of_beq_eq_true hb];exact hl.1
   | false=>rw[hb,cond_false] at h;exact qb4 hl.2 f s h
def nm1 (f:Nat) (nmf:Nat->Option Nm):Nat->Nat->Option Nm:=fun g=>cond (Nat.beq g f) nmf fun _=>none
theorem qrz (f:Nat) (nmf:Nat->Option Nm):nm1 f nmf f=nmf:=by unfold nm1;rw[Nat.beq_refl,cond_true]
theorem conT {P:Program} {tt:Nat->Option TI} {ft:Nat->Option FI} {sml:List (Nat × Sm)} {hxl:List (Nat × Hx)} {f:Nat} {s:Sm} {fi:FI} {nmf:Nat->Option Nm} {st hd:Nat->Bool} (n:Nat) (hm:P.follows .mixedOrders=true) (htt:TT P tt) (hft:FT P ft) (hsm:SmOK P sml)
   (hhx:HxsOK P hxl) (hC:qaf P f) (h1:smL sml f=none) (h2:hxL hxl f=none) (h3:ft f=some fi) (h4:∀x,Nat.ble (argV s.pts x).length fi.nt=true) (hn:(regs fi.body).Nodup) (hl:okC nmf st hd fi.body none=true)
   (hrun:∀(x:ElA s.pts) (y:ElR s.rts),WfA s.pts x->s.f x=some y->∃lf,
     qao P tt nmf fi.nt (qah P tt ft (nm1 f nmf) (smL sml) (hxL hxl) lf n (ElR s.rts)) lf st (atN P tt nmf fi s (qah P tt ft (nm1 f nmf) (smL sml) (hxL hxl) lf n (ElR s.rts)) lf hd) fi.body [] (argGo (argV s.pts x) 0 .leaf) S0 [] (lastK tt fi s)=some y) (hz:frzF nmf=false:=by rfl):Con P f s:=by
 refine conK (nm:=nm1 f nmf) (sm:=smL sml) (hx:=hxL hxl) hm htt hft (qby hsm) (qb4 hhx) hC fun x y hx2 hy=>?_
 obtain⟨lf,hr⟩:=hrun x y hx2 hy
 refine⟨n+1,lf,?_⟩
 rw[<- at_in (qam n _) hn hl] at hr
 have e:=qrz f nmf
 unfold qah
 simp only[h1,h2,h3,h4,cond_true,e,hz,cond_false]
 exact hr
def S.lit (l:List Nat):ByteArray:=⟨⟨l.map UInt8.ofNat⟩⟩
end Go.Jx
end

section
namespace Go.Jx
open Go Go.Sx Go.RowKit
universe u

section
variable {P : Program} {tt : Nat -> Option TI} {nm : Nat -> Option Nm} {B nt lf : Nat} {round : Option Nat} {cl cl' : Cl}
def ClLe (cl cl':Cl):Prop:=∀t vs S r,cl t vs S=some r->cl' t vs S=some r
theorem qwb (h:ClLe cl cl') {fr:PT IV} {S:IS} {o:Oper} {r:Res} (hr:istep P tt nt cl fr S o=some r):istep P tt nt cl' fr S o=some r:=by
 obtain⟨dst,op,ty,pos,aft,g⟩:=o
 cases op<;>try exact hr
 rename_i c
 obtain⟨callee,args,ts⟩:=c
 cases callee<;>try exact hr
 rename_i x
 simp only[istep,oget] at hr ⊢
 generalize evo nt fr x=e1 at hr ⊢
 cases e1 with
 | none=>cases hr
 | some v =>
   simp only at hr ⊢
   generalize evL nt fr args.toList=e2 at hr ⊢
   cases e2 with
   | none=>cases hr
   | some vs =>
     cases v<;>simp only at hr ⊢<;>first|(cases hr;done)|exact h _ _ _ _ hr
theorem qmr (h:ClLe cl cl') {ops:List Oper}:∀{l:List Oper} {fr:PT IV} {S:IS} {q:FRes},iseq P tt nt cl ops l fr S=some q->iseq P tt nt cl' ops l fr S=some q
 | [],fr,S,q,hq=>hq
 | o::l,fr,S,q,hq=>by
   unfold iseq at hq ⊢
   cases hgk:gOK ops fr o.guard with
   | false=>rw[hgk] at hq;cases hq
   | true =>
   rw[hgk,cond_true] at hq
   rw[cond_true]
   cases hw:wantI ops nt fr o.guard with
   | true =>
     rw[hw,cond_true] at hq
     rw[cond_true]
     cases hs:istep P tt nt cl fr S o with
     | none=>rw[hs] at hq;cases hq
     | some r =>
       rw[hs] at hq
       rw[qwb h hs]
       simp only at hq ⊢
       cases hn:iseq P tt nt cl ops l (putD o.dst r.v fr) r.S with
       | none=>rw[hn] at hq;cases hq
       | some q2=>rw[hn] at hq;rw[qmr h hn];exact hq
   | false =>
     rw[hw,cond_false] at hq
     rw[cond_false]
     exact qmr h hq
theorem qmk (h:ClLe cl cl') {ops:List Oper}:∀{l:List Oper} {fr:PT IV} {S:IS} {q:Recs},irecs P tt nt cl ops l fr S=some q->irecs P tt nt cl' ops l fr S=some q
 | [],fr,S,q,hq=>hq
 | o::l,fr,S,q,hq=>by
   unfold irecs at hq ⊢
   cases hgk:gOK ops fr o.guard with
   | false=>rw[hgk] at hq;cases hq
   | true =>
   rw[hgk,cond_true] at hq
   rw[cond_true]
   cases hw:wantI ops nt fr o.guard with
   | true =>
     rw[hw,cond_true] at hq
     rw[cond_true]
     cases hs:istep P tt nt cl fr S o with
     | none=>rw[hs] at hq;cases hq
     | some r =>
       rw[hs] at hq
       rw[qwb h hs]
       simp only at hq ⊢
       cases hn:irecs P tt nt cl ops l (putD o.dst r.v fr) r.S with
       | none=>rw[hn] at hq;cases hq
       | some q2=>rw[hn] at hq;rw[qmk h hn];exact hq
   | false =>
     rw[hw,cond_false] at hq
     rw[cond_false]
     cases hn:irecs P tt nt cl ops l (putD o.dst (.tup []) fr) S with
     | none=>rw[hn] at hq;cases hq
     | some q2=>rw[hn] at hq;rw[qmk h hn];exact hq
theorem q4c (h:ClLe cl cl') {ops:List Oper} {fr:PT IV} {S:IS} {q:FRes} (hq:iany P tt nt cl ops fr S=some q):iany P tt nt cl' ops fr S=some q:=by
 unfold iany at hq ⊢
 cases hn:irecs P tt nt cl ops ops fr S with
 | none=>rw[hn] at hq;cases hq
 | some q2=>rw[hn] at hq;rw[qmk h hn];exact hq
theorem qvf (h:ClLe cl cl') {f:Nat} {caps:List IV} {S:IS} {id:Nat} {fr:PT IV} {ds:List Nat} {rd:Nat} {q:CRes} (hq:ifin cl f caps S id fr ds rd=some q):ifin cl' f caps S id fr ds rd=some q:=by
 unfold ifin at hq ⊢
 cases hn:cl (.fn f) (.yield id::caps) S with
 | none=>rw[hn] at hq;cases hq
 | some r=>rw[hn] at hq;rw[h _ _ _ _ hn];exact hq
theorem qq1 (h:ClLe cl cl'):∀(c:Code) {fr:PT IV} {S:IS} {ds:List Nat} {q:CRes},icode P tt nm B nt cl lf round c fr S ds=some q->icode P tt nm B nt cl' lf round c fr S ds=some q:=by
 intro c
 induction c with
 | skip=>intro fr S ds q hq;exact hq
 | label l=>intro fr S ds q hq;exact hq
 | exit id=>intro fr S ds q hq;exact hq
 | goto l=>intro fr S ds q hq;exact hq
 | ret=>intro fr S ds q hq;exact hq
 | refuse _=>intro fr S ds q hq;exact hq
 | region id ops draw =>
   intro fr S ds q hq
   simp only[icode] at hq ⊢
   cases hx:inorm nt (nm id) B fr S ds with
   | none=>rw[hx] at hq;cases hq
   | some x =>
     rw[hx] at hq
     simp only at hq ⊢
     cases draw with
     | true =>
       simp only[cond_true] at hq ⊢
       cases hn:iany P tt nt cl ops.toList x.fr x.S with
       | none=>rw[hn] at hq;cases hq
       | some r=>rw[hn] at hq;rw[q4c h hn];exact hq
     | false =>
       simp only[cond_false] at hq ⊢
       cases hn:iseq P tt nt cl ops.toList ops.toList x.fr x.S with
       | none=>rw[hn] at hq;cases hq
       | some r=>rw[hn] at hq;rw[qmr h hn];exact hq
 | seq x y ihx ihy =>
   intro fr S ds q hq
   simp only[icode] at hq ⊢
   cases hn:icode P tt nm B nt cl lf round x fr S ds with
   | none=>rw[hn] at hq;cases hq
   | some r =>
     rw[hn] at hq
     rw[ihx hn]
     simp only at hq ⊢
     cases he:r.e<;>rw[he] at hq<;>simp only at hq ⊢<;>try exact hq
     cases hn2:icode P tt nm B nt cl lf round y r.fr r.S r.ds with
     | none=>rw[hn2] at hq;cases hq
     | some r2=>rw[hn2] at hq;rw[ihy hn2];exact hq
 | cond c x y ihx ihy =>
   intro fr S ds q hq
   simp only[icode] at hq ⊢
   cases hv:evo nt fr c with
   | none=>rw[hv] at hq;cases hq
   | some v =>
     rw[hv] at hq
     cases v<;>simp only at hq ⊢<;>try (cases hq;done)
     rename_i b
     cases b with
     | true=>exact ihx hq
     | false=>exact ihy hq
 | block id c ih =>
   intro fr S ds q hq
   simp only[icode] at hq ⊢
   cases hn:icode P tt nm B nt cl lf round c fr S ds with
   | none=>rw[hn] at hq;cases hq
   | some r=>rw[hn] at hq;rw[ih hn];exact hq
 | scope c ih =>
   intro fr S ds q hq
   simp only[icode] at hq ⊢
   cases hn:icode P tt nm B nt cl lf round c fr S ds with
   | none=>rw[hn] at hq;cases hq
   | some r=>rw[hn] at hq;rw[ih hn];exact hq
 | loop c ih =>
   intro fr S ds q hq
   simp only[icode] at hq ⊢
   cases hm:loopM nm c with
   | some m =>
     rw[hm] at hq
     simp only at hq ⊢
     obtain⟨q0,hq0,rfl⟩:=qci hq
     have key:∀n fr S ds q,qbh (icode P tt nm B nt cl lf round c) m.1 m.2 n fr S ds=some q->qbh (icode P tt nm B nt cl' lf round c) m.1 m.2 n fr S ds=some q:=by
       intro n
       induction n with
       | zero=>intro fr S ds q hq;exact hq
       | succ n ihn =>
         intro fr S ds q hq
         unfold qbh at hq ⊢
         cases hn:icode P tt nm B nt cl lf round c fr S ds with
         | none=>rw[hn] at hq;cases hq
         | some r =>
           rw[hn] at hq
           rw[ih hn]
           simp only at hq ⊢
           cases hb:(subm r.rd m.1&&subm r.wr m.2) with
           | false=>rw[hb] at hq;cases hq
           | true =>
             rw[hb,cond_true] at hq
             rw[cond_true]
             cases he:r.e<;>rw[he] at hq<;>simp only at hq ⊢<;>first|exact ihn _ _ _ _ hq|exact hq
     rw[key _ _ _ _ _ hq0]
     rfl
   | none =>
     rw[hm] at hq
     simp only at hq ⊢
     have key:∀n fr S ds q,iiter (icode P tt nm B nt cl lf round c) n fr S ds=some q->iiter (icode P tt nm B nt cl' lf round c) n fr S ds=some q:=by
       intro n
       induction n with
       | zero=>intro fr S ds q hq;exact hq
       | succ n ihn =>
         intro fr S ds q hq
         unfold iiter at hq ⊢
         cases hn:icode P tt nm B nt cl lf round c fr S ds with
         | none=>rw[hn] at hq;cases hq
         | some r =>
           rw[hn] at hq
           rw[ih hn]
           simp only at hq ⊢
           cases he:r.e<;>rw[he] at hq<;>simp only at hq ⊢<;>try exact hq
           cases hn2:iiter (icode P tt nm B nt cl lf round c) n r.fr r.S r.ds with
           | none=>rw[hn2] at hq;cases hq
           | some r2=>rw[hn2] at hq;rw[ihn _ _ _ _ hn2];exact hq
     exact key _ _ _ _ _ hq
 | rangeFunc g ps assign body ih1 ih2 =>
   intro fr S ds q hq
   simp only[icode] at hq ⊢
   obtain⟨q0,hq0,rfl⟩:=qci hq
   cases hv:evo nt fr g with
   | none=>rw[hv] at hq0;cases hq0
   | some v =>
     rw[hv] at hq0
     cases v<;>simp only at hq0 ⊢<;>try (cases hq0;done)
     cases round with
     | none=>simp only at hq0 ⊢;rw[qvf h hq0];rfl
     | some l =>
       simp only at hq0 ⊢
       cases ho:S.heap.get l with
       | none=>rw[ho] at hq0;cases hq0
       | some o =>
         rw[ho] at hq0
         cases o<;>simp only at hq0 ⊢<;>try (cases hq0;done)
         rw[qvf h hq0];rfl
end

def sixO (p:Nat->Int->Option Bool) (s:ByteArray) (b:Bool):Nat->Nat->Option Int
 | 0,_=>none
 | n+1,i=>cond (Nat.blt i s.size) (match p (i+(Utf8.decode s i).2) (Int.ofNat (Utf8.decode s i).1) with
   | none=>none
   | some a=>cond (decide (a=b)) (some (Int.ofNat i)) (sixO p s b n (i+(Utf8.decode s i).2))) (some (-1))
def sixF (cl:Cl) (vs:List IV) (S:IS):Option Res:=match vs with
 | [.str s,.fn g caps,.bool b]=>match sixO (fun q x=>ob (cl (.fn g) (.int .i32 x::caps) (S.new (.iter s q))) (ansB (below S.next))) s b (s.size+1) 0 with
   | none=>none
   | some i=>some ⟨.int .i64 i,S,below S.next,0⟩
 | _=>none
def sixK (clP:ClP) (R:Type) (vs:List IV) (S:IS) (kk:Res->Option R):Option R:=match vs with
 | [.str s,.fn g caps,.bool b]=>match sixO (fun q x=>clP Bool (.fn g) (.int .i32 x::caps) (S.new (.iter s q)) (ansB (below S.next))) s b (s.size+1) 0 with
   | none=>none
   | some i=>kk ⟨.int .i64 i,S,below S.next,0⟩
 | _=>none
theorem six_eq (cl:Cl) (clP:ClP) (h:∀R,ClEq cl (clP R)) (R:Type) (vs:List IV) (S:IS) (kk:Res->Option R):sixK clP R vs S kk=ob (sixF cl vs S) kk:=by
 unfold sixK sixF
 split
 · rename_i s g caps b
   simp only[h Bool _ _ _ _]
   cases sixO (fun q x=>ob (cl (.fn g) (.int .i32 x::caps) (S.new (.iter s q))) (ansB (below S.next))) s b (s.size+1) 0<;>rfl
 · rfl
def sixHx:Hx:=⟨sixF,sixK,six_eq⟩
theorem qn5 {cl:Cl} {vs:List IV} {S:IS} {r:Res} (h:sixF cl vs S=some r):∃s g caps b i,vs=[.str s,.fn g caps,.bool b]/\sixO (fun q x=>ob (cl (.fn g) (.int .i32 x::caps) (S.new (.iter s q))) (ansB (below S.next))) s b (s.size+1) 0=some i/\r=⟨.int .i64 i,S,below S.next,0⟩:=by
 unfold sixF at h
 split at h
 · rename_i s g caps b
   split at h<;>cases h
   rename_i i hi
   exact⟨_,_,_,_,_,rfl,hi,rfl⟩
 · cases h
def nmS (mr mw:Nat):Nat->Option Nm:=fun j=>cond (Nat.beq j 2) (some ⟨[1,2,10],[],[],[],[],mr,mw,true⟩) none
theorem mB_S (mr mw B:Nat):mB (nmS mr mw) B=B:=rfl
def frS (g:Nat) (caps:List IV) (b:Bool) (id:Nat):PT IV:=((PT.leaf.set (.fn g caps) 1).set (.bool b) 2).set (.ptr id 0) 10
def clT (test:Tgt->List IV->IS->Bool) (c:Res):Cl:=fun t vs S=>cond (test t vs S) (some c) none
structure SixFacts (P:Program) (tt:Nat->Option TI) (fi:FI) (A B L C:Code):Prop where
 body:fi.body=.seq A (.seq (.seq B (.block 0 (.loop L))) C)
 three:Nat.ble 3 fi.nt=true
 head:∀mr mw,okC (nmS mr mw) (fun k=>Nat.beq k 2) (fun k=>Nat.beq k 2) L (some 2)=true
 ab:∀(R:Type) (clK:ClK R) (B0 mr mw lf:Nat) (s:ByteArray) (g:Nat) (caps:List IV) (b:Bool) (S:IS) (kk:_->Option R),qan P tt (nmS mr mw) B0 fi.nt clK lf none (.seq A B) (argGo [.str s,.fn g caps,.bool b] 0 .leaf) S [] (fun r=>kk (tup [1,2,10] r)) =
   kk (.normal,[.fn g caps,.bool b,.ptr S.next 0],S.new (.iter s 0),[],(mb B0 0).lor (mb B0 0),(mb B0 0).lor (mb B0 0))
 l:∀(R:Type) (B0 mr mw lf:Nat) (g:Nat) (caps:List IV) (b a:Bool) (id rd:Nat) (S S':IS) (test:Tgt->List IV->IS->Bool) (kk:_->Option R),qan P tt (nmS mr mw) B0 fi.nt (fun t vs S kk=>cond (test t vs S) (kk ⟨.bool a,S',rd,0⟩) none) lf none L (frS g caps b id) S [] (fun r=>kk (tup [1,2,6,10] r)) =
   match S.heap.get id with
   | some (.iter s p)=>cond (Nat.blt p s.size)
     (cond (test (.fn g) (.int .i32 (Int.ofNat (Utf8.decode s p).1)::caps) (S.set id (.iter s (p+(Utf8.decode s p).2))))
       (cond (decide (a=b))
         (kk (.ret,[.fn g caps,.bool b,.int .i64 (Int.ofNat p),.ptr id 0],S',[],(mb B0 0).lor (Nat.lor 0 ((mb B0 0).lor ((mb B0 (Nat.lor 0 (Nat.lor 0 (rd.lor 0)))).lor ((mb B0 0).lor 0)))),
           (mb B0 (Nat.lor 0 ((Nat.pow 2 id).lor 0))).lor (Nat.lor 0 ((mb B0 0).lor ((mb B0 0).lor ((mb B0 0).lor 0))))))
         (kk (.normal,[.fn g caps,.bool b,.unk,.ptr id 0],S',[],(mb B0 0).lor (Nat.lor 0 ((mb B0 0).lor ((mb B0 (Nat.lor 0 (Nat.lor 0 (rd.lor 0)))).lor 0))),
           (mb B0 (Nat.lor 0 ((Nat.pow 2 id).lor 0))).lor (Nat.lor 0 ((mb B0 0).lor ((mb B0 0).lor 0))))))
       none)
     (kk (.exit 0,[.fn g caps,.bool b,.unk,.ptr id 0],S,[],(mb B0 ((Nat.pow 2 id).lor 0)).lor 0,(mb B0 0).lor 0))
   | _=>none
 e:∀(R:Type) (clK:ClK R) (B0 mr mw lf:Nat) (fr:PT IV) (S:IS) (kk:CRes->Option R),qan P tt (nmS mr mw) B0 fi.nt clK lf none C fr S [] kk=kk ⟨.ret,fr.set (.int .i64 (-1)) 6,S,[],(mb B0 0).lor 0,(mb B0 0).lor 0⟩
 res:fi.res=[.tmp 6]
 nt6:Nat.blt 6 fi.nt=true
 lm:∀mr mw,loopM (nmS mr mw) L=some (mr,mw)
theorem PT.one_set {α:Type u} (x y:α):∀(f n:Nat),n<=f->(PT.one x f n).set y n=PT.one y f n
 | 0,n,h=>by
   obtain rfl:n=0:=by omega
   rfl
 | f+1,n,h=>by
   by_cases hn:n=0
   · subst hn;rfl
   · by_cases h2:n % 2=1
     · simp only[PT.one,beq_f hn,cond_false,beq_t h2,cond_true,PT.set]
       rw[PT.one_set x y f _ (by omega)]
     · simp only[PT.one,beq_f hn,cond_false,beq_f h2,PT.set]
       rw[PT.one_set x y f _ (by omega)]
theorem PT.set_set {α:Type u} (x y:α):∀(t:PT α) (n:Nat),(t.set x n).set y n=t.set y n
 | .leaf,n=>PT.one_set x y n n (Nat.le_refl _)
 | .node v l r,n=>by
   by_cases hn:n=0
   · subst hn;rfl
   · by_cases h2:n % 2=1
     · simp only[PT.set,beq_f hn,cond_false,beq_t h2,cond_true]
       rw[PT.set_set x y l]
     · simp only[PT.set,beq_f hn,cond_false,beq_f h2]
       rw[PT.set_set x y r]
theorem IS.new_set (S:IS) (o o':IObj):(S.new o).set S.next o'=S.new o':=by
 unfold IS.new IS.set
 simp only[PT.set_set]
theorem IS.new_get (S:IS) (o:IObj):(S.new o).heap.get S.next=some o:=by
 unfold IS.new
 simp only[PT.get_set,if_true]
theorem qyx {a m:Nat}:subm a m=true↔∀j,a.testBit j=true->m.testBit j=true:=by
 constructor
 · intro h j hj;exact qnj (T:=fun j=>m.testBit j=true) h (fun j hj=>hj) j hj
 · intro h
   unfold subm
   have:a ||| m=m:=Nat.eq_of_testBit_eq fun j=>by
     rw[Nat.testBit_or]
     cases ha:a.testBit j with
     | false=>rfl
     | true=>rw[h j ha];rfl
   rw[this];exact Nat.beq_refl m
theorem qxy (n j:Nat):(below n).testBit j=decide (j<n):=by unfold below;exact Nat.testBit_two_pow_sub_one ..
theorem qww {P:Program} {tt:Nat->Option TI} {fi:FI} {f:Nat} {nm:Nat->Option Nm} {lf:Nat} {cl:Cl} {vs:List IV} {S S1:IS} {fr:PT IV} {e:IEx} {rd wr:Nat} {k:IntKind} {i:Int} {t:Nat} (hz:frzF nm=false) (hm:P.follows .mixedOrders=true) (htt:TT P tt) (hfi:FIok P f fi) (hcl:ClOK P cl) (hfr:ClFr cl)
   (hb:Nat.ble vs.length fi.nt=true) (hr:icode P tt nm S.next fi.nt cl lf none fi.body (argGo vs 0 .leaf) S []=some ⟨e,fr,S1,[],rd,wr⟩) (hw:wr % 2 ^ S.next=0) (he:e.leaves=true) (hres:fi.res=[.tmp t]) (hnt:Nat.blt t fi.nt=true) (hs:slot fr t=.int k i)
   {T:TW} {E:Env} {us:List Value} (p:Pre T E S) (hrd:tin T.r (below S.next)) (hv:VRs E vs us):qaf P f/\CallsIn Fence.wide 0 P f us.toArray E.w (RetE T E S ⟨.int k i,S,below S.next,0⟩):=by
 refine qy6 (fi:=fi) (r:=⟨.int k i,S,(rd ||| 0) % 2 ^ S.next,0⟩) hz hm htt hfi hcl hfr hb hr he ?_ p (q27 hrd) (fun j hj=>by simp at hj) hv
 have e1:qc8 ([]:List Nat) S1=some (S1,0):=rfl
 simp only[qb2,e1,hres,ires,hnt,cond_true,hs]
 simp only[tupI,igc,low2,low0,Nat.or_zero,hw,Nat.beq_refl,Bool.and_self,cond_true]
variable {P : Program} {tt : Nat -> Option TI} {fi : FI} {A B L C : Code}
theorem q57 (F:SixFacts P tt fi A B L C) {cl:Cl} (hcalm:Calm cl) {s:ByteArray} {b:Bool} {g:Nat} {caps:List IV} {S:IS} {i:Int} {lf:Nat}:∀(fuel p:Nat) (fr:PT IV),(slot fr 1=.fn g caps/\slot fr 2=.bool b/\slot fr 10=.ptr S.next 0) ->
   sixO (fun q x=>ob (cl (.fn g) (.int .i32 x::caps) (S.new (.iter s q))) (ansB (below S.next))) s b fuel p=some i ->
   ∃r,qbh (icode P tt (nmS (below (S.next+1)) (2 ^ S.next)) S.next fi.nt cl lf none L) (below (S.next+1)) (2 ^ S.next) fuel fr (S.new (.iter s p)) []=some r/\r.ds=[]/\r.rd=below (S.next+1)/\r.wr=2 ^ S.next/\((r.e=.ret/\slot r.fr 6=.int .i64 i)\/(r.e=.exit 0/\i=-1)):=by
 intro fuel
 induction fuel with
 | zero=>intro p fr hs hi;cases hi
 | succ n ih =>
   intro p fr hs hi
   have e1:=fun cl=>qii (P:=P) (tt:=tt) (B:=S.next) (nt:=fi.nt) (lf:=lf) (cl:=cl) (h:=2) (m:=⟨[1,2,10],[],[],[],[],below (S.next+1),2 ^ S.next,true⟩) rfl rfl (fr:=fr) (fr':=frS g caps b S.next) (by
     intro t ht
     simp only[List.mem_cons,List.not_mem_nil,or_false] at ht
     rcases ht with rfl|rfl|rfl
     · exact hs.1
     · exact hs.2.1
     · exact hs.2.2) (c:=L) (S:=S.new (.iter s p)) (ds:=[]) (F.head _ _)
   have hb1:∀x,subm x (below S.next)=true->subm (mb S.next x) (below (S.next+1))=true:=fun x hx=>qol (by
     rw[qyx] at hx ⊢
     intro j hj
     have:=hx j hj
     rw[qxy] at this ⊢
     simp only[decide_eq_true_eq] at this ⊢
     omega)
   have hb2:subm (mb S.next (2 ^ S.next)) (2 ^ S.next)=true:=qol (q50 _)
   have hb3:subm (mb S.next (2 ^ S.next)) (below (S.next+1))=true:=qol (by
     rw[qyx]
     intro j hj
     rw[Nat.testBit_two_pow] at hj
     rw[qxy]
     simp only[decide_eq_true_eq] at hj ⊢
     omega)
   have hpw:Nat.pow 2 S.next=2 ^ S.next:=rfl
   unfold sixO at hi
   cases hlt:Nat.blt p s.size with
   | false =>
     rw[hlt,cond_false] at hi
     cases hi
     have e2:=F.l (IEx × List IV × IS × List Nat × Nat × Nat) S.next (below (S.next+1)) (2 ^ S.next) lf g caps b false S.next 0 (S.new (.iter s p)) S (fun _ _ _=>false) some
     rw[IS.new_get] at e2
     simp only[hlt,cond_false,qj5,qim,qy8] at e2
     have ec:(fun(t:Tgt) (vs:List IV) (S:IS) (kk:Res->Option (IEx × List IV × IS × List Nat × Nat × Nat))=>(none:Option (IEx × List IV × IS × List Nat × Nat × Nat)))=fun t vs S kk=>ob ((fun _ _ _=>none:Cl) t vs S) kk:=rfl
     rw[ec] at e2
     obtain⟨r,hr,ht⟩:=qjw e2
     have hr:=qq1 (cl':=cl) (fun t vs S r h=>by cases h) _ hr
     simp only[tup,Prod.mk.injEq] at ht
     obtain⟨t1,t2,t3,t4,t5,t6⟩:=ht
     refine⟨⟨.exit 0,r.fr,S.new (.iter s p),[],below (S.next+1),2 ^ S.next⟩,?_,rfl,rfl,rfl,.inr ⟨rfl,rfl⟩⟩
     unfold qbh
     rw[e1 cl]
     have hr':icode P tt (nmS (below (S.next+1)) (2 ^ S.next)) S.next fi.nt cl lf none L (frS g caps b S.next) (S.new (.iter s p)) []=some r:=hr
     simp only[hr',t5,t6,hpw,hb3,qxf,Bool.and_self,cond_true,t1,t3,t4]
   | true =>
     rw[hlt,cond_true] at hi
     cases hc:cl (.fn g) (.int .i32 (Int.ofNat (Utf8.decode s p).1)::caps) (S.new (.iter s (p+(Utf8.decode s p).2))) with
     | none=>rw[hc] at hi;cases hi
     | some r0 =>
     rw[hc] at hi
     simp only[ob] at hi
     obtain⟨v0,S0',rd0,wr0⟩:=r0
     cases v0<;>simp only[ansB] at hi<;>try (cases hi;done)
     rename_i a
     cases hmk:(Nat.beq wr0 0&&subm rd0 (below S.next)) with
     | false=>rw[hmk] at hi;cases hi
     | true =>
     rw[hmk] at hi
     simp only[Bool.and_eq_true] at hmk
     have hw0:wr0=0:=Nat.eq_of_beq_eq_true hmk.1
     subst hw0
     have hS:S0'=S.new (.iter s (p+(Utf8.decode s p).2)):=hcalm _ _ _ _ hc rfl rfl
     subst hS
     simp only[cond_true] at hi
     have hsm:=hb1 _ hmk.2
     let c0:Res:=⟨.bool a,S.new (.iter s (p+(Utf8.decode s p).2)),rd0,0⟩
     let test:Tgt->List IV->IS->Bool:=fun t vs S=>@decide (cl t vs S=some c0) (Classical.propDecidable _)
     have hle:ClLe (clT test c0) cl:=fun t vs S r h=>by
       unfold clT at h
       cases ht:test t vs S with
       | false=>rw[ht] at h;cases h
       | true =>
         rw[ht] at h;cases h
         exact @of_decide_eq_true _ (Classical.propDecidable _) ht
     have e2:=F.l (IEx × List IV × IS × List Nat × Nat × Nat) S.next (below (S.next+1)) (2 ^ S.next) lf g caps b a S.next rd0 (S.new (.iter s p)) (S.new (.iter s (p+(Utf8.decode s p).2))) test some
     rw[IS.new_get] at e2
     have htest:test (.fn g) (.int .i32 (Int.ofNat (Utf8.decode s p).1)::caps) ((S.new (.iter s p)).set S.next (.iter s (p+(Utf8.decode s p).2)))=true:=by
       rw[IS.new_set]
       exact @decide_eq_true _ (Classical.propDecidable _) hc
     simp only[hlt,htest,cond_true,qj5,qim,qy8] at e2
     cases hab:decide (a=b) with
     | true =>
       rw[hab,cond_true] at e2 hi
       cases hi
       have ec:(fun(t:Tgt) (vs:List IV) (S:IS) (kk:Res->Option (IEx × List IV × IS × List Nat × Nat × Nat))=>cond (test t vs S) (kk c0) none)=fun t vs S kk=>ob (clT test c0 t vs S) kk:=by
         funext t vs S kk
         unfold clT
         cases test t vs S<;>rfl
       rw[ec] at e2
       obtain⟨r,hr,ht⟩:=qjw e2
       have hr:=qq1 hle _ hr
       simp only[tup,Prod.mk.injEq,List.map_cons,List.cons.injEq] at ht
       obtain⟨t1,t2,t3,t4,t5,t6⟩:=ht
       refine⟨⟨.ret,r.fr,S.new (.iter s (p+(Utf8.decode s p).2)),[],below (S.next+1),2 ^ S.next⟩,?_,rfl,rfl,rfl,.inl ⟨rfl,t2.2.2.1⟩⟩
       unfold qbh
       rw[e1 cl]
       have hr':icode P tt (nmS (below (S.next+1)) (2 ^ S.next)) S.next fi.nt cl lf none L (frS g caps b S.next) (S.new (.iter s p)) []=some r:=hr
       simp only[hr',t5,t6,hpw,hsm,hb2,Bool.and_self,cond_true,t1,t3,t4]
     | false =>
       rw[hab,cond_false] at e2 hi
       have ec:(fun(t:Tgt) (vs:List IV) (S:IS) (kk:Res->Option (IEx × List IV × IS × List Nat × Nat × Nat))=>cond (test t vs S) (kk c0) none)=fun t vs S kk=>ob (clT test c0 t vs S) kk:=by
         funext t vs S kk
         unfold clT
         cases test t vs S<;>rfl
       rw[ec] at e2
       obtain⟨r,hr,ht⟩:=qjw e2
       have hr:=qq1 hle _ hr
       simp only[tup,Prod.mk.injEq,List.map_cons,List.cons.injEq] at ht
       obtain⟨t1,t2,t3,t4,t5,t6⟩:=ht
       obtain⟨q,q1,q2⟩:=ih (p+(Utf8.decode s p).2) r.fr ⟨t2.1,t2.2.1,t2.2.2.2.1⟩ hi
       refine⟨q,?_,q2⟩
       unfold qbh
       rw[e1 cl]
       have hr':icode P tt (nmS (below (S.next+1)) (2 ^ S.next)) S.next fi.nt cl lf none L (frS g caps b S.next) (S.new (.iter s p)) []=some r:=hr
       simp only[hr',t5,t6,hpw,hsm,hb2,Bool.and_self,cond_true,t1,t3,t4]
       exact q1
theorem qya (n:Nat):mb n (2 ^ n) % 2 ^ n=0:=by
 unfold mb
 cases Nat.beq n 0
 · exact Nat.mod_self _
 · exact Nat.zero_mod _
theorem six_ok {f:Nat} (F:SixFacts P tt fi A B L C) (hm:P.follows .mixedOrders=true) (htt:TT P tt) (hfi:FIok P f fi):HxOK P f sixF:=by
 refine⟨fun cl hcl hfr hcalm vs S r h T E us p hrd hwr hv=>?_,fun cl hfr vs S r h=>?_,fun cl hcalm vs S r h _ _=>?_⟩
 · obtain⟨s,g,caps,b,i,rfl,hi,rfl⟩:=qn5 h
   obtain⟨ra,hra,hta⟩:=qjw (cl:=cl) (F.ab (IEx × List IV × IS × List Nat × Nat × Nat) (fun t vs S kk=>ob (cl t vs S) kk) S.next (below (S.next+1)) (2 ^ S.next) (s.size+1) s g caps b S some)
   obtain⟨rae,rafr,raS,rads,rard,rawr⟩:=ra
   simp only[tup,Prod.mk.injEq,List.map_cons,List.map_nil,List.cons.injEq,qj5,qim] at hta
   obtain⟨rfl,⟨s1,s2,s3,_⟩,rfl,rfl,rfl,rfl⟩:=hta
   obtain⟨r,hr,hds,hrd2,hwr2,hcase⟩:=q57 F hcalm (lf:=s.size+1) (s.size+1) 0 rafr ⟨s1,s2,s3⟩ hi
   obtain⟨re,rfr,rS,rds,rrd,rwr⟩:=r
   simp only at hds hrd2 hwr2 hcase
   subst hds;subst hrd2;subst hwr2
   simp only[icode] at hra
   cases hA:icode P tt (nmS (below (S.next+1)) (2 ^ S.next)) S.next fi.nt cl (s.size+1) none A (argGo [.str s,.fn g caps,.bool b] 0 .leaf) S [] with
   | none=>rw[hA] at hra;cases hra
   | some qa =>
   rw[hA] at hra
   simp only at hra
   obtain⟨qe,qfr,qS,qds,qrd,qwr⟩:=qa
   cases qe<;>simp only at hra<;>try (cases hra;done)
   cases hB:icode P tt (nmS (below (S.next+1)) (2 ^ S.next)) S.next fi.nt cl (s.size+1) none B qfr qS qds with
   | none=>rw[hB] at hra;cases hra
   | some qb =>
   rw[hB] at hra
   obtain⟨be,bfr,bS,bds,brd,bwr⟩:=qb
   simp only[CRes.or,Option.some.injEq,CRes.mk.injEq] at hra
   obtain⟨rfl,rfl,rfl,rfl,h5,h6⟩:=hra
   obtain⟨z1,z2⟩:qwr=0/\bwr=0:=by
     constructor
     · exact Nat.eq_of_testBit_eq fun j=>by have:=congrArg (fun x=>x.testBit j) h6;simp [Nat.testBit_or] at this;simp [this.1]
     · exact Nat.eq_of_testBit_eq fun j=>by have:=congrArg (fun x=>x.testBit j) h6;simp [Nat.testBit_or] at this;simp [this.2]
   subst z1;subst z2
   rcases hcase with ⟨he,hs⟩|⟨he,hi2⟩
   · subst he
     refine qww (vs:=[.str s,.fn g caps,.bool b]) (nm:=nmS (below (S.next+1)) (2 ^ S.next)) (lf:=s.size+1) (fr:=rfr) (e:=.ret) (k:=.i64) (i:=i) (t:=6) (S1:=rS) (rd:=qrd ||| (brd ||| mb S.next (below (S.next+1)))) (wr:=mb S.next (2 ^ S.next)) rfl hm htt hfi hcl hfr F.three ?_ (qya _) rfl F.res F.nt6 hs p hrd hv
     rw[F.body]
     simp only[icode,hA,hB,F.lm,hr,mbO,mbR,mB_S,CRes.or,Nat.zero_or]
   · subst he;subst hi2
     have hc:=runK (F.e CRes (fun t vs S kk=>ob (cl t vs S) kk) S.next (below (S.next+1)) (2 ^ S.next) (s.size+1) rfr rS some)
     refine qww (vs:=[.str s,.fn g caps,.bool b]) (nm:=nmS (below (S.next+1)) (2 ^ S.next)) (lf:=s.size+1) (fr:=rfr.set (.int .i64 (-1)) 6) (e:=.ret) (k:=.i64) (i:=-1) (t:=6) (S1:=rS) (rd:=qrd ||| ((brd ||| mb S.next (below (S.next+1))) ||| 0)) (wr:=mb S.next (2 ^ S.next)) rfl hm htt hfi hcl hfr F.three ?_ (qya _) rfl F.res F.nt6 (by rw[qb5,if_pos rfl]) p hrd hv
     rw[F.body]
     simp only[icode,hA,hB,F.lm,hr,mbO,mbR,mB_S,qj5,CRes.or,Nat.zero_or,Nat.beq_refl,cond_true,hc,qim,Nat.or_zero]
 · obtain⟨_,_,_,_,_,_,_,rfl⟩:=qn5 h
   exact FrO.same _ rfl
 · obtain⟨_,_,_,_,_,_,_,rfl⟩:=qn5 h
   rfl
end Go.Jx
end

section
namespace Go.Jx
open Go Go.Sx Go.RowKit
universe u

theorem oL:Int.ofNat 0=0/\Int.ofNat 1=1/\Int.ofNat 2=2/\Int.ofNat 3=3/\Int.ofNat 4=4/\Int.ofNat 5=5/\Int.ofNat 6=6/\Int.ofNat 7=7/\Int.ofNat 8=8/\Int.ofNat 9=9/\Int.ofNat 10=10/\Int.ofNat 12=12/\Int.ofNat 16=16/\Int.ofNat 20=20/\Int.ofNat 24=24/\Int.ofNat 30=30/\Int.ofNat 31=31/\Int.ofNat 40=40/\Int.ofNat 45=45/\Int.ofNat 48=48/\Int.ofNat 57=57/\Int.ofNat 60=60/\Int.ofNat 64=64/\Int.ofNat 65=65/\Int.ofNat 70=70/\Int.ofNat 90=90/\Int.ofNat 95=95/\Int.ofNat 97=97/\Int.ofNat 100=100/\Int.ofNat 122=122/\Int.ofNat 127=127/\Int.ofNat 128=128/\Int.ofNat 200=200/\Int.ofNat 256=256/\Int.ofNat 400=400/\Int.ofNat 410=410/\Int.ofNat 1500=1500/\Int.ofNat 60000=60000/\Int.ofNat 60010=60010/\Int.ofNat 65536=65536/\Int.ofNat 16777216=16777216/\Int.ofNat 2147483647=2147483647/\Int.ofNat 1099511627776=1099511627776 :=
 ⟨rfl,rfl,rfl,rfl,rfl,rfl,rfl,rfl,rfl,rfl,rfl,rfl,rfl,rfl,rfl,rfl,rfl,rfl,rfl,rfl,rfl,rfl,rfl,rfl,rfl,rfl,rfl,rfl,rfl,rfl,rfl,rfl,rfl,rfl,rfl,rfl,rfl,rfl,rfl,rfl,rfl,rfl,rfl⟩
theorem qbb {α:Type} {l:List α} {i:Nat}:jget l (Int.ofNat i)=l[i]?:=by unfold jget;rw[if_pos (by simp)];simp
theorem qug:∀c:TC,1<=bsz c
 | .int k=>by cases k<;>simp [bsz]
 | .bool=>by simp[bsz]
 | .str=>by simp[bsz]
 | .list _=>by simp[bsz]
 | .two a b=>by have:=qug a;simp only[bsz];omega
def LF:Nat:=9223372036854775808
theorem qvn {c:TC} {l:El (.list c)} (h:WfE (.list c) l):List.length (α:=El c) l<LF:=by
 have h1:=h.1
 have h2:=qug c
 have:List.length (α:=El c) l*1<=List.length (α:=El c) l*bsz c:=Nat.mul_le_mul_left _ h2
 unfold LF
 omega
theorem qhw {n:Nat} (h:n+1<LF):IntKind.i64.wrap (Int.add (Int.ofNat n) (Int.ofNat 1))=Int.ofNat (n+1):=by
 unfold LF at h
 rw[show Int.add (Int.ofNat n) (Int.ofNat 1)=Int.ofNat (n+1) from rfl]
 exact qas (by simp;omega)
structure Rnd {α:Type} (l:List α) (i:Nat) (v:α) (rest:List α):Prop where
 drop:l.drop i=v::rest
 mem:v∈l
 lt:i<l.length
 ilt:iltI (Int.ofNat i) (Int.ofNat l.length)=true
 get:jget l (Int.ofNat i)=some v
 get?:l[i]?=some v
 next:IntKind.i64.wrap (Int.add (Int.ofNat i) (Int.ofNat 1))=Int.ofNat (i+1)
 tail:l.drop (i+1)=rest
 take:l.take (i+1)=l.take i++[v]
theorem qa1 (n:Nat):iltI (Int.ofNat n) (Int.ofNat n)=false:=by rw[qa0];simp
theorem rnd_of {α:Type} {l:List α} {i:Nat} (h:i<l.length) (hl:l.length<LF):∃v rest,Rnd l i v rest:=by
 refine⟨l[i],l.drop (i+1),List.drop_eq_getElem_cons h,List.getElem_mem h,h,by rw[qa0];simp;omega,?_,List.getElem?_eq_getElem h,qhw (by omega),rfl,?_⟩
 · rw[qbb];exact List.getElem?_eq_getElem h
 · rw[List.take_succ_eq_append_getElem h]
theorem qtz {α σ A R:Type} {T:(A->Option R)->A->Option R} (l:List α) (mk:Int->σ->A) (I:Nat->σ->Prop) (g:List α->Nat->σ->Option R) (hl:l.length<LF)
   (hnil:∀K s,I l.length s->T K (mk (Int.ofNat l.length) s)=g [] l.length s)
   (hcons:∀K i v rest s,I i s->Rnd l i v rest->(∀s',I (i+1) s'->K (mk (Int.ofNat (i+1)) s')=g rest (i+1) s')->T K (mk (Int.ofNat i) s)=g (v::rest) i s) :
   ∀n i s,i<=l.length->I i s->l.length-i<n->rounds T n (mk (Int.ofNat i) s)=g (l.drop i) i s
 | 0,i,s,_,_,h=>by omega
 | n+1,i,s,hi,hI,h=>by
   show T (rounds T n) (mk (Int.ofNat i) s)=_
   by_cases e:i=l.length
   · subst e
     rw[hnil _ _ hI,List.drop_length]
   · obtain⟨v,rest,r⟩:=rnd_of (l:=l) (i:=i) (by omega) hl
     rw[hcons (rounds T n) i v rest s hI r fun s' hI'=>?_,r.drop]
     rw[qtz l mk I g hl hnil hcons n (i+1) s' (by have:=r.lt;omega) hI' (by omega),r.tail]
theorem range0 {α σ A R:Type} {T:(A->Option R)->A->Option R} (l:List α) (mk:Int->σ->A) (I:Nat->σ->Prop) (g:List α->Nat->σ->Option R) (hl:l.length<LF)
   (hnil:∀K s,I l.length s->T K (mk (Int.ofNat l.length) s)=g [] l.length s)
   (hcons:∀K i v rest s,I i s->Rnd l i v rest->(∀s',I (i+1) s'->K (mk (Int.ofNat (i+1)) s')=g rest (i+1) s')->T K (mk (Int.ofNat i) s)=g (v::rest) i s)
   (s:σ) (hI:I 0 s):rounds T LF (mk (Int.ofNat 0) s)=g l 0 s:=by
 have:=qtz l mk I g hl hnil hcons LF 0 s (Nat.zero_le _) hI (by omega)
 rwa [List.drop_zero] at this
theorem qdk {α R:Type} {T:(Int->Option R)->Int->Option R} (l:List α) (g:List α->Nat->Option R) (hl:l.length<LF)
   (hnil:∀K,T K (Int.ofNat l.length)=g [] l.length)
   (hcons:∀K i v rest,Rnd l i v rest->K (Int.ofNat (i+1))=g rest (i+1)->T K (Int.ofNat i)=g (v::rest) i):rounds T LF (Int.ofNat 0)=g l 0 :=
 range0 (σ:=Unit) l (fun i _=>i) (fun _ _=>True) (fun rest i _=>g rest i) hl (fun K _ _=>hnil K) (fun K i v rest _ _ r h=>hcons K i v rest r (h () trivial)) () trivial
namespace S
def idx {α:Type} (p:α->Bool) (l:List α):Int:=match l.findIdx? p with
 | some j=>Int.ofNat j
 | none=>-1
theorem idx_nonneg {α:Type} (p:α->Bool) (l:List α):0<=idx p l↔l.any p=true:=by
 unfold idx
 cases h:l.findIdx? p with
 | none =>
   simp only
   rw[List.findIdx?_eq_none_iff] at h
   constructor
   · intro h;omega
   · intro h2
     rw[List.any_eq_true] at h2
     obtain⟨x,hx,hp⟩:=h2
     rw[h x hx] at hp;cases hp
 | some j =>
   simp only
   obtain⟨h1,h2,h3⟩:=List.findIdx?_eq_some_iff_getElem.1 h
   constructor
   · intro _
     rw[List.any_eq_true]
     exact⟨_,List.getElem_mem h1,h2⟩
   · intro _;exact Int.natCast_nonneg _
end S
end Go.Jx
end

section
namespace Go.Jx
open Go Go.Sx Go.RowKit
theorem qbl (a b:Nat):iltI (Int.ofNat a) (Int.ofNat b)=decide (a<b):=by
 rw[qa0];simp
theorem qla (a b:Nat):ieqI (Int.ofNat a) (Int.ofNat b)=decide (a=b):=by
 rw[qa6]
 by_cases h:a=b
 · rw[decide_eq_true h,h];exact decide_eq_true rfl
 · rw[decide_eq_false h];exact decide_eq_false fun e=>h (Int.ofNat.inj e)
theorem ilt_t {x y:Int} (h:x<y):iltI x y=true:=by rw[qa0];exact decide_eq_true h
theorem ilt_f {x y:Int} (h:¬x<y):iltI x y=false:=by rw[qa0];exact decide_eq_false h
theorem ieq_t {x y:Int} (h:x=y):ieqI x y=true:=by rw[qa6];exact decide_eq_true h
theorem ieq_f {x y:Int} (h:¬x=y):ieqI x y=false:=by rw[qa6];exact decide_eq_false h
theorem qae (s:ByteArray):(qaa s).length=s.size:=by
 unfold qaa
 rw[List.length_map]
 exact Array.length_toList
theorem qdj {s:ByteArray} {i:Nat} (h:i<s.size):(qaa s)[i]?=some ((s[i]'h).toNat:Int):=by
 unfold qaa
 rw[List.getElem?_map,List.getElem?_eq_getElem (by simpa using h)]
 rfl
theorem qew {s:ByteArray} {b:Int} (h:b∈qaa s):0<=b/\b<256:=by
 unfold qaa at h
 obtain⟨x,_,rfl⟩:=List.mem_map.1 h
 have:=x.toNat_lt
 constructor<;>omega
theorem qct (s:ByteArray):strOf (qaa s)=s:=by
 obtain⟨⟨l⟩⟩:=s
 unfold strOf qaa
 congr 2
 simp only[List.map_map]
 conv=>rhs;rw[<- List.map_id l]
 refine List.map_congr_left fun x _=>?_
 simp
theorem qid {l:List Int} (h:∀b∈l,0<=b/\b<256):qaa (strOf l)=l:=by
 unfold strOf qaa
 simp only[List.map_map]
 conv=>rhs;rw[<- List.map_id l]
 refine List.map_congr_left fun x hx=>?_
 obtain⟨h1,h2⟩:=h x hx
 simp only[Function.comp,UInt8.toNat_ofNat',id]
 omega
theorem qpk {s t:ByteArray} (h:qaa s=qaa t):s=t:=by rw[<- qct s,<- qct t,h]
theorem qk7 (s:ByteArray) (a b:Nat):qaa (s.extract a b)=(qaa s).extract a b:=by
 unfold qaa
 rw[ByteArray.data_extract,Array.toList_extract]
 simp[List.extract_eq_take_drop,List.map_take,List.map_drop]
theorem qkp (s:ByteArray) (a b:Nat) (h:s.size<=b):qaa (s.extract a b)=(qaa s).drop a:=by
 rw[qk7,List.extract_eq_take_drop]
 refine List.take_of_length_le ?_
 rw[List.length_drop,qae];omega
theorem qha (s:ByteArray) (b:Nat):qaa (s.extract 0 b)=(qaa s).take b:=by
 rw[qk7,List.extract_eq_take_drop];rfl
theorem qva (s t:ByteArray):qaa (s++t)=qaa s++qaa t:=by
 unfold qaa
 rw[ByteArray.data_append,Array.toList_append,List.map_append]
theorem qpp (a b:ByteArray):keqS a b=decide (qaa a=qaa b):=by
 unfold keqS
 by_cases h:a=b
 · rw[decide_eq_true h,decide_eq_true (congrArg qaa h)]
 · rw[decide_eq_false h,decide_eq_false fun e=>h (qpk e)]
theorem qt3 {s:ByteArray} {q:Int->Bool} (hq:∀r,128<=r->q r=true):∀(n i:Nat),s.size-i<n->sixO (fun _ r=>some (q r)) s true n i=some (match ((qaa s).drop i).findIdx? q with|some j=>Int.ofNat (i+j)|none=>-1)
 | 0,i,h=>by omega
 | n+1,i,h=>by
   unfold sixO
   by_cases hlt:i<s.size
   · have hb:Nat.blt i s.size=true:=by simpa using hlt
     rw[hb,cond_true]
     simp only
     have hg:=qdj hlt
     have hd0:(qaa s).drop i=((s[i]'hlt).toNat:Int)::(qaa s).drop (i+1):=by
       obtain⟨h1,h2⟩:=List.getElem?_eq_some_iff.1 hg
       rw[List.drop_eq_getElem_cons h1,h2]
     rw[hd0,List.findIdx?_cons]
     by_cases ha:(s[i]'hlt).toNat<128
     · rw[decode_ascii s i hlt ha]
       simp only
       have e:q (Int.ofNat (s[i]'hlt).toNat)=q (((s[i]'hlt).toNat:Nat):Int):=rfl
       rw[e]
       cases hb2:q (((s[i]'hlt).toNat:Nat):Int) with
       | true=>rfl
       | false =>
         simp only[Bool.false_eq_true,decide_false,cond_false,if_false]
         rw[qt3 hq n (i+1) (by omega)]
         cases List.findIdx? q ((qaa s).drop (i+1)) with
         | none=>rfl
         | some j=>simp only[Option.map_some];exact congrArg (fun n=>some (Int.ofNat n)) (by omega)
     · have hd:=decode_high s i hlt (by omega)
       have e:q (Int.ofNat (Utf8.decode s i).1)=true:=hq _ (by have:=hd.1;show (128:Int)<=((Utf8.decode s i).1:Int);omega)
       rw[e,hq _ (by omega)]
       rfl
   · have hb:Nat.blt i s.size=false:=by
       cases hbb:Nat.blt i s.size with
       | false=>rfl
       | true=>exact absurd (by simpa using hbb) hlt
     rw[hb,cond_false,List.drop_eq_nil_of_le (by rw[qae];omega)]
     rfl
end Go.Jx
end

section
namespace Go.Proofs.YtanenikkloolfaaGreatDoor
open Go Go.RowKit
set_option maxHeartbeats 1000000 in
set_option maxRecDepth 100000 in
theorem q0s (s:ByteArray) (c:UInt8) (w:World) :
   Calls Tryz.prog 54 #[.string s,.string ⟨#[c]⟩] w fun e w'=>e=.returned (.int .i64 (Lib.countByte s.data.toList c))/\w'=w:=by
 go_enter Tryz.func54,Tryz.ntmps54
 go_wp2
 rw[run_callFunc_extern Tryz.func81 (by kernel_rfl) (by kernel_rfl) (by kernel_rfl) (e:=Extern.BytealgCount.count) (by kernel_rfl),Lib.run_countString]
 simp only[Result.andThen]
 rw[Oper.upon_value]
 go_wp2
 go_ret
 exact⟨rfl,rfl⟩
set_option maxHeartbeats 1000000 in
set_option maxRecDepth 100000 in
theorem q3b (s:ByteArray) (c:Int) (w:World) :
   Calls Tryz.prog 128 #[.string s,.int .u8 c] w fun e w'=>e=.returned (.int .i64 (Lib.indexByte s.data.toList c.toNat.toUInt8))/\w'=w:=by
 go_enter Tryz.func128,Tryz.ntmps128
 go_wp2
 rw[run_callFunc_extern Tryz.func138 (by kernel_rfl) (by kernel_rfl) (by kernel_rfl) (e:=Extern.BytealgIndexByte.indexByte) (by kernel_rfl),Lib.run_indexByteString]
 simp only[Result.andThen]
 rw[Oper.upon_value]
 go_wp2
 go_ret
 exact⟨rfl,rfl⟩
set_option maxHeartbeats 1000000 in
set_option maxRecDepth 100000 in
theorem cc_used (b:Nat) (w:World) (h0:w.cell? ⟨b,0,none⟩=some (.pointer (some ⟨b,0,none⟩))) :
   Calls Tryz.prog 83 #[.pointer (some ⟨b,0,none⟩)] w fun e w'=>e=.returned (.tuple #[])/\w'=w:=by
 obtain⟨j,hj,_⟩:=ty93.inf
 go_enter Tryz.func83,Tryz.ntmps83
 go_wp2
 rw[Lib.run_neq_ptr_same w _ Tryz.underlying90 hj]
 go_wp2
 go_end0
 exact⟨rfl,rfl⟩
set_option maxHeartbeats 1000000 in
set_option maxRecDepth 100000 in
theorem q3j (b:Nat) (w:World) (h0:w.cell? ⟨b,0,none⟩=some (.pointer none)) (hsh:w.shape? b=some (93,2)) (hfz:w.frozen? ⟨b,0,none⟩=false) :
   Calls Tryz.prog 83 #[.pointer (some ⟨b,0,none⟩)] w fun e w'=>e=.returned (.tuple #[])/\w'=w.setCell ⟨b,0,none⟩ (.pointer (some ⟨b,0,none⟩)):=by
 obtain⟨j,hj,hjs,_⟩:=ty93.inf
 go_enter Tryz.func83,Tryz.ntmps83
 go_wp2
 rw[Lib.run_to_unsafe w ⟨b,0,none⟩ Tryz.underlying90 Tryz.underlying147 hj (by rw[hjs];decide) hsh (Nat.zero_lt_succ 1)]
 simp only[Result.andThen]
 rw[Oper.upon_value]
 go_wp2
 rw[run_callFunc_extern Tryz.func111 (by kernel_rfl) (by kernel_rfl) (by kernel_rfl) (e:=Extern.AbiNoEscape.same) (by kernel_rfl)]
 rw[Lib.run_noEscape]
 simp only[Result.andThen]
 rw[Oper.upon_value]
 go_wp2
 rw[Lib.run_from_unsafe w ⟨b,0,none⟩ Tryz.underlying147 Tryz.underlying90 hj hsh (by kernel_rfl)]
 simp only[Result.andThen]
 rw[Oper.upon_value]
 go_wp2
 go_end0
 exact⟨rfl,rfl⟩
end Go.Proofs.YtanenikkloolfaaGreatDoor
end

section
namespace Go.Proofs.YtanenikkloolfaaGreatDoor
open Go Go.RowKit
set_option maxHeartbeats 2000000 in
set_option maxRecDepth 100000 in
theorem bs_nil (b:Nat) (p:Value) (w:World) (hbk:w.heap[b]?=some (.cells #[p,.slice none 0 0] 93 (0,0))) :
   Calls Tryz.prog 57 #[.pointer (some ⟨b,0,none⟩)] w fun e w'=>e=.returned (.string ⟨#[]⟩)/\w'=w.drew:=by
 have hUS:∀(W:World) (q:Option Addr),(Builtin.unsafeString_ #[134,3] 9 #[.pointer q,.int .i64 0]).run Tryz.prog W=.ok (.string .empty) W:=fun W q=>Lib.run_unsafeString_none W _ _ _ q
 have c1:w.drew.cell? ⟨b,1,none⟩=some (.slice none 0 0):=by
   have:w.drew.heap[b]?=some (.cells #[p,.slice none 0 0] 93 (0,0)):=hbk
   rw[Lib.cell_of_heap this];rfl
 have hSD:(Builtin.unsafeSliceData_ #[91] 134 #[.slice none 0 0]).run Tryz.prog w.drew=.ok (.pointer none) w.drew:=rfl
 have mixed:Tryz.prog.follows Departure.mixedOrders=true:=mixed
 go_enter Tryz.func57,Tryz.ntmps57
 go_wp2
 go_region_o
 all_goals (go_wp2;go_ret;exact⟨rfl,rfl⟩)
end Go.Proofs.YtanenikkloolfaaGreatDoor
end

section
namespace Go.Proofs.YtanenikkloolfaaGreatDoor
open Go Go.RowKit
set_option maxHeartbeats 2000000 in
set_option maxRecDepth 100000 in
theorem q01 (b g:Nat) (p:Value) (cur:Array Value) (w:World) (hbk:w.heap[b]?=some (.cells #[p,.slice (some ⟨g,0,none⟩) 0 0] 93 (0,0))) (hg:w.heap[g]?=some (.cells cur 5 (0,0))) :
   Calls Tryz.prog 57 #[.pointer (some ⟨b,0,none⟩)] w fun e w'=>e=.returned (.string ⟨#[]⟩)/\w'=w.drew.alloc (.view ⟨g,0,none⟩ 5):=by
 have hUS:∀(W:World) (q:Option Addr),(Builtin.unsafeString_ #[134,3] 9 #[.pointer q,.int .i64 0]).run Tryz.prog W=.ok (.string .empty) W:=fun W q=>Lib.run_unsafeString_none W _ _ _ q
 have hlt:b<w.heap.size:=by
   rcases Nat.lt_or_ge b w.heap.size with h'|h'
   · exact h'
   · simp[Array.getElem?_eq_none h'] at hbk
 have c1:w.drew.cell? ⟨b,1,none⟩=some (.slice (some ⟨g,0,none⟩) 0 0):=by
   have:w.drew.heap[b]?=some (.cells #[p,.slice (some ⟨g,0,none⟩) 0 0] 93 (0,0)):=hbk
   rw[Lib.cell_of_heap this];rfl
 have hSD:(Builtin.unsafeSliceData_ #[91] 134 #[.slice (some ⟨g,0,none⟩) 0 0]).run Tryz.prog w.drew=.ok (.pointer (some ⟨w.drew.heap.size,0,none⟩)) (w.drew.alloc (.view ⟨g,0,none⟩ 5)) :=
   Lib.run_unsafeSliceData_zero w.drew _ _ 5 Tryz.underlying134 ⟨g,0,none⟩ 0 (5,cur.size) (by have hg':w.drew.heap[g]?=some (.cells cur 5 (0,0)):=hg;simp [World.shape?,hg'])
 have c2:(w.drew.alloc (.view ⟨g,0,none⟩ 5)).cell? ⟨b,1,none⟩=some (.slice (some ⟨g,0,none⟩) 0 0):=by
   have:(w.drew.alloc (.view ⟨g,0,none⟩ 5)).heap[b]?=_:=(Lib.alloc_old w.drew _ b hlt).trans hbk
   rw[Lib.cell_of_heap this];rfl
 have c3:(w.alloc (.view ⟨g,0,none⟩ 5)).drew.cell? ⟨b,1,none⟩=some (.slice (some ⟨g,0,none⟩) 0 0):=c2
 have c0:w.cell? ⟨b,1,none⟩=some (.slice (some ⟨g,0,none⟩) 0 0):=c1
 have mixed:Tryz.prog.follows Departure.mixedOrders=true:=mixed
 go_enter Tryz.func57,Tryz.ntmps57
 go_wp2
 go_region_o
 all_goals (go_wp2;go_ret;exact⟨rfl,rfl⟩)
end Go.Proofs.YtanenikkloolfaaGreatDoor
end

section
namespace Go.Proofs.YtanenikkloolfaaGreatDoor
open Go Go.RowKit
set_option maxHeartbeats 2000000 in
set_option maxRecDepth 100000 in
theorem bs_room (b g cap:Nat) (p:Value) (w:World) (hc0:cap≠0) (hbk:w.heap[b]?=some (.cells #[p,.slice (some ⟨g,0,none⟩) 0 cap] 93 (0,0))) :
   Calls Tryz.prog 57 #[.pointer (some ⟨b,0,none⟩)] w fun e w'=>e=.returned (.string ⟨#[]⟩)/\w'=w.drew:=by
 have hUS:∀(W:World) (q:Option Addr),(Builtin.unsafeString_ #[134,3] 9 #[.pointer q,.int .i64 0]).run Tryz.prog W=.ok (.string .empty) W:=fun W q=>Lib.run_unsafeString_none W _ _ _ q
 have c1:w.drew.cell? ⟨b,1,none⟩=some (.slice (some ⟨g,0,none⟩) 0 cap):=by
   have:w.drew.heap[b]?=some (.cells #[p,.slice (some ⟨g,0,none⟩) 0 cap] 93 (0,0)):=hbk
   rw[Lib.cell_of_heap this];rfl
 have hSD:(Builtin.unsafeSliceData_ #[91] 134 #[.slice (some ⟨g,0,none⟩) 0 cap]).run Tryz.prog w.drew=.ok (.pointer (some ⟨g,0,none⟩)) w.drew :=
   Lib.run_unsafeSliceData_row _ _ _ _ _ _ hc0
 clear hc0
 have mixed:Tryz.prog.follows Departure.mixedOrders=true:=mixed
 go_enter Tryz.func57,Tryz.ntmps57
 go_wp2
 go_region_o
 all_goals (go_wp2;go_ret;exact⟨rfl,rfl⟩)
end Go.Proofs.YtanenikkloolfaaGreatDoor
end

section
namespace Go.Proofs.YtanenikkloolfaaGreatDoor
open Go Go.RowKit
set_option maxHeartbeats 2000000 in
set_option maxRecDepth 100000 in
theorem q3s (b g cap:Nat) (p:Value) (cur:Array Value) (l:List UInt8) (w:World) (h0:l≠[]) (hcap:l.length<=cap) (h63:cap<9223372036854775808) (hcs:cap<=cur.size) (hbk:w.heap[b]?=some (.cells #[p,.slice (some ⟨g,0,none⟩) l.length cap] 93 (0,0))) (hg:w.heap[g]?=some (.cells cur 5 (0,0)))
   (hcur:∀(j:Nat) (x:UInt8),l[j]?=some x->cur[j]?=some (Value.int .u8 x.toNat)) :
   Calls Tryz.prog 57 #[.pointer (some ⟨b,0,none⟩)] w fun e w'=>e=.returned (.string ⟨l.toArray⟩)/\w'=w.drew.freeze ⟨g,0,none⟩ l.length:=by
 have hl0:l.length≠0:=by simpa using h0
 have c1:w.drew.cell? ⟨b,1,none⟩=some (.slice (some ⟨g,0,none⟩) l.length cap):=by
   have:w.drew.heap[b]?=some (.cells #[p,.slice (some ⟨g,0,none⟩) l.length cap] 93 (0,0)):=hbk
   rw[Lib.cell_of_heap this];rfl
 have hSD:(Builtin.unsafeSliceData_ #[91] 134 #[.slice (some ⟨g,0,none⟩) l.length cap]).run Tryz.prog w.drew=.ok (.pointer (some ⟨g,0,none⟩)) w.drew :=
   Lib.run_unsafeSliceData_row _ _ _ _ _ _ (by omega)
 have hUS:(Builtin.unsafeString_ #[134,3] 9 #[.pointer (some ⟨g,0,none⟩),.int .i64 l.length]).run Tryz.prog w.drew=.ok (.string ⟨l.toArray⟩) (w.drew.freeze ⟨g,0,none⟩ l.length):=by
   refine Lib.run_unsafeString_row w.drew 134 3 9 5 Tryz.underlying134 (by kernel_rfl) g cur.size (by have hg':w.drew.heap[g]?=some (.cells cur 5 (0,0)):=hg;simp [World.shape?,hg']) l h0 (by omega) (by omega) ?_
   intro j x hx
   have hg':w.drew.heap[g]?=some (.cells cur 5 (0,0)):=hg
   have e:(⟨g,0,none⟩:Addr).add j=⟨g,j,none⟩:=by simp[Addr.add];omega
   rw[e,Lib.cell_of_heap hg']
   exact hcur j x hx
 clear hcap h63 hcs hcur hl0
 have mixed:Tryz.prog.follows Departure.mixedOrders=true:=mixed
 go_enter Tryz.func57,Tryz.ntmps57
 go_wp2
 go_region_o
 all_goals (go_wp2;go_ret;exact⟨rfl,rfl⟩)
end Go.Proofs.YtanenikkloolfaaGreatDoor
end

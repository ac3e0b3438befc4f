/- Texts: Kca, Kcb, Kcc, Kcd, Kma, Jiu, Jcs, Kri, Kgb, Kga, Kpi, Kpk, Kl6. -/
import Derived.Test.YtnhmanoiolfapaaGreatMd5
import Derived.Test.YtnhmanoiolfapaaGreatMd4
import Derived.Laws.IdiomRangeMap
import Derived.Test.YtnhmanoiolfapaaGreatMd3
set_option linter.unusedVariables false
section
set_option maxRecDepth 100000
namespace Go.Sx
open Go Go.RowKit
def Gr(w w':World):Prop:=∃q os',w'=Sort.grow (w.drewN q) os'
theorem Gr.refl(w:World):Gr w w:=⟨0,#[],by simp[World.drewN]⟩
theorem Gr.trans{a b c:World}(h:Gr a b)(k:Gr b c):Gr a c:=by
 obtain⟨q,os,rfl⟩:=h;obtain⟨q',os',rfl⟩:=k;exact⟨q+q',os++os',by simp[Sort.grow,World.drewN,Array.append_assoc,jc2]⟩
theorem Gr.push(w:World)(o:Obj):Gr w { w with heap:=w.heap.push o }:=⟨0,#[o],by simp[Sort.grow,World.drewN]⟩
theorem Gr.drew(w:World):Gr w { w with drawn:=w.drawn+1 }:=⟨1,#[],by
 unfold Sort.grow World.drewN;simp only[Array.append_empty]⟩
theorem Gr.upd{w w':World}(h:Gr w w'):Upd [] w w':=by
 obtain⟨q,os,rfl⟩:=h;refine⟨rfl,rfl,rfl,by simp[Sort.grow,World.drewN],fun b hb _=>?_⟩;show (w.heap++os)[b]?=_;rw[jeg hb]
theorem Upd.old_upd{w w2 w3:World}{g:Nat}(h:Upd [] w w2)(k:Upd [g] w2 w3)(hg:w.heap.size<=g):Upd [] w w3 :=
 ⟨k.os.trans h.os,k.tape.trans h.tape,k.output.trans h.output,jbl h.size k.size,fun x hx hn=>(k.same x (jbi hx h.size) (by simp;omega)).trans (h.same x hx hn)⟩
theorem Upd.tr0{w w':World}(h:Upd [] w w'):Tr [] w [] w':=⟨fun b hb _=>⟨by simp,h.same b hb (by simp)⟩⟩
theorem Upd.cell{w w':World}(u:Upd [] w w'){a:Addr}{v:Value}(h:w.cell? a=some v):w'.cell? a=some v:=by
 have:a.block<w.heap.size:=by
  unfold World.cell? at h;split at h
  ·rename_i h';exact qar h'
  ·cases h
 unfold World.cell? at h ⊢;rw[u.same _ this (by simp)];exact h
section
variable {P : Program} {n : Nat} {σ : Nat -> Value} {w : World} {ops : Array Oper} {rest : List Oper} {d : Nat} {op : Op} {ty : TypeId} {pos : String} {aft : Array Edge} {g : Option (Nat × Bool)} {T : TypeId} {x : Operand} {C : World -> Prop} {Qp : Act -> Prop}
theorem qw3{Q:Exit->Act->World->Prop}{v:Value}{zs:List Value}(hg:qao ops σ n g=true)(hx:okO n x=true)(ex:ev σ x=v)(hz:v.cells.toList=zs)
  (k:∀β w',w.heap.size=β->Gr w w'->w'.heap.size=β+1->Box w' β zs->wpList P ops Q rest (Fr n (upd σ d (.pointer (some ⟨β,0,none⟩)))) w'):wpList P ops Q (⟨some d,.box T x,ty,pos,aft,g⟩::rest) (Fr n σ) w:=by
 subst hz;refine qbd (w':={ w with heap:=w.heap.push (.cells v.cells T) }) hg ?_ (k _ _ rfl (Gr.push _ _) (by simp) (by simpa using Box.push w v.cells.toList T));simp only[execOp,qas hx,ex,Instr.box,jag,jab,jaf,newVar,newRow];rfl
theorem qk9{v:Value}(hp:qi3 op=true)(hd:Nat.blt d n=true)(hg:qao ops σ n g=true)
  (h:∀w1,C w1->wpList P ops (QOne n σ d v w1) [⟨some d,op,ty,pos,aft,g⟩] (Fr n σ) w1)
  (k:wpQuiet P ops C Qp rest (Fr n (upd σ d v))):wpQuiet P ops C Qp (⟨some d,op,ty,pos,aft,g⟩::rest) (Fr n σ):=by
 have hd':d<n:=by simpa using hd
 refine wpQuiet_step fun K hK=>?_;rw[qfo (o:=⟨some d,op,ty,pos,aft,g⟩) hg,jao rfl];refine⟨v,fun w1 hw1=>?_,by show K ((Fr n σ).put (some d) v);rw[qeb];exact hK _ k⟩;have h1:=h w1 hw1;unfold wpList at h1;rw[qfo (o:=⟨some d,op,ty,pos,aft,g⟩) hg,jao rfl] at h1;rcases h1 with h1|⟨_,a,w',h1,_⟩
 ·unfold Oper.quietAt;unfold Oper.wp at h1;cases hr:(execOp (Fr n σ).eval ⟨some d,op,ty,pos,aft,g⟩).run P w1 with
  | ok x w' =>
   rw[hr] at h1;cases x with
   | value u =>
    rw[Oper.upon_value,qeb] at h1;obtain⟨_,h2,h3⟩:=h1;exact⟨h3,qxb hd' h2⟩
   | skip =>
    rw[Oper.upon_skip,qeb] at h1;obtain⟨_,h2,h3⟩:=h1;exact⟨h3,(qxb hd' h2).symm⟩
   | _=>obtain⟨u,hu⟩:=qw0 hp hr;cases hu
  | halt x w'=>rw[hr] at h1;cases x<;>first|exact h1.elim|(obtain⟨h2,_⟩:=h1;cases h2)
 ·cases h1
theorem z0b{f:Nat}{l:List Operand}{args:List Value}{ts:Array TypeId}{v:Value}(hF:qaf P f)(hg:qao ops σ n g=true)(hx:okOs n l=true)(ea:evs σ l=args)
  (hc:∀w1,C w1->Calls P f args.toArray w1 (Ret fun v' w'=>v'=v/\C w'))
  (k:wpQuiet P ops C Qp rest (Fr n (upd σ d v))):wpQuiet P ops C Qp (⟨some d,.call ⟨.value (.func f),l.toArray,ts⟩,ty,pos,aft,g⟩::rest) (Fr n σ):=by
 refine wpQuiet_step fun K hK=>?_;rw[qfo (o:=⟨some d,_,ty,pos,aft,g⟩) hg,jao rfl];refine⟨v,fun w1 hw1=>?_,by show K ((Fr n σ).put (some d) v);rw[qeb];exact hK _ k⟩;have hr:(execOp (Fr n σ).eval ⟨some d,.call ⟨.value (.func f),l.toArray,ts⟩,ty,pos,aft,g⟩).run P w1=.ok (.enter f args.toArray) w1:=by
  obtain⟨fn,hf,hb,hn⟩:=hF;have hb':fn.body.isNone=false:=by cases h:fn.body<;>simp [h] at hb ⊢
  simp only[execOp,resolve,Act.eval,Deferred.ofValue,invoke,callFunc,qol hx,ea,jag,jaf,jab,jem,hf,hb',hn,jbb,jbw];simp
 unfold Oper.quietAt;rw[hr];refine⟨rfl,(hc w1 hw1).mono fun e w' he=>?_⟩;cases e with
 | returned v'=>obtain⟨h1,h2⟩:=he;exact⟨by rw[h1],h2⟩
 | _=>exact he.elim
theorem zc5{f:Nat}{xo:Operand}{caps:Array Value}{l:List Operand}{args:List Value}{ts:Array TypeId}{v:Value}(hF:qaf P f)(hg:qao ops σ n g=true)(hx:(okO n xo&&okOs n l)=true)(ef:ev σ xo=.func (.func f) #[] caps)(ea:evs σ l++caps.toList=args)
  (hc:∀w1,C w1->Calls P f args.toArray w1 (Ret fun v' w'=>v'=v/\C w'))
  (k:wpQuiet P ops C Qp rest (Fr n (upd σ d v))):wpQuiet P ops C Qp (⟨some d,.call ⟨.value xo,l.toArray,ts⟩,ty,pos,aft,g⟩::rest) (Fr n σ):=by
 simp only[jae] at hx;refine wpQuiet_step fun K hK=>?_;rw[qfo (o:=⟨some d,_,ty,pos,aft,g⟩) hg,jao rfl];refine⟨v,fun w1 hw1=>?_,by show K ((Fr n σ).put (some d) v);rw[qeb];exact hK _ k⟩;have hr:(execOp (Fr n σ).eval ⟨some d,.call ⟨.value xo,l.toArray,ts⟩,ty,pos,aft,g⟩).run P w1=.ok (.enter f args.toArray) w1:=by
  obtain⟨fn,hf,hb,hn⟩:=hF;have hb':fn.body.isNone=false:=by cases h:fn.body<;>simp [h] at hb ⊢
  simp only[execOp,resolve,qas hx.1,ef,Deferred.ofValue,invoke,callFunc,qol hx.2,<- ea,jag,jaf,jab,jem,hf,hb',hn,jbb,jbw];simp
 unfold Oper.quietAt;rw[hr];refine⟨rfl,(hc w1 hw1).mono fun e w' he=>?_⟩;cases e with
 | returned v'=>obtain⟨h1,h2⟩:=he;exact⟨by rw[h1],h2⟩
 | _=>exact he.elim
end
end Go.Sx
namespace Go.Proofs.YtnhmanoiolfapaaGreat
open Go Go.Sx Go.RowKit Go.Sort Go.Shelf
theorem q57:qaf Tryz.prog 130:=⟨_,Tryz.func130,by kernel_rfl,by kernel_rfl⟩
theorem zp1:Fld Tryz.prog 92 0 0:=Fld.mk (F := ⟨"Key", 3,0, false, "", "", 0⟩) ty92 rfl ty3
def cmpI(a b:Int):Int:=if a<b then -1 else if b<a then 1 else 0
section
attribute [local irreducible] Go.wpList Go.wpQuiet Go.Code.wp
theorem q9p(a:Int)(w:World):Calls Tryz.prog 130 #[.int .i64 a] w (Ret fun v w'=>v=.bool false/\Gr w w'):=by
 refine(enter (l:=[.int .i64 a]) Tryz.func130 rfl Tryz.ntmps130 rfl ?_);refine qak fun K1 hK1=>?_;refine qau ?_;refine qa6 (v:=.bool false) rfl rfl rfl ?_;refine jbf ?_;refine hK1 _ _ ?_;refine qak fun K2 hK2=>?_;refine qau ?_;refine qaw (v:=.int .i64 a) rfl rfl rfl ?_;refine qaw (v:=.int .i64 a) rfl rfl rfl ?_;refine za2 rfl rfl rfl rfl ?_;refine qa6 (v:=.bool false) rfl rfl (jav Value.bool (jal (fun h=>h rfl))) ?_;refine jbf ?_;refine hK2 _ _ ?_;refine je8 ?_;exact ret1 Tryz.results130 rfl ⟨rfl,Gr.refl w⟩
theorem z0v(a b:Int)(w:World):Calls Tryz.prog 125 #[.int .i64 a,.int .i64 b] w (Ret fun v w'=>v=.int .i64 (cmpI a b)/\Gr w w'):=by
 refine(enter (l:=[.int .i64 a,.int .i64 b]) Tryz.func125 rfl Tryz.ntmps125 rfl ?_);refine qak fun K1 hK1=>?_;refine qau ?_;refine qa6 (v:=.int .i64 0) rfl rfl rfl ?_;refine jbf ?_;refine hK1 _ _ ?_;refine qak fun K2 hK2=>?_;refine qau ?_;refine qaw (v:=.int .i64 a) rfl rfl rfl ?_;refine qgs (l:=[.tmp 7]) (args:=[.int .i64 a]) q57 rfl rfl rfl (q9p a w) ?_;rintro _ w1 ⟨rfl,g1⟩;refine qa6 (v:=.bool false) rfl rfl rfl ?_;refine jbf ?_;refine hK2 _ _ ?_;refine qak fun K3 hK3=>?_;refine qau ?_;refine qaw (v:=.int .i64 b) rfl rfl rfl ?_;refine qgs (l:=[.tmp 9]) (args:=[.int .i64 b]) q57 rfl rfl rfl (q9p b w1) ?_;rintro _ w2 ⟨rfl,g2⟩;refine qa6 (v:=.bool false) rfl rfl rfl ?_;refine jbf ?_;refine hK3 _ _ ?_;refine qak fun K4 hK4=>?_;refine qak fun K5 hK5=>?_;refine qau ?_;refine qaw (v:=.bool false) rfl rfl rfl ?_;refine jbf ?_;refine hK5 _ _ ?_;refine qm5 rfl rfl ?_;refine je6 ?_;refine hK4 _ _ ?_;refine qak fun K6 hK6=>?_;refine qak fun K7 hK7=>?_;refine qau ?_;refine qaw (v:=.bool false) rfl rfl rfl ?_;refine jbf ?_;refine hK7 _ _ ?_;refine qm5 rfl rfl ?_;refine je6 ?_;refine hK6 _ _ ?_;refine qak fun K8 hK8=>?_;refine qak fun K9 hK9=>?_;refine qau ?_;refine qaw (v:=.int .i64 a) rfl rfl rfl ?_;refine qaw (v:=.int .i64 b) rfl rfl rfl ?_;refine q0m rfl rfl rfl rfl ?_;refine jbf ?_;refine hK9 _ _ ?_;refine c_if rfl rfl (fun h=>?_) (fun h=>?_)
 ·refine qak fun KA hKA=>?_;refine qau ?_;refine qa6 (v:=.int .i64 (-1)) rfl rfl rfl ?_;refine jbf ?_;refine hKA _ _ ?_;refine je8 ?_;exact ret1 Tryz.results125 rfl ⟨by unfold cmpI;rw[jao h];rfl,g1.trans g2⟩
 refine je6 ?_;refine hK8 _ _ ?_;refine qak fun KB hKB=>?_;refine qak fun KC hKC=>?_;refine qau ?_;refine qaw (v:=.int .i64 a) rfl rfl rfl ?_;refine qaw (v:=.int .i64 b) rfl rfl rfl ?_;refine qpu rfl rfl rfl rfl ?_;refine jbf ?_;refine hKC _ _ ?_;refine c_if rfl rfl (fun h2=>?_) (fun h2=>?_)
 ·refine qak fun KA hKA=>?_;refine qau ?_;refine qa6 (v:=.int .i64 1) rfl rfl rfl ?_;refine jbf ?_;refine hKA _ _ ?_;refine je8 ?_;exact ret1 Tryz.results125 rfl ⟨by unfold cmpI;rw[jan h,jao h2];rfl,g1.trans g2⟩
 refine je6 ?_;refine hKB _ _ ?_;refine qak fun KD hKD=>?_;refine qau ?_;refine qa6 (v:=.int .i64 0) rfl rfl rfl ?_;refine jbf ?_;refine hKD _ _ ?_;refine je8 ?_;exact ret1 Tryz.results125 rfl ⟨by unfold cmpI;rw[jan h,jan h2];rfl,g1.trans g2⟩
theorem q3u(x:Int × ByteArray × Bool)(w:World):Calls Tryz.prog 115 #[.agg (encC x).toArray] w (Ret fun v w'=>v=.int .i64 x.1/\Gr w w'):=by
 refine(enter (l:=[.agg (encC x).toArray]) Tryz.func115 rfl Tryz.ntmps115 rfl ?_);refine qak fun K1 hK1=>?_;refine qau ?_;refine qw3 (v:=.agg (encC x).toArray) (zs:=encC x) rfl rfl rfl rfl fun β w1 hβ g1 hz1 hx1=>?_;refine qa6 (v:=.int .i64 0) rfl rfl rfl ?_;refine jbf ?_;refine hK1 _ _ ?_;refine qak fun K2 hK2=>?_;refine qau ?_;refine qt7 zp1 rfl rfl rfl ?_;refine qg1 (v:=.int .i64 x.1) ty3 rfl rfl rfl rfl hx1 rfl ?_;refine qa6 (v:=.int .i64 x.1) rfl rfl rfl ?_;refine jbf ?_;refine hK2 _ _ ?_;refine je8 ?_;exact ret1 Tryz.results115 rfl ⟨rfl,g1⟩
theorem zmj(x y:Int × ByteArray × Bool){b:Nat}{w:World}(hb:w.cell? ⟨b,0,none⟩=some (.func (.func 115) #[] #[])) :
  Calls Tryz.prog 124 #[.agg (encC x).toArray,.agg (encC y).toArray,.pointer (some ⟨b,0,none⟩)] w (Ret fun v w'=>v=.int .i64 (cmpI x.1 y.1)/\Gr w w'):=by
 refine(enter (l:=[.agg (encC x).toArray,.agg (encC y).toArray,.pointer (some ⟨b,0,none⟩)]) Tryz.func124 rfl Tryz.ntmps124 rfl ?_);refine qak fun K1 hK1=>?_;refine qau ?_;refine qw3 (v:=.agg (encC x).toArray) (zs:=encC x) rfl rfl rfl rfl fun β1 w1 hβ1 g1 hz1 hx1=>?_;refine qw3 (v:=.agg (encC y).toArray) (zs:=encC y) rfl rfl rfl rfl fun β2 w2 hβ2 g2 hz2 hx2=>?_;refine qa6 (v:=.int .i64 0) rfl rfl rfl ?_;refine jbf ?_;refine hK1 _ _ ?_;have hx1':=hx1.mono0 g2.upd;have hb2:=(g1.trans g2).upd.cell hb;refine qak fun K2 hK2=>?_;refine wp_region_quiet (C:=Gr w2) mixed (by kernel_rfl) (Gr.drew w2) ?_;refine qk9 (v:=.func (.func 115) #[] #[]) rfl rfl rfl (fun wq gq=>qrb qu5 rfl rfl rfl rfl (gq.upd.cell hb2) q1) ?_;refine qk9 (v:=.agg (encC x).toArray) rfl rfl rfl (fun wq gq=>qul (ds:=encC x) ty92 rfl rfl rfl rfl (hx1'.mono0 gq.upd) rfl rfl q1) ?_;refine zc5 (f:=115) (l:=[.tmp 7]) (args:=[.agg (encC x).toArray]) (v:=.int .i64 x.1) q8v rfl rfl rfl rfl (fun wq gq=>(q3u x wq).mono fun e w' h=>by
  cases e with
  | returned v=>exact⟨h.1,gq.trans h.2⟩
  | _=>exact h.elim) ?_
 refine qk9 (v:=.func (.func 115) #[] #[]) rfl rfl rfl (fun wq gq=>qrb qu5 rfl rfl rfl rfl (gq.upd.cell hb2) q1) ?_;refine qk9 (v:=.agg (encC y).toArray) rfl rfl rfl (fun wq gq=>qul (ds:=encC y) ty92 rfl rfl rfl rfl (hx2.mono0 gq.upd) rfl rfl q1) ?_;refine zc5 (f:=115) (l:=[.tmp 10]) (args:=[.agg (encC y).toArray]) (v:=.int .i64 y.1) q8v rfl rfl rfl rfl (fun wq gq=>(q3u y wq).mono fun e w' h=>by
  cases e with
  | returned v=>exact⟨h.1,gq.trans h.2⟩
  | _=>exact h.elim) ?_
 refine z0b (f:=125) (l:=[.tmp 8,.tmp 11]) (args:=[.int .i64 x.1,.int .i64 y.1]) (v:=.int .i64 (cmpI x.1 y.1)) zft rfl rfl rfl (fun wq gq=>(z0v x.1 y.1 wq).mono fun e w' h=>by
  cases e with
  | returned v=>exact⟨h.1,gq.trans h.2⟩
  | _=>exact h.elim) ?_
 refine qk9 (v:=.int .i64 (cmpI x.1 y.1)) rfl rfl rfl (fun wq gq=>qa6 (v:=.int .i64 (cmpI x.1 y.1)) rfl rfl rfl q1) ?_;refine wpQuiet_nil fun w3 g3=>?_;refine hK2 _ _ ?_;refine je8 ?_;exact ret1 Tryz.results124 rfl ⟨rfl,(g1.trans g2).trans g3⟩
end
end Go.Proofs.YtnhmanoiolfapaaGreat
end

section
set_option maxRecDepth 100000
namespace Go.Proofs.YtnhmanoiolfapaaGreat
open Go Go.Sx Go.RowKit Go.Sort Go.Shelf
abbrev DC:Type:=Int × ByteArray × Bool
instance:Dat DC where
 sz:=3
 enc _ _ cs x:=cs=encC x
 len h:=by rw[h];rfl
 mono h _:=h
 ones h:=by rw[h];rfl
theorem zl8{w:World}{a:Option Addr}{cap:Nat}{l:List DC}(hS:SL [] w a cap l)(hl:l.length<=1000):Calls Tryz.prog 122 #[.slice a l.length cap] w (Ret fun v w'=>∃a' c' m',v=.slice a' l.length c'/\Go.Sx.Own m' [] w' a' c' l/\Evo [] w m' w'):=by
 have hM:Lo [] w:=fun b hb=>by cases hb
 refine enter (l:=[.slice a l.length cap]) Tryz.func122 rfl Tryz.ntmps122 rfl ?_;refine qak fun KhK1 hK1=>?_;refine qau ?_;refine qa6 (v:=.slice none 0 0) rfl rfl rfl ?_;refine jbf ?_;refine hK1 _ _ ?_;refine qak fun KhK2 hK2=>?_;refine qak fun KhK3 hK3=>?_;refine qau ?_;refine qaw (v:=.slice a l.length cap) rfl rfl rfl ?_;refine quk ty35 rfl rfl rfl rfl ?_;refine jbf ?_;refine hK3 _ _ ?_;refine qq7 rfl rfl (fun hb4=>?_) (fun hb4=>?_)
 ·obtain rfl:=hS.isNone hb4;refine qak fun KhK5 hK5=>?_;refine qau ?_;refine qa6 (v:=.slice none 0 0) rfl rfl rfl ?_;refine jbf ?_;refine hK5 _ _ ?_;refine je8 ?_;exact ret1 Tryz.results122 rfl ⟨none,0,[],rfl,Go.Sx.Own.nil,Evo.refl [] w⟩
 ·refine je6 ?_;refine hK2 _ _ ?_;refine qak fun KhK7 hK7=>?_;refine qau ?_;refine qxm (α:=DC) (m:=[]) (M:=[]) ty35 ty92 rfl (hM.mono (Evo.refl [] w).size) fun β14 w15 hβ16 u17 hz18 ho19=>?_;have e20:=u17.evoN (m:=[]) hβ16 hz18;refine qaw (v:=.slice a l.length cap) rfl rfl rfl ?_;refine qr7 (l:=([]:List DC)) ty35 ty35 ty92 rfl rfl rfl rfl rfl rfl rfl ho19 (hS.mono (e20.tr [])) (hM.mono e20.size) (by show (0+l.length)*32<=140737488355328;omega) fun a22 c23 w24 m25 ho26 e27 u28 hbk29 hsub30=>?_;refine qa6 (v:=.slice a22 (([]:List DC)++l).length c23) rfl rfl rfl ?_;refine jbf ?_;refine hK7 _ _ ?_;refine je8 ?_;exact ret1 Tryz.results122 rfl ⟨a22,c23,m25,rfl,ho26,e20.trans e27⟩
theorem zmi{w:World}{g off n:Nat}{d:Array DC}{os:Array Obj}:Upd [g] w (sortWorldK encC 3 w g off n d os):=by
 refine⟨rfl,rfl,rfl,?_,fun b hb hn=>?_⟩
 ·show w.heap.size<=((w.heap.modify g _)++os).size;simp
 ·show ((w.heap.modify g _)++os)[b]?=_;rw[jeg (by simpa using hb),jdc,jan (by simp at hn;omega)]
theorem zqf:SWO (ltOf fun x y:DC=>cmpI x.1 y.1):=by
 have e:∀x y:DC,ltOf (fun x y:DC=>cmpI x.1 y.1) x y=decide (x.1<y.1):=fun x y=>by
  unfold ltOf cmpI;by_cases h1:x.1<y.1
  ·simp[h1]
  ·by_cases h2:y.1<x.1<;>simp [h1,h2]
 refine⟨fun x=>?_,fun x y z h1 h2=>?_,fun x y z h1 h2=>?_⟩
 ·rw[e];simp
 ·rw[e] at *;simp only[jcg] at *;omega
 ·rw[e] at *;simp only[jev] at *;omega
def RowC(b0:Nat)(w:World)(a:Option Addr)(cap:Nat)(l:List DC):Prop :=
 (l.length<=cap/\cap<9223372036854775808)/\(l=[]\/∃g,a=some ⟨g,0,none⟩/\b0<=g/\∀i (h:i<l.length) j,j<3->w.cell? ⟨g,i*3+j,none⟩=(encC l[i])[j]?)
def qqc(l:List DC):Prop:=∀(i j:Nat) (hi:i<l.length) (hj:j<l.length),i<j->¬(l[j]).1<(l[i]).1
section
attribute [local irreducible] Go.wpList Go.wpQuiet Go.Code.wp
theorem zus{w:World}{a:Option Addr}{cap:Nat}{l:List DC}(hS:SL [] w a cap l)(hl:l.length<=1000) :
  Calls Tryz.prog 114 #[.slice a l.length cap,.func (.func 115) #[] #[]] w (Ret fun v w'=>∃a' c' l',v=.slice a' l'.length c'/\(List.Perm l' l/\qqc l')/\RowC w.heap.size w' a' c' l'/\Upd [] w w'):=by
 refine enter (l:=[.slice a l.length cap,.func (.func 115) #[] #[]]) Tryz.func114 rfl Tryz.ntmps114 rfl ?_;refine qak fun K1 hK1=>?_;refine qau ?_;refine zv4 (v:=.func (.func 115) #[] #[]) (zs:=[.func (.func 115) #[] #[]]) rfl rfl rfl rfl fun βt w1 hβ1 u1 hz1 hx1=>?_;refine qa6 (v:=.slice none 0 0) rfl rfl rfl ?_;refine jbf ?_;refine hK1 _ _ ?_;refine qak fun K2 hK2=>?_;refine qau ?_;refine qaw (v:=.slice a l.length cap) rfl rfl rfl ?_;refine qgs (l:=[.tmp 6]) (args:=[.slice a l.length cap]) zwu rfl rfl rfl (zl8 (hS.mono u1.tr0) hl) ?_;rintro _ w2 ⟨a2,c2,m2,rfl,ho2,e2⟩;refine qa6 (v:=.slice a2 l.length c2) rfl rfl rfl ?_;refine jbf ?_;refine hK2 _ _ ?_;have u2:=e2.old;have hx2:=hx1.mono0 u2;have hold:Upd [] w w2:=u1.trans u2;refine qak fun K3 hK3=>?_;refine qau ?_;refine qaw (v:=.slice a2 l.length c2) rfl rfl rfl ?_;refine zm5 (vs:=[.pointer (some ⟨βt,0,none⟩)]) rfl rfl rfl ?_;have hsort:Calls Tryz.prog 123 #[.slice a2 l.length c2,.func (.func 124) #[] #[.pointer (some ⟨βt,0,none⟩)]] w2 (Ret fun v w'=>∃l',l'.length=l.length/\(List.Perm l' l/\qqc l')/\RowC w.heap.size w' a2 c2 l'/\Upd [] w w'):=by
  rcases ho2 with ⟨rfl,rfl,rfl⟩|⟨g,cells,rfl,hgm,_,hbx,hcl,hcap,hel⟩
  ·refine(zjr none 0 _ w2).mono fun e w' h=>?_;obtain⟨rfl,rfl⟩:=h;exact⟨[],rfl,⟨jfl _,fun i j hi=>by simp at hi⟩,⟨⟨jas _,by omega⟩,.inl rfl⟩,hold⟩
  ·have hgw:w1.heap.size<=g:=by
    rcases e2.own g hgm with h|h
    ·cases h
    ·exact h
   have hne:βt≠g:=by have:=hx1.lt;omega
   have hcl2:l.length*3<=cells.length:=by rw[hcl];show _<=c2*3;omega
   have hcell:∀i (h:i<l.length) j,j<3->cells[i*3+j]?=(encC l[i])[j]?:=fun i h j hj=>by
    obtain⟨cs,h1,h2⟩:=hel i h;have h1:cs=encC l[i]:=h1;rw[<- h1];exact h2 j hj
   have hfz:∀o,w2.frozen? ⟨g,o,none⟩=false:=fun o=>by
    obtain⟨t,ht⟩:=hbx;simp[World.frozen?,ht]
   have hH:HoldsK encC 3 w2 g 0 l.toArray:=fun t ht=>by
    rw[size_flatK] at ht;refine⟨?_,by rw[hfz]⟩;have ht3:t<l.length*3:=by simpa using ht
    rw[jbp,hbx.cell,get_flatK encC 3 l.toArray t (by simpa using ht3)];have h1:t / 3<l.length:=by omega
    have h2:=hcell (t / 3) h1 (t % 3) (by omega);rw[show t / 3*3+t % 3=t by omega] at h2;rw[h2];have e3:(l.toArray)[t / 3]! = l[t / 3]:=by simp[h1]
    rw[e3];have h4:t % 3<(encC l[t / 3]).length:=by show t % 3<3;omega
    rw[jac h4];show _=some ((encC l[t / 3])[t % 3]!);rw[je4 (encC l[t / 3]) (t % 3) h4]
   have hbt:w2.cell? ⟨βt,0,none⟩=some (.func (.func 115) #[] #[]):=by rw[hx2.cell];rfl
   have eg:∀args w,(callFunc 124 args).run Tryz.prog w=.ok (.enter 124 args) w:=enters_of Tryz.func124 (by kernel_rfl) rfl;have hcmp:CmpLays Tryz.prog 124 #[.pointer (some ⟨βt,0,none⟩)] encC 3 (fun x y:DC=>cmpI x.1 y.1) g 0 l.toArray.size w2:=fun m os dk hs x y=>by
    refine(zmj x y (b:=βt) ?_).mono fun e w' h=>?_
    ·rw[cell?_sortWorldK_other encC 3 w2 g 0 m dk os ⟨βt,0,none⟩ hne hx2.lt];exact hbt
    ·cases e with
     | returned v=>obtain⟨rfl,q,os',h2⟩:=h;exact⟨rfl,q,os',h2⟩
     | _=>exact h.elim
   have hcon:=zje (fun x y:DC=>cmpI x.1 y.1) zqf 124 #[.pointer (some ⟨βt,0,none⟩)] g 0 c2 l.toArray w2 eg hcmp hH hbx.lt (by simp;omega);have el:l.toArray.size=l.length:=by simp
   rw[el] at hcon;refine hcon.mono fun e w' h=>?_;obtain⟨rfl,d',n,os,hp,hs,rfl⟩:=h;obtain⟨hp1,_,hp3⟩:=hp;have hd:d'.toList.length=l.length:=by rw[jds,hp1,el]
   have hd2:d'.size=l.length:=by rw[hp1,el]
   have hperm:List.Perm d'.toList l:=by
    have e1:d'.extract 0 l.length=d':=by rw[<- hd2];exact Array.extract_size
    have e2:l.toArray.extract 0 l.length=l.toArray:=by rw[<- el];exact Array.extract_size
    rw[e1,e2] at hp3;exact hp3
   have hH2:=holdsK_sortWorldK_c encC 3 w2 g 0 l.toArray d' n os hH hbx.lt hp1;refine⟨d'.toList,hd,⟨hperm,fun i j hi hj hij=>?_⟩,⟨⟨by rw[hd];exact hcap.1,hcap.2⟩,.inr ⟨g,rfl,jbl u1.size hgw,fun i hi j hj=>?_⟩⟩,hold.old_upd zmi (jbl u1.size hgw)⟩
   ·have:=hs i j (jcd _) hij (by rw[<- hd];exact hj);have hi':i<d'.size:=by simpa using hi
    have hj':j<d'.size:=by simpa using hj
    rw[je4 d' i hi',je4 d' j hj'] at this;unfold ltOf cmpI at this;simp only[jev] at this;show ¬(d'.toList[j]).1<(d'.toList[i]).1;rw[je9,je9];intro hlt;rw[jao hlt] at this;omega
   ·have hi':i<d'.size:=by simpa using hi
    have ht:i*3+j<(flatK encC 3 d').size:=by rw[size_flatK];omega
    have:=(hH2 (i*3+j) ht).1;rw[jbp] at this;rw[this,get_flatK encC 3 d' (i*3+j) (by omega)];have e1:(i*3+j) / 3=i:=by omega
    have e2:(i*3+j) % 3=j:=by omega
    rw[e1,e2,je4 d' i hi',je9];have h4:j<(encC d'[i]).length:=hj;rw[jac h4];show some ((encC d'[i])[j]!)=_;rw[je4 (encC d'[i]) j h4]
 refine qgs (l:=[.tmp 8,.tmp 9]) (args:=[.slice a2 l.length c2,.func (.func 124) #[] #[.pointer (some ⟨βt,0,none⟩)]]) zh9 rfl rfl rfl hsort ?_;rintro _ w3 ⟨l',hl',hps,hrow,hu⟩;refine jbf ?_;refine hK3 _ _ ?_;refine qak fun K4 hK4=>?_;refine qau ?_;refine qaw (v:=.slice a2 l.length c2) rfl rfl rfl ?_;refine qa6 (v:=.slice a2 l.length c2) rfl rfl rfl ?_;refine jbf ?_;refine hK4 _ _ ?_;refine je8 ?_;exact ret1 Tryz.results114 rfl ⟨a2,c2,l',by rw[hl'];rfl,hps,hrow,hu⟩
end
end Go.Proofs.YtnhmanoiolfapaaGreat
end

section
set_option maxRecDepth 100000
namespace Go.Sx
open Go Go.RowKit
section
variable {P : Program} {w : World}
theorem zrq{ty:TypeId}{β bm since c0:Nat}{seen:Array Nat}{es:Array MapEntry}{clock:Nat}(hi:w.heap[β]?=some (.mapIter (some bm) since seen c0))(hb:w.heap[bm]?=some (.map es clock))(hold:∀x∈es.toList,x.born<since)(hsc:since<=c0) :
  ((leftOf es seen).size=0/\(Instr.next (.pointer (some ⟨β,0,none⟩)) false ty).run P w=.ok (.tuple #[.bool false]) w) \/
  ∃e∈(leftOf es seen).toList,∃w1:World,Upd [β] w w1/\w1.heap[β]?=some (.mapIter (some bm) since (seen.push e.born) clock)/\(Instr.next (.pointer (some ⟨β,0,none⟩)) false ty).run P w=.ok (.tuple #[.bool true,e.key,e.val]) w1:=by
 have hlt:=qar hi;simp only[Instr.next,getObj,jag,Sem.run,hi,hb,Result.andThen,next_test_false seen es since c0 hold hsc,jbb,jbw];unfold leftOf;have hmem:∀x∈(Array.filter (fun e=>!seen.contains e.born) es).toList,x.born<since:=fun x hx=>hold x (by simp at hx ⊢;exact hx.1);generalize Array.filter (fun e=>!seen.contains e.born) es=L at hmem ⊢;have e1:L.filter (fun x=>decide (x.born<since))=L:=Array.filter_eq_self.2 (fun x hx=>by simpa using hmem x (by simpa using hx));have e2:L.filter (fun x=>decide (x.born ≥ since))=#[]:=by
  rw[Array.filter_eq_empty_iff];intro x hx;have:=hmem x (by simpa using hx);simp;omega
 simp only[e1,e2,Array.append_empty];by_cases h0:L.size=0
 ·left;have:L=#[]:=jc6 h0;subst this;refine⟨rfl,?_⟩;simp[choose,Sem.run,Question.forced]
 ·right;have hne:L.isEmpty=false:=by simp[Array.isEmpty,h0]
  simp only[hne,jbb,jbw,Array.empty_append,Array.size_map];have hch:∃(j:Nat) (w1:World),j<L.size/\w1.Alike w/\w1.tape=w.tape/\(choose (Question.mapNext L.size)).run P w=.ok j w1:=by
   by_cases hf:L.size<=1
   ·exact⟨0,w,by omega,⟨rfl,rfl,rfl⟩,rfl,by simp[choose,Sem.run,Question.forced,hf]⟩
   ·exact⟨_,{ w with drawn:=w.drawn+1 },jc7 _ (by omega),⟨rfl,rfl,rfl⟩,rfl,by
     simp only[choose,Sem.run,Question.forced,jcg,hf,jbw,Question.cut];rfl⟩
  obtain⟨j,w1,hj,hal,htp,hrun⟩:=hch;have hi1:w1.heap[β]?=some (.mapIter (some bm) since seen c0):=by rw[hal.1];exact hi
  refine⟨L[j],by simp,{ w1 with heap:=w1.heap.setIfInBounds β (.mapIter (some bm) since (seen.push L[j].born) clock) },⟨hal.2.1,htp,hal.2.2,?_,fun b hb hn=>?_⟩,?_,?_⟩
  ·show w.heap.size<=(w1.heap.setIfInBounds β _).size;rw[Array.size_setIfInBounds,hal.1];exact jas _
  ·show (w1.heap.setIfInBounds β _)[b]?=_;rw[Array.getElem?_setIfInBounds,jan (by simp at hn;omega),hal.1]
  ·show (w1.heap.setIfInBounds β _)[β]?=_;rw[Array.getElem?_setIfInBounds,jao rfl,jao (by rw[hal.1];exact hlt)]
  ·simp only[hrun,Array.getElem?_map,jcs hj,jc8,jag,setObj,Sem.run,hi1,Result.andThen];rfl
theorem z03{β bm since:Nat}{seen:Array Nat}{es:Array MapEntry}{clock:Nat}{e:MapEntry}(hi:w.heap[β]?=some (.mapIter (some bm) since (seen.push e.born) clock))(hb:w.heap[bm]?=some (.map es clock))(he:e∈es.toList)(hn:(es.toList.map (·.born)).Nodup) :
  (Instr.entry (.pointer (some ⟨β,0,none⟩))).run P w=.ok (.tuple #[e.key,e.val]) w:=by
 have hf:es.find? (·.born==e.born)=some e:=by rw[<- Array.find?_toList];exact find_born e es.toList hn he
 simp only[Instr.entry,getObj,jag,Sem.run,hi,hb,Result.andThen,Array.back?_push,bne_self_eq_false,jbb,jbw,hf];rfl
end
section
variable {P : Program} {n : Nat} {σ : Nat -> Value} {w : World} {Q : Exit -> Act -> World -> Prop} {ops : Array Oper} {rest : List Oper} {d : Nat} {ty : TypeId} {pos : String} {aft : Array Edge} {g : Option (Nat × Bool)} {T : TypeId} {x : Operand}
theorem zt3{K E:TypeId}{bm:Nat}{es:Array MapEntry}{clock:Nat}(hT:P.underlying T=some (.map K E))(hb:w.heap[bm]?=some (.map es clock))(hg:qao ops σ n g=true)(hx:okO n x=true)(ex:ev σ x=.map (some bm))
  (k:∀β w',w.heap.size=β->Upd [] w w'->w'.heap[β]?=some (.mapIter (some bm) clock #[] clock)->wpList P ops Q rest (Fr n (upd σ d (.pointer (some ⟨β,0,none⟩)))) w'):wpList P ops Q (⟨some d,.range T x,ty,pos,aft,g⟩::rest) (Fr n σ) w :=
 qbd hg (by simp only[execOp,qas hx,ex,run_range_map w T K E bm es clock hT hb,jag,jaf,jab]) (k _ _ rfl (Upd.alloc _ _) (jcw _ _))
theorem zfp{β bm since c0:Nat}{seen:Array Nat}{es:Array MapEntry}{clock:Nat}(hi:w.heap[β]?=some (.mapIter (some bm) since seen c0))(hb:w.heap[bm]?=some (.map es clock))(hold:∀x∈es.toList,x.born<since)(hsc:since<=c0)
  (hg:qao ops σ n g=true) (hx:okO n x=true) (ex:ev σ x=.pointer (some ⟨β,0,none⟩))
  (k0:(leftOf es seen).size=0->wpList P ops Q rest (Fr n (upd σ d (.tuple #[.bool false]))) w)
  (k1:∀e w1,e∈(leftOf es seen).toList->Upd [β] w w1->w1.heap[β]?=some (.mapIter (some bm) since (seen.push e.born) clock)->wpList P ops Q rest (Fr n (upd σ d (.tuple #[.bool true,e.key,e.val]))) w1) :
  wpList P ops Q (⟨some d,.next x false,ty,pos,aft,g⟩::rest) (Fr n σ) w:=by
 rcases zrq (P:=P) (ty:=ty) hi hb hold hsc with ⟨h1,h2⟩|⟨e,he,w1,h1,h2,h3⟩
 ·exact qbd hg (by simp only[execOp,qas hx,ex,h2,jag,jaf,jab]) (k0 h1)
 ·exact qbd hg (by simp only[execOp,qas hx,ex,h3,jag,jaf,jab]) (k1 e w1 he h1 h2)
theorem zz0{β bm since:Nat}{seen:Array Nat}{es:Array MapEntry}{clock:Nat}{e:MapEntry}(hi:w.heap[β]?=some (.mapIter (some bm) since (seen.push e.born) clock))(hb:w.heap[bm]?=some (.map es clock))(he:e∈es.toList)(hn:(es.toList.map (·.born)).Nodup)
  (hg:qao ops σ n g=true) (hx:okO n x=true) (ex:ev σ x=.pointer (some ⟨β,0,none⟩)) (k:wpList P ops Q rest (Fr n (upd σ d (.tuple #[e.key,e.val]))) w) :
  wpList P ops Q (⟨some d,.entry x,ty,pos,aft,g⟩::rest) (Fr n σ) w :=
 qbd hg (by simp only[execOp,qas hx,ex,z03 (P:=P) hi hb he hn,jag,jaf,jab]) k
end
theorem zfq{es:Array MapEntry}{seen:Array Nat}{e:MapEntry}(hn:(es.toList.map (·.born)).Nodup)(he:e∈(leftOf es seen).toList):List.Perm (leftOf es seen).toList (e::(leftOf es (seen.push e.born)).toList):=by
 have h1:(leftOf es (seen.push e.born)).toList=(leftOf es seen).toList.filter fun x=>!(x.born==e.born):=by
  unfold leftOf;rw[jd3,jd3,List.filter_filter];congr 1;funext x;rw[Array.contains_push];cases seen.contains x.born<;>cases hx:(e.born==x.born)<;>simp_all [BEq.comm]
 rw[h1];have hn2:((leftOf es seen).toList.map (·.born)).Nodup:=by
  unfold leftOf;rw[jd3];exact hn.sublist (List.filter_sublist.map _)
 generalize (leftOf es seen).toList=L at he hn2;induction L with
 | nil=>cases he
 | cons x L ih =>
  obtain⟨n1,n2⟩:=jcr.1 hn2;rcases ja1.1 he with rfl|he
  ·have:(e::L).filter (fun x=>!(x.born==e.born))=L:=by
    rw[List.filter_cons_of_neg (by simp)];refine List.filter_eq_self.2 fun y hy=>?_;have:y.born≠e.born:=fun e'=>n1 (jce.2 ⟨y,hy,e'⟩);simpa using this
   rw[this]
  ·have hne:x.born≠e.born:=fun e'=>n1 (jce.2 ⟨e,he,e'.symm⟩);rw[List.filter_cons_of_pos (by simpa using hne)];exact((ih he n2).cons x).trans (List.Perm.swap e x _)
end Go.Sx
namespace Go.Proofs.YtnhmanoiolfapaaGreat
open Go Go.Sx Go.RowKit Go.Sort Go.Shelf
def qbo(e:MapEntry):DC:=(match e.key with|.int _ k=>k|_=>0,match e.val with|.string s=>s|_=>⟨#[]⟩,false)
theorem zko:Szs Tryz.prog 92 [(0,1),(1,1),(2,1)]:=Go.Jx.szs_of ttOK (ty:=92) rfl rfl rfl
section
attribute [local irreducible] Go.wpList Go.wpQuiet Go.Code.wp
theorem zz2{w:World}{bm:Nat}{es:Array MapEntry}{clock:Nat}(hb:w.heap[bm]?=some (.map es clock))(hn:(es.toList.map (·.born)).Nodup)(hold:∀x∈es.toList,x.born<clock)(hkv:∀e∈es.toList,e.key=.int .i64 (qbo e).1/\e.val=.string (qbo e).2.1)(hl:es.size<=1000) :
  Calls Tryz.prog 98 #[.map (some bm)] w (Ret fun v w'=>∃a' c' l',v=.slice a' l'.length c'/\(List.Perm l' (es.toList.map qbo)/\qqc l')/\RowC w.heap.size w' a' c' l'/\Upd [] w w'):=by
 have hltm:=qar hb;refine enter (l:=[.map (some bm)]) Tryz.func98 rfl Tryz.ntmps98 rfl ?_;refine qak fun K1 hK1=>?_;refine qau ?_;refine qa6 (v:=.slice none 0 0) rfl rfl rfl ?_;refine jbf ?_;refine hK1 _ _ ?_;refine qak fun K2 hK2=>?_;refine qau ?_;refine qa6 (v:=.slice none 0 0) rfl rfl rfl ?_;refine jbf ?_;refine hK2 _ _ ?_;refine qak fun K3 hK3=>?_;refine qak fun K4 hK4=>?_;refine qau ?_;refine qaw (v:=.map (some bm)) rfl rfl rfl ?_;refine zt3 zct.und hb rfl rfl rfl fun β w1 hβ u1 hi1=>?_;refine jbf ?_;refine hK4 _ _ ?_;have hb1:w1.heap[bm]?=some (.map es clock):=(u1.same bm hltm (by simp)).trans hb;have hM0:Lo ([]:List Nat) w1:=fun b hb=>by cases hb
 have hperm0:(leftOf es #[]).toList=es.toList:=by
  unfold leftOf;rw[jd3];exact List.filter_eq_self.2 fun x _=>by simp
 refine wp_block ?_;refine q0j (X:=(Array Nat × List DC) × (Option Addr × Nat × List Nat)) (3::4::5::(List.range 19).drop 8) (fun x=>[(3,.slice x.2.1 x.1.2.length x.2.2.1)])
  (fun x wi=>(wi.heap[β]?=some (.mapIter (some bm) clock x.1.1 clock)/\wi.heap[bm]?=some (.map es clock))/\List.Perm (x.1.2++(leftOf es x.1.1).toList.map qbo) (es.toList.map qbo)/\Go.Sx.Own x.2.2.2 [] wi x.2.1 x.2.2.1 x.1.2/\(β∈x.2.2.2/\(∀b∈blk x.2.1,β<b)/\∀b∈x.2.2.2,b<wi.heap.size)/\Upd [] w wi)
  (fun x=>(leftOf es x.1.1).size) ((#[],[]),(none,0,[β])) ⟨rfl,trivial⟩ ⟨⟨hi1,hb1⟩,by rw[hperm0];exact jfl _,Go.Sx.Own.nil,⟨by simp,fun b hb=>(by cases hb),fun b hb=>by rw[jcj.1 hb];exact qar hi1⟩,u1⟩ ?_
 rintro⟨⟨seen,out⟩,ao,co,mo⟩ τ w2 ⟨⟨hi2,hb2⟩,hp2,ho2,hm2,hu2⟩;have hlo:out.length<=es.size:=by
  have:=hp2.length_eq;simp only[jah,jb9,jds] at this;omega
 refine qak fun K5 hK5=>?_;refine qau ?_;refine zfp hi2 hb2 hold (jas _) rfl rfl rfl (fun h0=>?_) (fun e w3 he hu3 hi3=>?_)
 ·refine qhr (v:=.bool false) rfl rfl rfl rfl ?_;refine jbf ?_;refine hK5 _ _ ?_;refine qak fun K6 hK6=>?_;refine qm5 rfl rfl ?_;refine wp_exit ?_;refine hK3 _ _ ?_;have hnil:(leftOf es seen).toList=[]:=by
   have:leftOf es seen=#[]:=jc6 h0;rw[this]
  rw[hnil,List.map_nil,jbo] at hp2;have hold2:Upd [] w w2:=hu2;refine qak fun K7 hK7=>?_;refine qau ?_;refine qaw (v:=.slice ao out.length co) rfl rfl rfl ?_;refine qgs (l:=[.tmp 19,.func 115]) (args:=[.slice ao out.length co,.func (.func 115) #[] #[]]) zgu rfl rfl rfl (zus (ho2.shut (N:=[]) (fun b hb=>by cases hb) (fun b _=>by simp)) (by omega)) ?_;rintro _ w4 ⟨a',c',l',rfl,⟨hps,hso⟩,hrow,hu4⟩;refine qa6 (v:=.slice a' l'.length c') rfl rfl rfl ?_;refine jbf ?_;refine hK7 _ _ ?_;refine je8 ?_;refine ret1 Tryz.results98 rfl ⟨a',c',l',rfl,⟨hps.trans hp2,hso⟩,⟨hrow.1,?_⟩,hold2.trans hu4⟩;rcases hrow.2 with h|⟨g,h1,h2,h3⟩
  ·exact .inl h
  ·exact .inr ⟨g,h1,jbl hold2.size h2,h3⟩
 ·refine qhr (v:=.bool true) rfl rfl rfl rfl ?_;refine jbf ?_;refine hK5 _ _ ?_;refine qak fun K6 hK6=>?_;refine q6v rfl rfl ?_;refine je6 ?_;refine hK6 _ _ ?_;have hein:e∈es.toList:=by
   unfold leftOf at he;rw[jd3] at he;exact(jdm.1 he).1
  obtain⟨hk,hv⟩:=hkv e hein;have hbm3:bm≠β:=by omega
  have hb3:w3.heap[bm]?=some (.map es clock):=(hu3.same bm (qar hb2) (by simpa using hbm3)).trans hb2;refine wp_block ?_;refine qak fun K7 hK7=>?_;refine qau ?_;refine zz0 hi3 hb3 hein hn rfl rfl rfl ?_;rw[hk,hv];refine qhr (v:=.int .i64 (qbo e).1) rfl rfl rfl rfl ?_;refine qhr (v:=.string (qbo e).2.1) rfl rfl rfl rfl ?_;refine qa6 (v:=.int .i64 (qbo e).1) rfl rfl rfl ?_;refine qa6 (v:=.string (qbo e).2.1) rfl rfl rfl ?_;refine jbf ?_;refine hK7 _ _ ?_;have hlp:=zfq hn he;have hsz:(leftOf es seen).size=(leftOf es (seen.push e.born)).size+1:=by
   have:=hlp.length_eq;simpa using this
  have hu03:Upd [] w w3:=Upd.old_upd hu2 hu3 (by omega);have hM3:Lo ([]:List Nat) w3:=fun b hb=>by cases hb
  have hev3:Evo mo w2 mo w3:=hu3.evo (by intro b hb;simp at hb;rw[hb];exact hm2.1);have ho3:Go.Sx.Own mo [] w3 ao co out:=ho2.mono hu3 (fun b hb=>by have:=hm2.2.1 b hb;simp;omega) hev3 (ho2.mem);refine qau ?_;refine qaw (v:=.slice ao out.length co) rfl rfl rfl ?_;refine qaw (v:=.int .i64 (qbo e).1) rfl rfl rfl ?_;refine qaw (v:=.string (qbo e).2.1) rfl rfl rfl ?_;refine zvr (r:=encC (qbo e)) ty92 zko rfl rfl rfl rfl rfl ?_;refine z0z (r:=encC (qbo e)) ty35 ty92 rfl rfl rfl rfl rfl rfl fun β4 w4 hβ4 hu4 hz4 hx4=>?_;have hβ4':β4 ∉ mo++[]:=fun h=>by
   rw[jbo] at h;have h1:=hm2.2.2 β4 h;have h2:=hu3.size;omega
  have ev4:Evo mo w3 mo w4:=hu4.evo0;have ho4:Go.Sx.Own mo [] w4 ao co out:=ho3.mono hu4 (fun b hb=>by simp) ev4 ho2.mem;have hs4:SL (mo++[]) w4 (some ⟨β4,0,none⟩) 1 [qbo e]:=SL.of_box1 hx4 hβ4' rfl;have hM4:Lo ([]:List Nat) w4:=fun b hb=>by cases hb
  refine qr7 ty35 ty35 ty92 rfl rfl rfl rfl rfl rfl rfl ho4 hs4 hM4 (by show (out.length+1)*32<=140737488355328;omega) fun a5 c5 w5 m5 ho5 ev5 hu5 hbk5 hsub5=>?_;refine qa6 (v:=.slice a5 (out++[qbo e]).length c5) rfl rfl rfl ?_;refine jbf ?_;have hu04:Upd [] w w4:=hu03.trans hu4;have hi4:w4.heap[β]?=some (.mapIter (some bm) clock (seen.push e.born) clock):=(hu4.same β (qar hi3) (by simp)).trans hi3;have hb4:w4.heap[bm]?=some (.map es clock):=(hu4.same bm (qar hb3) (by simp)).trans hb3;have hnb:∀b∈blk ao,β<b:=hm2.2.1;have hi5:w5.heap[β]?=some (.mapIter (some bm) clock (seen.push e.born) clock):=(hu5.same β (qar hi4) (fun h=>by have:=hnb β h;omega)).trans hi4;have hb5:w5.heap[bm]?=some (.map es clock):=(hu5.same bm (qar hb4) (fun h=>by have:=hnb bm h;omega)).trans hb4;have hlt4:β<w4.heap.size:=qar hi4;refine⟨((seen.push e.born,out++[qbo e]),(a5,c5,m5)),by show (leftOf es (seen.push e.born)).size<(leftOf es seen).size;omega,⟨⟨hi5,hb5⟩,?_,ho5,⟨hsub5 β hm2.1,fun b hb=>?_,?_⟩,⟨hu5.os.trans hu04.os,hu5.tape.trans hu04.tape,hu5.output.trans hu04.output,jbl hu04.size hu5.size,fun x hx hn=>(hu5.same x (jbi hx hu04.size) (fun h=>by have:=hnb x h;omega)).trans (hu04.same x hx hn)⟩⟩,_,rfl,(by repeat first|exact qbh.refl _ _|refine qbh.upd rfl ?_|refine qbh.upds rfl ?_|refine qbh.mix rfl ?_),rfl,trivial⟩
  ·refine List.Perm.trans ?_ hp2;show List.Perm ((out++[qbo e])++(leftOf es (seen.push e.born)).toList.map qbo) (out++(leftOf es seen).toList.map qbo);rw[jaz];exact List.Perm.append_left out (hlp.map qbo).symm
  ·rcases hbk5 b hb with h|h
   ·exact hnb b h
   ·omega
  ·exact ev5.lo fun b hb=>jbi (hm2.2.2 b hb) (jbl hu3.size hu4.size)
end
end Go.Proofs.YtnhmanoiolfapaaGreat
end

noncomputable section
set_option maxRecDepth 100000
namespace Go.Proofs.YtnhmanoiolfapaaGreat
open Go Go.Sx Go.RowKit Go.Jx
theorem qo2{m:List (Int × ByteArray)}(h:S.mapG m=true):(m.map (·.1)).Nodup/\∀p∈m,(0<=p.1/\p.1<=199)/\p.2.size<=4000:=by
 unfold S.mapG at h;simp only[jae,jcg,jbj] at h;refine⟨h.1,fun p hp=>?_⟩;have:=h.2 p hp;unfold S.inI at this;simp only[jae,jcg] at this;exact⟨this.1,jam this.2⟩
theorem qnp:∀{l:List qaa} {last:Int},S.okGo l last=true->(∀c∈l,last<c.1)/\l.Pairwise (fun a b=>a.1<b.1)
 | [],_,_=>⟨fun c hc=>(by cases hc),List.Pairwise.nil⟩
 | c::l,last,h=>by
  obtain⟨_,_,_,h4,h5⟩:=qbq.1 h;obtain⟨i1,i2⟩:=qnp h5;refine⟨fun x hx=>?_,List.Pairwise.cons i1 i2⟩;rcases ja1.1 hx with rfl|hx
  ·exact h4
  ·have:=i1 x hx;omega
theorem zfc{c:qaa}(hg:c.2.2=false):∀{l:List qaa},(∀x∈l,x.1≠c.1)->List.Perm (S.ins1 c l) (c::l)
 | [],_=>by
  show List.Perm (cond c.2.2 [] [c]) _;rw[hg];exact jfl _
 | a::r,h=>by
  show List.Perm (if a.1<c.1 then a::S.ins1 c r else if a.1=c.1 then cond c.2.2 r (c::r) else cond c.2.2 (a::r) (c::a::r)) _;by_cases q1:a.1<c.1
  ·rw[jao q1];exact((zfc hg fun x hx=>h x (ja7 _ hx)).cons a).trans (List.Perm.swap c a r)
  ·rw[jan q1,jan (h a (by simp)),hg];exact jfl _
theorem q7h:∀(m:List (Int × ByteArray)) (c:List qaa),(m.map (·.1)).Nodup->(∀p∈m,((0<=p.1/\p.1<=199)/\p.2.size<=4000)/\∀x∈c,x.1≠p.1)->okS c (-1) ->
  okS (m.foldl (fun c p=>S.ins1 (p.1,p.2,false) c) c) (-1)/\List.Perm (m.foldl (fun c p=>S.ins1 (p.1,p.2,false) c) c) (c++m.map fun p=>(p.1,p.2,false))
 | [],c,_,_,h=>⟨h,by simp⟩
 | p::m,c,hn,hr,h=>by
  obtain⟨n1,n2⟩:=jcr.1 hn;have hp:=hr p (by simp);have h1:=zfc (c:=(p.1,p.2,false)) rfl hp.2;have h2:okS (S.ins1 (p.1,p.2,false) c) (-1):=qqe (p.1,p.2,false) hp.1 h (show (-1:Int)<p.1 by have:=hp.1.1.1;omega);obtain⟨i1,i2⟩:=q7h m (S.ins1 (p.1,p.2,false) c) n2 (fun q hq=>⟨(hr q (ja7 _ hq)).1,fun x hx=>by
   rcases ja1.1 (h1.mem_iff.1 hx) with rfl|hx
   ·exact fun e=>n1 (jce.2 ⟨q,hq,e.symm⟩)
   ·exact(hr q (ja7 _ hq)).2 x hx⟩) h2
  refine⟨i1,i2.trans ?_⟩;refine(h1.append_right _).trans ?_;show List.Perm ((p.1,p.2,false)::(c++m.map fun p=>(p.1,p.2,false))) (c++(p.1,p.2,false)::m.map fun p=>(p.1,p.2,false));exact List.perm_middle.symm
theorem qgp{m:List (Int × ByteArray)}(h:S.mapG m=true):okS (S.listed m) (-1)/\List.Perm (S.listed m) (m.map fun p=>(p.1,p.2,false)):=by
 obtain⟨h1,h2⟩:=qo2 h;exact q7h m [] h1 (fun p hp=>⟨h2 p hp,fun x hx=>by cases hx⟩) ⟨rfl,fun x hx=>by cases hx⟩
theorem zdj{m:List (Int × ByteArray)}(h:S.mapG m=true):(S.listed m).length=m.length:=(qgp h).2.length_eq.trans (jb9 _)
theorem zms{m:List (Int × ByteArray)}(h:S.mapG m=true):m.length<=200:=by
 obtain⟨h1,h2⟩:=qgp h;have h3:=quq h1.1 (jbq _);have e:=zdj h;omega
theorem zu2{m:List (Int × ByteArray)}(h:S.mapG m=true){l:List qaa}(hp:List.Perm l (m.map fun p=>(p.1,p.2,false)))(hs:qqc l):l=S.listed m:=by
 obtain⟨h1,h2⟩:=qgp h;obtain⟨n1,n2⟩:=qo2 h;have hn:(l.map (·.1)).Nodup:=by
  refine(hp.map (·.1)).nodup_iff.2 ?_;rw[jff];exact n1
 have hle:l.Pairwise (fun a b=>¬b.1<a.1):=List.pairwise_iff_getElem.2 fun i j hi hj hij=>hs i j hi hj hij;have hne:l.Pairwise (fun a b=>a.1≠b.1):=List.pairwise_map.1 hn;have hlt:l.Pairwise (fun a b=>a.1<b.1):=(hle.and hne).imp fun⟨a,b⟩=>by omega
 exact List.Perm.eq_of_pairwise (le:=fun a b:qaa=>a.1<b.1) (fun a b _ _ q1 q2=>absurd q1 (by omega)) hlt (qnp h1.1).2 (hp.trans h2.symm)
theorem q9f:∀m:List (Int × ByteArray),(tmEs (.int .i64) .str m).map (·.1)=m.map fun p=>IV.int .i64 p.1
 | []=>rfl
 | p::m=>jav (IV.int .i64 p.1::·) (q9f m)
theorem q7q:∀m:List (Int × ByteArray),(tmEs (.int .i64) .str m).map (·.2)=m.map fun p=>IV.str p.2
 | []=>rfl
 | p::m=>jav (IV.str p.2::·) (q7q m)
def usC(L:List qaa)(i j:Nat):Value:=(encC (L.getD i (0,S.none_,false))).getD j .nilFunc
theorem ze0{L:List qaa}{i j:Nat}(h:i<L.length):usC L i j=(encC L[i]).getD j .nilFunc:=by
 unfold usC;rw[jai (l:=L),jac h];rfl
theorem zhm(E:Env)(m:List (Int × ByteArray))(us:List Value)(hG:S.mapG m=true)(p:Pre T0 E (Sc qc4.ps ((some m,()):ElP qc4.ps)))(hv:VRs E [.map 0] us) :
  CallsIn Fence.wide 0 Tryz.prog 98 us.toArray E.w (RetB 1 T0 E (Sc qc4.ps ((some m,()):ElP qc4.ps)) ⟨.lst cCell (S.listed m),Sc qc4.ps ((some m,()):ElP qc4.ps),0,0⟩):=by
 obtain⟨u,us',rfl,a1,a2⟩:=VRs.inv (v:=.map 0) (cs:=[]) hv;obtain rfl:us'=[]:=ja4.1 a2.1.symm;have hA:E.A 0:=by cases a1;assumption
 have hu:u=.map (some (E.ρ 0)):=by cases a1;rfl
 subst hu;obtain⟨ents,clock,h1,h2,h3,h4⟩:=p.st.objs 0 trivial hA (.tmap (.int .i64) .str m) rfl;have h2:VRs E (m.map fun p=>IV.int .i64 p.1) (ents.toList.map (·.key)):=by
  rw[q9f] at h2;exact h2
 have h3:VRs E (m.map fun p=>IV.str p.2) (ents.toList.map (·.val)):=by
  rw[q7q] at h3;exact h3
 have hl2:ents.toList.length=m.length:=by
  have:=h2.1;rw[jb9,jb9] at this;exact this.symm
 have hel:∀i (hi:i<m.length) (hi2:i<ents.toList.length),ents.toList[i].key=.int .i64 (m[i]).1/\ents.toList[i].val=.string (m[i]).2:=fun i hi hi2=>by
  have q1:=h2.2 i (by rw[jb9];exact hi) (by rw[jb9];exact hi2);have q2:=h3.2 i (by rw[jb9];exact hi) (by rw[jb9];exact hi2);simp only[jci] at q1 q2;constructor
  ·generalize ents.toList[i].key=u at q1;cases q1;rfl
  ·generalize ents.toList[i].val=u at q2;cases q2;rfl
 have hkv:∀e∈ents.toList,e.key=.int .i64 (qbo e).1/\e.val=.string (qbo e).2.1:=fun e he=>by
  obtain⟨i,hi,rfl⟩:=jcx.1 he;obtain⟨q1,q2⟩:=hel i (by omega) hi;unfold qbo;rw[q1,q2];exact⟨rfl,rfl⟩
 have hmap:ents.toList.map qbo=m.map fun p=>(p.1,p.2,false):=by
  apply List.ext_getElem
  ·simp[hl2]
  ·intro i hi1 hi2;rw[jci,jci];obtain⟨q1,q2⟩:=hel i (by simpa using hi2) (by simpa using hi1);unfold qbo;rw[q1,q2]
 have hlen:=zms hG;refine(jdl.2 (zz2 h1 h4.1 h4.2 hkv (by rw[<- jds];omega))).mono fun e w' hR=>?_;cases e with
 | returned v =>
  obtain⟨a',c',l',rfl,⟨hp,hs⟩,⟨hc,hrow⟩,hu⟩:=hR;rw[hmap] at hp;obtain rfl:=zu2 hG hp hs;obtain⟨p1,p2⟩:=Post.idle p hu;refine⟨_,E.at_ w',rfl,rfl,?_,PostB.of (jdq (qhj qc4.ps ((some m,()):ElP qc4.ps)).symm) (fun _ _=>trivial) p1 p2⟩;show VR _ (.lst cCell (S.listed m)) _;obtain⟨o1,o2⟩:=qgp hG;have hll:(S.listed m).length<=200:=by have:=zdj hG;omega
  generalize hL:S.listed m=L at hc hrow hll o1 o2;cases L with
  | nil=>exact .lst0 hc.2
  | cons c0 L =>
   rcases hrow with h|⟨g,rfl,hg,hcell⟩
   ·cases h
   have h00:=hcell 0 (by simp) 0 (by omega);obtain⟨cells,t,fz,hh⟩:∃cells t fz,w'.heap[g]?=some (.cells cells t fz):=by
    unfold World.cell? at h00;split at h00
    ·rename_i c t fz h;exact⟨c,t,fz,h⟩
    ·cases h00
   have hcell2:∀i (h:i<(c0::L).length) j,j<3->cells[i*3+j]?=(encC (c0::L)[i])[j]?:=fun i h j hj=>by
    rw[<- hcell i h j hj];simp[World.cell?,hh]
   refine VR.lst (E:=E.at_ w') (c:=cCell) (l:=c0::L) (off:=0) (cells:=cells) (t:=t) (fz:=fz) (usC (c0::L)) hc.1 hc.2 (by show (c0::L).length*25<=140737488355328;omega) (fun h=>?_) hh (fun i hi j hj=>?_) (fun i hi j hj=>?_)
   ·have:=p.st.lo g h;omega
   ·show cells[0+i*3+j]?=_;have hj:j<3:=hj;have hi:i<(c0::L:List qaa).length:=hi;rw[jbp,hcell2 i hi j hj,ze0 hi,jai,jac (show j<(encC ((c0::L:List qaa)[i]'hi)).length from hj)];rfl
   ·have hj:j<3:=hj;have hi:i<(c0::L:List qaa).length:=hi;have hin:(c0::L)[i]∈(c0::L):=jbk hi;have hpm:(c0::L)[i]∈(m.map fun p=>((p.1,p.2,false):qaa)):=by
     exact o2.mem_iff.1 hin
    obtain⟨q,hq,hqe⟩:=jce.1 hpm;obtain⟨⟨k1,k2⟩,k3⟩:=(qo2 hG).2 q hq;show VR _ (cel cCell ((c0::L:List qaa)[i]'hi))[j] (usC (c0::L) i j);rw[ze0 hi];have hx:∀(x:qaa) (hx:x=(q.1,q.2,false)) (hj':j<(cel cCell x).length),VR (E.at_ w') (cel cCell x)[j] ((encC x).getD j .nilFunc):=fun x hx hj'=>by
     subst hx;match j,hj with
     | 0,_=>exact .int .i64 q.1 (qfv ⟨by omega,by omega⟩)
     | 1,_=>exact .str q.2 (by omega)
     | 2,_=>exact .bool false
    exact hx _ hqe.symm _
 | _=>exact hR.elim
theorem zv7:ConR Tryz.prog 98 qc4:=by
 refine⟨zq5,fun E x us y z hf p hv=>?_⟩;obtain⟨m,u0⟩:=x;cases u0;cases m with
 | none=>cases hf
 | some m =>
 have hf:cond (S.mapG m) (some (((S.listed m,()):ElR qc4.rts),((some m,()):ElP (refs qc4.ps)))) none=some (y,z):=hf;obtain⟨hG,e⟩:=qa5 hf;obtain⟨rfl,rfl⟩:=Prod.mk.inj e;exact zhm E m us hG p hv
abbrev KV:Type:=Int × ByteArray
def ms(k:Int)(v:ByteArray):List KV->List KV
 | []=>[(k,v)]
 | e::es=>if k=e.1 then (k,v)::es else e::ms k v es
def md(k:Int):List KV->List KV
 | []=>[]
 | e::es=>if k=e.1 then es else e::md k es
theorem q6m(k:Int)(v:ByteArray):∀m:List KV,(mset (vc:=.str) (.int .i64) k v m:List KV)=ms k v m
 | []=>rfl
 | e::m=>by
  show cond (decide (k=e.1)) ((k,v)::m) (e::(mset (vc:=.str) (.int .i64) k v m:List KV))=if k=e.1 then (k,v)::m else e::ms k v m
  rw[q6m k v m];by_cases h:k=e.1
  ·rw[jaj h,jao h];rfl
  ·rw[jal h,jan h];rfl
theorem q6l(k:Int):∀m:List KV,(mdel (vc:=.str) (.int .i64) k m:List KV)=md k m
 | []=>rfl
 | e::m=>by
  show cond (decide (k=e.1)) m (e::(mdel (vc:=.str) (.int .i64) k m:List KV))=if k=e.1 then m else e::md k m
  rw[q6l k m];by_cases h:k=e.1
  ·rw[jaj h,jao h];rfl
  ·rw[jal h,jan h];rfl
theorem qox{k:Int}{v:ByteArray}{p:KV}:∀{m:List KV},(m.map (·.1)).Nodup->(p∈ms k v m↔(p∈m/\p.1≠k)\/p=(k,v))
 | [],_=>by simp[ms]
 | e::m,h=>by
  obtain⟨n1,n2⟩:=jcr.1 h;unfold ms;by_cases hk:k=e.1
  ·rw[jao hk];constructor
   ·intro hp;rcases ja1.1 hp with rfl|hp
    ·exact .inr rfl
    ·exact .inl ⟨ja7 _ hp,fun e'=>n1 (jce.2 ⟨p,hp,e'.trans hk⟩)⟩
   ·rintro(⟨hp,hn⟩|rfl)
    ·rcases ja1.1 hp with rfl|hp
     ·exact absurd hk.symm hn
     ·exact ja7 _ hp
    ·exact jb3
  ·rw[jan hk];have ih:=qox (k:=k) (v:=v) (p:=p) n2;constructor
   ·intro hp;rcases ja1.1 hp with rfl|hp
    ·exact .inl ⟨jb3,fun e'=>hk e'.symm⟩
    ·rcases ih.1 hp with ⟨a,b⟩|a
     ·exact .inl ⟨ja7 _ a,b⟩
     ·exact .inr a
   ·rintro(⟨hp,hn⟩|hp)
    ·rcases ja1.1 hp with rfl|hp
     ·exact jb3
     ·exact ja7 _ (ih.2 (.inl ⟨hp,hn⟩))
    ·exact ja7 _ (ih.2 (.inr hp))
theorem qqh{k:Int}{p:KV}:∀{m:List KV},(m.map (·.1)).Nodup->(p∈md k m↔p∈m/\p.1≠k)
 | [],_=>by simp[md]
 | e::m,h=>by
  obtain⟨n1,n2⟩:=jcr.1 h;unfold md;by_cases hk:k=e.1
  ·rw[jao hk];constructor
   ·intro hp;exact⟨ja7 _ hp,fun e'=>n1 (jce.2 ⟨p,hp,e'.trans hk⟩)⟩
   ·rintro⟨hp,hn⟩;rcases ja1.1 hp with rfl|hp
    ·exact absurd hk.symm hn
    ·exact hp
  ·rw[jan hk];have ih:=qqh (k:=k) (p:=p) n2;constructor
   ·intro hp;rcases ja1.1 hp with rfl|hp
    ·exact⟨jb3,fun e'=>hk e'.symm⟩
    ·exact⟨ja7 _ (ih.1 hp).1,(ih.1 hp).2⟩
   ·rintro⟨hp,hn⟩;rcases ja1.1 hp with rfl|hp
    ·exact jb3
    ·exact ja7 _ (ih.2 ⟨hp,hn⟩)
theorem q1d{k:Int}{v:ByteArray}:∀{m:List KV},(m.map (·.1)).Nodup->((ms k v m).map (·.1)).Nodup
 | [],_=>by simp[ms]
 | e::m,h=>by
  obtain⟨n1,n2⟩:=jcr.1 h;unfold ms;by_cases hk:k=e.1
  ·rw[jao hk];exact jcr.2 ⟨by rw[hk];exact n1,n2⟩
  ·rw[jan hk];refine jcr.2 ⟨fun hm=>?_,q1d n2⟩;obtain⟨p,hp,he⟩:=jce.1 hm;rcases(qox n2).1 hp with ⟨a,_⟩|a
   ·exact n1 (jce.2 ⟨p,a,he⟩)
   ·rw[a] at he;exact hk he
theorem q3x{k:Int}:∀{m:List KV},(m.map (·.1)).Nodup->((md k m).map (·.1)).Nodup
 | [],_=>by simp[md]
 | e::m,h=>by
  obtain⟨n1,n2⟩:=jcr.1 h;unfold md;by_cases hk:k=e.1
  ·rw[jao hk];exact n2
  ·rw[jan hk];refine jcr.2 ⟨fun hm=>?_,q3x n2⟩;obtain⟨p,hp,he⟩:=jce.1 hm;exact n1 (jce.2 ⟨p,((qqh n2).1 hp).1,he⟩)
theorem q51{c x:qaa}:∀{l:List qaa} {last:Int},S.okGo l last=true->(x∈S.ins1 c l↔(x∈l/\x.1≠c.1)\/(x=c/\c.2.2=false))
 | [],last,_=>by
  show x∈cond c.2.2 [] [c]↔_;cases c.2.2<;>simp
 | a::r,last,h=>by
  obtain⟨_,_,_,_,h5⟩:=qbq.1 h;have hlt:=(qnp h5).1;have ih:=q51 (c:=c) (x:=x) h5;show x∈(if a.1<c.1 then a::S.ins1 c r else if a.1=c.1 then cond c.2.2 r (c::r) else cond c.2.2 (a::r) (c::a::r))↔_;by_cases q1:a.1<c.1
  ·rw[jao q1,ja1,ih,ja1];constructor
   ·rintro(rfl|⟨a1,a2⟩|a1)
    ·exact .inl ⟨.inl rfl,by omega⟩
    ·exact .inl ⟨.inr a1,a2⟩
    ·exact .inr a1
   ·rintro(⟨rfl|a1,a2⟩|a1)
    ·exact .inl rfl
    ·exact .inr (.inl ⟨a1,a2⟩)
    ·exact .inr (.inr a1)
  ·rw[jan q1];by_cases q2:a.1=c.1
   ·rw[jao q2];have hr:∀y∈r,y.1≠c.1:=fun y hy=>by have:=hlt y hy;omega
    cases hg:c.2.2 with
    | true =>
     simp only[jaa,ja1,jfh,and_false,jfp];constructor
     ·intro hx;exact⟨.inr hx,hr x hx⟩
     ·rintro⟨rfl|a1,a2⟩
      ·exact absurd q2 a2
      ·exact a1
    | false =>
     simp only[jad,ja1,and_true];constructor
     ·rintro(rfl|hx)
      ·exact .inr rfl
      ·exact .inl ⟨.inr hx,hr x hx⟩
     ·rintro(⟨rfl|a1,a2⟩|a1)
      ·exact absurd q2 a2
      ·exact .inr a1
      ·exact .inl a1
   ·rw[jan q2];have hr:∀y∈a::r,y.1≠c.1:=fun y hy=>by
     rcases ja1.1 hy with rfl|hy
     ·exact q2
     ·have:=hlt y hy;omega
    cases hg:c.2.2 with
    | true =>
     simp only[jaa,jfh,and_false,jfp];exact⟨fun hx=>⟨hx,hr x hx⟩,fun hx=>hx.1⟩
    | false =>
     simp only[jad,and_true];rw[ja1];constructor
     ·rintro(rfl|hx)
      ·exact .inr rfl
      ·exact .inl ⟨hx,hr x hx⟩
     ·rintro(⟨a1,_⟩|a1)
      ·exact .inr a1
      ·exact .inl a1
theorem zwf{a b:List qaa}(ha:okS a (-1))(hb:okS b (-1))(h:∀x,x∈a↔x∈b):a=b:=by
 have h1:=(qnp ha.1).2;have h2:=(qnp hb.1).2;have n1:a.Nodup:=h1.imp fun {x y} hxy e=>by subst e;omega
 have n2:b.Nodup:=h2.imp fun {x y} hxy e=>by subst e;omega
 exact List.Perm.eq_of_pairwise (le:=fun a b:qaa=>a.1<b.1) (fun a b _ _ q1 q2=>absurd q1 (by omega)) h1 h2 ((List.perm_ext_iff_of_nodup n1 n2).2 h)
theorem zda{m:List KV}(h:S.mapG m=true){x:qaa}:x∈S.listed m↔(x.1,x.2.1)∈m/\x.2.2=false:=by
 rw[(qgp h).2.mem_iff,jce];constructor
 ·rintro⟨p,hp,rfl⟩;exact⟨hp,rfl⟩
 ·rintro⟨hp,hx⟩;exact⟨_,hp,by obtain⟨a,b,c⟩:=x;cases hx;rfl⟩
theorem zav{m:List KV}(h1:(m.map (·.1)).Nodup)(h2:∀p∈m,(0<=p.1/\p.1<=199)/\p.2.size<=4000):S.mapG m=true:=by
 unfold S.mapG;simp only[jae,jcg,jbj];refine⟨h1,fun p hp=>?_⟩;obtain⟨⟨a,b⟩,c⟩:=h2 p hp;unfold S.inI;simp only[jae,jcg];exact⟨⟨a,b⟩,jau c⟩
def qfg(m:List KV)(c:qaa):List KV:=cond c.2.2 (md c.1 m) (ms c.1 c.2.1 m)
theorem znk{m:List KV}(h:S.mapG m=true){c:qaa}(hc:(0<=c.1/\c.1<=199)/\c.2.1.size<=4000):S.mapG (qfg m c)=true/\S.listed (qfg m c)=S.ins1 c (S.listed m):=by
 obtain⟨n1,n2⟩:=qo2 h;obtain⟨o1,o2⟩:=qgp h;have hG:S.mapG (qfg m c)=true:=by
  unfold qfg;cases c.2.2 with
  | true=>exact zav (q3x n1) fun p hp=>n2 p ((qqh n1).1 hp).1
  | false =>
   exact zav (q1d n1) fun p hp=>by
    rcases(qox n1).1 hp with ⟨a,_⟩|rfl
    ·exact n2 p a
    ·exact hc
 refine⟨hG,zwf (qgp hG).1 (qqe c hc o1 (by omega)) fun x=>?_⟩;rw[zda hG,q51 o1.1,zda h];unfold qfg;cases hg:c.2.2 with
 | true =>
  rw[jaa,qqh n1];simp only[jfh,and_false,jfp];exact⟨fun ⟨⟨a,b⟩,c⟩=>⟨⟨a,c⟩,b⟩,fun ⟨⟨a,c⟩,b⟩=>⟨⟨a,b⟩,c⟩⟩
 | false =>
  rw[jad,qox n1];simp only[and_true];constructor
  ·rintro⟨⟨a,b⟩|a,d⟩
   ·exact .inl ⟨⟨a,d⟩,b⟩
   ·refine .inr ?_;obtain⟨x1,x2,x3⟩:=x;obtain⟨c1,c2,c3⟩:=c;simp only[jdu] at a d hg ⊢;exact⟨a.1,a.2,d.trans hg.symm⟩
  ·rintro(⟨⟨a,b⟩,d⟩|rfl)
   ·exact⟨.inl ⟨a,d⟩,b⟩
   ·exact⟨.inr rfl,hg⟩
theorem zi1(m:List KV)(l:List qaa):S.applied m l=l.foldl qfg m:=by
 unfold S.applied;have:∀(l:List qaa) (m:List KV),List.foldl (fun(m:List KV) (c:qaa)=>cond c.2.2 (mdel (vc:=.str) (.int .i64) c.1 m:List KV) (mset (vc:=.str) (.int .i64) c.1 c.2.1 m)) m l=l.foldl qfg m:=by
  intro l;induction l with
  | nil=>intro m;rfl
  | cons c l ih =>
   intro m;rw[jeb,jeb,ih];congr 1;unfold qfg;rw[<- q6m,<- q6l]
 exact this l m
theorem zcd:∀{l:List qaa} {m:List KV} {last:Int},S.mapG m=true->S.okGo l last=true->S.mapG (S.applied m l)=true/\S.listed (S.applied m l)=S.changed (S.listed m) l
 | [],m,_,h,_=>⟨h,rfl⟩
 | c::l,m,last,h,hl=>by
  obtain⟨h1,h2,h3,h4,h5⟩:=qbq.1 hl;obtain⟨s1,s2⟩:=znk h ⟨h1,h2⟩;have ih:=zcd (l:=l) s1 h5;rw[zi1] at ih ⊢;rw[jeb];refine⟨ih.1,ih.2.trans ?_⟩;rw[s2];rfl
end Go.Proofs.YtnhmanoiolfapaaGreat
end

section
namespace Go.Jx
open Go Go.Sx Go.RowKit
universe u

theorem jup{m bi:Nat}{E0 Ei:Env}{S S':IS}{Wb B:World}(p0:Pre T0 E0 S)(hbi:qc2 E0 S bi)(hW:Beside bi E0.w Wb)(k:PostB m T0 (E0.at_ Wb) S Ei S')(hT0:∀id,m<=id->T0.w id)(u:Upd [bi] Ei.w B) :
  ∃Wb',Beside bi E0.w Wb'/\PostB m T0 (E0.at_ Wb') S (Ei.at_ B) S':=by
 obtain⟨hle,pW,hbW⟩:=p0.beside hbi hW;have pi:=k.pre hT0 pW;have hlt:bi<Wb.heap.size:=by rw[hW.size];exact p0.st.lo bi hbi.1
 have h1:Ei.w.heap[bi]?=some Wb.heap[bi]:=(k.at_same pW hbW).trans (jcs hlt);obtain⟨B',u1,hB⟩:=zxj u h1;obtain⟨i1,i2⟩:=Post.idle pi u1;have k2:=k.trans (PostB.of k.le hT0 i1 i2);have hltB:bi<B.heap.size:=jbi (qar h1) u.size;have h3:=Beside.put Wb bi B.heap[bi];refine⟨Wb.putObj bi B.heap[bi],⟨h3.os.trans hW.os,h3.tape.trans hW.tape,h3.output.trans hW.output,h3.size.trans hW.size,fun x hx=>(h3.same x hx).trans (hW.same x hx)⟩,?_⟩;have:=PostB.beside (E:=E0.at_ Wb) (E':=Ei.at_ B') (w:=Wb.putObj bi B.heap[bi]) (w':=B) k2 pW hbW h3 hB (by rw[jbs hlt];exact jcs hltB);exact this
section
variable {P : Program} {tt : Nat -> Option TI}
theorem z1t(hm:P.follows .mixedOrders=true)(htt:TT P tt){k f:Nat}{s:SmI}{cfg:LpC}{lf:Nat}(hc:ConW P f s){cl:Cl}(hcl:ClOK P cl)(hfr:ClFr cl){vs:List IV}{S:IS}{r:Res}(h:itW P tt k s cfg lf cl vs S=some r)
   {T:TW} {E:Env} {us:List Value} (p:Pre T E S) (hrd:tin T.r r.rd) (hwr:tin T.w r.wr) (hv:VRs E vs us):qaf P f/\CallsIn Fence.wide 0 P f us.toArray E.w (RetE T E S r):=by
 refine⟨hc.callable,?_⟩;obtain⟨id,caps,xi,i,isubs,S1,w1,nt,fr,pr,assign,body,D,d0,rows,subs,S2,w2,d,l,q,rfl,h1,ho,h2,hb,h3,h4,h5,rfl⟩:=qwv h;obtain⟨t1,t2⟩:=qan hwr;obtain⟨t3,t4⟩:=qan t2;obtain⟨t5,t6⟩:=qan t3;have hTid:=qah t1;have hbits:=qzb t4;have hTi:T.w i:=hbits i (by simp);unfold itB at hb;simp only[jae] at hb;obtain⟨b1,b2,b3,b4,b5,b6,b7,b8,b9⟩:=hb;have hnd:=qkj b1;obtain⟨u0,us,rfl,a1,a2⟩:=hv.inv;have hA:E.A id:=by cases a1;assumption
 obtain⟨E1,e1,q1,f1,il1,il2,iA,ib2,ib3⟩:=qe9 s.ips h1 p t5 a2;have p1:=q1.pre p;have hle1:=q1.env p;obtain⟨z1,z2,z3,z4,z5⟩:=hle1.alw id hA;obtain⟨fn,tmps,g1,g2,g3⟩:=p1.st.objs id (T.sub _ hTid) z1 _ ho;have hls:VRs E1 (cfg.ls.map (slot fr)) (cfg.ls.map fun t=>tmps.getD t undef):=⟨by simp,fun i hi hi2=>by
   simp only[jci];refine g2.get _ ?_;have:=(jbj.1 b8) (cfg.ls[i]'(by simpa using hi)) (jbk _);simpa using this⟩
 obtain⟨E2,e2,q2,f2,l1,l2,A2,c2,c3⟩:=qe9 cfg.lp h2 p1 t6 hls;have p2:=q2.pre p1;have hle2:=q2.env p1;obtain⟨_,y2,y3⟩:=qex cfg.lp h3 l2;have hq12:=Post.trans p q1 f1 q2;have hf12:=f1.trans f2 q1.le;have hS2:S2.H id=some (.loop .ready none nt fr [pr] assign body D):=by
   rw[(qe2 _ h2).2 id (p1.bnd id z1) (by simpa using b9)];exact ho
 obtain⟨hA2,x2,x3,x4,x5⟩:=hle2.alw id z1;obtain⟨fn',tmps',g1',g2',g3'⟩:=p2.st.objs id (T.sub _ hTid) hA2 _ hS2;obtain⟨nq1,nq2⟩:=jcr.1 hnd;have nq3:=(jc4.1 nq2);have hheld:Held T E2 S2 cfg.lp d rows subs:=⟨l1,l2,nq3.2.1,fun i hi=>hbits i (jcf _ hi),A2,fun ι hι j o hj=>by
     obtain⟨id',g1,g2,g3,g4,_⟩:=qyi h3 l2 p2 (fun i hi=>T.sub _ (hbits i (jcf _ (jb5 _ hi)))) (c3 _ _ hι) j o hj;exact⟨id',g1,g2,g3,g4⟩,
   fun i hi=>qyf ((jbj.1 b3) i hi),y3⟩
 have hidq:id ∉ rows++subs:=fun hi=>nq1 (jcf _ hi);have hiq:i ∉ rows++subs:=fun h2=>nq3.2.2 i (by simp) i h2 rfl;have hidi:id≠i:=fun e=>nq1 (jb5 _ (by simp[e]));have p0:=hheld.pre p2;have hlive:Live E2 S2.H id:=⟨p2.st.blk id (T.sub _ hTid) hA2 _ hS2 rfl,_,hS2,rfl⟩;have hns:Nums idN 0 isubs:=by
   have:isubs=[]:=ja4.1 (by rw[il2,hc.ns]);rw[this];intro j id hj;simp at hj
 have hrow:∀(j:Nat) (o:IObj),(qaq s.ips idN 0 xi)[j]?=some o->∃i',[i][j]?=some i'/\E2.A i'/\(o.blk=true->E2.hb i'=true)/\OR E2 i' o:=fun j o hj=>by
   obtain⟨i,i1,i2,i3,i4⟩:=ib3 idN 0 hns j o hj;obtain⟨j1,j2,j3,j4,j5⟩:=hle2.alw i i2;exact⟨i,i1,j1,fun hb=>j5.trans (i3 hb),i4.mono hle2 i2 i3 (fun _ _=>by rw[e2])⟩
 have hread:qw5 E2 s xi us [i]:=⟨fun ρ k hk=>(ib2 ρ k hk).mono hle2,hrow⟩;have hAi:E2.A i:=by
   have hj2:0<(qaq s.ips idN 0 xi).length:=by rw[qa9,<- il1];simp
   obtain⟨i',i1,i2,_⟩:=hrow 0 _ (jac hj2);cases i1;exact i2
 have hLi:Live E2 S2.H i:=by
   obtain⟨cs,hcs⟩:=qyf ((jbj.1 b2) i (by simp));exact⟨p2.st.blk i (T.sub _ hTi) hAi _ hcs rfl,_,hcs,rfl⟩
 have hfar:∀i,i ∉ rows++subs->T.r i->E2.A i->Live E2 S2.H i->∀k,(renE 0 (rows++subs) E2).A k->Live (renE 0 (rows++subs) E2) (Sc cfg.lp d).H k->(renE 0 (rows++subs) E2).ρ k≠E2.ρ i:=fun i hi ht ha hl k hk hkl e=>by
   have hk1:k<(rows++subs).length:=by have:=hk.1;omega
   have hm1:=(qb4 hk1).1;obtain⟨h0,o,ho1,ho2⟩:=hkl;have hl2:Live E2 S2.H (ol 0 (rows++subs) k):=⟨h0,(hheld.obj p2 hk1 hk.2 ho1).live ho2⟩;have:=p2.st.inj _ _ (T.sub _ (hheld.w _ hm1)) ht hk.2 ha hl2 hl e;exact hi (this▸hm1)
 have hap:qc2 (renE 0 (rows++subs) E2) (Sc cfg.lp d) (E2.ρ id):=⟨p2.st.own id (T.sub _ hTid) hA2 hlive,hfar id hidq (T.sub _ hTid) hA2 hlive⟩;have hai:qc2 (renE 0 (rows++subs) E2) (Sc cfg.lp d) (E2.ρ i):=⟨p2.st.own i (T.sub _ hTi) hAi hLi,hfar i hiq (T.sub _ hTi) hAi hLi⟩;have hbne:E2.ρ id≠E2.ρ i:=fun e=>hidi (p2.st.inj _ _ (T.sub _ hTid) (T.sub _ hTi) hA2 hAi hlive hLi e);have hbim:E2.ρ i∈E2.m:=p2.st.own i (T.sub _ hTi) hAi hLi;generalize hE0:renE 0 (rows++subs) E2=E0 at p0 hap hai hfar;have hE0w:E0.w=E2.w:=by rw[<- hE0];rfl
 have hE0m:E0.m=E2.m:=by rw[<- hE0];rfl
 generalize hbk:E2.ρ id=b at hap g1' hbne;generalize hbik:E2.ρ i=bi at hai hbne;obtain⟨rec,hrec⟩:∃rec:Loop,rec={ state:=.ready,pending:=none,fn:=fn',tmps:=tmps',params:=[pr].toArray,assign:=assign,body:=body,defers:=E2.ρ D }:=⟨_,rfl⟩;have hl0:E0.w.heap[b]?=some (.loop rec):=by rw[hE0w,g1',hrec]
 have htm:tmps'=tmps:=by
   have h1:=g1';rw[e2,<- hbk,x2,g1] at h1;have h1:=jb8 h1;injection h1 with h1
   injection h1 with _ _ _ h1
   exact h1.symm
 have hargs:VRs E0 (qap cfg.lp idN 0 d) (cfg.ls.map fun t=>rec.tmps.getD t undef):=by
   have e:rec.tmps=tmps:=by rw[hrec];exact htm
   rw[e,<- hE0];exact argsP_env (E:=E2) (E':=renE 0 (rows++subs) E2) (ρ:=ol 0 (rows++subs)) (fun _ h=>h) rfl cfg.lp (fun j a b=>Held.numTo E2 _ (by rw[hheld.len];omega)) (by rw[y2];exact c2 _ _ hheld.num.1)
 generalize hg:qey P tt cfg s.c nt lf cl pr assign body d=g at h5;have hd0:updP cfg.lp d (qdi cfg.lp d)=d:=qq4 _ _;have hT0:∀id,mP cfg.lp<=id->T0.w id:=fun _ _=>trivial
 -- the two states of affairs
 let J:List (El s.c)->World->Prop:=fun pre W=>∃z Wb Ei,foldB g pre (qdi cfg.lp d)=some (z,none)/\Beside bi E0.w Wb/\PostB (mP cfg.lp) T0 (E0.at_ Wb) (Sc cfg.lp d) Ei (Sc cfg.lp (updP cfg.lp d z))/\Ei.w=W
 let K:World->Prop:=fun W=>∃z cd Wb Ei,foldB g l (qdi cfg.lp d)=some (z,some cd)/\Beside bi E0.w Wb/\PostB (mP cfg.lp) T0 (E0.at_ Wb) (Sc cfg.lp d) Ei (Sc cfg.lp (updP cfg.lp d z))/\Upd [b,bi] Ei.w W/\W.heap[b]?=some (.loop { rec with state:=.done,pending:=some cd })
 have hbes0:Beside bi E0.w E0.w:=⟨rfl,rfl,rfl,rfl,fun _ _=>rfl⟩;have hJ0:J [] E0.w:=⟨qdi cfg.lp d,E0.w,E0,rfl,hbes0,by rw[hd0];exact PostB.refl (by rw[qhj];omega) hT0 p0,rfl⟩;have hJu:∀s A B,J s A->Upd [bi] A B->J s B:=fun pre A B ⟨z,Wb,Ei,k1,hW,k2,k3⟩ u=>by
   subst k3;obtain⟨Wb',w1,w2⟩:=jup p0 hai hW k2 hT0 u;exact⟨z,Wb',Ei.at_ B,k1,w1,w2,rfl⟩
 have hKu:∀A B,K A->Upd [bi] A B->K B:=fun A B ⟨z,cd,Wb,Ei,k1,hW,k2,k3,k4⟩ u=>⟨z,cd,Wb,Ei,k1,hW,k2,k3.trans (u.mono (by simp)),(u.same _ (qar k4) (by simpa using hbne)).trans k4⟩;have hRd:∀pre A,J pre A->E2.Le (E2.at_ A):=fun pre A ⟨z,Wb,Ei,k1,hW,k2,k3⟩=>by
   subst k3;refine⟨fun _ h=>⟨h,rfl,rfl,rfl,rfl⟩,⟨fun x hx hxm=>⟨hxm,?_⟩⟩⟩;have hsz:x<Wb.heap.size:=by rw[hW.size,hE0w];exact hx
   have h1:Ei.w.heap[x]?=Wb.heap[x]?:=k2.same x hsz fun k _ ha hl e=>hxm (by rw[<- e,<- hE0m];exact p0.st.own k trivial ha hl);have h2:Wb.heap[x]?=E0.w.heap[x]?:=hW.same x fun e=>hxm (by rw[e,<- hbik];exact hbim);show Ei.w.heap[x]?=E2.w.heap[x]?;rw[h1,h2,hE0w]
 have hround:∀pre x post A0 A u,l=pre++x::post->J pre A0->Upd [bi] A0 A->(∀E:Env,E.w=A->(∀b∈E.m,b<A0.heap.size/\(b<E2.w.heap.size->b∈E2.m))->VR E (asIV s.c x) u)->YieldAt Fence.wide 0 P b #[u] A fun e B=>(∀c,(c=bi\/A0.heap.size<=c)->c<A.heap.size->B.heap[c]?=A.heap[c]?)/\((e=.returned (.bool true)/\J (pre++[x]) B)\/(e=.returned (.bool false)/\K B)):=fun pre x post A0 A u hl ⟨z,Wb0,Ei0,k1,hW0,k20,k30⟩ hup0 hu=>by
   subst k30;obtain⟨_,pW0,hiW0⟩:=p0.beside hai hW0;have hpi0:=k20.pre hT0 pW0;obtain⟨Wb,hW,k2⟩:=jup p0 hai hW0 k20 hT0 hup0;obtain⟨hleW,pW,hiW⟩:=p0.beside hai hW;have hapW:qc2 (E0.at_ Wb) (Sc cfg.lp d) b:=hap;have hapW0:qc2 (E0.at_ Wb0) (Sc cfg.lp d) b:=hap;have hlow0:∀k,(Ei0.at_ A).A k->Live (Ei0.at_ A) (Sc cfg.lp (updP cfg.lp d z)).H k->(Ei0.at_ A).ρ k<Ei0.w.heap.size:=fun k ha hl=>hpi0.st.lo _ (hpi0.st.own k trivial ha hl);have hmem0:∀b∈(Ei0.at_ A).m,b<Ei0.w.heap.size/\(b<E2.w.heap.size->b∈E2.m):=fun b hb=>⟨hpi0.st.lo b hb,fun hlt=>by
     rcases k20.memo b hb with h|h
     · rw[<- hE0m];exact h
     · have:Wb0.heap.size<=b:=h;rw[hW0.size,hE0w] at this;omega⟩
   obtain⟨Ei,hEi⟩:∃Ei,Ei=Ei0.at_ A:=⟨_,rfl⟩;have hEw:Ei.w=A:=by rw[hEi];rfl
   rw[<- hEi] at k2 hlow0 hmem0;rw[<- hEw];have hWb:Wb.heap[b]?=some (.loop rec):=(hW.same b hbne).trans hl0;have hWb0:Wb0.heap[b]?=some (.loop rec):=(hW0.same b hbne).trans hl0;have hb0:b<Ei0.w.heap.size:=qar ((k20.at_same pW0 hapW0).trans hWb0);have hwhole:foldB g (x::post) z=some q:=by
     rw[<- qqm g pre (x::post) _ _ k1,<- hl];exact h5
   have hsnoc:foldB g (pre++[x]) (qdi cfg.lp d)=foldB g [x] z:=qqm g pre [x] _ _ k1;cases hgx:g z x with
   | none=>simp only[foldB,hgx] at hwhole;cases hwhole
   | some q1 =>
   obtain⟨z1,e⟩:=q1;rw[<- hg] at hgx;have hlow:((E0.at_ Wb).bel (mP cfg.lp)).Le Ei:=k2.env pW;have hargsB:VRs ((E0.at_ Wb).bel (mP cfg.lp)) (qap cfg.lp idN 0 d) (cfg.ls.map fun t=>rec.tmps.getD t undef) :=
     argsP_env (E:=E0.at_ Wb) (E':=(E0.at_ Wb).bel (mP cfg.lp)) (ρ:=idN) (fun _ h=>h) rfl cfg.lp (fun j _ hj hA=>⟨⟨hA,by show j<mP cfg.lp;omega⟩,rfl,rfl,rfl,rfl⟩) (hargs.mono hleW)
   have hst:=z07 (E:=Ei) (b:=b) (rec:=rec) hm hcl hfr htt hgx ⟨b4,b5⟩ ⟨by simpa using b6,by simpa using b7⟩ (k2.pre hT0 pW) (k2.apart pW hapW) ((k2.at_same pW hapW).trans hWb)
     (by rw[hrec];exact⟨rfl,rfl,rfl,rfl,rfl,g2'.size⟩) (hargsB.mono hlow) (hu Ei hEw hmem0)
   obtain⟨fnr,tmpr,asr,bdr,hyr,hRr⟩:=hst;refine⟨fnr,tmpr,asr,bdr,hyr,hRr.mono fun en B hB=>?_⟩;obtain⟨E',m1,m2⟩:=hB;have hall:=k2.trans m1;rw[hg] at hgx;have hiA:=k2.apart pW hiW;have hkeep:∀c,(c=bi\/Ei0.w.heap.size<=c)->c<Ei.w.heap.size->E'.w.heap[c]?=Ei.w.heap[c]?:=fun c h1 h2=>m1.same c h2 fun k _ ha hl e=>by
     rcases h1 with h1|h1
     · exact hiA.2 k ha hl (e.trans h1)
     · have:=hlow0 k ha hl;omega
   rcases m2 with ⟨rfl,rfl,rfl⟩|⟨cd,rfl,rfl,m3,m4⟩
   · refine⟨hkeep,.inl ?_⟩;refine⟨rfl,z1,Wb,E',?_,hW,hall,rfl⟩;rw[hsnoc];simp only[foldB,hgx]
   · refine⟨fun c h1 h2=>(m3.same c (qar ((hkeep c h1 h2).trans (jcs h2))) (fun hc=>by
       have hcb:c=b:=by simpa using hc
       rcases h1 with h1|h1
       · exact hbne (hcb.symm.trans h1)
       · omega)).trans (hkeep c h1 h2),.inr ?_⟩
     refine⟨rfl,z1,cd,Wb,E',?_,hW,hall,m3.mono (by simp),m4⟩;rw[hl,qqm g pre (x::post) _ _ k1];simp only[foldB,hgx]
 have hit:=hc.it E2 xi us i l h4 p2.gl hread hbim p2.st.lo b J K;rw[hbik] at hit;have hit:=hit hJu hKu hRd hround (by rw[<- hE0w];exact hJ0);have hu0:u0=.func (.yield b) #[] #[]:=by
   cases a1;rw[<- hbk,x2,z2]
 have hw:E2.w=E.w:=by rw[e2,e1]
 rw[hw] at hit;rw[hu0,show (Value.func (.yield b) #[] #[]::us).toArray=#[.func (.yield b) #[] #[]]++us.toArray by simp];refine hit.mono fun en B ⟨hen,hB⟩=>?_
 -- what comes back
 have hfin:∀(z:ElP (refs cfg.lp)) (pe:Option Code) (Wb:World) (Ei:Env),q=(z,pe)->Beside bi E0.w Wb->PostB (mP cfg.lp) T0 (E0.at_ Wb) (Sc cfg.lp d) Ei (Sc cfg.lp (updP cfg.lp d z))->Upd [b] Ei.w B ->
     B.heap[b]?=some (.loop { rec with state:=cond pe.isNone .ready .done,pending:=pe })->RetE T E S (qlf S2 cfg id nt fr pr D assign body i rows subs (w1 ||| w2) q) en B:=fun z pe Wb Ei hqz hW k2 hup hbl=>by
   subst hqz;rw[hE0w,<- hbik] at hW;obtain⟨wr1,wr2⟩:=Post.write (o':=.dead) p2 hTi hAi hLi hW.upd trivial;have hheldW:=hheld.dead p2 hTi hAi hLi hiq hW;have p2W:=wr1.pre p2;have hle2W:=wr1.env p2;have hE0W:E0.at_ Wb=renE 0 (rows++subs) (E2.at_ Wb):=by rw[<- hE0];rfl
   rw[<- zcz cfg.lp d z,hE0W] at k2;obtain⟨m1,m2⟩:=hheldW.back (s:=sQ cfg.lp) (x:=d) p2W k2;have p3:=m1.pre p2W;have hle3:=m1.env p2W;obtain⟨n1,n2,n3,n4,n5⟩:=hle3.alw id hA2;have hlt:id<S2.next:=p2.bnd id hA2
   have hSd:(S2.set i .dead).H id=some (.loop .ready none nt fr [pr] assign body D):=by rw[IS.H_set,up_ne _ _ hidi];exact hS2
   have hobj:(qb0 (sQ cfg.lp) S2.next rows subs () z (S2.set i .dead)).H id=some (.loop .ready none nt fr [pr] assign body D):=by
     unfold qb0;rw[qcc,qp7,qru,jao (show id<(S2.set i .dead).next from hlt),qhh (fun h=>hidq (jb5 _ h)),qmv (fun h=>hidq (jcf _ h))];exact hSd
   have hL3:Live (mrgR (E2.at_ Wb) Ei S2.next (mP (sQ cfg.lp).ps)) (qb0 (sQ cfg.lp) S2.next rows subs () z (S2.set i .dead)).H id:=⟨n5.trans hlive.1,_,hobj,rfl⟩;have n2':(mrgR (E2.at_ Wb) Ei S2.next (mP (sQ cfg.lp).ps)).ρ id=b:=n2.trans hbk;have hub:Upd [(mrgR (E2.at_ Wb) Ei S2.next (mP (sQ cfg.lp).ps)).ρ id] (mrgR (E2.at_ Wb) Ei S2.next (mP (sQ cfg.lp).ps)).w B:=by rw[n2'];exact hup
   have hle4:=Env.at_le p3.st hTid n1 hL3 hub;obtain⟨w1',w2'⟩:=Post.write p3 (o':=.loop (cond pe.isNone .ready .done) pe nt fr [pr] assign body D) hTid n1 hL3 hub ⟨fn',tmps',by
     show B.heap[(mrgR (E2.at_ Wb) Ei S2.next (mP (sQ cfg.lp).ps)).ρ id]?=_;rw[n2',hbl,hrec];have:E2.ρ D=(mrgR (E2.at_ Wb) Ei S2.next (mP (sQ cfg.lp).ps)).ρ D:=((hle3.alw D g3').2.1).symm;show some (Obj.loop { state:=cond pe.isNone .ready .done,pending:=pe,fn:=fn',tmps:=tmps',params:=[pr].toArray,assign:=assign,body:=body,defers:=E2.ρ D })=_;rw[this];rfl,((g2'.mono hle2W).mono hle3).mono hle4,(hle4.alw D (hle3.alw D g3').1).1⟩
   have r0:=Post.trans p hq12 hf12 wr1;have rf0:=hf12.trans wr2 hq12.le;have r1:=Post.trans p r0 rf0 m1;have rf1:=rf0.trans m2 r0.le;exact⟨_,_,hen,rfl,.tup (us:=[]) rfl (fun i h=>by simp at h),Post.trans p r1 rf1 w1',rf1.trans w2' r1.le⟩
 rcases hB with ⟨z,Wb,Ei,k1,hW,k2,k3⟩|⟨z,cd,Wb,Ei,k1,hW,k2,k3,k4⟩
 · obtain⟨_,pW,_⟩:=p0.beside hai hW;have hapW:qc2 (E0.at_ Wb) (Sc cfg.lp d) b:=hap;refine hfin z none Wb Ei (jb8 (h5.symm.trans k1)) hW k2 (by rw[k3];exact Upd.refl _ _) ?_;rw[<- k3,(k2.at_same pW hapW),show (E0.at_ Wb).w.heap[b]?=some (.loop rec) from (hW.same b hbne).trans hl0,hrec];rfl
 · obtain⟨_,pW,_⟩:=p0.beside hai hW;have hapW:qc2 (E0.at_ Wb) (Sc cfg.lp d) b:=hap;have hEb:Ei.w.heap[b]?=some (.loop rec):=(k2.at_same pW hapW).trans ((hW.same b hbne).trans hl0);have hltb:b<B.heap.size:=qar k4;have hsp:Upd [bi] Ei.w (B.putObj b (.loop rec)):=⟨k3.os,k3.tape,k3.output,by rw[(Beside.put B b (.loop rec)).size];exact k3.size,fun x hx hn=>by
     by_cases e:x=b
     · subst e;rw[jbs hltb,hEb]
     · rw[jcc e];exact k3.same x hx (by simp at hn ⊢;exact⟨e,hn⟩)⟩
   obtain⟨Wb',v1,v2⟩:=jup p0 hai hW k2 hT0 hsp;exact hfin z (some cd) Wb' (Ei.at_ (B.putObj b (.loop rec))) (jb8 (h5.symm.trans k1)) v1 v2 (Beside.put B b (.loop rec)).symm.upd k4
theorem zok(hm:P.follows .mixedOrders=true)(htt:TT P tt){f:Nat}{s:SmI}(k:Nat)(cfg:LpC)(lf:Nat)(hc:ConW P f s):HxOK P f (itWx P tt k s cfg lf).f :=
 ⟨fun cl h1 h2 _ vs S r h T E us p hr hw hv=>z1t hm htt hc h1 h2 h p hr hw hv,fun cl _ vs S=>zp0,fun cl _ vs S r h hw _=>(z11 h hw).elim⟩
end
end Go.Jx
end

section
namespace Go.Jx
open Go Go.Sx Go.RowKit
theorem zjj{E:Env}{k:IntKind}{n:Int}{v:Value}(h:VR E (.int k n) v):v=.int k n:=by cases h;rfl
theorem z0h{E:Env}{s:ByteArray}{v:Value}(h:VR E (.str s) v):v=.string s:=by cases h;rfl
theorem zm2{E:Env}{b:Bool}{v:Value}(h:VR E (.bool b) v):v=.bool b:=by cases h;rfl
end Go.Jx
end

section
set_option maxRecDepth 100000
namespace Go.Jx
open Go Go.Sx Go.RowKit
theorem VR.asE{E E':Env}(hm:∀b,b∈E'.m->b∈E.m)(hw:E'.w=E.w){c:TC}{x:El c}{u:Value}(h:VR E (asIV c x) u):VR E' (asIV c x) u:=by
 cases c with
 | two a b =>
  cases h with
  | agg hl hh=>exact .agg hl fun i a b=>(VR.noid hm hw (hh i a b)).2.2 _ _ (jbk a)
 | int k=>exact(VR.noid hm hw h).2.2 (.int k) x (by simp[cel,asIV])
 | bool=>exact(VR.noid hm hw h).2.2 .bool x (by simp[cel,asIV])
 | str=>exact(VR.noid hm hw h).2.2 .str x (by simp[cel,asIV])
 | list c=>exact(VR.noid hm hw h).2.2 (.list c) x (by simp[cel,asIV])
end Go.Jx
namespace Go.Sx
open Go Go.RowKit
section
variable {P : Program} {n : Nat} {σ : Nat -> Value} {w : World} {ops : Array Oper} {rest : List Oper} {d : Nat} {ty : TypeId} {pos : String} {aft : Array Edge} {g : Option (Nat × Bool)}
def cutA(a:Addr)(cap k s:Nat):Addr:=if cap=k then a else a.add (k*s)
theorem zr6{T E:TypeId}{size bytes s2 b2:Nat}{zero z2:Value}{E':TypeDesc}{a:Addr}{len cap k:Nat}{kk:IntKind}(hT:Ty P T (.slice E) size bytes zero)(hE:Ty P E E' s2 b2 z2)(hl:k<=len)(hc:len<=cap) :
  (Instr.sliceAt T (.slice (some a) len cap) (some (.int kk (k:Nat))) none none).run P w=.ok (.slice (some (cutA a cap k s2)) (len-k) (cap-k)) w:=by
 have h1:(0:Int)<=(k:Nat)/\((k:Nat):Int)<=len:=⟨by omega,by omega⟩;by_cases h3:cap=k
 ·subst h3;simp only[Instr.sliceAt,jag,jap hT.und,jab,Instr.slice,Instr.sliceBounds,Instr.sliceBound,asIntOf,jaf,h1,je1,jcy,run_sizeOf hE,cutA];simp
 ·rw[q5p hT hE (by omega) hl hc];unfold cutA;rw[jan h3]
theorem zpt{Q:Exit->Act->World->Prop}{T E:TypeId}{size bytes s2 b2:Nat}{zero z2:Value}{E':TypeDesc}{x y:Operand}{a:Addr}{len cap k:Nat}{kk:IntKind}(hT:Ty P T (.slice E) size bytes zero)(hE:Ty P E E' s2 b2 z2)
  (hg:qao ops σ n g=true) (hx:(okO n x&&okO n y)=true) (ex:ev σ x=.slice (some a) len cap) (ey:ev σ y=.int kk (k:Nat)) (hl:k<=len) (hc:len<=cap)
  (kt:wpList P ops Q rest (Fr n (upd σ d (.slice (some (cutA a cap k s2)) (len-k) (cap-k)))) w):wpList P ops Q (⟨some d,.slice T x (some y) none none,ty,pos,aft,g⟩::rest) (Fr n σ) w:=by
 simp only[jae] at hx;exact qbd hg (by simp only[execOp,qas hx.1,ex,Option.map_none,jc8,qas hx.2,ey,zr6 hT hE hl hc,jag,jaf,jab]) kt
theorem SL.cut{M:List Nat}{a:Addr}{cap k:Nat}{l:List ByteArray}(h:SL M w (some a) cap l)(hk:k<=l.length):SL M w (some (cutA a cap k 1)) (cap-k) (l.drop k):=by
 obtain⟨⟨h1,h2⟩,h3⟩:=h;refine⟨⟨by rw[jax];omega,by omega⟩,?_⟩;rcases h3 with rfl|⟨b,off,cells,t,fz,ha,hb,hh,hall⟩
 ·exact .inl (by simp)
 ·cases ha;by_cases hc:cap=k
  ·exact .inl (jbn (by omega))
  ·refine .inr ⟨b,off+k,cells,t,fz,?_,hb,hh,fun i hi=>?_⟩
   ·unfold cutA;rw[jan hc,qbj _ rfl,jfn]
   ·rw[jax] at hi;obtain⟨cs,c1,c2⟩:=hall (k+i) (by omega);refine⟨cs,by rw[List.getElem_drop];exact c1,fun j hj=>?_⟩;have:=c2 j hj;have e:(Dat.sz ByteArray)=1:=rfl;rw[e] at this ⊢;rw[show off+k+i*1+j=off+(k+i)*1+j by omega];exact this
end
end Go.Sx
namespace Go.Proofs.YtnhmanoiolfapaaGreat
open Go Go.Sx Go.RowKit Go.Jx
theorem zpn:Fld Tryz.prog 151 1 1:=Fld.mk (F := ⟨"sectors", 3,1, false, "", "cosigner/keep", 24⟩) qii rfl ty3
theorem ztf:Fld Tryz.prog 151 2 2:=Fld.mk (F := ⟨"torn", 4,2, false, "", "cosigner/keep", 32⟩) qii rfl ty4
theorem zkb(M:List Nat)(w:World):Gl M w:=⟨fun b hb=>by cases hb⟩
theorem zsk{w:World}{m0:List Nat}{a:Option Addr}{cap:Nat}{l:List ByteArray}(hS:SL m0 w a cap l)(h1:S.secs1 l=true) :
  Calls Tryz.prog 112 #[.slice a l.length cap] w (Ret fun v w'=>Upd [] w w'/\(∃a1 n1 c1,v=.agg #[.slice a1 n1 c1,.int .i64 (S.readK l).2.1,.bool (S.readK l).2.2]) /\
   ∀E:Env,E.w=w'->(∀x∈E.m,x<w.heap.size/\∀ad,a=some ad->x≠ad.block)->VR E (asIV cKeepRecord (S.readK l)) v):=by
 obtain⟨hn,hlen,hsz⟩:=zc7 h1;obtain⟨⟨hc1,hc2⟩,h|⟨b,off,cells,t,fz,rfl,hb,hh,hall⟩⟩:=hS
 ·rw[h] at hn;simp at hn
 have hlt:=qar hh
 let M0:=(List.range w.heap.size).filter fun x=>!(x==b)
 have hM0:∀x∈M0,x<w.heap.size:=fun x hx=>by
  have:=(jdm.1 hx).1;simpa using this
 have hbM:b ∉ M0:=fun hx=>by
  have:=(jdm.1 hx).2;simp at this
 have hv:VR (EM M0 w) (.lst .str l) (.slice (some ⟨b,off,none⟩) l.length cap):=by
  refine VR.lst (fun i _=>.string (l.getD i S.none_)) hc1 hc2 (by show l.length*16<=_;omega) hbM hh (fun i hi j hj=>?_) (fun i hi j hj=>?_)
  ·have hj:j<1:=hj;have:j=0:=by omega
   subst this;obtain⟨cs,c1,c2⟩:=hall i hi;have c1:cs=[.string l[i]]:=c1;have:=c2 0 (by show 0<1;omega);rw[c1] at this;have hi:i<List.length (α:=ByteArray) l:=hi;rw[jai,jac hi];exact this
  ·have hj:j<1:=hj;have:j=0:=by omega
   subst this;have hi:i<List.length (α:=ByteArray) l:=hi;rw[jai,jac hi];show VR _ (.str l[i]) (.string l[i]);exact .str _ (by have:=hsz l[i] (jbk hi);omega)
 have hcall:=zt9.calls M0 w (l,()) [.slice (some ⟨b,off,none⟩) l.length cap] (S.readK l,()) (by
  show cond (S.secs1 l) (some (S.readK l,())) none=_;rw[h1];rfl) hM0 (zkb _ _) (.cons hv .nil)
 refine(jdl.1 hcall).mono fun e w' hR=>?_;obtain⟨v,E',rfl,rfl,k1,k2,k3⟩:=hR;have k1:VR E' (asIV cKeepRecord (S.readK l)) v:=k1;refine⟨⟨k2.stp.os,k2.stp.tape,k2.stp.output,k2.stp.size,fun x hx _=>k2.stp.same x hx fun id _ hA _=>hA.elim⟩,?_,fun E hE hm=>VR.asE (fun x hx=>?_) hE k1⟩
 ·generalize S.readK l=r at k1;obtain⟨cl,nn,tt⟩:=r;have k1:VR E' (.agg [.lst cCell cl,.int .i64 nn,.bool tt]) v:=k1;cases k1 with
  | @agg _ us hl hh2 =>
   match us,hl,hh2 with
   | [x1,x2,x3],hl,hh2 =>
    have q1:VR E' (.lst cCell cl) x1:=hh2 0 (by simp) (by simp);have q2:VR E' (.int .i64 nn) x2:=hh2 1 (by simp) (by simp);have q3:VR E' (.bool tt) x3:=hh2 2 (by simp) (by simp);rw[zjj q2,zm2 q3];cases q1 with
    | lst0 _=>exact⟨_,_,_,rfl⟩
    | lst us h1 h2 h3 hb hh hc hu=>exact⟨_,_,_,rfl⟩
 ·obtain⟨h2,h3⟩:=hm x hx;have hxb:x≠b:=h3 _ rfl;have hx0:x∈M0:=jdm.2 ⟨by simpa using h2,by simpa using hxb⟩;rcases k2.stp.mem x hx0 h2 with h|⟨id,_,hA,_⟩
  ·exact h
  ·exact hA.elim
theorem qz6(l:List ByteArray)(h:(S.readK l).2.2=false):1<=(S.readK l).2.1.toNat/\(S.readK l).2.1.toNat<=l.length/\(S.readK l).2.1=((S.readK l).2.1.toNat:Int):=by
 revert h
 unfold S.readK;split
 ·intro h;cases h
 ·rename_i hc;have h1:1<=S.recM (qab (l.getD 0 S.none_)):=by unfold S.recM;omega
  have h2:S.recM (qab (l.getD 0 S.none_))<=l.length:=by omega
  split
  ·intro _;exact⟨by simpa using h1,by simpa using h2,by simp⟩
  ·intro _;exact⟨by simpa using h1,by simpa using h2,by simp⟩
theorem zg2:∀(f:Nat) (l:List ByteArray),l.length<f->S.recsGo f l=S.recsGo (l.length+1) l:=by
 intro f;induction f using Nat.strongRecOn with
 | ind f ih =>
  intro l hl;cases l with
  | nil=>cases f with
   | zero=>omega
   | succ f=>rfl
  | cons s r=>cases f with
   | zero=>omega
   | succ f =>
    show (if (qab s).getD 0 0=0 then [] else S.readK (s::r)::cond (S.readK (s::r)).2.2 [] (S.recsGo f ((s::r).drop (S.readK (s::r)).2.1.toNat)))=(if (qab s).getD 0 0=0 then [] else S.readK (s::r)::cond (S.readK (s::r)).2.2 [] (S.recsGo (s::r).length ((s::r).drop (S.readK (s::r)).2.1.toNat)));by_cases h0:(qab s).getD 0 0=0
    ·rw[jao h0,jao h0]
    ·rw[jan h0,jan h0];cases ht:(S.readK (s::r)).2.2 with
     | true=>rfl
     | false =>
      obtain⟨h1,h2,_⟩:=qz6 (s::r) ht;have hd:((s::r).drop (S.readK (s::r)).2.1.toNat).length<(s::r).length:=by rw[jax];simp only[jar] at *;omega
      show _::S.recsGo f _=_::S.recsGo _ _;rw[ih f (by omega) _ (by simp only[jar] at *;omega)];by_cases hf:(s::r).length=f
      ·rw[hf,ih f (by omega) _ (by simp only[jar] at *;omega)]
      ·rw[ih (s::r).length (by simp only[jar] at *;omega) _ hd]
theorem qy5(s:ByteArray)(r:List ByteArray):S.recsK (s::r)=if (qab s).getD 0 0=0 then [] else S.readK (s::r)::cond (S.readK (s::r)).2.2 [] (S.recsK ((s::r).drop (S.readK (s::r)).2.1.toNat)):=by
 show (if (qab s).getD 0 0=0 then [] else S.readK (s::r)::cond (S.readK (s::r)).2.2 [] (S.recsGo (s::r).length ((s::r).drop (S.readK (s::r)).2.1.toNat)))=_;by_cases h0:(qab s).getD 0 0=0
 ·rw[jao h0,jao h0]
 ·rw[jan h0,jan h0];cases ht:(S.readK (s::r)).2.2 with
  | true=>rfl
  | false =>
   obtain⟨h1,h2,_⟩:=qz6 (s::r) ht;have hd:((s::r).drop (S.readK (s::r)).2.1.toNat).length<(s::r).length:=by rw[jax];simp only[jar] at *;omega
   show _::S.recsGo _ _=_::S.recsK _;unfold S.recsK;rw[zg2 _ _ hd]
theorem zsw{s:ByteArray}(h:0<s.size):((qfj s 0).toNat:Int)=(qab s).getD 0 0:=by
 rw[jai,zkl h];unfold qfj;rw[jai,jac (by simpa using h)];rfl
theorem q4p{l:List ByteArray}(h:S.secs l=true)(k:Nat):S.secs (l.drop k)=true:=by
 obtain⟨h1,h2⟩:=qht h;unfold S.secs S.anyShort;rw[jae];refine⟨jau (by rw[jax];omega),?_⟩;rw[jb4,jc5];intro s hs;have:=h2 s (jdo hs);unfold S.short;simp[this]
section
attribute [local irreducible] Go.wpList Go.wpQuiet Go.Code.wp
theorem zm4{W0:World}{b:Nat}{m0:List Nat}{r0:List Value}{a0:Option Addr}{cap0:Nat}{l0:List ByteArray}(hbm:b∈m0)(hlo:∀x∈m0,x<W0.heap.size)(hS0:SL m0 W0 a0 cap0 l0)(hl0:S.secs l0=true)(hbox0:Box W0 b (.slice a0 l0.length cap0::r0)) :
   q9b Tryz.prog 111 [.pointer (some ⟨b,0,none⟩)] b m0 W0 (fun W=>Tr m0 W0 m0 W) (fun(x:qfi) u E=>VR E (asIV cKeepRecord x) u) (S.recsK l0):=by
 intro l J K hJ hK hR hy h0;refine jdl.2 (Calls.mono (R:=Ret fun v B=>v=.tuple #[]/\(J (S.recsK l0) B\/K B)) ?_ (fun e B h=>by cases e<;>first|exact⟨by rw[h.1],h.2⟩|exact h.elim));refine(enter (l:=[.func (.yield l) #[] #[],.pointer (some ⟨b,0,none⟩)]) Tryz.func111 rfl Tryz.ntmps111 rfl ?_);refine wp_block ?_;refine q0j (X:=(List qfi × List ByteArray) × (Option Addr × Nat)) ((List.range 28).drop 3) (fun _=>[]) (fun x w1=>J x.1.1 w1/\SL m0 W0 x.2.1 x.2.2 x.1.2/\Box w1 b (.slice x.2.1 x.1.2.length x.2.2::r0)/\S.secs x.1.2=true/\S.recsK l0=x.1.1++S.recsK x.1.2) (fun x=>x.1.2.length) (([],l0),(a0,cap0)) trivial ⟨h0,hS0,hbox0,hl0,rfl⟩ ?_;rintro⟨⟨pre,lr⟩,a,cap⟩ τ w1 ⟨hj,hs0,hbox,hsec,hrec⟩;have hs1:SL m0 w1 a cap lr:=hs0.mono (hR _ _ hj);refine qak fun K1 hK1=>?_;refine qak fun K2 hK2=>?_;refine qau ?_;refine qg1 (v:=.slice a lr.length cap) ty22 rfl rfl rfl rfl hbox rfl ?_;refine qyl ty22 rfl rfl rfl ?_;refine qpu rfl rfl rfl rfl ?_;cases lr with
 | nil =>
   refine qaw (v:=.bool false) rfl rfl rfl ?_;refine qgh rfl ?_;refine qgh rfl ?_;refine qgh rfl ?_;refine qgh rfl ?_;refine qgh rfl ?_;refine qz9 (v:=.bool false) rfl rfl rfl rfl ?_;refine jbf ?_;refine hK2 _ _ ?_;refine qm5 rfl rfl ?_;refine wp_exit ?_;have e:S.recsK l0=pre:=by rw[hrec];exact jbo _
   exact zbc Tryz.results111 ⟨rfl,.inl (by rw[e];exact hj)⟩
 | cons s r =>
   obtain⟨hlen,hsz⟩:=qht hsec;have hs64:s.size=64:=hsz s (by simp);refine qaw (v:=.bool true) rfl rfl (jav Value.bool (jaj (by show (0:Int)<((r.length+1:Nat):Int);omega))) ?_;refine qg1 (v:=.slice a (s::r).length cap) ty22 rfl rfl rfl rfl hbox rfl ?_;refine zwv (j:=0) ty22 ty9 rfl rfl rfl rfl rfl hs1 (by simp) fun ad cs u hget henc hca=>?_;have hus:u=s:=by simpa using hget.symm
   subst hus;have henc:cs=[.string u]:=henc;subst henc;refine zzy (v:=.string u) ty9 rfl rfl rfl rfl hca rfl ?_;refine zme (j:=0) ty9.und rfl rfl rfl rfl (by omega) ?_;refine za2 rfl rfl rfl rfl ?_;refine za3 (v:=.bool (decide (((qfj u 0).toNat:Int)≠0))) rfl rfl rfl rfl ?_;refine jbf ?_;refine hK2 _ _ ?_;have hb0:=zsw (s:=u) (by omega);refine c_if rfl rfl (fun hne=>?_) (fun hne=>?_)
   · refine je6 ?_;refine hK1 _ _ ?_;have hne:¬(qab u).getD 0 0=0:=by rw[<- hb0];exact hne
     have hrk:=qy5 u r;rw[jan hne] at hrk;have hsec1:S.secs1 (u::r)=true:=by unfold S.secs1;rw[hsec];rfl
     generalize hL:u::r=L at *;refine wp_block ?_;refine qak fun K3 hK3=>?_;refine qau ?_;refine qg1 (v:=.slice a L.length cap) ty22 rfl rfl rfl rfl hbox rfl ?_;refine qgs (l:=[.tmp 14]) (args:=[.slice a L.length cap]) q44 rfl rfl rfl (zsk hs1 hsec1) ?_;rintro _ w2 ⟨u2,⟨a1,n1,c1,rfl⟩,hvr⟩;refine ziy (zs:=[.slice none 0 0,.int .i64 0,.bool false]) qii rfl rfl fun β w3 hβ u3 hz3 hx3=>?_;refine q16 (v:=.agg #[.slice a1 n1 c1,.int .i64 (S.readK L).2.1,.bool (S.readK L).2.2]) (cs':=[.slice a1 n1 c1,.int .i64 (S.readK L).2.1,.bool (S.readK L).2.2]) qii rfl rfl rfl rfl hx3 rfl rfl rfl fun w4 u4 hz4 hx4=>?_;refine jbf ?_;refine hK3 _ _ ?_;have hβ1:w1.heap.size<=β:=by rw[<- hβ];exact u2.size
     have u24:Upd [] w2 w4:=Upd.old_upd u3 u4 (by omega);have u14:Upd [] w1 w4:=u2.trans u24;have hbox4:=hbox.mono0 u14;have hbltw1:b<w1.heap.size:=hbox.lt;have hneb:b≠β:=by omega
     -- what is handed over
     have hgive:∀E:Env,E.w=w4->(∀x∈E.m,x<w1.heap.size/\(x<W0.heap.size->x∈m0))->VR E (asIV cKeepRecord (S.readK L)) (.agg #[.slice a1 n1 c1,.int .i64 (S.readK L).2.1,.bool (S.readK L).2.2]):=fun E hE hm=>by
       have h1:=hvr (E.at_ w2) rfl (fun x hx=>⟨(hm x hx).1,fun ad had=>?_⟩)
       · refine VR.mono (E:=E.at_ w2) (E':=E) ⟨fun _ h=>⟨h,rfl,rfl,rfl,rfl⟩,⟨fun x hx hxm=>⟨hxm,?_⟩⟩⟩ h1;show E.w.heap[x]?=w2.heap[x]?;rw[hE];exact u24.same x hx (by simp)
       · subst had;obtain⟨_,h|⟨bl,off,cells,t,fz,ha,hbl,hh,_⟩⟩:=hs0
         · rw[<- hL] at h;cases h
         · cases ha;intro e;have e:x=bl:=e;exact hbl (e▸(hm x hx).2 (by rw[e];exact qar hh))
     have hsp:S.recsK l0=pre++S.readK L::cond (S.readK L).2.2 [] (S.recsK (L.drop (S.readK L).2.1.toNat)):=by rw[hrec,hrk]
     refine qak fun K4 hK4=>?_;refine qak fun K5 hK5=>?_;refine(wpIn_wide (n:=0)).1 (wpIn_region_lit (zwx 2 rfl ?lo rfl ?_))
     case lo=>rintro⟨_,_,h⟩;exact(show False from h)
     dsimp only [List.take_succ_cons,je2,List.drop_succ_cons,jdk];refine qaw (v:=.func (.yield l) #[] #[]) rfl rfl rfl ?_;refine qul (ds:=[.slice a1 n1 c1,.int .i64 (S.readK L).2.1,.bool (S.readK L).2.2]) qii rfl rfl rfl rfl hx4 rfl rfl ?_;refine jbf ?_;refine z14 ?_;refine zq3 rfl rfl rfl rfl rfl (hy pre (S.readK L) _ w1 w4 _ hsp hj (u14.mono (by simp)) hgive) ?_;rintro e w5 ⟨hfr,⟨rfl,hj5⟩|⟨rfl,hk5⟩⟩
     · have hx5:Box w5 β [.slice a1 n1 c1,.int .i64 (S.readK L).2.1,.bool (S.readK L).2.2]:=by
         obtain⟨t6,ht6⟩:=hx4;exact⟨t6,(hfr β (.inr hβ1) (qar ht6)).trans ht6⟩
       have hbox5:Box w5 b (.slice a L.length cap::r0):=by
         obtain⟨t6,ht6⟩:=hbox4;exact⟨t6,(hfr b (.inl rfl) (qar ht6)).trans ht6⟩
       refine⟨_,rfl,q94 rfl ?lo rfl ?_⟩
       case lo=>rintro⟨_,_,h⟩;exact(show False from h)
       refine q6t rfl rfl rfl ?_;refine qaw (v:=.bool false) rfl rfl rfl ?_;refine qt7 ztf rfl rfl rfl ?_;refine qg1 (v:=.bool (S.readK L).2.2) ty4 rfl rfl rfl rfl hx5 rfl ?_;refine qz9 (v:=.bool (S.readK L).2.2) rfl rfl rfl rfl ?_;refine jbf ?_;refine hK5 _ _ ?_;refine qq7 rfl rfl (fun ht=>?_) (fun ht=>?_)
       · rw[ht,jaa] at hsp;rw[<- hsp] at hj5;refine je8 ?_;exact ret0 Tryz.results111 ⟨rfl,.inl hj5⟩
       · rw[ht,jad] at hsp;obtain⟨k1,k2,k3⟩:=qz6 L ht;refine je6 ?_;refine hK4 _ _ ?_;obtain⟨ad,had⟩:∃ad,a=some ad:=by
           obtain⟨_,h|⟨bl,off,cells,t,fz,ha,_⟩⟩:=hs0
           · rw[<- hL] at h;cases h
           · exact⟨_,ha⟩
         subst had;have hcap:L.length<=cap:=hs0.1.1;refine qau ?_;refine qg1 (v:=.slice (some ad) L.length cap) ty22 rfl rfl rfl rfl hbox5 rfl ?_;refine qt7 zpn rfl rfl rfl ?_;refine qg1 (v:=.int .i64 ((S.readK L).2.1.toNat:Int)) ty3 rfl rfl rfl rfl hx5 (by rw[<- k3];rfl) ?_;refine zpt ty22 ty9 rfl rfl rfl rfl k2 hcap ?_;refine q16 (v:=.slice (some (cutA ad cap (S.readK L).2.1.toNat 1)) (L.length-(S.readK L).2.1.toNat) (cap-(S.readK L).2.1.toNat)) (cs':=.slice (some (cutA ad cap (S.readK L).2.1.toNat 1)) (L.drop (S.readK L).2.1.toNat).length (cap-(S.readK L).2.1.toNat)::r0) ty22 rfl rfl rfl rfl hbox5 rfl (by
           simp only[jar,ja0,jae];exact⟨⟨rfl,jau (by show 0+1<=r0.length+1;omega)⟩,rfl⟩) (by rw[jax];rfl) fun w6 u6 hz6 hx6=>?_
         refine jbf ?_;exact⟨((pre++[S.readK L],L.drop (S.readK L).2.1.toNat),(some (cutA ad cap (S.readK L).2.1.toNat 1),cap-(S.readK L).2.1.toNat)),by show (L.drop _).length<L.length;rw[jax];omega,⟨hJ _ _ _ hj5 u6,hs0.cut k2,hx6,q4p hsec _,by rw[hsp,jaz];rfl⟩,_,rfl,(by repeat first|exact qbh.refl _ _|refine qbh.upd rfl ?_|refine qbh.upds rfl ?_|refine qbh.mix rfl ?_),trivial⟩
     · refine⟨_,rfl,q94 rfl ?lo rfl ?_⟩
       case lo=>rintro⟨_,_,h⟩;exact(show False from h)
       refine q6t rfl rfl rfl ?_;refine qaw (v:=.bool true) rfl rfl rfl ?_;refine qgh rfl ?_;refine qgh rfl ?_;refine za3 (v:=.bool true) rfl rfl rfl rfl ?_;refine jbf ?_;refine hK5 _ _ ?_;refine q6v rfl rfl ?_;refine je8 ?_;exact ret0 Tryz.results111 ⟨rfl,.inr hk5⟩
   · refine wp_exit ?_;have hz:(qab u).getD 0 0=0:=by rw[<- hb0];exact Decidable.not_not.1 hne
     have e:S.recsK l0=pre:=by rw[hrec,qy5,jao hz];exact jbo _
     exact zbc Tryz.results111 ⟨rfl,.inl (by rw[e];exact hj)⟩
end
end Go.Proofs.YtnhmanoiolfapaaGreat
namespace Go.Proofs.YtnhmanoiolfapaaGreat
open Go Go.Sx Go.RowKit Go.Jx
theorem zrn:ConW Tryz.prog 111 zba:=by
 refine⟨zrd,rfl,fun E x us i l hl hgl hrd hbm hlo=>?_⟩;obtain⟨⟨L0,_⟩,_⟩:=x;obtain⟨L,hL⟩:∃L:List ByteArray,L=L0:=⟨L0,rfl⟩;subst hL;obtain⟨hsec,rfl⟩:=qa5 (show cond (S.secs L) (some (S.recsK L)) none=some l from hl);obtain⟨hlen,hsz⟩:=qht hsec;obtain⟨h1,h2⟩:=hrd;obtain⟨i',i1,i2,i3,i4⟩:=h2 0 _ rfl;have e0:i=i':=by simpa using i1
 subst e0;have i4:OR E i (.row [.lst .str L]):=i4;obtain⟨cells,t,k1,k2,k3,k4⟩:=i4;have ha:=h1 (fun _=>i) 0 (fun j id hj=>by
  cases j with
  | zero=>simpa using hj
  | succ j=>simp at hj)
 obtain⟨u,us',rfl,a1,a2⟩:=VRs.inv (v:=.ptr i 0) (cs:=[]) ha;obtain rfl:us'=[]:=ja4.1 a2.1.symm;have hu:u=.pointer (some ⟨E.ρ i,0,none⟩):=by cases a1;rfl
 subst hu;obtain⟨h0,r0,hc0⟩:∃h0 r0,cells.toList=h0::r0:=by
  cases hc:cells.toList with
  | nil=>have:=jav List.length hc;simp at this;simp [this] at k3
  | cons h r=>exact⟨h,r,rfl⟩
 have hv:VR E (.lst .str L) h0:=by
  have:=k4.2 0 (by simp) (by simp[hc0]);simpa [hc0] using this
 have hS:∃a cap,h0=.slice a L.length cap/\SL (α:=ByteArray) E.m E.w a cap L:=by
  cases hv with
  | @lst0 _ a cap hc=>exact⟨a,cap,rfl,⟨jcd _,hc⟩,.inl rfl⟩
  | @lst _ _ bl off cap cells t fz us q1 q2 q3 hb hh hc hu =>
   refine⟨_,cap,rfl,⟨q1,q2⟩,.inr ⟨bl,off,cells,t,fz,rfl,hb,hh,fun j hj=>?_⟩⟩;refine⟨[.string L[j]],rfl,fun k hk=>?_⟩;have hk:k<1:=hk;have hk0:k=0:=by omega
   subst hk0;have q5:=hc j hj 0 (by show 0<1;omega);have q6:VR E (.str L[j]) (us j 0):=hu j hj 0 Nat.zero_lt_one;rw[z0h q6] at q5;exact q5
 obtain⟨a,cap,rfl,hS⟩:=hS;have hbox:Box E.w (E.ρ i) (.slice a L.length cap::r0):=⟨t,by rw[k1,<- hc0]⟩;have hit:=zm4 hbm hlo hS hsec hbox;exact fun lb J K q1 q2 q3 q4 q5=>hit lb J K q1 q2 (fun s A h=>(q3 s A h).tr) q4 q5
end Go.Proofs.YtnhmanoiolfapaaGreat
end

noncomputable section
set_option maxRecDepth 100000
namespace Go.Proofs.YtnhmanoiolfapaaGreat
open Go Go.Sx Go.RowKit Go.Jx
def zel:List (Nat × Hx):=[(113,qrs cCell),(97,hxR qq5),(98,hxR qc4),(111,itWx Tryz.prog ttT.get 0 zba ⟨[6,7,8,9],[.ref (.box [.map (.int .i64) .str]),.ref (.box [.dat (.int .i64)]),.ref (.box [.dat .bool]),.ref (.box [.dat .bool])],z18⟩ 0)]
abbrev qri:Type:=qad × Bool × Unit
def zaj(lf:Nat)(x1:qac):Option qri:=(match (jget x1.1 (Int.ofNat 0)) with|none=>none|some v0=>(match (jget (qab v0) (Int.ofNat 0)) with|none=>none|some v1=>(cond (iltI (Int.ofNat 1) v1) (some ((([],[]),((Int.ofNat 0),((Int.ofNat 0),[]))),(false,()))) (cond (lchk (Int.ofNat 1) (Int.ofNat v0.size) (Int.ofNat v0.size) (Int.ofNat v0.size)) (cond (Bool.not (keqS (ByteArray.extract v0 1 (Int.toNat (Int.ofNat v0.size))) (S.lit [0,0,0,0,0,0,0,0,0,0,0,0,0,0,0,0,0,0,0,0,0,0,0,0,0,0,0,0,0,0,0,0,0,0,0,0,0,0,0,0,0,0,0,0,0,0,0,0,0,0,0,0,0,0,0,0,0,0,0,0,0,0,0]))) (some ((([],[]),((Int.ofNat 0),((Int.ofNat 0),[]))),(false,()))) (match (jget (qab v0) (Int.ofNat 0)) with|none=>none|some v2=>(match (cond (S.inI (Int.ofNat x1.1.length) (Int.ofNat 0) (Int.ofNat 1000)) (some ((S.half (Int.toNat (Int.ofNat x1.1.length)) (IntKind.i64.wrap v2)),())) none) with|none=>none|some v3=>(cond (lchk v3.1.1 v3.1.2 v3.1.2 (Int.ofNat x1.1.length)) (match (cond (S.secs (lsub x1.1 v3.1.1 v3.1.2)) (some (S.recsK (lsub x1.1 v3.1.1 v3.1.2))) (none:Option (List (El Go.Proofs.YtnhmanoiolfapaaGreat.cKeepRecord)))) with|none=>none|some v4=>(match (qdg (fun v5 v6=>(cond v6.2.2 (some (((v5.1.1,()),((v5.2.1.1,()),((v5.2.2.1.1,()),((true,()),())))),true)) (cond v5.2.2.1.1 (match (idxO (fun v7=>(some v7.2.2)) v6.1 0) with|none=>none|some v8=>(cond (Bool.not (iltI v8 (Int.ofNat 0))) (some (((v5.1.1,()),((v5.2.1.1,()),((v5.2.2.1.1,()),((true,()),())))),true)) (some ((((S.applied v5.1.1 v6.1),()),(((IntKind.i64.wrap (Int.add v5.2.1.1 v6.2.1)),()),((false,()),((v5.2.2.2.1.1,()),())))),false)))) (some ((((S.applied v5.1.1 v6.1),()),(((IntKind.i64.wrap (Int.add v5.2.1.1 v6.2.1)),()),((false,()),((v5.2.2.2.1.1,()),())))),false))))) v4 (([],()),(((Int.ofNat 0),()),((true,()),((false,()),()))))) with|none=>none|some v9=>(cond v9.2 (cond v9.1.2.2.2.1.1 (some ((([],[]),((Int.ofNat 0),((Int.ofNat 0),[]))),(false,()))) (cond v9.1.2.2.1.1 (some ((([],[]),((Int.ofNat 0),((Int.ofNat 0),[]))),(false,()))) (match (jget (qab v0) (Int.ofNat 0)) with|none=>none|some v10=>(match (cond (S.mapG v9.1.1.1) (some (((S.listed v9.1.1.1),()),((some v9.1.1.1),()))) none) with|none=>none|some v11=>(some (((x1.1,[]),((IntKind.i64.wrap v10),(v9.1.2.1.1,v11.1.1))),(true,()))))))) (cond v9.1.2.2.2.1.1 (some ((([],[]),((Int.ofNat 0),((Int.ofNat 0),[]))),(false,()))) (cond v9.1.2.2.1.1 (some ((([],[]),((Int.ofNat 0),((Int.ofNat 0),[]))),(false,()))) (match (jget (qab v0) (Int.ofNat 0)) with|none=>none|some v12=>(match (cond (S.mapG v9.1.1.1) (some (((S.listed v9.1.1.1),()),((some v9.1.1.1),()))) none) with|none=>none|some v13=>(some (((x1.1,[]),((IntKind.i64.wrap v12),(v9.1.2.1.1,v13.1.1))),(true,())))))))))) none)))) none))))
def qsv(lf:Nat)(x1:qac):Option qri:=zaj lf x1
theorem zxe(hrz30:ConR Tryz.prog 97 qq5)(hr_k_cells_list:ConR Tryz.prog 98 qc4):qa3 Tryz.prog zel:=⟨zh7,⟨qf3 hrz30,⟨qf3 hr_k_cells_list,⟨zok mixed ttOK 0 _ 0 zrn,trivial⟩⟩⟩⟩
theorem ztd{g:ElA [qag]->Option qri}(hsm:SmOK Tryz.prog [(93,qj7),(54,q3g),(77,qkc)])(hrz30:ConR Tryz.prog 97 qq5)(hr_k_cells_list:ConR Tryz.prog 98 qc4)(hg:∀(x:ElA [qag]) (y:qri),WfA [qag] x->g x=some y->∃lf,qsv lf x.1=some y):Con Tryz.prog 61 ⟨[qag],[(false,cJournal),(false,.bool)],g⟩ :=
 conU (fi:=fi61) (hxl:=zel) (fun lf x=>qsv lf x.1) cm3 zg5 (zxe hrz30 hr_k_cells_list) hsm hg
def qmg:Nat->Option Nm:=fun k=>cond (Nat.beq k 1) (some ⟨[0,6,7,8],[],[],[(0,(.int .i64),.str)],[],0,0,false⟩) (cond (Nat.beq k 999999) (some ⟨[],[],[],[],[],0,0,false⟩) none)
def qlr:Nat->Bool:=fun k=>cond (Nat.beq k 1) true (false)
def qz0:=qlr
abbrev qcs:Type:=(Unit) × (Option (List (Int × ByteArray))) × Unit
def qxz:List (Nat × Sm):=[]
def qx6:List (Nat × Hx):=[]
def qub(R:Type)(lf:Nat):ClK R:=qa0 Tryz.prog ttT.get ftT.get (fun _ _=>none) (smL qxz) (hxL qx6) lf 20 R
abbrev znt:Nat:=97
def qj0(x1:(List (Int × ByteArray)))(x2:(List qaa))(p:Int × (List (Int × ByteArray))):NRes:=(NRes.mk (.node (some (IV.map 0)) (.node none (.node none (.node (some (IV.int .i64 (Int.ofNat x2.length))) .leaf .leaf) .leaf) .leaf) (.node none (.node none (.node (some (IV.int .i64 p.1)) .leaf .leaf) .leaf) (.node (some (IV.lst cCell x2)) .leaf .leaf))) (IS.mk (.node (some (IObj.tmap (TC.int .i64) TC.str p.2)) .leaf .leaf) 1) [] 0)
def qxr(lf:Nat)(x1:(List (Int × ByteArray)))(x2:(List qaa))(L1:(Int × (List (Int × ByteArray)))->Option qcs):Option qcs:=(L1 ((Int.ofNat 0),x1))
def qsy(lf:Nat)(x1:(List (Int × ByteArray)))(x2:(List qaa))(L1:(Int × (List (Int × ByteArray)))->Option qcs)(p:Int × (List (Int × ByteArray))):Option qcs:=(cond (iltI p.1 (Int.ofNat x2.length)) (match (jget x2 p.1) with|none=>none|some v0=>(cond v0.2.2 (L1 ((IntKind.i64.wrap (Int.add p.1 (Int.ofNat 1))),(@mdel (TC.int .i64) TC.str v0.1 p.2))) (L1 ((IntKind.i64.wrap (Int.add p.1 (Int.ofNat 1))),(@mset (TC.int .i64) TC.str v0.1 v0.2.1 p.2))))) (some ((),((some p.2),()))))
abbrev gz30:Type:=ElP [.ref (.mp (.int .i64) .str),.dat (.list cCell)]->Option qcs
abbrev sz30(g:gz30):SmR:=⟨[.ref (.mp (.int .i64) .str),.dat (.list cCell)],[],g⟩
abbrev Ez30(g:gz30)(J:JT qcs)(lf:Nat)(x1:(List (Int × ByteArray)))(x2:(List qaa)):=qca Tryz.prog ttT.get qmg (mP [.ref (.mp (.int .i64) .str),.dat (.list cCell)]) fi97.nt (qub _ lf) lf qlr J fi97.body [] (qat (qap [.ref (.mp (.int .i64) .str),.dat (.list cCell)] idN 0 (some x1,x2,())) 0 .leaf) (Sc [.ref (.mp (.int .i64) .str),.dat (.list cCell)] (some x1,x2,())) [] (qec ttT.get fi97 (sz30 g))
abbrev Bz30(g:gz30)(J:JT qcs)(lf k:Nat)(ms:List Nat)(q:NRes):=qcb Tryz.prog ttT.get qmg (mP [.ref (.mp (.int .i64) .str),.dat (.list cCell)]) fi97.nt (qub _ lf) lf qlr J k fi97.body [] ms q (qec ttT.get fi97 (sz30 g))
theorem zfn(g:gz30)(J:JT qcs)(lf:Nat)(x1:(List (Int × ByteArray)))(x2:(List qaa)):Ez30 g J lf x1 x2=qxr lf x1 x2 (fun q=>J 1 [lf] (qj0 x1 x2 q)):=by kernel_rfl
theorem z1z(g:gz30)(J:JT qcs)(lf:Nat)(x1:(List (Int × ByteArray)))(x2:(List qaa))(m1:Nat)(p:Int × (List (Int × ByteArray))):Bz30 g J lf 1 [m1] (qj0 x1 x2 p)=qsy lf x1 x2 (fun q=>J 1 [m1] (qj0 x1 x2 q)) p:=by kernel_rfl
theorem q8h:(regs fi97.body).Nodup:=by decide +kernel
theorem q9x:okC qmg qlr qz0 fi97.body none=true:=by kernel_rfl
def Az30(g:gz30)(lf:Nat):JT qcs:=atQ Tryz.prog ttT.get qmg fi97 (sz30 g) (qub _ lf) lf qz0
def qs6(lf:Nat)(x1:(List (Int × ByteArray)))(x2:(List qaa)):Nat->(Int × (List (Int × ByteArray)))->Option qcs:=qav fun K p=>qsy lf x1 x2 K p
theorem zds(g:gz30)(lf:Nat)(x1:(List (Int × ByteArray)))(x2:(List qaa)):∀(n:Nat) (p:Int × (List (Int × ByteArray))),Az30 g lf 1 [n] (qj0 x1 x2 p)=qs6 lf x1 x2 n p
 | 0,p=>q1j 1 [0] rfl _
 | n+1,p=>by
  have ih:=zds g lf x1 x2 n;refine(q5i rfl (qaz 20 _) q8h q9x 1 [n+1] [n] rfl _).trans ((z1z g (Az30 g lf) lf x1 x2 n p).trans ?_);rw[(show (fun q=>Az30 g lf 1 [n] (qj0 x1 x2 q))=(fun q=>qs6 lf x1 x2 n q) from funext ih)];rfl
def Fz30(lf:Nat)(x1:(List (Int × ByteArray)))(x2:(List qaa)):Option qcs:=qxr lf x1 x2 (fun q=>qs6 lf x1 x2 lf q)
theorem zlj(g:gz30)(lf:Nat)(x1:(List (Int × ByteArray)))(x2:(List qaa)):Ez30 g (Az30 g lf) lf x1 x2=Fz30 lf x1 x2:=by
  refine(zfn g (Az30 g lf) lf x1 x2).trans ?_;rw[(show (fun q=>Az30 g lf 1 [lf] (qj0 x1 x2 q))=(fun q=>qs6 lf x1 x2 lf q) from funext fun q=>zds g lf x1 x2 lf q)];rfl
theorem zq1:qa3 Tryz.prog qx6:=trivial
theorem zik{g:gz30}(hsm:SmOK Tryz.prog qxz)(h0:∀(x:ElP [.ref (.mp (.int .i64) .str),.dat (.list cCell)]) (y:qcs),g x=some y->∃(x1:(List (Int × ByteArray))) (x2:(List qaa)),x=(some x1,x2,()))(hg:∀(x1:(List (Int × ByteArray))) (x2:(List qaa)) (y:qcs),WfP [.ref (.mp (.int .i64) .str),.dat (.list cCell)] (some x1,x2,())->g (some x1,x2,())=some y->∃lf,Fz30 lf x1 x2=some y):ConR Tryz.prog 97 ⟨[.ref (.mp (.int .i64) .str),.dat (.list cCell)],[],g⟩ :=
 conTR (nmf:=qmg) (sml:=qxz) (hxl:=qx6) (st:=qlr) (hd:=qz0) 20 mixed ttOK ftOK hsm zq1 zyd (by kernel_rfl) (fun x=>by kernel_rfl) q8h q9x fun x y z hx hy=>by
  obtain⟨x1,x2,rfl⟩:=h0 x (y,z) hy;obtain⟨lf,h⟩:=hg x1 x2 (y,z) hx hy;exact⟨lf,(zlj g lf x1 x2).trans h⟩
theorem zx2(m:List (Int × ByteArray))(l:List qaa)(hl:l.length<LF):Fz30 LF m l=some ((),(some (S.applied m l),())):=by
 simp only[Fz30,qxr];refine range0 (σ:=List (Int × ByteArray)) (R:=qcs) l (fun i m=>(i,m)) (fun _ _=>True) (fun rest _ m=>some ((),(some (S.applied m rest),()))) hl (fun K m _=>?_) (fun K i v rest m _ r hk=>?_) m trivial
 ·simp only[qsy,qbt,jad];rfl
 ·simp only[qsy,r.ilt,r.get,r.next,jaa];show _=some ((),(some (S.applied (cond v.2.2 (mdel (vc:=.str) (.int .i64) v.1 m) (mset (vc:=.str) (.int .i64) v.1 v.2.1 m)) rest),()));cases v.2.2 with
  | true=>exact hk _ trivial
  | false=>exact hk _ trivial
theorem zg7:ConR Tryz.prog znt qq5:=zik trivial (fun x y h=>by
 obtain⟨m,l,_⟩:=x;cases m with
 | none=>cases h
 | some m=>exact⟨m,l,rfl⟩) fun m l y hx h=>⟨LF,(zx2 m l (qb1 (c:=cCell) hx.2.1)).trans h⟩
theorem zmr(l:List ByteArray):match S.readR l with
  | some x=>S.readK l=(x.1,(x.2:Int),false)
  | none=>(S.readK l).2.2=true:=by
 unfold S.readR S.readK;by_cases hc:¬(qab (l.getD 0 S.none_)).getD 0 0=1\/l.length<S.recM (qab (l.getD 0 S.none_))
 ·rw[jao hc,jao hc]
 ·rw[jan hc,jan hc];cases S.changes (S.recN (qab (l.getD 0 S.none_))+1) ((((l.take (S.recM (qab (l.getD 0 S.none_)))).flatMap qab).drop 4).take (S.recN (qab (l.getD 0 S.none_)))) (-1) with
  | none=>rfl
  | some c =>
   simp only;cases hz:(((l.take (S.recM (qab (l.getD 0 S.none_)))).flatMap qab).drop (4+S.recN (qab (l.getD 0 S.none_)))).all fun b=>decide (b=0) with
   | true=>rfl
   | false=>rfl
abbrev StO:Type:=(List KV × Unit) × (Int × Unit) × (Bool × Unit) × (Bool × Unit) × Unit
def stO(m:List KV)(u:Int)(first torn:Bool):StO:=((m,()),((u,()),((first,()),((torn,()),()))))
def qf9(v5:StO)(v6:qfi):Option (StO × Bool):=(cond v6.2.2 (some (((v5.1.1,()),((v5.2.1.1,()),((v5.2.2.1.1,()),((true,()),())))),true)) (cond v5.2.2.1.1 (match (idxO (fun v7:qaa=>(some v7.2.2)) v6.1 0) with|none=>none|some v8=>(cond (Bool.not (iltI v8 (Int.ofNat 0))) (some (((v5.1.1,()),((v5.2.1.1,()),((v5.2.2.1.1,()),((true,()),())))),true)) (some ((((S.applied v5.1.1 v6.1),()),(((IntKind.i64.wrap (Int.add v5.2.1.1 v6.2.1)),()),((false,()),((v5.2.2.2.1.1,()),())))),false)))) (some ((((S.applied v5.1.1 v6.1),()),(((IntKind.i64.wrap (Int.add v5.2.1.1 v6.2.1)),()),((false,()),((v5.2.2.2.1.1,()),())))),false))))
theorem zk2(m:List KV)(u:Int)(first torn:Bool){r:qfi}(h:r.2.2=true):qf9 (stO m u first torn) r=some (stO m u first true,true):=by
 unfold qf9;rw[h];rfl
theorem zor(m:List KV)(u v:Nat)(first torn:Bool)(c:List qaa)(h:u+v<=100000):qf9 (stO m u first torn) (c,(v:Int),false)=if first=true/\(c.any (·.2.2))=true then some (stO m u first true,true) else some (stO (S.applied m c) ((u+v:Nat):Int) false torn,false):=by
 unfold qf9 stO;simp only[jad];have e1:IntKind.i64.wrap (Int.add (u:Int) (v:Int))=((u+v:Nat):Int):=qa2 (n:=u+v) (by omega);have e2:idxO (fun v7:qaa=>(some v7.2.2)) c 0=some (Go.Jx.S.idx (·.2.2) c):=qpw (fun v:qaa=>v.2.2) fun x _=>rfl;cases first with
 | false =>
  rw[jad,jan (by simp),e1]
 | true =>
  rw[jaa,e2];simp only;rw[qr9];cases c.any (·.2.2) with
  | true=>rw[jaa,jao (by simp)]
  | false=>rw[jad,jan (by simp),e1]
theorem qz4{D α:Type}{g:D->α->Option (D × Bool)}{x:α}{xs:List α}{d d':D}{b:Bool}(h:g d x=some (d',b)):qdg g (x::xs) d=cond b (some (d',true)) (qdg g xs d'):=by
 simp only[qdg,h]
theorem zi4:∀(k:Nat) (l:List ByteArray) (f:Nat) (m:List KV) (u:Nat),l.length=k->l.length<f->szS l->S.mapG m=true->u+l.length<=1000 ->
  match S.recs f l (S.listed m) u with
  | none=>∃m' u' first,qdg qf9 (S.recsK l) (stO m u (decide (u=0)) false)=some (stO m' u' first true,true)
  | some (c',u')=>∃m',qdg qf9 (S.recsK l) (stO m u (decide (u=0)) false)=some (stO m' u' (decide (u'=0)) false,false)/\S.mapG m'=true/\c'=S.listed m':=by
 intro k;induction k using Nat.strongRecOn with
 | ind k ih =>
  intro l f m u hk hf hs hG hu;cases f with
  | zero=>omega
  | succ f =>
   cases l with
   | nil=>exact⟨m,rfl,hG,rfl⟩
   | cons s r =>
    rw[qfc,qy5];by_cases h0:(qab s).getD 0 0=0
    ·rw[jao h0,jao h0];exact⟨m,rfl,hG,rfl⟩
    ·rw[jan h0,jan h0];have hRK:=zmr (s::r);cases hx:S.readR (s::r) with
     | none =>
      rw[hx] at hRK;refine⟨m,u,decide (u=0),?_⟩;exact qz4 (zk2 m u (decide (u=0)) false hRK)
     | some x =>
      rw[hx] at hRK;obtain⟨i1,i2,i3,_,_,_⟩:=qp4 hs hx;have hRK:S.readK (s::r)=(x.1,(x.2:Int),false):=hRK;rw[hRK];simp only[jad,jch];have hst:=zor m u x.2 (decide (u=0)) false x.1 (by omega);cases hq:(decide (u=0)&&x.1.any (·.2.2)) with
      | true =>
       rw[jaa];have hq2:=(jae _ _).mp hq;rw[jao ⟨hq2.1,hq2.2⟩] at hst;exact⟨m,u,decide (u=0),qz4 hst⟩
      | false =>
       rw[jan (fun hh=>by rw[hh.1,hh.2] at hq;cases hq)] at hst;rw[jad];obtain⟨a1,a2⟩:=zcd (l:=x.1) hG i3;have hd:((s::r).drop x.2).length=(s::r).length-x.2:=jax;have:=ih (((s::r).drop x.2).length) (by rw[hd];omega) ((s::r).drop x.2) f (S.applied m x.1) (u+x.2) rfl (by rw[hd];omega) (hs.drop x.2) a1 (by rw[hd];omega);rw[a2] at this;have hu0:decide (u+x.2=0)=false:=jal (by omega);rw[hu0] at this;rw[qz4 hst,jad];exact this
theorem zuf(d:qac)(h:S.okL d=true):qsv LF d=some ((S.openedJ d).1,(S.openedJ d).2,()):=by
 unfold S.okL at h;simp only[jae,jcg] at h;obtain⟨h1,h2,h3⟩:=h;have h2:=jam h2;obtain⟨hle,hsz⟩:=qht h1;simp only[qsv,zaj];have hs64:=hsz _ (qfw (i:=0) (show 0<d.1.length by omega));obtain⟨b0,b1,b2,b3,r,hb⟩:=qr2 hs64;have hrb:rng (b0::b1::b2::b3::r):=hb▸qda _;have hb0:=hrb b0 (by simp);have hszl:(d.1.getD 0 S.none_).size=(b0::b1::b2::b3::r).length:=by rw[<- qce,hb]
 have l1:lchk (Int.ofNat 1) (Int.ofNat (d.1.getD 0 S.none_).size) (Int.ofNat (d.1.getD 0 S.none_).size) (Int.ofNat (d.1.getD 0 S.none_).size)=true:=by rw[hs64];rfl
 have hext:ByteArray.extract (d.1.getD 0 S.none_) 1 (Int.toNat (Int.ofNat (d.1.getD 0 S.none_).size))=qae (b1::b2::b3::r):=by
  show ByteArray.extract (d.1.getD 0 S.none_) 1 (d.1.getD 0 S.none_).size=_;rw[hszl,<- qfd (d.1.getD 0 S.none_),hb];exact qhw hrb 1
 have hr1:rng (b1::b2::b3::r):=fun x hx=>hrb x (ja7 _ hx);simp only[qjy (d:=S.none_) (show 1<=d.1.length by omega),hb,qbp,jaq,l1,hext,jaa];simp only[qy1,q52,qbi hr1,qbi (qfr 63)];unfold S.openedJ S.opened;rw[hb];simp only[jeq];by_cases q1:1<b0
 ·rw[qdj (show Int.ofNat 1<b0 from q1),jaa,jao (.inl q1)];rfl
 rw[qdv (show ¬Int.ofNat 1<b0 from q1),jad];by_cases q2:(b1::b2::b3::r)=List.replicate 63 0
 ·rw[jaj q2,jaw,jad,jan (fun hh=>hh.elim q1 (fun hh=>hh q2))];rw[show S.inI (Int.ofNat d.1.length) (Int.ofNat 0) (Int.ofNat 1000)=true from by
   unfold S.inI;rw[jaj (show Int.ofNat 0<=Int.ofNat d.1.length from jbe _),jaj (show Int.ofNat d.1.length<=Int.ofNat 1000 by show ((d.1.length:Nat):Int)<=1000;omega)];rfl,jaa,wrap_in (n:=b0) (by omega)]
  simp only;obtain⟨a,e1,e2,e3,_,_⟩:=qhx h3 h2 (h:=b0) (by omega);unfold S.halfS;have ehalf:S.half (Int.toNat (Int.ofNat d.1.length)) b0=S.half d.1.length b0:=rfl;rw[ehalf,e1];simp only[jch];have hlc:lchk (a:Int) ((a+(d.1.length / 2-1):Nat):Int) ((a+(d.1.length / 2-1):Nat):Int) (Int.ofNat d.1.length)=true:=qbv.2 ⟨by omega,by omega,jbq _,by show ((a+(d.1.length / 2-1):Nat):Int)<=((d.1.length:Nat):Int);omega⟩;rw[hlc,jaa];have hsub:lsub d.1 (a:Int) ((a+(d.1.length / 2-1):Nat):Int)=(d.1.take (a+(d.1.length / 2-1))).drop a:=by
   unfold lsub;rw[jch,jch]
  rw[hsub];have hsz2:szS ((d.1.take (a+(d.1.length / 2-1))).drop a):=fun s hs=>hsz s (jb6 (jdo hs));have hlen2:((d.1.take (a+(d.1.length / 2-1))).drop a).length<=d.1.length:=by rw[jax,jba];omega
  have hsec2:S.secs ((d.1.take (a+(d.1.length / 2-1))).drop a)=true:=by
   refine q4p ?_ _;unfold S.secs S.anyShort;rw[jae];refine⟨jau (by rw[jba];omega),?_⟩;rw[jb4,jc5];intro s hs;have:=hsz s (jb6 hs);unfold S.short;simp[this]
  rw[hsec2];generalize (d.1.take (a+(d.1.length / 2-1))).drop a=H at hsz2 hlen2 hsec2;have hfold:=zi4 H.length H (d.1.length+1) [] 0 rfl (by omega) hsz2 rfl (by omega);have hst:((([]:List KV),()),(((Int.ofNat 0:Int),()),((true,()),((false,()),()))))=stO [] (0:Nat) (decide ((0:Nat)=0)) false:=rfl
  show (match qdg qf9 (S.recsK H) (stO [] (0:Nat) (decide ((0:Nat)=0)) false) with
   | none=>none
   | some v9=>_)=_
  have hl0:S.listed []=[]:=rfl;rw[hl0] at hfold;cases hrec:S.recs (d.1.length+1) H [] 0 with
  | none =>
   rw[hrec] at hfold;obtain⟨m',u',first,hfo⟩:=hfold;rw[hfo];rfl
  | some x =>
   obtain⟨c,u⟩:=x;rw[hrec] at hfold;obtain⟨m',hfo,hG,rfl⟩:=hfold;rw[hfo];simp only[stO];by_cases hu:u=0
   ·rw[jao hu,jaj hu];rfl
   ·rw[jan hu,jal hu];simp only[jad];rw[hG];simp only[jaa]
 ·rw[jal q2,jat,jaa,jao (.inr q2)];rfl
theorem zg8:Con Tryz.prog 61 qg8:=ztd ⟨qs7,qnu,qry,trivial⟩ zg7 zv7 fun x y hx h=>⟨LF,by
 obtain⟨h1,h2⟩:=qa5 (show cond (S.okL x.1) (some ((S.openedJ x.1).1,(S.openedJ x.1).2,())) none=some y from h);exact(zuf x.1 h1).trans (jav some h2)⟩
theorem cont_l_KeepCommits:Con Tryz.prog zes q1l:=zqn zp5 zg8
end Go.Proofs.YtnhmanoiolfapaaGreat
end

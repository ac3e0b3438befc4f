/- Texts: Kcd, Kma, Jiu, Jcs, Kri, Kgb, Kga, Kpi, Kpk, Kl6. -/
import Derived.Test.YtnhmanoiolfapaaGreatMa5
import Derived.Test.YtnhmanoiolfapaaGreatMa3
import Derived.Test.YtnhmanoiolfapaaGreatMa4
set_option linter.unusedVariables false
noncomputable section
set_option maxRecDepth 100000
namespace Go.Proofs.YtnhmanoiolfapaaGreat
open Go Go.Sx Go.RowKit Go.Jx
theorem qrp{m:List (Int × ByteArray)}(h:S.mapG m=true):(m.map (·.1)).Nodup/\∀p∈m,(0<=p.1/\p.1<=199)/\p.2.size<=4000:=by
 unfold S.mapG at h;simp only[Bool.and_eq_true,decide_eq_true_eq,List.all_eq_true] at h;refine⟨h.1,fun p hp=>?_⟩;have:=h.2 p hp;unfold S.inI at this;simp only[Bool.and_eq_true,decide_eq_true_eq] at this;exact⟨this.1,Nat.le_of_ble_eq_true this.2⟩
theorem qmy:∀{l:List qaa} {last:Int},S.okGo l last=true->(∀c∈l,last<c.1)/\l.Pairwise (fun a b=>a.1<b.1)
 | [],_,_=>⟨fun c hc=>(by cases hc),List.Pairwise.nil⟩
 | c::l,last,h=>by
  obtain⟨_,_,_,h4,h5⟩:=qbo.1 h;obtain⟨i1,i2⟩:=qmy h5;refine⟨fun x hx=>?_,List.Pairwise.cons i1 i2⟩;rcases List.mem_cons.1 hx with rfl|hx
  ·exact h4
  ·have:=i1 x hx;omega
theorem q3o{c:qaa}(hg:c.2.2=false):∀{l:List qaa},(∀x∈l,x.1≠c.1)->List.Perm (S.ins1 c l) (c::l)
 | [],_=>by
  show List.Perm (cond c.2.2 [] [c]) _;rw[hg];exact List.Perm.refl _
 | a::r,h=>by
  show List.Perm (if a.1<c.1 then a::S.ins1 c r else if a.1=c.1 then cond c.2.2 r (c::r) else cond c.2.2 (a::r) (c::a::r)) _;by_cases q1:a.1<c.1
  ·rw[if_pos q1];exact((q3o hg fun x hx=>h x (List.mem_cons_of_mem _ hx)).cons a).trans (List.Perm.swap c a r)
  ·rw[if_neg q1,if_neg (h a (by simp)),hg];exact List.Perm.refl _
theorem q9a:∀(m:List (Int × ByteArray)) (c:List qaa),(m.map (·.1)).Nodup->(∀p∈m,((0<=p.1/\p.1<=199)/\p.2.size<=4000)/\∀x∈c,x.1≠p.1)->okS c (-1) ->
  okS (m.foldl (fun c p=>S.ins1 (p.1,p.2,false) c) c) (-1)/\List.Perm (m.foldl (fun c p=>S.ins1 (p.1,p.2,false) c) c) (c++m.map fun p=>(p.1,p.2,false))
 | [],c,_,_,h=>⟨h,by simp⟩
 | p::m,c,hn,hr,h=>by
  obtain⟨n1,n2⟩:=List.nodup_cons.1 hn;have hp:=hr p (by simp);have h1:=q3o (c:=(p.1,p.2,false)) rfl hp.2;have h2:okS (S.ins1 (p.1,p.2,false) c) (-1):=qnz (p.1,p.2,false) hp.1 h (show (-1:Int)<p.1 by have:=hp.1.1.1;omega);obtain⟨i1,i2⟩:=q9a m (S.ins1 (p.1,p.2,false) c) n2 (fun q hq=>⟨(hr q (List.mem_cons_of_mem _ hq)).1,fun x hx=>by
   rcases List.mem_cons.1 (h1.mem_iff.1 hx) with rfl|hx
   ·exact fun e=>n1 (List.mem_map.2 ⟨q,hq,e.symm⟩)
   ·exact(hr q (List.mem_cons_of_mem _ hq)).2 x hx⟩) h2
  refine⟨i1,i2.trans ?_⟩;refine(h1.append_right _).trans ?_;show List.Perm ((p.1,p.2,false)::(c++m.map fun p=>(p.1,p.2,false))) (c++(p.1,p.2,false)::m.map fun p=>(p.1,p.2,false));exact List.perm_middle.symm
theorem qfz{m:List (Int × ByteArray)}(h:S.mapG m=true):okS (S.listed m) (-1)/\List.Perm (S.listed m) (m.map fun p=>(p.1,p.2,false)):=by
 obtain⟨h1,h2⟩:=qrp h;exact q9a m [] h1 (fun p hp=>⟨h2 p hp,fun x hx=>by cases hx⟩) ⟨rfl,fun x hx=>by cases hx⟩
theorem za6{m:List (Int × ByteArray)}(h:S.mapG m=true):(S.listed m).length=m.length:=(qfz h).2.length_eq.trans (List.length_map _)
theorem zj5{m:List (Int × ByteArray)}(h:S.mapG m=true):m.length<=200:=by
 obtain⟨h1,h2⟩:=qfz h;have h3:=qs1 h1.1 (Int.le_refl _);have e:=za6 h;omega
theorem zso{m:List (Int × ByteArray)}(h:S.mapG m=true){l:List qaa}(hp:List.Perm l (m.map fun p=>(p.1,p.2,false)))(hs:qq9 l):l=S.listed m:=by
 obtain⟨h1,h2⟩:=qfz h;obtain⟨n1,n2⟩:=qrp h;have hn:(l.map (·.1)).Nodup:=by
  refine(hp.map (·.1)).nodup_iff.2 ?_;rw[List.map_map];exact n1
 have hle:l.Pairwise (fun a b=>¬b.1<a.1):=List.pairwise_iff_getElem.2 fun i j hi hj hij=>hs i j hi hj hij;have hne:l.Pairwise (fun a b=>a.1≠b.1):=List.pairwise_map.1 hn;have hlt:l.Pairwise (fun a b=>a.1<b.1):=(hle.and hne).imp fun⟨a,b⟩=>by omega
 exact List.Perm.eq_of_pairwise (le:=fun a b:qaa=>a.1<b.1) (fun a b _ _ q1 q2=>absurd q1 (by omega)) hlt (qmy h1.1).2 (hp.trans h2.symm)
theorem zcq:∀m:List (Int × ByteArray),(tmEs (.int .i64) .str m).map (·.1)=m.map fun p=>IV.int .i64 p.1
 | []=>rfl
 | p::m=>congrArg (IV.int .i64 p.1::·) (zcq m)
theorem q84:∀m:List (Int × ByteArray),(tmEs (.int .i64) .str m).map (·.2)=m.map fun p=>IV.str p.2
 | []=>rfl
 | p::m=>congrArg (IV.str p.2::·) (q84 m)
def usC(L:List qaa)(i j:Nat):Value:=(encC (L.getD i (0,S.none_,false))).getD j .nilFunc
theorem q3r{L:List qaa}{i j:Nat}(h:i<L.length):usC L i j=(encC L[i]).getD j .nilFunc:=by
 unfold usC;rw[List.getD_eq_getElem?_getD (l:=L),List.getElem?_eq_getElem h];rfl
theorem zjq(E:Env)(m:List (Int × ByteArray))(us:List Value)(hG:S.mapG m=true)(p:Pre T0 E (Sc qc6.ps ((some m,()):ElP qc6.ps)))(hv:VRs E [.map 0] us) :
  CallsIn Fence.wide 0 Tryz.prog 98 us.toArray E.w (RetB 1 T0 E (Sc qc6.ps ((some m,()):ElP qc6.ps)) ⟨.lst qae (S.listed m),Sc qc6.ps ((some m,()):ElP qc6.ps),0,0⟩):=by
 obtain⟨u,us',rfl,a1,a2⟩:=VRs.inv (v:=.map 0) (cs:=[]) hv;obtain rfl:us'=[]:=List.length_eq_zero_iff.1 a2.1.symm;have hA:E.A 0:=by cases a1;assumption
 have hu:u=.map (some (E.ρ 0)):=by cases a1;rfl
 subst hu;obtain⟨ents,clock,h1,h2,h3,h4⟩:=p.st.objs 0 trivial hA (.tmap (.int .i64) .str m) rfl;have h2:VRs E (m.map fun p=>IV.int .i64 p.1) (ents.toList.map (·.key)):=by
  rw[zcq] at h2;exact h2
 have h3:VRs E (m.map fun p=>IV.str p.2) (ents.toList.map (·.val)):=by
  rw[q84] at h3;exact h3
 have hl2:ents.toList.length=m.length:=by
  have:=h2.1;rw[List.length_map,List.length_map] at this;exact this.symm
 have hel:∀i (hi:i<m.length) (hi2:i<ents.toList.length),ents.toList[i].key=.int .i64 (m[i]).1/\ents.toList[i].val=.string (m[i]).2:=fun i hi hi2=>by
  have q1:=h2.2 i (by rw[List.length_map];exact hi) (by rw[List.length_map];exact hi2);have q2:=h3.2 i (by rw[List.length_map];exact hi) (by rw[List.length_map];exact hi2);simp only[List.getElem_map] at q1 q2;constructor
  ·generalize ents.toList[i].key=u at q1;cases q1;rfl
  ·generalize ents.toList[i].val=u at q2;cases q2;rfl
 have hkv:∀e∈ents.toList,e.key=.int .i64 (qbi e).1/\e.val=.string (qbi e).2.1:=fun e he=>by
  obtain⟨i,hi,rfl⟩:=List.mem_iff_getElem.1 he;obtain⟨q1,q2⟩:=hel i (by omega) hi;unfold qbi;rw[q1,q2];exact⟨rfl,rfl⟩
 have hmap:ents.toList.map qbi=m.map fun p=>(p.1,p.2,false):=by
  apply List.ext_getElem
  ·simp[hl2]
  ·intro i hi1 hi2;rw[List.getElem_map,List.getElem_map];obtain⟨q1,q2⟩:=hel i (by simpa using hi2) (by simpa using hi1);unfold qbi;rw[q1,q2]
 have hlen:=zj5 hG;refine(callsIn_wide.2 (zor h1 h4.1 h4.2 hkv (by rw[<- Array.length_toList];omega))).mono fun e w' hR=>?_;cases e with
 | returned v =>
  obtain⟨a',c',l',rfl,⟨hp,hs⟩,⟨hc,hrow⟩,hu⟩:=hR;rw[hmap] at hp;obtain rfl:=zso hG hp hs;obtain⟨p1,p2⟩:=Post.idle p hu;refine⟨_,E.at_ w',rfl,rfl,?_,PostB.of (Nat.le_of_eq (qjr qc6.ps ((some m,()):ElP qc6.ps)).symm) (fun _ _=>trivial) p1 p2⟩;show VR _ (.lst qae (S.listed m)) _;obtain⟨o1,o2⟩:=qfz hG;have hll:(S.listed m).length<=200:=by have:=za6 hG;omega
  generalize hL:S.listed m=L at hc hrow hll o1 o2;cases L with
  | nil=>exact .lst0 hc.2
  | cons c0 L =>
   rcases hrow with h|⟨g,rfl,hg,hcell⟩
   ·cases h
   have h00:=hcell 0 (by simp) 0 (by omega);obtain⟨cells,t,fz,hh⟩:∃cells t fz,w'.heap[g]?=some (.cells cells t fz):=by
    unfold World.cell? at h00;split at h00
    ·rename_i c t fz h;exact⟨c,t,fz,h⟩
    ·cases h00
   have hcell2:∀i (h:i<(c0::L).length) j,j<3->cells[i*3+j]?=(encC (c0::L)[i])[j]?:=fun i h j hj=>by
    rw[<- hcell i h j hj];simp[World.cell?,hh]
   refine VR.lst (E:=E.at_ w') (c:=qae) (l:=c0::L) (off:=0) (cells:=cells) (t:=t) (fz:=fz) (usC (c0::L)) hc.1 hc.2 (by show (c0::L).length*25<=140737488355328;omega) (fun h=>?_) hh (fun i hi j hj=>?_) (fun i hi j hj=>?_)
   ·have:=p.st.lo g h;omega
   ·show cells[0+i*3+j]?=_;have hj:j<3:=hj;have hi:i<(c0::L:List qaa).length:=hi;rw[Nat.zero_add,hcell2 i hi j hj,q3r hi,List.getD_eq_getElem?_getD,List.getElem?_eq_getElem (show j<(encC ((c0::L:List qaa)[i]'hi)).length from hj)];rfl
   ·have hj:j<3:=hj;have hi:i<(c0::L:List qaa).length:=hi;have hin:(c0::L)[i]∈(c0::L):=List.getElem_mem hi;have hpm:(c0::L)[i]∈(m.map fun p=>((p.1,p.2,false):qaa)):=by
     exact o2.mem_iff.1 hin
    obtain⟨q,hq,hqe⟩:=List.mem_map.1 hpm;obtain⟨⟨k1,k2⟩,k3⟩:=(qrp hG).2 q hq;show VR _ (cel qae ((c0::L:List qaa)[i]'hi))[j] (usC (c0::L) i j);rw[q3r hi];have hx:∀(x:qaa) (hx:x=(q.1,q.2,false)) (hj':j<(cel qae x).length),VR (E.at_ w') (cel qae x)[j] ((encC x).getD j .nilFunc):=fun x hx hj'=>by
     subst hx;match j,hj with
     | 0,_=>exact .int .i64 q.1 (qff ⟨by omega,by omega⟩)
     | 1,_=>exact .str q.2 (by omega)
     | 2,_=>exact .bool false
    exact hx _ hqe.symm _
 | _=>exact hR.elim
theorem zu7:ConR Tryz.prog 98 qc6:=by
 refine⟨zoy,fun E x us y z hf p hv=>?_⟩;obtain⟨m,u0⟩:=x;cases u0;cases m with
 | none=>cases hf
 | some m =>
 have hf:cond (S.mapG m) (some (((S.listed m,()):ElR qc6.rts),((some m,()):ElP (refs qc6.ps)))) none=some (y,z):=hf;obtain⟨hG,e⟩:=qba hf;obtain⟨rfl,rfl⟩:=Prod.mk.inj e;exact zjq E m us hG p hv
abbrev KV:Type:=Int × ByteArray
def ms(k:Int)(v:ByteArray):List KV->List KV
 | []=>[(k,v)]
 | e::es=>if k=e.1 then (k,v)::es else e::ms k v es
def md(k:Int):List KV->List KV
 | []=>[]
 | e::es=>if k=e.1 then es else e::md k es
theorem q5d(k:Int)(v:ByteArray):∀m:List KV,(mset (vc:=.str) (.int .i64) k v m:List KV)=ms k v m
 | []=>rfl
 | e::m=>by
  show cond (decide (k=e.1)) ((k,v)::m) (e::(mset (vc:=.str) (.int .i64) k v m:List KV))=if k=e.1 then (k,v)::m else e::ms k v m
  rw[q5d k v m];by_cases h:k=e.1
  ·rw[decide_eq_true h,if_pos h];rfl
  ·rw[decide_eq_false h,if_neg h];rfl
theorem q5i(k:Int):∀m:List KV,(mdel (vc:=.str) (.int .i64) k m:List KV)=md k m
 | []=>rfl
 | e::m=>by
  show cond (decide (k=e.1)) m (e::(mdel (vc:=.str) (.int .i64) k m:List KV))=if k=e.1 then m else e::md k m
  rw[q5i k m];by_cases h:k=e.1
  ·rw[decide_eq_true h,if_pos h];rfl
  ·rw[decide_eq_false h,if_neg h];rfl
theorem qqe{k:Int}{v:ByteArray}{p:KV}:∀{m:List KV},(m.map (·.1)).Nodup->(p∈ms k v m↔(p∈m/\p.1≠k)\/p=(k,v))
 | [],_=>by simp[ms]
 | e::m,h=>by
  obtain⟨n1,n2⟩:=List.nodup_cons.1 h;unfold ms;by_cases hk:k=e.1
  ·rw[if_pos hk];constructor
   ·intro hp;rcases List.mem_cons.1 hp with rfl|hp
    ·exact .inr rfl
    ·exact .inl ⟨List.mem_cons_of_mem _ hp,fun e'=>n1 (List.mem_map.2 ⟨p,hp,e'.trans hk⟩)⟩
   ·rintro(⟨hp,hn⟩|rfl)
    ·rcases List.mem_cons.1 hp with rfl|hp
     ·exact absurd hk.symm hn
     ·exact List.mem_cons_of_mem _ hp
    ·exact List.mem_cons_self
  ·rw[if_neg hk];have ih:=qqe (k:=k) (v:=v) (p:=p) n2;constructor
   ·intro hp;rcases List.mem_cons.1 hp with rfl|hp
    ·exact .inl ⟨List.mem_cons_self,fun e'=>hk e'.symm⟩
    ·rcases ih.1 hp with ⟨a,b⟩|a
     ·exact .inl ⟨List.mem_cons_of_mem _ a,b⟩
     ·exact .inr a
   ·rintro(⟨hp,hn⟩|hp)
    ·rcases List.mem_cons.1 hp with rfl|hp
     ·exact List.mem_cons_self
     ·exact List.mem_cons_of_mem _ (ih.2 (.inl ⟨hp,hn⟩))
    ·exact List.mem_cons_of_mem _ (ih.2 (.inr hp))
theorem qn7{k:Int}{p:KV}:∀{m:List KV},(m.map (·.1)).Nodup->(p∈md k m↔p∈m/\p.1≠k)
 | [],_=>by simp[md]
 | e::m,h=>by
  obtain⟨n1,n2⟩:=List.nodup_cons.1 h;unfold md;by_cases hk:k=e.1
  ·rw[if_pos hk];constructor
   ·intro hp;exact⟨List.mem_cons_of_mem _ hp,fun e'=>n1 (List.mem_map.2 ⟨p,hp,e'.trans hk⟩)⟩
   ·rintro⟨hp,hn⟩;rcases List.mem_cons.1 hp with rfl|hp
    ·exact absurd hk.symm hn
    ·exact hp
  ·rw[if_neg hk];have ih:=qn7 (k:=k) (p:=p) n2;constructor
   ·intro hp;rcases List.mem_cons.1 hp with rfl|hp
    ·exact⟨List.mem_cons_self,fun e'=>hk e'.symm⟩
    ·exact⟨List.mem_cons_of_mem _ (ih.1 hp).1,(ih.1 hp).2⟩
   ·rintro⟨hp,hn⟩;rcases List.mem_cons.1 hp with rfl|hp
    ·exact List.mem_cons_self
    ·exact List.mem_cons_of_mem _ (ih.2 ⟨hp,hn⟩)
theorem q9i{k:Int}{v:ByteArray}:∀{m:List KV},(m.map (·.1)).Nodup->((ms k v m).map (·.1)).Nodup
 | [],_=>by simp[ms]
 | e::m,h=>by
  obtain⟨n1,n2⟩:=List.nodup_cons.1 h;unfold ms;by_cases hk:k=e.1
  ·rw[if_pos hk];exact List.nodup_cons.2 ⟨by rw[hk];exact n1,n2⟩
  ·rw[if_neg hk];refine List.nodup_cons.2 ⟨fun hm=>?_,q9i n2⟩;obtain⟨p,hp,he⟩:=List.mem_map.1 hm;rcases(qqe n2).1 hp with ⟨a,_⟩|a
   ·exact n1 (List.mem_map.2 ⟨p,a,he⟩)
   ·rw[a] at he;exact hk he
theorem q3s{k:Int}:∀{m:List KV},(m.map (·.1)).Nodup->((md k m).map (·.1)).Nodup
 | [],_=>by simp[md]
 | e::m,h=>by
  obtain⟨n1,n2⟩:=List.nodup_cons.1 h;unfold md;by_cases hk:k=e.1
  ·rw[if_pos hk];exact n2
  ·rw[if_neg hk];refine List.nodup_cons.2 ⟨fun hm=>?_,q3s n2⟩;obtain⟨p,hp,he⟩:=List.mem_map.1 hm;exact n1 (List.mem_map.2 ⟨p,((qn7 n2).1 hp).1,he⟩)
theorem q78{c x:qaa}:∀{l:List qaa} {last:Int},S.okGo l last=true->(x∈S.ins1 c l↔(x∈l/\x.1≠c.1)\/(x=c/\c.2.2=false))
 | [],last,_=>by
  show x∈cond c.2.2 [] [c]↔_;cases c.2.2<;>simp
 | a::r,last,h=>by
  obtain⟨_,_,_,_,h5⟩:=qbo.1 h;have hlt:=(qmy h5).1;have ih:=q78 (c:=c) (x:=x) h5;show x∈(if a.1<c.1 then a::S.ins1 c r else if a.1=c.1 then cond c.2.2 r (c::r) else cond c.2.2 (a::r) (c::a::r))↔_;by_cases q1:a.1<c.1
  ·rw[if_pos q1,List.mem_cons,ih,List.mem_cons];constructor
   ·rintro(rfl|⟨a1,a2⟩|a1)
    ·exact .inl ⟨.inl rfl,by omega⟩
    ·exact .inl ⟨.inr a1,a2⟩
    ·exact .inr a1
   ·rintro(⟨rfl|a1,a2⟩|a1)
    ·exact .inl rfl
    ·exact .inr (.inl ⟨a1,a2⟩)
    ·exact .inr (.inr a1)
  ·rw[if_neg q1];by_cases q2:a.1=c.1
   ·rw[if_pos q2];have hr:∀y∈r,y.1≠c.1:=fun y hy=>by have:=hlt y hy;omega
    cases hg:c.2.2 with
    | true =>
     simp only[cond_true,List.mem_cons,Bool.true_eq_false,and_false,or_false];constructor
     ·intro hx;exact⟨.inr hx,hr x hx⟩
     ·rintro⟨rfl|a1,a2⟩
      ·exact absurd q2 a2
      ·exact a1
    | false =>
     simp only[cond_false,List.mem_cons,and_true];constructor
     ·rintro(rfl|hx)
      ·exact .inr rfl
      ·exact .inl ⟨.inr hx,hr x hx⟩
     ·rintro(⟨rfl|a1,a2⟩|a1)
      ·exact absurd q2 a2
      ·exact .inr a1
      ·exact .inl a1
   ·rw[if_neg q2];have hr:∀y∈a::r,y.1≠c.1:=fun y hy=>by
     rcases List.mem_cons.1 hy with rfl|hy
     ·exact q2
     ·have:=hlt y hy;omega
    cases hg:c.2.2 with
    | true =>
     simp only[cond_true,Bool.true_eq_false,and_false,or_false];exact⟨fun hx=>⟨hx,hr x hx⟩,fun hx=>hx.1⟩
    | false =>
     simp only[cond_false,and_true];rw[List.mem_cons];constructor
     ·rintro(rfl|hx)
      ·exact .inr rfl
      ·exact .inl ⟨hx,hr x hx⟩
     ·rintro(⟨a1,_⟩|a1)
      ·exact .inr a1
      ·exact .inl a1
theorem z0l{a b:List qaa}(ha:okS a (-1))(hb:okS b (-1))(h:∀x,x∈a↔x∈b):a=b:=by
 have h1:=(qmy ha.1).2;have h2:=(qmy hb.1).2;have n1:a.Nodup:=h1.imp fun {x y} hxy e=>by subst e;omega
 have n2:b.Nodup:=h2.imp fun {x y} hxy e=>by subst e;omega
 exact List.Perm.eq_of_pairwise (le:=fun a b:qaa=>a.1<b.1) (fun a b _ _ q1 q2=>absurd q1 (by omega)) h1 h2 ((List.perm_ext_iff_of_nodup n1 n2).2 h)
theorem q46{m:List KV}(h:S.mapG m=true){x:qaa}:x∈S.listed m↔(x.1,x.2.1)∈m/\x.2.2=false:=by
 rw[(qfz h).2.mem_iff,List.mem_map];constructor
 ·rintro⟨p,hp,rfl⟩;exact⟨hp,rfl⟩
 ·rintro⟨hp,hx⟩;exact⟨_,hp,by obtain⟨a,b,c⟩:=x;cases hx;rfl⟩
theorem q4q{m:List KV}(h1:(m.map (·.1)).Nodup)(h2:∀p∈m,(0<=p.1/\p.1<=199)/\p.2.size<=4000):S.mapG m=true:=by
 unfold S.mapG;simp only[Bool.and_eq_true,decide_eq_true_eq,List.all_eq_true];refine⟨h1,fun p hp=>?_⟩;obtain⟨⟨a,b⟩,c⟩:=h2 p hp;unfold S.inI;simp only[Bool.and_eq_true,decide_eq_true_eq];exact⟨⟨a,b⟩,Nat.ble_eq_true_of_le c⟩
def qfk(m:List KV)(c:qaa):List KV:=cond c.2.2 (md c.1 m) (ms c.1 c.2.1 m)
theorem zgu{m:List KV}(h:S.mapG m=true){c:qaa}(hc:(0<=c.1/\c.1<=199)/\c.2.1.size<=4000):S.mapG (qfk m c)=true/\S.listed (qfk m c)=S.ins1 c (S.listed m):=by
 obtain⟨n1,n2⟩:=qrp h;obtain⟨o1,o2⟩:=qfz h;have hG:S.mapG (qfk m c)=true:=by
  unfold qfk;cases c.2.2 with
  | true=>exact q4q (q3s n1) fun p hp=>n2 p ((qn7 n1).1 hp).1
  | false =>
   exact q4q (q9i n1) fun p hp=>by
    rcases(qqe n1).1 hp with ⟨a,_⟩|rfl
    ·exact n2 p a
    ·exact hc
 refine⟨hG,z0l (qfz hG).1 (qnz c hc o1 (by omega)) fun x=>?_⟩;rw[q46 hG,q78 o1.1,q46 h];unfold qfk;cases hg:c.2.2 with
 | true =>
  rw[cond_true,qn7 n1];simp only[Bool.true_eq_false,and_false,or_false];exact⟨fun ⟨⟨a,b⟩,c⟩=>⟨⟨a,c⟩,b⟩,fun ⟨⟨a,c⟩,b⟩=>⟨⟨a,b⟩,c⟩⟩
 | false =>
  rw[cond_false,qqe n1];simp only[and_true];constructor
  ·rintro⟨⟨a,b⟩|a,d⟩
   ·exact .inl ⟨⟨a,d⟩,b⟩
   ·refine .inr ?_;obtain⟨x1,x2,x3⟩:=x;obtain⟨c1,c2,c3⟩:=c;simp only[Prod.mk.injEq] at a d hg ⊢;exact⟨a.1,a.2,d.trans hg.symm⟩
  ·rintro(⟨⟨a,b⟩,d⟩|rfl)
   ·exact⟨.inl ⟨a,d⟩,b⟩
   ·exact⟨.inr rfl,hg⟩
theorem zsm(m:List KV)(l:List qaa):S.applied m l=l.foldl qfk m:=by
 unfold S.applied;have:∀(l:List qaa) (m:List KV),List.foldl (fun(m:List KV) (c:qaa)=>cond c.2.2 (mdel (vc:=.str) (.int .i64) c.1 m:List KV) (mset (vc:=.str) (.int .i64) c.1 c.2.1 m)) m l=l.foldl qfk m:=by
  intro l;induction l with
  | nil=>intro m;rfl
  | cons c l ih =>
   intro m;rw[List.foldl_cons,List.foldl_cons,ih];congr 1;unfold qfk;rw[<- q5d,<- q5i]
 exact this l m
theorem zcu:∀{l:List qaa} {m:List KV} {last:Int},S.mapG m=true->S.okGo l last=true->S.mapG (S.applied m l)=true/\S.listed (S.applied m l)=S.changed (S.listed m) l
 | [],m,_,h,_=>⟨h,rfl⟩
 | c::l,m,last,h,hl=>by
  obtain⟨h1,h2,h3,h4,h5⟩:=qbo.1 hl;obtain⟨s1,s2⟩:=zgu h ⟨h1,h2⟩;have ih:=zcu (l:=l) s1 h5;rw[zsm] at ih ⊢;rw[List.foldl_cons];refine⟨ih.1,ih.2.trans ?_⟩;rw[s2];rfl
end Go.Proofs.YtnhmanoiolfapaaGreat
end

section
namespace Go.Jx
open Go Go.Sx Go.RowKit
universe u

theorem jup{m bi:Nat}{E0 Ei:Env}{S S':IS}{Wb B:World}(p0:Pre T0 E0 S)(hbi:qc0 E0 S bi)(hW:Beside bi E0.w Wb)(k:PostB m T0 (E0.at_ Wb) S Ei S')(hT0:∀id,m<=id->T0.w id)(u:Upd [bi] Ei.w B) :
  ∃Wb',Beside bi E0.w Wb'/\PostB m T0 (E0.at_ Wb') S (Ei.at_ B) S':=by
 obtain⟨hle,pW,hbW⟩:=p0.beside hbi hW;have pi:=k.pre hT0 pW;have hlt:bi<Wb.heap.size:=by rw[hW.size];exact p0.st.lo bi hbi.1
 have h1:Ei.w.heap[bi]?=some Wb.heap[bi]:=(k.at_same pW hbW).trans (Array.getElem?_eq_getElem hlt);obtain⟨B',u1,hB⟩:=zw6 u h1;obtain⟨i1,i2⟩:=Post.idle pi u1;have k2:=k.trans (PostB.of k.le hT0 i1 i2);have hltB:bi<B.heap.size:=Nat.lt_of_lt_of_le (qav h1) u.size;have h3:=Beside.put Wb bi B.heap[bi];refine⟨Wb.putObj bi B.heap[bi],⟨h3.os.trans hW.os,h3.tape.trans hW.tape,h3.output.trans hW.output,h3.size.trans hW.size,fun x hx=>(h3.same x hx).trans (hW.same x hx)⟩,?_⟩;have:=PostB.beside (E:=E0.at_ Wb) (E':=Ei.at_ B') (w:=Wb.putObj bi B.heap[bi]) (w':=B) k2 pW hbW h3 hB (by rw[World.putObj_heap_same hlt];exact Array.getElem?_eq_getElem hltB);exact this
section
variable {P : Program} {tt : Nat -> Option TI}
theorem zlf(hm:P.follows .mixedOrders=true)(htt:TT P tt){k f:Nat}{s:SmI}{cfg:LpC}{lf:Nat}(hc:ConW P f s){cl:Cl}(hcl:ClOK P cl)(hfr:ClFr cl){vs:List IV}{S:IS}{r:Res}(h:itW P tt k s cfg lf cl vs S=some r)
   {T:TW} {E:Env} {us:List Value} (p:Pre T E S) (hrd:tin T.r r.rd) (hwr:tin T.w r.wr) (hv:VRs E vs us):qai P f/\CallsIn Fence.wide 0 P f us.toArray E.w (RetE T E S r):=by
 refine⟨hc.callable,?_⟩;obtain⟨id,caps,xi,i,isubs,S1,w1,nt,fr,pr,assign,body,D,d0,rows,subs,S2,w2,d,l,q,rfl,h1,ho,h2,hb,h3,h4,h5,rfl⟩:=qxo h;obtain⟨t1,t2⟩:=qaq hwr;obtain⟨t3,t4⟩:=qaq t2;obtain⟨t5,t6⟩:=qaq t3;have hTid:=qah t1;have hbits:=q1z t4;have hTi:T.w i:=hbits i (by simp);unfold itB at hb;simp only[Bool.and_eq_true] at hb;obtain⟨b1,b2,b3,b4,b5,b6,b7,b8,b9⟩:=hb;have hnd:=qmd b1;obtain⟨u0,us,rfl,a1,a2⟩:=hv.inv;have hA:E.A id:=by cases a1;assumption
 obtain⟨E1,e1,q1,f1,il1,il2,iA,ib2,ib3⟩:=qet s.ips h1 p t5 a2;have p1:=q1.pre p;have hle1:=q1.env p;obtain⟨z1,z2,z3,z4,z5⟩:=hle1.alw id hA;obtain⟨fn,tmps,g1,g2,g3⟩:=p1.st.objs id (T.sub _ hTid) z1 _ ho;have hls:VRs E1 (cfg.ls.map (slot fr)) (cfg.ls.map fun t=>tmps.getD t undef):=⟨by simp,fun i hi hi2=>by
   simp only[List.getElem_map];refine g2.get _ ?_;have:=(List.all_eq_true.1 b8) (cfg.ls[i]'(by simpa using hi)) (List.getElem_mem _);simpa using this⟩
 obtain⟨E2,e2,q2,f2,l1,l2,A2,c2,c3⟩:=qet cfg.lp h2 p1 t6 hls;have p2:=q2.pre p1;have hle2:=q2.env p1;obtain⟨_,y2,y3⟩:=qen cfg.lp h3 l2;have hq12:=Post.trans p q1 f1 q2;have hf12:=f1.trans f2 q1.le;have hS2:S2.H id=some (.loop .ready none nt fr [pr] assign body D):=by
   rw[(qe1 _ h2).2 id (p1.bnd id z1) (by simpa using b9)];exact ho
 obtain⟨hA2,x2,x3,x4,x5⟩:=hle2.alw id z1;obtain⟨fn',tmps',g1',g2',g3'⟩:=p2.st.objs id (T.sub _ hTid) hA2 _ hS2;obtain⟨nq1,nq2⟩:=List.nodup_cons.1 hnd;have nq3:=(List.nodup_append.1 nq2);have hheld:Held T E2 S2 cfg.lp d rows subs:=⟨l1,l2,nq3.2.1,fun i hi=>hbits i (List.mem_append_right _ hi),A2,fun ι hι j o hj=>by
     obtain⟨id',g1,g2,g3,g4,_⟩:=qzl h3 l2 p2 (fun i hi=>T.sub _ (hbits i (List.mem_append_right _ (List.mem_append_left _ hi)))) (c3 _ _ hι) j o hj;exact⟨id',g1,g2,g3,g4⟩,
   fun i hi=>qw2 ((List.all_eq_true.1 b3) i hi),y3⟩
 have hidq:id ∉ rows++subs:=fun hi=>nq1 (List.mem_append_right _ hi);have hiq:i ∉ rows++subs:=fun h2=>nq3.2.2 i (by simp) i h2 rfl;have hidi:id≠i:=fun e=>nq1 (List.mem_append_left _ (by simp[e]));have p0:=hheld.pre p2;have hlive:Live E2 S2.H id:=⟨p2.st.blk id (T.sub _ hTid) hA2 _ hS2 rfl,_,hS2,rfl⟩;have hns:Nums idN 0 isubs:=by
   have:isubs=[]:=List.length_eq_zero_iff.1 (by rw[il2,hc.ns]);rw[this];intro j id hj;simp at hj
 have hrow:∀(j:Nat) (o:IObj),(qau s.ips idN 0 xi)[j]?=some o->∃i',[i][j]?=some i'/\E2.A i'/\(o.blk=true->E2.hb i'=true)/\OR E2 i' o:=fun j o hj=>by
   obtain⟨i,i1,i2,i3,i4⟩:=ib3 idN 0 hns j o hj;obtain⟨j1,j2,j3,j4,j5⟩:=hle2.alw i i2;exact⟨i,i1,j1,fun hb=>j5.trans (i3 hb),i4.mono hle2 i2 i3 (fun _ _=>by rw[e2])⟩
 have hread:qxt E2 s xi us [i]:=⟨fun ρ k hk=>(ib2 ρ k hk).mono hle2,hrow⟩;have hAi:E2.A i:=by
   have hj2:0<(qau s.ips idN 0 xi).length:=by rw[qa3,<- il1];simp
   obtain⟨i',i1,i2,_⟩:=hrow 0 _ (List.getElem?_eq_getElem hj2);cases i1;exact i2
 have hLi:Live E2 S2.H i:=by
   obtain⟨cs,hcs⟩:=qw2 ((List.all_eq_true.1 b2) i (by simp));exact⟨p2.st.blk i (T.sub _ hTi) hAi _ hcs rfl,_,hcs,rfl⟩
 have hfar:∀i,i ∉ rows++subs->T.r i->E2.A i->Live E2 S2.H i->∀k,(renE 0 (rows++subs) E2).A k->Live (renE 0 (rows++subs) E2) (Sc cfg.lp d).H k->(renE 0 (rows++subs) E2).ρ k≠E2.ρ i:=fun i hi ht ha hl k hk hkl e=>by
   have hk1:k<(rows++subs).length:=by have:=hk.1;omega
   have hm1:=(qb0 hk1).1;obtain⟨h0,o,ho1,ho2⟩:=hkl;have hl2:Live E2 S2.H (ol 0 (rows++subs) k):=⟨h0,(hheld.obj p2 hk1 hk.2 ho1).live ho2⟩;have:=p2.st.inj _ _ (T.sub _ (hheld.w _ hm1)) ht hk.2 ha hl2 hl e;exact hi (this▸hm1)
 have hap:qc0 (renE 0 (rows++subs) E2) (Sc cfg.lp d) (E2.ρ id):=⟨p2.st.own id (T.sub _ hTid) hA2 hlive,hfar id hidq (T.sub _ hTid) hA2 hlive⟩;have hai:qc0 (renE 0 (rows++subs) E2) (Sc cfg.lp d) (E2.ρ i):=⟨p2.st.own i (T.sub _ hTi) hAi hLi,hfar i hiq (T.sub _ hTi) hAi hLi⟩;have hbne:E2.ρ id≠E2.ρ i:=fun e=>hidi (p2.st.inj _ _ (T.sub _ hTid) (T.sub _ hTi) hA2 hAi hlive hLi e);have hbim:E2.ρ i∈E2.m:=p2.st.own i (T.sub _ hTi) hAi hLi;generalize hE0:renE 0 (rows++subs) E2=E0 at p0 hap hai hfar;have hE0w:E0.w=E2.w:=by rw[<- hE0];rfl
 have hE0m:E0.m=E2.m:=by rw[<- hE0];rfl
 generalize hbk:E2.ρ id=b at hap g1' hbne;generalize hbik:E2.ρ i=bi at hai hbne;obtain⟨rec,hrec⟩:∃rec:Loop,rec={ state:=.ready,pending:=none,fn:=fn',tmps:=tmps',params:=[pr].toArray,assign:=assign,body:=body,defers:=E2.ρ D }:=⟨_,rfl⟩;have hl0:E0.w.heap[b]?=some (.loop rec):=by rw[hE0w,g1',hrec]
 have htm:tmps'=tmps:=by
   have h1:=g1';rw[e2,<- hbk,x2,g1] at h1;have h1:=Option.some.inj h1;injection h1 with h1
   injection h1 with _ _ _ h1
   exact h1.symm
 have hargs:VRs E0 (qas cfg.lp idN 0 d) (cfg.ls.map fun t=>rec.tmps.getD t undef):=by
   have e:rec.tmps=tmps:=by rw[hrec];exact htm
   rw[e,<- hE0];exact argsP_env (E:=E2) (E':=renE 0 (rows++subs) E2) (ρ:=ol 0 (rows++subs)) (fun _ h=>h) rfl cfg.lp (fun j a b=>Held.numTo E2 _ (by rw[hheld.len];omega)) (by rw[y2];exact c2 _ _ hheld.num.1)
 generalize hg:qey P tt cfg s.c nt lf cl pr assign body d=g at h5;have hd0:updP cfg.lp d (qc8 cfg.lp d)=d:=qpb _ _;have hT0:∀id,mP cfg.lp<=id->T0.w id:=fun _ _=>trivial
 -- the two states of affairs
 let J:List (El s.c)->World->Prop:=fun pre W=>∃z Wb Ei,foldB g pre (qc8 cfg.lp d)=some (z,none)/\Beside bi E0.w Wb/\PostB (mP cfg.lp) T0 (E0.at_ Wb) (Sc cfg.lp d) Ei (Sc cfg.lp (updP cfg.lp d z))/\Ei.w=W
 let K:World->Prop:=fun W=>∃z cd Wb Ei,foldB g l (qc8 cfg.lp d)=some (z,some cd)/\Beside bi E0.w Wb/\PostB (mP cfg.lp) T0 (E0.at_ Wb) (Sc cfg.lp d) Ei (Sc cfg.lp (updP cfg.lp d z))/\Upd [b,bi] Ei.w W/\W.heap[b]?=some (.loop { rec with state:=.done,pending:=some cd })
 have hbes0:Beside bi E0.w E0.w:=⟨rfl,rfl,rfl,rfl,fun _ _=>rfl⟩;have hJ0:J [] E0.w:=⟨qc8 cfg.lp d,E0.w,E0,rfl,hbes0,by rw[hd0];exact PostB.refl (by rw[qjr];omega) hT0 p0,rfl⟩;have hJu:∀s A B,J s A->Upd [bi] A B->J s B:=fun pre A B ⟨z,Wb,Ei,k1,hW,k2,k3⟩ u=>by
   subst k3;obtain⟨Wb',w1,w2⟩:=jup p0 hai hW k2 hT0 u;exact⟨z,Wb',Ei.at_ B,k1,w1,w2,rfl⟩
 have hKu:∀A B,K A->Upd [bi] A B->K B:=fun A B ⟨z,cd,Wb,Ei,k1,hW,k2,k3,k4⟩ u=>⟨z,cd,Wb,Ei,k1,hW,k2,k3.trans (u.mono (by simp)),(u.same _ (qav k4) (by simpa using hbne)).trans k4⟩;have hRd:∀pre A,J pre A->E2.Le (E2.at_ A):=fun pre A ⟨z,Wb,Ei,k1,hW,k2,k3⟩=>by
   subst k3;refine⟨fun _ h=>⟨h,rfl,rfl,rfl,rfl⟩,⟨fun x hx hxm=>⟨hxm,?_⟩⟩⟩;have hsz:x<Wb.heap.size:=by rw[hW.size,hE0w];exact hx
   have h1:Ei.w.heap[x]?=Wb.heap[x]?:=k2.same x hsz fun k _ ha hl e=>hxm (by rw[<- e,<- hE0m];exact p0.st.own k trivial ha hl);have h2:Wb.heap[x]?=E0.w.heap[x]?:=hW.same x fun e=>hxm (by rw[e,<- hbik];exact hbim);show Ei.w.heap[x]?=E2.w.heap[x]?;rw[h1,h2,hE0w]
 have hround:∀pre x post A0 A u,l=pre++x::post->J pre A0->Upd [bi] A0 A->(∀E:Env,E.w=A->(∀b∈E.m,b<A0.heap.size/\(b<E2.w.heap.size->b∈E2.m))->VR E (asIV s.c x) u)->YieldAt Fence.wide 0 P b #[u] A fun e B=>(∀c,(c=bi\/A0.heap.size<=c)->c<A.heap.size->B.heap[c]?=A.heap[c]?)/\((e=.returned (.bool true)/\J (pre++[x]) B)\/(e=.returned (.bool false)/\K B)):=fun pre x post A0 A u hl ⟨z,Wb0,Ei0,k1,hW0,k20,k30⟩ hup0 hu=>by
   subst k30;obtain⟨_,pW0,hiW0⟩:=p0.beside hai hW0;have hpi0:=k20.pre hT0 pW0;obtain⟨Wb,hW,k2⟩:=jup p0 hai hW0 k20 hT0 hup0;obtain⟨hleW,pW,hiW⟩:=p0.beside hai hW;have hapW:qc0 (E0.at_ Wb) (Sc cfg.lp d) b:=hap;have hapW0:qc0 (E0.at_ Wb0) (Sc cfg.lp d) b:=hap;have hlow0:∀k,(Ei0.at_ A).A k->Live (Ei0.at_ A) (Sc cfg.lp (updP cfg.lp d z)).H k->(Ei0.at_ A).ρ k<Ei0.w.heap.size:=fun k ha hl=>hpi0.st.lo _ (hpi0.st.own k trivial ha hl);have hmem0:∀b∈(Ei0.at_ A).m,b<Ei0.w.heap.size/\(b<E2.w.heap.size->b∈E2.m):=fun b hb=>⟨hpi0.st.lo b hb,fun hlt=>by
     rcases k20.memo b hb with h|h
     · rw[<- hE0m];exact h
     · have:Wb0.heap.size<=b:=h;rw[hW0.size,hE0w] at this;omega⟩
   obtain⟨Ei,hEi⟩:∃Ei,Ei=Ei0.at_ A:=⟨_,rfl⟩;have hEw:Ei.w=A:=by rw[hEi];rfl
   rw[<- hEi] at k2 hlow0 hmem0;rw[<- hEw];have hWb:Wb.heap[b]?=some (.loop rec):=(hW.same b hbne).trans hl0;have hWb0:Wb0.heap[b]?=some (.loop rec):=(hW0.same b hbne).trans hl0;have hb0:b<Ei0.w.heap.size:=qav ((k20.at_same pW0 hapW0).trans hWb0);have hwhole:foldB g (x::post) z=some q:=by
     rw[<- qqs g pre (x::post) _ _ k1,<- hl];exact h5
   have hsnoc:foldB g (pre++[x]) (qc8 cfg.lp d)=foldB g [x] z:=qqs g pre [x] _ _ k1;cases hgx:g z x with
   | none=>simp only[foldB,hgx] at hwhole;cases hwhole
   | some q1 =>
   obtain⟨z1,e⟩:=q1;rw[<- hg] at hgx;have hlow:((E0.at_ Wb).bel (mP cfg.lp)).Le Ei:=k2.env pW;have hargsB:VRs ((E0.at_ Wb).bel (mP cfg.lp)) (qas cfg.lp idN 0 d) (cfg.ls.map fun t=>rec.tmps.getD t undef) :=
     argsP_env (E:=E0.at_ Wb) (E':=(E0.at_ Wb).bel (mP cfg.lp)) (ρ:=idN) (fun _ h=>h) rfl cfg.lp (fun j _ hj hA=>⟨⟨hA,by show j<mP cfg.lp;omega⟩,rfl,rfl,rfl,rfl⟩) (hargs.mono hleW)
   have hst:=zj1 (E:=Ei) (b:=b) (rec:=rec) hm hcl hfr htt hgx ⟨b4,b5⟩ ⟨by simpa using b6,by simpa using b7⟩ (k2.pre hT0 pW) (k2.apart pW hapW) ((k2.at_same pW hapW).trans hWb)
     (by rw[hrec];exact⟨rfl,rfl,rfl,rfl,rfl,g2'.size⟩) (hargsB.mono hlow) (hu Ei hEw hmem0)
   obtain⟨fnr,tmpr,asr,bdr,hyr,hRr⟩:=hst;refine⟨fnr,tmpr,asr,bdr,hyr,hRr.mono fun en B hB=>?_⟩;obtain⟨E',m1,m2⟩:=hB;have hall:=k2.trans m1;rw[hg] at hgx;have hiA:=k2.apart pW hiW;have hkeep:∀c,(c=bi\/Ei0.w.heap.size<=c)->c<Ei.w.heap.size->E'.w.heap[c]?=Ei.w.heap[c]?:=fun c h1 h2=>m1.same c h2 fun k _ ha hl e=>by
     rcases h1 with h1|h1
     · exact hiA.2 k ha hl (e.trans h1)
     · have:=hlow0 k ha hl;omega
   rcases m2 with ⟨rfl,rfl,rfl⟩|⟨cd,rfl,rfl,m3,m4⟩
   · refine⟨hkeep,.inl ?_⟩;refine⟨rfl,z1,Wb,E',?_,hW,hall,rfl⟩;rw[hsnoc];simp only[foldB,hgx]
   · refine⟨fun c h1 h2=>(m3.same c (qav ((hkeep c h1 h2).trans (Array.getElem?_eq_getElem h2))) (fun hc=>by
       have hcb:c=b:=by simpa using hc
       rcases h1 with h1|h1
       · exact hbne (hcb.symm.trans h1)
       · omega)).trans (hkeep c h1 h2),.inr ?_⟩
     refine⟨rfl,z1,cd,Wb,E',?_,hW,hall,m3.mono (by simp),m4⟩;rw[hl,qqs g pre (x::post) _ _ k1];simp only[foldB,hgx]
 have hit:=hc.it E2 xi us i l h4 p2.gl hread hbim p2.st.lo b J K;rw[hbik] at hit;have hit:=hit hJu hKu hRd hround (by rw[<- hE0w];exact hJ0);have hu0:u0=.func (.yield b) #[] #[]:=by
   cases a1;rw[<- hbk,x2,z2]
 have hw:E2.w=E.w:=by rw[e2,e1]
 rw[hw] at hit;rw[hu0,show (Value.func (.yield b) #[] #[]::us).toArray=#[.func (.yield b) #[] #[]]++us.toArray by simp];refine hit.mono fun en B ⟨hen,hB⟩=>?_
 -- what comes back
 have hfin:∀(z:ElP (refs cfg.lp)) (pe:Option Code) (Wb:World) (Ei:Env),q=(z,pe)->Beside bi E0.w Wb->PostB (mP cfg.lp) T0 (E0.at_ Wb) (Sc cfg.lp d) Ei (Sc cfg.lp (updP cfg.lp d z))->Upd [b] Ei.w B ->
     B.heap[b]?=some (.loop { rec with state:=cond pe.isNone .ready .done,pending:=pe })->RetE T E S (qj7 S2 cfg id nt fr pr D assign body i rows subs (w1 ||| w2) q) en B:=fun z pe Wb Ei hqz hW k2 hup hbl=>by
   subst hqz;rw[hE0w,<- hbik] at hW;obtain⟨wr1,wr2⟩:=Post.write (o':=.dead) p2 hTi hAi hLi hW.upd trivial;have hheldW:=hheld.dead p2 hTi hAi hLi hiq hW;have p2W:=wr1.pre p2;have hle2W:=wr1.env p2;have hE0W:E0.at_ Wb=renE 0 (rows++subs) (E2.at_ Wb):=by rw[<- hE0];rfl
   rw[<- q2m cfg.lp d z,hE0W] at k2;obtain⟨m1,m2⟩:=hheldW.back (s:=sQ cfg.lp) (x:=d) p2W k2;have p3:=m1.pre p2W;have hle3:=m1.env p2W;obtain⟨n1,n2,n3,n4,n5⟩:=hle3.alw id hA2;have hlt:id<S2.next:=p2.bnd id hA2
   have hSd:(S2.set i .dead).H id=some (.loop .ready none nt fr [pr] assign body D):=by rw[IS.H_set,up_ne _ _ hidi];exact hS2
   have hobj:(qbs (sQ cfg.lp) S2.next rows subs () z (S2.set i .dead)).H id=some (.loop .ready none nt fr [pr] assign body D):=by
     unfold qbs;rw[qb8,qn6,qoi,if_pos (show id<(S2.set i .dead).next from hlt),qgh (fun h=>hidq (List.mem_append_left _ h)),qnq (fun h=>hidq (List.mem_append_right _ h))];exact hSd
   have hL3:Live (mrgR (E2.at_ Wb) Ei S2.next (mP (sQ cfg.lp).ps)) (qbs (sQ cfg.lp) S2.next rows subs () z (S2.set i .dead)).H id:=⟨n5.trans hlive.1,_,hobj,rfl⟩;have n2':(mrgR (E2.at_ Wb) Ei S2.next (mP (sQ cfg.lp).ps)).ρ id=b:=n2.trans hbk;have hub:Upd [(mrgR (E2.at_ Wb) Ei S2.next (mP (sQ cfg.lp).ps)).ρ id] (mrgR (E2.at_ Wb) Ei S2.next (mP (sQ cfg.lp).ps)).w B:=by rw[n2'];exact hup
   have hle4:=Env.at_le p3.st hTid n1 hL3 hub;obtain⟨w1',w2'⟩:=Post.write p3 (o':=.loop (cond pe.isNone .ready .done) pe nt fr [pr] assign body D) hTid n1 hL3 hub ⟨fn',tmps',by
     show B.heap[(mrgR (E2.at_ Wb) Ei S2.next (mP (sQ cfg.lp).ps)).ρ id]?=_;rw[n2',hbl,hrec];have:E2.ρ D=(mrgR (E2.at_ Wb) Ei S2.next (mP (sQ cfg.lp).ps)).ρ D:=((hle3.alw D g3').2.1).symm;show some (Obj.loop { state:=cond pe.isNone .ready .done,pending:=pe,fn:=fn',tmps:=tmps',params:=[pr].toArray,assign:=assign,body:=body,defers:=E2.ρ D })=_;rw[this];rfl,((g2'.mono hle2W).mono hle3).mono hle4,(hle4.alw D (hle3.alw D g3').1).1⟩
   have r0:=Post.trans p hq12 hf12 wr1;have rf0:=hf12.trans wr2 hq12.le;have r1:=Post.trans p r0 rf0 m1;have rf1:=rf0.trans m2 r0.le;exact⟨_,_,hen,rfl,.tup (us:=[]) rfl (fun i h=>by simp at h),Post.trans p r1 rf1 w1',rf1.trans w2' r1.le⟩
 rcases hB with ⟨z,Wb,Ei,k1,hW,k2,k3⟩|⟨z,cd,Wb,Ei,k1,hW,k2,k3,k4⟩
 · obtain⟨_,pW,_⟩:=p0.beside hai hW;have hapW:qc0 (E0.at_ Wb) (Sc cfg.lp d) b:=hap;refine hfin z none Wb Ei (Option.some.inj (h5.symm.trans k1)) hW k2 (by rw[k3];exact Upd.refl _ _) ?_;rw[<- k3,(k2.at_same pW hapW),show (E0.at_ Wb).w.heap[b]?=some (.loop rec) from (hW.same b hbne).trans hl0,hrec];rfl
 · obtain⟨_,pW,_⟩:=p0.beside hai hW;have hapW:qc0 (E0.at_ Wb) (Sc cfg.lp d) b:=hap;have hEb:Ei.w.heap[b]?=some (.loop rec):=(k2.at_same pW hapW).trans ((hW.same b hbne).trans hl0);have hltb:b<B.heap.size:=qav k4;have hsp:Upd [bi] Ei.w (B.putObj b (.loop rec)):=⟨k3.os,k3.tape,k3.output,by rw[(Beside.put B b (.loop rec)).size];exact k3.size,fun x hx hn=>by
     by_cases e:x=b
     · subst e;rw[World.putObj_heap_same hltb,hEb]
     · rw[World.putObj_heap_other e];exact k3.same x hx (by simp at hn ⊢;exact⟨e,hn⟩)⟩
   obtain⟨Wb',v1,v2⟩:=jup p0 hai hW k2 hT0 hsp;exact hfin z (some cd) Wb' (Ei.at_ (B.putObj b (.loop rec))) (Option.some.inj (h5.symm.trans k1)) v1 v2 (Beside.put B b (.loop rec)).symm.upd k4
theorem zy6(hm:P.follows .mixedOrders=true)(htt:TT P tt){f:Nat}{s:SmI}(k:Nat)(cfg:LpC)(lf:Nat)(hc:ConW P f s):HxOK P f (itWx P tt k s cfg lf).f :=
 ⟨fun cl h1 h2 _ vs S r h T E us p hr hw hv=>zlf hm htt hc h1 h2 h p hr hw hv,fun cl _ vs S=>zz7,fun cl _ vs S r h hw _=>(zzc h hw).elim⟩
end
end Go.Jx
end

section
namespace Go.Jx
open Go Go.Sx Go.RowKit
theorem zi6{E:Env}{k:IntKind}{n:Int}{v:Value}(h:VR E (.int k n) v):v=.int k n:=by cases h;rfl
theorem zrz{E:Env}{s:ByteArray}{v:Value}(h:VR E (.str s) v):v=.string s:=by cases h;rfl
theorem zsq{E:Env}{b:Bool}{v:Value}(h:VR E (.bool b) v):v=.bool b:=by cases h;rfl
end Go.Jx
end

section
set_option maxRecDepth 100000
namespace Go.Jx
open Go Go.Sx Go.RowKit
theorem VR.asE{E E':Env}(hm:∀b,b∈E'.m->b∈E.m)(hw:E'.w=E.w){c:TC}{x:El c}{u:Value}(h:VR E (asIV c x) u):VR E' (asIV c x) u:=by
 cases c with
 | two a b =>
  cases h with
  | agg hl hh=>exact .agg hl fun i a b=>(VR.noid hm hw (hh i a b)).2.2 _ _ (List.getElem_mem a)
 | int k=>exact(VR.noid hm hw h).2.2 (.int k) x (by simp[cel,asIV])
 | bool=>exact(VR.noid hm hw h).2.2 .bool x (by simp[cel,asIV])
 | str=>exact(VR.noid hm hw h).2.2 .str x (by simp[cel,asIV])
 | list c=>exact(VR.noid hm hw h).2.2 (.list c) x (by simp[cel,asIV])
end Go.Jx
namespace Go.Sx
open Go Go.RowKit
section
variable {P : Program} {n : Nat} {σ : Nat -> Value} {w : World} {ops : Array Oper} {rest : List Oper} {d : Nat} {ty : TypeId} {pos : String} {aft : Array Edge} {g : Option (Nat × Bool)}
def cutA(a:Addr)(cap k s:Nat):Addr:=if cap=k then a else a.add (k*s)
theorem zl1{T E:TypeId}{size bytes s2 b2:Nat}{zero z2:Value}{E':TypeDesc}{a:Addr}{len cap k:Nat}{kk:IntKind}(hT:Ty P T (.slice E) size bytes zero)(hE:Ty P E E' s2 b2 z2)(hl:k<=len)(hc:len<=cap) :
  (Instr.sliceAt T (.slice (some a) len cap) (some (.int kk (k:Nat))) none none).run P w=.ok (.slice (some (cutA a cap k s2)) (len-k) (cap-k)) w:=by
 have h1:(0:Int)<=(k:Nat)/\((k:Nat):Int)<=len:=⟨by omega,by omega⟩;by_cases h3:cap=k
 ·subst h3;simp only[Instr.sliceAt,Sem.run_bind,run_underlying hT.und,Result.andThen_ok,Instr.slice,Instr.sliceBounds,Instr.sliceBound,asIntOf,Sem.run_pure,h1,and_self,if_true,run_sizeOf hE,cutA];simp
 ·rw[zbp hT hE (by omega) hl hc];unfold cutA;rw[if_neg h3]
theorem zlk{Q:Exit->Act->World->Prop}{T E:TypeId}{size bytes s2 b2:Nat}{zero z2:Value}{E':TypeDesc}{x y:Operand}{a:Addr}{len cap k:Nat}{kk:IntKind}(hT:Ty P T (.slice E) size bytes zero)(hE:Ty P E E' s2 b2 z2)
  (hg:qar ops σ n g=true) (hx:(okO n x&&okO n y)=true) (ex:ev σ x=.slice (some a) len cap) (ey:ev σ y=.int kk (k:Nat)) (hl:k<=len) (hc:len<=cap)
  (kt:wpList P ops Q rest (Fr n (upd σ d (.slice (some (cutA a cap k s2)) (len-k) (cap-k)))) w):wpList P ops Q (⟨some d,.slice T x (some y) none none,ty,pos,aft,g⟩::rest) (Fr n σ) w:=by
 simp only[Bool.and_eq_true] at hx;exact qa6 hg (by simp only[execOp,qaw hx.1,ex,Option.map_none,Option.map_some,qaw hx.2,ey,zl1 hT hE hl hc,Sem.run_bind,Sem.run_pure,Result.andThen_ok]) kt
theorem SL.cut{M:List Nat}{a:Addr}{cap k:Nat}{l:List ByteArray}(h:SL M w (some a) cap l)(hk:k<=l.length):SL M w (some (cutA a cap k 1)) (cap-k) (l.drop k):=by
 obtain⟨⟨h1,h2⟩,h3⟩:=h;refine⟨⟨by rw[List.length_drop];omega,by omega⟩,?_⟩;rcases h3 with rfl|⟨b,off,cells,t,fz,ha,hb,hh,hall⟩
 ·exact .inl (by simp)
 ·cases ha;by_cases hc:cap=k
  ·exact .inl (List.drop_eq_nil_of_le (by omega))
  ·refine .inr ⟨b,off+k,cells,t,fz,?_,hb,hh,fun i hi=>?_⟩
   ·unfold cutA;rw[if_neg hc,qbf _ rfl,Nat.mul_one]
   ·rw[List.length_drop] at hi;obtain⟨cs,c1,c2⟩:=hall (k+i) (by omega);refine⟨cs,by rw[List.getElem_drop];exact c1,fun j hj=>?_⟩;have:=c2 j hj;have e:(Dat.sz ByteArray)=1:=rfl;rw[e] at this ⊢;rw[show off+k+i*1+j=off+(k+i)*1+j by omega];exact this
end
end Go.Sx
namespace Go.Proofs.YtnhmanoiolfapaaGreat
open Go Go.Sx Go.RowKit Go.Jx
theorem zg8:Fld Tryz.prog 151 1 1:=Fld.mk (F := ⟨"sectors", 3,1, false, "", "cosigner/keep", 24⟩) qij rfl ty3
theorem zz1:Fld Tryz.prog 151 2 2:=Fld.mk (F := ⟨"torn", 4,2, false, "", "cosigner/keep", 32⟩) qij rfl ty4
theorem zpb(M:List Nat)(w:World):Gl M w:=⟨fun b hb=>by cases hb⟩
theorem zny{w:World}{m0:List Nat}{a:Option Addr}{cap:Nat}{l:List ByteArray}(hS:SL m0 w a cap l)(h1:S.secs1 l=true) :
  Calls Tryz.prog 112 #[.slice a l.length cap] w (Ret fun v w'=>Upd [] w w'/\(∃a1 n1 c1,v=.agg #[.slice a1 n1 c1,.int .i64 (S.readK l).2.1,.bool (S.readK l).2.2]) /\
   ∀E:Env,E.w=w'->(∀x∈E.m,x<w.heap.size/\∀ad,a=some ad->x≠ad.block)->VR E (asIV cKeepRecord (S.readK l)) v):=by
 obtain⟨hn,hlen,hsz⟩:=q3v h1;obtain⟨⟨hc1,hc2⟩,h|⟨b,off,cells,t,fz,rfl,hb,hh,hall⟩⟩:=hS
 ·rw[h] at hn;simp at hn
 have hlt:=qav hh
 let M0:=(List.range w.heap.size).filter fun x=>!(x==b)
 have hM0:∀x∈M0,x<w.heap.size:=fun x hx=>by
  have:=(List.mem_filter.1 hx).1;simpa using this
 have hbM:b ∉ M0:=fun hx=>by
  have:=(List.mem_filter.1 hx).2;simp at this
 have hv:VR (EM M0 w) (.lst .str l) (.slice (some ⟨b,off,none⟩) l.length cap):=by
  refine VR.lst (fun i _=>.string (l.getD i S.none_)) hc1 hc2 (by show l.length*16<=_;omega) hbM hh (fun i hi j hj=>?_) (fun i hi j hj=>?_)
  ·have hj:j<1:=hj;have:j=0:=by omega
   subst this;obtain⟨cs,c1,c2⟩:=hall i hi;have c1:cs=[.string l[i]]:=c1;have:=c2 0 (by show 0<1;omega);rw[c1] at this;have hi:i<List.length (α:=ByteArray) l:=hi;rw[List.getD_eq_getElem?_getD,List.getElem?_eq_getElem hi];exact this
  ·have hj:j<1:=hj;have:j=0:=by omega
   subst this;have hi:i<List.length (α:=ByteArray) l:=hi;rw[List.getD_eq_getElem?_getD,List.getElem?_eq_getElem hi];show VR _ (.str l[i]) (.string l[i]);exact .str _ (by have:=hsz l[i] (List.getElem_mem hi);omega)
 have hcall:=zla.calls M0 w (l,()) [.slice (some ⟨b,off,none⟩) l.length cap] (S.readK l,()) (by
  show cond (S.secs1 l) (some (S.readK l,())) none=_;rw[h1];rfl) hM0 (zpb _ _) (.cons hv .nil)
 refine(callsIn_wide.1 hcall).mono fun e w' hR=>?_;obtain⟨v,E',rfl,rfl,k1,k2,k3⟩:=hR;have k1:VR E' (asIV cKeepRecord (S.readK l)) v:=k1;refine⟨⟨k2.stp.os,k2.stp.tape,k2.stp.output,k2.stp.size,fun x hx _=>k2.stp.same x hx fun id _ hA _=>hA.elim⟩,?_,fun E hE hm=>VR.asE (fun x hx=>?_) hE k1⟩
 ·generalize S.readK l=r at k1;obtain⟨cl,nn,tt⟩:=r;have k1:VR E' (.agg [.lst qae cl,.int .i64 nn,.bool tt]) v:=k1;cases k1 with
  | @agg _ us hl hh2 =>
   match us,hl,hh2 with
   | [x1,x2,x3],hl,hh2 =>
    have q1:VR E' (.lst qae cl) x1:=hh2 0 (by simp) (by simp);have q2:VR E' (.int .i64 nn) x2:=hh2 1 (by simp) (by simp);have q3:VR E' (.bool tt) x3:=hh2 2 (by simp) (by simp);rw[zi6 q2,zsq q3];cases q1 with
    | lst0 _=>exact⟨_,_,_,rfl⟩
    | lst us h1 h2 h3 hb hh hc hu=>exact⟨_,_,_,rfl⟩
 ·obtain⟨h2,h3⟩:=hm x hx;have hxb:x≠b:=h3 _ rfl;have hx0:x∈M0:=List.mem_filter.2 ⟨by simpa using h2,by simpa using hxb⟩;rcases k2.stp.mem x hx0 h2 with h|⟨id,_,hA,_⟩
  ·exact h
  ·exact hA.elim
theorem qtr(l:List ByteArray)(h:(S.readK l).2.2=false):1<=(S.readK l).2.1.toNat/\(S.readK l).2.1.toNat<=l.length/\(S.readK l).2.1=((S.readK l).2.1.toNat:Int):=by
 revert h
 unfold S.readK;split
 ·intro h;cases h
 ·rename_i hc;have h1:1<=S.recM (qac (l.getD 0 S.none_)):=by unfold S.recM;omega
  have h2:S.recM (qac (l.getD 0 S.none_))<=l.length:=by omega
  split
  ·intro _;exact⟨by simpa using h1,by simpa using h2,by simp⟩
  ·intro _;exact⟨by simpa using h1,by simpa using h2,by simp⟩
theorem zmt:∀(f:Nat) (l:List ByteArray),l.length<f->S.recsGo f l=S.recsGo (l.length+1) l:=by
 intro f;induction f using Nat.strongRecOn with
 | ind f ih =>
  intro l hl;cases l with
  | nil=>cases f with
   | zero=>omega
   | succ f=>rfl
  | cons s r=>cases f with
   | zero=>omega
   | succ f =>
    show (if (qac s).getD 0 0=0 then [] else S.readK (s::r)::cond (S.readK (s::r)).2.2 [] (S.recsGo f ((s::r).drop (S.readK (s::r)).2.1.toNat)))=(if (qac s).getD 0 0=0 then [] else S.readK (s::r)::cond (S.readK (s::r)).2.2 [] (S.recsGo (s::r).length ((s::r).drop (S.readK (s::r)).2.1.toNat)));by_cases h0:(qac s).getD 0 0=0
    ·rw[if_pos h0,if_pos h0]
    ·rw[if_neg h0,if_neg h0];cases ht:(S.readK (s::r)).2.2 with
     | true=>rfl
     | false =>
      obtain⟨h1,h2,_⟩:=qtr (s::r) ht;have hd:((s::r).drop (S.readK (s::r)).2.1.toNat).length<(s::r).length:=by rw[List.length_drop];simp only[List.length_cons] at *;omega
      show _::S.recsGo f _=_::S.recsGo _ _;rw[ih f (by omega) _ (by simp only[List.length_cons] at *;omega)];by_cases hf:(s::r).length=f
      ·rw[hf,ih f (by omega) _ (by simp only[List.length_cons] at *;omega)]
      ·rw[ih (s::r).length (by simp only[List.length_cons] at *;omega) _ hd]
theorem qt2(s:ByteArray)(r:List ByteArray):S.recsK (s::r)=if (qac s).getD 0 0=0 then [] else S.readK (s::r)::cond (S.readK (s::r)).2.2 [] (S.recsK ((s::r).drop (S.readK (s::r)).2.1.toNat)):=by
 show (if (qac s).getD 0 0=0 then [] else S.readK (s::r)::cond (S.readK (s::r)).2.2 [] (S.recsGo (s::r).length ((s::r).drop (S.readK (s::r)).2.1.toNat)))=_;by_cases h0:(qac s).getD 0 0=0
 ·rw[if_pos h0,if_pos h0]
 ·rw[if_neg h0,if_neg h0];cases ht:(S.readK (s::r)).2.2 with
  | true=>rfl
  | false =>
   obtain⟨h1,h2,_⟩:=qtr (s::r) ht;have hd:((s::r).drop (S.readK (s::r)).2.1.toNat).length<(s::r).length:=by rw[List.length_drop];simp only[List.length_cons] at *;omega
   show _::S.recsGo _ _=_::S.recsK _;unfold S.recsK;rw[zmt _ _ hd]
theorem zzr{s:ByteArray}(h:0<s.size):((qfa s 0).toNat:Int)=(qac s).getD 0 0:=by
 rw[List.getD_eq_getElem?_getD,zvt h];unfold qfa;rw[List.getD_eq_getElem?_getD,List.getElem?_eq_getElem (by simpa using h)];rfl
theorem q9k{l:List ByteArray}(h:S.secs l=true)(k:Nat):S.secs (l.drop k)=true:=by
 obtain⟨h1,h2⟩:=qmk h;unfold S.secs S.anyShort;rw[Bool.and_eq_true];refine⟨Nat.ble_eq_true_of_le (by rw[List.length_drop];omega),?_⟩;rw[Bool.not_eq_true',List.any_eq_false];intro s hs;have:=h2 s (List.mem_of_mem_drop hs);unfold S.short;simp[this]
section
attribute [local irreducible] Go.wpList Go.wpQuiet Go.Code.wp
theorem zfx{W0:World}{b:Nat}{m0:List Nat}{r0:List Value}{a0:Option Addr}{cap0:Nat}{l0:List ByteArray}(hbm:b∈m0)(hlo:∀x∈m0,x<W0.heap.size)(hS0:SL m0 W0 a0 cap0 l0)(hl0:S.secs l0=true)(hbox0:Box W0 b (.slice a0 l0.length cap0::r0)) :
   q5b Tryz.prog 111 [.pointer (some ⟨b,0,none⟩)] b m0 W0 (fun W=>Tr m0 W0 m0 W) (fun(x:qe7) u E=>VR E (asIV cKeepRecord x) u) (S.recsK l0):=by
 intro l J K hJ hK hR hy h0;refine callsIn_wide.2 (Calls.mono (R:=Ret fun v B=>v=.tuple #[]/\(J (S.recsK l0) B\/K B)) ?_ (fun e B h=>by cases e<;>first|exact⟨by rw[h.1],h.2⟩|exact h.elim));refine(enter (l:=[.func (.yield l) #[] #[],.pointer (some ⟨b,0,none⟩)]) Tryz.func111 rfl Tryz.ntmps111 rfl ?_);refine wp_block ?_;refine qxc (X:=(List qe7 × List ByteArray) × (Option Addr × Nat)) ((List.range 28).drop 3) (fun _=>[]) (fun x w1=>J x.1.1 w1/\SL m0 W0 x.2.1 x.2.2 x.1.2/\Box w1 b (.slice x.2.1 x.1.2.length x.2.2::r0)/\S.secs x.1.2=true/\S.recsK l0=x.1.1++S.recsK x.1.2) (fun x=>x.1.2.length) (([],l0),(a0,cap0)) trivial ⟨h0,hS0,hbox0,hl0,rfl⟩ ?_;rintro⟨⟨pre,lr⟩,a,cap⟩ τ w1 ⟨hj,hs0,hbox,hsec,hrec⟩;have hs1:SL m0 w1 a cap lr:=hs0.mono (hR _ _ hj);refine qan fun K1 hK1=>?_;refine qan fun K2 hK2=>?_;refine qay ?_;refine qgv (v:=.slice a lr.length cap) ty22 rfl rfl rfl rfl hbox rfl ?_;refine q1r ty22 rfl rfl rfl ?_;refine qqa rfl rfl rfl rfl ?_;cases lr with
 | nil =>
   refine qaz (v:=.bool false) rfl rfl rfl ?_;refine qhp rfl ?_;refine qhp rfl ?_;refine qhp rfl ?_;refine qhp rfl ?_;refine qhp rfl ?_;refine q18 (v:=.bool false) rfl rfl rfl rfl ?_;refine wpList_nil ?_;refine hK2 _ _ ?_;refine qmj rfl rfl ?_;refine wp_exit ?_;have e:S.recsK l0=pre:=by rw[hrec];exact List.append_nil _
   exact q9o Tryz.results111 ⟨rfl,.inl (by rw[e];exact hj)⟩
 | cons s r =>
   obtain⟨hlen,hsz⟩:=qmk hsec;have hs64:s.size=64:=hsz s (by simp);refine qaz (v:=.bool true) rfl rfl (congrArg Value.bool (decide_eq_true (by show (0:Int)<((r.length+1:Nat):Int);omega))) ?_;refine qgv (v:=.slice a (s::r).length cap) ty22 rfl rfl rfl rfl hbox rfl ?_;refine z0n (j:=0) ty22 ty9 rfl rfl rfl rfl rfl hs1 (by simp) fun ad cs u hget henc hca=>?_;have hus:u=s:=by simpa using hget.symm
   subst hus;have henc:cs=[.string u]:=henc;subst henc;refine zng (v:=.string u) ty9 rfl rfl rfl rfl hca rfl ?_;refine zxq (j:=0) ty9.und rfl rfl rfl rfl (by omega) ?_;refine zcc rfl rfl rfl rfl ?_;refine q92 (v:=.bool (decide (((qfa u 0).toNat:Int)≠0))) rfl rfl rfl rfl ?_;refine wpList_nil ?_;refine hK2 _ _ ?_;have hb0:=zzr (s:=u) (by omega);refine c_if rfl rfl (fun hne=>?_) (fun hne=>?_)
   · refine wp_skip ?_;refine hK1 _ _ ?_;have hne:¬(qac u).getD 0 0=0:=by rw[<- hb0];exact hne
     have hrk:=qt2 u r;rw[if_neg hne] at hrk;have hsec1:S.secs1 (u::r)=true:=by unfold S.secs1;rw[hsec];rfl
     generalize hL:u::r=L at *;refine wp_block ?_;refine qan fun K3 hK3=>?_;refine qay ?_;refine qgv (v:=.slice a L.length cap) ty22 rfl rfl rfl rfl hbox rfl ?_;refine qhn (l:=[.tmp 14]) (args:=[.slice a L.length cap]) q77 rfl rfl rfl (zny hs1 hsec1) ?_;rintro _ w2 ⟨u2,⟨a1,n1,c1,rfl⟩,hvr⟩;refine ze9 (zs:=[.slice none 0 0,.int .i64 0,.bool false]) qij rfl rfl fun β w3 hβ u3 hz3 hx3=>?_;refine q5l (v:=.agg #[.slice a1 n1 c1,.int .i64 (S.readK L).2.1,.bool (S.readK L).2.2]) (cs':=[.slice a1 n1 c1,.int .i64 (S.readK L).2.1,.bool (S.readK L).2.2]) qij rfl rfl rfl rfl hx3 rfl rfl rfl fun w4 u4 hz4 hx4=>?_;refine wpList_nil ?_;refine hK3 _ _ ?_;have hβ1:w1.heap.size<=β:=by rw[<- hβ];exact u2.size
     have u24:Upd [] w2 w4:=Upd.old_upd u3 u4 (by omega);have u14:Upd [] w1 w4:=u2.trans u24;have hbox4:=hbox.mono0 u14;have hbltw1:b<w1.heap.size:=hbox.lt;have hneb:b≠β:=by omega
     -- what is handed over
     have hgive:∀E:Env,E.w=w4->(∀x∈E.m,x<w1.heap.size/\(x<W0.heap.size->x∈m0))->VR E (asIV cKeepRecord (S.readK L)) (.agg #[.slice a1 n1 c1,.int .i64 (S.readK L).2.1,.bool (S.readK L).2.2]):=fun E hE hm=>by
       have h1:=hvr (E.at_ w2) rfl (fun x hx=>⟨(hm x hx).1,fun ad had=>?_⟩)
       · refine VR.mono (E:=E.at_ w2) (E':=E) ⟨fun _ h=>⟨h,rfl,rfl,rfl,rfl⟩,⟨fun x hx hxm=>⟨hxm,?_⟩⟩⟩ h1;show E.w.heap[x]?=w2.heap[x]?;rw[hE];exact u24.same x hx (by simp)
       · subst had;obtain⟨_,h|⟨bl,off,cells,t,fz,ha,hbl,hh,_⟩⟩:=hs0
         · rw[<- hL] at h;cases h
         · cases ha;intro e;have e:x=bl:=e;exact hbl (e▸(hm x hx).2 (by rw[e];exact qav hh))
     have hsp:S.recsK l0=pre++S.readK L::cond (S.readK L).2.2 [] (S.recsK (L.drop (S.readK L).2.1.toNat)):=by rw[hrec,hrk]
     refine qan fun K4 hK4=>?_;refine qan fun K5 hK5=>?_;refine(wpIn_wide (n:=0)).1 (wpIn_region_lit (zhb 2 rfl ?lo rfl ?_))
     case lo=>rintro⟨_,_,h⟩;exact(show False from h)
     dsimp only [List.take_succ_cons,List.take_zero,List.drop_succ_cons,List.drop_zero];refine qaz (v:=.func (.yield l) #[] #[]) rfl rfl rfl ?_;refine q0m (ds:=[.slice a1 n1 c1,.int .i64 (S.readK L).2.1,.bool (S.readK L).2.2]) qij rfl rfl rfl rfl hx4 rfl rfl ?_;refine wpList_nil ?_;refine zoe ?_;refine zzb rfl rfl rfl rfl rfl (hy pre (S.readK L) _ w1 w4 _ hsp hj (u14.mono (by simp)) hgive) ?_;rintro e w5 ⟨hfr,⟨rfl,hj5⟩|⟨rfl,hk5⟩⟩
     · have hx5:Box w5 β [.slice a1 n1 c1,.int .i64 (S.readK L).2.1,.bool (S.readK L).2.2]:=by
         obtain⟨t6,ht6⟩:=hx4;exact⟨t6,(hfr β (.inr hβ1) (qav ht6)).trans ht6⟩
       have hbox5:Box w5 b (.slice a L.length cap::r0):=by
         obtain⟨t6,ht6⟩:=hbox4;exact⟨t6,(hfr b (.inl rfl) (qav ht6)).trans ht6⟩
       refine⟨_,rfl,zca rfl ?lo rfl ?_⟩
       case lo=>rintro⟨_,_,h⟩;exact(show False from h)
       refine q7i rfl rfl rfl ?_;refine qaz (v:=.bool false) rfl rfl rfl ?_;refine qw5 zz1 rfl rfl rfl ?_;refine qgv (v:=.bool (S.readK L).2.2) ty4 rfl rfl rfl rfl hx5 rfl ?_;refine q18 (v:=.bool (S.readK L).2.2) rfl rfl rfl rfl ?_;refine wpList_nil ?_;refine hK5 _ _ ?_;refine qqq rfl rfl (fun ht=>?_) (fun ht=>?_)
       · rw[ht,cond_true] at hsp;rw[<- hsp] at hj5;refine wp_ret ?_;exact ret0 Tryz.results111 ⟨rfl,.inl hj5⟩
       · rw[ht,cond_false] at hsp;obtain⟨k1,k2,k3⟩:=qtr L ht;refine wp_skip ?_;refine hK4 _ _ ?_;obtain⟨ad,had⟩:∃ad,a=some ad:=by
           obtain⟨_,h|⟨bl,off,cells,t,fz,ha,_⟩⟩:=hs0
           · rw[<- hL] at h;cases h
           · exact⟨_,ha⟩
         subst had;have hcap:L.length<=cap:=hs0.1.1;refine qay ?_;refine qgv (v:=.slice (some ad) L.length cap) ty22 rfl rfl rfl rfl hbox5 rfl ?_;refine qw5 zg8 rfl rfl rfl ?_;refine qgv (v:=.int .i64 ((S.readK L).2.1.toNat:Int)) ty3 rfl rfl rfl rfl hx5 (by rw[<- k3];rfl) ?_;refine zlk ty22 ty9 rfl rfl rfl rfl k2 hcap ?_;refine q5l (v:=.slice (some (cutA ad cap (S.readK L).2.1.toNat 1)) (L.length-(S.readK L).2.1.toNat) (cap-(S.readK L).2.1.toNat)) (cs':=.slice (some (cutA ad cap (S.readK L).2.1.toNat 1)) (L.drop (S.readK L).2.1.toNat).length (cap-(S.readK L).2.1.toNat)::r0) ty22 rfl rfl rfl rfl hbox5 rfl (by
           simp only[List.length_cons,List.length_nil,Bool.and_eq_true];exact⟨⟨rfl,Nat.ble_eq_true_of_le (by show 0+1<=r0.length+1;omega)⟩,rfl⟩) (by rw[List.length_drop];rfl) fun w6 u6 hz6 hx6=>?_
         refine wpList_nil ?_;exact⟨((pre++[S.readK L],L.drop (S.readK L).2.1.toNat),(some (cutA ad cap (S.readK L).2.1.toNat 1),cap-(S.readK L).2.1.toNat)),by show (L.drop _).length<L.length;rw[List.length_drop];omega,⟨hJ _ _ _ hj5 u6,hs0.cut k2,hx6,q9k hsec _,by rw[hsp,List.append_assoc];rfl⟩,_,rfl,(by repeat first|exact qa9.refl _ _|refine qa9.upd rfl ?_|refine qa9.upds rfl ?_|refine qa9.mix rfl ?_),trivial⟩
     · refine⟨_,rfl,zca rfl ?lo rfl ?_⟩
       case lo=>rintro⟨_,_,h⟩;exact(show False from h)
       refine q7i rfl rfl rfl ?_;refine qaz (v:=.bool true) rfl rfl rfl ?_;refine qhp rfl ?_;refine qhp rfl ?_;refine q92 (v:=.bool true) rfl rfl rfl rfl ?_;refine wpList_nil ?_;refine hK5 _ _ ?_;refine q8l rfl rfl ?_;refine wp_ret ?_;exact ret0 Tryz.results111 ⟨rfl,.inr hk5⟩
   · refine wp_exit ?_;have hz:(qac u).getD 0 0=0:=by rw[<- hb0];exact Decidable.not_not.1 hne
     have e:S.recsK l0=pre:=by rw[hrec,qt2,if_pos hz];exact List.append_nil _
     exact q9o Tryz.results111 ⟨rfl,.inl (by rw[e];exact hj)⟩
end
end Go.Proofs.YtnhmanoiolfapaaGreat
namespace Go.Proofs.YtnhmanoiolfapaaGreat
open Go Go.Sx Go.RowKit Go.Jx
theorem ze2:ConW Tryz.prog 111 q9b:=by
 refine⟨zzv,rfl,fun E x us i l hl hgl hrd hbm hlo=>?_⟩;obtain⟨⟨L0,_⟩,_⟩:=x;obtain⟨L,hL⟩:∃L:List ByteArray,L=L0:=⟨L0,rfl⟩;subst hL;obtain⟨hsec,rfl⟩:=qba (show cond (S.secs L) (some (S.recsK L)) none=some l from hl);obtain⟨hlen,hsz⟩:=qmk hsec;obtain⟨h1,h2⟩:=hrd;obtain⟨i',i1,i2,i3,i4⟩:=h2 0 _ rfl;have e0:i=i':=by simpa using i1
 subst e0;have i4:OR E i (.row [.lst .str L]):=i4;obtain⟨cells,t,k1,k2,k3,k4⟩:=i4;have ha:=h1 (fun _=>i) 0 (fun j id hj=>by
  cases j with
  | zero=>simpa using hj
  | succ j=>simp at hj)
 obtain⟨u,us',rfl,a1,a2⟩:=VRs.inv (v:=.ptr i 0) (cs:=[]) ha;obtain rfl:us'=[]:=List.length_eq_zero_iff.1 a2.1.symm;have hu:u=.pointer (some ⟨E.ρ i,0,none⟩):=by cases a1;rfl
 subst hu;obtain⟨h0,r0,hc0⟩:∃h0 r0,cells.toList=h0::r0:=by
  cases hc:cells.toList with
  | nil=>have:=congrArg List.length hc;simp at this;simp [this] at k3
  | cons h r=>exact⟨h,r,rfl⟩
 have hv:VR E (.lst .str L) h0:=by
  have:=k4.2 0 (by simp) (by simp[hc0]);simpa [hc0] using this
 have hS:∃a cap,h0=.slice a L.length cap/\SL (α:=ByteArray) E.m E.w a cap L:=by
  cases hv with
  | @lst0 _ a cap hc=>exact⟨a,cap,rfl,⟨Nat.zero_le _,hc⟩,.inl rfl⟩
  | @lst _ _ bl off cap cells t fz us q1 q2 q3 hb hh hc hu =>
   refine⟨_,cap,rfl,⟨q1,q2⟩,.inr ⟨bl,off,cells,t,fz,rfl,hb,hh,fun j hj=>?_⟩⟩;refine⟨[.string L[j]],rfl,fun k hk=>?_⟩;have hk:k<1:=hk;have hk0:k=0:=by omega
   subst hk0;have q5:=hc j hj 0 (by show 0<1;omega);have q6:VR E (.str L[j]) (us j 0):=hu j hj 0 Nat.zero_lt_one;rw[zrz q6] at q5;exact q5
 obtain⟨a,cap,rfl,hS⟩:=hS;have hbox:Box E.w (E.ρ i) (.slice a L.length cap::r0):=⟨t,by rw[k1,<- hc0]⟩;have hit:=zfx hbm hlo hS hsec hbox;exact fun lb J K q1 q2 q3 q4 q5=>hit lb J K q1 q2 (fun s A h=>(q3 s A h).tr) q4 q5
end Go.Proofs.YtnhmanoiolfapaaGreat
end

noncomputable section
set_option maxRecDepth 100000
namespace Go.Proofs.YtnhmanoiolfapaaGreat
open Go Go.Sx Go.RowKit Go.Jx
def qkg:Nat->Option Nm:=fun k=>none
def qq6:Nat->Bool:=fun k=>false
def qxy:=qq6
abbrev qgu:Type:=qad × Bool × Unit
def qx2:List (Nat × Sm):=[(93,qmt),(54,q8o),(77,qj6)]
def q0s:List (Nat × Hx):=[(113,qqw qae),(97,hxR qod),(98,hxR qc6),(111,itWx Tryz.prog ttT.get 0 q9b ⟨[6,7,8,9],[.ref (.box [.map (.int .i64) .str]),.ref (.box [.dat (.int .i64)]),.ref (.box [.dat .bool]),.ref (.box [.dat .bool])],zzs⟩ 0)]
def zbi(R:Type)(lf:Nat):ClK R:=qao Tryz.prog ttT.get ftT.get (nm1 61 qkg) (smL qx2) (hxL q0s) lf 20 R
def q1p(lf:Nat)(x1:qab):Option qgu:=(match (jget x1.1 (Int.ofNat 0)) with|.none  => none|.some v0=>(match (jget (qac v0) (Int.ofNat 0)) with|.none  => none|.some v1=>(cond (iltI (Int.ofNat 1) v1) (some ((([],[]),((Int.ofNat 0),((Int.ofNat 0),[]))),(Bool.false,()))) (cond (lchk (Int.ofNat 1) (Int.ofNat (ByteArray.size v0)) (Int.ofNat (ByteArray.size v0)) (Int.ofNat (ByteArray.size v0))) (cond (Bool.not (keqS (ByteArray.extract v0 1 (Int.toNat (Int.ofNat (ByteArray.size v0)))) (S.lit [0,0,0,0,0,0,0,0,0,0,0,0,0,0,0,0,0,0,0,0,0,0,0,0,0,0,0,0,0,0,0,0,0,0,0,0,0,0,0,0,0,0,0,0,0,0,0,0,0,0,0,0,0,0,0,0,0,0,0,0,0,0,0]))) (some ((([],[]),((Int.ofNat 0),((Int.ofNat 0),[]))),(Bool.false,()))) (match (jget (qac v0) (Int.ofNat 0)) with|.none  => none|.some v2=>(match (cond (S.inI (Int.ofNat (List.length x1.1)) (Int.ofNat 0) (Int.ofNat 1000)) (some ((S.half (Int.toNat (Int.ofNat (List.length x1.1))) (IntKind.i64.wrap v2)),())) none) with|.none  => none|.some v3=>(cond (lchk v3.1.1 v3.1.2 v3.1.2 (Int.ofNat (List.length x1.1))) (match (cond (S.secs (lsub x1.1 v3.1.1 v3.1.2)) (some (S.recsK (lsub x1.1 v3.1.1 v3.1.2))) (none:Option (List (El Go.Proofs.YtnhmanoiolfapaaGreat.cKeepRecord)))) with|.none  => none|.some v4=>(match (qdc (fun v5 v6=>(cond v6.2.2 (some (((v5.1.1,()),((v5.2.1.1,()),((v5.2.2.1.1,()),((Bool.true,()),())))),Bool.true)) (cond v5.2.2.1.1 (match (idxO (fun v7=>(some v7.2.2)) v6.1 0) with|.none  => none|.some v8=>(cond (Bool.not (iltI v8 (Int.ofNat 0))) (some (((v5.1.1,()),((v5.2.1.1,()),((v5.2.2.1.1,()),((Bool.true,()),())))),Bool.true)) (some ((((S.applied v5.1.1 v6.1),()),(((IntKind.i64.wrap (Int.add v5.2.1.1 v6.2.1)),()),((Bool.false,()),((v5.2.2.2.1.1,()),())))),Bool.false)))) (some ((((S.applied v5.1.1 v6.1),()),(((IntKind.i64.wrap (Int.add v5.2.1.1 v6.2.1)),()),((Bool.false,()),((v5.2.2.2.1.1,()),())))),Bool.false))))) v4 (([],()),(((Int.ofNat 0),()),((Bool.true,()),((Bool.false,()),()))))) with|.none  => none|.some v9=>(cond v9.2 (cond v9.1.2.2.2.1.1 (some ((([],[]),((Int.ofNat 0),((Int.ofNat 0),[]))),(Bool.false,()))) (cond v9.1.2.2.1.1 (some ((([],[]),((Int.ofNat 0),((Int.ofNat 0),[]))),(Bool.false,()))) (match (jget (qac v0) (Int.ofNat 0)) with|.none  => none|.some v10=>(match (cond (S.mapG v9.1.1.1) (some (((S.listed v9.1.1.1),()),((some v9.1.1.1),()))) none) with|.none  => none|.some v11=>(some (((x1.1,[]),((IntKind.i64.wrap v10),(v9.1.2.1.1,v11.1.1))),(Bool.true,()))))))) (cond v9.1.2.2.2.1.1 (some ((([],[]),((Int.ofNat 0),((Int.ofNat 0),[]))),(Bool.false,()))) (cond v9.1.2.2.1.1 (some ((([],[]),((Int.ofNat 0),((Int.ofNat 0),[]))),(Bool.false,()))) (match (jget (qac v0) (Int.ofNat 0)) with|.none  => none|.some v12=>(match (cond (S.mapG v9.1.1.1) (some (((S.listed v9.1.1.1),()),((some v9.1.1.1),()))) none) with|.none  => none|.some v13=>(some (((x1.1,[]),((IntKind.i64.wrap v12),(v9.1.2.1.1,v13.1.1))),(Bool.true,())))))))))) none)))) none))))
abbrev gz50:Type:=ElA [cDisk]->Option qgu
abbrev sz50(g:gz50):Sm:=⟨[cDisk],[(false,qaf),(false,.bool)],g⟩
abbrev Ez50(g:gz50)(J:JT qgu)(lf:Nat)(x1:qab):=qax Tryz.prog ttT.get qkg fi61.nt (zbi _ lf) lf qq6 J fi61.body [] (qam (argV [cDisk] (x1,())) 0 .leaf) S0 [] (qal ttT.get fi61 (sz50 g))
theorem zvk(g:gz50)(J:JT qgu)(lf:Nat)(x1:qab):Ez50 g J lf x1=q1p lf x1:=by kernel_rfl
theorem zl2:(regs fi61.body).Nodup:=by decide +kernel
theorem zhy:okC qkg qq6 qxy fi61.body none=true:=by kernel_rfl
def Az50(g:gz50)(lf:Nat):JT qgu:=atN Tryz.prog ttT.get qkg fi61 (sz50 g) (zbi _ lf) lf qxy
def Fz50(lf:Nat)(x1:qab):Option qgu:=q1p lf x1
theorem znh(g:gz50)(lf:Nat)(x1:qab):Ez50 g (Az50 g lf) lf x1=Fz50 lf x1:=by
  refine(zvk g (Az50 g lf) lf x1).trans ?_;rfl
theorem zlq(hrz51:ConR Tryz.prog 97 qod)(hr_k_cells_list:ConR Tryz.prog 98 qc6):qat Tryz.prog q0s:=⟨zez,⟨qfh hrz51,⟨qfh hr_k_cells_list,⟨zy6 mixed ttOK 0 _ 0 ze2,trivial⟩⟩⟩⟩
theorem zlc{g:gz50}(hsm:SmOK Tryz.prog qx2)(hrz51:ConR Tryz.prog 97 qod)(hr_k_cells_list:ConR Tryz.prog 98 qc6)(hg:∀(x:ElA [cDisk]) (y:qgu),WfA [cDisk] x->g x=some y->∃lf,Fz50 lf x.1=some y):Con Tryz.prog 61 ⟨[cDisk],[(false,qaf),(false,.bool)],g⟩ :=
 conT (nmf:=qkg) (sml:=qx2) (hxl:=q0s) (st:=qq6) (hd:=qxy) 20 mixed ttOK ftOK hsm (zlq hrz51 hr_k_cells_list) zeo rfl rfl (by kernel_rfl) (fun x=>by kernel_rfl) zl2 zhy fun x y hx hy=>by
  obtain⟨lf,h⟩:=hg x y hx hy;exact⟨lf,(znh g lf x.1).trans h⟩
def qk4:Nat->Option Nm:=fun k=>cond (Nat.beq k 1) (some ⟨[0,6,7,8],[],[],[(0,(.int .i64),.str)],[],0,0,false⟩) (cond (Nat.beq k 999999) (some ⟨[],[],[],[],[],0,0,false⟩) none)
def qml:Nat->Bool:=fun k=>cond (Nat.beq k 1) true (false)
def qu0:=qml
abbrev qci:Type:=(Unit) × (Option (List (Int × ByteArray))) × Unit
def qw8:List (Nat × Sm):=[]
def qyw:List (Nat × Hx):=[]
def q1w(R:Type)(lf:Nat):ClK R:=qao Tryz.prog ttT.get ftT.get (fun _ _=>none) (smL qw8) (hxL qyw) lf 20 R
abbrev zw9:Nat:=97
def qh8(x1:(List (Int × ByteArray)))(x2:(List qaa))(p:Int × (List (Int × ByteArray))):NRes:=(NRes.mk (.node (some (IV.map 0)) (.node none (.node none (.node (some (IV.int .i64 (Int.ofNat (List.length x2)))) .leaf .leaf) .leaf) .leaf) (.node none (.node none (.node (some (IV.int .i64 p.1)) .leaf .leaf) .leaf) (.node (some (IV.lst qae x2)) .leaf .leaf))) (IS.mk (.node (some (IObj.tmap (TC.int .i64) TC.str p.2)) .leaf .leaf) 1) [] 0)
def qxe(lf:Nat)(x1:(List (Int × ByteArray)))(x2:(List qaa))(L1:(Int × (List (Int × ByteArray)))->Option qci):Option qci:=(L1 ((Int.ofNat 0),x1))
def qo4(lf:Nat)(x1:(List (Int × ByteArray)))(x2:(List qaa))(L1:(Int × (List (Int × ByteArray)))->Option qci)(p:Int × (List (Int × ByteArray))):Option qci:=(cond (iltI p.1 (Int.ofNat (List.length x2))) (match (jget x2 p.1) with|.none  => none|.some v0=>(cond v0.2.2 (L1 ((IntKind.i64.wrap (Int.add p.1 (Int.ofNat 1))),(@mdel (TC.int .i64) TC.str v0.1 p.2))) (L1 ((IntKind.i64.wrap (Int.add p.1 (Int.ofNat 1))),(@mset (TC.int .i64) TC.str v0.1 v0.2.1 p.2))))) (some ((),((some p.2),()))))
abbrev gz51:Type:=ElP [.ref (.mp (.int .i64) .str),.dat (.list qae)]->Option qci
abbrev sz51(g:gz51):SmR:=⟨[.ref (.mp (.int .i64) .str),.dat (.list qae)],[],g⟩
abbrev Ez51(g:gz51)(J:JT qci)(lf:Nat)(x1:(List (Int × ByteArray)))(x2:(List qaa)):=qb1 Tryz.prog ttT.get qk4 (mP [.ref (.mp (.int .i64) .str),.dat (.list qae)]) fi97.nt (q1w _ lf) lf qml J fi97.body [] (qam (qas [.ref (.mp (.int .i64) .str),.dat (.list qae)] idN 0 (some x1,x2,())) 0 .leaf) (Sc [.ref (.mp (.int .i64) .str),.dat (.list qae)] (some x1,x2,())) [] (qdy ttT.get fi97 (sz51 g))
abbrev Bz51(g:gz51)(J:JT qci)(lf k:Nat)(ms:List Nat)(q:NRes):=qcb Tryz.prog ttT.get qk4 (mP [.ref (.mp (.int .i64) .str),.dat (.list qae)]) fi97.nt (q1w _ lf) lf qml J k fi97.body [] ms q (qdy ttT.get fi97 (sz51 g))
theorem zjp(g:gz51)(J:JT qci)(lf:Nat)(x1:(List (Int × ByteArray)))(x2:(List qaa)):Ez51 g J lf x1 x2=qxe lf x1 x2 (fun q=>J 1 [lf] (qh8 x1 x2 q)):=by kernel_rfl
theorem zji(g:gz51)(J:JT qci)(lf:Nat)(x1:(List (Int × ByteArray)))(x2:(List qaa))(m1:Nat)(p:Int × (List (Int × ByteArray))):Bz51 g J lf 1 [m1] (qh8 x1 x2 p)=qo4 lf x1 x2 (fun q=>J 1 [m1] (qh8 x1 x2 q)) p:=by kernel_rfl
theorem q82:(regs fi97.body).Nodup:=by decide +kernel
theorem q6n:okC qk4 qml qu0 fi97.body none=true:=by kernel_rfl
def Az51(g:gz51)(lf:Nat):JT qci:=atQ Tryz.prog ttT.get qk4 fi97 (sz51 g) (q1w _ lf) lf qu0
def qrq(lf:Nat)(x1:(List (Int × ByteArray)))(x2:(List qaa)):Nat->(Int × (List (Int × ByteArray)))->Option qci:=qa2 fun K p=>qo4 lf x1 x2 K p
theorem q7v(g:gz51)(lf:Nat)(x1:(List (Int × ByteArray)))(x2:(List qaa)):∀(n:Nat) (p:Int × (List (Int × ByteArray))),Az51 g lf 1 [n] (qh8 x1 x2 p)=qrq lf x1 x2 n p
 | 0,p=>q4k 1 [0] rfl _
 | n+1,p=>by
  have ih:=q7v g lf x1 x2 n;refine(q6g rfl (qa5 20 _) q82 q6n 1 [n+1] [n] rfl _).trans ((zji g (Az51 g lf) lf x1 x2 n p).trans ?_);rw[(show (fun q=>Az51 g lf 1 [n] (qh8 x1 x2 q))=(fun q=>qrq lf x1 x2 n q) from funext ih)];rfl
def Fz51(lf:Nat)(x1:(List (Int × ByteArray)))(x2:(List qaa)):Option qci:=qxe lf x1 x2 (fun q=>qrq lf x1 x2 lf q)
theorem zlv(g:gz51)(lf:Nat)(x1:(List (Int × ByteArray)))(x2:(List qaa)):Ez51 g (Az51 g lf) lf x1 x2=Fz51 lf x1 x2:=by
  refine(zjp g (Az51 g lf) lf x1 x2).trans ?_;rw[(show (fun q=>Az51 g lf 1 [lf] (qh8 x1 x2 q))=(fun q=>qrq lf x1 x2 lf q) from funext fun q=>q7v g lf x1 x2 lf q)];rfl
theorem zq7:qat Tryz.prog qyw:=trivial
theorem zm3{g:gz51}(hsm:SmOK Tryz.prog qw8)(h0:∀(x:ElP [.ref (.mp (.int .i64) .str),.dat (.list qae)]) (y:qci),g x=some y->∃(x1:(List (Int × ByteArray))) (x2:(List qaa)),x=(some x1,x2,()))(hg:∀(x1:(List (Int × ByteArray))) (x2:(List qaa)) (y:qci),WfP [.ref (.mp (.int .i64) .str),.dat (.list qae)] (some x1,x2,())->g (some x1,x2,())=some y->∃lf,Fz51 lf x1 x2=some y):ConR Tryz.prog 97 ⟨[.ref (.mp (.int .i64) .str),.dat (.list qae)],[],g⟩ :=
 conTR (nmf:=qk4) (sml:=qw8) (hxl:=qyw) (st:=qml) (hd:=qu0) 20 mixed ttOK ftOK hsm zq7 zig (by kernel_rfl) (fun x=>by kernel_rfl) q82 q6n fun x y z hx hy=>by
  obtain⟨x1,x2,rfl⟩:=h0 x (y,z) hy;obtain⟨lf,h⟩:=hg x1 x2 (y,z) hx hy;exact⟨lf,(zlv g lf x1 x2).trans h⟩
theorem zij(m:List (Int × ByteArray))(l:List qaa)(hl:l.length<LF):Fz51 LF m l=some ((),(some (S.applied m l),())):=by
 simp only[Fz51,qxe];refine range0 (σ:=List (Int × ByteArray)) (R:=qci) l (fun i m=>(i,m)) (fun _ _=>True) (fun rest _ m=>some ((),(some (S.applied m rest),()))) hl (fun K m _=>?_) (fun K i v rest m _ r hk=>?_) m trivial
 ·simp only[qo4,qbv,cond_false];rfl
 ·simp only[qo4,r.ilt,r.get,r.next,cond_true];show _=some ((),(some (S.applied (cond v.2.2 (mdel (vc:=.str) (.int .i64) v.1 m) (mset (vc:=.str) (.int .i64) v.1 v.2.1 m)) rest),()));cases v.2.2 with
  | true=>exact hk _ trivial
  | false=>exact hk _ trivial
theorem zwv:ConR Tryz.prog zw9 qod:=zm3 trivial (fun x y h=>by
 obtain⟨m,l,_⟩:=x;cases m with
 | none=>cases h
 | some m=>exact⟨m,l,rfl⟩) fun m l y hx h=>⟨LF,(zij m l (qbu (c:=qae) hx.2.1)).trans h⟩
theorem zxv(l:List ByteArray):match S.readR l with
  | some x=>S.readK l=(x.1,(x.2:Int),false)
  | none=>(S.readK l).2.2=true:=by
 unfold S.readR S.readK;by_cases hc:¬(qac (l.getD 0 S.none_)).getD 0 0=1\/l.length<S.recM (qac (l.getD 0 S.none_))
 ·rw[if_pos hc,if_pos hc]
 ·rw[if_neg hc,if_neg hc];cases S.changes (S.recN (qac (l.getD 0 S.none_))+1) ((((l.take (S.recM (qac (l.getD 0 S.none_)))).flatMap qac).drop 4).take (S.recN (qac (l.getD 0 S.none_)))) (-1) with
  | none=>rfl
  | some c =>
   simp only;cases hz:(((l.take (S.recM (qac (l.getD 0 S.none_)))).flatMap qac).drop (4+S.recN (qac (l.getD 0 S.none_)))).all fun b=>decide (b=0) with
   | true=>rfl
   | false=>rfl
abbrev StO:Type:=(List KV × Unit) × (Int × Unit) × (Bool × Unit) × (Bool × Unit) × Unit
def stO(m:List KV)(u:Int)(first torn:Bool):StO:=((m,()),((u,()),((first,()),((torn,()),()))))
def qgg(v5:StO)(v6:qe7):Option (StO × Bool):=(cond v6.2.2 (some (((v5.1.1,()),((v5.2.1.1,()),((v5.2.2.1.1,()),((Bool.true,()),())))),Bool.true)) (cond v5.2.2.1.1 (match (idxO (fun v7:qaa=>(some v7.2.2)) v6.1 0) with|.none=>none|.some v8=>(cond (Bool.not (iltI v8 (Int.ofNat 0))) (some (((v5.1.1,()),((v5.2.1.1,()),((v5.2.2.1.1,()),((Bool.true,()),())))),Bool.true)) (some ((((S.applied v5.1.1 v6.1),()),(((IntKind.i64.wrap (Int.add v5.2.1.1 v6.2.1)),()),((Bool.false,()),((v5.2.2.2.1.1,()),())))),Bool.false)))) (some ((((S.applied v5.1.1 v6.1),()),(((IntKind.i64.wrap (Int.add v5.2.1.1 v6.2.1)),()),((Bool.false,()),((v5.2.2.2.1.1,()),())))),Bool.false))))
theorem zne(m:List KV)(u:Int)(first torn:Bool){r:qe7}(h:r.2.2=true):qgg (stO m u first torn) r=some (stO m u first true,true):=by
 unfold qgg;rw[h];rfl
theorem znb(m:List KV)(u v:Nat)(first torn:Bool)(c:List qaa)(h:u+v<=100000):qgg (stO m u first torn) (c,(v:Int),false)=if first=true/\(c.any (·.2.2))=true then some (stO m u first true,true) else some (stO (S.applied m c) ((u+v:Nat):Int) false torn,false):=by
 unfold qgg stO;simp only[cond_false];have e1:IntKind.i64.wrap (Int.add (u:Int) (v:Int))=((u+v:Nat):Int):=qb7 (n:=u+v) (by omega);have e2:idxO (fun v7:qaa=>(some v7.2.2)) c 0=some (Go.Jx.S.idx (·.2.2) c):=qr3 (fun v:qaa=>v.2.2) fun x _=>rfl;cases first with
 | false =>
  rw[cond_false,if_neg (by simp),e1]
 | true =>
  rw[cond_true,e2];simp only;rw[qon];cases c.any (·.2.2) with
  | true=>rw[cond_true,if_pos (by simp)]
  | false=>rw[cond_false,if_neg (by simp),e1]
theorem qyu{D α:Type}{g:D->α->Option (D × Bool)}{x:α}{xs:List α}{d d':D}{b:Bool}(h:g d x=some (d',b)):qdc g (x::xs) d=cond b (some (d',true)) (qdc g xs d'):=by
 simp only[qdc,h]
theorem zvz:∀(k:Nat) (l:List ByteArray) (f:Nat) (m:List KV) (u:Nat),l.length=k->l.length<f->szS l->S.mapG m=true->u+l.length<=1000 ->
  match S.recs f l (S.listed m) u with
  | none=>∃m' u' first,qdc qgg (S.recsK l) (stO m u (decide (u=0)) false)=some (stO m' u' first true,true)
  | some (c',u')=>∃m',qdc qgg (S.recsK l) (stO m u (decide (u=0)) false)=some (stO m' u' (decide (u'=0)) false,false)/\S.mapG m'=true/\c'=S.listed m':=by
 intro k;induction k using Nat.strongRecOn with
 | ind k ih =>
  intro l f m u hk hf hs hG hu;cases f with
  | zero=>omega
  | succ f =>
   cases l with
   | nil=>exact⟨m,rfl,hG,rfl⟩
   | cons s r =>
    rw[qe5,qt2];by_cases h0:(qac s).getD 0 0=0
    ·rw[if_pos h0,if_pos h0];exact⟨m,rfl,hG,rfl⟩
    ·rw[if_neg h0,if_neg h0];have hRK:=zxv (s::r);cases hx:S.readR (s::r) with
     | none =>
      rw[hx] at hRK;refine⟨m,u,decide (u=0),?_⟩;exact qyu (zne m u (decide (u=0)) false hRK)
     | some x =>
      rw[hx] at hRK;obtain⟨i1,i2,i3,_,_,_⟩:=qua hs hx;have hRK:S.readK (s::r)=(x.1,(x.2:Int),false):=hRK;rw[hRK];simp only[cond_false,Int.toNat_natCast];have hst:=znb m u x.2 (decide (u=0)) false x.1 (by omega);cases hq:(decide (u=0)&&x.1.any (·.2.2)) with
      | true =>
       rw[cond_true];have hq2:=(Bool.and_eq_true _ _).mp hq;rw[if_pos ⟨hq2.1,hq2.2⟩] at hst;exact⟨m,u,decide (u=0),qyu hst⟩
      | false =>
       rw[if_neg (fun hh=>by rw[hh.1,hh.2] at hq;cases hq)] at hst;rw[cond_false];obtain⟨a1,a2⟩:=zcu (l:=x.1) hG i3;have hd:((s::r).drop x.2).length=(s::r).length-x.2:=List.length_drop;have:=ih (((s::r).drop x.2).length) (by rw[hd];omega) ((s::r).drop x.2) f (S.applied m x.1) (u+x.2) rfl (by rw[hd];omega) (hs.drop x.2) a1 (by rw[hd];omega);rw[a2] at this;have hu0:decide (u+x.2=0)=false:=decide_eq_false (by omega);rw[hu0] at this;rw[qyu hst,cond_false];exact this
theorem zrs(d:qab)(h:S.okL d=true):Fz50 LF d=some ((S.openedJ d).1,(S.openedJ d).2,()):=by
 unfold S.okL at h;simp only[Bool.and_eq_true,decide_eq_true_eq] at h;obtain⟨h1,h2,h3⟩:=h;have h2:=Nat.le_of_ble_eq_true h2;obtain⟨hle,hsz⟩:=qmk h1;simp only[Fz50,q1p];have hs64:=hsz _ (qjg (i:=0) (show 0<d.1.length by omega));obtain⟨b0,b1,b2,b3,r,hb⟩:=zbx hs64;have hrb:rng (b0::b1::b2::b3::r):=hb▸qd5 _;have hb0:=hrb b0 (by simp);have hszl:(d.1.getD 0 S.none_).size=(b0::b1::b2::b3::r).length:=by rw[<- qcl,hb]
 have l1:lchk (Int.ofNat 1) (Int.ofNat (d.1.getD 0 S.none_).size) (Int.ofNat (d.1.getD 0 S.none_).size) (Int.ofNat (d.1.getD 0 S.none_).size)=true:=by rw[hs64];rfl
 have hext:ByteArray.extract (d.1.getD 0 S.none_) 1 (Int.toNat (Int.ofNat (d.1.getD 0 S.none_).size))=qag (b1::b2::b3::r):=by
  show ByteArray.extract (d.1.getD 0 S.none_) 1 (d.1.getD 0 S.none_).size=_;rw[hszl,<- qfl (d.1.getD 0 S.none_),hb];exact qko hrb 1
 have hr1:rng (b1::b2::b3::r):=fun x hx=>hrb x (List.mem_cons_of_mem _ hx);simp only[qpz (d:=S.none_) (show 1<=d.1.length by omega),hb,qdg,List.getElem?_cons_zero,l1,hext,cond_true];simp only[q4x,zs2,qb2 hr1,qb2 (qga 63)];unfold S.openedJ S.opened;rw[hb];simp only[List.getD_cons_zero];by_cases q1:1<b0
 ·rw[qd3 (show Int.ofNat 1<b0 from q1),cond_true,if_pos (.inl q1)];rfl
 rw[qem (show ¬Int.ofNat 1<b0 from q1),cond_false];by_cases q2:(b1::b2::b3::r)=List.replicate 63 0
 ·rw[decide_eq_true q2,Bool.not_true,cond_false,if_neg (fun hh=>hh.elim q1 (fun hh=>hh q2))];rw[show S.inI (Int.ofNat d.1.length) (Int.ofNat 0) (Int.ofNat 1000)=true from by
   unfold S.inI;rw[decide_eq_true (show Int.ofNat 0<=Int.ofNat d.1.length from Int.natCast_nonneg _),decide_eq_true (show Int.ofNat d.1.length<=Int.ofNat 1000 by show ((d.1.length:Nat):Int)<=1000;omega)];rfl,cond_true,wrap_in (n:=b0) (by omega)]
  simp only;obtain⟨a,e1,e2,e3,_,_⟩:=qkw h3 h2 (h:=b0) (by omega);unfold S.halfS;have ehalf:S.half (Int.toNat (Int.ofNat d.1.length)) b0=S.half d.1.length b0:=rfl;rw[ehalf,e1];simp only[Int.toNat_natCast];have hlc:lchk (a:Int) ((a+(d.1.length / 2-1):Nat):Int) ((a+(d.1.length / 2-1):Nat):Int) (Int.ofNat d.1.length)=true:=qb4.2 ⟨by omega,by omega,Int.le_refl _,by show ((a+(d.1.length / 2-1):Nat):Int)<=((d.1.length:Nat):Int);omega⟩;rw[hlc,cond_true];have hsub:lsub d.1 (a:Int) ((a+(d.1.length / 2-1):Nat):Int)=(d.1.take (a+(d.1.length / 2-1))).drop a:=by
   unfold lsub;rw[Int.toNat_natCast,Int.toNat_natCast]
  rw[hsub];have hsz2:szS ((d.1.take (a+(d.1.length / 2-1))).drop a):=fun s hs=>hsz s (List.mem_of_mem_take (List.mem_of_mem_drop hs));have hlen2:((d.1.take (a+(d.1.length / 2-1))).drop a).length<=d.1.length:=by rw[List.length_drop,List.length_take];omega
  have hsec2:S.secs ((d.1.take (a+(d.1.length / 2-1))).drop a)=true:=by
   refine q9k ?_ _;unfold S.secs S.anyShort;rw[Bool.and_eq_true];refine⟨Nat.ble_eq_true_of_le (by rw[List.length_take];omega),?_⟩;rw[Bool.not_eq_true',List.any_eq_false];intro s hs;have:=hsz s (List.mem_of_mem_take hs);unfold S.short;simp[this]
  rw[hsec2];generalize (d.1.take (a+(d.1.length / 2-1))).drop a=H at hsz2 hlen2 hsec2;have hfold:=zvz H.length H (d.1.length+1) [] 0 rfl (by omega) hsz2 rfl (by omega);have hst:((([]:List KV),()),(((Int.ofNat 0:Int),()),((Bool.true,()),((Bool.false,()),()))))=stO [] (0:Nat) (decide ((0:Nat)=0)) false:=rfl
  show (match qdc qgg (S.recsK H) (stO [] (0:Nat) (decide ((0:Nat)=0)) false) with
   | none=>none
   | some v9=>_)=_
  have hl0:S.listed []=[]:=rfl;rw[hl0] at hfold;cases hrec:S.recs (d.1.length+1) H [] 0 with
  | none =>
   rw[hrec] at hfold;obtain⟨m',u',first,hfo⟩:=hfold;rw[hfo];rfl
  | some x =>
   obtain⟨c,u⟩:=x;rw[hrec] at hfold;obtain⟨m',hfo,hG,rfl⟩:=hfold;rw[hfo];simp only[stO];by_cases hu:u=0
   ·rw[if_pos hu,decide_eq_true hu];rfl
   ·rw[if_neg hu,decide_eq_false hu];simp only[cond_false];rw[hG];simp only[cond_true]
 ·rw[decide_eq_false q2,Bool.not_false,cond_true,if_pos (.inr q2)];rfl
theorem zfa:Con Tryz.prog 61 qgc:=zlc ⟨qoc,qmu,qqv,trivial⟩ zwv zu7 fun x y hx h=>⟨LF,by
 obtain⟨h1,h2⟩:=qba (show cond (S.okL x.1) (some ((S.openedJ x.1).1,(S.openedJ x.1).2,())) none=some y from h);exact(zrs x.1 h1).trans (congrArg some h2)⟩
theorem cont_l_KeepDisks:Con Tryz.prog idz4 spz4:=zgh zjf zfa
end Go.Proofs.YtnhmanoiolfapaaGreat
end

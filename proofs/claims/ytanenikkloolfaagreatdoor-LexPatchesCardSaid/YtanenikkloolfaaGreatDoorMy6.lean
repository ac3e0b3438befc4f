/- Texts: Xp22, Jag, Xg16, Xp25, Xsp9, Xt8, Xt9, Xt10, Xz9, Xz10, Xz11, Xg11, Xg12, Xp20, Xg13, Xp21, Xz1, Xsan, Xz2, Xz3, Xz12, Xz13, Xz14. -/
import Derived.Test.YtanenikkloolfaaGreatDoorMy5
import Derived.Test.YtanenikkloolfaaGreatDoorMy3
import Derived.Test.YtanenikkloolfaaGreatDoorMy4
set_option linter.unusedVariables false
noncomputable section
set_option maxRecDepth 100000
namespace Go.Proofs.YtanenikkloolfaaGreatDoor
open Go Go.Sx Go.RowKit Go.Jx
theorem Fz35_eq (lf:Nat) (a b:Int):Fz35 lf a b=some (S.cmpI a b,()):=by
 simp only[Fz35,qmi,qu8,Bool.not_true,cond_false,S.cmpI]
 by_cases h1:a<b
 · rw[ilt_t h1,cond_true,if_pos h1];rfl
 · rw[ilt_f h1,cond_false,if_neg h1]
   by_cases h2:b<a
   · rw[ilt_t h2,cond_true,if_pos h2];rfl
   · rw[ilt_f h2,cond_false,if_neg h2];rfl
theorem conz35:Con Tryz.prog idz35 spz35:=mkz35 trivial fun x y hx h=>⟨0,(Fz35_eq 0 x.1 x.2.1).trans h⟩
theorem Fz36_eq (l:List Int) (hl:l.length<LF):Fz36 LF l=some (S.orI l,()):=by
 have key:qgx LF l LF (Int.ofNat 0)=some (S.orI l,()):=by
   refine qdk l (fun rest _=>some (S.orI rest,())) hl (fun K=>?_) (fun K i v rest r h=>?_)
   · simp only[qj6,qa1,cond_false]
     rfl
   · simp only[qj6,r.ilt,r.get,r.next,cond_true]
     show _=some (if v=0 then S.orI rest else v,())
     by_cases h0:v=0
     · rw[ieq_t (show v=Int.ofNat 0 from h0),Bool.not_true,cond_false,if_pos h0]
       exact h
     · rw[ieq_f (show ¬v=Int.ofNat 0 from h0),Bool.not_false,cond_true,if_neg h0]
 exact key
theorem q2s {l:List Int} (h:l.length*8<=140737488355328):l.length<LF:=by unfold LF;omega
theorem conz36:Con Tryz.prog idz36 spz36:=mkz36 trivial fun x y hx h=>⟨LF,(Fz36_eq x.1 (q2s hx.1.1)).trans h⟩
theorem Fz37_eq (lf:Nat) (a b:qai):Fz37 lf a b=some (S.comparePl a b,()):=by
 simp only[Fz37,qoz,S.orI,S.comparePl]
 by_cases h1:S.cmpI a.1 b.1=0
 · rw[if_pos h1,if_pos h1]
   by_cases h2:S.cmpI a.2 b.2=0
   · rw[if_pos h2,h2]
   · rw[if_neg h2]
 · rw[if_neg h1,if_neg h1]
theorem conz37:Con Tryz.prog idz37 spz37:=mkz37 ⟨conz35,conz36,trivial⟩ fun x y hx h=>⟨0,(Fz37_eq 0 x.1 x.2.1).trans h⟩
def qdd (l:List qab) (s:ByteArray) (c:qag):List qab × Int × qai × Int :=
 if (S.readX S.wTok (S.linesAt (S.edit s c).1 (S.placeOf s c.1).1.1 (S.placeOf (S.edit s c).1 (c.1+Int.ofNat c.2.2.size)).1.1) (S.placeOf s c.1).1.1).2.2=0 then
   if 6000<(S.aheadL l (S.placeOf s c.1).1.1++((S.readX S.wTok (S.linesAt (S.edit s c).1 (S.placeOf s c.1).1.1 (S.placeOf (S.edit s c).1 (c.1+Int.ofNat c.2.2.size)).1.1) (S.placeOf s c.1).1.1).1++S.behindL l (S.placeOf s c.1).1.1 (S.placeOf s c.2.1).1.1 ((S.placeOf (S.edit s c).1 (c.1+Int.ofNat c.2.2.size)).1.1-(S.placeOf s c.2.1).1.1))).length then ([],0,(0,0),3)
   else (S.aheadL l (S.placeOf s c.1).1.1++((S.readX S.wTok (S.linesAt (S.edit s c).1 (S.placeOf s c.1).1.1 (S.placeOf (S.edit s c).1 (c.1+Int.ofNat c.2.2.size)).1.1) (S.placeOf s c.1).1.1).1++S.behindL l (S.placeOf s c.1).1.1 (S.placeOf s c.2.1).1.1 ((S.placeOf (S.edit s c).1 (c.1+Int.ofNat c.2.2.size)).1.1-(S.placeOf s c.2.1).1.1)),Int.ofNat (S.readX S.wTok (S.linesAt (S.edit s c).1 (S.placeOf s c.1).1.1 (S.placeOf (S.edit s c).1 (c.1+Int.ofNat c.2.2.size)).1.1) (S.placeOf s c.1).1.1).1.length,(0,0),0)
 else ([],0,(S.readX S.wTok (S.linesAt (S.edit s c).1 (S.placeOf s c.1).1.1 (S.placeOf (S.edit s c).1 (c.1+Int.ofNat c.2.2.size)).1.1) (S.placeOf s c.1).1.1).2.1,(S.readX S.wTok (S.linesAt (S.edit s c).1 (S.placeOf s c.1).1.1 (S.placeOf (S.edit s c).1 (c.1+Int.ofNat c.2.2.size)).1.1) (S.placeOf s c.1).1.1).2.2)
theorem qu4 (l:List qab) (s:ByteArray) (c:qag):S.patch l s c=if (S.edit s c).2=0 then cond (S.ordered s l) (qdd l s c) ([],0,(0,0),1) else ([],0,(0,0),(S.edit s c).2):=by
 show (if (S.edit s c).2=0 then (if S.ordered s l=true then qdd l s c else ([],0,(0,0),1)) else _)=_
 cases S.ordered s l<;>rfl
abbrev ret4 (r:List qab × Int × qai × Int):Option Rtz38:=some (r.1,r.2.1,r.2.2.1,r.2.2.2,())
theorem q6t (l:List qab) (s:ByteArray) (c:qag) (fresh:List qab) (f2 e2 t2 fr en to_:Int) (hl:l.length<=1000000) (hf:fresh.length<=900000000) (ht:∀t∈l,1<=t.2.2.1/\t.2.2.1<=1000001) (he:0<=en/\en<=1000001) (hto:0<=to_/\to_<=1000001) :
   qdv LF l s c LF (fresh,fr,f2,en,e2,to_,t2,Int.ofNat 0,[],[])=ret4 (if 6000<(S.aheadL l fr++(fresh++S.behindL l fr to_ (en-to_))).length then ([],0,(0,0),3) else (S.aheadL l fr++(fresh++S.behindL l fr to_ (en-to_)),Int.ofNat fresh.length,(0,0),0)):=by
 have key:qdv LF l s c LF (fresh,fr,f2,en,e2,to_,t2,Int.ofNat 0,[],[])=ret4 (if 6000<(([]++S.aheadL l fr)++(fresh++([]++S.behindL l fr to_ (en-to_)))).length then ([],0,(0,0),3) else (([]++S.aheadL l fr)++(fresh++([]++S.behindL l fr to_ (en-to_))),Int.ofNat fresh.length,(0,0),0)):=by
   refine range0 (σ:=List qab × List qab) (R:=Rtz38) l (fun i q=>(fresh,fr,f2,en,e2,to_,t2,i,q.1,q.2)) (fun i q=>q.1.length<=i/\q.2.length<=i) (fun rest i q=>ret4 (if 6000<((q.2++S.aheadL rest fr)++(fresh++(q.1++S.behindL rest fr to_ (en-to_)))).length then ([],0,(0,0),3) else ((q.2++S.aheadL rest fr)++(fresh++(q.1++S.behindL rest fr to_ (en-to_))),Int.ofNat fresh.length,(0,0),0))) (by unfold LF;omega) (fun K q hq=>?_) (fun K i v rest q hq r h=>?_) ([],[]) ⟨Nat.le_refl _,Nat.le_refl _⟩
   · obtain⟨q1,q2⟩:=q
     obtain⟨h1,h2⟩:=hq
     simp only at h1 h2
     have hj:Nat.ble (List.append q2 (List.append fresh (List.append q1 []))).length 1000000000=true:=Nat.ble_eq_true_of_le (by
       show (q2++(fresh++(q1++[]))).length<=_
       rw[List.append_nil,List.length_append,List.length_append];omega)
     simp only[qi2,qa1,cond_false,hj,cond_true,qbl]
     have e:(q2++S.aheadL [] fr)++(fresh++(q1++S.behindL [] fr to_ (en-to_)))=List.append q2 (List.append fresh (List.append q1 [])):=by
       show (q2++[])++(fresh++(q1++[]))=q2++(fresh++(q1++[]))
       rw[List.append_nil q2]
     rw[e]
     by_cases c6:6000<(List.append q2 (List.append fresh (List.append q1 []))).length
     · rw[decide_eq_true c6,cond_true,if_pos c6];rfl
     · rw[decide_eq_false c6,cond_false,if_neg c6];rfl
   · obtain⟨q1,q2⟩:=q
     obtain⟨h1,h2⟩:=hq
     simp only at h1 h2
     have hi:=r.lt
     obtain⟨t1,t2'⟩:=ht v r.mem
     have r1:Nat.ble (Nat.mul (Nat.add q1.length 1) 40) 140737488355328=true:=Nat.ble_eq_true_of_le (by show (q1.length+1)*40<=_;omega)
     have r2:Nat.ble (Nat.mul (Nat.add q2.length 1) 40) 140737488355328=true:=Nat.ble_eq_true_of_le (by show (q2.length+1)*40<=_;omega)
     have w1:IntKind.i64.wrap (Int.sub en to_)=en-to_:=qas (by show -9223372036854775808<=en-to_/\en-to_<9223372036854775808;omega)
     have w2:IntKind.i64.wrap (Int.add v.2.2.1 (en-to_))=v.2.2.1+(en-to_):=qcj (by omega)
     simp only[qi2,r.ilt,r.get,r.next,cond_true,r1,r2,w1,w2]
     by_cases c1:v.2.2.1<fr
     · rw[ilt_t c1,cond_true]
       refine(h (q1,q2++[v]) ⟨by simp only;omega,by simp only[List.length_append,List.length_cons,List.length_nil];omega⟩).trans ?_
       have ea:S.aheadL (v::rest) fr=v::S.aheadL rest fr:=by unfold S.aheadL;rw[List.filter_cons,decide_eq_true c1,if_pos rfl]
       have eb:S.behindL (v::rest) fr to_ (en-to_)=S.behindL rest fr to_ (en-to_):=by unfold S.behindL;rw[List.filter_cons,decide_eq_true c1];rfl
       rw[ea,eb]
       simp only[List.append_assoc,List.cons_append,List.nil_append]
     · rw[ilt_f c1,cond_false]
       have ea:S.aheadL (v::rest) fr=S.aheadL rest fr:=by unfold S.aheadL;rw[List.filter_cons,decide_eq_false c1];rfl
       by_cases c2:to_<v.2.2.1
       · rw[ilt_t c2,cond_true]
         refine(h (q1++[(v.1,v.2.1,v.2.2.1+(en-to_),v.2.2.2)],q2) ⟨by simp only[List.length_append,List.length_cons,List.length_nil];omega,by simp only;omega⟩).trans ?_
         have eb:S.behindL (v::rest) fr to_ (en-to_)=(v.1,v.2.1,v.2.2.1+(en-to_),v.2.2.2)::S.behindL rest fr to_ (en-to_):=by unfold S.behindL;rw[List.filter_cons,decide_eq_false c1,decide_eq_true c2];rfl
         rw[ea,eb]
         simp only[List.append_assoc,List.cons_append,List.nil_append]
       · rw[ilt_f c2,cond_false]
         refine(h (q1,q2) ⟨by simp only;omega,by simp only;omega⟩).trans ?_
         have eb:S.behindL (v::rest) fr to_ (en-to_)=S.behindL rest fr to_ (en-to_):=by unfold S.behindL;rw[List.filter_cons,decide_eq_false c1,decide_eq_false c2];rfl
         rw[ea,eb]
 exact key
theorem qpf {s:ByteArray}:∀{l:List qab} {pv:Option qai},S.orderedGo s pv l=true->∀t∈l,(S.offset s t.2.2).2=0
 | [],_,_,t,ht=>by cases ht
 | u::l,pv,h,t,ht=>by
   rw[qs2] at h
   rw[Bool.and_eq_true,Bool.and_eq_true,decide_eq_true_iff] at h
   rcases List.mem_cons.1 ht with rfl|ht
   · exact h.1
   · exact qpf h.2.2 t ht
theorem qry {s:ByteArray} (hs:S.fits s=true) {p:qai} (h:(S.offset s p).2=0):1<=p.1/\p.1<=1000001:=by
 obtain⟨k,j,x,rfl,h1,_⟩:=qhc h
 have hk:=(List.getElem?_eq_some_iff.1 h1).1
 rw[qcl] at hk
 have:=List.count_le_length (a:=(10:Int)) (l:=qaa s)
 rw[qae] at this
 have:=qbg hs
 show 1<=1+(k:Int)/\1+(k:Int)<=1000001
 omega
theorem q1x (l:List qab) (s:ByteArray) (c:qag) (hs:S.fits s=true) (hl:l.length<=1000000) (h0:(S.edit s c).2=0) (ho:S.ordered s l=true) (K:(ByteArray × Int)->Option Rtz38) :
   qg8 LF l s c K (fun q=>qdv LF l s c LF q) ((S.edit s c).1,Int.ofNat l.length)=ret4 (qdd l s c):=by
 obtain⟨a,b,ha,hb,hab,hbs,hbl,hsz,hsz2⟩:=qyb h0
 have fs:=qbg hs
 have hnow:S.fits (S.edit s c).1=true:=Nat.ble_eq_true_of_le (by omega)
 have hwl:c.2.2.size<=20000:=by omega
 have w0:IntKind.i64.wrap (Int.add c.1 (Int.ofNat c.2.2.size))=c.1+Int.ofNat c.2.2.size:=qcj (by rw[ha];show -9223372036854775808<=(a:Int)+(c.2.2.size:Int)/\(a:Int)+(c.2.2.size:Int)<_;omega)
 have p1:(S.placeOf s c.1).1.1=1+((((qaa s).take a).count 10:Nat):Int):=by rw[ha];exact qe5 s a (by omega)
 have p2:(S.placeOf s c.2.1).1.1=1+((((qaa s).take b).count 10:Nat):Int):=by rw[hb];exact qe5 s b hbs
 have hta:((qaa s).take a).length=a:=by rw[List.length_take,qae];omega
 have htk:(qaa (S.edit s c).1).take (a+c.2.2.size)=(qaa s).take a++qaa c.2.2:=by
   rw[hbl]
   have:a+c.2.2.size=((qaa s).take a++qaa c.2.2).length:=by rw[List.length_append,hta,qae]
   rw[this,List.take_left]
 have p3:(S.placeOf (S.edit s c).1 (c.1+Int.ofNat c.2.2.size)).1.1=1+((((qaa s).take a).count 10:Nat):Int)+(((qaa c.2.2).count 10:Nat):Int):=by
   rw[ha,show (a:Int)+Int.ofNat c.2.2.size=((a+c.2.2.size:Nat):Int) by show (a:Int)+(c.2.2.size:Int)=_;omega,qe5 _ _ (by omega),htk,List.count_append]
   omega
 have hlen:(S.lines (S.edit s c).1).length=(qaa (S.edit s c).1).count 10+1:=by unfold S.lines;rw[List.length_map,qcl]
 have hcn:(qaa (S.edit s c).1).count 10=((qaa s).take a).count 10+(qaa c.2.2).count 10+((qaa s).drop b).count 10:=by rw[hbl,List.count_append,List.count_append]
 have hcl:=List.count_le_length (a:=(10:Int)) (l:=qaa (S.edit s c).1)
 rw[qae] at hcl
 have hcb:=List.count_le_length (a:=(10:Int)) (l:=(qaa s).take b)
 rw[List.length_take,qae] at hcb
 have w1:IntKind.i64.wrap (Int.sub (S.placeOf s c.1).1.1 (Int.ofNat 1))=(S.placeOf s c.1).1.1-1:=qas (by show -9223372036854775808<=(S.placeOf s c.1).1.1-1/\(S.placeOf s c.1).1.1-1<9223372036854775808;omega)
 have hchk:lchk ((S.placeOf s c.1).1.1-1) (S.placeOf (S.edit s c).1 (c.1+Int.ofNat c.2.2.size)).1.1 (Int.ofNat (S.lines (S.edit s c).1).length) (Int.ofNat (S.lines (S.edit s c).1).length)=true:=by
   refine qe0.2 ⟨by omega,by omega,?_,Int.le_refl _⟩
   rw[hlen,hcn,p3]
   show _<=((_:Nat):Int)
   omega
 have hlk:=qy9 hnow
 obtain⟨k1,k2,_⟩:=qkg hlk
 have hls:lsub (S.lines (S.edit s c).1) ((S.placeOf s c.1).1.1-1) (S.placeOf (S.edit s c).1 (c.1+Int.ofNat c.2.2.size)).1.1=S.linesAt (S.edit s c).1 (S.placeOf s c.1).1.1 (S.placeOf (S.edit s c).1 (c.1+Int.ofNat c.2.2.size)).1.1:=rfl
 have hmem:∀t∈S.linesAt (S.edit s c).1 (S.placeOf s c.1).1.1 (S.placeOf (S.edit s c).1 (c.1+Int.ofNat c.2.2.size)).1.1,t∈S.lines (S.edit s c).1:=fun t ht=>List.mem_of_mem_take (List.mem_of_mem_drop ht)
 have hll:(S.linesAt (S.edit s c).1 (S.placeOf s c.1).1.1 (S.placeOf (S.edit s c).1 (c.1+Int.ofNat c.2.2.size)).1.1).length<=20001:=by
   unfold S.linesAt
   rw[List.length_drop,List.length_take]
   omega
 have hok:S.okL (S.linesAt (S.edit s c).1 (S.placeOf s c.1).1.1 (S.placeOf (S.edit s c).1 (c.1+Int.ofNat c.2.2.size)).1.1) (S.placeOf s c.1).1.1=true:=by
   unfold S.okL
   simp only[Bool.and_eq_true,decide_eq_true_iff,List.all_eq_true,Bool.not_eq_true',decide_eq_false_iff_not]
   exact⟨Nat.ble_eq_true_of_le (by omega),fun t ht=>⟨Nat.ble_eq_true_of_le (k2 t (hmem t ht)).1,(k2 t (hmem t ht)).2⟩,by omega,by omega⟩
 simp only[qg8,qa1,cond_false,hs,hnow,Bool.and_true,cond_true,w0,w1,hchk,hls,hok]
 unfold qdd
 by_cases hr:(S.readX S.wTok (S.linesAt (S.edit s c).1 (S.placeOf s c.1).1.1 (S.placeOf (S.edit s c).1 (c.1+Int.ofNat c.2.2.size)).1.1) (S.placeOf s c.1).1.1).2.2=0
 · rw[ieq_t (show _=Int.ofNat 0 from hr),Bool.not_true,cond_false,if_pos hr]
   refine q6t l s c _ _ _ _ _ _ _ hl ?_ (fun t ht=>qry hs (qpf ho t ht)) (by omega) (by omega)
   unfold S.readX
   refine Nat.le_trans (List.length_filter_le _ _) ?_
   have hN:=qm3 20000 ((S.linesAt (S.edit s c).1 (S.placeOf s c.1).1.1 (S.placeOf (S.edit s c).1 (c.1+Int.ofNat c.2.2.size)).1.1).map qaa) (S.placeOf s c.1).1.1 (fun x hx=>by
     obtain⟨t,ht,rfl⟩:=List.mem_map.1 hx
     rw[qae]
     exact Nat.le_trans (qd1 (hmem t ht)) hsz2)
   rw[List.length_map] at hN
   omega
 · rw[ieq_f (show ¬_=Int.ofNat 0 from hr),Bool.not_false,cond_true,if_neg hr]
   rfl
def pvAt (l:List qab):Nat->Option qai
 | 0=>none
 | i+1=>(l[i]?).map fun t=>t.2.2
theorem patch_5 (l:List qab) (s:ByteArray) (c:qag) (hs:S.fits s=true) (hl:l.length<=1000000) (h0:(S.edit s c).2=0):qh4 LF l s c LF ((S.edit s c).1,Int.ofNat 0)=ret4 (cond (S.ordered s l) (qdd l s c) ([],0,(0,0),1)):=by
 refine range0 (σ:=Unit) (R:=Rtz38) l (fun i _=>((S.edit s c).1,i)) (fun i _=>S.ordered s l=S.orderedGo s (pvAt l i) (l.drop i)) (fun rest i _=>ret4 (cond (S.orderedGo s (pvAt l i) rest) (qdd l s c) ([],0,(0,0),1))) (by unfold LF;omega) (fun K q hq=>?_) (fun K i v rest q hq r h=>?_) () rfl
 · rw[List.drop_length] at hq
   have ho:S.ordered s l=true:=hq
   rw[show S.orderedGo s (pvAt l l.length) []=true from rfl,cond_true]
   exact q1x l s c hs hl h0 ho K
 · have hi:=r.lt
   have hgo:S.orderedGo s (pvAt l i) (v::rest)=(decide ((S.offset s v.2.2).2=0)&&((match pvAt l i with|none=>true|some p=>!(decide (p=v.2.2))&&!(decide (0<S.comparePl p v.2.2)))&&S.orderedGo s (some v.2.2) rest)):=rfl
   have hpn:pvAt l (i+1)=some v.2.2:=by show (l[i]?).map _=_;rw[r.get?];rfl
   rw[r.drop,hgo] at hq
   rw[hgo]
   rw[hpn,r.tail] at h
   simp only[qg8,r.ilt,r.get,r.next,cond_true,hs]
   show cond (!ieqI (S.offset s v.2.2).2 (Int.ofNat 0)) _ _=_
   by_cases c1:(S.offset s v.2.2).2=0
   · rw[ieq_t (show _=Int.ofNat 0 from c1),Bool.not_true,cond_false]
     rw[decide_eq_true c1,Bool.true_and] at hq ⊢
     cases i with
     | zero =>
       rw[show pvAt l 0=none from rfl] at hq ⊢
       simp only[Bool.true_and] at hq ⊢
       rw[show iltI (Int.ofNat 0) (Int.ofNat 0)=false from rfl,cond_false]
       exact h () hq
     | succ i =>
       obtain⟨p,hp⟩:∃p,l[i]?=some p:=⟨_,List.getElem?_eq_getElem (by omega)⟩
       have w1:IntKind.i64.wrap (Int.sub (Int.ofNat (i+1)) (Int.ofNat 1))=Int.ofNat i:=by
         rw[show Int.sub (Int.ofNat (i+1)) (Int.ofNat 1)=Int.ofNat i by show ((i+1:Nat):Int)-1=(i:Int);omega]
         exact qa3 (n:=i) (by omega)
       have hjp:jget l (Int.ofNat i)=some p:=qbb.trans hp
       have hpv:pvAt l (i+1)=some p.2.2:=by show (l[i]?).map _=_;rw[hp];rfl
       rw[hpv] at hq ⊢
       simp only at hq ⊢
       rw[ilt_t (show Int.ofNat 0<Int.ofNat (i+1) by show (0:Int)<((i+1:Nat):Int);omega),cond_true,w1,hjp]
       simp only
       have hke:(Bool.and (keqI p.2.2.1 v.2.2.1) (Bool.and (keqI p.2.2.2 v.2.2.2) Bool.true))=decide (p.2.2=v.2.2):=by
         obtain⟨_,_,p1,p2⟩:=p
         obtain⟨_,_,v1,v2⟩:=v
         simp only[keqI,Bool.and_true,Prod.mk.injEq,Bool.decide_and]
       rw[hke]
       show cond _ _ (cond (iltI (Int.ofNat 0) (S.comparePl p.2.2 v.2.2)) _ _)=_
       by_cases c2:p.2.2=v.2.2
       · rw[decide_eq_true c2,cond_true];rfl
       · rw[decide_eq_false c2,cond_false]
         rw[decide_eq_false c2] at hq
         by_cases c3:0<S.comparePl p.2.2 v.2.2
         · rw[ilt_t (show Int.ofNat 0<_ from c3),cond_true,decide_eq_true c3];rfl
         · rw[ilt_f (show ¬Int.ofNat 0<_ from c3),cond_false,decide_eq_false c3]
           rw[decide_eq_false c3] at hq
           simp only[Bool.not_false,Bool.true_and,Bool.and_true] at hq ⊢
           exact h () hq
   · rw[ieq_f (show ¬_=Int.ofNat 0 from c1),Bool.not_false,cond_true,decide_eq_false c1]
     rfl
theorem Fz38_eq (l:List qab) (s:ByteArray) (c:qag) (hs:S.fits s=true) (hw:S.fits c.2.2=true) (hl:l.length<=1000000):Fz38 LF l s c=ret4 (S.patch l s c):=by
 rw[qu4]
 simp only[Fz38,qnm,hs,hw,Bool.and_true,cond_true]
 show cond (!ieqI (S.edit s c).2 (Int.ofNat 0)) _ _=_
 by_cases h0:(S.edit s c).2=0
 · rw[ieq_t (show _=Int.ofNat 0 from h0),Bool.not_true,cond_false,if_pos h0]
   exact patch_5 l s c hs hl h0
 · rw[ieq_f (show ¬_=Int.ofNat 0 from h0),Bool.not_false,cond_true,if_neg h0]
   rfl
theorem conz38:Con Tryz.prog idz38 spz38:=mkz38 ⟨conz22,conz24,conz21,qty,conz37,conz34,trivial⟩ fun x y hx h=>⟨LF,by
 obtain⟨h1,h2⟩:=qa5 (show cond (S.fits x.2.1&&(S.fits x.2.2.1.2.2&&Nat.ble x.1.length 1000000)) (some ((S.patch x.1 x.2.1 x.2.2.1).1,(S.patch x.1 x.2.1 x.2.2.1).2.1,(S.patch x.1 x.2.1 x.2.2.1).2.2.1,(S.patch x.1 x.2.1 x.2.2.1).2.2.2,())) none=some y from h)
 simp only[Bool.and_eq_true] at h1
 exact(Fz38_eq x.1 x.2.1 x.2.2.1 h1.1 h1.2.1 (Nat.le_of_ble_eq_true h1.2.2)).trans (congrArg some h2)⟩
end Go.Proofs.YtanenikkloolfaaGreatDoor
end

section
namespace Go.Jx
open Go Go.Sx Go.RowKit
def AggE (Q:Ending->World->Prop):Ending->World->Prop:=fun e w'=>∃us:List Value,e=.returned (.agg us.toArray)/\Q (.returned (.tuple us.toArray)) w'
structure ConA (P:Program) (f:Nat) (s:Sm):Prop where
 callable:qaf P f
 calls:∀(M:List Nat) (w:World) (x:ElA s.pts) (us:List Value) (y:ElR s.rts),s.f x=some y->(∀b∈M,b<w.heap.size)->Gl M w->VRs (EM M w) (argV s.pts x) us ->
   CallsIn Fence.wide 0 P f us.toArray w (AggE (RetE T0 (EM M w) S0 ⟨tupI (resV s.rts 0 y),addO (resO s.rts y) S0,0,0⟩))
def runA (s:Sm) (r:Res):Option (ElR s.rts):=match r.v with
 | .agg l=>runR s ⟨.tup l,r.S,r.rd,r.wr⟩
 | _=>none
theorem agg_tup {T:TW} {E:Env} {S:IS} {l:List IV} {S':IS} {rd wr rd' wr':Nat} {e:Ending} {w':World} (h:RetE T E S ⟨.agg l,S',rd,wr⟩ e w'):AggE (RetE T E S ⟨.tup l,S',rd',wr'⟩) e w':=by
 obtain⟨u,E',rfl,h2,h3,h4,h5⟩:=h
 cases h3 with
 | agg hl hh=>exact⟨_,rfl,_,E',rfl,h2,.tup hl hh,h4,h5⟩
theorem tup_agg {T:TW} {E:Env} {S:IS} {l:List IV} {S':IS} {rd wr rd' wr':Nat} {e:Ending} {w':World} (h:AggE (RetE T E S ⟨.tup l,S',rd,wr⟩) e w'):RetE T E S ⟨.agg l,S',rd',wr'⟩ e w':=by
 obtain⟨us,rfl,u,E',h1,h2,h3,h4,h5⟩:=h
 have h1:Value.tuple us.toArray=u:=Ending.returned.inj h1
 subst h1
 have h3:VR E' (.tup l) (.tuple us.toArray):=h3
 generalize hu:(Value.tuple us.toArray)=u at h3
 cases h3 with
 | tup hl hh =>
   rename_i vs
   have:us=vs:=by
     have:=Value.tuple.inj hu
     simpa using this
   subst this
   exact⟨_,E',rfl,h2,.agg hl hh,h4,h5⟩
theorem conKA {P:Program} {tt:Nat->Option TI} {ft:Nat->Option FI} {nm:Nat->Nat->Option Nm} {sm:Nat->Option Sm} {hx:Nat->Option Hx} {f:Nat} {s:Sm} (hm:P.follows .mixedOrders=true) (htt:TT P tt) (hft:FT P ft) (hsm:∀f s,sm f=some s->Con P f s)
   (hhx:∀f g,hx f=some g->HxOK P f g.f) (hC:qaf P f)
   (hrun:∀(x:ElA s.pts) (y:ElR s.rts),WfA s.pts x->s.f x=some y->∃n lf,qah P tt ft nm sm hx lf n _ (.fn f) (argV s.pts x) S0 (runA s)=some y):ConA P f s:=by
 refine⟨hC,fun M w x us y hy hM hg hv=>?_⟩
 obtain⟨n,lf,h⟩:=hrun x y (qlk hv) hy
 rw[qam n] at h
 cases hr:icall P tt ft nm (exH sm hx) lf n (.fn f) (argV s.pts x) S0 with
 | none=>rw[hr] at h;cases h
 | some r =>
   rw[hr] at h
   have h:runA s r=some y:=h
   obtain⟨_,hcall⟩:=(qfc (lf:=lf) hm htt hft (qna hsm hhx) n).fn f _ S0 r hr T0 (EM M w) us (preM hM hg) (fun _ _=>trivial) (fun _ _=>trivial) hv
   refine hcall.mono fun e w' hR=>?_
   unfold runA at h
   obtain⟨v,S',rd,wr⟩:=r
   cases v<;>try cases h
   obtain⟨vs,rfl,h2⟩:=agg_tup (rd':=rd) (wr':=wr) hR
   exact⟨vs,rfl,qth hM hg h h2⟩
def lastA (tt:Nat->Option TI) (fi:FI) (s:Sm) (r:CRes):Option (ElR s.rts):=cond r.e.leaves (bd (qb2 tt fi.nt fi.res S0 r) (runA s)) none
section
variable {P : Program} {tt : Nat -> Option TI} {nm : Nat -> Option Nm} {cl : Cl} {lf : Nat} {st hd : Nat -> Bool}
def atA (P:Program) (tt:Nat->Option TI) (nm:Nat->Option Nm) (fi:FI) (s:Sm) (clK:ClK (ElR s.rts)) (lf:Nat) (hd:Nat->Bool) (k:Nat) (ns:List Nat) (x:NRes):Option (ElR s.rts) :=
 atNB P tt nm 0 fi.nt fi.body clK lf hd (lastA tt fi s) k ns x
theorem qj3 {fi:FI} {s:Sm} {clK:ClK (ElR s.rts)} (h:ClEq cl clK) (hn:(regs fi.body).Nodup) (hl:okC nm st hd fi.body none=true) (k:Nat) (ns ns':List Nat) (hd':dn (hd k) ns=some ns') (x:NRes) :
   atA P tt nm fi s clK lf hd k ns x=qaz P tt nm fi.nt clK lf st (atA P tt nm fi s clK lf hd) k fi.body [] ns' x (lastA tt fi s):=qp1 (mB_z nm) h hn hl k ns ns' hd' x
theorem q28 {fi:FI} {s:Sm} {clK:ClK (ElR s.rts)} (k:Nat) (ns:List Nat) (hd':dn (hd k) ns=none) (x:NRes):atA P tt nm fi s clK lf hd k ns x=none:=qnh k ns hd' x
theorem atA_in {fi:FI} {s:Sm} {clK:ClK (ElR s.rts)} (h:ClEq cl clK) (hn:(regs fi.body).Nodup) (hl:okC nm st hd fi.body none=true) (fr:PT IV) :
   qan P tt nm 0 fi.nt clK lf none fi.body fr S0 [] (lastA tt fi s)=qao P tt nm fi.nt clK lf st (atA P tt nm fi s clK lf hd) fi.body [] fr S0 [] (lastA tt fi s):=qn9 (mB_z nm) h hn hl fr S0
end
theorem conTA {P:Program} {tt:Nat->Option TI} {ft:Nat->Option FI} {sml:List (Nat × Sm)} {hxl:List (Nat × Hx)} {f:Nat} {s:Sm} {fi:FI} {nmf:Nat->Option Nm} {st hd:Nat->Bool} (n:Nat) (hm:P.follows .mixedOrders=true) (htt:TT P tt) (hft:FT P ft) (hsm:SmOK P sml)
   (hhx:HxsOK P hxl) (hC:qaf P f) (h1:smL sml f=none) (h2:hxL hxl f=none) (h3:ft f=some fi) (h4:∀x,Nat.ble (argV s.pts x).length fi.nt=true) (hn:(regs fi.body).Nodup) (hl:okC nmf st hd fi.body none=true)
   (hrun:∀(x:ElA s.pts) (y:ElR s.rts),WfA s.pts x->s.f x=some y->∃lf,
     qao P tt nmf fi.nt (qah P tt ft (nm1 f nmf) (smL sml) (hxL hxl) lf n (ElR s.rts)) lf st (atA P tt nmf fi s (qah P tt ft (nm1 f nmf) (smL sml) (hxL hxl) lf n (ElR s.rts)) lf hd) fi.body [] (argGo (argV s.pts x) 0 .leaf) S0 [] (lastA tt fi s)=some y) (hz:frzF nmf=false:=by rfl):ConA P f s:=by
 refine conKA (nm:=nm1 f nmf) (sm:=smL sml) (hx:=hxL hxl) hm htt hft (qby hsm) (qb4 hhx) hC fun x y hx2 hy=>?_
 obtain⟨lf,hr⟩:=hrun x y hx2 hy
 refine⟨n+1,lf,?_⟩
 rw[<- atA_in (qam n _) hn hl] at hr
 have e:=qrz f nmf
 unfold qah
 simp only[h1,h2,h3,h4,cond_true,e,hz,cond_false]
 exact hr
def aggR (r:Res):Res:=match r.v with
 | .tup l=>⟨.agg l,r.S,r.rd,r.wr⟩
 | _=>r
def hxA (s:Sm):Hx:=⟨fun _ vs S=>omap aggR (exf s vs S),fun _ _ vs S kk=>exfK s vs S fun r=>kk (aggR r),fun _ _ _ R vs S kk=>by
 rw[qt2]
 cases exf s vs S<;>rfl⟩
theorem exf_tup {s:Sm} (h2:2<=s.rts.length) {vs:List IV} {S:IS} {r:Res} (h:exf s vs S=some r):∃l,r.v=.tup l:=by
 have key:∀(n:Nat) (y:ElR s.rts),∃l,tupI (resV s.rts n y)=.tup l:=fun n y=>by
   have hl:=qeo s.rts n y
   match hr:resV s.rts n y,hl with
   | [],hl=>simp at hl;omega
   | [a],hl=>simp at hl;omega
   | a::b::l,_=>exact⟨_,rfl⟩
 unfold exf at h
 split at h
 · cases h
 split at h
 · cases h
 cases hb:s.flat with
 | true=>rw[hb,cond_true] at h;cases h;exact key _ _
 | false=>rw[hb,cond_false] at h;cases h;exact key _ _
theorem q1l {P:Program} {E:Env} {S:IS} {T:TW} {f:Nat} {s:Sm} (hc:ConA P f s) {vs:List IV} {r:Res} (h:exf s vs S=some r) {us:List Value} (p:Pre T E S) (hrd:tin T.r r.rd) (hwr:tin T.w r.wr) (hv:VRs E vs us) :
   qaf P f/\CallsIn Fence.wide 0 P f us.toArray E.w (AggE (RetE T E S r)):=by
 refine⟨hc.callable,?_⟩
 unfold exf at h
 split at h
 · cases h
 rename_i x S1 w hx
 split at h
 · cases h
 rename_i y hy
 cases hb:s.flat with
 | true =>
   rw[hb,cond_true] at h;cases h
   have p':Pre ⟨T.r,T.r,fun _ h=>h⟩ E S:=⟨p.st,p.bnd,fun id h=>T.sub _ (p.nw id h),p.gl⟩
   obtain⟨E1,e1,q1,f1,b1⟩:=qhg s.pts (T:=⟨T.r,T.r,fun _ h=>h⟩) hx p' hrd hv
   have hm:∀b∈E1.m,b∈E.m:=fun b hb=>by
     rcases q1.stp.memo b hb with h|h
     · exact h
     · have:=q1.st.lo b hb;rw[e1] at this;omega
   have hcall:=hc.calls E1.m E.w x us y hy (fun b hb=>p.st.lo b (hm b hb)) (p.gl.sub hm) (qgt (E:=E1) (E':=EM E1.m E.w) (fun _ h=>h) e1.symm s.pts b1)
   exact hcall.mono fun e w' ⟨vs,he,hR⟩=>⟨vs,he,qle (Eb:=E) (Sb:=S) (T:=T) p hm (.inl hb) hR⟩
 | false =>
   rw[hb,cond_false] at h;cases h
   obtain⟨E1,e1,q1,f1,b1⟩:=qhg s.pts hx p hwr hv
   have p1:=q1.pre p
   have hcall:=hc.calls E1.m E1.w x us y hy p1.st.lo p1.gl (qgt (E:=E1) (E':=EM E1.m E1.w) (fun _ h=>h) rfl s.pts b1)
   rw[<- e1]
   refine hcall.mono fun e w' ⟨vs,he,hR⟩=>⟨vs,he,?_⟩
   obtain⟨u,E2,g1,g2,g3,g4,g5⟩:=qle (Eb:=E1) (Sb:=S1) (rd:=0) (wr:=w) p1 (fun _ h=>h) (.inr fun _ h=>h) hR
   exact⟨u,E2,g1,g2,g3,Post.trans p q1 f1 g4,f1.trans g5 q1.le⟩
theorem hxA_ok {P:Program} {f:Nat} {s:Sm} (h2:2<=s.rts.length) (hc:ConA P f s):HxOK P f (hxA s).f:=by
 have inv:∀{cl vs S r},(hxA s).f cl vs S=some r->∃l S' rd wr,exf s vs S=some ⟨.tup l,S',rd,wr⟩/\r=⟨.agg l,S',rd,wr⟩:=by
   intro cl vs S r hr
   have hr:omap aggR (exf s vs S)=some r:=hr
   cases hq:exf s vs S with
   | none=>rw[hq] at hr;cases hr
   | some q =>
     rw[hq] at hr
     obtain⟨l,hl⟩:=exf_tup h2 hq
     obtain⟨v,S',rd,wr⟩:=q
     have hl:v=.tup l:=hl
     subst hl
     cases hr
     exact⟨l,S',rd,wr,rfl,rfl⟩
 refine⟨fun cl h1 _ h3 vs S r hr T E us p hrd hwr hv=>?_,fun cl h1 vs S r hr=>?_,fun cl h1 vs S r hr hw hl=>?_⟩
 · obtain⟨l,S',rd,wr,hq,rfl⟩:=inv hr
   obtain⟨c1,c2⟩:=q1l hc hq p hrd hwr hv
   exact⟨c1,c2.mono fun e w h=>tup_agg h⟩
 · obtain⟨l,S',rd,wr,hq,rfl⟩:=inv hr
   have q:=qsi (s:=s) (vs:=vs) (S:=S) ⟨.tup l,S',rd,wr⟩ hq
   exact q
 · obtain⟨l,S',rd,wr,hq,rfl⟩:=inv hr
   have q:=qui (r:=⟨.tup l,S',rd,wr⟩) hq hw hl
   exact q
end Go.Jx
end

noncomputable section
set_option maxRecDepth 100000
namespace Go.Proofs.YtanenikkloolfaaGreatDoor
open Go Go.Sx Go.RowKit Go.Jx
def nmz39:Nat->Option Nm:=fun k=>cond (Nat.beq k 5) (some ⟨[0,2,3,4,5,6],[],[(3,0,cToken),(3,1,cToken)],[],[],0,0,false⟩) (cond (Nat.beq k 10) (some ⟨[0,2,3,4,5,6,7],[],[],[],[],0,0,false⟩) (cond (Nat.beq k 18) (some ⟨[0,2,3,4,5,6,7],[],[],[],[],0,0,false⟩) (cond (Nat.beq k 21) (some ⟨[0,2,3,4,5,6,7,10],[],[],[],[],0,0,false⟩) (none))))
def stz39:Nat->Bool:=fun k=>cond (Nat.beq k 5) true (cond (Nat.beq k 10) true (cond (Nat.beq k 18) true (cond (Nat.beq k 21) true (false))))
def hdz39:Nat->Bool:=fun k=>cond (Nat.beq k 5) true (false)
abbrev Rtz39:Type:=(List qab) × (List qab) × Int × Int × Int × Unit
def qp0:List (Nat × Sm):=[(65,spz27),(66,spz28),(68,spz6),(69,spz9),(67,spz26)]
def qlz:List (Nat × Hx):=[]
def clz39 (R:Type) (lf:Nat):ClK R:=qah Tryz.prog ttT.get ftT.get (nm1 39 nmz39) (smL qp0) (hxL qlz) lf 20 R
abbrev idz39:Nat:=39
def qbs (x1:ByteArray) (p:Int × Int × Int × (List qab) × (List qab)):NRes:=(NRes.mk (.node (some (IV.str x1)) (.node none (.node (some (IV.ptr 1 0)) .leaf .leaf) (.node (some (IV.int .i64 p.1)) .leaf .leaf)) (.node (some (IV.ptr 0 0)) (.node (some (IV.int .i64 p.2.1)) .leaf .leaf) (.node (some (IV.int .i64 p.2.2.1)) .leaf .leaf))) (IS.mk (.node (some (IObj.row (List.cons IV.nilsl (List.cons IV.nilsl (List.cons (IV.int .i64 (Int.ofNat 0)) (List.cons (IV.int .i64 (Int.ofNat 0)) (List.cons (IV.int .i64 (Int.ofNat 0)) []))))))) (.node (some (IObj.row (List.cons (IV.arr 2) (List.cons (IV.arr 3) (List.cons (IV.int .i64 (Int.ofNat 0)) (List.cons (IV.int .i64 (Int.ofNat 0)) (List.cons (IV.int .i64 (Int.ofNat 0)) []))))))) (.node (some (IObj.arr cToken p.2.2.2.1)) .leaf .leaf) .leaf) (.node (some (IObj.arr cToken p.2.2.2.2)) .leaf .leaf)) 4) [] 0)
def qi4 (x1:ByteArray) (p:Int × Int × Int × Int × Int × (List qab) × (List qab)):NRes:=(NRes.mk (.node (some (IV.str x1)) (.node none (.node (some (IV.ptr 1 0)) (.node (some (IV.ptr 2 0)) .leaf .leaf) .leaf) (.node (some (IV.int .i64 p.1)) .leaf .leaf)) (.node (some (IV.ptr 0 0)) (.node (some (IV.int .i64 p.2.1)) .leaf .leaf) (.node (some (IV.int .i64 p.2.2.1)) .leaf .leaf))) (IS.mk (.node (some (IObj.row (List.cons IV.nilsl (List.cons IV.nilsl (List.cons (IV.int .i64 (Int.ofNat 0)) (List.cons (IV.int .i64 (Int.ofNat 0)) (List.cons (IV.int .i64 (Int.ofNat 0)) []))))))) (.node (some (IObj.row (List.cons (IV.arr 3) (List.cons (IV.arr 4) (List.cons (IV.int .i64 (Int.ofNat 0)) (List.cons (IV.int .i64 (Int.ofNat 0)) (List.cons (IV.int .i64 (Int.ofNat 0)) []))))))) (.node (some (IObj.arr cToken p.2.2.2.2.2.2)) .leaf .leaf) .leaf) (.node (some (IObj.row (List.cons (IV.int .i64 p.2.2.2.1) (List.cons (IV.int .i64 p.2.2.2.2.1) [])))) (.node (some (IObj.arr cToken p.2.2.2.2.2.1)) .leaf .leaf) .leaf)) 5) [] 0)
def qit (x1:ByteArray) (p:Int × Int × Int × Int × Int × (List qab) × (List qab)):NRes:=(NRes.mk (.node (some (IV.str x1)) (.node none (.node (some (IV.ptr 1 0)) (.node (some (IV.ptr 2 0)) .leaf .leaf) .leaf) (.node (some (IV.int .i64 p.2.1)) .leaf .leaf)) (.node (some (IV.ptr 0 0)) (.node (some (IV.int .i64 p.1)) .leaf .leaf) (.node (some (IV.int .i64 p.2.2.1)) .leaf .leaf))) (IS.mk (.node (some (IObj.row (List.cons IV.nilsl (List.cons IV.nilsl (List.cons (IV.int .i64 (Int.ofNat 0)) (List.cons (IV.int .i64 (Int.ofNat 0)) (List.cons (IV.int .i64 (Int.ofNat 0)) []))))))) (.node (some (IObj.row (List.cons (IV.arr 3) (List.cons (IV.arr 4) (List.cons (IV.int .i64 (Int.ofNat 0)) (List.cons (IV.int .i64 (Int.ofNat 0)) (List.cons (IV.int .i64 (Int.ofNat 0)) []))))))) (.node (some (IObj.arr cToken p.2.2.2.2.2.2)) .leaf .leaf) .leaf) (.node (some (IObj.row (List.cons (IV.int .i64 p.2.2.2.1) (List.cons (IV.int .i64 p.2.2.2.2.1) [])))) (.node (some (IObj.arr cToken p.2.2.2.2.2.1)) .leaf .leaf) .leaf)) 5) [] 0)
def qj0 (x1:ByteArray) (p:(List qab) × Int × Int × Int × Int × Int × ByteArray × (List qab)):NRes:=(NRes.mk (.node (some (IV.str x1)) (.node none (.node (some (IV.ptr 1 0)) (.node (some (IV.ptr 2 0)) .leaf .leaf) .leaf) (.node (some (IV.int .i64 p.2.1)) .leaf .leaf)) (.node (some (IV.ptr 0 0)) (.node (some (IV.int .i64 p.2.2.1)) .leaf .leaf) (.node (some (IV.int .i64 p.2.2.2.1)) (.node (some (IV.str p.2.2.2.2.2.2.1)) .leaf .leaf) .leaf))) (IS.mk (.node (some (IObj.row (List.cons IV.nilsl (List.cons IV.nilsl (List.cons (IV.int .i64 (Int.ofNat 0)) (List.cons (IV.int .i64 (Int.ofNat 0)) (List.cons (IV.int .i64 (Int.ofNat 0)) []))))))) (.node (some (IObj.row (List.cons (IV.arr 3) (List.cons (IV.arr 4) (List.cons (IV.int .i64 (Int.ofNat 0)) (List.cons (IV.int .i64 (Int.ofNat 0)) (List.cons (IV.int .i64 (Int.ofNat 0)) []))))))) (.node (some (IObj.arr cToken p.2.2.2.2.2.2.2)) .leaf .leaf) .leaf) (.node (some (IObj.row (List.cons (IV.int .i64 p.2.2.2.2.1) (List.cons (IV.int .i64 p.2.2.2.2.2.1) [])))) (.node (some (IObj.arr cToken p.1)) .leaf .leaf) .leaf)) 5) [] 0)
def qrx (lf:Nat) (x1:ByteArray) (L5:(Int × Int × Int × (List qab) × (List qab))->Option Rtz39):Option Rtz39:=(L5 ((Int.ofNat 0),(Int.ofNat 1),(Int.ofNat 0),[],[]))
def qh1 (lf:Nat) (x1:ByteArray) (L10:(Int × Int × Int × Int × Int × (List qab) × (List qab))->Option Rtz39) (p:Int × Int × Int × (List qab) × (List qab)):Option Rtz39:=(cond (iltI p.2.2.1 (Int.ofNat (ByteArray.size x1))) (match (jget (qaa x1) p.2.2.1) with|.none  => none|.some v0=>(cond (ieqI v0 (Int.ofNat 10)) (L10 ((IntKind.i64.wrap (Int.add p.2.2.1 (Int.ofNat 1))),(IntKind.i64.wrap (Int.add p.2.1 (Int.ofNat 1))),p.2.2.1,p.2.1,(IntKind.i64.wrap (Int.add (IntKind.i64.wrap (Int.sub p.2.2.1 p.1)) (Int.ofNat 1))),p.2.2.2.1,p.2.2.2.2)) (L10 (p.1,p.2.1,p.2.2.1,p.2.1,(IntKind.i64.wrap (Int.add (IntKind.i64.wrap (Int.sub p.2.2.1 p.1)) (Int.ofNat 1))),p.2.2.2.1,p.2.2.2.2)))) (some (p.2.2.2.2,(p.2.2.2.1,((Int.ofNat 0),((Int.ofNat 0),((Int.ofNat 0),())))))))
def qi9 (lf:Nat) (x1:ByteArray) (L5:(Int × Int × Int × (List qab) × (List qab))->Option Rtz39) (L18:(Int × Int × Int × Int × Int × (List qab) × (List qab))->Option Rtz39) (p:Int × Int × Int × Int × Int × (List qab) × (List qab)):Option Rtz39:=(match (jget (qaa x1) p.2.2.1) with|.none  => none|.some v0=>(cond (ieqI v0 (Int.ofNat 10)) (L5 (p.1,p.2.1,(IntKind.i64.wrap (Int.add p.2.2.1 (Int.ofNat 1))),p.2.2.2.2.2.1,p.2.2.2.2.2.2)) (match (jget (qaa x1) p.2.2.1) with|.none  => none|.some v24=>(cond (ieqI v24 (Int.ofNat 32)) (L5 (p.1,p.2.1,(IntKind.i64.wrap (Int.add p.2.2.1 (Int.ofNat 1))),p.2.2.2.2.2.1,p.2.2.2.2.2.2)) (match (jget (qaa x1) p.2.2.1) with|.none  => none|.some v25=>(cond (ieqI v25 (Int.ofNat 45)) (cond (iltI (IntKind.i64.wrap (Int.add p.2.2.1 (Int.ofNat 1))) (Int.ofNat (ByteArray.size x1))) (match (jget (qaa x1) (IntKind.i64.wrap (Int.add p.2.2.1 (Int.ofNat 1)))) with|.none  => none|.some v26=>(cond (ieqI v26 (Int.ofNat 45)) (match (cond (S.two x1 p.2.2.1) (some ((S.note x1 (Int.toNat p.2.2.1)).1,((S.note x1 (Int.toNat p.2.2.1)).2,()))) none) with|.none  => none|.some v27=>(cond (iltI v27.1 (Int.ofNat 0)) (some ([],([],(p.2.1,((IntKind.i64.wrap (Int.add (IntKind.i64.wrap (Int.sub v27.2.1 p.1)) (Int.ofNat 1))),((Int.ofNat 2),())))))) (cond (lchk p.2.2.1 (IntKind.i64.wrap (Int.add p.2.2.1 v27.1)) (Int.ofNat (ByteArray.size x1)) (Int.ofNat (ByteArray.size x1))) (cond (Nat.ble (Nat.mul (Nat.add (List.length p.2.2.2.2.2.1) 1) 40) 140737488355328) (L5 (p.1,p.2.1,(IntKind.i64.wrap (Int.add p.2.2.1 v27.1)),(List.append p.2.2.2.2.2.1 (List.cons ((Int.ofNat 6),((ByteArray.extract x1 (Int.toNat p.2.2.1) (Int.toNat (IntKind.i64.wrap (Int.add p.2.2.1 v27.1)))),(p.2.2.2.1,p.2.2.2.2.1))) [])),p.2.2.2.2.2.2)) none) none))) (L18 (p.2.1,p.1,p.2.2.1,p.2.2.2.1,p.2.2.2.2.1,p.2.2.2.2.2.1,p.2.2.2.2.2.2)))) (L18 (p.2.1,p.1,p.2.2.1,p.2.2.2.1,p.2.2.2.2.1,p.2.2.2.2.2.1,p.2.2.2.2.2.2))) (L18 (p.2.1,p.1,p.2.2.1,p.2.2.2.1,p.2.2.2.2.1,p.2.2.2.2.2.1,p.2.2.2.2.2.2))))))))
def qkd (lf:Nat) (x1:ByteArray) (L21:((List qab) × Int × Int × Int × Int × Int × ByteArray × (List qab))->Option Rtz39) (p:Int × Int × Int × Int × Int × (List qab) × (List qab)):Option Rtz39:=(match (cond (Bool.and (S.fits x1) (Bool.and (Bool.not (iltI p.2.2.1 (Int.ofNat 0))) (Bool.not (iltI (Int.ofNat (ByteArray.size x1)) p.2.2.1)))) (some ((S.signL (List.drop (Int.toNat p.2.2.1) (qaa x1))),())) none) with|.none  => none|.some v0=>(match (jget (qaa x1) p.2.2.1) with|.none  => none|.some v1=>(cond (S.isPart v1) (match (cond (Bool.and (Bool.not (iltI p.2.2.1 (Int.ofNat 0))) (Bool.not (iltI (Int.ofNat (ByteArray.size x1)) p.2.2.1))) (some ((Int.ofNat (S.runL (List.drop (Int.toNat p.2.2.1) (qaa x1)))),())) none) with|.none  => none|.some v2=>(cond (lchk p.2.2.1 (IntKind.i64.wrap (Int.add p.2.2.1 v2.1)) (Int.ofNat (ByteArray.size x1)) (Int.ofNat (ByteArray.size x1))) (L21 (p.2.2.2.2.2.1,p.2.1,p.1,p.2.2.1,p.2.2.2.1,p.2.2.2.2.1,(ByteArray.extract x1 (Int.toNat p.2.2.1) (Int.toNat (IntKind.i64.wrap (Int.add p.2.2.1 v2.1)))),p.2.2.2.2.2.2)) none)) (L21 (p.2.2.2.2.2.1,p.2.1,p.1,p.2.2.1,p.2.2.2.1,p.2.2.2.2.1,v0.1,p.2.2.2.2.2.2)))))
def qkf (lf:Nat) (x1:ByteArray) (L5:(Int × Int × Int × (List qab) × (List qab))->Option Rtz39) (p:(List qab) × Int × Int × Int × Int × Int × ByteArray × (List qab)):Option Rtz39:=(cond (Bool.not (ieqI (S.shape p.2.2.2.2.2.2.1).2 (Int.ofNat 0))) (some ([],([],(p.2.2.2.2.1,(p.2.2.2.2.2.1,((S.shape p.2.2.2.2.2.2.1).2,())))))) (cond (Nat.ble (Nat.mul (Nat.add (List.length p.2.2.2.2.2.2.2) 1) 40) 140737488355328) (L5 (p.2.1,p.2.2.1,(IntKind.i64.wrap (Int.add p.2.2.2.1 (Int.ofNat (ByteArray.size p.2.2.2.2.2.2.1)))),p.1,(List.append p.2.2.2.2.2.2.2 (List.cons ((S.shape p.2.2.2.2.2.2.1).1,(p.2.2.2.2.2.2.1,(p.2.2.2.2.1,p.2.2.2.2.2.1))) [])))) none))
theorem inz39 (g:ElA [.str]->Option Rtz39) (J:Nat->List Nat->NRes->Option Rtz39) (lf:Nat) (x1:ByteArray):qao Tryz.prog ttT.get nmz39 fi39.nt (clz39 _ lf) lf stz39 J fi39.body [] (argGo (argV [.str] (x1,())) 0 .leaf) S0 [] (lastA ttT.get fi39 ⟨[.str],[(true,cToken),(false,(.list cToken)),(false,(.int .i64)),(false,(.int .i64)),(false,(.int .i64))],g⟩)=qrx lf x1 (fun q=>J 5 [lf] (qbs x1 q)):=by kernel_rfl
theorem stz39_5 (g:ElA [.str]->Option Rtz39) (J:Nat->List Nat->NRes->Option Rtz39) (lf:Nat) (x1:ByteArray) (m1:Nat) (p:Int × Int × Int × (List qab) × (List qab)):qaz Tryz.prog ttT.get nmz39 fi39.nt (clz39 _ lf) lf stz39 J 5 fi39.body [] [m1] (qbs x1 p) (lastA ttT.get fi39 ⟨[.str],[(true,cToken),(false,(.list cToken)),(false,(.int .i64)),(false,(.int .i64)),(false,(.int .i64))],g⟩)=qh1 lf x1 (fun q=>J 10 [m1] (qi4 x1 q)) p:=by kernel_rfl
theorem q2j (g:ElA [.str]->Option Rtz39) (J:Nat->List Nat->NRes->Option Rtz39) (lf:Nat) (x1:ByteArray) (m1:Nat) (p:Int × Int × Int × Int × Int × (List qab) × (List qab)):qaz Tryz.prog ttT.get nmz39 fi39.nt (clz39 _ lf) lf stz39 J 10 fi39.body [] [m1] (qi4 x1 p) (lastA ttT.get fi39 ⟨[.str],[(true,cToken),(false,(.list cToken)),(false,(.int .i64)),(false,(.int .i64)),(false,(.int .i64))],g⟩)=qi9 lf x1 (fun q=>J 5 [m1] (qbs x1 q)) (fun q=>J 18 [m1] (qit x1 q)) p:=by kernel_rfl
theorem q11 (g:ElA [.str]->Option Rtz39) (J:Nat->List Nat->NRes->Option Rtz39) (lf:Nat) (x1:ByteArray) (m1:Nat) (p:Int × Int × Int × Int × Int × (List qab) × (List qab)):qaz Tryz.prog ttT.get nmz39 fi39.nt (clz39 _ lf) lf stz39 J 18 fi39.body [] [m1] (qit x1 p) (lastA ttT.get fi39 ⟨[.str],[(true,cToken),(false,(.list cToken)),(false,(.int .i64)),(false,(.int .i64)),(false,(.int .i64))],g⟩)=qkd lf x1 (fun q=>J 21 [m1] (qj0 x1 q)) p:=by kernel_rfl
theorem q3w (g:ElA [.str]->Option Rtz39) (J:Nat->List Nat->NRes->Option Rtz39) (lf:Nat) (x1:ByteArray) (m1:Nat) (p:(List qab) × Int × Int × Int × Int × Int × ByteArray × (List qab)):qaz Tryz.prog ttT.get nmz39 fi39.nt (clz39 _ lf) lf stz39 J 21 fi39.body [] [m1] (qj0 x1 p) (lastA ttT.get fi39 ⟨[.str],[(true,cToken),(false,(.list cToken)),(false,(.int .i64)),(false,(.int .i64)),(false,(.int .i64))],g⟩)=qkf lf x1 (fun q=>J 5 [m1] (qbs x1 q)) p:=by kernel_rfl
theorem ndz39:(regs fi39.body).Nodup:=by decide +kernel
theorem okz39:okC nmz39 stz39 hdz39 fi39.body none=true:=by kernel_rfl
def Az39 (g:ElA [.str]->Option Rtz39) (lf:Nat):Nat->List Nat->NRes->Option Rtz39:=atA Tryz.prog ttT.get nmz39 fi39 ⟨[.str],[(true,cToken),(false,(.list cToken)),(false,(.int .i64)),(false,(.int .i64)),(false,(.int .i64))],g⟩ (clz39 _ lf) lf hdz39
def qj2 (lf:Nat) (x1:ByteArray) (K5:(Int × Int × Int × (List qab) × (List qab))->Option Rtz39) (p:(List qab) × Int × Int × Int × Int × Int × ByteArray × (List qab)):Option Rtz39:=qkf lf x1 K5 p
theorem q16 (g:ElA [.str]->Option Rtz39) (lf:Nat) (x1:ByteArray) (m1:Nat) (p:(List qab) × Int × Int × Int × Int × Int × ByteArray × (List qab)):Az39 g lf 21 [m1] (qj0 x1 p)=qj2 lf x1 (fun q=>Az39 g lf 5 [m1] (qbs x1 q)) p:=by
   refine(qj3 (qam 20 _) ndz39 okz39 21 [m1] [m1] rfl _).trans ((q3w g (Az39 g lf) lf x1 m1 p).trans ?_)
   rfl
def qh6 (lf:Nat) (x1:ByteArray) (K5:(Int × Int × Int × (List qab) × (List qab))->Option Rtz39) (p:Int × Int × Int × Int × Int × (List qab) × (List qab)):Option Rtz39:=qkd lf x1 (fun q=>qj2 lf x1 K5 q) p
theorem q5f (g:ElA [.str]->Option Rtz39) (lf:Nat) (x1:ByteArray) (m1:Nat) (p:Int × Int × Int × Int × Int × (List qab) × (List qab)):Az39 g lf 18 [m1] (qit x1 p)=qh6 lf x1 (fun q=>Az39 g lf 5 [m1] (qbs x1 q)) p:=by
   refine(qj3 (qam 20 _) ndz39 okz39 18 [m1] [m1] rfl _).trans ((q11 g (Az39 g lf) lf x1 m1 p).trans ?_)
   rw[(show (fun q=>Az39 g lf 21 [m1] (qj0 x1 q))=(fun q=>qj2 lf x1 (fun q=>Az39 g lf 5 [m1] (qbs x1 q)) q) from funext fun q=>q16 g lf x1 m1 q)]
   rfl
def qdl (lf:Nat) (x1:ByteArray) (K5:(Int × Int × Int × (List qab) × (List qab))->Option Rtz39) (p:Int × Int × Int × Int × Int × (List qab) × (List qab)):Option Rtz39:=qi9 lf x1 K5 (fun q=>qh6 lf x1 K5 q) p
theorem q4a (g:ElA [.str]->Option Rtz39) (lf:Nat) (x1:ByteArray) (m1:Nat) (p:Int × Int × Int × Int × Int × (List qab) × (List qab)):Az39 g lf 10 [m1] (qi4 x1 p)=qdl lf x1 (fun q=>Az39 g lf 5 [m1] (qbs x1 q)) p:=by
   refine(qj3 (qam 20 _) ndz39 okz39 10 [m1] [m1] rfl _).trans ((q2j g (Az39 g lf) lf x1 m1 p).trans ?_)
   rw[(show (fun q=>Az39 g lf 18 [m1] (qit x1 q))=(fun q=>qh6 lf x1 (fun q=>Az39 g lf 5 [m1] (qbs x1 q)) q) from funext fun q=>q5f g lf x1 m1 q)]
   rfl
def qc7 (lf:Nat) (x1:ByteArray):Nat->(Int × Int × Int × (List qab) × (List qab))->Option Rtz39:=rounds fun K p=>qh1 lf x1 (fun q=>qdl lf x1 K q) p
theorem qss (g:ElA [.str]->Option Rtz39) (lf:Nat) (x1:ByteArray):∀(n:Nat) (p:Int × Int × Int × (List qab) × (List qab)),Az39 g lf 5 [n] (qbs x1 p)=qc7 lf x1 n p
 | 0,p=>q28 5 [0] rfl _
 | n+1,p=>by
   have ih:=qss g lf x1 n
   refine(qj3 (qam 20 _) ndz39 okz39 5 [n+1] [n] rfl _).trans ((stz39_5 g (Az39 g lf) lf x1 n p).trans ?_)
   rw[(show (fun q=>Az39 g lf 10 [n] (qi4 x1 q))=(fun q=>qdl lf x1 (fun q=>Az39 g lf 5 [n] (qbs x1 q)) q) from funext fun q=>q4a g lf x1 n q),(show (fun q=>Az39 g lf 5 [n] (qbs x1 q))=(fun q=>qc7 lf x1 n q) from funext ih)]
   rfl
def Fz39 (lf:Nat) (x1:ByteArray):Option Rtz39:=qrx lf x1 (fun q=>qc7 lf x1 lf q)
theorem runz39 (g:ElA [.str]->Option Rtz39) (lf:Nat) (x1:ByteArray):qao Tryz.prog ttT.get nmz39 fi39.nt (clz39 _ lf) lf stz39 (Az39 g lf) fi39.body [] (argGo (argV [.str] (x1,())) 0 .leaf) S0 [] (lastA ttT.get fi39 ⟨[.str],[(true,cToken),(false,(.list cToken)),(false,(.int .i64)),(false,(.int .i64)),(false,(.int .i64))],g⟩)=Fz39 lf x1:=by
   refine(inz39 g (Az39 g lf) lf x1).trans ?_
   rw[(show (fun q=>Az39 g lf 5 [lf] (qbs x1 q))=(fun q=>qc7 lf x1 lf q) from funext fun q=>qss g lf x1 lf q)]
   rfl
theorem hxsz39:HxsOK Tryz.prog qlz:=trivial
theorem mkz39 {g:ElA [.str]->Option Rtz39} (hsm:SmOK Tryz.prog qp0) (hg:∀(x:ElA [.str]) (y:Rtz39),WfA [.str] x->g x=some y->∃lf,Fz39 lf x.1=some y):ConA Tryz.prog 39 ⟨[.str],[(true,cToken),(false,(.list cToken)),(false,(.int .i64)),(false,(.int .i64)),(false,(.int .i64))],g⟩ :=
 conTA (nmf:=nmz39) (sml:=qp0) (hxl:=qlz) (st:=stz39) (hd:=hdz39) 20 mixed ttOK ftOK hsm hxsz39 cal39 rfl rfl (by kernel_rfl) (fun x=>by kernel_rfl) ndz39 okz39 fun x y hx hy=>by
   obtain⟨lf,h⟩:=hg x y hx hy
   exact⟨lf,(runz39 g lf x.1).trans h⟩
noncomputable section
def spz39:Sm:=⟨[.str],[(true,cToken),(false,.list cToken),(false,.int .i64),(false,.int .i64),(false,.int .i64)],fun x=>cond (S.fits x.1) (some ((S.readG x.1).1,(S.readG x.1).2.1,(S.readG x.1).2.2.1.1,(S.readG x.1).2.2.1.2,(S.readG x.1).2.2.2,())) none⟩
end
def cvO (x:Rtz29):Rtz39:=(x.1.1,x.1.2.1,x.1.2.2.1.1,x.1.2.2.1.2,x.1.2.2.2,())
theorem c_cg {α β:Type} {f:α->β} {b:Bool} {x y:Option β} {x' y':Option α} (h1:x=omap f x') (h2:y=omap f y'):cond b x y=omap f (cond b x' y'):=by cases b<;>assumption
theorem rd_21 (s:ByteArray) (K:_->Option Rtz29) (p):qkf LF s (fun q=>omap cvO (K q)) p=omap cvO (qht LF s K p):=by
 unfold qkf qht
 repeat' first|refine c_cg ?_ ?_|rfl
theorem rd_18 (s:ByteArray) (K:_->Option Rtz29) (p):qkd LF s (fun q=>omap cvO (K q)) p=omap cvO (qhb LF s K p):=by
 unfold qkd qhb
 cases (Bool.and (S.fits s) (Bool.and (Bool.not (iltI p.2.2.1 (Int.ofNat 0))) (Bool.not (iltI (Int.ofNat s.size) p.2.2.1)))) with
 | false=>rfl
 | true =>
   cases jget (qaa s) p.2.2.1 with
   | none=>rfl
   | some v =>
     refine c_cg ?_ rfl
     cases (Bool.and (Bool.not (iltI p.2.2.1 (Int.ofNat 0))) (Bool.not (iltI (Int.ofNat s.size) p.2.2.1))) with
     | false=>rfl
     | true=>exact c_cg rfl rfl
theorem rd_10 (s:ByteArray) (K L:_->Option Rtz29) (p):qi9 LF s (fun q=>omap cvO (K q)) (fun q=>omap cvO (L q)) p=omap cvO (qdm LF s K L p):=by
 unfold qi9 qdm
 cases jget (qaa s) p.2.2.1 with
 | none=>rfl
 | some v =>
   refine c_cg rfl (c_cg rfl (c_cg (c_cg ?_ rfl) rfl))
   cases jget (qaa s) (IntKind.i64.wrap (Int.add p.2.2.1 (Int.ofNat 1))) with
   | none=>rfl
   | some v2 =>
     refine c_cg ?_ rfl
     cases S.two s p.2.2.1 with
     | false=>rfl
     | true=>exact c_cg rfl (c_cg (c_cg rfl rfl) rfl)
theorem rd_5 (s:ByteArray) (K:_->Option Rtz29) (p):qh1 LF s (fun q=>omap cvO (K q)) p=omap cvO (qc0 LF s K p):=by
 unfold qh1 qc0
 refine c_cg ?_ rfl
 cases jget (qaa s) p.2.2.1 with
 | none=>rfl
 | some v=>exact c_cg rfl rfl
theorem rdG_10 (s:ByteArray) (K:_->Option Rtz29) (p):qdl LF s (fun q=>omap cvO (K q)) p=omap cvO (qbx LF s K p):=by
 unfold qdl qbx
 have h18:(fun q=>qh6 LF s (fun q=>omap cvO (K q)) q)=fun q=>omap cvO (qd2 LF s K q):=funext fun q=>by
   unfold qh6 qd2
   have h21:(fun q=>qj2 LF s (fun q=>omap cvO (K q)) q)=fun q=>omap cvO (qf7 LF s K q):=funext fun q=>rd_21 s K q
   rw[h21]
   exact rd_18 s _ q
 rw[h18]
 exact rd_10 s K _ p
theorem rdG_5 (s:ByteArray):∀(n:Nat) (p),qc7 LF s n p=omap cvO (qcb LF s n p)
 | 0,p=>rfl
 | n+1,p=>by
   show qh1 LF s (fun q=>qdl LF s (qc7 LF s n) q) p=omap cvO (qc0 LF s (fun q=>qbx LF s (qcb LF s n) q) p)
   have h:(fun q=>qdl LF s (qc7 LF s n) q)=fun q=>omap cvO (qbx LF s (qcb LF s n) q):=funext fun q=>by
     rw[show qc7 LF s n=fun q=>omap cvO (qcb LF s n q) from funext fun q=>rdG_5 s n q]
     exact rdG_10 s _ q
   rw[h]
   exact rd_5 s _ p
theorem conz39:ConA Tryz.prog idz39 spz39:=mkz39 ⟨qxo,qr5,conz6,conz9,qxj,trivial⟩ fun x y hx h=>⟨LF,by
 obtain⟨h1,h2⟩:=qa5 (show cond (S.fits x.1) (some ((S.readG x.1).1,(S.readG x.1).2.1,(S.readG x.1).2.2.1.1,(S.readG x.1).2.2.1.2,(S.readG x.1).2.2.2,())) none=some y from h)
 refine Eq.trans ?_ (congrArg some h2)
 have hF:Fz29 LF x.1=some (S.readG x.1,()):=qwj x.1 h1
 have:Fz39 LF x.1=omap cvO (Fz29 LF x.1):=rdG_5 x.1 LF _
 rw[this,hF]
 rfl⟩
namespace S
end S


def kt (A:List (List Int)):List (Int × ByteArray):=S.kinds ((S.readL A 1).1.filter S.isTok)
theorem q4e {l:List (List Int)} {k1 k2 j1 j2:Nat} {x1 x2:List Int} (h1:l[k1]?=some x1) (h2:l[k2]?=some x2) (a1:j1<=x1.length) (a2:j2<=x2.length) (h:S.sumLen (l.take k1)+(j1:Int)=S.sumLen (l.take k2)+(j2:Int)):k1=k2/\j1=j2:=by
 rcases Nat.lt_trichotomy k1 k2 with h3|h3|h3
 · have:=qnf h1 h3;omega
 · subst h3;exact⟨rfl,by omega⟩
 · have:=qnf h2 h3;omega
abbrev q4x:Type:=List qab × Int × qai × Int
noncomputable def spz40:Sm:=⟨[.list cToken,.str],[(false,.bool)],fun x=>cond (S.fits x.2.1) (some (S.ordered x.2.1 x.1,())) none⟩
noncomputable def spz41:Sm:=⟨[.list cToken,.str,cChange],[(false,qq2)],fun x=>cond (S.fits x.2.1&&(S.fits x.2.2.1.2.2&&Nat.ble x.1.length 1000000)) (some (S.patch x.1 x.2.1 x.2.2.1,())) none⟩
theorem qtd (a b:Int):S.cmpI a b=- S.cmpI b a:=by
 unfold S.cmpI
 by_cases h1:a<b
 · rw[if_pos h1,if_neg (by omega),if_pos h1]
 · rw[if_neg h1]
   by_cases h2:b<a
   · rw[if_pos h2,if_pos h2];rfl
   · rw[if_neg h2,if_neg h2,if_neg h1];rfl
theorem q1v (p q:qai):S.comparePl p q=- S.comparePl q p:=by
 unfold S.comparePl
 have h1:=qtd p.1 q.1
 have h2:=qtd p.2 q.2
 by_cases c:S.cmpI p.1 q.1=0
 · rw[if_pos c,if_pos (by omega),h2]
 · rw[if_neg c,if_neg (by omega),h1]
theorem q56 {s:ByteArray} {p q:qai} (hp:(S.offset s p).2=0) (hq:(S.offset s q).2=0):(!(decide (p=q))&&!(decide (0<S.comparePl p q)))=decide ((S.offset s p).1<(S.offset s q).1):=by
 have ep:S.offset s p=((S.offset s p).1,0):=Prod.ext rfl hp
 have eq:S.offset s q=((S.offset s q).1,0):=Prod.ext rfl hq
 rcases Int.lt_trichotomy (S.offset s p).1 (S.offset s q).1 with h|h|h
 · obtain⟨h1,h2⟩:=qtu ep eq h
   rw[decide_eq_false h1,decide_eq_false (by omega),decide_eq_true h];rfl
 · have hpq:p=q:=by
     obtain⟨k1,j1,x1,a1,a2,a3⟩:=qhc hp
     obtain⟨k2,j2,x2,b1,b2,b3⟩:=qhc hq
     have o1:=qgu a2 a3
     have o2:=qgu b2 b3
     rw[<- a1] at o1
     rw[<- b1] at o2
     rw[o1,o2] at h
     have h:(j1:Int)+S.sumLen ((S.splitL (qaa s)).take k1)=(j2:Int)+S.sumLen ((S.splitL (qaa s)).take k2):=h
     obtain⟨e1,e2⟩:=q4e a2 b2 a3 b3 (by omega)
     rw[a1,b1,e1,e2]
   subst hpq
   rw[decide_eq_true rfl,decide_eq_false (Int.lt_irrefl _)];rfl
 · obtain⟨h1,h2⟩:=qtu eq ep h
   have:=q1v p q
   rw[decide_eq_true (show 0<S.comparePl p q by omega),decide_eq_false (show ¬(S.offset s p).1<(S.offset s q).1 by omega)]
   cases decide (p=q)<;>rfl
def nmz40:Nat->Option Nm:=fun k=>cond (Nat.beq k 2) (some ⟨[0,1,5],[],[],[],[],0,0,false⟩) (none)
def stz40:Nat->Bool:=fun k=>cond (Nat.beq k 2) true (false)
def hdz40:=stz40
abbrev Rtz40:Type:=Bool × Unit
def qo1:List (Nat × Sm):=[(64,spz25)]
def qmu:List (Nat × Hx):=[]
def clz40 (R:Type) (lf:Nat):ClK R:=qah Tryz.prog ttT.get ftT.get (nm1 36 nmz40) (smL qo1) (hxL qmu) lf 20 R
abbrev idz40:Nat:=36
def qe2 (x1:(List qab)) (x2:ByteArray) (p:Int):NRes:=(NRes.mk (.node (some (IV.lst cToken x1)) (.node (some (IV.str x2)) .leaf (.node (some (IV.int .i64 p)) .leaf .leaf)) .leaf) (IS.mk .leaf 0) [] 0)
def qxd (lf:Nat) (x1:(List qab)) (x2:ByteArray) (L2:Int->Option Rtz40):Option Rtz40:=(L2 (Int.ofNat 0))
def qlg (lf:Nat) (x1:(List qab)) (x2:ByteArray) (L2:Int->Option Rtz40) (p:Int):Option Rtz40:=(cond (iltI p (Int.ofNat (List.length x1))) (match (jget x1 p) with|.none  => none|.some v0=>(match (cond (S.fits x2) (some ((S.offset x2 (v0.2.2.1,v0.2.2.2)),())) none) with|.none  => none|.some v1=>(cond (Bool.not (ieqI v1.1.2 (Int.ofNat 0))) (some (Bool.false,())) (cond (iltI (Int.ofNat 0) p) (match (jget x1 (imax (Int.ofNat 0) (IntKind.i64.wrap (Int.sub p (Int.ofNat 1))))) with|.none  => none|.some v2=>(match (cond (S.fits x2) (some ((S.offset x2 (v2.2.2.1,v2.2.2.2)),())) none) with|.none  => none|.some v3=>(cond (Bool.not (iltI v3.1.1 v1.1.1)) (some (Bool.false,())) (L2 (IntKind.i64.wrap (Int.add p (Int.ofNat 1))))))) (L2 (IntKind.i64.wrap (Int.add p (Int.ofNat 1)))))))) (some (Bool.true,())))
abbrev gz40:Type:=ElA [(.list cToken),.str]->Option Rtz40
abbrev sz40 (g:gz40):Sm:=⟨[(.list cToken),.str],[(false,.bool)],g⟩
abbrev Ez40 (g:gz40) (J:JT Rtz40) (lf:Nat) (x1:(List qab)) (x2:ByteArray):=qao Tryz.prog ttT.get nmz40 fi36.nt (clz40 _ lf) lf stz40 J fi36.body [] (argGo (argV [(.list cToken),.str] (x1,x2,())) 0 .leaf) S0 [] (lastK ttT.get fi36 (sz40 g))
abbrev Bz40 (g:gz40) (J:JT Rtz40) (lf k:Nat) (ms:List Nat) (q:NRes):=qaz Tryz.prog ttT.get nmz40 fi36.nt (clz40 _ lf) lf stz40 J k fi36.body [] ms q (lastK ttT.get fi36 (sz40 g))
theorem inz40 (g:gz40) (J:JT Rtz40) (lf:Nat) (x1:(List qab)) (x2:ByteArray):Ez40 g J lf x1 x2=qxd lf x1 x2 (fun q=>J 2 [lf] (qe2 x1 x2 q)):=by kernel_rfl
theorem stz40_2 (g:gz40) (J:JT Rtz40) (lf:Nat) (x1:(List qab)) (x2:ByteArray) (m1:Nat) (p:Int):Bz40 g J lf 2 [m1] (qe2 x1 x2 p)=qlg lf x1 x2 (fun q=>J 2 [m1] (qe2 x1 x2 q)) p:=by kernel_rfl
theorem ndz40:(regs fi36.body).Nodup:=by decide +kernel
theorem okz40:okC nmz40 stz40 hdz40 fi36.body none=true:=by kernel_rfl
def Az40 (g:gz40) (lf:Nat):JT Rtz40:=atN Tryz.prog ttT.get nmz40 fi36 (sz40 g) (clz40 _ lf) lf hdz40
def qg5 (lf:Nat) (x1:(List qab)) (x2:ByteArray):Nat->(Int)->Option Rtz40:=rounds fun K p=>qlg lf x1 x2 K p
theorem qu7 (g:gz40) (lf:Nat) (x1:(List qab)) (x2:ByteArray):∀(n:Nat) (p:Int),Az40 g lf 2 [n] (qe2 x1 x2 p)=qg5 lf x1 x2 n p
 | 0,p=>qa2 2 [0] rfl _
 | n+1,p=>by
   have ih:=qu7 g lf x1 x2 n
   refine(qav (qam 20 _) ndz40 okz40 2 [n+1] [n] rfl _).trans ((stz40_2 g (Az40 g lf) lf x1 x2 n p).trans ?_)
   rw[(show (fun q=>Az40 g lf 2 [n] (qe2 x1 x2 q))=(fun q=>qg5 lf x1 x2 n q) from funext ih)]
   rfl
def Fz40 (lf:Nat) (x1:(List qab)) (x2:ByteArray):Option Rtz40:=qxd lf x1 x2 (fun q=>qg5 lf x1 x2 lf q)
theorem runz40 (g:gz40) (lf:Nat) (x1:(List qab)) (x2:ByteArray):Ez40 g (Az40 g lf) lf x1 x2=Fz40 lf x1 x2:=by
   refine(inz40 g (Az40 g lf) lf x1 x2).trans ?_
   rw[(show (fun q=>Az40 g lf 2 [lf] (qe2 x1 x2 q))=(fun q=>qg5 lf x1 x2 lf q) from funext fun q=>qu7 g lf x1 x2 lf q)]
   rfl
theorem hxsz40:HxsOK Tryz.prog qmu:=trivial
theorem mkz40 {g:gz40} (hsm:SmOK Tryz.prog qo1) (hg:∀(x:ElA [(.list cToken),.str]) (y:Rtz40),WfA [(.list cToken),.str] x->g x=some y->∃lf,Fz40 lf x.1 x.2.1=some y):Con Tryz.prog 36 ⟨[(.list cToken),.str],[(false,.bool)],g⟩ :=
 conT (nmf:=nmz40) (sml:=qo1) (hxl:=qmu) (st:=stz40) (hd:=hdz40) 20 mixed ttOK ftOK hsm hxsz40 cal36 rfl rfl (by kernel_rfl) (fun x=>by kernel_rfl) ndz40 okz40 fun x y hx hy=>by
   obtain⟨lf,h⟩:=hg x y hx hy
   exact⟨lf,(runz40 g lf x.1 x.2.1).trans h⟩
def nmz41:Nat->Option Nm:=fun k=>cond (Nat.beq k 12) (some ⟨[0,6,7,9,10,11,12,13],[],[(12,0,cToken)],[],[],0,0,false⟩) (cond (Nat.beq k 18) (some ⟨[0,6,10,11,12,14,15],[(14,.str)],[(12,0,cToken)],[],[],0,0,false⟩) (cond (Nat.beq k 24) (some ⟨[0,6,10,11,12,14,15,16,17],[(14,.str)],[(12,0,cToken),(16,0,cToken)],[],[],0,0,false⟩) (cond (Nat.beq k 30) (some ⟨[0,6,10,11,12,18],[],[(12,0,cToken)],[],[],0,0,false⟩) (none))))
def stz41:Nat->Bool:=fun k=>cond (Nat.beq k 12) true (cond (Nat.beq k 18) true (cond (Nat.beq k 24) true (cond (Nat.beq k 30) true (false))))
def hdz41:=stz41
abbrev Rtz41:Type:=q4x × Unit
def qpa:List (Nat × Sm):=[(35,spz23),(36,spz40),(37,spz20),(38,spz18)]
def qn0:List (Nat × Hx):=[(39,hxA spz39)]
def clz41 (R:Type) (lf:Nat):ClK R:=qah Tryz.prog ttT.get ftT.get (nm1 9 nmz41) (smL qpa) (hxL qn0) lf 20 R
abbrev idz41:Nat:=9
def qej (x1:(List qab)) (x2:ByteArray) (x3:qag) (p:Int × Int × Int × ByteArray × Int × Int × (List qab)):NRes:=(NRes.mk (.node (some (IV.lst cToken x1)) (.node none (.node none (.node (some (IV.ptr 1 0)) .leaf .leaf) (.node (some (IV.int .i64 p.2.2.2.2.1)) .leaf .leaf)) (.node none (.node (some (IV.int .i64 p.2.2.1)) .leaf .leaf) (.node (some (IV.int .i64 p.2.2.2.2.2.1)) .leaf .leaf))) (.node none (.node none .leaf (.node (some (IV.ptr 2 0)) .leaf .leaf)) (.node (some (IV.ptr 0 0)) (.node (some (IV.int .i64 p.2.1)) .leaf .leaf) .leaf))) (IS.mk (.node (some (IObj.row (List.cons IV.nilsl (List.cons (IV.int .i64 (Int.ofNat 0)) (List.cons (IV.int .i64 (Int.ofNat 0)) (List.cons (IV.int .i64 (Int.ofNat 0)) (List.cons (IV.int .i64 (Int.ofNat 0)) []))))))) (.node (some (IObj.row (List.cons (IV.str p.2.2.2.1) (List.cons (IV.int .i64 p.1) [])))) (.node (some (IObj.arr cToken p.2.2.2.2.2.2)) .leaf .leaf) .leaf) (.node (some (IObj.row (List.cons (IV.arr 3) (List.cons (IV.int .i64 (Int.ofNat 0)) (List.cons (IV.int .i64 (Int.ofNat 0)) (List.cons (IV.int .i64 (Int.ofNat 0)) (List.cons (IV.int .i64 (Int.ofNat 0)) []))))))) .leaf .leaf)) 4) [] 0)
def qck (x1:(List qab)) (x2:ByteArray) (x3:qag) (p:Int × Int × Int × (List ByteArray) × (List qab) × Int):NRes:=(NRes.mk (.node (some (IV.lst cToken x1)) (.node none (.node none (.node none (.node (some (IV.int .i64 p.2.1)) .leaf .leaf) .leaf) (.node (some (IV.int .i64 p.1)) .leaf .leaf)) .leaf) (.node none (.node none .leaf (.node (some (IV.ptr 1 0)) .leaf .leaf)) (.node (some (IV.ptr 0 0)) (.node (some (IV.int .i64 p.2.2.1)) .leaf .leaf) (.node (some (IV.arr 2)) .leaf .leaf)))) (IS.mk (.node (some (IObj.row (List.cons IV.nilsl (List.cons (IV.int .i64 (Int.ofNat 0)) (List.cons (IV.int .i64 (Int.ofNat 0)) (List.cons (IV.int .i64 (Int.ofNat 0)) (List.cons (IV.int .i64 (Int.ofNat 0)) []))))))) (.node (some (IObj.row (List.cons (IV.arr 3) (List.cons (IV.int .i64 p.2.2.2.2.2) (List.cons (IV.int .i64 (Int.ofNat 0)) (List.cons (IV.int .i64 (Int.ofNat 0)) (List.cons (IV.int .i64 (Int.ofNat 0)) []))))))) (.node (some (IObj.arr cToken p.2.2.2.2.1)) .leaf .leaf) .leaf) (.node (some (IObj.arr TC.str p.2.2.2.1)) .leaf .leaf)) 4) [] 0)
def qer (x1:(List qab)) (x2:ByteArray) (x3:qag) (p:(List qab) × Int × Int × (List ByteArray) × Int × (List qab) × (List qab) × Int × Int × Int × Int × Int):NRes:=(NRes.mk (.node (some (IV.lst cToken x1)) (.node none (.node none (.node none (.node (some (IV.int .i64 p.2.1)) .leaf .leaf) .leaf) (.node (some (IV.int .i64 p.2.2.1)) .leaf .leaf)) (.node none (.node none (.node (some (IV.int .i64 p.2.2.2.2.2.2.2.2.2.2.1)) .leaf .leaf) .leaf) .leaf)) (.node none (.node none (.node none (.node (some (IV.ptr 3 0)) .leaf .leaf) .leaf) (.node (some (IV.ptr 1 0)) .leaf .leaf)) (.node (some (IV.ptr 0 0)) (.node (some (IV.int .i64 p.2.2.2.2.1)) .leaf .leaf) (.node (some (IV.arr 2)) .leaf .leaf)))) (IS.mk (.node (some (IObj.row (List.cons IV.nilsl (List.cons (IV.int .i64 (Int.ofNat 0)) (List.cons (IV.int .i64 (Int.ofNat 0)) (List.cons (IV.int .i64 (Int.ofNat 0)) (List.cons (IV.int .i64 (Int.ofNat 0)) []))))))) (.node (some (IObj.row (List.cons (IV.arr 4) (List.cons (IV.int .i64 p.2.2.2.2.2.2.2.2.2.2.2) (List.cons (IV.int .i64 (Int.ofNat 0)) (List.cons (IV.int .i64 (Int.ofNat 0)) (List.cons (IV.int .i64 (Int.ofNat 0)) []))))))) (.node (some (IObj.row (List.cons (IV.arr 5) (List.cons (IV.lst cToken p.2.2.2.2.2.2.1) (List.cons (IV.int .i64 p.2.2.2.2.2.2.2.1) (List.cons (IV.int .i64 p.2.2.2.2.2.2.2.2.1) (List.cons (IV.int .i64 p.2.2.2.2.2.2.2.2.2.1) []))))))) .leaf .leaf) (.node (some (IObj.arr cToken p.2.2.2.2.2.1)) .leaf .leaf)) (.node (some (IObj.arr TC.str p.2.2.2.1)) (.node (some (IObj.arr cToken p.1)) .leaf .leaf) .leaf)) 6) [] 0)
def qff (x1:(List qab)) (x2:ByteArray) (x3:qag) (p:(List qab) × Int × Int × Int × Int):NRes:=(NRes.mk (.node (some (IV.lst cToken x1)) (.node none (.node none .leaf (.node (some (IV.int .i64 p.2.1)) .leaf .leaf)) .leaf) (.node none (.node none .leaf (.node (some (IV.ptr 1 0)) .leaf .leaf)) (.node (some (IV.ptr 0 0)) (.node (some (IV.int .i64 p.2.2.1)) (.node (some (IV.int .i64 p.2.2.2.2)) .leaf .leaf) .leaf) .leaf))) (IS.mk (.node (some (IObj.row (List.cons IV.nilsl (List.cons (IV.int .i64 (Int.ofNat 0)) (List.cons (IV.int .i64 (Int.ofNat 0)) (List.cons (IV.int .i64 (Int.ofNat 0)) (List.cons (IV.int .i64 (Int.ofNat 0)) []))))))) (.node (some (IObj.row (List.cons (IV.arr 2) (List.cons (IV.int .i64 p.2.2.2.1) (List.cons (IV.int .i64 (Int.ofNat 0)) (List.cons (IV.int .i64 (Int.ofNat 0)) (List.cons (IV.int .i64 (Int.ofNat 0)) []))))))) .leaf .leaf) (.node (some (IObj.arr cToken p.1)) .leaf .leaf)) 3) [] 0)
def qqp (lf:Nat) (x1:(List qab)) (x2:ByteArray) (x3:qag) (L12:(Int × Int × Int × ByteArray × Int × Int × (List qab))->Option Rtz41):Option Rtz41:=(match (cond (Bool.and (S.fits x2) (S.fits x3.2.2)) (some ((S.edit x2 (x3.1,(x3.2.1,x3.2.2))),())) none) with|.none  => none|.some v0=>(cond (Bool.not (ieqI v0.1.2 (Int.ofNat 0))) (some (([],((Int.ofNat 0),(((Int.ofNat 0),(Int.ofNat 0)),v0.1.2))),())) (match (cond (S.fits x2) (some ((S.ordered x2 x1),())) none) with|.none  => none|.some v1=>(cond (Bool.not v1.1) (some (([],((Int.ofNat 0),(((Int.ofNat 0),(Int.ofNat 0)),(Int.ofNat 1)))),())) (match (cond (Bool.and (S.fits x2) (Bool.and (Bool.not (iltI x3.1 (Int.ofNat 0))) (Bool.not (iltI (Int.ofNat (ByteArray.size x2)) x3.1)))) (some ((S.placeGo (List.take (Int.toNat x3.1) (qaa x2)) (Int.ofNat 1) (Int.ofNat 1)),())) none) with|.none  => none|.some v2=>(match (cond (Bool.and (S.fits x2) (Bool.and (Bool.not (iltI x3.2.1 (Int.ofNat 0))) (Bool.not (iltI (Int.ofNat (ByteArray.size x2)) x3.2.1)))) (some ((S.placeGo (List.take (Int.toNat x3.2.1) (qaa x2)) (Int.ofNat 1) (Int.ofNat 1)),())) none) with|.none  => none|.some v3=>(match (cond (S.fits v0.1.1) (some ((S.lines v0.1.1),())) none) with|.none  => none|.some v4=>(match (cond (S.fits x2) (some ((S.lines x2),())) none) with|.none  => none|.some v5=>(L12 (v0.1.2,v3.1.1,v2.1.1,v0.1.1,(IntKind.i64.wrap (Int.sub (Int.ofNat (List.length v4.1)) (Int.ofNat (List.length v5.1)))),(Int.ofNat 0),[]))))))))))
def qjr (lf:Nat) (x1:(List qab)) (x2:ByteArray) (x3:qag) (L12:(Int × Int × Int × ByteArray × Int × Int × (List qab))->Option Rtz41) (L18:(Int × Int × Int × (List ByteArray) × (List qab) × Int)->Option Rtz41) (p:Int × Int × Int × ByteArray × Int × Int × (List qab)):Option Rtz41:=(cond (iltI p.2.2.2.2.2.1 (Int.ofNat (List.length x1))) (match (jget x1 p.2.2.2.2.2.1) with|.none  => none|.some v0=>(cond (iltI v0.2.2.1 p.2.2.1) (match (jget x1 p.2.2.2.2.2.1) with|.none  => none|.some v1=>(cond (Nat.ble (Nat.mul (Nat.add (List.length p.2.2.2.2.2.2) 1) 40) 140737488355328) (L12 (p.1,p.2.1,p.2.2.1,p.2.2.2.1,p.2.2.2.2.1,(IntKind.i64.wrap (Int.add p.2.2.2.2.2.1 (Int.ofNat 1))),(List.append p.2.2.2.2.2.2 (List.cons (v1.1,(v1.2.1,(v1.2.2.1,v1.2.2.2))) [])))) none)) (L12 (p.1,p.2.1,p.2.2.1,p.2.2.2.1,p.2.2.2.2.1,(IntKind.i64.wrap (Int.add p.2.2.2.2.2.1 (Int.ofNat 1))),p.2.2.2.2.2.2)))) (match (cond (S.fits p.2.2.2.1) (some ((S.lines p.2.2.2.1),())) none) with|.none  => none|.some v27=>(L18 (p.2.2.2.2.1,p.2.2.1,p.2.1,v27.1,p.2.2.2.2.2.2,(Int.ofNat 0)))))
def qek (lf:Nat) (x1:(List qab)) (x2:ByteArray) (x3:qag) (L24:((List qab) × Int × Int × (List ByteArray) × Int × (List qab) × (List qab) × Int × Int × Int × Int × Int)->Option Rtz41) (L30:((List qab) × Int × Int × Int × Int)->Option Rtz41) (p:Int × Int × Int × (List ByteArray) × (List qab) × Int):Option Rtz41:=(cond (Bool.not (iltI (IntKind.i64.wrap (Int.add p.2.2.1 p.1)) p.2.1)) (match (jget p.2.2.2.1 (IntKind.i64.wrap (Int.sub p.2.1 (Int.ofNat 1)))) with|.none  => none|.some v0=>(match (GetElem?.getElem? p.2.2.2.1 (Int.toNat (IntKind.i64.wrap (Int.sub p.2.1 (Int.ofNat 1))))) with|.none  => none|.some v1=>(match (cond (S.fits v1) (some ((S.readG v1).1,((S.readG v1).2.1,((S.readG v1).2.2.1.1,((S.readG v1).2.2.1.2,((S.readG v1).2.2.2,())))))) none) with|.none  => none|.some v2=>(cond (Bool.not (ieqI v2.2.2.2.2.1 (Int.ofNat 0))) (some (([],((Int.ofNat 0),((p.2.1,v2.2.2.2.1),v2.2.2.2.2.1))),())) (L24 (p.2.2.2.2.1,p.2.1,p.1,p.2.2.2.1,p.2.2.1,v2.1,v2.2.1,v2.2.2.1,v2.2.2.2.1,v2.2.2.2.2.1,(Int.ofNat 0),p.2.2.2.2.2)))))) (L30 (p.2.2.2.2.1,p.1,p.2.2.1,p.2.2.2.2.2,(Int.ofNat 0))))
def qgv (lf:Nat) (x1:(List qab)) (x2:ByteArray) (x3:qag) (L24:((List qab) × Int × Int × (List ByteArray) × Int × (List qab) × (List qab) × Int × Int × Int × Int × Int)->Option Rtz41) (L18:(Int × Int × Int × (List ByteArray) × (List qab) × Int)->Option Rtz41) (p:(List qab) × Int × Int × (List ByteArray) × Int × (List qab) × (List qab) × Int × Int × Int × Int × Int):Option Rtz41:=(cond (iltI p.2.2.2.2.2.2.2.2.2.2.1 (Int.ofNat (List.length p.2.2.2.2.2.1))) (match (jget p.2.2.2.2.2.1 p.2.2.2.2.2.2.2.2.2.2.1) with|.none  => none|.some v0=>(match (GetElem?.getElem? p.2.2.2.2.2.1 (Int.toNat p.2.2.2.2.2.2.2.2.2.2.1)) with|.none  => none|.some v1=>(match (jget (List.set p.2.2.2.2.2.1 (Int.toNat p.2.2.2.2.2.2.2.2.2.2.1) (v1.1,(v1.2.1,(p.2.1,v1.2.2.2)))) p.2.2.2.2.2.2.2.2.2.2.1) with|.none  => none|.some v2=>(match (GetElem?.getElem? (List.set p.2.2.2.2.2.1 (Int.toNat p.2.2.2.2.2.2.2.2.2.2.1) (v1.1,(v1.2.1,(p.2.1,v1.2.2.2)))) (Int.toNat p.2.2.2.2.2.2.2.2.2.2.1)) with|.none  => none|.some v3=>(cond (Nat.ble (Nat.mul (Nat.add (List.length p.1) 1) 40) 140737488355328) (L24 ((List.append p.1 (List.cons (v3.1,(v3.2.1,(v3.2.2.1,v3.2.2.2))) [])),p.2.1,p.2.2.1,p.2.2.2.1,p.2.2.2.2.1,(List.set p.2.2.2.2.2.1 (Int.toNat p.2.2.2.2.2.2.2.2.2.2.1) (v1.1,(v1.2.1,(p.2.1,v1.2.2.2)))),p.2.2.2.2.2.2.1,p.2.2.2.2.2.2.2.1,p.2.2.2.2.2.2.2.2.1,p.2.2.2.2.2.2.2.2.2.1,(IntKind.i64.wrap (Int.add p.2.2.2.2.2.2.2.2.2.2.1 (Int.ofNat 1))),p.2.2.2.2.2.2.2.2.2.2.2)) none))))) (L18 (p.2.2.1,(IntKind.i64.wrap (Int.add p.2.1 (Int.ofNat 1))),p.2.2.2.2.1,p.2.2.2.1,p.1,(IntKind.i64.wrap (Int.add p.2.2.2.2.2.2.2.2.2.2.2 (Int.ofNat (List.length p.2.2.2.2.2.1)))))))
def qk1 (lf:Nat) (x1:(List qab)) (x2:ByteArray) (x3:qag) (L30:((List qab) × Int × Int × Int × Int)->Option Rtz41) (p:(List qab) × Int × Int × Int × Int):Option Rtz41:=(cond (iltI p.2.2.2.2 (Int.ofNat (List.length x1))) (match (jget x1 p.2.2.2.2) with|.none  => none|.some v0=>(cond (iltI p.2.2.1 v0.2.2.1) (match (jget x1 p.2.2.2.2) with|.none  => none|.some v1=>(cond (Nat.ble (Nat.mul (Nat.add (List.length p.1) 1) 40) 140737488355328) (L30 ((List.append p.1 (List.cons (v1.1,(v1.2.1,((IntKind.i64.wrap (Int.add v1.2.2.1 p.2.1)),v1.2.2.2))) [])),p.2.1,p.2.2.1,p.2.2.2.1,(IntKind.i64.wrap (Int.add p.2.2.2.2 (Int.ofNat 1))))) none)) (L30 (p.1,p.2.1,p.2.2.1,p.2.2.2.1,(IntKind.i64.wrap (Int.add p.2.2.2.2 (Int.ofNat 1))))))) (cond (iltI (Int.ofNat 6000) (Int.ofNat (List.length p.1))) (some (([],((Int.ofNat 0),(((Int.ofNat 0),(Int.ofNat 0)),(Int.ofNat 3)))),())) (some ((p.1,(p.2.2.2.1,(((Int.ofNat 0),(Int.ofNat 0)),(Int.ofNat 0)))),()))))
abbrev gz41:Type:=ElA [(.list cToken),.str,cChange]->Option Rtz41
abbrev sz41 (g:gz41):Sm:=⟨[(.list cToken),.str,cChange],[(false,qq2)],g⟩
abbrev Ez41 (g:gz41) (J:JT Rtz41) (lf:Nat) (x1:(List qab)) (x2:ByteArray) (x3:qag):=qao Tryz.prog ttT.get nmz41 fi9.nt (clz41 _ lf) lf stz41 J fi9.body [] (argGo (argV [(.list cToken),.str,cChange] (x1,x2,x3,())) 0 .leaf) S0 [] (lastK ttT.get fi9 (sz41 g))
abbrev Bz41 (g:gz41) (J:JT Rtz41) (lf k:Nat) (ms:List Nat) (q:NRes):=qaz Tryz.prog ttT.get nmz41 fi9.nt (clz41 _ lf) lf stz41 J k fi9.body [] ms q (lastK ttT.get fi9 (sz41 g))
theorem inz41 (g:gz41) (J:JT Rtz41) (lf:Nat) (x1:(List qab)) (x2:ByteArray) (x3:qag):Ez41 g J lf x1 x2 x3=qqp lf x1 x2 x3 (fun q=>J 12 [lf] (qej x1 x2 x3 q)):=by kernel_rfl
theorem q2a (g:gz41) (J:JT Rtz41) (lf:Nat) (x1:(List qab)) (x2:ByteArray) (x3:qag) (m1:Nat) (p:Int × Int × Int × ByteArray × Int × Int × (List qab)):Bz41 g J lf 12 [m1] (qej x1 x2 x3 p)=qjr lf x1 x2 x3 (fun q=>J 12 [m1] (qej x1 x2 x3 q)) (fun q=>J 18 [lf] (qck x1 x2 x3 q)) p:=by kernel_rfl
theorem qz4 (g:gz41) (J:JT Rtz41) (lf:Nat) (x1:(List qab)) (x2:ByteArray) (x3:qag) (m1:Nat) (p:Int × Int × Int × (List ByteArray) × (List qab) × Int):Bz41 g J lf 18 [m1] (qck x1 x2 x3 p)=qek lf x1 x2 x3 (fun q=>J 24 [m1,lf] (qer x1 x2 x3 q)) (fun q=>J 30 [lf] (qff x1 x2 x3 q)) p:=by kernel_rfl
theorem q3c (g:gz41) (J:JT Rtz41) (lf:Nat) (x1:(List qab)) (x2:ByteArray) (x3:qag) (m1:Nat) (m2:Nat) (p:(List qab) × Int × Int × (List ByteArray) × Int × (List qab) × (List qab) × Int × Int × Int × Int × Int):Bz41 g J lf 24 [m1,m2] (qer x1 x2 x3 p)=qgv lf x1 x2 x3 (fun q=>J 24 [m1,m2] (qer x1 x2 x3 q)) (fun q=>J 18 [m1] (qck x1 x2 x3 q)) p:=by kernel_rfl
theorem q3q (g:gz41) (J:JT Rtz41) (lf:Nat) (x1:(List qab)) (x2:ByteArray) (x3:qag) (m1:Nat) (p:(List qab) × Int × Int × Int × Int):Bz41 g J lf 30 [m1] (qff x1 x2 x3 p)=qk1 lf x1 x2 x3 (fun q=>J 30 [m1] (qff x1 x2 x3 q)) p:=by kernel_rfl
theorem ndz41:(regs fi9.body).Nodup:=by decide +kernel
theorem okz41:okC nmz41 stz41 hdz41 fi9.body none=true:=by kernel_rfl
def Az41 (g:gz41) (lf:Nat):JT Rtz41:=atN Tryz.prog ttT.get nmz41 fi9 (sz41 g) (clz41 _ lf) lf hdz41
def qd6 (lf:Nat) (x1:(List qab)) (x2:ByteArray) (x3:qag) (K18:(Int × Int × Int × (List ByteArray) × (List qab) × Int)->Option Rtz41):Nat->((List qab) × Int × Int × (List ByteArray) × Int × (List qab) × (List qab) × Int × Int × Int × Int × Int)->Option Rtz41:=rounds fun K p=>qgv lf x1 x2 x3 K K18 p
theorem qwf (g:gz41) (lf:Nat) (x1:(List qab)) (x2:ByteArray) (x3:qag) (m1:Nat):∀(n:Nat) (p:(List qab) × Int × Int × (List ByteArray) × Int × (List qab) × (List qab) × Int × Int × Int × Int × Int),Az41 g lf 24 [m1,n] (qer x1 x2 x3 p)=qd6 lf x1 x2 x3 (fun q=>Az41 g lf 18 [m1] (qck x1 x2 x3 q)) n p
 | 0,p=>qa2 24 [m1,0] rfl _
 | n+1,p=>by
   have ih:=qwf g lf x1 x2 x3 m1 n
   refine(qav (qam 20 _) ndz41 okz41 24 [m1,n+1] [m1,n] rfl _).trans ((q3c g (Az41 g lf) lf x1 x2 x3 m1 n p).trans ?_)
   rw[(show (fun q=>Az41 g lf 24 [m1,n] (qer x1 x2 x3 q))=(fun q=>qd6 lf x1 x2 x3 (fun q=>Az41 g lf 18 [m1] (qck x1 x2 x3 q)) n q) from funext ih)]
   rfl
def qdc (lf:Nat) (x1:(List qab)) (x2:ByteArray) (x3:qag):Nat->((List qab) × Int × Int × Int × Int)->Option Rtz41:=rounds fun K p=>qk1 lf x1 x2 x3 K p
theorem qud (g:gz41) (lf:Nat) (x1:(List qab)) (x2:ByteArray) (x3:qag):∀(n:Nat) (p:(List qab) × Int × Int × Int × Int),Az41 g lf 30 [n] (qff x1 x2 x3 p)=qdc lf x1 x2 x3 n p
 | 0,p=>qa2 30 [0] rfl _
 | n+1,p=>by
   have ih:=qud g lf x1 x2 x3 n
   refine(qav (qam 20 _) ndz41 okz41 30 [n+1] [n] rfl _).trans ((q3q g (Az41 g lf) lf x1 x2 x3 n p).trans ?_)
   rw[(show (fun q=>Az41 g lf 30 [n] (qff x1 x2 x3 q))=(fun q=>qdc lf x1 x2 x3 n q) from funext ih)]
   rfl
def qcx (lf:Nat) (x1:(List qab)) (x2:ByteArray) (x3:qag):Nat->(Int × Int × Int × (List ByteArray) × (List qab) × Int)->Option Rtz41:=rounds fun K p=>qek lf x1 x2 x3 (fun q=>qd6 lf x1 x2 x3 K lf q) (fun q=>qdc lf x1 x2 x3 lf q) p
theorem qtf (g:gz41) (lf:Nat) (x1:(List qab)) (x2:ByteArray) (x3:qag):∀(n:Nat) (p:Int × Int × Int × (List ByteArray) × (List qab) × Int),Az41 g lf 18 [n] (qck x1 x2 x3 p)=qcx lf x1 x2 x3 n p
 | 0,p=>qa2 18 [0] rfl _
 | n+1,p=>by
   have ih:=qtf g lf x1 x2 x3 n
   refine(qav (qam 20 _) ndz41 okz41 18 [n+1] [n] rfl _).trans ((qz4 g (Az41 g lf) lf x1 x2 x3 n p).trans ?_)
   rw[(show (fun q=>Az41 g lf 24 [n,lf] (qer x1 x2 x3 q))=(fun q=>qd6 lf x1 x2 x3 (fun q=>Az41 g lf 18 [n] (qck x1 x2 x3 q)) lf q) from funext fun q=>qwf g lf x1 x2 x3 n lf q),(show (fun q=>Az41 g lf 30 [lf] (qff x1 x2 x3 q))=(fun q=>qdc lf x1 x2 x3 lf q) from funext fun q=>qud g lf x1 x2 x3 lf q),(show (fun q=>Az41 g lf 18 [n] (qck x1 x2 x3 q))=(fun q=>qcx lf x1 x2 x3 n q) from funext ih)]
   rfl
def qex (lf:Nat) (x1:(List qab)) (x2:ByteArray) (x3:qag):Nat->(Int × Int × Int × ByteArray × Int × Int × (List qab))->Option Rtz41:=rounds fun K p=>qjr lf x1 x2 x3 K (fun q=>qcx lf x1 x2 x3 lf q) p
theorem qrt (g:gz41) (lf:Nat) (x1:(List qab)) (x2:ByteArray) (x3:qag):∀(n:Nat) (p:Int × Int × Int × ByteArray × Int × Int × (List qab)),Az41 g lf 12 [n] (qej x1 x2 x3 p)=qex lf x1 x2 x3 n p
 | 0,p=>qa2 12 [0] rfl _
 | n+1,p=>by
   have ih:=qrt g lf x1 x2 x3 n
   refine(qav (qam 20 _) ndz41 okz41 12 [n+1] [n] rfl _).trans ((q2a g (Az41 g lf) lf x1 x2 x3 n p).trans ?_)
   rw[(show (fun q=>Az41 g lf 18 [lf] (qck x1 x2 x3 q))=(fun q=>qcx lf x1 x2 x3 lf q) from funext fun q=>qtf g lf x1 x2 x3 lf q),(show (fun q=>Az41 g lf 12 [n] (qej x1 x2 x3 q))=(fun q=>qex lf x1 x2 x3 n q) from funext ih)]
   rfl
def Fz41 (lf:Nat) (x1:(List qab)) (x2:ByteArray) (x3:qag):Option Rtz41:=qqp lf x1 x2 x3 (fun q=>qex lf x1 x2 x3 lf q)
theorem runz41 (g:gz41) (lf:Nat) (x1:(List qab)) (x2:ByteArray) (x3:qag):Ez41 g (Az41 g lf) lf x1 x2 x3=Fz41 lf x1 x2 x3:=by
   refine(inz41 g (Az41 g lf) lf x1 x2 x3).trans ?_
   rw[(show (fun q=>Az41 g lf 12 [lf] (qej x1 x2 x3 q))=(fun q=>qex lf x1 x2 x3 lf q) from funext fun q=>qrt g lf x1 x2 x3 lf q)]
   rfl
theorem hxsz41:HxsOK Tryz.prog qn0:=⟨hxA_ok (by decide) conz39,trivial⟩
theorem mkz41 {g:gz41} (hsm:SmOK Tryz.prog qpa) (hg:∀(x:ElA [(.list cToken),.str,cChange]) (y:Rtz41),WfA [(.list cToken),.str,cChange] x->g x=some y->∃lf,Fz41 lf x.1 x.2.1 x.2.2.1=some y):Con Tryz.prog 9 ⟨[(.list cToken),.str,cChange],[(false,qq2)],g⟩ :=
 conT (nmf:=nmz41) (sml:=qpa) (hxl:=qn0) (st:=stz41) (hd:=hdz41) 20 mixed ttOK ftOK hsm hxsz41 cal9 rfl rfl (by kernel_rfl) (fun x=>by kernel_rfl) ndz41 okz41 fun x y hx hy=>by
   obtain⟨lf,h⟩:=hg x y hx hy
   exact⟨lf,(runz41 g lf x.1 x.2.1 x.2.2.1).trans h⟩





namespace S
end S
def smSan:List (Nat × Sm):=[(27,qij),(54,qkx),(128,qip),(73,spz16)]
def hxSan:List (Nat × Hx):=[(83,ccHx),(57,bsHx)]
theorem q58:qah Tryz.prog ttT.get ftT.get (fun _ _=>none) (smL smSan) (hxL hxSan) 1000 100 _ (.fn 7) [] S0 (runR qm0)=some (true,()):=by kernel_rfl
theorem q4h:Con Tryz.prog 7 qm0 :=
 conK (nm:=fun _ _=>none) (sm:=smL smSan) (hx:=hxL hxSan) mixed ttOK ftOK (qby ⟨qve,qlq,qs9,qv0,trivial⟩) (qb4 ⟨ccHx_ok,bsHx_ok,trivial⟩) cal7 fun x y hx h=>⟨100,1000,q58.trans h⟩

theorem q1g {s:ByteArray} (h:∀b∈qaa s,¬b=10):S.readG s=match (S.line (qaa s)).2 with
   | some (c,e)=>([],[],(1,Int.ofNat c),e)
   | none=>((S.at_ 1 (S.line (qaa s)).1).filter S.isTok,(S.at_ 1 (S.line (qaa s)).1).filter S.isNote,(0,0),0):=by
 unfold S.readG
 rw[qmh h]
 have e:S.readL [qaa s] 1=(match (S.line (qaa s)).2 with
   | some (c,e)=>([],(1,Int.ofNat c),e)
   | none=>(S.at_ 1 (S.line (qaa s)).1++[],(0,0),0)):=qcy (qaa s) [] 1
 rw[e]
 cases hl:(S.line (qaa s)).2 with
 | some x =>
   obtain⟨c,e⟩:=x
   have he:¬e=0:=qcg _ _ _ _ hl
   simp only[S.lexed]
   rw[if_neg he]
 | none =>
   simp only[S.lexed,List.append_nil]
   rw[if_pos trivial]
theorem im0 (i:Nat):imax (Int.ofNat 0) (Int.ofNat i)=Int.ofNat i:=by
 rw[qnn]
 cases i with
 | zero=>rfl
 | succ i=>rw[if_pos (show Int.ofNat (i+1) > Int.ofNat 0 by show (0:Int)<((i+1:Nat):Int);omega)]
theorem wsub1 (i:Nat) (h:i<9223372036854775808):IntKind.i64.wrap (Int.sub (Int.ofNat (i+1)) (Int.ofNat 1))=Int.ofNat i:=by
 rw[show Int.sub (Int.ofNat (i+1)) (Int.ofNat 1)=Int.ofNat i by show ((i+1:Nat):Int)-1=(i:Int);omega]
 exact qa3 (n:=i) (by omega)
theorem tnat (i:Nat):(Int.ofNat i).toNat=i:=rfl
theorem prev_of {l:List qab} {i:Nat} (h:i<l.length) (hl:l.length<LF):∃p,l[i]?=some p/\jget l (imax (Int.ofNat 0) (IntKind.i64.wrap (Int.sub (Int.ofNat (i+1)) (Int.ofNat 1))))=some p:=by
 have hp:l[i]?=some l[i]:=List.getElem?_eq_getElem h
 refine⟨_,hp,?_⟩
 unfold LF at hl
 rw[wsub1 i (by omega),im0]
 exact qbb.trans hp
theorem Fz40_eq (l:List qab) (s:ByteArray) (hs:S.fits s=true) (hl:l.length<LF):Fz40 LF l s=some (S.ordered s l,()):=by
 have key:qg5 LF l s LF (Int.ofNat 0)=some (S.orderedGo s (pvAt l 0) l,()):=by
   refine range0 (σ:=Unit) (R:=Rtz40) l (fun i _=>i) (fun i _=>∀p,pvAt l i=some p->(S.offset s p).2=0) (fun rest i _=>some (S.orderedGo s (pvAt l i) rest,())) hl (fun K q hq=>?_) (fun K i v rest q hq r h=>?_) () (fun p hp=>by cases hp)
   · simp only[qlg,qa1,cond_false]
     rfl
   · have hi:=r.lt
     have hpn:pvAt l (i+1)=some v.2.2:=by show (l[i]?).map _=_;rw[r.get?];rfl
     rw[qs2]
     rw[hpn] at h
     simp only[qlg,r.ilt,r.get,r.next,cond_true,hs]
     show cond (!ieqI (S.offset s v.2.2).2 (Int.ofNat 0)) _ _=_
     by_cases c1:(S.offset s v.2.2).2=0
     · rw[ieq_t (show _=Int.ofNat 0 from c1),Bool.not_true,cond_false,decide_eq_true c1,Bool.true_and]
       have h:=h () (fun p hp=>by cases hp;exact c1)
       cases i with
       | zero =>
         rw[show iltI (Int.ofNat 0) (Int.ofNat 0)=false from rfl,cond_false]
         exact h
       | succ i =>
         obtain⟨p,hp,hj⟩:=prev_of (l:=l) (i:=i) (by omega) hl
         have hpv:pvAt l (i+1)=some p.2.2:=by show (l[i]?).map _=_;rw[hp];rfl
         have hp0:=hq p.2.2 hpv
         rw[hpv]
         simp only
         rw[ilt_t (show Int.ofNat 0<Int.ofNat (i+1) by show (0:Int)<((i+1:Nat):Int);omega),cond_true,hj]
         simp only
         rw[q56 hp0 c1]
         show cond (!iltI (S.offset s p.2.2).1 (S.offset s v.2.2).1) _ _=_
         by_cases c2:(S.offset s p.2.2).1<(S.offset s v.2.2).1
         · rw[ilt_t c2,decide_eq_true c2,Bool.true_and]
           exact h
         · rw[ilt_f c2,decide_eq_false c2]
           rfl
     · rw[ieq_f (show ¬_=Int.ofNat 0 from c1),Bool.not_false,cond_true,decide_eq_false c1]
       rfl
 exact key
theorem conz40:Con Tryz.prog idz40 spz40:=mkz40 ⟨conz25,trivial⟩ fun x y hx h=>⟨LF,by
 obtain⟨h1,h2⟩:=qa5 (show cond (S.fits x.2.1) (some (S.ordered x.2.1 x.1,())) none=some y from h)
 exact(Fz40_eq x.1 x.2.1 h1 (qs0 hx.1.1)).trans (congrArg some h2)⟩
theorem q30 (l:List qab) (s:ByteArray) (c:qag) (acc:List qab) (by_ to_ N fr:Int) (hl:l.length<=1000000) (ha:acc.length<=900000000) (hb:-1000001<=by_/\by_<=1000001) (ht:∀t∈l,1<=t.2.2.1/\t.2.2.1<=1000001) (hf:fr<=to_) :
   qdc LF l s c LF (acc,by_,to_,N,Int.ofNat 0)=some (if 6000<(acc++S.behindL l fr to_ by_).length then ([],0,(0,0),3) else (acc++S.behindL l fr to_ by_,N,(0,0),0),()):=by
 refine range0 (σ:=List qab) (R:=Rtz41) l (fun i q=>(q,by_,to_,N,i)) (fun i q=>q.length<=900000000+i) (fun rest i q=>some (if 6000<(q++S.behindL rest fr to_ by_).length then ([],0,(0,0),3) else (q++S.behindL rest fr to_ by_,N,(0,0),0),())) (by unfold LF;omega) (fun K q hq=>?_) (fun K i v rest q hq r h=>?_) acc (by omega)
 · simp only[qk1,qa1,cond_false,qbl]
   have e:q++S.behindL [] fr to_ by_=q:=List.append_nil q
   rw[e]
   by_cases c6:6000<q.length
   · rw[decide_eq_true c6,cond_true,if_pos c6];rfl
   · rw[decide_eq_false c6,cond_false,if_neg c6];rfl
 · have hi:=r.lt
   obtain⟨t1,t2⟩:=ht v r.mem
   have r1:Nat.ble (Nat.mul (Nat.add q.length 1) 40) 140737488355328=true:=Nat.ble_eq_true_of_le (by show (q.length+1)*40<=_;omega)
   have w2:IntKind.i64.wrap (Int.add v.2.2.1 by_)=v.2.2.1+by_:=qcj (by omega)
   simp only[qk1,r.ilt,r.get,r.next,cond_true,r1,w2]
   by_cases c2:to_<v.2.2.1
   · rw[ilt_t c2,cond_true]
     refine(h (q++[(v.1,v.2.1,v.2.2.1+by_,v.2.2.2)]) (by simp only[List.length_append,List.length_cons,List.length_nil];omega)).trans ?_
     have eb:S.behindL (v::rest) fr to_ by_=(v.1,v.2.1,v.2.2.1+by_,v.2.2.2)::S.behindL rest fr to_ by_:=by unfold S.behindL;rw[List.filter_cons,decide_eq_false (show ¬v.2.2.1<fr by omega),decide_eq_true c2];rfl
     rw[eb]
     simp only[List.append_assoc,List.cons_append,List.nil_append]
   · rw[ilt_f c2,cond_false]
     refine(h q (by omega)).trans ?_
     have eb:S.behindL (v::rest) fr to_ by_=S.behindL rest fr to_ by_:=by
       unfold S.behindL
       rw[List.filter_cons,decide_eq_false c2,Bool.and_false];rfl
     rw[eb]
def atK (k:Int) (L:List qab):List qab:=L.map fun t=>(t.1,t.2.1,k,t.2.2.2)
theorem q24 (l:List qab) (s:ByteArray) (c:qag) (K18:_->Option Rtz41) (k by_ to_ N a1 a2 e:Int) (ls:List ByteArray) (notes:List qab) (L0:List qab) (hL:L0.length<LF) :
   ∀(n i:Nat) (L acc:List qab),L.length=L0.length->L.drop i=L0.drop i->acc.length+(L0.length-i)<=1000000000->L0.length-i<n->i<=L0.length ->
   qd6 LF l s c K18 n (acc,k,by_,ls,to_,L,notes,a1,a2,e,Int.ofNat i,N)=K18 (by_,IntKind.i64.wrap (Int.add k (Int.ofNat 1)),to_,ls,acc++atK k (L0.drop i),IntKind.i64.wrap (Int.add N (Int.ofNat L0.length)))
 | 0,i,L,acc,_,_,_,h,_=>by omega
 | n+1,i,L,acc,h1,h2,h3,h4,h5=>by
   show qgv LF l s c (qd6 LF l s c K18 n) K18 _=_
   by_cases he:i=L0.length
   · subst he
     rw[List.drop_length]
     simp only[qgv]
     rw[h1,qa1,cond_false]
     show K18 _=K18 (_,_,_,_,acc++[],_)
     rw[List.append_nil]
   · have hlt:i<L.length:=by omega
     have hlt0:i<L0.length:=by omega
     have hg:L[i]?=some L[i]:=List.getElem?_eq_getElem hlt
     have hs0:∀x:qab,(L.set i x)[i]?=some x:=fun x=>List.getElem?_set_self hlt
     have r1:Nat.ble (Nat.mul (Nat.add acc.length 1) 40) 140737488355328=true:=Nat.ble_eq_true_of_le (by show (acc.length+1)*40<=_;omega)
     have hw:IntKind.i64.wrap (Int.add (Int.ofNat i) (Int.ofNat 1))=Int.ofNat (i+1):=qhw (by omega)
     have hjs:∀x:qab,jget (L.set i x) (Int.ofNat i)=some x:=fun x=>qbb.trans (hs0 x)
     have hv:L[i]=L0[i]:=by
       have:=congrArg (fun x:List qab=>x[0]?) h2
       simp only[List.getElem?_drop,Nat.add_zero] at this
       rw[hg,List.getElem?_eq_getElem hlt0] at this
       exact Option.some.inj this
     have hd0:L0.drop i=L0[i]::L0.drop (i+1):=List.drop_eq_getElem_cons hlt0
     have hd1:∀x,(L.set i x).drop (i+1)=L0.drop (i+1):=fun x=>by
       have a:L.drop (i+1)=L0.drop (i+1):=by
         have:=congrArg (List.drop 1) h2
         rwa [List.drop_drop,List.drop_drop] at this
       rw[List.drop_set_of_lt (by omega),a]
     simp only[qgv]
     rw[ilt_t (show Int.ofNat i<Int.ofNat L.length by show (i:Int)<(L.length:Int);omega),cond_true,qbb,hg]
     simp only[tnat,hg,hjs,hs0,r1,cond_true,hw]
     refine(q24 l s c K18 k by_ to_ N a1 a2 e ls notes L0 hL n (i+1) _ _ (by rw[List.length_set];exact h1) (hd1 _) (by simp only[List.length_append,List.append_eq,List.length_cons,List.length_nil];omega) (by omega) (by omega)).trans ?_
     rw[hd0]
     show K18 (_,_,_,_,(acc++[_])++atK k _,_)=K18 (_,_,_,_,acc++_::atK k _,_)
     rw[List.append_assoc,hv]
     rfl
theorem qtj (k:Int) (l:List (Int × ByteArray × Nat)):atK k ((S.at_ 1 l).filter S.isTok)=(S.at_ k l).filter S.isTok:=by
 induction l with
 | nil=>rfl
 | cons x l ih =>
   show atK k (((x.1,x.2.1,1,Int.ofNat x.2.2)::S.at_ 1 l).filter S.isTok)=((x.1,x.2.1,k,Int.ofNat x.2.2)::S.at_ k l).filter S.isTok
   have e:S.isTok (x.1,x.2.1,1,Int.ofNat x.2.2)=S.isTok (x.1,x.2.1,k,Int.ofNat x.2.2):=rfl
   rw[List.filter_cons,List.filter_cons,e]
   cases S.isTok (x.1,x.2.1,k,Int.ofNat x.2.2) with
   | true=>exact congrArg _ ih
   | false=>exact ih
def thenR (r:List qab × qai × Int) (f:List qab->Option Rtz41):Option Rtz41:=if r.2.2=0 then f (r.1.filter S.isTok) else some (([],0,r.2.1,r.2.2),())
theorem q18 (l:List qab) (s:ByteArray) (c:qag) (by_ to_ en:Int) (ls:List ByteArray) (hen:IntKind.i64.wrap (Int.add to_ by_)=en) (h20:∀t∈ls,t.size<=20000/\∀b∈qaa t,¬b=10) (hle:en<=Int.ofNat ls.length) (h2:ls.length<=20001) :
   ∀(n j:Nat) (k:Int) (acc:List qab) (N:Int),k=Int.ofNat j+1->en=k+Int.ofNat n-1->0<=N->N<=Int.ofNat acc.length->acc.length+n*20000<=900000000->∀m,n<m ->
   qcx LF l s c m (by_,k,to_,ls,acc,N)=thenR (S.readL (((ls.drop j).take n).map qaa) k) fun L=>qdc LF l s c LF (acc++L,by_,to_,N+Int.ofNat L.length,Int.ofNat 0)
 | 0,j,k,acc,N,hk,he,h0,hN,ha,m+1,hm=>by
   show qek LF l s c _ _ _=_
   simp only[qek,hen]
   rw[ilt_t (show en<k by rw[he];show k+0-1<k;omega)]
   show qdc LF l s c LF (acc,by_,to_,N,Int.ofNat 0)=qdc LF l s c LF (acc++[],by_,to_,N+Int.ofNat 0,Int.ofNat 0)
   rw[List.append_nil,show N+Int.ofNat 0=N from Int.add_zero N]
 | n+1,j,k,acc,N,hk,he,h0,hN,ha,m+1,hm=>by
   show qek LF l s c (fun q=>qd6 LF l s c (qcx LF l s c m) LF q) _ _=_
   have hjl:j<ls.length:=by
     have:en<=((ls.length:Nat):Int):=hle
     have h1:k=(j:Int)+1:=hk
     have h2:en=k+((n+1:Nat):Int)-1:=he
     omega
   have hg:ls[j]?=some ls[j]:=List.getElem?_eq_getElem hjl
   obtain⟨hz,h10⟩:=h20 ls[j] (List.getElem_mem hjl)
   have wk:IntKind.i64.wrap (Int.sub k (Int.ofNat 1))=Int.ofNat j:=by
     rw[hk,show Int.sub (Int.ofNat j+1) (Int.ofNat 1)=Int.ofNat j by show (j:Int)+1-1=(j:Int);omega]
     exact qa3 (n:=j) (by omega)
   have hf:S.fits ls[j]=true:=Nat.ble_eq_true_of_le (by omega)
   have hd:(ls.drop j).take (n+1)=ls[j]::(ls.drop (j+1)).take n:=by
     rw[List.drop_eq_getElem_cons hjl,List.take_succ_cons]
   simp only[qek,hen,wk,qbb,hg,tnat,hf,cond_true]
   rw[ilt_f (show ¬en<k by rw[he];show ¬k+((n+1:Nat):Int)-1<k;omega),Bool.not_false,cond_true,hd,List.map_cons,qcy,q1g h10]
   have hline:S.line (qaa ls[j])=S.pcs ((qaa ls[j]).length+1) (qaa ls[j]) 1:=rfl
   rw[<- hline]
   cases hl:(S.line (qaa ls[j])).2 with
   | some x =>
     obtain⟨cc,e⟩:=x
     have he0:¬e=0:=qcg _ _ _ _ hl
     simp only
     rw[ieq_f (show ¬e=Int.ofNat 0 from he0),Bool.not_false,cond_true]
     unfold thenR
     rw[if_neg he0]
     rfl
   | none =>
     simp only
     rw[show ieqI (0:Int) (Int.ofNat 0)=true from rfl,Bool.not_true,cond_false]
     have hpl:(S.line (qaa ls[j])).1.length<=20000:=by
       have:=qil ((qaa ls[j]).length+1) (qaa ls[j]) 1
       rw[qae] at this
       rw[hline,qae]
       omega
     have hLl:((S.at_ 1 (S.line (qaa ls[j])).1).filter S.isTok).length<=20000:=by
       refine Nat.le_trans (List.length_filter_le _ _) ?_
       unfold S.at_
       rw[List.length_map]
       exact hpl
     have hacc:acc.length+((n+1)*20000)<=900000000:=ha
     rw[q24 l s c _ k by_ to_ N _ _ _ ls _ _ (by unfold LF;omega) LF 0 _ acc rfl rfl (by omega) (by unfold LF;omega) (Nat.zero_le _),List.drop_zero,qtj]
     have wk1:IntKind.i64.wrap (Int.add k (Int.ofNat 1))=k+1:=qcj (by rw[hk];show -9223372036854775808<=(j:Int)+1+1/\(j:Int)+1+1<9223372036854775808;omega)
     have hln:((S.at_ 1 (S.line (qaa ls[j])).1).filter S.isTok).length=((S.at_ k (S.line (qaa ls[j])).1).filter S.isTok).length:=by
       rw[<- qtj k];unfold atK;rw[List.length_map]
     rw[hln] at hLl ⊢
     have wN:IntKind.i64.wrap (Int.add N (Int.ofNat ((S.at_ k (S.line (qaa ls[j])).1).filter S.isTok).length))=N+Int.ofNat ((S.at_ k (S.line (qaa ls[j])).1).filter S.isTok).length:=qcj (by
       have:N<=((acc.length:Nat):Int):=hN
       show -9223372036854775808<=N+((_:Nat):Int)/\N+((_:Nat):Int)<9223372036854775808
       omega)
     rw[wk1,wN]
     refine(q18 l s c by_ to_ en ls hen h20 hle h2 n (j+1) (k+1) _ _ (by rw[hk];show (j:Int)+1+1=((j+1:Nat):Int)+1;omega) (by rw[he];show k+((n+1:Nat):Int)-1=k+1+(n:Int)-1;omega) (by show 0<=N+((_:Nat):Int);omega) (by
       rw[List.length_append]
       have:N<=((acc.length:Nat):Int):=hN
       show N+((_:Nat):Int)<=((_:Nat):Int)
       omega) (by rw[List.length_append];omega) m (by omega)).trans ?_
     generalize S.readL (((ls.drop (j+1)).take n).map qaa) (k+1)=z
     unfold thenR
     by_cases hz0:z.2.2=0
     · rw[if_pos hz0,if_pos hz0]
       rw[if_pos (show (0:Int)=0 from rfl)]
       simp only[List.filter_append,List.append_assoc,List.length_append]
       rw[show N+Int.ofNat (List.filter S.isTok (S.at_ k (S.line (qaa ls[j])).1)).length+Int.ofNat (List.filter S.isTok z.1).length=N+Int.ofNat ((List.filter S.isTok (S.at_ k (S.line (qaa ls[j])).1)).length+(List.filter S.isTok z.1).length) by
         show N+((_:Nat):Int)+((_:Nat):Int)=N+((_+_:Nat):Int);omega]
     · rw[if_neg hz0,if_neg hz0,if_neg hz0]
def nmz42:Nat->Option Nm:=fun k=>none
def stz42:Nat->Bool:=fun k=>false
def hdz42:=stz42
abbrev Rtz42:Type:=Bool × Unit
def qrc:List (Nat × Sm):=[(8,spz38),(9,spz41),(10,spz30),(11,spz33),(7,qm0)]
def ql6:List (Nat × Hx):=[]
def clz42 (R:Type) (lf:Nat):ClK R:=qah Tryz.prog ttT.get ftT.get (nm1 3 nmz42) (smL qrc) (hxL ql6) lf 20 R
abbrev idz42:Nat:=3
def qpq (lf:Nat) (x1:ByteArray) (x2:(List qab)) (x3:qag):Option Rtz42:=(cond (Bool.not (iltI (Int.ofNat 400) (Int.ofNat (ByteArray.size x1)))) (cond (iltI (Int.ofNat 60) (Int.ofNat (List.length x2))) (some (Bool.true,())) (cond (iltI (Int.ofNat 400) (Int.ofNat (ByteArray.size x3.2.2))) (some (Bool.true,())) (match (cond (Bool.and (S.fits x1) (Bool.and (S.fits x3.2.2) (Nat.ble (List.length x2) 1000000))) (some ((S.patch x2 x1 (x3.1,(x3.2.1,x3.2.2))).1,((S.patch x2 x1 (x3.1,(x3.2.1,x3.2.2))).2.1,((S.patch x2 x1 (x3.1,(x3.2.1,x3.2.2))).2.2.1,((S.patch x2 x1 (x3.1,(x3.2.1,x3.2.2))).2.2.2,()))))) none) with|.none  => none|.some v0=>(match (cond (Bool.and (S.fits x1) (Bool.and (S.fits x3.2.2) (Nat.ble (List.length x2) 1000000))) (some ((S.patch x2 x1 (x3.1,(x3.2.1,x3.2.2))),())) none) with|.none  => none|.some v1=>(match (cond (S.fits x1) (some ((S.tokens x1),())) none) with|.none  => none|.some v2=>(match (cond (Bool.and (S.fits x1) (Bool.and (S.fits x3.2.2) (Nat.ble (List.length v2.1.1) 1000000))) (some ((S.patch v2.1.1 x1 (x3.1,(x3.2.1,x3.2.2))).1,((S.patch v2.1.1 x1 (x3.1,(x3.2.1,x3.2.2))).2.1,((S.patch v2.1.1 x1 (x3.1,(x3.2.1,x3.2.2))).2.2.1,((S.patch v2.1.1 x1 (x3.1,(x3.2.1,x3.2.2))).2.2.2,()))))) none) with|.none  => none|.some v3=>(match (cond (Bool.and (S.fits x1) (Bool.and (S.fits x3.2.2) (Nat.ble (List.length v2.1.1) 1000000))) (some ((S.patch v2.1.1 x1 (x3.1,(x3.2.1,x3.2.2))),())) none) with|.none  => none|.some v4=>(cond (S.sameT v0.1 v1.1.1) (cond (ieqI v0.2.1 v1.1.2.1) (cond (Bool.and (keqI v0.2.2.1.1 v1.1.2.2.1.1) (Bool.and (keqI v0.2.2.1.2 v1.1.2.2.1.2) Bool.true)) (cond (ieqI v0.2.2.2.1 v1.1.2.2.2) (cond (S.sameT v3.1 v4.1.1) (cond (ieqI v3.2.1 v4.1.2.1) (cond (Bool.and (keqI v3.2.2.1.1 v4.1.2.2.1.1) (Bool.and (keqI v3.2.2.1.2 v4.1.2.2.1.2) Bool.true)) (some ((ieqI v3.2.2.2.1 v4.1.2.2.2),())) (some (Bool.false,()))) (some (Bool.false,()))) (some (Bool.false,()))) (some (Bool.false,()))) (some (Bool.false,()))) (some (Bool.false,()))) (some (Bool.false,())))))))))) (cond (iltI (Int.ofNat 20000) (Int.ofNat (ByteArray.size x1))) (cond (Bool.not (Bool.not (iltI (Int.ofNat 20100) (Int.ofNat (ByteArray.size x1))))) (some (Bool.true,())) (cond (iltI (Int.ofNat 60) (Int.ofNat (List.length x2))) (some (Bool.true,())) (cond (iltI (Int.ofNat 400) (Int.ofNat (ByteArray.size x3.2.2))) (some (Bool.true,())) (match (cond (Bool.and (S.fits x1) (Bool.and (S.fits x3.2.2) (Nat.ble (List.length x2) 1000000))) (some ((S.patch x2 x1 (x3.1,(x3.2.1,x3.2.2))).1,((S.patch x2 x1 (x3.1,(x3.2.1,x3.2.2))).2.1,((S.patch x2 x1 (x3.1,(x3.2.1,x3.2.2))).2.2.1,((S.patch x2 x1 (x3.1,(x3.2.1,x3.2.2))).2.2.2,()))))) none) with|.none  => none|.some v5=>(match (cond (Bool.and (S.fits x1) (Bool.and (S.fits x3.2.2) (Nat.ble (List.length x2) 1000000))) (some ((S.patch x2 x1 (x3.1,(x3.2.1,x3.2.2))),())) none) with|.none  => none|.some v6=>(match (cond (S.fits x1) (some ((S.tokens x1),())) none) with|.none  => none|.some v7=>(match (cond (Bool.and (S.fits x1) (Bool.and (S.fits x3.2.2) (Nat.ble (List.length v7.1.1) 1000000))) (some ((S.patch v7.1.1 x1 (x3.1,(x3.2.1,x3.2.2))).1,((S.patch v7.1.1 x1 (x3.1,(x3.2.1,x3.2.2))).2.1,((S.patch v7.1.1 x1 (x3.1,(x3.2.1,x3.2.2))).2.2.1,((S.patch v7.1.1 x1 (x3.1,(x3.2.1,x3.2.2))).2.2.2,()))))) none) with|.none  => none|.some v8=>(match (cond (Bool.and (S.fits x1) (Bool.and (S.fits x3.2.2) (Nat.ble (List.length v7.1.1) 1000000))) (some ((S.patch v7.1.1 x1 (x3.1,(x3.2.1,x3.2.2))),())) none) with|.none  => none|.some v9=>(cond (S.sameT v5.1 v6.1.1) (cond (ieqI v5.2.1 v6.1.2.1) (cond (Bool.and (keqI v5.2.2.1.1 v6.1.2.2.1.1) (Bool.and (keqI v5.2.2.1.2 v6.1.2.2.1.2) Bool.true)) (cond (ieqI v5.2.2.2.1 v6.1.2.2.2) (cond (S.sameT v8.1 v9.1.1) (cond (ieqI v8.2.1 v9.1.2.1) (cond (Bool.and (keqI v8.2.2.1.1 v9.1.2.2.1.1) (Bool.and (keqI v8.2.2.1.2 v9.1.2.2.1.2) Bool.true)) (some ((ieqI v8.2.2.2.1 v9.1.2.2.2),())) (some (Bool.false,()))) (some (Bool.false,()))) (some (Bool.false,()))) (some (Bool.false,()))) (some (Bool.false,()))) (some (Bool.false,()))) (some (Bool.false,()))))))))))) (some (Bool.true,()))))
abbrev gz42:Type:=ElA [.str,(.list cToken),cChange]->Option Rtz42
abbrev sz42 (g:gz42):Sm:=⟨[.str,(.list cToken),cChange],[(false,.bool)],g⟩
abbrev Ez42 (g:gz42) (J:JT Rtz42) (lf:Nat) (x1:ByteArray) (x2:(List qab)) (x3:qag):=qao Tryz.prog ttT.get nmz42 fi3.nt (clz42 _ lf) lf stz42 J fi3.body [] (argGo (argV [.str,(.list cToken),cChange] (x1,x2,x3,())) 0 .leaf) S0 [] (lastK ttT.get fi3 (sz42 g))
theorem inz42 (g:gz42) (J:JT Rtz42) (lf:Nat) (x1:ByteArray) (x2:(List qab)) (x3:qag):Ez42 g J lf x1 x2 x3=qpq lf x1 x2 x3:=by kernel_rfl
theorem ndz42:(regs fi3.body).Nodup:=by decide +kernel
theorem okz42:okC nmz42 stz42 hdz42 fi3.body none=true:=by kernel_rfl
def Az42 (g:gz42) (lf:Nat):JT Rtz42:=atN Tryz.prog ttT.get nmz42 fi3 (sz42 g) (clz42 _ lf) lf hdz42
def Fz42 (lf:Nat) (x1:ByteArray) (x2:(List qab)) (x3:qag):Option Rtz42:=qpq lf x1 x2 x3
theorem runz42 (g:gz42) (lf:Nat) (x1:ByteArray) (x2:(List qab)) (x3:qag):Ez42 g (Az42 g lf) lf x1 x2 x3=Fz42 lf x1 x2 x3:=by
   refine(inz42 g (Az42 g lf) lf x1 x2 x3).trans ?_
   rfl
theorem hxsz42:HxsOK Tryz.prog ql6:=trivial
theorem mkz42 {g:gz42} (hsm:SmOK Tryz.prog qrc) (hg:∀(x:ElA [.str,(.list cToken),cChange]) (y:Rtz42),WfA [.str,(.list cToken),cChange] x->g x=some y->∃lf,Fz42 lf x.1 x.2.1 x.2.2.1=some y):Con Tryz.prog 3 ⟨[.str,(.list cToken),cChange],[(false,.bool)],g⟩ :=
 conT (nmf:=nmz42) (sml:=qrc) (hxl:=ql6) (st:=stz42) (hd:=hdz42) 20 mixed ttOK ftOK hsm hxsz42 cal3 rfl rfl (by kernel_rfl) (fun x=>by kernel_rfl) ndz42 okz42 fun x y hx hy=>by
   obtain⟨lf,h⟩:=hg x y hx hy
   exact⟨lf,(runz42 g lf x.1 x.2.1 x.2.2.1).trans h⟩
theorem q12 (l:List qab) (s:ByteArray) (c:qag) (e0 to_ fr by_:Int) (now:ByteArray) (hl:l.length<=1000000) (hn:S.fits now=true) :
   qex LF l s c LF (e0,to_,fr,now,by_,Int.ofNat 0,[])=qcx LF l s c LF (by_,fr,to_,S.lines now,S.aheadL l fr,Int.ofNat 0):=by
 refine range0 (σ:=List qab) (R:=Rtz41) l (fun i q=>(e0,to_,fr,now,by_,i,q)) (fun i q=>q.length<=i) (fun rest i q=>qcx LF l s c LF (by_,fr,to_,S.lines now,q++S.aheadL rest fr,Int.ofNat 0)) (by unfold LF;omega) (fun K q hq=>?_) (fun K i v rest q hq r h=>?_) [] (Nat.zero_le _)
 · simp only[qjr,qa1,cond_false,hn,cond_true]
   have e:q++S.aheadL [] fr=q:=List.append_nil q
   rw[e]
 · have hi:=r.lt
   have r1:Nat.ble (Nat.mul (Nat.add q.length 1) 40) 140737488355328=true:=Nat.ble_eq_true_of_le (by show (q.length+1)*40<=_;omega)
   simp only[qjr,r.ilt,r.get,r.next,cond_true,r1]
   by_cases c1:v.2.2.1<fr
   · rw[ilt_t c1,cond_true]
     refine(h (q++[v]) (by simp only[List.length_append,List.length_cons,List.length_nil];omega)).trans ?_
     have ea:S.aheadL (v::rest) fr=v::S.aheadL rest fr:=by unfold S.aheadL;rw[List.filter_cons,decide_eq_true c1,if_pos rfl]
     rw[ea]
     simp only[List.append_assoc,List.cons_append,List.nil_append]
   · rw[ilt_f c1,cond_false]
     refine(h q (by omega)).trans ?_
     have ea:S.aheadL (v::rest) fr=S.aheadL rest fr:=by unfold S.aheadL;rw[List.filter_cons,decide_eq_false c1];rfl
     rw[ea]
theorem qvq {s:ByteArray} {n:Nat} (h:n<=s.size):S.placeGo ((qaa s).take (Int.toNat (n:Int))) (Int.ofNat 1) (Int.ofNat 1)=(S.placeOf s (n:Int)).1:=by
 unfold S.placeOf
 rw[if_neg (by show ¬((n:Int)<0\/(s.size:Int)<(n:Int));omega)]
 rfl
theorem q1u (l:List qab) (s:ByteArray) (c:qag) (hs:S.fits s=true) (hl:l.length<=1000000) (h0:(S.edit s c).2=0) (ho:S.ordered s l=true) :
   (cond (Bool.and (S.fits s) (Bool.and (Bool.not (iltI c.1 (Int.ofNat 0))) (Bool.not (iltI (Int.ofNat (ByteArray.size s)) c.1)))) (some ((S.placeGo (List.take (Int.toNat c.1) (qaa s)) (Int.ofNat 1) (Int.ofNat 1)),())) none=some ((S.placeOf s c.1).1,())) /\
   (cond (Bool.and (S.fits s) (Bool.and (Bool.not (iltI c.2.1 (Int.ofNat 0))) (Bool.not (iltI (Int.ofNat (ByteArray.size s)) c.2.1)))) (some ((S.placeGo (List.take (Int.toNat c.2.1) (qaa s)) (Int.ofNat 1) (Int.ofNat 1)),())) none=some ((S.placeOf s c.2.1).1,()))/\S.fits (S.edit s c).1=true /\
   ∀e0,qex LF l s c LF (e0,(S.placeOf s c.2.1).1.1,(S.placeOf s c.1).1.1,(S.edit s c).1,IntKind.i64.wrap (Int.sub (Int.ofNat (S.lines (S.edit s c).1).length) (Int.ofNat (S.lines s).length)),Int.ofNat 0,[])=some (qdd l s c,()):=by
 obtain⟨a,b,ha,hb,hab,hbs,hbl,hsz,hsz2⟩:=qyb h0
 have fs:=qbg hs
 have hnow:S.fits (S.edit s c).1=true:=Nat.ble_eq_true_of_le (by omega)
 have hwl:c.2.2.size<=20000:=by omega
 have p1:(S.placeOf s c.1).1.1=1+((((qaa s).take a).count 10:Nat):Int):=by rw[ha];exact qe5 s a (by omega)
 have p2:(S.placeOf s c.2.1).1.1=1+((((qaa s).take b).count 10:Nat):Int):=by rw[hb];exact qe5 s b hbs
 have hta:((qaa s).take a).length=a:=by rw[List.length_take,qae];omega
 have htk:(qaa (S.edit s c).1).take (a+c.2.2.size)=(qaa s).take a++qaa c.2.2:=by
   rw[hbl]
   have:a+c.2.2.size=((qaa s).take a++qaa c.2.2).length:=by rw[List.length_append,hta,qae]
   rw[this,List.take_left]
 have p3:(S.placeOf (S.edit s c).1 (c.1+Int.ofNat c.2.2.size)).1.1=1+((((qaa s).take a).count 10:Nat):Int)+(((qaa c.2.2).count 10:Nat):Int):=by
   rw[ha,show (a:Int)+Int.ofNat c.2.2.size=((a+c.2.2.size:Nat):Int) by show (a:Int)+(c.2.2.size:Int)=_;omega,qe5 _ _ (by omega),htk,List.count_append]
   omega
 have hlen:(S.lines (S.edit s c).1).length=(qaa (S.edit s c).1).count 10+1:=by unfold S.lines;rw[List.length_map,qcl]
 have hlen0:(S.lines s).length=(qaa s).count 10+1:=by unfold S.lines;rw[List.length_map,qcl]
 have hcn:(qaa (S.edit s c).1).count 10=((qaa s).take a).count 10+(qaa c.2.2).count 10+((qaa s).drop b).count 10:=by rw[hbl,List.count_append,List.count_append]
 have hc0:(qaa s).count 10=((qaa s).take b).count 10+((qaa s).drop b).count 10:=by rw[<- List.count_append,List.take_append_drop]
 have hcl:=List.count_le_length (a:=(10:Int)) (l:=qaa (S.edit s c).1)
 rw[qae] at hcl
 have hcb:=List.count_le_length (a:=(10:Int)) (l:=qaa s)
 rw[qae] at hcb
 have hmono:((qaa s).take a).count 10<=((qaa s).take b).count 10:=by
   have e:(qaa s).take a=((qaa s).take b).take a:=by rw[List.take_take,Nat.min_eq_left hab]
   rw[e]
   exact(List.take_sublist _ _).count_le _
 have hk:=qkg (qy9 hnow)
 have hx:∀t∈S.lines (S.edit s c).1,t.size<=20000/\∀b∈qaa t,¬b=10:=fun t ht=>⟨Nat.le_trans (qd1 ht) hsz2,(hk.2.1 t ht).2⟩
 have hby:IntKind.i64.wrap (Int.sub (Int.ofNat (S.lines (S.edit s c).1).length) (Int.ofNat (S.lines s).length))=(S.placeOf (S.edit s c).1 (c.1+Int.ofNat c.2.2.size)).1.1-(S.placeOf s c.2.1).1.1:=by
   rw[p2,p3,hlen,hlen0,hcn,hc0]
   rw[show Int.sub (Int.ofNat (((qaa s).take a).count 10+(qaa c.2.2).count 10+((qaa s).drop b).count 10+1)) (Int.ofNat (((qaa s).take b).count 10+((qaa s).drop b).count 10+1))=1+((((qaa s).take a).count 10:Nat):Int)+(((qaa c.2.2).count 10:Nat):Int)-(1+((((qaa s).take b).count 10:Nat):Int)) by
     show ((_:Nat):Int)-((_:Nat):Int)=_
     omega]
   exact qas (by omega)
 refine⟨?_,?_,hnow,fun e0=>?_⟩
 · rw[hs,ha,ilt_f (show ¬(a:Int)<Int.ofNat 0 by show ¬(a:Int)<0;omega),ilt_f (show ¬Int.ofNat s.size<(a:Int) by show ¬(s.size:Int)<(a:Int);omega),qvq (by omega)]
   rfl
 · rw[hs,hb,ilt_f (show ¬(b:Int)<Int.ofNat 0 by show ¬(b:Int)<0;omega),ilt_f (show ¬Int.ofNat s.size<(b:Int) by show ¬(s.size:Int)<(b:Int);omega),qvq hbs]
   rfl
 · rw[hby,q12 l s c e0 _ _ _ _ hl hnow]
   generalize hto:(S.placeOf s c.2.1).1.1=to_ at *
   generalize hen:(S.placeOf (S.edit s c).1 (c.1+Int.ofNat c.2.2.size)).1.1=en at *
   generalize hfr:(S.placeOf s c.1).1.1=fr at *
   have hal:(S.aheadL l fr).length<=1000000:=Nat.le_trans (List.length_filter_le _ _) hl
   have hcw:=List.count_le_length (a:=(10:Int)) (l:=qaa c.2.2)
   rw[qae] at hcw
   rw[q18 l s c (en-to_) to_ en (S.lines (S.edit s c).1) (by
       rw[show Int.add to_ (en-to_)=en by show to_+(en-to_)=en;omega]
       exact qas (by omega)) hx (by rw[hlen];show en<=((_:Nat):Int);omega) (by omega) ((qaa c.2.2).count 10+1) (((qaa s).take a).count 10) fr (S.aheadL l fr) (Int.ofNat 0) (by rw[p1];show _=((_:Nat):Int)+1;omega) (by rw[p3,p1];show _=_+((_+1:Nat):Int)-1;omega) (Int.le_refl _) (Int.natCast_nonneg _) (by omega) LF (by unfold LF;omega)]
   have hls:S.linesAt (S.edit s c).1 fr en=((S.lines (S.edit s c).1).drop (((qaa s).take a).count 10)).take ((qaa c.2.2).count 10+1):=by
     unfold S.linesAt
     rw[show (fr-1).toNat=((qaa s).take a).count 10 by omega,show en.toNat=((qaa s).take a).count 10+((qaa c.2.2).count 10+1) by omega,List.drop_take,Nat.add_sub_cancel_left]
   unfold qdd
   rw[hto,hen,hfr,hls]
   unfold thenR S.readX
   simp only
   have hf:∀L:List qab,L.filter (fun t=>S.wTok t.1)=L.filter S.isTok:=fun _=>rfl
   rw[hf]
   by_cases hr:(S.readL ((((S.lines (S.edit s c).1).drop (((qaa s).take a).count 10)).take ((qaa c.2.2).count 10+1)).map qaa) fr).2.2=0
   · rw[if_pos hr,if_pos hr]
     have hll:((S.readL ((((S.lines (S.edit s c).1).drop (((qaa s).take a).count 10)).take ((qaa c.2.2).count 10+1)).map qaa) fr).1.filter S.isTok).length<=500000000:=by
       refine Nat.le_trans (List.length_filter_le _ _) ?_
       have hN:=qm3 20000 ((((S.lines (S.edit s c).1).drop (((qaa s).take a).count 10)).take ((qaa c.2.2).count 10+1)).map qaa) fr (fun x hx'=>by
         obtain⟨t,ht,rfl⟩:=List.mem_map.1 hx'
         rw[qae]
         exact(hx t (List.mem_of_mem_drop (List.mem_of_mem_take ht))).1)
       rw[List.length_map,List.length_take] at hN
       omega
     rw[q30 l s c _ (en-to_) to_ _ fr hl (by rw[List.length_append];omega) (by omega) (fun t ht=>qry hs (qpf ho t ht)) (by omega)]
     rw[List.append_assoc,show ∀n:Nat,Int.ofNat 0+Int.ofNat n=Int.ofNat n from fun n=>Int.zero_add _]
   · rw[if_neg hr,if_neg hr]
theorem Fz41_eq (l:List qab) (s:ByteArray) (c:qag) (hs:S.fits s=true) (hw:S.fits c.2.2=true) (hl:l.length<=1000000):Fz41 LF l s c=some (S.patch l s c,()):=by
 rw[qu4]
 simp only[Fz41,qqp]
 rw[hs,hw]
 show cond (!ieqI (S.edit s c).2 (Int.ofNat 0)) _ _=_
 by_cases h0:(S.edit s c).2=0
 · rw[ieq_t (show _=Int.ofNat 0 from h0),Bool.not_true,cond_false,if_pos h0]
   show cond (!S.ordered s l) _ _=_
   cases ho:S.ordered s l with
   | false=>rfl
   | true =>
     obtain⟨k1,k2,k3,k4⟩:=q1u l s c hs hl h0 ho
     rw[hs] at k1 k2
     rw[Bool.not_true,cond_false,k1]
     simp only
     rw[k2]
     simp only[k3,cond_true]
     exact k4 _
 · rw[ieq_f (show ¬_=Int.ofNat 0 from h0),Bool.not_false,cond_true,if_neg h0]
   rfl
theorem conz41:Con Tryz.prog idz41 spz41:=mkz41 ⟨conz23,conz40,conz20,qsq,trivial⟩ fun x y hx h=>⟨LF,by
 obtain⟨h1,h2⟩:=qa5 (show cond (S.fits x.2.1&&(S.fits x.2.2.1.2.2&&Nat.ble x.1.length 1000000)) (some (S.patch x.1 x.2.1 x.2.2.1,())) none=some y from h)
 simp only[Bool.and_eq_true] at h1
 exact(Fz41_eq x.1 x.2.1 x.2.2.1 h1.1 h1.2.1 (Nat.le_of_ble_eq_true h1.2.2)).trans (congrArg some h2)⟩
theorem q1w (l:List qab):S.sameT l l=true:=decide_eq_true rfl
theorem qz3 (a:Int):keqI a a=true:=decide_eq_true rfl
theorem q3n (s:ByteArray):(S.tokens s).1.length<=1000000:=by
 by_cases h:20000<s.size
 · rw[q46 h];exact Nat.zero_le _
 · by_cases h1:(S.readG s).2.2.2=0/\6000<(S.readG s).1.length
   · rw[q6a h h1.1 h1.2];exact Nat.zero_le _
   · rw[q0q h h1]
     have:=(q47 s).1
     omega
theorem Fz42_eq (s:ByteArray) (l:List qab) (c:qag):Fz42 0 s l c=some (true,()):=by
 simp only[Fz42,qpq,qbl]
 by_cases ha:s.size<=20100
 · have fa:S.fits s=true:=Nat.ble_eq_true_of_le (by omega)
   by_cases hb:l.length<=60
   · have hb1:Nat.ble l.length 1000000=true:=Nat.ble_eq_true_of_le (by omega)
     have hb2:Nat.ble (S.tokens s).1.length 1000000=true:=Nat.ble_eq_true_of_le (q3n s)
     by_cases hc:c.2.2.size<=400
     · have fc:S.fits c.2.2=true:=Nat.ble_eq_true_of_le (by omega)
       simp only[fa,fc,hb1,hb2,Bool.and_true,cond_true,qu8,q1w,qz3]
       cases decide (400<s.size)<;>cases decide (20000<s.size)<;>cases decide (20100<s.size)<;>cases decide (60<l.length)<;>cases decide (400<c.2.2.size)<;>rfl
     · rw[decide_eq_true (show 400<c.2.2.size by omega)]
       cases decide (400<s.size)<;>cases decide (20000<s.size)<;>cases decide (20100<s.size)<;>cases decide (60<l.length)<;>rfl
   · rw[decide_eq_true (show 60<l.length by omega)]
     cases decide (400<s.size)<;>cases decide (20000<s.size)<;>cases decide (20100<s.size)<;>rfl
 · rw[decide_eq_true (show 400<s.size by omega),decide_eq_true (show 20000<s.size by omega),decide_eq_true (show 20100<s.size by omega)]
   rfl
theorem conz42:Con Tryz.prog idz42 ⟨[.str,.list cToken,cChange],[(false,.bool)],fun _=>some (true,())⟩ :=
 mkz42 ⟨conz38,conz41,conz30,conz33,q4h,trivial⟩ fun x y hx h=>⟨0,(Fz42_eq x.1 x.2.1 x.2.2.1).trans h⟩
end Go.Proofs.YtanenikkloolfaaGreatDoor
end

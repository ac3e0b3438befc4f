/- Texts: Kw3, Kp2, Kg3, Kp3, Kp4, Kp6, Kl2, Kg9, Ksh, Ksr, Kg7, Xhs, Xhg, Kg8, Kg6, Kp5, Kp7, Kp8, Kp9, Kw4, Kpa, Kpb, Kpc, Kpd, Kpe, Kpf, Kpg, Kph, Kpj, Kl4, Kl5, Krp, Rg. -/
import Derived.Test.YtnhmanoiolfapaaGreatMb4
import Derived.Shelf.Strings.Repeat
import Derived.Test.YtnhmanoiolfapaaGreatProg
import Derived.Laws.IdiomCopy
import Derived.Laws.MakeOwn
import Derived.Test.YtnhmanoiolfapaaGreatMb1
set_option linter.unusedVariables false
noncomputable section
set_option maxRecDepth 100000
namespace Go.Proofs.YtnhmanoiolfapaaGreat
open Go Go.Sx Go.RowKit Go.Jx
def over(L:List ByteArray)(a:Nat)(ss:List ByteArray):List ByteArray:=L.take a++(ss++L.drop (a+ss.length))
def qqy:Nat->List ByteArray->List DPut
 | _,[]=>[]
 | a,s::ss=>((a:Int),s)::qqy (a+1) ss
theorem qtr(a:Nat)(s:ByteArray)(ss:List ByteArray):S.puts (a:Int) (s::ss)=S.put (a:Int) s::S.puts ((a+1:Nat):Int) ss:=rfl
theorem q0g:∀(a:Nat) (x y:List ByteArray),S.puts (a:Int) (x++y)=S.puts (a:Int) x++S.puts ((a+x.length:Nat):Int) y
 | a,[],y=>rfl
 | a,s::x,y=>by
  rw[List.cons_append,qtr,qtr,q0g (a+1) x y,List.cons_append,List.length_cons,show a+(x.length+1)=a+1+x.length by omega]
theorem qku:∀(a:Nat) (x:List ByteArray),(S.puts (a:Int) x).length=x.length
 | _,[]=>rfl
 | a,s::x=>congrArg (·+1) (qku (a+1) x)
theorem zio(L:List ByteArray)(a:Nat):over L a []=L:=by
 unfold over;rw[List.nil_append,List.length_nil,Nat.add_zero,List.take_append_drop]
theorem qgb{L:List ByteArray}{a:Nat}{ss:List ByteArray}(h:a+ss.length<=L.length):(over L a ss).length=L.length:=by
 unfold over;rw[List.length_append,List.length_append,List.length_take,List.length_drop];omega
theorem zbr{L:List ByteArray}{a:Nat}{ss:List ByteArray}(h:a+ss.length<=L.length):(over L a ss).take a=L.take a:=by
 unfold over;rw[List.take_append_of_le_length (by rw[List.length_take];omega),List.take_take,Nat.min_self]
theorem qsa{L:List ByteArray}{a:Nat}{ss:List ByteArray}(h:a+ss.length<=L.length):(over L a ss).drop a=ss++L.drop (a+ss.length):=by
 unfold over;rw[List.drop_append_of_le_length (by rw[List.length_take];omega),List.drop_eq_nil_of_le (by rw[List.length_take];omega),List.nil_append]
theorem zvl{L:List ByteArray}{a:Nat}{ss:List ByteArray}(hL:szS L)(hs:szS ss):szS (over L a ss):=fun s h=>by
 unfold over at h;rcases List.mem_append.1 h with h|h
 ·exact hL s (List.mem_of_mem_take h)
 rcases List.mem_append.1 h with h|h
 ·exact hs s h
 ·exact hL s (List.mem_of_mem_drop h)
theorem ql4:∀(ss:List ByteArray) (a:Nat) (L:List ByteArray),a+ss.length<=L.length->S.settled L (qqy a ss)=over L a ss
 | [],a,L,_=>(zio L a).symm
 | s::ss,a,L,h=>by
  rw[List.length_cons] at h;show S.settled (L.set (a:Int).toNat s) (qqy (a+1) ss)=_;rw[Int.toNat_natCast,ql4 ss (a+1) _ (by rw[List.length_set];omega)];unfold over;rw[List.length_cons,List.drop_set_of_lt (by omega),List.take_set];have:(L.take (a+1)).set a s=L.take a++[s]:=by
   rw[List.take_succ_eq_append_getElem (by omega),List.set_append_right _ _ (by rw[List.length_take];omega)];rw[List.length_take,Nat.min_eq_left (by omega),Nat.sub_self];rfl
  rw[this,List.append_assoc,List.cons_append,List.nil_append,show a+1+ss.length=a+(ss.length+1) by omega];rfl
theorem zoh{n a:Nat}{s:ByteArray}(hs:s.size=64)(h:a<n):S.badPut (n:Int) ((a:Int),s)=false:=by
 unfold S.badPut S.short S.inI;rw[decide_eq_true hs,decide_eq_true (show (0:Int)<=(a:Int) by omega),decide_eq_true (show (a:Int)<=(n:Int)-1 by omega)];rfl
theorem q4j{L:List ByteArray}{a:Nat}{s:ByteArray}{q:List DPut}{r:List DAct}(hs:s.size=64)(h:a<L.length)(hq:q.length<4000):S.doGo (S.put (a:Int) s::r) L q=S.doGo r L (q++[((a:Int),s)]):=by
 show cond false _ (cond (S.badPut (L.length:Int) ((a:Int),s)) _ (if q.length=4000 then _ else _))=_;rw[zoh hs h,cond_false,cond_false,if_neg (by omega)];rfl
theorem qxb:∀(ss:List ByteArray) (a:Nat) (r:List DAct) (L:List ByteArray) (q:List DPut),szS ss->a+ss.length<=L.length->q.length+ss.length<=4000 ->
  S.doGo (S.puts (a:Int) ss++r) L q=S.doGo r L (q++qqy a ss)
 | [],a,r,L,q,_,_,_=>by
  show S.doGo r L q=S.doGo r L (q++[]);rw[List.append_nil]
 | s::ss,a,r,L,q,hs,h,hq=>by
  rw[List.length_cons] at h hq;rw[qtr,List.cons_append,q4j (hs s (by simp)) (by omega) (by omega),qxb ss (a+1) r L _ (fun t ht=>hs t (by simp[ht])) (by omega) (by rw[List.length_append];simp only[List.length_cons,List.length_nil];omega),List.append_assoc];rfl
theorem qs3(L:List ByteArray)(q:List DPut)(r:List DAct):S.doGo (S.sync::r) L q=S.doGo r (S.settled L q) []:=rfl
theorem q5k(L:List ByteArray)(q:List DPut):S.doGo [] L q=((L,q),0):=rfl
theorem zj8{s p:ByteArray}{n:Nat}(hs:s.size=64)(hp:p.size=64)(hn:n<=64):(S.tear s p n).size=64:=by
 unfold S.tear;rw[qa1,List.length_append,List.length_take,List.length_drop,qcr,qcr];omega
theorem zt0(s p:ByteArray)(n:Nat):rng ((qac p).take n++(qac s).drop n):=qf1 (qd5 (qde p) n) (qc0 (qde s) n)
theorem qix{n:Nat}(h2:n % 2=0)(h8:8<=n){h:Int}(hh:h=0\/h=1):∃a:Nat,S.half n h=((a:Int),((a+(n / 2-1):Nat):Int))/\1<=a/\a+(n / 2-1)<n/\(h=0->a=1)/\(h=1->a=n / 2):=by
 rcases hh with rfl|rfl
 ·refine⟨1,?_,by omega,by omega,fun _=>rfl,fun h=>(by cases h)⟩;unfold S.half;rw[if_pos rfl];exact Prod.ext rfl (by show ((n / 2:Nat):Int)=((1+(n / 2-1):Nat):Int);omega)
 ·refine⟨n / 2,?_,by omega,by omega,fun h=>(by cases h),fun _=>rfl⟩;unfold S.half;rw[if_neg (by decide)];exact Prod.ext rfl (by show (n:Int)-1=((n / 2+(n / 2-1):Nat):Int);omega)
structure Dk (L:List ByteArray):Prop where
 sz:szS L
 ge:8<=L.length
 le:L.length<=1000
 ev:L.length % 2=0
theorem Dk.check{L:List ByteArray}(h:Dk L):S.checkDisk (L,[])=0:=by
 unfold S.checkDisk;have h1:=h.ge;have h2:=h.le;have h3:L.any S.short=false:=by
  rw[Bool.eq_false_iff];intro e;obtain⟨s,hs,e⟩:=List.any_eq_true.1 e;unfold S.short at e;rw[decide_eq_true (h.sz s hs)] at e;cases e
 rw[if_neg (show ¬(1000<L.length\/4000<([]:List DPut).length) by simp;omega),if_neg];have:=h.ev;rintro(e|e|e|e)
 ·exact absurd e (show ¬L.length<8 by omega)
 ·exact e this
 ·cases e
 ·rw[show ((L,([]:List DPut)).1).any S.short=L.any S.short from rfl,h3] at e;cases e
def topB(h:Int):List Int:=h::List.replicate 63 0
structure Jn (L:List ByteArray) (h:Int) (a u:Nat) (c:List qaa):Prop where
 dk:Dk L
 hh:h=0\/h=1
 top:qac (L.getD 0 S.none_)=topB h
 fr:S.half L.length h=((a:Int),((a+(L.length / 2-1):Nat):Int))
 a1:1<=a
 to_:a+(L.length / 2-1)<L.length
 rc:∃f,S.recs f ((L.drop a).take (L.length / 2-1)) [] 0=some (c,u)
 u1:1<=u
theorem q6l{L:List ByteArray}{h:Int}{a K:Nat}(hf:S.half L.length h=((a:Int),((a+K:Nat):Int))):S.halfS L h=(L.drop a).take K:=by
 unfold S.halfS;rw[hf];simp only[Int.toNat_natCast];rw[List.drop_take,Nat.add_sub_cancel_left]
theorem Jn.open_{L:List ByteArray}{h:Int}{a u:Nat}{c:List qaa}(j:Jn L h a u c):S.opened L=some (h,u,c):=by
 obtain⟨f,hf⟩:=j.rc;have h0:(qac (L.getD 0 S.none_)).getD 0 0=h:=by rw[j.top];rfl
 have hd:(qac (L.getD 0 S.none_)).drop 1=List.replicate 63 0:=by rw[j.top];rfl
 unfold S.opened;rw[h0,hd,if_neg (show ¬(1<h\/¬List.replicate 63 (0:Int)=List.replicate 63 0) from fun e=>by rcases e with e|e;(rcases j.hh with rfl|rfl<;>omega);exact e rfl),q6l j.fr];rw[zd6 f ((j.dk.sz.drop a).take _) hf (L.length+1) (by rw[List.length_take,List.length_drop];omega)];have:=j.u1;simp only;rw[if_neg (by omega)]
theorem zhg{L:List ByteArray}(d:Dk L){h:Int}{u:Nat}{c:List qaa}(ho:S.opened L=some (h,u,c)):∃a,Jn L h a u c:=by
 unfold S.opened at ho;split at ho
 ·cases ho
 rename_i hn;have hz:(L.getD 0 S.none_).size=64:=by
  have:=d.ge;rw[List.getD_eq_getElem?_getD,List.getElem?_eq_getElem (by omega)];exact d.sz _ (List.getElem_mem _)
 have hb:(qac (L.getD 0 S.none_)).length=64:=by rw[qcr,hz]
 have h0:=qq8 (qde (L.getD 0 S.none_)) 0;have ht:qac (L.getD 0 S.none_)=topB ((qac (L.getD 0 S.none_)).getD 0 0):=by
  cases hl:qac (L.getD 0 S.none_) with
  | nil=>rw[hl] at hb;cases hb
  | cons x r =>
   have:r=List.replicate 63 0:=by
    refine Classical.byContradiction fun e=>hn (.inr ?_);rw[hl];exact e
   rw[this];rfl
 split at ho
 ·rename_i c' u' hr;split at ho
  ·cases ho
  rename_i hu;cases ho;have hh:(qac (L.getD 0 S.none_)).getD 0 0=0\/(qac (L.getD 0 S.none_)).getD 0 0=1:=by omega
  obtain⟨a,e1,e2,e3,_,_⟩:=qix d.ev d.ge hh;exact⟨a,d,hh,ht,e1,e2,e3,⟨_,by rw[<- q6l e1];exact hr⟩,by omega⟩
 ·cases ho
theorem Jn.kept{L L':List ByteArray}{h:Int}{a u:Nat}{c:List qaa}(j:Jn L h a u c)(d:Dk L')(hl:L'.length=L.length)(ht:L'.take (a+u)=L.take (a+u))(hu:u<=L.length / 2-1){c':List qaa}{v f:Nat}(hv:1<=v)
  (hr:S.recs f ((L'.drop (a+u)).take (L.length / 2-1-u)) c u=some (c',v)):Jn L' h a v c':=by
 obtain⟨f0,h0⟩:=j.rc;obtain⟨k1,k2,k3,k4,k5⟩:=q0r f0 ((j.dk.sz.drop a).take _) h0;rw[Nat.sub_zero] at k2 k3 k5;have hto:=j.to_;have ha1:=j.a1;have h2:((L'.drop a).take (L.length / 2-1)).take u=((L.drop a).take (L.length / 2-1)).take u:=by
  rw[List.take_take,List.take_take,Nat.min_eq_left hu];have:=congrArg (List.drop a) ht
  rwa [List.drop_take,List.drop_take,Nat.add_sub_cancel_left] at this
 obtain⟨f3,h3⟩:=k5 ((L'.drop a).take (L.length / 2-1)) ((d.sz.drop a).take _) h2 f (c',v) (by
  rw[List.drop_take,List.drop_drop];exact hr)
 refine⟨d,j.hh,?_,by rw[hl];exact j.fr,j.a1,by rw[hl];exact j.to_,⟨f3,by rw[hl];exact h3⟩,hv⟩;rw[q1t ht (by omega)];exact j.top
theorem Jn.le{L:List ByteArray}{h:Int}{a u:Nat}{c:List qaa}(j:Jn L h a u c):u<=L.length / 2-1/\okS c (-1)/\(u=L.length / 2-1\/(qac (L.getD (a+u) S.none_)).getD 0 0=0):=by
 obtain⟨f0,h0⟩:=j.rc;obtain⟨k1,k2,k3,k4,k5⟩:=q0r f0 ((j.dk.sz.drop a).take _) h0;have hto:=j.to_;have hl:((L.drop a).take (L.length / 2-1)).length=L.length / 2-1:=by rw[List.length_take,List.length_drop];omega
 rw[Nat.sub_zero,hl] at k2 k3;refine⟨k2,k4 ⟨rfl,fun x hx=>by cases hx⟩,?_⟩;rcases k3 with k3|k3
 ·exact .inl k3.symm
 ·by_cases e:u=L.length / 2-1
  ·exact .inl e
  ·refine .inr ?_;rw[q75 _ _ (by omega),q29] at k3;exact k3
theorem Jn.more{L L':List ByteArray}{h:Int}{a u:Nat}{c:List qaa}(j:Jn L h a u c)(d:Dk L')(hl:L'.length=L.length)(ht:L'.take (a+u)=L.take (a+u)){l:List qaa}(hc:S.okC l=true)(hb:(S.body l).length<16777216)
  (hn:u+(S.packed l 1).length<=L.length / 2-1) {rest:List ByteArray} (hr:L'.drop (a+u)=S.packed l 1++rest) (h0:u+(S.packed l 1).length=L.length / 2-1\/(qac (rest.getD 0 S.none_)).getD 0 0=0):Jn L' h a (u+(S.packed l 1).length) (S.changed c l):=by
 have hu:=j.u1;refine j.kept d hl ht (by omega) (f:=2) (by omega) ?_;rw[hr,List.take_append,List.take_of_length_le (by omega),q68 1 l _ c u hc hb,show decide (u=0)=false from decide_eq_false (by omega),Bool.false_and,cond_false];cases hz:rest.take (L.length / 2-1-u-(S.packed l 1).length) with
 | nil=>rfl
 | cons s r =>
  rw[qey];rcases h0 with h0|h0
  ·rw[show L.length / 2-1-u-(S.packed l 1).length=0 by omega,List.take_zero] at hz;cases hz
  ·have:s=rest.getD 0 S.none_:=by
    cases rest with
    | nil=>rw[List.take_nil] at hz;cases hz
    | cons s' r' =>
     cases hk:L.length / 2-1-u-(S.packed l 1).length with
     | zero=>rw[hk] at hz;cases hz
     | succ k=>rw[hk,List.take_succ_cons] at hz;cases hz;rfl
   rw[this,if_pos h0]
theorem Jn.same{L L':List ByteArray}{h:Int}{a u:Nat}{c:List qaa}(j:Jn L h a u c)(d:Dk L')(hl:L'.length=L.length)(ht:L'.take (a+u)=L.take (a+u))(h0:u=L.length / 2-1\/(qac (L'.getD (a+u) S.none_)).getD 0 0=0):Jn L' h a u c:=by
 have hu:=j.le.1;have hto:=j.to_;refine j.kept d hl ht hu (f:=1) j.u1 ?_;rcases h0 with h0|h0
 ·rw[show L.length / 2-1-u=0 by omega,List.take_zero];rfl
 ·cases hz:(L'.drop (a+u)).take (L.length / 2-1-u) with
  | nil=>rfl
  | cons s r =>
   have:s=L'.getD (a+u) S.none_:=by
    have:=congrArg (fun x:List ByteArray=>x[0]?) hz;simp only[List.getElem?_take,List.getElem?_drop,Nat.add_zero,List.getElem?_cons_zero] at this;split at this
    ·rw[List.getD_eq_getElem?_getD,this];rfl
    ·cases this
   rw[qey,this,if_pos h0]
structure OkD (l:List ByteArray) (q:List DPut):Prop where
 sz:szS l
 le:l.length<=1000
 fit:S.fitP l q=true
 many:q.length<=4000
theorem znd{l:List ByteArray}:S.anyShort l=false↔szS l:=by
 unfold S.anyShort S.short szS;rw[Bool.eq_false_iff];constructor
 ·intro h s hs;refine Classical.byContradiction fun e=>h (List.any_eq_true.2 ⟨s,hs,by rw[decide_eq_false e];rfl⟩)
 ·intro h e;obtain⟨s,hs,e⟩:=List.any_eq_true.1 e;rw[decide_eq_true (h s hs)] at e;cases e
theorem qn6{l:List ByteArray}{q:List DPut}:S.fitP l q=true↔∀p∈q,p.2.size=64/\0<=p.1/\p.1<l.length:=by
 unfold S.fitP;rw[List.all_eq_true];constructor
 ·intro h p hp;have:=h p hp;rw[Bool.not_eq_true'] at this;exact qsl.1 this
 ·intro h p hp;rw[Bool.not_eq_true'];exact qsl.2 (h p hp)
theorem qn5{d:qab}(h:S.checkDisk d=0):OkD d.1 d.2/\8<=d.1.length/\d.1.length % 2=0:=by
 unfold S.checkDisk at h;split at h
 ·cases h
 rename_i h1;split at h
 ·cases h
 rename_i h2;have h3:d.1.any S.short=false:=by rw[Bool.eq_false_iff];exact fun e=>h2 (.inr (.inr (.inr e)))
 have h4:d.2.any (S.badPut d.1.length)=false:=by rw[Bool.eq_false_iff];exact fun e=>h2 (.inr (.inr (.inl e)))
 refine⟨⟨znd.1 h3,by omega,?_,by omega⟩,by omega,Classical.byContradiction fun e=>h2 (.inr (.inl e))⟩;unfold S.fitP;rw[List.all_eq_true];intro p hp;rw[Bool.not_eq_true',Bool.eq_false_iff];intro e;rw[List.any_eq_false] at h4;exact h4 p hp e
theorem zcb:∀(q:List DPut) {l:List ByteArray},S.fitP l q=true->szS l->(S.settled l q).length=l.length/\szS (S.settled l q)
 | [],l,_,h=>⟨rfl,h⟩
 | p::q,l,hf,h=>by
  have hf:=qn6.1 hf;have hp:=hf p (by simp);obtain⟨i1,i2⟩:=zcb q (l:=l.set p.1.toNat p.2) (qn6.2 fun x hx=>by rw[List.length_set];exact hf x (by simp[hx])) fun s hs=>by
   rcases List.mem_or_eq_of_mem_set hs with hs|rfl
   ·exact h s hs
   ·exact hp.1
  exact⟨i1.trans (List.length_set ..),i2⟩
theorem OkD.sync{l:List ByteArray}{q:List DPut}(h:OkD l q):OkD (S.settled l q) []:=by
 obtain⟨h1,h2⟩:=zcb q h.fit h.sz;exact⟨h2,by rw[h1];exact h.le,rfl,Nat.zero_le _⟩
theorem OkD.put{l:List ByteArray}{q:List DPut}{p:DPut}(h:OkD l q)(hp:S.badPut l.length p=false)(hq:¬q.length=4000):OkD l (q++[p]):=by
 refine⟨h.sz,h.le,qn6.2 fun x hx=>?_,?_⟩
 ·rcases List.mem_append.1 hx with hx|hx
  ·exact qn6.1 h.fit x hx
  ·rw[List.mem_singleton.1 hx];exact qsl.1 hp
 ·have:=h.many;rw[List.length_append];simp only[List.length_cons,List.length_nil];omega
theorem q6d{s:ByteArray}:s.size=0↔s=S.lit []:=⟨fun h=>qee (by
  have h1:=qcr s;rw[h] at h1;rw[List.length_eq_zero_iff.1 h1];rfl),fun h=>by rw[h];rfl⟩
theorem z2u(v:DAct):(Bool.and (keqI v.2.1 (Int.ofNat 0)) (Bool.and (keqS v.2.2 (S.lit [])) Bool.true))=decide (v.2.1=0/\v.2.2.size=0):=by
 have e1:keqI v.2.1 (Int.ofNat 0)=decide (v.2.1=0):=rfl;have e2:keqS v.2.2 (S.lit [])=decide (v.2.2.size=0):=by
  show decide (v.2.2=S.lit [])=_;exact decide_eq_decide.2 q6d.symm
 rw[e1,e2,Bool.and_true,Bool.decide_and]
theorem zvv(a:DAct)(r:List DAct)(l:List ByteArray)(q:List DPut):S.doGo (a::r) l q=cond a.1 (if a.2.1=0/\a.2.2.size=0 then S.doGo r (S.settled l q) [] else (([],[]),1))
  (cond (S.badPut l.length a.2) (([],[]),1) (if q.length=4000 then (([],[]),3) else S.doGo r l (q++[a.2]))):=rfl
theorem zxk(d:qab)(l:List DAct)(hl:l.length<LF):Fz15 LF d l=some ((S.doD d l).1,(S.doD d l).2,()):=by
 simp only[Fz15,quc];show cond (!ieqI (S.checkDisk d) (Int.ofNat 0)) _ _=_;unfold S.doD;by_cases h0:S.checkDisk d=0
 ·rw[qbk (show _=Int.ofNat 0 from h0),Bool.not_true,cond_false,if_pos h0];refine range0 (σ:=List DPut × List ByteArray) (R:=qc2) l (fun i s=>(i,s.1,s.2)) (fun _ s=>OkD s.2 s.1) (fun rest _ s=>some ((S.doGo rest s.2 s.1).1,(S.doGo rest s.2 s.1).2,())) hl (fun K s _=>?_) (fun K i v rest s hs r h=>?_) (d.2,d.1) (qn5 h0).1
  ·simp only[qrz,qce,cond_false];rfl
  ·obtain⟨q,t⟩:=s;simp only at hs h;have hle:=hs.le;have hm:=hs.many;have r1:Nat.ble (Nat.mul (Nat.add q.length 1) 24) 140737488355328=true:=Nat.ble_eq_true_of_le (by show (q.length+1)*24<=_;omega);have hw:=qxs (n:=t.length) (by unfold LF;omega);have hb:∀p:DPut,S.badPut t.length p=(S.short p.2||!S.inI p.1 (Int.ofNat 0) ((t.length:Int)-1)):=fun _=>rfl;simp only[qrz,r.ilt,r.get,r.next,cond_true,hw,r1,hs.fit,z2u];rw[zvv];obtain⟨sy,p1,p2⟩:=v;simp only;rw[hb];cases sy with
   | true =>
    simp only[cond_true,cond_false,Bool.not_true];by_cases hz:p1=0/\p2.size=0
    ·rw[decide_eq_true hz,if_pos hz];exact h ([],S.settled t q) hs.sync
    ·rw[decide_eq_false hz,if_neg hz];rfl
   | false =>
    simp only[cond_true,cond_false,Bool.not_false];cases hsh:S.short p2 with
    | true=>rfl
    | false =>
     cases hin:S.inI p1 (Int.ofNat 0) ((t.length:Int)-1) with
     | false=>rfl
     | true =>
      simp only[cond_true,cond_false,Bool.not_true,Bool.or_false];by_cases h4:q.length=4000
      ·rw[qbk (show Int.ofNat q.length=Int.ofNat 4000 from congrArg Int.ofNat h4),cond_true,if_pos h4];rfl
      ·rw[qbg (show ¬Int.ofNat q.length=Int.ofNat 4000 from fun e=>h4 (Int.ofNat.inj e)),cond_false,if_neg h4];exact h (q++[(p1,p2)],t) (hs.put (by rw[hb,hsh,hin];rfl) h4)
 ·rw[qbg (show ¬_=Int.ofNat 0 from h0),Bool.not_false,cond_true,if_neg h0]
theorem qtl:Con Tryz.prog z3t qyk:=zg8 ⟨qm5,qnu,zes,zju,qr8,zpl,trivial⟩ fun x y hx h=>⟨LF,(zxk x.1 x.2.1 (qct (c:=cAct) hx.2.1)).trans h⟩
theorem z2h(s p:ByteArray)(n:Nat):ByteArray.append (ByteArray.extract p 0 n) (ByteArray.extract s n s.size)=S.tear s p n:=by
 unfold S.tear;refine qee ?_;rw[qbf (zt0 s p n)];show qac (p.extract 0 n++s.extract n s.size)=_;rw[z49,q9m,zbs s n s.size (Nat.le_refl _)]
theorem zh3(p:DPut)(q:List DPut)(n:Int)(r:List Int)(l:List ByteArray):S.crashGo (p::q) (n::r) l=S.crashGo q r (l.set p.1.toNat (S.tear (l.getD p.1.toNat S.none_) p.2 n.toNat)):=rfl
theorem zym{l:List ByteArray}(h:szS l){i:Nat}{s:ByteArray}(hs:s.size=64):szS (l.set i s):=fun t ht=>by
 rcases List.mem_or_eq_of_mem_set ht with ht|rfl
 ·exact h t ht
 ·exact hs
theorem zha{s p:ByteArray}{n:Int}(hs:s.size=64)(hp:p.size=64)(h0:0<=n)(h1:n<=64) :
  lchk (Int.ofNat 0) n (Int.ofNat p.size) (Int.ofNat p.size)=true/\lchk n (Int.ofNat s.size) (Int.ofNat s.size) (Int.ofNat s.size)=true /\
  Nat.ble (Nat.succ (Nat.add (ByteArray.size (ByteArray.extract p 0 (Int.toNat n))) (ByteArray.size (ByteArray.extract s (Int.toNat n) (Int.toNat (Int.ofNat s.size)))))) 9223372036854775808=true /\
  ByteArray.append (ByteArray.extract p 0 (Int.toNat n)) (ByteArray.extract s (Int.toNat n) (Int.toNat (Int.ofNat s.size)))=S.tear s p n.toNat:=by
 rw[hs,hp];refine⟨qbt.2 ⟨Int.le_refl _,h0,h1,Int.le_refl _⟩,qbt.2 ⟨h0,h1,Int.le_refl _,Int.le_refl _⟩,Nat.ble_eq_true_of_le ?_,?_⟩
 ·rw[ByteArray.size_extract,ByteArray.size_extract];show _+_+1<=_;omega
 ·have:=z2h s p n.toNat;rw[hs] at this;exact this
theorem zho(d:qab)(l:List Int)(hl:l.length<LF):Fz16 LF d l=some ((S.crash d l).1,(S.crash d l).2,()):=by
 have e1:idxO (fun v0:Int=>(some (!(S.inI v0 (Int.ofNat 0) (Int.ofNat 64))))) l 0=some (Go.Jx.S.idx (fun n=>!S.inI n 0 64) l):=qox _ fun x _=>rfl;simp only[Fz16,qwr,qa5];show cond (!ieqI (S.checkDisk d) (Int.ofNat 0)) _ _=_;unfold S.crash;by_cases h0:S.checkDisk d=0
 ·rw[qbk (show _=Int.ofNat 0 from h0),Bool.not_true,cond_false,if_pos h0];by_cases h1:d.2.length<l.length
  ·rw[decide_eq_true h1,cond_true,if_pos (.inl h1)];rfl
  rw[decide_eq_false h1,cond_false,e1];simp only[qp3];cases h2:l.any (fun n=>!S.inI n 0 64) with
  | true=>rw[cond_true,if_pos (.inr rfl)];rfl
  | false =>
  rw[cond_false,if_neg (by simp[h1])];have hk:∀n∈l,0<=n/\n<=64:=fun n hn=>by
   rw[List.any_eq_false] at h2;have:=h2 n hn;rw[Bool.not_eq_true,Bool.not_eq_false'] at this;exact qa7.1 this
  have hf:=qn6.1 (qn5 h0).1.fit;refine(range0 (σ:=List ByteArray) (R:=qcy) l (fun i s=>(i,s)) (fun _ s=>szS s/\s.length=d.1.length) (fun rest i s=>some ((S.crashGo (d.2.drop i) rest s,[]),0,())) hl (fun K s _=>?_) (fun K i v rest s hs r h=>?_) d.1 ⟨(qn5 h0).1.sz,rfl⟩).trans ?_
  ·simp only[qo2,qce,cond_false];have:S.crashGo (d.2.drop l.length) [] s=s:=by cases d.2.drop l.length<;>rfl
   rw[this];rfl
  ·have hi:=r.lt;have hip:i<d.2.length:=by omega
   have hg:d.2[i]?=some d.2[i]:=List.getElem?_eq_getElem hip;obtain⟨z1,z2,z3⟩:=hf d.2[i] (List.getElem_mem hip);have hd:d.2.drop i=d.2[i]::d.2.drop (i+1):=List.drop_eq_getElem_cons hip;obtain⟨x,y1,y2,y3⟩:=qyr (l:=s) z2 (by rw[hs.2];exact z3);have hx:=hs.1 x y3;obtain⟨v0,v1⟩:=hk v r.mem;obtain⟨w1,w2,w3,w4⟩:=zha hx z1 v0 v1;simp only[qo2,r.ilt,r.get,r.next,cond_true,qbr,hg,y1,y2,w1,w2,w3,w4];rw[hd,zh3,List.getD_eq_getElem?_getD,y2];exact h _ ⟨zym hs.1 (zj8 hx z1 (by omega)),by rw[List.length_set];exact hs.2⟩
  ·rfl
 ·rw[qbg (show ¬_=Int.ofNat 0 from h0),Bool.not_false,cond_true,if_neg h0]
theorem zua:Con Tryz.prog zn3 zl8:=znm ⟨qm5,qnu,qr8,trivial⟩ fun x y hx h=>⟨LF,(zho x.1 x.2.1 (qct (c:=.int .i64) hx.2.1)).trans h⟩
def qlk:Nat->Option Nm:=fun k=>none
def qpq:Nat->Bool:=fun k=>false
def q3h:=qpq
abbrev qhm:Type:=ByteArray × Unit
def qwi:List (Nat × Sm):=[]
def qtu:List (Nat × Hx):=[]
def zci(R:Type)(lf:Nat):ClK R:=qan Tryz.prog ttT.get ftT.get (nm1 92 qlk) (smL qwi) (hxL qtu) lf 20 R
abbrev zus:Nat:=92
def q4e(lf:Nat)(x1:Int):Option qhm:=(some ((ByteArray.mk (Array.mk (List.cons (UInt8.ofBitVec (BitVec.ofFin (Fin.mk (Nat.mod (Int.toNat (IntKind.u8.wrap (Int.fdiv x1 (Int.ofNat 256)))) 256) (Nat.mod_lt (Int.toNat (IntKind.u8.wrap (Int.fdiv (x1,()).1 (HPow.hPow (OfNat.ofNat 2) (Min.min (Int.toNat (OfNat.ofNat 8)) (IntKind.bits IntKind.i64)))))) (BitVec.ofNat._proof_1 (OfNat.ofNat 8)))))) (List.cons (UInt8.ofBitVec (BitVec.ofFin (Fin.mk (Nat.mod (Int.toNat (IntKind.u8.wrap x1)) 256) (Nat.mod_lt (Int.toNat (IntKind.u8.wrap (x1,()).1)) (BitVec.ofNat._proof_1 (OfNat.ofNat 8)))))) [])))),()))
abbrev gz27:Type:=ElA [(.int .i64)]->Option qhm
abbrev sz27(g:gz27):Sm:=⟨[(.int .i64)],[(false,.str)],g⟩
abbrev Ez27(g:gz27)(J:JT qhm)(lf:Nat)(x1:Int):=qat Tryz.prog ttT.get qlk fi92.nt (zci _ lf) lf qpq J fi92.body [] (qal (argV [(.int .i64)] (x1,())) 0 .leaf) S0 [] (qak ttT.get fi92 (sz27 g))
theorem zjf(g:gz27)(J:JT qhm)(lf:Nat)(x1:Int):Ez27 g J lf x1=q4e lf x1:=by kernel_rfl
theorem z1u:(regs fi92.body).Nodup:=by decide +kernel
theorem zps:okC qlk qpq q3h fi92.body none=true:=by kernel_rfl
def Az27(g:gz27)(lf:Nat):JT qhm:=atN Tryz.prog ttT.get qlk fi92 (sz27 g) (zci _ lf) lf q3h
def Fz27(lf:Nat)(x1:Int):Option qhm:=q4e lf x1
theorem zrw(g:gz27)(lf:Nat)(x1:Int):Ez27 g (Az27 g lf) lf x1=Fz27 lf x1:=by
  refine(zjf g (Az27 g lf) lf x1).trans ?_;rfl
theorem zge:qaq Tryz.prog qtu:=trivial
theorem zm3{g:gz27}(hsm:SmOK Tryz.prog qwi)(hg:∀(x:ElA [(.int .i64)]) (y:qhm),WfA [(.int .i64)] x->g x=some y->∃lf,Fz27 lf x.1=some y):Con Tryz.prog 92 ⟨[(.int .i64)],[(false,.str)],g⟩ :=
 conT (nmf:=qlk) (sml:=qwi) (hxl:=qtu) (st:=qpq) (hd:=q3h) 20 mixed ttOK ftOK hsm zge zhm rfl rfl (by kernel_rfl) (fun x=>by kernel_rfl) z1u zps fun x y hx hy=>by
  obtain⟨lf,h⟩:=hg x y hx hy;exact⟨lf,(zrw g lf x.1).trans h⟩
def qjn:Nat->Option Nm:=fun k=>cond (Nat.beq k 3) (some ⟨[3,6,7,8],[],[],[],[],0,0,false⟩) (none)
def qoc:Nat->Bool:=fun k=>cond (Nat.beq k 3) true (false)
def qwu:=qoc
abbrev qcw:Type:=ByteArray × Unit
def qx5:List (Nat × Sm):=[(92,q2m)]
def qxz:List (Nat × Hx):=[]
def qvw(R:Type)(lf:Nat):ClK R:=qan Tryz.prog ttT.get ftT.get (nm1 91 qjn) (smL qx5) (hxL qxz) lf 20 R
abbrev znw:Nat:=91
def qjg(x1:(List qaa))(p:ByteArray × Int):NRes:=(NRes.mk (.node none (.node none (.node (some (IV.str p.1)) (.node (some (IV.int .i64 (Int.ofNat (List.length x1)))) .leaf .leaf) .leaf) .leaf) (.node none (.node none (.node (some (IV.int .i64 p.2)) .leaf .leaf) .leaf) (.node (some (IV.lst qad x1)) .leaf .leaf))) (IS.mk .leaf 0) [] 0)
def zdv(lf:Nat)(x1:(List qaa))(L3:(ByteArray × Int)->Option qcw):Option qcw:=(L3 ((S.lit []),(Int.ofNat 0)))
def qrb(lf:Nat)(x1:(List qaa))(L3:(ByteArray × Int)->Option qcw)(p:ByteArray × Int):Option qcw:=(cond (iltI p.2 (Int.ofNat (List.length x1))) (match (jget x1 p.2) with|.none  => none|.some v0=>(cond (Nat.ble (Nat.succ (Nat.add (ByteArray.size p.1) 1)) 9223372036854775808) (cond v0.2.2 (match (cond (S.inI (Int.ofNat 0) (Int.ofNat 0) (Int.ofNat 16777215)) (some ((S.lit [0,0]),())) none) with|.none  => none|.some v1=>(cond (Nat.ble (Nat.succ (Nat.add (ByteArray.size (ByteArray.append p.1 (ByteArray.mk (Array.mk (List.cons (UInt8.ofBitVec (BitVec.ofFin (Fin.mk (Nat.mod (Int.toNat (IntKind.u8.wrap v0.1)) 256) (Nat.mod_lt (Int.toNat (IntKind.u8.wrap v0.1)) (BitVec.ofNat._proof_1 (OfNat.ofNat 8)))))) []))))) (ByteArray.size v1.1))) 9223372036854775808) (L3 ((ByteArray.append (ByteArray.append p.1 (ByteArray.mk (Array.mk (List.cons (UInt8.ofBitVec (BitVec.ofFin (Fin.mk (Nat.mod (Int.toNat (IntKind.u8.wrap v0.1)) 256) (Nat.mod_lt (Int.toNat (IntKind.u8.wrap v0.1)) (BitVec.ofNat._proof_1 (OfNat.ofNat 8)))))) [])))) v1.1),(IntKind.i64.wrap (Int.add p.2 (Int.ofNat 1))))) none)) (match (cond (S.inI (IntKind.i64.wrap (Int.ofNat (Nat.add (ByteArray.size v0.2.1) 1))) (Int.ofNat 0) (Int.ofNat 16777215)) (some ((qaf (S.two (Int.toNat (IntKind.i64.wrap (Int.ofNat (Nat.add (ByteArray.size v0.2.1) 1)))))),())) none) with|.none  => none|.some v37=>(cond (Nat.ble (Nat.succ (Nat.add (ByteArray.size v37.1) (ByteArray.size v0.2.1))) 9223372036854775808) (cond (Nat.ble (Nat.succ (Nat.add (ByteArray.size (ByteArray.append p.1 (ByteArray.mk (Array.mk (List.cons (UInt8.ofBitVec (BitVec.ofFin (Fin.mk (Nat.mod (Int.toNat (IntKind.u8.wrap v0.1)) 256) (Nat.mod_lt (Int.toNat (IntKind.u8.wrap v0.1)) (BitVec.ofNat._proof_1 (OfNat.ofNat 8)))))) []))))) (ByteArray.size (ByteArray.append v37.1 v0.2.1)))) 9223372036854775808) (L3 ((ByteArray.append (ByteArray.append p.1 (ByteArray.mk (Array.mk (List.cons (UInt8.ofBitVec (BitVec.ofFin (Fin.mk (Nat.mod (Int.toNat (IntKind.u8.wrap v0.1)) 256) (Nat.mod_lt (Int.toNat (IntKind.u8.wrap v0.1)) (BitVec.ofNat._proof_1 (OfNat.ofNat 8)))))) [])))) (ByteArray.append v37.1 v0.2.1)),(IntKind.i64.wrap (Int.add p.2 (Int.ofNat 1))))) none) none))) none)) (some (p.1,())))
abbrev gz28:Type:=ElA [(.list qad)]->Option qcw
abbrev sz28(g:gz28):Sm:=⟨[(.list qad)],[(false,.str)],g⟩
abbrev Ez28(g:gz28)(J:JT qcw)(lf:Nat)(x1:(List qaa)):=qat Tryz.prog ttT.get qjn fi91.nt (qvw _ lf) lf qoc J fi91.body [] (qal (argV [(.list qad)] (x1,())) 0 .leaf) S0 [] (qak ttT.get fi91 (sz28 g))
abbrev Bz28(g:gz28)(J:JT qcw)(lf k:Nat)(ms:List Nat)(q:NRes):=qbu Tryz.prog ttT.get qjn fi91.nt (qvw _ lf) lf qoc J k fi91.body [] ms q (qak ttT.get fi91 (sz28 g))
theorem zso(g:gz28)(J:JT qcw)(lf:Nat)(x1:(List qaa)):Ez28 g J lf x1=zdv lf x1 (fun q=>J 3 [lf] (qjg x1 q)):=by kernel_rfl
theorem zpj(g:gz28)(J:JT qcw)(lf:Nat)(x1:(List qaa))(m1:Nat)(p:ByteArray × Int):Bz28 g J lf 3 [m1] (qjg x1 p)=qrb lf x1 (fun q=>J 3 [m1] (qjg x1 q)) p:=by kernel_rfl
theorem q5r:(regs fi91.body).Nodup:=by decide +kernel
theorem zee:okC qjn qoc qwu fi91.body none=true:=by kernel_rfl
def Az28(g:gz28)(lf:Nat):JT qcw:=atN Tryz.prog ttT.get qjn fi91 (sz28 g) (qvw _ lf) lf qwu
def qqi(lf:Nat)(x1:(List qaa)):Nat->(ByteArray × Int)->Option qcw:=qa2 fun K p=>qrb lf x1 K p
theorem q84(g:gz28)(lf:Nat)(x1:(List qaa)):∀(n:Nat) (p:ByteArray × Int),Az28 g lf 3 [n] (qjg x1 p)=qqi lf x1 n p
 | 0,p=>qbm 3 [0] rfl _
 | n+1,p=>by
  have ih:=q84 g lf x1 n;refine(qbl (qa6 20 _) q5r zee 3 [n+1] [n] rfl _).trans ((zpj g (Az28 g lf) lf x1 n p).trans ?_);rw[(show (fun q=>Az28 g lf 3 [n] (qjg x1 q))=(fun q=>qqi lf x1 n q) from funext ih)];rfl
def Fz28(lf:Nat)(x1:(List qaa)):Option qcw:=zdv lf x1 (fun q=>qqi lf x1 lf q)
theorem zg5(g:gz28)(lf:Nat)(x1:(List qaa)):Ez28 g (Az28 g lf) lf x1=Fz28 lf x1:=by
  refine(zso g (Az28 g lf) lf x1).trans ?_;rw[(show (fun q=>Az28 g lf 3 [lf] (qjg x1 q))=(fun q=>qqi lf x1 lf q) from funext fun q=>q84 g lf x1 lf q)];rfl
theorem zpo:qaq Tryz.prog qxz:=trivial
theorem zg1{g:gz28}(hsm:SmOK Tryz.prog qx5)(hg:∀(x:ElA [(.list qad)]) (y:qcw),WfA [(.list qad)] x->g x=some y->∃lf,Fz28 lf x.1=some y):Con Tryz.prog 91 ⟨[(.list qad)],[(false,.str)],g⟩ :=
 conT (nmf:=qjn) (sml:=qx5) (hxl:=qxz) (st:=qoc) (hd:=qwu) 20 mixed ttOK ftOK hsm zpo z0y rfl rfl (by kernel_rfl) (fun x=>by kernel_rfl) q5r zee fun x y hx hy=>by
  obtain⟨lf,h⟩:=hg x y hx hy;exact⟨lf,(zg5 g lf x.1).trans h⟩
def qkc:Nat->Option Nm:=fun k=>cond (Nat.beq k 3) (some ⟨[4],[],[],[],[],0,0,false⟩) (cond (Nat.beq k 6) (some ⟨[4,5],[(5,.str)],[],[],[],0,0,false⟩) (none))
def qlg:Nat->Bool:=fun k=>cond (Nat.beq k 3) true (cond (Nat.beq k 6) true (false))
def q37:=qlg
abbrev qb9:Type:=(List ByteArray) × Unit
def qz2:List (Nat × Sm):=[(91,q7r),(92,q2m)]
def q3q:List (Nat × Hx):=[]
def q3e(R:Type)(lf:Nat):ClK R:=qan Tryz.prog ttT.get ftT.get (nm1 56 qkc) (smL qz2) (hxL q3q) lf 20 R
abbrev zmo:Nat:=56
def qjy(x1:(List qaa))(p:ByteArray):NRes:=(NRes.mk (.node none .leaf (.node none (.node (some (IV.str p)) .leaf .leaf) .leaf)) (IS.mk .leaf 0) [] 0)
def qjj(x1:(List qaa))(p:ByteArray × (List ByteArray)):NRes:=(NRes.mk (.node none (.node none .leaf (.node (some (IV.arr 0)) .leaf .leaf)) (.node none (.node (some (IV.str p.1)) .leaf .leaf) .leaf)) (IS.mk (.node (some (IObj.arr TC.str p.2)) .leaf .leaf) 1) [] 0)
def qxp(lf:Nat)(x1:(List qaa))(L3:ByteArray->Option qb9):Option qb9:=(match (cond (S.pk x1) (some ((qaf (S.body x1)),())) none) with|.none  => none|.some v0=>(match (cond (S.inI (Int.ofNat (ByteArray.size v0.1)) (Int.ofNat 0) (Int.ofNat 16777215)) (some ((qaf (S.two (Int.toNat (Int.ofNat (ByteArray.size v0.1))))),())) none) with|.none  => none|.some v1=>(cond (Nat.ble (Nat.succ (Nat.add 2 (ByteArray.size v1.1))) 9223372036854775808) (cond (Nat.ble (Nat.succ (Nat.add (ByteArray.size (ByteArray.append (ByteArray.mk (Array.mk (List.cons (UInt8.ofBitVec (BitVec.ofFin (Fin.mk 1 (Nat.mod_lt (Int.toNat (OfNat.ofNat 1)) (BitVec.ofNat._proof_1 (OfNat.ofNat 8)))))) (List.cons (UInt8.ofBitVec (BitVec.ofFin (Fin.mk (Nat.mod (Int.toNat (IntKind.u8.wrap (Int.fdiv (Int.ofNat (ByteArray.size v0.1)) (Int.ofNat 65536)))) 256) (Nat.mod_lt (Int.toNat (IntKind.u8.wrap (Int.fdiv (Nat.cast (ByteArray.size v0.1)) (HPow.hPow (OfNat.ofNat 2) (Min.min (Int.toNat (OfNat.ofNat 16)) (IntKind.bits IntKind.i64)))))) (BitVec.ofNat._proof_1 (OfNat.ofNat 8)))))) [])))) v1.1)) (ByteArray.size v0.1))) 9223372036854775808) (L3 (ByteArray.append (ByteArray.append (ByteArray.mk (Array.mk (List.cons (UInt8.ofBitVec (BitVec.ofFin (Fin.mk 1 (Nat.mod_lt (Int.toNat (OfNat.ofNat 1)) (BitVec.ofNat._proof_1 (OfNat.ofNat 8)))))) (List.cons (UInt8.ofBitVec (BitVec.ofFin (Fin.mk (Nat.mod (Int.toNat (IntKind.u8.wrap (Int.fdiv (Int.ofNat (ByteArray.size v0.1)) (Int.ofNat 65536)))) 256) (Nat.mod_lt (Int.toNat (IntKind.u8.wrap (Int.fdiv (Nat.cast (ByteArray.size v0.1)) (HPow.hPow (OfNat.ofNat 2) (Min.min (Int.toNat (OfNat.ofNat 16)) (IntKind.bits IntKind.i64)))))) (BitVec.ofNat._proof_1 (OfNat.ofNat 8)))))) [])))) v1.1) v0.1)) none) none)))
def qju(lf:Nat)(x1:(List qaa))(L3:ByteArray->Option qb9)(L6:(ByteArray × (List ByteArray))->Option qb9)(p:ByteArray):Option qb9:=(cond (Bool.not (ieqI (Int.ofNat (Nat.mod (ByteArray.size p) 64)) (Int.ofNat 0))) (cond (Nat.ble (Nat.succ (Nat.add (ByteArray.size p) 1)) 9223372036854775808) (L3 (ByteArray.append p (S.lit [0]))) none) (L6 (p,[])))
def qkp(lf:Nat)(x1:(List qaa))(L6:(ByteArray × (List ByteArray))->Option qb9)(p:ByteArray × (List ByteArray)):Option qb9:=(cond (iltI (Int.ofNat 0) (Int.ofNat (ByteArray.size p.1))) (cond (lchk (Int.ofNat 0) (Int.ofNat 64) (Int.ofNat (ByteArray.size p.1)) (Int.ofNat (ByteArray.size p.1))) (cond (Nat.ble (Nat.mul (Nat.add (List.length p.2) 1) 16) 140737488355328) (cond (lchk (Int.ofNat 64) (Int.ofNat (ByteArray.size p.1)) (Int.ofNat (ByteArray.size p.1)) (Int.ofNat (ByteArray.size p.1))) (L6 ((ByteArray.extract p.1 64 (Int.toNat (Int.ofNat (ByteArray.size p.1)))),(List.append p.2 (List.cons (ByteArray.extract p.1 0 64) [])))) none) none) none) (some (p.2,())))
abbrev gz29:Type:=ElA [(.list qad)]->Option qb9
abbrev sz29(g:gz29):Sm:=⟨[(.list qad)],[(true,.str)],g⟩
abbrev Ez29(g:gz29)(J:JT qb9)(lf:Nat)(x1:(List qaa)):=qat Tryz.prog ttT.get qkc fi56.nt (q3e _ lf) lf qlg J fi56.body [] (qal (argV [(.list qad)] (x1,())) 0 .leaf) S0 [] (qak ttT.get fi56 (sz29 g))
abbrev Bz29(g:gz29)(J:JT qb9)(lf k:Nat)(ms:List Nat)(q:NRes):=qbu Tryz.prog ttT.get qkc fi56.nt (q3e _ lf) lf qlg J k fi56.body [] ms q (qak ttT.get fi56 (sz29 g))
theorem z0i(g:gz29)(J:JT qb9)(lf:Nat)(x1:(List qaa)):Ez29 g J lf x1=qxp lf x1 (fun q=>J 3 [lf] (qjy x1 q)):=by kernel_rfl
theorem z2j(g:gz29)(J:JT qb9)(lf:Nat)(x1:(List qaa))(m1:Nat)(p:ByteArray):Bz29 g J lf 3 [m1] (qjy x1 p)=qju lf x1 (fun q=>J 3 [m1] (qjy x1 q)) (fun q=>J 6 [lf] (qjj x1 q)) p:=by kernel_rfl
theorem ztg(g:gz29)(J:JT qb9)(lf:Nat)(x1:(List qaa))(m1:Nat)(p:ByteArray × (List ByteArray)):Bz29 g J lf 6 [m1] (qjj x1 p)=qkp lf x1 (fun q=>J 6 [m1] (qjj x1 q)) p:=by kernel_rfl
theorem qzs:(regs fi56.body).Nodup:=by decide +kernel
theorem q00:okC qkc qlg q37 fi56.body none=true:=by kernel_rfl
def Az29(g:gz29)(lf:Nat):JT qb9:=atN Tryz.prog ttT.get qkc fi56 (sz29 g) (q3e _ lf) lf q37
def qdo(lf:Nat)(x1:(List qaa)):Nat->(ByteArray × (List ByteArray))->Option qb9:=qa2 fun K p=>qkp lf x1 K p
theorem zav(g:gz29)(lf:Nat)(x1:(List qaa)):∀(n:Nat) (p:ByteArray × (List ByteArray)),Az29 g lf 6 [n] (qjj x1 p)=qdo lf x1 n p
 | 0,p=>qbm 6 [0] rfl _
 | n+1,p=>by
  have ih:=zav g lf x1 n;refine(qbl (qa6 20 _) qzs q00 6 [n+1] [n] rfl _).trans ((ztg g (Az29 g lf) lf x1 n p).trans ?_);rw[(show (fun q=>Az29 g lf 6 [n] (qjj x1 q))=(fun q=>qdo lf x1 n q) from funext ih)];rfl
def qgn(lf:Nat)(x1:(List qaa)):Nat->(ByteArray)->Option qb9:=qa2 fun K p=>qju lf x1 K (fun q=>qdo lf x1 lf q) p
theorem zdw(g:gz29)(lf:Nat)(x1:(List qaa)):∀(n:Nat) (p:ByteArray),Az29 g lf 3 [n] (qjy x1 p)=qgn lf x1 n p
 | 0,p=>qbm 3 [0] rfl _
 | n+1,p=>by
  have ih:=zdw g lf x1 n;refine(qbl (qa6 20 _) qzs q00 3 [n+1] [n] rfl _).trans ((z2j g (Az29 g lf) lf x1 n p).trans ?_);rw[(show (fun q=>Az29 g lf 6 [lf] (qjj x1 q))=(fun q=>qdo lf x1 lf q) from funext fun q=>zav g lf x1 lf q),(show (fun q=>Az29 g lf 3 [n] (qjy x1 q))=(fun q=>qgn lf x1 n q) from funext ih)];rfl
def Fz29(lf:Nat)(x1:(List qaa)):Option qb9:=qxp lf x1 (fun q=>qgn lf x1 lf q)
theorem z23(g:gz29)(lf:Nat)(x1:(List qaa)):Ez29 g (Az29 g lf) lf x1=Fz29 lf x1:=by
  refine(z0i g (Az29 g lf) lf x1).trans ?_;rw[(show (fun q=>Az29 g lf 3 [lf] (qjy x1 q))=(fun q=>qgn lf x1 lf q) from funext fun q=>zdw g lf x1 lf q)];rfl
theorem zx6:qaq Tryz.prog q3q:=trivial
theorem zv4{g:gz29}(hsm:SmOK Tryz.prog qz2)(hg:∀(x:ElA [(.list qad)]) (y:qb9),WfA [(.list qad)] x->g x=some y->∃lf,Fz29 lf x.1=some y):Con Tryz.prog 56 ⟨[(.list qad)],[(true,.str)],g⟩ :=
 conT (nmf:=qkc) (sml:=qz2) (hxl:=q3q) (st:=qlg) (hd:=q37) 20 mixed ttOK ftOK hsm zx6 zuq rfl rfl (by kernel_rfl) (fun x=>by kernel_rfl) qzs q00 fun x y hx hy=>by
  obtain⟨lf,h⟩:=hg x y hx hy;exact⟨lf,(z23 g lf x.1).trans h⟩
def ql5:Nat->Option Nm:=fun k=>none
def qq2:Nat->Bool:=fun k=>false
def q3i:=qq2
abbrev qha:Type:=ByteArray × Unit
def q2l:List (Nat × Sm):=[]
def qt7:List (Nat × Hx):=[]
def q5l(R:Type)(lf:Nat):ClK R:=qan Tryz.prog ttT.get ftT.get (nm1 101 ql5) (smL q2l) (hxL qt7) lf 20 R
abbrev z06:Nat:=101
def qz1(lf:Nat)(x1:ByteArray):Option qha:=(cond (lchk (Int.ofNat 1) (Int.ofNat (ByteArray.size x1)) (Int.ofNat (ByteArray.size x1)) (Int.ofNat (ByteArray.size x1))) (cond (Nat.ble (Nat.succ (Nat.add 1 (ByteArray.size (ByteArray.extract x1 1 (Int.toNat (Int.ofNat (ByteArray.size x1))))))) 9223372036854775808) (some ((ByteArray.append (S.lit [0]) (ByteArray.extract x1 1 (Int.toNat (Int.ofNat (ByteArray.size x1))))),())) none) none)
abbrev gz30:Type:=ElA [.str]->Option qha
abbrev sz30(g:gz30):Sm:=⟨[.str],[(false,.str)],g⟩
abbrev Ez30(g:gz30)(J:JT qha)(lf:Nat)(x1:ByteArray):=qat Tryz.prog ttT.get ql5 qfc.nt (q5l _ lf) lf qq2 J qfc.body [] (qal (argV [.str] (x1,())) 0 .leaf) S0 [] (qak ttT.get qfc (sz30 g))
theorem z3h(g:gz30)(J:JT qha)(lf:Nat)(x1:ByteArray):Ez30 g J lf x1=qz1 lf x1:=by kernel_rfl
theorem zvz:(regs qfc.body).Nodup:=by decide +kernel
theorem zvs:okC ql5 qq2 q3i qfc.body none=true:=by kernel_rfl
def Az30(g:gz30)(lf:Nat):JT qha:=atN Tryz.prog ttT.get ql5 qfc (sz30 g) (q5l _ lf) lf q3i
def Fz30(lf:Nat)(x1:ByteArray):Option qha:=qz1 lf x1
theorem zpg(g:gz30)(lf:Nat)(x1:ByteArray):Ez30 g (Az30 g lf) lf x1=Fz30 lf x1:=by
  refine(z3h g (Az30 g lf) lf x1).trans ?_;rfl
theorem zsm:qaq Tryz.prog qt7:=trivial
theorem zop{g:gz30}(hsm:SmOK Tryz.prog q2l)(hg:∀(x:ElA [.str]) (y:qha),WfA [.str] x->g x=some y->∃lf,Fz30 lf x.1=some y):Con Tryz.prog 101 ⟨[.str],[(false,.str)],g⟩ :=
 conT (nmf:=ql5) (sml:=q2l) (hxl:=qt7) (st:=qq2) (hd:=q3i) 20 mixed ttOK ftOK hsm zsm z4n rfl rfl (by kernel_rfl) (fun x=>by kernel_rfl) zvz zvs fun x y hx hy=>by
  obtain⟨lf,h⟩:=hg x y hx hy;exact⟨lf,(zpg g lf x.1).trans h⟩
def qkz:Nat->Option Nm:=fun k=>none
def qp1:Nat->Bool:=fun k=>false
def q2o:=qp1
abbrev qh2:Type:=zox × Unit
def q0k:List (Nat × Sm):=[]
def qvo:List (Nat × Hx):=[]
def q8l(R:Type)(lf:Nat):ClK R:=qan Tryz.prog ttT.get ftT.get (nm1 93 qkz) (smL q0k) (hxL qvo) lf 20 R
abbrev zu5:Nat:=93
def quq(lf:Nat)(x1:Int)(x2:Int):Option qh2:=(cond (ieqI x2 (Int.ofNat 0)) (some (((Int.ofNat 1),(IntKind.i64.wrap (Int.tdiv x1 (Int.ofNat 2)))),())) (some (((IntKind.i64.wrap (Int.tdiv x1 (Int.ofNat 2))),(IntKind.i64.wrap (Int.sub x1 (Int.ofNat 1)))),())))
abbrev gz31:Type:=ElA [(.int .i64),(.int .i64)]->Option qh2
abbrev sz31(g:gz31):Sm:=⟨[(.int .i64),(.int .i64)],[(false,qun)],g⟩
abbrev Ez31(g:gz31)(J:JT qh2)(lf:Nat)(x1:Int)(x2:Int):=qat Tryz.prog ttT.get qkz fi93.nt (q8l _ lf) lf qp1 J fi93.body [] (qal (argV [(.int .i64),(.int .i64)] (x1,x2,())) 0 .leaf) S0 [] (qak ttT.get fi93 (sz31 g))
theorem zuh(g:gz31)(J:JT qh2)(lf:Nat)(x1:Int)(x2:Int):Ez31 g J lf x1 x2=quq lf x1 x2:=by kernel_rfl
theorem zj4:(regs fi93.body).Nodup:=by decide +kernel
theorem zwb:okC qkz qp1 q2o fi93.body none=true:=by kernel_rfl
def Az31(g:gz31)(lf:Nat):JT qh2:=atN Tryz.prog ttT.get qkz fi93 (sz31 g) (q8l _ lf) lf q2o
def Fz31(lf:Nat)(x1:Int)(x2:Int):Option qh2:=quq lf x1 x2
theorem zrg(g:gz31)(lf:Nat)(x1:Int)(x2:Int):Ez31 g (Az31 g lf) lf x1 x2=Fz31 lf x1 x2:=by
  refine(zuh g (Az31 g lf) lf x1 x2).trans ?_;rfl
theorem zib:qaq Tryz.prog qvo:=trivial
theorem zmc{g:gz31}(hsm:SmOK Tryz.prog q0k)(hg:∀(x:ElA [(.int .i64),(.int .i64)]) (y:qh2),WfA [(.int .i64),(.int .i64)] x->g x=some y->∃lf,Fz31 lf x.1 x.2.1=some y):Con Tryz.prog 93 ⟨[(.int .i64),(.int .i64)],[(false,qun)],g⟩ :=
 conT (nmf:=qkz) (sml:=q0k) (hxl:=qvo) (st:=qp1) (hd:=q2o) 20 mixed ttOK ftOK hsm zib zn4 rfl rfl (by kernel_rfl) (fun x=>by kernel_rfl) zj4 zwb fun x y hx hy=>by
  obtain⟨lf,h⟩:=hg x y hx hy;exact⟨lf,(zrg g lf x.1 x.2.1).trans h⟩
def qlr:Nat->Option Nm:=fun k=>none
def qoz:Nat->Bool:=fun k=>false
def q13:=qoz
abbrev qgq:Type:=Int × Int × Unit
def qw5:List (Nat × Sm):=[]
def qu9:List (Nat × Hx):=[]
def q53(R:Type)(lf:Nat):ClK R:=qan Tryz.prog ttT.get ftT.get (nm1 62 qlr) (smL qw5) (hxL qu9) lf 20 R
abbrev zss:Nat:=62
def q1x(lf:Nat)(x1:qab)(x2:Int):Option qgq:=(cond (ieqI x2 (Int.ofNat 0)) (some ((Int.ofNat 1),((IntKind.i64.wrap (Int.ofNat (Nat.div (List.length x1.1) 2))),()))) (some ((IntKind.i64.wrap (Int.ofNat (Nat.div (List.length x1.1) 2))),((IntKind.i64.wrap (Int.sub (IntKind.i64.wrap (Int.mul (Int.ofNat 2) (IntKind.i64.wrap (Int.ofNat (Nat.div (List.length x1.1) 2))))) (Int.ofNat 1))),()))))
abbrev gz32:Type:=ElA [cDisk,(.int .i64)]->Option qgq
abbrev sz32(g:gz32):Sm:=⟨[cDisk,(.int .i64)],[(false,(.int .i64)),(false,(.int .i64))],g⟩
abbrev Ez32(g:gz32)(J:JT qgq)(lf:Nat)(x1:qab)(x2:Int):=qat Tryz.prog ttT.get qlr fi62.nt (q53 _ lf) lf qoz J fi62.body [] (qal (argV [cDisk,(.int .i64)] (x1,x2,())) 0 .leaf) S0 [] (qak ttT.get fi62 (sz32 g))
theorem zgz(g:gz32)(J:JT qgq)(lf:Nat)(x1:qab)(x2:Int):Ez32 g J lf x1 x2=q1x lf x1 x2:=by kernel_rfl
theorem zji:(regs fi62.body).Nodup:=by decide +kernel
theorem z0w:okC qlr qoz q13 fi62.body none=true:=by kernel_rfl
def Az32(g:gz32)(lf:Nat):JT qgq:=atN Tryz.prog ttT.get qlr fi62 (sz32 g) (q53 _ lf) lf q13
def Fz32(lf:Nat)(x1:qab)(x2:Int):Option qgq:=q1x lf x1 x2
theorem zf6(g:gz32)(lf:Nat)(x1:qab)(x2:Int):Ez32 g (Az32 g lf) lf x1 x2=Fz32 lf x1 x2:=by
  refine(zgz g (Az32 g lf) lf x1 x2).trans ?_;rfl
theorem zye:qaq Tryz.prog qu9:=trivial
theorem zsc{g:gz32}(hsm:SmOK Tryz.prog qw5)(hg:∀(x:ElA [cDisk,(.int .i64)]) (y:qgq),WfA [cDisk,(.int .i64)] x->g x=some y->∃lf,Fz32 lf x.1 x.2.1=some y):Con Tryz.prog 62 ⟨[cDisk,(.int .i64)],[(false,(.int .i64)),(false,(.int .i64))],g⟩ :=
 conT (nmf:=qlr) (sml:=qw5) (hxl:=qu9) (st:=qoz) (hd:=q13) 20 mixed ttOK ftOK hsm zye z18 rfl rfl (by kernel_rfl) (fun x=>by kernel_rfl) zji z0w fun x y hx hy=>by
  obtain⟨lf,h⟩:=hg x y hx hy;exact⟨lf,(zf6 g lf x.1 x.2.1).trans h⟩
def qjd:Nat->Option Nm:=fun k=>cond (Nat.beq k 3) (some ⟨[0,1,5,6],[],[],[],[],0,0,false⟩) (none)
def qlv:Nat->Bool:=fun k=>cond (Nat.beq k 3) true (false)
def q2u:=qlv
abbrev qdm:Type:=ByteArray × Unit
def qwb:List (Nat × Sm):=[]
def qv0:List (Nat × Hx):=[]
def q1y(R:Type)(lf:Nat):ClK R:=qan Tryz.prog ttT.get ftT.get (nm1 89 qjd) (smL qwb) (hxL qv0) lf 20 R
abbrev zx9:Nat:=89
def qjz(x1:Int)(x2:Int)(p:Int × ByteArray × Int):NRes:=(NRes.mk (.node (some (IV.int .i64 p.1)) (.node (some (IV.int .i64 x2)) .leaf (.node (some (IV.str p.2.1)) .leaf .leaf)) (.node none .leaf (.node (some (IV.int .i64 p.2.2)) .leaf .leaf))) (IS.mk .leaf 0) [] 0)
def q1p(lf:Nat)(x1:Int)(x2:Int)(L3:(Int × ByteArray × Int)->Option qdm):Option qdm:=(L3 (x1,(S.lit []),(Int.ofNat 0)))
def qi3(lf:Nat)(x1:Int)(x2:Int)(L3:(Int × ByteArray × Int)->Option qdm)(p:Int × ByteArray × Int):Option qdm:=(cond (iltI p.2.2 x2) (cond (Nat.ble (Nat.succ (Nat.add 1 (ByteArray.size p.2.1))) 9223372036854775808) (L3 ((IntKind.i64.wrap (Int.tdiv p.1 (Int.ofNat 256))),(ByteArray.append (ByteArray.mk (Array.mk (List.cons (UInt8.ofBitVec (BitVec.ofFin (Fin.mk (Nat.mod (Int.toNat (IntKind.u8.wrap (Int.tmod p.1 (Int.ofNat 256)))) 256) (Nat.mod_lt (Int.toNat (IntKind.u8.wrap (Int.tmod p.1 (OfNat.ofNat 256)))) (BitVec.ofNat._proof_1 (OfNat.ofNat 8)))))) []))) p.2.1),(IntKind.i64.wrap (Int.add p.2.2 (Int.ofNat 1))))) none) (some (p.2.1,())))
abbrev gz33:Type:=ElA [(.int .i64),(.int .i64)]->Option qdm
abbrev sz33(g:gz33):Sm:=⟨[(.int .i64),(.int .i64)],[(false,.str)],g⟩
abbrev Ez33(g:gz33)(J:JT qdm)(lf:Nat)(x1:Int)(x2:Int):=qat Tryz.prog ttT.get qjd fi89.nt (q1y _ lf) lf qlv J fi89.body [] (qal (argV [(.int .i64),(.int .i64)] (x1,x2,())) 0 .leaf) S0 [] (qak ttT.get fi89 (sz33 g))
abbrev Bz33(g:gz33)(J:JT qdm)(lf k:Nat)(ms:List Nat)(q:NRes):=qbu Tryz.prog ttT.get qjd fi89.nt (q1y _ lf) lf qlv J k fi89.body [] ms q (qak ttT.get fi89 (sz33 g))
theorem zry(g:gz33)(J:JT qdm)(lf:Nat)(x1:Int)(x2:Int):Ez33 g J lf x1 x2=q1p lf x1 x2 (fun q=>J 3 [lf] (qjz x1 x2 q)):=by kernel_rfl
theorem zq1(g:gz33)(J:JT qdm)(lf:Nat)(x1:Int)(x2:Int)(m1:Nat)(p:Int × ByteArray × Int):Bz33 g J lf 3 [m1] (qjz x1 x2 p)=qi3 lf x1 x2 (fun q=>J 3 [m1] (qjz x1 x2 q)) p:=by kernel_rfl
theorem zed:(regs fi89.body).Nodup:=by decide +kernel
theorem q80:okC qjd qlv q2u fi89.body none=true:=by kernel_rfl
def Az33(g:gz33)(lf:Nat):JT qdm:=atN Tryz.prog ttT.get qjd fi89 (sz33 g) (q1y _ lf) lf q2u
def qg5(lf:Nat)(x1:Int)(x2:Int):Nat->(Int × ByteArray × Int)->Option qdm:=qa2 fun K p=>qi3 lf x1 x2 K p
theorem q6a(g:gz33)(lf:Nat)(x1:Int)(x2:Int):∀(n:Nat) (p:Int × ByteArray × Int),Az33 g lf 3 [n] (qjz x1 x2 p)=qg5 lf x1 x2 n p
 | 0,p=>qbm 3 [0] rfl _
 | n+1,p=>by
  have ih:=q6a g lf x1 x2 n;refine(qbl (qa6 20 _) zed q80 3 [n+1] [n] rfl _).trans ((zq1 g (Az33 g lf) lf x1 x2 n p).trans ?_);rw[(show (fun q=>Az33 g lf 3 [n] (qjz x1 x2 q))=(fun q=>qg5 lf x1 x2 n q) from funext ih)];rfl
def Fz33(lf:Nat)(x1:Int)(x2:Int):Option qdm:=q1p lf x1 x2 (fun q=>qg5 lf x1 x2 lf q)
theorem z2k(g:gz33)(lf:Nat)(x1:Int)(x2:Int):Ez33 g (Az33 g lf) lf x1 x2=Fz33 lf x1 x2:=by
  refine(zry g (Az33 g lf) lf x1 x2).trans ?_;rw[(show (fun q=>Az33 g lf 3 [lf] (qjz x1 x2 q))=(fun q=>qg5 lf x1 x2 lf q) from funext fun q=>q6a g lf x1 x2 lf q)];rfl
theorem zk7:qaq Tryz.prog qv0:=trivial
theorem zgq{g:gz33}(hsm:SmOK Tryz.prog qwb)(hg:∀(x:ElA [(.int .i64),(.int .i64)]) (y:qdm),WfA [(.int .i64),(.int .i64)] x->g x=some y->∃lf,Fz33 lf x.1 x.2.1=some y):Con Tryz.prog 89 ⟨[(.int .i64),(.int .i64)],[(false,.str)],g⟩ :=
 conT (nmf:=qjd) (sml:=qwb) (hxl:=qv0) (st:=qlv) (hd:=q2u) 20 mixed ttOK ftOK hsm zk7 zqm rfl rfl (by kernel_rfl) (fun x=>by kernel_rfl) zed q80 fun x y hx hy=>by
  obtain⟨lf,h⟩:=hg x y hx hy;exact⟨lf,(z2k g lf x.1 x.2.1).trans h⟩
def qi8:Nat->Option Nm:=fun k=>cond (Nat.beq k 3) (some ⟨[0,1,5,6],[],[],[],[],0,0,false⟩) (cond (Nat.beq k 12) (some ⟨[7,8,9],[(8,.str)],[],[],[],0,0,false⟩) (none))
def ql8:Nat->Bool:=fun k=>cond (Nat.beq k 3) true (cond (Nat.beq k 12) true (false))
def qu8:=ql8
abbrev qbx:Type:=(List ByteArray) × Unit
def q1m:List (Nat × Sm):=[(89,za5),(57,qq3)]
def qwp:List (Nat × Hx):=[]
def q38(R:Type)(lf:Nat):ClK R:=qan Tryz.prog ttT.get ftT.get (nm1 60 qi8) (smL q1m) (hxL qwp) lf 20 R
abbrev z3d:Nat:=60
def qih(x1:(List qaa))(x2:Int)(p:ByteArray × Int):NRes:=(NRes.mk (.node (some (IV.lst qad x1)) (.node (some (IV.int .i64 x2)) .leaf (.node (some (IV.str p.1)) .leaf .leaf)) (.node none .leaf (.node (some (IV.int .i64 p.2)) .leaf .leaf))) (IS.mk .leaf 0) [] 0)
def qji(x1:(List qaa))(x2:Int)(p:ByteArray × Int × (List ByteArray)):NRes:=(NRes.mk (.node none (.node none (.node none (.node (some (IV.str p.1)) .leaf .leaf) .leaf) (.node none (.node (some (IV.int .i64 p.2.1)) .leaf .leaf) .leaf)) (.node none (.node none (.node (some (IV.arr 0)) .leaf .leaf) .leaf) .leaf)) (IS.mk (.node (some (IObj.arr TC.str p.2.2)) .leaf .leaf) 1) [] 0)
def q41(lf:Nat)(x1:(List qaa))(x2:Int)(L3:(ByteArray × Int)->Option qbx):Option qbx:=(L3 ((S.lit []),(Int.ofNat 0)))
def qoa(lf:Nat)(x1:(List qaa))(x2:Int)(L3:(ByteArray × Int)->Option qbx)(L12:(ByteArray × Int × (List ByteArray))->Option qbx)(p:ByteArray × Int):Option qbx:=(cond (iltI p.2 (Int.ofNat (List.length x1))) (match (jget x1 p.2) with|.none  => none|.some v0=>(match (cond (Bool.and (S.inI v0.1 (Int.ofNat 0) (Int.ofNat 16777215)) (S.inI (Int.ofNat 1) (Int.ofNat 0) (Int.ofNat 3))) (some ((qaf (S.numB (Int.toNat v0.1) 1)),())) none) with|.none  => none|.some v1=>(cond (Nat.ble (Nat.succ (Nat.add (ByteArray.size p.1) (ByteArray.size v1.1))) 9223372036854775808) (match (jget x1 p.2) with|.none  => none|.some v2=>(cond v2.2.2 (cond (Nat.ble (Nat.succ (Nat.add (ByteArray.size (ByteArray.append p.1 v1.1)) 2)) 9223372036854775808) (L3 ((ByteArray.append (ByteArray.append p.1 v1.1) (S.lit [0,0])),(IntKind.i64.wrap (Int.add p.2 (Int.ofNat 1))))) none) (match (jget x1 p.2) with|.none  => none|.some v26=>(match (cond (Bool.and (S.inI (IntKind.i64.wrap (Int.ofNat (Nat.add (ByteArray.size v26.2.1) 1))) (Int.ofNat 0) (Int.ofNat 16777215)) (S.inI (Int.ofNat 2) (Int.ofNat 0) (Int.ofNat 3))) (some ((qaf (S.numB (Int.toNat (IntKind.i64.wrap (Int.ofNat (Nat.add (ByteArray.size v26.2.1) 1)))) 2)),())) none) with|.none  => none|.some v27=>(cond (Nat.ble (Nat.succ (Nat.add (ByteArray.size (ByteArray.append p.1 v1.1)) (ByteArray.size v27.1))) 9223372036854775808) (match (jget x1 p.2) with|.none  => none|.some v28=>(cond (Nat.ble (Nat.succ (Nat.add (ByteArray.size (ByteArray.append (ByteArray.append p.1 v1.1) v27.1)) (ByteArray.size v28.2.1))) 9223372036854775808) (L3 ((ByteArray.append (ByteArray.append (ByteArray.append p.1 v1.1) v27.1) v28.2.1),(IntKind.i64.wrap (Int.add p.2 (Int.ofNat 1))))) none)) none))))) none))) (match (cond (Bool.and (S.inI x2 (Int.ofNat 0) (Int.ofNat 16777215)) (S.inI (Int.ofNat 1) (Int.ofNat 0) (Int.ofNat 3))) (some ((qaf (S.numB (Int.toNat x2) 1)),())) none) with|.none  => none|.some v29=>(match (cond (Bool.and (S.inI (Int.ofNat (ByteArray.size p.1)) (Int.ofNat 0) (Int.ofNat 16777215)) (S.inI (Int.ofNat 3) (Int.ofNat 0) (Int.ofNat 3))) (some ((qaf (S.numB (Int.toNat (Int.ofNat (ByteArray.size p.1))) 3)),())) none) with|.none  => none|.some v30=>(cond (Nat.ble (Nat.succ (Nat.add (ByteArray.size v29.1) (ByteArray.size v30.1))) 9223372036854775808) (cond (Nat.ble (Nat.succ (Nat.add (ByteArray.size (ByteArray.append v29.1 v30.1)) (ByteArray.size p.1))) 9223372036854775808) (L12 ((ByteArray.append (ByteArray.append v29.1 v30.1) p.1),(Int.ofNat 0),[])) none) none))))
def qph(lf:Nat)(x1:(List qaa))(x2:Int)(L12:(ByteArray × Int × (List ByteArray))->Option qbx)(p:ByteArray × Int × (List ByteArray)):Option qbx:=(cond (iltI p.2.1 (Int.ofNat (ByteArray.size p.1))) (cond (lchk p.2.1 (imin (Int.ofNat (ByteArray.size p.1)) (IntKind.i64.wrap (Int.add p.2.1 (Int.ofNat 64)))) (Int.ofNat (ByteArray.size p.1)) (Int.ofNat (ByteArray.size p.1))) (match (cond (S.inI (IntKind.i64.wrap (Int.sub (Int.ofNat 64) (IntKind.i64.wrap (Int.sub (imin (Int.ofNat (ByteArray.size p.1)) (IntKind.i64.wrap (Int.add p.2.1 (Int.ofNat 64)))) p.2.1)))) (Int.ofNat 0) (Int.ofNat 64)) (some ((qaf (List.replicate (Int.toNat (IntKind.i64.wrap (Int.sub (Int.ofNat 64) (IntKind.i64.wrap (Int.sub (imin (Int.ofNat (ByteArray.size p.1)) (IntKind.i64.wrap (Int.add p.2.1 (Int.ofNat 64)))) p.2.1))))) (Int.ofNat 0))),())) none) with|.none  => none|.some v0=>(cond (Nat.ble (Nat.succ (Nat.add (ByteArray.size (ByteArray.extract p.1 (Int.toNat p.2.1) (Int.toNat (imin (Int.ofNat (ByteArray.size p.1)) (IntKind.i64.wrap (Int.add p.2.1 (Int.ofNat 64))))))) (ByteArray.size v0.1))) 9223372036854775808) (cond (Nat.ble (Nat.mul (Nat.add (List.length p.2.2) 1) 16) 140737488355328) (L12 (p.1,(IntKind.i64.wrap (Int.add p.2.1 (Int.ofNat 64))),(List.append p.2.2 (List.cons (ByteArray.append (ByteArray.extract p.1 (Int.toNat p.2.1) (Int.toNat (imin (Int.ofNat (ByteArray.size p.1)) (IntKind.i64.wrap (Int.add p.2.1 (Int.ofNat 64)))))) v0.1) [])))) none) none)) none) (some (p.2.2,())))
abbrev gz34:Type:=ElA [(.list qad),(.int .i64)]->Option qbx
abbrev sz34(g:gz34):Sm:=⟨[(.list qad),(.int .i64)],[(true,.str)],g⟩
abbrev Ez34(g:gz34)(J:JT qbx)(lf:Nat)(x1:(List qaa))(x2:Int):=qat Tryz.prog ttT.get qi8 fi60.nt (q38 _ lf) lf ql8 J fi60.body [] (qal (argV [(.list qad),(.int .i64)] (x1,x2,())) 0 .leaf) S0 [] (qak ttT.get fi60 (sz34 g))
abbrev Bz34(g:gz34)(J:JT qbx)(lf k:Nat)(ms:List Nat)(q:NRes):=qbu Tryz.prog ttT.get qi8 fi60.nt (q38 _ lf) lf ql8 J k fi60.body [] ms q (qak ttT.get fi60 (sz34 g))
theorem z2a(g:gz34)(J:JT qbx)(lf:Nat)(x1:(List qaa))(x2:Int):Ez34 g J lf x1 x2=q41 lf x1 x2 (fun q=>J 3 [lf] (qih x1 x2 q)):=by kernel_rfl
theorem ziw(g:gz34)(J:JT qbx)(lf:Nat)(x1:(List qaa))(x2:Int)(m1:Nat)(p:ByteArray × Int):Bz34 g J lf 3 [m1] (qih x1 x2 p)=qoa lf x1 x2 (fun q=>J 3 [m1] (qih x1 x2 q)) (fun q=>J 12 [lf] (qji x1 x2 q)) p:=by kernel_rfl
theorem zty(g:gz34)(J:JT qbx)(lf:Nat)(x1:(List qaa))(x2:Int)(m1:Nat)(p:ByteArray × Int × (List ByteArray)):Bz34 g J lf 12 [m1] (qji x1 x2 p)=qph lf x1 x2 (fun q=>J 12 [m1] (qji x1 x2 q)) p:=by kernel_rfl
theorem qut:(regs fi60.body).Nodup:=by decide +kernel
theorem qvj:okC qi8 ql8 qu8 fi60.body none=true:=by kernel_rfl
def Az34(g:gz34)(lf:Nat):JT qbx:=atN Tryz.prog ttT.get qi8 fi60 (sz34 g) (q38 _ lf) lf qu8
def qhu(lf:Nat)(x1:(List qaa))(x2:Int):Nat->(ByteArray × Int × (List ByteArray))->Option qbx:=qa2 fun K p=>qph lf x1 x2 K p
theorem ze9(g:gz34)(lf:Nat)(x1:(List qaa))(x2:Int):∀(n:Nat) (p:ByteArray × Int × (List ByteArray)),Az34 g lf 12 [n] (qji x1 x2 p)=qhu lf x1 x2 n p
 | 0,p=>qbm 12 [0] rfl _
 | n+1,p=>by
  have ih:=ze9 g lf x1 x2 n;refine(qbl (qa6 20 _) qut qvj 12 [n+1] [n] rfl _).trans ((zty g (Az34 g lf) lf x1 x2 n p).trans ?_);rw[(show (fun q=>Az34 g lf 12 [n] (qji x1 x2 q))=(fun q=>qhu lf x1 x2 n q) from funext ih)];rfl
def qpd(lf:Nat)(x1:(List qaa))(x2:Int):Nat->(ByteArray × Int)->Option qbx:=qa2 fun K p=>qoa lf x1 x2 K (fun q=>qhu lf x1 x2 lf q) p
theorem q94(g:gz34)(lf:Nat)(x1:(List qaa))(x2:Int):∀(n:Nat) (p:ByteArray × Int),Az34 g lf 3 [n] (qih x1 x2 p)=qpd lf x1 x2 n p
 | 0,p=>qbm 3 [0] rfl _
 | n+1,p=>by
  have ih:=q94 g lf x1 x2 n;refine(qbl (qa6 20 _) qut qvj 3 [n+1] [n] rfl _).trans ((ziw g (Az34 g lf) lf x1 x2 n p).trans ?_);rw[(show (fun q=>Az34 g lf 12 [lf] (qji x1 x2 q))=(fun q=>qhu lf x1 x2 lf q) from funext fun q=>ze9 g lf x1 x2 lf q),(show (fun q=>Az34 g lf 3 [n] (qih x1 x2 q))=(fun q=>qpd lf x1 x2 n q) from funext ih)];rfl
def Fz34(lf:Nat)(x1:(List qaa))(x2:Int):Option qbx:=q41 lf x1 x2 (fun q=>qpd lf x1 x2 lf q)
theorem zw2(g:gz34)(lf:Nat)(x1:(List qaa))(x2:Int):Ez34 g (Az34 g lf) lf x1 x2=Fz34 lf x1 x2:=by
  refine(z2a g (Az34 g lf) lf x1 x2).trans ?_;rw[(show (fun q=>Az34 g lf 3 [lf] (qih x1 x2 q))=(fun q=>qpd lf x1 x2 lf q) from funext fun q=>q94 g lf x1 x2 lf q)];rfl
theorem zxz:qaq Tryz.prog qwp:=trivial
theorem zwy{g:gz34}(hsm:SmOK Tryz.prog q1m)(hg:∀(x:ElA [(.list qad),(.int .i64)]) (y:qbx),WfA [(.list qad),(.int .i64)] x->g x=some y->∃lf,Fz34 lf x.1 x.2.1=some y):Con Tryz.prog 60 ⟨[(.list qad),(.int .i64)],[(true,.str)],g⟩ :=
 conT (nmf:=qi8) (sml:=q1m) (hxl:=qwp) (st:=ql8) (hd:=qu8) 20 mixed ttOK ftOK hsm zxz zwm rfl rfl (by kernel_rfl) (fun x=>by kernel_rfl) qut qvj fun x y hx hy=>by
  obtain⟨lf,h⟩:=hg x y hx hy;exact⟨lf,(zw2 g lf x.1 x.2.1).trans h⟩
def qmg:Nat->Option Nm:=fun k=>none
def qpl:Nat->Bool:=fun k=>false
def qwv:=qpl
abbrev qgl:Type:=DAct × Unit
def qtz:List (Nat × Sm):=[]
def qxe:List (Nat × Hx):=[]
def q47(R:Type)(lf:Nat):ClK R:=qan Tryz.prog ttT.get ftT.get (nm1 58 qmg) (smL qtz) (hxL qxe) lf 20 R
abbrev zyh:Nat:=58
def zdx(lf:Nat)(x1:Int)(x2:ByteArray):Option qgl:=(some ((Bool.false,(x1,x2)),()))
abbrev gz35:Type:=ElA [(.int .i64),.str]->Option qgl
abbrev sz35(g:gz35):Sm:=⟨[(.int .i64),.str],[(false,cAct)],g⟩
abbrev Ez35(g:gz35)(J:JT qgl)(lf:Nat)(x1:Int)(x2:ByteArray):=qat Tryz.prog ttT.get qmg fi58.nt (q47 _ lf) lf qpl J fi58.body [] (qal (argV [(.int .i64),.str] (x1,x2,())) 0 .leaf) S0 [] (qak ttT.get fi58 (sz35 g))
theorem zut(g:gz35)(J:JT qgl)(lf:Nat)(x1:Int)(x2:ByteArray):Ez35 g J lf x1 x2=zdx lf x1 x2:=by kernel_rfl
theorem zjh:(regs fi58.body).Nodup:=by decide +kernel
theorem z0b:okC qmg qpl qwv fi58.body none=true:=by kernel_rfl
def Az35(g:gz35)(lf:Nat):JT qgl:=atN Tryz.prog ttT.get qmg fi58 (sz35 g) (q47 _ lf) lf qwv
def Fz35(lf:Nat)(x1:Int)(x2:ByteArray):Option qgl:=zdx lf x1 x2
theorem zzg(g:gz35)(lf:Nat)(x1:Int)(x2:ByteArray):Ez35 g (Az35 g lf) lf x1 x2=Fz35 lf x1 x2:=by
  refine(zut g (Az35 g lf) lf x1 x2).trans ?_;rfl
theorem zr6:qaq Tryz.prog qxe:=trivial
theorem zn1{g:gz35}(hsm:SmOK Tryz.prog qtz)(hg:∀(x:ElA [(.int .i64),.str]) (y:qgl),WfA [(.int .i64),.str] x->g x=some y->∃lf,Fz35 lf x.1 x.2.1=some y):Con Tryz.prog 58 ⟨[(.int .i64),.str],[(false,cAct)],g⟩ :=
 conT (nmf:=qmg) (sml:=qtz) (hxl:=qxe) (st:=qpl) (hd:=qwv) 20 mixed ttOK ftOK hsm zr6 zw1 rfl rfl (by kernel_rfl) (fun x=>by kernel_rfl) zjh z0b fun x y hx hy=>by
  obtain⟨lf,h⟩:=hg x y hx hy;exact⟨lf,(zzg g lf x.1 x.2.1).trans h⟩
def qok:Nat->Option Nm:=fun k=>none
def qqz:Nat->Bool:=fun k=>false
def q2a:=qqz
abbrev qga:Type:=DAct × Unit
def qtj:List (Nat × Sm):=[]
def qyf:List (Nat × Hx):=[]
def q7f(R:Type)(lf:Nat):ClK R:=qan Tryz.prog ttT.get ftT.get (nm1 59 qok) (smL qtj) (hxL qyf) lf 20 R
abbrev zqv:Nat:=59
def q6i(lf:Nat):Option qga:=(some ((Bool.true,((Int.ofNat 0),(S.lit []))),()))
abbrev gz36:Type:=ElA []->Option qga
abbrev sz36(g:gz36):Sm:=⟨[],[(false,cAct)],g⟩
abbrev Ez36(g:gz36)(J:JT qga)(lf:Nat):=qat Tryz.prog ttT.get qok fi59.nt (q7f _ lf) lf qqz J fi59.body [] (qal (argV [] (())) 0 .leaf) S0 [] (qak ttT.get fi59 (sz36 g))
theorem zh7(g:gz36)(J:JT qga)(lf:Nat):Ez36 g J lf=q6i lf:=by kernel_rfl
theorem zh4:(regs fi59.body).Nodup:=by decide +kernel
theorem zhx:okC qok qqz q2a fi59.body none=true:=by kernel_rfl
def Az36(g:gz36)(lf:Nat):JT qga:=atN Tryz.prog ttT.get qok fi59 (sz36 g) (q7f _ lf) lf q2a
def Fz36(lf:Nat):Option qga:=q6i lf
theorem zt2(g:gz36)(lf:Nat):Ez36 g (Az36 g lf) lf=Fz36 lf:=by
  refine(zh7 g (Az36 g lf) lf).trans ?_;rfl
theorem zjn:qaq Tryz.prog qyf:=trivial
theorem zgk{g:gz36}(hsm:SmOK Tryz.prog qtj)(hg:∀(x:ElA []) (y:qga),WfA [] x->g x=some y->∃lf,Fz36 lf=some y):Con Tryz.prog 59 ⟨[],[(false,cAct)],g⟩ :=
 conT (nmf:=qok) (sml:=qtj) (hxl:=qyf) (st:=qqz) (hd:=q2a) 20 mixed ttOK ftOK hsm zjn zqw rfl rfl (by kernel_rfl) (fun x=>by kernel_rfl) zh4 zhx fun x y hx hy=>by
  obtain⟨lf,h⟩:=hg x y hx hy;exact⟨lf,(zt2 g lf).trans h⟩
theorem qkg(n:Int):IntKind.u8.wrap n=n % 256:=by
 unfold IntKind.wrap;simp[IntKind.signed,IntKind.bits]
theorem q1j(n:Int)(h:Nat.mod (Int.toNat n) 256<2 ^ 8):ByteArray.mk (Array.mk (List.cons (UInt8.ofBitVec (BitVec.ofFin (Fin.mk (Nat.mod (Int.toNat n) 256) h))) []))=qaf [n]:=rfl
theorem z1x(a b:Int)(h:Nat.mod (Int.toNat a) 256<2 ^ 8)(k:Nat.mod (Int.toNat b) 256<2 ^ 8):ByteArray.mk (Array.mk (List.cons (UInt8.ofBitVec (BitVec.ofFin (Fin.mk (Nat.mod (Int.toNat a) 256) h))) (List.cons (UInt8.ofBitVec (BitVec.ofFin (Fin.mk (Nat.mod (Int.toNat b) 256) k))) [])))=qaf [a,b]:=rfl
theorem zp1(b:Int)(h:1<2 ^ 8)(k:Nat.mod (Int.toNat b) 256<2 ^ 8):ByteArray.mk (Array.mk (List.cons (UInt8.ofBitVec (BitVec.ofFin (Fin.mk 1 h))) (List.cons (UInt8.ofBitVec (BitVec.ofFin (Fin.mk (Nat.mod (Int.toNat b) 256) k))) [])))=qaf [1,b]:=rfl
theorem qcm(a b:List Int):ByteArray.append (qaf a) (qaf b)=qaf (a++b):=by
 show qaf a++qaf b=_;apply ByteArray.ext;simp[qaf]
theorem qna(s:ByteArray):∃b,rng b/\s=qaf b/\s.size=b.length/\qac s=b:=⟨qac s,qde s,(qe9 s).symm,(qcr s).symm,rfl⟩
theorem q5q{b:List Int}(h:rng b)(n:Nat):ByteArray.extract (qaf b) 0 n=qaf (b.take n):=by
 refine qee ?_;rw[q9m,qbf h,qbf (qd5 h n)]
theorem qjc{b:List Int}(h:rng b)(n:Nat):ByteArray.extract (qaf b) n b.length=qaf (b.drop n):=by
 refine qee ?_;rw[zbs _ _ _ (by rw[qa1];exact Nat.le_refl _),qbf h,qbf (qc0 h n)]
theorem z29(lf:Nat)(n:Int)(h:S.inI n 0 16777215=true):Fz27 lf n=some (qaf (S.two n.toNat),()):=by
 obtain⟨h1,h2⟩:=qa7.1 h;obtain⟨k,rfl⟩:∃k:Nat,n=Int.ofNat k:=⟨n.toNat,by show n=((n.toNat:Nat):Int);omega⟩;simp only[Fz27,q4e,z1x,qkg];refine congrArg (fun l=>some (qaf l,())) ?_;show [Int.fdiv (k:Int) 256 % 256,(k:Int) % 256]=S.two k;unfold S.two;rw[Int.fdiv_eq_ediv_of_nonneg _ (by decide)];simp only[List.cons.injEq,and_true];omega
theorem q7u:Con Tryz.prog zus q2m:=zm3 trivial fun x y hx h=>⟨0,by
 obtain⟨h1,h2⟩:=qa8 (show cond (S.inI x.1 0 16777215) (some (qaf (S.two (Int.toNat x.1)),())) none=some y from h);exact(z29 0 x.1 h1).trans (congrArg some h2)⟩
theorem qre{l:List qaa}(h:S.pk l=true):S.okC l=true/\l.length<=250:=by
 unfold S.pk at h;rw[Bool.and_eq_true] at h;exact⟨h.1,Nat.le_of_ble_eq_true h.2⟩
theorem qli:∀{l:List qaa} {last:Int},S.okGo l last=true->∀c∈l,(0<=c.1/\c.1<=199)/\c.2.1.size<=4000/\(c.2.2=true->c.2.1=S.none_)
 | [],_,_,c,hc=>by cases hc
 | a::l,last,h,c,hc=>by
  obtain⟨h1,h2,h3,h4,h5⟩:=qbq.1 h;rcases List.mem_cons.1 hc with rfl|hc
  ·exact⟨h1,h2,h3⟩
  ·exact qli h5 c hc
theorem qwa:∀{l:List qaa},(∀c∈l,c.2.1.size<=4000)->(S.body l).length<=4003*l.length
 | [],_=>Nat.zero_le _
 | c::l,h=>by
  have h1:=h c (by simp);have h2:=qwa (l:=l) fun x hx=>h x (by simp[hx]);have h3:cond c.2.2 0 c.2.1.size<=4000:=by
   cases c.2.2
   ·exact h1
   ·exact Nat.zero_le _
  rw[qou,List.length_append,qrl,List.length_cons];omega
theorem qod{l:List qaa}(h:S.pk l=true):(S.body l).length<=1000750:=by
 obtain⟨h1,h2⟩:=qre h;have:=qwa fun c hc=>(qli h1 c hc).2.1;omega
theorem q6p(l:List qaa)(c:qaa):S.body (l++[c])=S.body l++S.cellB c:=by
 unfold S.body;rw[List.flatMap_append];simp
theorem q86{l:List qaa}(h:S.pk l=true)(i:Nat):(S.body (l.take i)).length<=1000750:=by
 obtain⟨h1,h2⟩:=qre h;have:=qwa (l:=l.take i) fun c hc=>(qli h1 c (List.mem_of_mem_take hc)).2.1;rw[List.length_take] at this;omega
theorem qb4{n:Nat}(h:n<9223372036854775808):Nat.ble (Nat.succ n) 9223372036854775808=true:=Nat.ble_eq_true_of_le h
theorem ztb(l:List qaa)(h:S.pk l=true):Fz28 LF l=some (qaf (S.body l),()):=by
 obtain⟨hok,hlen⟩:=qre h;refine(range0 (σ:=ByteArray) (R:=qcw) l (fun i s=>(s,i)) (fun i s=>s=qaf (S.body (l.take i))) (fun _ _ _=>some (qaf (S.body l),())) (by unfold LF;omega) (fun K s hs=>?_) (fun K i v rest s hs r hk=>?_) (S.lit []) rfl).trans rfl
 ·rw[List.take_length] at hs;simp only[qrb,qce,cond_false];rw[hs]
 ·obtain⟨⟨v1,v2⟩,v3,v4⟩:=qli hok v r.mem;have hB:=q86 h i;have hnext:qaf (S.body (l.take (i+1)))=qaf (S.body (l.take i)++S.cellB v):=by rw[r.take,q6p]
  obtain⟨k,s0,g⟩:=v;simp only at v1 v2 v3 v4;have hkw:IntKind.u8.wrap k=k % 256:=qkg k;subst hs;generalize S.body (l.take i)=B at *;have hsB:(qaf B).size=B.length:=qa1 B;simp only[qrb,r.ilt,r.get,r.next,cond_true,q1j,hkw,qcm,qa1];rw[qb4 (n:=Nat.add B.length 1) (by show B.length+1<_;omega),cond_true];cases g with
  | true =>
   rw[cond_true,show S.inI (Int.ofNat 0) (Int.ofNat 0) (Int.ofNat 16777215)=true from rfl,cond_true];simp only;rw[show S.lit [0,0]=qaf [0,0] from rfl,qa1,qcm,qb4 (by simp only[List.length_append,List.length_cons,List.length_nil];show _+2<_;omega),cond_true];refine hk _ ?_;rw[hnext,List.append_assoc];rfl
  | false =>
   obtain⟨b,hb1,hb2,hb3,_⟩:=qna s0;subst hb2;rw[hb3] at v3;have hw:IntKind.i64.wrap (Int.ofNat (Nat.add (qaf b).size 1))=Int.ofNat (b.length+1):=by
    rw[hb3];exact qa3 (n:=b.length+1) (by omega)
   rw[cond_false,hw,show S.inI (Int.ofNat (b.length+1)) (Int.ofNat 0) (Int.ofNat 16777215)=true from qa7.2 ⟨Int.natCast_nonneg _,by show ((b.length+1:Nat):Int)<=16777215;omega⟩,cond_true];simp only[qcm,qa1];have h2:(S.two (Int.toNat (Int.ofNat (b.length+1)))).length=2:=rfl;rw[qb4 (by show _+b.length<_;rw[h2];omega),cond_true,qb4 (by simp only[List.length_append,List.length_cons,List.length_nil,h2];show (_:Nat)+(_:Nat)<_;omega),cond_true];refine hk _ ?_;rw[hnext];have:S.cellB (k,qaf b,false)=[k % 256]++(S.two (Int.toNat (Int.ofNat (b.length+1)))++b):=by
    unfold S.cellB;simp only[cond_false];rw[hb3,qbf hb1];rfl
   rw[this,List.append_assoc]
theorem zok:Con Tryz.prog znw q7r:=zg1 ⟨q7u,trivial⟩ fun x y hx h=>⟨LF,by
 obtain⟨h1,h2⟩:=qa8 (show cond (S.pk x.1) (some (qaf (S.body x.1),())) none=some y from h);exact(ztb x.1 h1).trans (congrArg some h2)⟩
def cut:Nat->List Int->List ByteArray
 | 0,_=>[]
 | m+1,b=>qaf (b.take 64)::cut m (b.drop 64)
theorem zcf:∀(f:Nat) (b:List Int),b.length<=f->S.chunks f b=cut ((b.length+63) / 64) (b++List.replicate (64*((b.length+63) / 64)-b.length) 0)
 | 0,b,h=>by
  have:b=[]:=List.length_eq_zero_iff.1 (by omega);subst this;rfl
 | f+1,b,h=>by
  by_cases hb:0<b.length
  ·have ih:=zcf f (b.drop 64) (by rw[List.length_drop];omega);rw[List.length_drop] at ih;rw[qfu f hb,ih,show (b.length+63) / 64=(b.length-64+63) / 64+1 by omega];show _=qaf ((b++_).take 64)::cut _ ((b++_).drop 64);by_cases h64:64<=b.length
   ·rw[List.take_append_of_le_length h64,List.drop_append_of_le_length h64,show 64-b.length=0 by omega,List.replicate_zero,List.append_nil,show 64*((b.length-64+63) / 64+1)-b.length=64*((b.length-64+63) / 64)-(b.length-64) by omega]
   ·have e1:b.drop 64=[]:=List.drop_eq_nil_of_le (by omega);rw[show (b.length-64+63) / 64=0 by omega,List.take_of_length_le (by omega:b.length<=64),List.take_of_length_le (by rw[List.length_append,List.length_replicate];omega),show 64*(0+1)-b.length=64-b.length by omega];rfl
  ·have:b=[]:=List.length_eq_zero_iff.1 (by omega);subst this;rfl
theorem q8m(l:List qaa):∀(m f:Nat) (b:List Int) (out:List ByteArray),rng b->b.length=64*m->m<f->out.length+m<=1000000->qdo LF l f (qaf b,out)=some (out++cut m b,())
 | 0,f+1,b,out,hr,hb,hf,ho=>by
  have:b=[]:=List.length_eq_zero_iff.1 (by omega);subst this;show qkp LF l (qdo LF l f) (qaf [],out)=_;simp only[qkp];rw[qa1];show some (out,())=some (out++[],());rw[List.append_nil]
 | m+1,f+1,b,out,hr,hb,hf,ho=>by
  show qkp LF l (qdo LF l f) _=_;simp only[qkp];have l1:lchk (Int.ofNat 0) (Int.ofNat 64) (Int.ofNat b.length) (Int.ofNat b.length)=true:=qbt.2 ⟨Int.le_refl _,by decide,by show (64:Int)<=(b.length:Int);omega,Int.le_refl _⟩;have l2:lchk (Int.ofNat 64) (Int.ofNat b.length) (Int.ofNat b.length) (Int.ofNat b.length)=true:=qbt.2 ⟨by decide,by show (64:Int)<=(b.length:Int);omega,Int.le_refl _,Int.le_refl _⟩
  rw[qa1,qd8 (show Int.ofNat 0<Int.ofNat b.length by show (0:Int)<(b.length:Int);omega),cond_true,l1,cond_true,Nat.ble_eq_true_of_le (by show (out.length+1)*16<=_;omega),cond_true,
   l2,cond_true,q5q hr,show Int.toNat (Int.ofNat b.length)=b.length from rfl,qjc hr]
  rw[q8m l m f (b.drop 64) _ (qc0 hr 64) (by rw[List.length_drop];omega) (by omega) (by simp only[List.append_eq,List.length_append,List.length_cons,List.length_nil];omega)];show some ((out++[_])++cut m _,())=some (out++_::cut m _,());rw[List.append_assoc];rfl
theorem zc0(l:List qaa):∀(k f:Nat) (b:List Int),k=(64-b.length % 64) % 64->k<f->b.length<=2000000->qgn LF l f (qaf b)=qdo LF l LF (qaf (b++List.replicate k 0),[])
 | 0,f+1,b,hk,hf,hb=>by
  show qju LF l (qgn LF l f) (fun q=>qdo LF l LF q) (qaf b)=_;simp only[qju];rw[qa1,qbk (show Int.ofNat (Nat.mod b.length 64)=Int.ofNat 0 from congrArg Int.ofNat (show b.length % 64=0 by omega))];show qdo LF l LF (qaf b,[])=qdo LF l LF (qaf (b++[]),[]);rw[List.append_nil]
 | k+1,f+1,b,hk,hf,hb=>by
  show qju LF l (qgn LF l f) (fun q=>qdo LF l LF q) (qaf b)=_;simp only[qju]
  rw[qa1,qbg (show ¬Int.ofNat (Nat.mod b.length 64)=Int.ofNat 0 from fun e=>by have:=Int.ofNat.inj e;have:b.length % 64=0:=this;omega),Bool.not_false,cond_true,qb4 (by show b.length+1<_;omega),cond_true,show S.lit [0]=qaf [0] from rfl,qcm,
   zc0 l k f (b++[0]) (by rw[List.length_append,List.length_cons,List.length_nil];omega) (by omega) (by rw[List.length_append,List.length_cons,List.length_nil];have:b.length<=2000000:=hb;omega),List.append_assoc]
  rfl
theorem z4d(l:List qaa)(h:S.pk l=true):Fz29 LF l=some (S.packed l 1,()):=by
 have hb:=qod h;simp only[Fz29,qxp,h,cond_true,qa1];rw[show S.inI (Int.ofNat (S.body l).length) (Int.ofNat 0) (Int.ofNat 16777215)=true from qa7.2 ⟨Int.natCast_nonneg _,by show (((S.body l).length:Nat):Int)<=16777215;omega⟩];simp only[cond_true,zp1,qkg,qcm,qa1];have h2:(S.two (Int.toNat (Int.ofNat (S.body l).length))).length=2:=rfl;rw[qb4 (by show 2+_<_;rw[h2];decide),cond_true,qb4 (by simp only[List.length_append,List.length_cons,List.length_nil,h2];show (_:Nat)+(_:Nat)<_;omega),cond_true];have hrec:[1,Int.fdiv (Int.ofNat (S.body l).length) (Int.ofNat 65536) % 256]++S.two (Int.toNat (Int.ofNat (S.body l).length))++S.body l=S.recB l 1:=by
  unfold S.recB;have:Int.fdiv (Int.ofNat (S.body l).length) (Int.ofNat 65536) % 256=(((S.body l).length / 65536 % 256:Nat):Int):=by
   rw[Int.fdiv_eq_ediv_of_nonneg _ (by decide)];show ((S.body l).length:Int) / 65536 % 256=_;omega
  rw[this,List.append_assoc];rfl
 rw[hrec,zc0 l _ LF (S.recB l 1) rfl (by unfold LF;omega) (by rw[qef];omega)];have hl:=qef l 1;have hp:S.packed l 1=_:=zcf (S.recB l 1).length (S.recB l 1) (Nat.le_refl _);rw[hp,show (64-(S.recB l 1).length % 64) % 64=64*(((S.recB l 1).length+63) / 64)-(S.recB l 1).length by omega];rw[q8m l (((S.recB l 1).length+63) / 64) LF _ [] (qf1 (qjq l (by decide)) (qfi _)) (by rw[List.length_append,List.length_replicate];omega) (by unfold LF;omega) (by rw[List.length_nil];omega)];rfl
theorem qqr:Con Tryz.prog zmo qol:=zv4 ⟨zok,q7u,trivial⟩ fun x y hx h=>⟨LF,by
 obtain⟨h1,h2⟩:=qa8 (show cond (S.pk x.1) (some (S.packed x.1 1,())) none=some y from h);exact(z4d x.1 h1).trans (congrArg some h2)⟩
theorem zja(lf:Nat)(s:ByteArray)(h:s.size=64):Fz30 lf s=some (qaf (0::(qac s).drop 1),()):=by
 obtain⟨b,hb1,rfl,hb3,hb4⟩:=qna s;rw[hb3] at h;simp only[Fz30,qz1];have l1:lchk (Int.ofNat 1) (Int.ofNat b.length) (Int.ofNat b.length) (Int.ofNat b.length)=true:=qbt.2 ⟨by decide,by show (1:Int)<=(b.length:Int);omega,Int.le_refl _,Int.le_refl _⟩;rw[hb3,hb4,l1,cond_true,show Int.toNat (Int.ofNat b.length)=b.length from rfl,qjc hb1,qa1,qb4 (by show 1+_<_;rw[List.length_drop];omega),cond_true,show S.lit [0]=qaf [0] from rfl,qcm];rfl
theorem q8o:Con Tryz.prog z06 qtw:=zop trivial fun x y hx h=>⟨0,by
 obtain⟨h1,h2⟩:=qa8 (show cond (decide (ByteArray.size x.1=64)) (some (qaf (0::(qac x.1).drop 1),())) none=some y from h);exact(zja 0 x.1 (of_decide_eq_true h1)).trans (congrArg some h2)⟩
theorem zme(lf:Nat)(n h:Int)(hn:S.inI n 0 1000=true):Fz31 lf n h=some (S.half n.toNat h,()):=by
 obtain⟨h1,h2⟩:=qa7.1 hn;have e1:Int.tdiv n (Int.ofNat 2)=((n.toNat / 2:Nat):Int):=by
  rw[Int.tdiv_eq_ediv_of_nonneg h1];show n / 2=_;omega
 simp only[Fz31,quq,e1];rw[wrap_in (n:=((n.toNat / 2:Nat):Int)) (by omega),wrap_in (n:=Int.sub n (Int.ofNat 1)) (by show -9223372036854775808<=n-1/\n-1<9223372036854775808;omega)];unfold S.half;by_cases h0:h=0
 ·rw[qbk (show h=Int.ofNat 0 from h0),cond_true,if_pos h0];rfl
 ·rw[qbg (show ¬h=Int.ofNat 0 from h0),cond_false,if_neg h0];refine congrArg (fun z:Int=>some ((_,z),())) ?_;show n-1=(n.toNat:Int)-1;omega
theorem qrh:Con Tryz.prog zu5 qnx:=zmc trivial fun x y hx h=>⟨0,by
 obtain⟨h1,h2⟩:=qa8 (show cond (S.inI x.1 0 1000) (some (S.half (Int.toNat x.1) x.2.1,())) none=some y from h);exact(zme 0 x.1 x.2.1 h1).trans (congrArg some h2)⟩
theorem zma(lf:Nat)(d:qab)(h:Int)(h1:d.1.length<=1000)(h2:d.1.length % 2=0):Fz32 lf d h=some ((S.half d.1.length h).1,(S.half d.1.length h).2,()):=by
 simp only[Fz32,q1x];rw[qa3 (n:=Nat.div d.1.length 2) (by show d.1.length / 2<_;omega)];have e2:Int.mul (Int.ofNat 2) (Int.ofNat (Nat.div d.1.length 2))=((d.1.length:Nat):Int):=by
  show (2:Int)*((d.1.length / 2:Nat):Int)=_;omega
 rw[e2,wrap_in (n:=((d.1.length:Nat):Int)) (by omega),wrap_in (n:=Int.sub ((d.1.length:Nat):Int) (Int.ofNat 1)) (by show -9223372036854775808<=(d.1.length:Int)-1/\(d.1.length:Int)-1<9223372036854775808;omega)];unfold S.half;by_cases h0:h=0
 ·rw[qbk (show h=Int.ofNat 0 from h0),cond_true,if_pos h0];rfl
 ·rw[qbg (show ¬h=Int.ofNat 0 from h0),cond_false,if_neg h0];rfl
theorem zjc:Con Tryz.prog zss q8r:=zsc trivial fun x y hx h=>⟨0,by
 obtain⟨h1,h2⟩:=qa8 (show cond (Nat.ble (List.length x.1.1) 1000&&decide (List.length x.1.1 % 2=0)) (some ((S.half (List.length x.1.1) x.2.1).1,(S.half (List.length x.1.1) x.2.1).2,())) none=some y from h);rw[Bool.and_eq_true] at h1;exact(zma 0 x.1 x.2.1 (Nat.le_of_ble_eq_true h1.1) (of_decide_eq_true h1.2)).trans (congrArg some h2)⟩
theorem za1(lf:Nat)(n:Int)(b:Nat)(hb:b<=3):∀(k f m i:Nat) (o:List Int),i+k=b->k<f->m<=16777215->o.length=i->qg5 lf n (Int.ofNat b) f (Int.ofNat m,qaf o,Int.ofNat i)=some (qaf (S.numB m k++o),())
 | 0,f+1,m,i,o,hi,hf,hm,ho=>by
  show qi3 lf n (Int.ofNat b) (qg5 lf n (Int.ofNat b) f) _=_;simp only[qi3];rw[qa5,decide_eq_false (by omega),cond_false];rfl
 | k+1,f+1,m,i,o,hi,hf,hm,ho=>by
  show qi3 lf n (Int.ofNat b) (qg5 lf n (Int.ofNat b) f) _=_;simp only[qi3];have e1:Int.tmod (Int.ofNat m) (Int.ofNat 256)=((m % 256:Nat):Int):=rfl;have e2:Int.tdiv (Int.ofNat m) (Int.ofNat 256)=Int.ofNat (m / 256):=rfl;rw[qa5,decide_eq_true (by omega),cond_true,qa1,qb4 (by show 1+o.length<_;omega),cond_true];simp only[q1j,qkg,e1,e2,qcm]
  rw[qa3 (n:=m / 256) (by omega),show IntKind.i64.wrap (Int.add (Int.ofNat i) (Int.ofNat 1))=Int.ofNat (i+1) from qa3 (n:=i+1) (by omega),
   za1 lf n b hb k f (m / 256) (i+1) _ (by omega) (by omega) (by omega) (by simp only[List.length_append,List.length_cons,List.length_nil];omega)]
  have e3:((m % 256:Nat):Int) % 256=((m % 256:Nat):Int):=by omega
  rw[e3];show some (qaf (S.numB (m / 256) k++([_]++o)),())=some (qaf ((S.numB (m / 256) k++[_])++o),());rw[List.append_assoc]
theorem ziq(n b:Int)(h:S.inI n 0 16777215=true)(h':S.inI b 0 3=true):Fz33 LF n b=some (qaf (S.numB n.toNat b.toNat),()):=by
 obtain⟨h1,h2⟩:=qa7.1 h;obtain⟨h3,h4⟩:=qa7.1 h';obtain⟨k,rfl⟩:∃k:Nat,n=Int.ofNat k:=⟨n.toNat,by show n=((n.toNat:Nat):Int);omega⟩;obtain⟨c,rfl⟩:∃k:Nat,b=Int.ofNat k:=⟨b.toNat,by show b=((b.toNat:Nat):Int);omega⟩;have h2:(k:Int)<=16777215:=h2;have h4:(c:Int)<=3:=h4;simp only[Fz33,q1p];refine(za1 LF (Int.ofNat k) c (by omega) c LF k 0 [] (by omega) (by unfold LF;omega) (by omega) rfl).trans ?_;rw[List.append_nil];rfl
theorem zy9:Con Tryz.prog zx9 za5:=zgq trivial fun x y hx h=>⟨LF,by
 obtain⟨h1,h2⟩:=qa8 (show cond (S.inI x.1 0 16777215&&S.inI x.2.1 0 3) (some (qaf (S.numB (Int.toNat x.1) (Int.toNat x.2.1)),())) none=some y from h);rw[Bool.and_eq_true] at h1;exact(ziq x.1 x.2.1 h1.1 h1.2).trans (congrArg some h2)⟩
theorem zad(n:Nat):S.numB n 1=[((n % 256:Nat):Int)]:=rfl
theorem ztx(n:Nat):S.numB n 2=S.two n:=rfl
theorem zm0(n:Nat):S.numB n 3=((n / 65536 % 256:Nat):Int)::S.two n:=by
 show [((n / 256 / 256 % 256:Nat):Int),((n / 256 % 256:Nat):Int),((n % 256:Nat):Int)]=_;rw[Nat.div_div_eq_div_mul];rfl
theorem zdn(l:List qaa)(x2:Int)(b:List Int)(hr:rng b)(hb:b.length<=2000000):∀(m f i:Nat) (out:List ByteArray),(b.drop i).length<=m->m<f->out.length+m<=4000000->i<=b.length+64->qhu LF l x2 f (qaf b,Int.ofNat i,out)=some (out++S.chunks m (b.drop i),())
 | m,0,i,out,h1,h2,h3,h4=>by omega
 | m,f+1,i,out,h1,h2,h3,h4=>by
  show qph LF l x2 (qhu LF l x2 f) _=_;simp only[qph];rw[qa1,qa5];by_cases hi:i<b.length
  ·have hw:IntKind.i64.wrap (Int.add (Int.ofNat i) (Int.ofNat 64))=Int.ofNat (i+64):=qa3 (n:=i+64) (by omega);have hmin:imin (Int.ofNat b.length) (Int.ofNat (i+64))=Int.ofNat (min b.length (i+64)):=by
    rw[qtm];by_cases e:i+64<b.length
    ·rw[if_pos (show Int.ofNat (i+64)<Int.ofNat b.length from Int.ofNat_lt.2 e),Nat.min_eq_right (by omega)]
    ·rw[if_neg (show ¬Int.ofNat (i+64)<Int.ofNat b.length from fun h=>e (Int.ofNat_lt.1 h)),Nat.min_eq_left (by omega)]
   have hsub:IntKind.i64.wrap (Int.sub (Int.ofNat (min b.length (i+64))) (Int.ofNat i))=Int.ofNat (min b.length (i+64)-i):=by
    have:Int.sub (Int.ofNat (min b.length (i+64))) (Int.ofNat i)=Int.ofNat (min b.length (i+64)-i):=by
     show ((min b.length (i+64):Nat):Int)-(i:Int)=((min b.length (i+64)-i:Nat):Int);omega
    rw[this];exact qa3 (by omega)
   have hsub2:IntKind.i64.wrap (Int.sub (Int.ofNat 64) (Int.ofNat (min b.length (i+64)-i)))=Int.ofNat (64-(b.length-i)):=by
    have:Int.sub (Int.ofNat 64) (Int.ofNat (min b.length (i+64)-i))=Int.ofNat (64-(b.length-i)):=by
     show (64:Int)-((min b.length (i+64)-i:Nat):Int)=((64-(b.length-i):Nat):Int);omega
    rw[this];exact qa3 (by omega)
   have l1:lchk (Int.ofNat i) (Int.ofNat (min b.length (i+64))) (Int.ofNat b.length) (Int.ofNat b.length)=true:=qbt.2 ⟨Int.natCast_nonneg _,by show (i:Int)<=((min b.length (i+64):Nat):Int);omega,by show ((min b.length (i+64):Nat):Int)<=(b.length:Int);omega,Int.le_refl _⟩;have hext:ByteArray.extract (qaf b) (Int.toNat (Int.ofNat i)) (Int.toNat (Int.ofNat (min b.length (i+64))))=qaf ((b.drop i).take 64):=by
    refine qee ?_;rw[qmc,qbf hr,qbf (qd5 (qc0 hr i) 64),List.extract_eq_take_drop];show (b.drop i).take (min b.length (i+64)-i)=_;by_cases e:i+64<=b.length
    ·rw[Nat.min_eq_right e,show i+64-i=64 by omega]
    ·rw[Nat.min_eq_left (by omega),List.take_of_length_le (by rw[List.length_drop];exact Nat.le_refl _),List.take_of_length_le (by rw[List.length_drop];omega)]
   rw[decide_eq_true hi,cond_true,hw,hmin,l1,cond_true,hsub,hsub2,show S.inI (Int.ofNat (64-(b.length-i))) (Int.ofNat 0) (Int.ofNat 64)=true from qa7.2 ⟨Int.natCast_nonneg _,by show ((64-(b.length-i):Nat):Int)<=64;omega⟩,cond_true,hext];simp only;rw[qa1,qa1,qb4 (by rw[List.length_take,List.length_replicate];show min _ _+Int.toNat (Int.ofNat _)<_;show min _ _+(64-_)<_;omega),cond_true,Nat.ble_eq_true_of_le (by show (out.length+1)*16<=_;omega),cond_true,qcm];rw[List.length_drop] at h1;obtain⟨m',rfl⟩:∃m',m=m'+1:=⟨m-1,by omega⟩
   rw[zdn l x2 b hr hb m' f (i+64) _ (by rw[List.length_drop];omega) (by omega) (by simp only[List.append_eq,List.length_append,List.length_cons,List.length_nil];omega) (by omega),
    qfu m' (b:=b.drop i) (by rw[List.length_drop];omega),List.drop_drop,List.length_drop]
   show some ((out++[_])++S.chunks m' _,())=some (out++_::S.chunks m' _,());rw[List.append_assoc];rfl
  ·rw[decide_eq_false hi,cond_false,List.drop_eq_nil_of_le (by omega),z2r,List.append_nil]
theorem ziv(l:List qaa)(x2:Int)(h:S.pk l=true)(h2:S.inI x2 0 1=true):Fz34 LF l x2=some (S.packed l x2,()):=by
 obtain⟨hok,hlen⟩:=qre h;obtain⟨hx1,hx2⟩:=qa7.1 h2;have hB:=qod h;refine(range0 (σ:=ByteArray) (R:=qbx) (T:=fun K p=>qoa LF l x2 K (fun q=>qhu LF l x2 LF q) p) l (fun i s=>(s,i)) (fun i s=>s=qaf (S.body (l.take i))) (fun _ _ _=>some (S.packed l x2,())) (by unfold LF;omega) (fun K s hs=>?_) (fun K i v rest s hs r hk=>?_) (S.lit []) rfl).trans rfl
 ·rw[List.take_length] at hs;simp only[qoa,qce,cond_false];rw[hs,qa1,show S.inI x2 (Int.ofNat 0) (Int.ofNat 16777215)=true from qa7.2 ⟨hx1,by show x2<=16777215;omega⟩,show S.inI (Int.ofNat 1) (Int.ofNat 0) (Int.ofNat 3)=true from rfl,show S.inI (Int.ofNat (S.body l).length) (Int.ofNat 0) (Int.ofNat 16777215)=true from qa7.2 ⟨Int.natCast_nonneg _,by show (((S.body l).length:Nat):Int)<=16777215;omega⟩,show S.inI (Int.ofNat 3) (Int.ofNat 0) (Int.ofNat 3)=true from rfl];simp only[Bool.and_self,cond_true];rw[show Int.toNat (Int.ofNat (S.body l).length)=(S.body l).length from rfl,zm0,zad,qa1,qa1,qb4 (by show 1+3<_;decide),cond_true,qcm,qa1,qb4 (by show 4+_<_;omega),cond_true,qcm];have e0:((x2.toNat % 256:Nat):Int)=x2:=by omega
  have hrec:[((x2.toNat % 256:Nat):Int)]++(((S.body l).length / 65536 % 256:Nat):Int)::S.two (S.body l).length++S.body l=S.recB l x2:=by
   rw[e0];rfl
  rw[hrec];have hl:=qef l x2;exact zdn l x2 (S.recB l x2) (qjq l (by omega)) (by omega) (S.recB l x2).length LF 0 [] (Nat.le_refl _) (by unfold LF;omega) (by rw[List.length_nil];omega) (by omega)
 ·obtain⟨⟨v1,v2⟩,v3,v4⟩:=qli hok v r.mem;have hBi:=q86 h i;have hnext:qaf (S.body (l.take (i+1)))=qaf (S.body (l.take i)++S.cellB v):=by rw[r.take,q6p]
  obtain⟨k,s0,g⟩:=v;simp only at v1 v2 v3 v4;subst hs;generalize S.body (l.take i)=B at *;have hk1:S.inI k (Int.ofNat 0) (Int.ofNat 16777215)=true:=qa7.2 ⟨v1,by show k<=16777215;omega⟩;have hkk:((k.toNat % 256:Nat):Int)=k % 256:=by omega
  simp only[qoa,r.ilt,r.get,r.next,cond_true,qcm,qa1,hk1,show S.inI (Int.ofNat 1) (Int.ofNat 0) (Int.ofNat 3)=true from rfl,Bool.and_self,zad,hkk];rw[qb4 (by show B.length+1<_;omega),cond_true];cases g with
  | true =>
   rw[cond_true,show S.lit [0,0]=qaf [0,0] from rfl,qcm,qb4 (by simp only[List.length_append,List.length_cons,List.length_nil];show _+2<_;omega),cond_true];refine hk _ ?_;rw[hnext,List.append_assoc];rfl
  | false =>
   obtain⟨b,hb1,hb2,hb3,_⟩:=qna s0;subst hb2;rw[hb3] at v3;have hw:IntKind.i64.wrap (Int.ofNat (Nat.add (qaf b).size 1))=Int.ofNat (b.length+1):=by
    rw[hb3];exact qa3 (n:=b.length+1) (by omega)
   rw[hw,cond_false,show S.inI (Int.ofNat (b.length+1)) (Int.ofNat 0) (Int.ofNat 16777215)=true from qa7.2 ⟨Int.natCast_nonneg _,by show ((b.length+1:Nat):Int)<=16777215;omega⟩,show S.inI (Int.ofNat 2) (Int.ofNat 0) (Int.ofNat 3)=true from rfl,Bool.and_self,cond_true];simp only[qcm,qa1,ztx];have h2:(S.two (Int.toNat (Int.ofNat (b.length+1)))).length=2:=rfl;rw[qb4 (by simp only[List.length_append,List.length_cons,List.length_nil,h2];show (_:Nat)+2<_;omega),cond_true,qb4 (by simp only[List.length_append,List.length_cons,List.length_nil,h2];show (_:Nat)+(_:Nat)<_;omega),cond_true];refine hk _ ?_;rw[hnext];have:S.cellB (k,qaf b,false)=[k % 256]++(S.two (Int.toNat (Int.ofNat (b.length+1)))++b):=by
    unfold S.cellB;simp only[cond_false];rw[hb3,qbf hb1];rfl
   rw[this];simp only[List.append_assoc]
theorem zrc:Con Tryz.prog z3d q6t:=zwy ⟨zy9,q05,trivial⟩ fun x y hx h=>⟨LF,by
 obtain⟨h1,h2⟩:=qa8 (show cond (S.pkm x.1 x.2.1) (some (S.packed x.1 x.2.1,())) none=some y from h);unfold S.pkm at h1;rw[Bool.and_eq_true] at h1;exact(ziv x.1 x.2.1 h1.1 h1.2).trans (congrArg some h2)⟩
theorem zjw:Con Tryz.prog zyh q5s:=zn1 trivial fun x y hx h=>⟨0,h⟩
theorem zjt:Con Tryz.prog zqv zd0:=zgk trivial fun x y hx h=>⟨0,h⟩
theorem zup{l:List ByteArray}{i:Nat}(h:i<l.length)(a:Int):S.puts (a+i) (l.drop i)=S.put (a+i) (l.getD i S.none_)::S.puts (a+((i+1:Nat):Int)) (l.drop (i+1)):=by
 rw[List.drop_eq_getElem_cons h,List.getD_eq_getElem?_getD,List.getElem?_eq_getElem h];show S.put (a+i) _::S.puts (a+i+1) _=_;rw[show a+(i:Int)+1=a+((i+1:Nat):Int) by omega];rfl
theorem zfi(x1:List DAct)(a:Int)(l:List ByteArray)(ha:S.inI a 0 1000000=true)(hl:l.length<=1000000):∀(k f i:Nat) (out:List DAct),i+k=l.length->k<f->out.length+k<=2000000->qgz LF x1 a l f (Int.ofNat i,out)=some ((),((out++S.puts (a+i) (l.drop i),()),()))
 | 0,f+1,i,out,hi,hf,ho=>by
  show qj9 LF x1 a l (qgz LF x1 a l f) _=_;simp only[qj9];rw[qa5,decide_eq_false (by omega),cond_false,List.drop_eq_nil_of_le (by omega)];show some ((),((out,()),()))=some ((),((out++[],()),()));rw[List.append_nil]
 | k+1,f+1,i,out,hi,hf,ho=>by
  obtain⟨h1,h2⟩:=qa7.1 ha;show qj9 LF x1 a l (qgz LF x1 a l f) _=_;simp only[qj9];rw[qa5,decide_eq_true (by omega),cond_true,qs1 (i:=Int.ofNat i) (d:=S.none_) (Int.natCast_nonneg i) (by show (i:Int)<(l.length:Int);omega)];simp only
  rw[Nat.ble_eq_true_of_le (by show (out.length+1)*32<=_;omega),cond_true,show IntKind.i64.wrap (Int.add (Int.ofNat i) (Int.ofNat 1))=Int.ofNat (i+1) from qa3 (n:=i+1) (by omega),
   show IntKind.i64.wrap (Int.add a (Int.ofNat i))=a+i from wrap_in (by show -_<=a+(i:Int)/\a+(i:Int)<_;omega),
   zfi x1 a l ha hl k f (i+1) _ (by omega) (by omega) (by simp only[List.append_eq,List.length_append,List.length_cons,List.length_nil];omega),zup (l:=l) (i:=i) (by omega) a]
  show some ((),(((out++[_])++_,()),()))=some ((),((out++_::_,()),()));rw[List.append_assoc];rfl
theorem zj0(x1:List DAct)(a:Int)(l:List ByteArray)(ha:S.inI a 0 1000000=true)(hl:l.length<=1000000)(hx:x1.length<=1000000):Fz11 LF x1 a l=some ((),((S.app x1 (S.puts a l),()),())):=by
 simp only[Fz11,qyg];refine(zfi x1 a l ha hl l.length LF 0 x1 (by omega) (by unfold LF;omega) (by omega)).trans ?_;rw[List.drop_zero,show a+((0:Nat):Int)=a by omega];rfl
theorem qzn:ConR Tryz.prog ztw qfn:=zkg trivial fun x y hx h=>⟨LF,by
 obtain⟨h1,h2⟩:=qa8 (show cond (S.inI x.2.1 0 1000000&&(Nat.ble x.2.2.1.length 1000000&&Nat.ble (S.lenA x.1.1) 1000000)) (some ((),((S.app x.1.1 (S.puts x.2.1 x.2.2.1),()),()))) none=some y from h);rw[Bool.and_eq_true,Bool.and_eq_true] at h1;exact(zj0 x.1.1 x.2.1 x.2.2.1 h1.1 (Nat.le_of_ble_eq_true h1.2.1) (Nat.le_of_ble_eq_true h1.2.2)).trans (congrArg some h2)⟩
theorem zmw(x1:List DAct)(hx:x1.length<=4000000):Fz12 LF x1=some ((),((S.app x1 [S.sync],()),())):=by
 simp only[Fz12,q2k];rw[Nat.ble_eq_true_of_le (by show (x1.length+1)*32<=_;omega),cond_true];rfl
theorem q30:ConR Tryz.prog zyf qeo:=zqe trivial fun x y hx h=>⟨LF,by
 obtain⟨h1,h2⟩:=qa8 (show cond (Nat.ble (S.lenA x.1.1) 4000000) (some ((),((S.app x.1.1 [S.sync],()),()))) none=some y from h);exact(zmw x.1.1 (Nat.le_of_ble_eq_true h1)).trans (congrArg some h2)⟩
def qhi(out:List qaa):Int:=(out.getLast?.map (·.1)).getD (-1)
theorem q3j(out:List qaa)(c:qaa):qhi (out++[c])=c.1:=by simp[qhi]
theorem zkn{R:Type}{out:List qaa}{k:Int}(hk:0<=k)(hl:out.length<1000000000)(N T:Option R) :
  cond (iltI (Int.ofNat 0) (Int.ofNat out.length)) (match jget out (IntKind.i64.wrap (Int.sub (Int.ofNat out.length) (Int.ofNat 1))) with
   | none=>none
   | some v3=>match out[Int.toNat (IntKind.i64.wrap (Int.sub (Int.ofNat out.length) (Int.ofNat 1)))]? with
    | none=>none
    | some v4=>cond (!iltI v4.1 k) N T) T=cond (decide (k<=qhi out)) N T:=by
 rcases List.eq_nil_or_concat out with rfl|⟨o,c,rfl⟩
 ·have:decide (k<=qhi [])=false:=decide_eq_false (by show ¬k<=-1;omega);rw[this];rfl
 ·rw[List.concat_eq_append] at *;have hlen:(o++[c]).length=o.length+1:=by simp
  rw[hlen] at hl ⊢;have e:IntKind.i64.wrap (Int.sub (Int.ofNat (o.length+1)) (Int.ofNat 1))=Int.ofNat o.length:=by
   have:Int.sub (Int.ofNat (o.length+1)) (Int.ofNat 1)=Int.ofNat o.length:=by
    show ((o.length+1:Nat):Int)-1=(o.length:Int);omega
   rw[this];exact qa3 (by omega)
  rw[e,qbr];have h1:(o++[c])[o.length]?=some c:=by simp
  have h2:(o++[c])[Int.toNat (Int.ofNat o.length)]?=some c:=h1;rw[h1,h2,qa5,decide_eq_true (by omega),cond_true,q3j];show cond (!iltI c.1 k) N T=_;rw[qbs,qvf]
def chgR(out:List qaa):Option (List qaa)->List qaa × Bool
 | some l=>(out++l,true)
 | none=>([],false)
theorem q2v(x1:ByteArray):∀(f F:Nat) (r:List Int) (out:List qaa),rng r->r.length<f->f<=F->out.length+r.length<=3000000->qki LF x1 F (qaf r,out)=some ((chgR out (S.changes f r (qhi out))).1,(chgR out (S.changes f r (qhi out))).2,())
 | 0,_,r,out,hr,hf,hF,ho=>by omega
 | f+1,0,r,out,hr,hf,hF,ho=>by omega
 | f+1,F+1,r,out,hr,hf,hF,ho=>by
  show qq4 LF x1 (qki LF x1 F) _=_;simp only[qq4,qbf hr,qa1];rcases r with _|⟨k,_|⟨a,_|⟨b,r⟩⟩⟩
  ·show some (out,true,())=some (out++[],true,());rw[List.append_nil]
  ·rfl
  ·rfl
  ·have hk:=hr k (by simp);have ha:=hr a (by simp);have hb:=hr b (by simp);have hr':rng r:=fun x hx=>hr x (by simp[hx]);have hlen:(k::a::b::r).length=r.length+3:=rfl;rw[hlen] at hf ho;have l1:lchk (Int.ofNat 3) (Int.ofNat (k::a::b::r).length) (Int.ofNat (k::a::b::r).length) (Int.ofNat (k::a::b::r).length)=true:=qbt.2 ⟨by decide,by show (3:Int)<=((r.length+3:Nat):Int);omega,Int.le_refl _,Int.le_refl _⟩;have he:ByteArray.extract (qaf (k::a::b::r)) 3 (Int.toNat (Int.ofNat (k::a::b::r).length))=qaf r:=qjc hr 3;have wk:IntKind.i64.wrap k=k:=wrap_in (by omega);have wn:IntKind.i64.wrap (Int.add (IntKind.i64.wrap (Int.mul (IntKind.i64.wrap a) (Int.ofNat 256))) (IntKind.i64.wrap b))=a*256+b:=by
    rw[wrap_in (n:=a) (by omega),wrap_in (n:=b) (by omega),wrap_in (n:=Int.mul a (Int.ofNat 256)) (by show -_<=a*256/\a*256<_;omega)];exact wrap_in (by show -_<=a*256+b/\a*256+b<_;omega)
   have hn:0<=a*256+b/\a*256+b<65536:=by omega
   rw[qnh];rw[qa5,decide_eq_true (show 0<(k::a::b::r).length by rw[hlen];omega),cond_true,qa5,decide_eq_false (show ¬(k::a::b::r).length<3 by rw[hlen];omega),cond_false,qbr,qbr,qbr];show cond (lchk _ _ _ _) _ _=_;rw[l1,cond_true,he,wk,wn];generalize a*256+b=n at hn;by_cases c1:199<k
   ·rw[qd8 (show Int.ofNat 199<k from c1),cond_true,if_pos (.inl c1)];rfl
   rw[qd4 (show ¬Int.ofNat 199<k from c1),cond_false];refine(zkn (out:=out) hk.1 (by omega) _ _).trans ?_;by_cases c2:k<=qhi out
   ·rw[decide_eq_true c2,cond_true,if_pos (.inr (.inl c2))];rfl
   rw[decide_eq_false c2,cond_false,qa1,qa3 (n:=Nat.add r.length 1) (by show r.length+1<_;omega)];by_cases c3:(r.length:Int)+1<n
   ·rw[qd8 (show Int.ofNat (Nat.add r.length 1)<n from by show ((r.length+1:Nat):Int)<n;omega),cond_true,if_pos (.inr (.inr (.inl c3)))];rfl
   rw[qd4 (show ¬Int.ofNat (Nat.add r.length 1)<n from by show ¬((r.length+1:Nat):Int)<n;omega),cond_false];by_cases c4:4001<n
   ·rw[qd8 (show Int.ofNat 4001<n from c4),cond_true,if_pos (.inr (.inr (.inr c4)))];rfl
   rw[qd4 (show ¬Int.ofNat 4001<n from c4),cond_false,if_neg (by omega)];rw[Nat.ble_eq_true_of_le (show Nat.mul (Nat.add out.length 1) 32<=140737488355328 by show (out.length+1)*32<=_;omega),cond_true];by_cases c5:n=0
   ·rw[qbk (show n=Int.ofNat 0 from c5),cond_true,if_pos c5,q2v x1 f F r _ hr' (by omega) (by omega) (by simp only[List.append_eq,List.length_append,List.length_cons,List.length_nil];omega)];rw[List.append_eq,q3j];show some ((chgR (out++[(k,S.none_,true)]) (S.changes f r k)).1,_,())=_;cases S.changes f r k with
    | none=>rfl
    | some l=>show some (out++[_]++l,true,())=some (out++_::l,true,());rw[List.append_assoc];rfl
   ·rw[qbg (show ¬n=Int.ofNat 0 from c5),cond_false,if_neg c5];have e1:IntKind.i64.wrap (Int.sub n (Int.ofNat 1))=n-1:=wrap_in (by show -_<=n-1/\n-1<_;omega);have l2:lchk (Int.ofNat 0) (n-1) (Int.ofNat r.length) (Int.ofNat r.length)=true:=qbt.2 ⟨Int.le_refl _,by show (0:Int)<=n-1;omega,by show n-1<=(r.length:Int);omega,Int.le_refl _⟩;have l3:lchk (n-1) (Int.ofNat r.length) (Int.ofNat r.length) (Int.ofNat r.length)=true:=qbt.2 ⟨by omega,by show n-1<=(r.length:Int);omega,Int.le_refl _,Int.le_refl _⟩;rw[e1,l2,cond_true,l3,cond_true,show Int.toNat (Int.ofNat r.length)=r.length from rfl,qjc hr',q5q hr'];rw[q2v x1 f F (r.drop (n-1).toNat) _ (qc0 hr' _) (by rw[List.length_drop];omega) (by omega) (by simp only[List.append_eq,List.length_append,List.length_cons,List.length_nil,List.length_drop];omega)];rw[List.append_eq,q3j];cases S.changes f (r.drop (n-1).toNat) k with
    | none=>rfl
    | some l=>show some (out++[_]++l,true,())=some (out++_::l,true,());rw[List.append_assoc];rfl
theorem znj(b:ByteArray)(h:b.size<=1000000):Fz5 LF b=some ((S.chg b).1,(S.chg b).2,()):=by
 obtain⟨r,h1,rfl,h3,h4⟩:=qna b;rw[h3] at h;simp only[Fz5,q0f];refine(q2v (qaf r) (r.length+1) LF r [] h1 (by omega) (by unfold LF;omega) (by rw[List.length_nil];omega)).trans ?_;unfold S.chg;rw[h3,h4];show some ((chgR [] (S.changes (r.length+1) r (-1))).1,(chgR [] (S.changes (r.length+1) r (-1))).2,())=_;cases S.changes (r.length+1) r (-1)<;>rfl
theorem zsh:Con Tryz.prog idz5 spz5:=mkz5 trivial fun x y hx h=>⟨LF,by
 obtain⟨h1,h2⟩:=qa8 (show cond (Nat.ble x.1.size 1000000) (some ((S.chg x.1).1,(S.chg x.1).2,())) none=some y from h);exact(znj x.1 (Nat.le_of_ble_eq_true h1)).trans (congrArg some h2)⟩
theorem z3r(s:ByteArray)(h:s.size<=3):Fz7 LF s=some (S.val s,()):=by
 obtain⟨b,hb1,rfl,hb3,hb4⟩:=qna s;rw[hb3] at h;unfold S.val;rw[hb4];simp only[Fz7,q0b];refine(range0 (σ:=Int) (R:=Rtz7) b (fun i n=>(n,i)) (fun i n=>0<=n/\(i=0->n<1)/\(i=1->n<256)/\(i=2->n<65536)) (fun rest _ n=>some (rest.foldl (fun n b=>256*n+b) n,())) (by unfold LF;omega) (fun K n hn=>?_) (fun K i v rest n hn r hk=>?_) 0 (show (0:Int)<=0/\((0:Nat)=0->(0:Int)<1)/\((0:Nat)=1->(0:Int)<256)/\((0:Nat)=2->(0:Int)<65536) by omega)).trans rfl
 ·simp only[qsg,qa1,qce,cond_false];rfl
 ·have hv:=hb1 v r.mem;have hi:=r.lt;simp only[qsg,qa1,r.ilt,hb4,r.get,r.next,cond_true];have hn':0<=n/\n<65536:=by omega
  have hw:IntKind.i64.wrap (Int.add (IntKind.i64.wrap (Int.mul (Int.ofNat 256) n)) (IntKind.i64.wrap v))=256*n+v:=by
   rw[wrap_in (n:=v) (by omega),wrap_in (n:=Int.mul (Int.ofNat 256) n) (by show -_<=(256:Int)*n/\(256:Int)*n<_;omega)];exact wrap_in (by show -_<=(256:Int)*n+v/\(256:Int)*n+v<_;omega)
  rw[hw];exact hk _ ⟨by omega,by omega,by omega,by omega⟩
theorem zif:Con Tryz.prog idz7 spz7:=mkz7 trivial fun x y hx h=>⟨LF,by
 obtain⟨h1,h2⟩:=qa8 (show cond (Nat.ble x.1.size 3) (some (S.val x.1,())) none=some y from h);exact(z3r x.1 (Nat.le_of_ble_eq_true h1)).trans (congrArg some h2)⟩
theorem qus:∀{l:List qaa} {last:Int},S.okGo l last=true->-1<=last->(l.length:Int)<=max 0 (199-last)
 | [],_,_,_=>by rw[List.length_nil];omega
 | c::l,last,h,hl=>by
  obtain⟨h1,h2,h3,h4,h5⟩:=qbq.1 h;have:=qus h5 (by omega);rw[List.length_cons];omega
theorem qqw{l:List qaa}(h:S.okC l=true):l.length<=200:=by
 have:=qus (l:=l) (last:=-1) h (Int.le_refl _);omega
theorem zer(x c:qaa)(h:x.1<c.1)(a:List qaa):S.ins1 c (x::a)=x::S.ins1 c a:=by
 show (if x.1<c.1 then x::S.ins1 c a else _)=_;rw[if_pos h]
theorem qls(x:qaa):∀(b a:List qaa) (last:Int),S.okGo b last=true->x.1<=last->S.changed (x::a) b=x::S.changed a b
 | [],a,_,_,_=>rfl
 | c::b,a,last,h,hx=>by
  obtain⟨h1,h2,h3,h4,h5⟩:=qbq.1 h;show S.changed (S.ins1 c (x::a)) b=x::S.changed (S.ins1 c a) b;rw[zer x c (by omega)];exact qls x b _ c.1 h5 (by omega)
theorem ztk{x c:qaa}{a b:List qaa}{last:Int}(h:S.okGo (c::b) last=true)(hx:x.1<c.1):S.changed (x::a) (c::b)=x::S.changed a (c::b):=by
 obtain⟨h1,h2,h3,h4,h5⟩:=qbq.1 h;show S.changed (S.ins1 c (x::a)) b=x::S.changed (S.ins1 c a) b;rw[zer x c hx];exact qls x b _ c.1 h5 (by omega)
theorem z12{x c:qaa}{a b:List qaa}{last:Int}(h:S.okGo (c::b) last=true)(hx:x.1=c.1):S.changed (x::a) (c::b)=cond c.2.2 (S.changed a b) (c::S.changed a b):=by
 obtain⟨h1,h2,h3,h4,h5⟩:=qbq.1 h;show S.changed (if x.1<c.1 then x::S.ins1 c a else if x.1=c.1 then cond c.2.2 a (c::a) else _) b=_;rw[if_neg (by omega),if_pos hx];cases c.2.2 with
 | true=>rfl
 | false=>exact qls c b a c.1 h5 (Int.le_refl _)
theorem zl1{x c:qaa}{a b:List qaa}{last:Int}(h:S.okGo (c::b) last=true)(hx:c.1<x.1):S.changed (x::a) (c::b)=cond c.2.2 (S.changed (x::a) b) (c::S.changed (x::a) b):=by
 obtain⟨h1,h2,h3,h4,h5⟩:=qbq.1 h;show S.changed (if x.1<c.1 then x::S.ins1 c a else if x.1=c.1 then cond c.2.2 a (c::a) else cond c.2.2 (x::a) (c::x::a)) b=_;rw[if_neg (by omega),if_neg (by omega)];cases c.2.2 with
 | true=>rfl
 | false=>exact qls c b (x::a) c.1 h5 (Int.le_refl _)
theorem zfk{c:qaa}{b:List qaa}{last:Int}(h:S.okGo (c::b) last=true):S.changed [] (c::b)=cond c.2.2 (S.changed [] b) (c::S.changed [] b):=by
 obtain⟨h1,h2,h3,h4,h5⟩:=qbq.1 h;show S.changed (cond c.2.2 [] [c]) b=_;cases c.2.2 with
 | true=>rfl
 | false=>exact qls c b [] c.1 h5 (Int.le_refl _)
theorem qwm{l:List qaa}{i:Nat}(h:i<l.length):∃c,l[i]?=some c/\l.drop i=c::l.drop (i+1):=⟨l[i],List.getElem?_eq_getElem h,List.drop_eq_getElem_cons h⟩
theorem qvl:∀{l:List qaa} {last:Int} (i:Nat),S.okGo l last=true->∃last',S.okGo (l.drop i) last'=true
 | l,last,0,h=>⟨last,h⟩
 | [],last,i+1,h=>⟨last,h⟩
 | c::l,last,i+1,h=>qvl i (qbq.1 h).2.2.2.2
theorem qe6(a b:List qaa)(ha:a.length<=1000)(hb:b.length<=1000)(ok:S.okGo b (-1)=true):∀(m F i k:Nat) (out:List qaa),(a.length-i)+(b.length-k)<=m->m<F->i<=a.length->k<=b.length->out.length+m<=3000000->qib LF a b F (Int.ofNat k,out,Int.ofNat i)=some (out++S.changed (a.drop i) (b.drop k),())
 | m,0,i,k,out,h1,h2,h3,h4,h5=>by omega
 | m,F+1,i,k,out,h1,h2,h3,h4,h5=>by
  show qe8 LF a b (qib LF a b F) _=_;have wi:IntKind.i64.wrap (Int.add (Int.ofNat i) (Int.ofNat 1))=Int.ofNat (i+1):=qa3 (n:=i+1) (by omega);have wk:IntKind.i64.wrap (Int.add (Int.ofNat k) (Int.ofNat 1))=Int.ofNat (k+1):=qa3 (n:=k+1) (by omega);have hB:Nat.ble (Nat.mul (Nat.add out.length 1) 32) 140737488355328=true:=Nat.ble_eq_true_of_le (by show (out.length+1)*32<=_;omega);have ap:∀(c:qaa) (l:List qaa),List.append out (List.cons (c.1,(c.2.1,c.2.2)) [])++l=out++c::l:=fun c l=>by
   show (out++[c])++l=_;rw[List.append_assoc];rfl
  have al:∀(c:qaa),(List.append out (List.cons (c.1,(c.2.1,c.2.2)) [])).length=out.length+1:=fun c=>by
   show (out++[c]).length=_;rw[List.length_append];rfl
  by_cases hi:i<a.length
  ·obtain⟨x,x1,x2⟩:=qwm hi;have i1:iltI (Int.ofNat i) (Int.ofNat a.length)=true:=by rw[qa5];exact decide_eq_true hi
   by_cases hk:k<b.length
   ·obtain⟨c,c1,c2⟩:=qwm hk;have k1:iltI (Int.ofNat k) (Int.ofNat b.length)=true:=by rw[qa5];exact decide_eq_true hk
    have k2:ieqI (Int.ofNat k) (Int.ofNat b.length)=false:=by rw[qg9];exact decide_eq_false (by omega)
    obtain⟨last,hok⟩:=qvl k ok;rw[c2] at hok;by_cases q1:x.1<c.1
    ·have e1:=qd8 q1;simp only[qe8,i1,k2,qbr,x1,c1,e1,hB,wi,cond_true,cond_false];rw[qe6 a b ha hb ok (m-1) F (i+1) k _ (by omega) (by omega) (by omega) (by omega) (by rw[al];omega),x2,c2,ztk hok q1,ap]
    ·have e1:=qd4 q1;by_cases q2:x.1=c.1
     ·have e2:=qbk q2;simp only[qe8,i1,k2,qbr,x1,c1,e1,e2,hB,wi,wk,cond_true,cond_false];rw[x2,c2,z12 hok q2];cases hg:c.2.2 with
      | true =>
       simp only[Bool.not_true,cond_false,cond_true];rw[qe6 a b ha hb ok (m-1) F (i+1) (k+1) _ (by omega) (by omega) (by omega) (by omega) (by omega)]
      | false =>
       simp only[Bool.not_false,cond_false,cond_true];have ap':=ap c;have al':=al c;rw[hg] at ap' al';rw[qe6 a b ha hb ok (m-1) F (i+1) (k+1) _ (by omega) (by omega) (by omega) (by omega) (by rw[al'];omega),ap']
     ·have e2:=qbg q2;simp only[qe8,i1,k2,qbr,x1,c1,e1,e2,hB,wi,wk,cond_true,cond_false];rw[x2,c2,zl1 hok (by omega)];cases hg:c.2.2 with
      | true =>
       simp only[Bool.not_true,cond_false,cond_true];rw[qe6 a b ha hb ok (m-1) F i (k+1) _ (by omega) (by omega) (by omega) (by omega) (by omega),x2]
      | false =>
       simp only[Bool.not_false,cond_false,cond_true];have ap':=ap c;have al':=al c;rw[hg] at ap' al';rw[qe6 a b ha hb ok (m-1) F i (k+1) _ (by omega) (by omega) (by omega) (by omega) (by rw[al'];omega),ap',x2]
   ·have ek:k=b.length:=by omega
    have k2:ieqI (Int.ofNat k) (Int.ofNat b.length)=true:=by rw[qg9];exact decide_eq_true ek
    simp only[qe8,i1,k2,qbr,x1,hB,wi,cond_true];rw[qe6 a b ha hb ok (m-1) F (i+1) k _ (by omega) (by omega) (by omega) (by omega) (by rw[al];omega),List.drop_eq_nil_of_le (show b.length<=k by omega),x2,ap];rfl
  ·have i1:iltI (Int.ofNat i) (Int.ofNat a.length)=false:=by rw[qa5];exact decide_eq_false hi
   have x2:a.drop i=[]:=List.drop_eq_nil_of_le (by omega);by_cases hk:k<b.length
   ·obtain⟨c,c1,c2⟩:=qwm hk;have k1:iltI (Int.ofNat k) (Int.ofNat b.length)=true:=by rw[qa5];exact decide_eq_true hk
    have k2:ieqI (Int.ofNat k) (Int.ofNat b.length)=false:=by rw[qg9];exact decide_eq_false (by omega)
    obtain⟨last,hok⟩:=qvl k ok;rw[c2] at hok;simp only[qe8,i1,k1,k2,qbr,c1,hB,wk,cond_true,cond_false];rw[x2,c2,zfk hok];cases hg:c.2.2 with
    | true =>
     simp only[Bool.not_true,cond_false,cond_true];rw[qe6 a b ha hb ok (m-1) F i (k+1) _ (by omega) (by omega) (by omega) (by omega) (by omega),x2]
    | false =>
     simp only[Bool.not_false,cond_false,cond_true];have ap':=ap c;have al':=al c;rw[hg] at ap' al';rw[qe6 a b ha hb ok (m-1) F i (k+1) _ (by omega) (by omega) (by omega) (by omega) (by rw[al'];omega),ap',x2]
   ·have k1:iltI (Int.ofNat k) (Int.ofNat b.length)=false:=by rw[qa5];exact decide_eq_false hk
    simp only[qe8,i1,k1,cond_false];rw[x2,List.drop_eq_nil_of_le (show b.length<=k by omega)];show some (out,())=some (out++[],());rw[List.append_nil]
theorem zf1{a b:List qaa}(h:S.mrg a b=true):okS a (-1)/\S.okC b=true:=by
 unfold S.mrg S.srt at h;rw[Bool.and_eq_true,Bool.and_eq_true,Bool.not_eq_true'] at h;exact⟨⟨h.1.1,fun c hc=>by
  have:=List.any_eq_false.1 h.1.2 c hc;exact Bool.eq_false_iff.2 this⟩,h.2⟩
theorem zzd{a b:List qaa}(h:okS a (-1))(k:S.okC b=true):S.mrg a b=true:=by
 unfold S.mrg S.srt;rw[Bool.and_eq_true,Bool.and_eq_true,Bool.not_eq_true'];exact⟨⟨h.1,List.any_eq_false.2 fun c hc=>by rw[h.2 c hc];decide⟩,k⟩
theorem znn(a b:List qaa)(h:S.mrg a b=true):Fz9 LF a b=some (S.changed a b,()):=by
 obtain⟨h1,h2⟩:=zf1 h;have l1:=qqw h1.1;have l2:=qqw h2;simp only[Fz9,qu2];refine(qe6 a b (by omega) (by omega) h2 (a.length+b.length) LF 0 0 [] (by omega) (by unfold LF;omega) (by omega) (by omega) (by rw[List.length_nil];omega)).trans ?_;rfl
theorem zof:Con Tryz.prog idz9 spz9:=mkz9 trivial fun x y hx h=>⟨LF,by
 obtain⟨h1,h2⟩:=qa8 (show cond (S.mrg x.1 x.2.1) (some (S.changed x.1 x.2.1,())) none=some y from h);exact(znn x.1 x.2.1 h1).trans (congrArg some h2)⟩
theorem zxf(a b:Nat):(!iltI (Int.ofNat a) (Int.ofNat b))=Nat.ble b a:=by
 rw[qa5,Bool.eq_iff_iff,Bool.not_eq_true',decide_eq_false_iff_not,Nat.ble_eq];omega
theorem zfm(a b:Nat):iltI (Int.ofNat a) (Int.ofNat b)=Nat.blt a b:=by
 rw[qa5,Bool.eq_iff_iff,decide_eq_true_iff,Nat.blt_eq]
theorem z4m(a b:Nat):(!Nat.blt a b)=Nat.ble b a:=by rw[<- zfm,zxf]
theorem z2m(lf:Nat)(d:qab):Fz2 lf d=some (S.few d,()):=by
 simp only[Fz2,qwj,zfm,z4m];unfold S.few;cases Nat.ble d.1.length 40<;>cases Nat.blt 1000 d.1.length<;>cases Nat.ble d.1.length 1100<;>cases Nat.ble d.2.length 80<;>cases Nat.blt 4000 d.2.length<;>cases Nat.ble d.2.length 4100<;>rfl
theorem z00:Con Tryz.prog idz2 spz2:=mkz2 trivial fun x y hx h=>⟨0,(z2m 0 x.1).trans h⟩
theorem zyj:(S.newDisk 8).2=0/\(S.format (S.newDisk 8).1).2=0/\(S.doD (S.newDisk 8).1 (S.format (S.newDisk 8).1).1).2=0/\(S.open_ S.madeD).2=0:=by
 refine⟨?_,?_,?_,?_⟩<;>kernel_rfl
theorem zxt(lf:Nat):Fz3 lf 8=some (S.madeJ,true,()):=by
 obtain⟨h1,h2,h3,h4⟩:=zyj;simp only[Fz3,q1c];show cond (ieqI (S.newDisk 8).2 _) (cond (ieqI (S.format (S.newDisk 8).1).2 _) (cond (ieqI (S.doD (S.newDisk 8).1 (S.format (S.newDisk 8).1).1).2 _) (some ((S.open_ S.madeD).1,ieqI (S.open_ S.madeD).2 _,())) _) _) _=_;rw[h1,h2,h3,h4];rfl
theorem zmh(lf:Nat)(d:qab):Fz4 lf d=some (true,()):=by
 have e1:∀a:List DAct,S.sameA a a=true:=fun a=>decide_eq_true rfl;have e2:∀a:qae,S.sameJ a a=true:=fun a=>decide_eq_true rfl;simp only[Fz4,qxa,e1,e2,zgu,cond_true];cases (!S.few (d.1,d.2))<;>rfl
def qn8:Nat->Option Nm:=fun k=>none
def qqh:Nat->Bool:=fun k=>false
def qs8:=qqh
abbrev qhb:Type:=ByteArray × Unit
def q2d:List (Nat × Sm):=[(90,zbf)]
def q35:List (Nat × Hx):=[]
def zel(R:Type)(lf:Nat):ClK R:=qan Tryz.prog ttT.get ftT.get (nm1 54 qn8) (smL q2d) (hxL q35) lf 20 R
abbrev zo4:Nat:=54
def q62(lf:Nat):Option qhb:=(match (cond (S.oneN (S.lit [0]) (Int.ofNat 64)) (some (S.blank,())) none) with|.none  => none|.some v0=>(some (v0.1,())))
abbrev gz37:Type:=ElA []->Option qhb
abbrev sz37(g:gz37):Sm:=⟨[],[(false,.str)],g⟩
abbrev Ez37(g:gz37)(J:JT qhb)(lf:Nat):=qat Tryz.prog ttT.get qn8 fi54.nt (zel _ lf) lf qqh J fi54.body [] (qal (argV [] (())) 0 .leaf) S0 [] (qak ttT.get fi54 (sz37 g))
theorem zgr(g:gz37)(J:JT qhb)(lf:Nat):Ez37 g J lf=q62 lf:=by kernel_rfl
theorem zk6:(regs fi54.body).Nodup:=by decide +kernel
theorem znv:okC qn8 qqh qs8 fi54.body none=true:=by kernel_rfl
def Az37(g:gz37)(lf:Nat):JT qhb:=atN Tryz.prog ttT.get qn8 fi54 (sz37 g) (zel _ lf) lf qs8
def Fz37(lf:Nat):Option qhb:=q62 lf
theorem zs1(g:gz37)(lf:Nat):Ez37 g (Az37 g lf) lf=Fz37 lf:=by
  refine(zgr g (Az37 g lf) lf).trans ?_;rfl
theorem z0g:qaq Tryz.prog q35:=trivial
theorem z3a{g:gz37}(hsm:SmOK Tryz.prog q2d)(hg:∀(x:ElA []) (y:qhb),WfA [] x->g x=some y->∃lf,Fz37 lf=some y):Con Tryz.prog 54 ⟨[],[(false,.str)],g⟩ :=
 conT (nmf:=qn8) (sml:=q2d) (hxl:=q35) (st:=qqh) (hd:=qs8) 20 mixed ttOK ftOK hsm z0g ztj rfl rfl (by kernel_rfl) (fun x=>by kernel_rfl) zk6 znv fun x y hx hy=>by
  obtain⟨lf,h⟩:=hg x y hx hy;exact⟨lf,(zs1 g lf).trans h⟩
def qko:Nat->Option Nm:=fun k=>cond (Nat.beq k 4) (some ⟨[0,1,12,13],[],[],[],[],0,0,false⟩) (none)
def qmt:Nat->Bool:=fun k=>cond (Nat.beq k 4) true (false)
def q1u:=qmt
abbrev qdc:Type:=Bool × Unit
def qzv:List (Nat × Sm):=[]
def q4f:List (Nat × Hx):=[]
def q1e(R:Type)(lf:Nat):ClK R:=qan Tryz.prog ttT.get ftT.get (nm1 100 qko) (smL qzv) (hxL q4f) lf 20 R
abbrev zvm:Nat:=100
def qi2(x1:(List qaa))(x2:(List qaa))(p:Int):NRes:=(NRes.mk (.node (some (IV.lst qad x1)) (.node (some (IV.lst qad x2)) .leaf (.node none .leaf (.node (some (IV.int .i64 p)) .leaf .leaf))) (.node none (.node none .leaf (.node (some (IV.int .i64 (Int.ofNat (List.length x1)))) .leaf .leaf)) .leaf)) (IS.mk .leaf 0) [] 0)
def qvv(lf:Nat)(x1:(List qaa))(x2:(List qaa))(L4:Int->Option qdc):Option qdc:=(cond (Bool.not (ieqI (Int.ofNat (List.length x1)) (Int.ofNat (List.length x2)))) (some (Bool.false,())) (L4 (Int.ofNat 0)))
def qpm(lf:Nat)(x1:(List qaa))(x2:(List qaa))(L4:Int->Option qdc)(p:Int):Option qdc:=(cond (iltI p (Int.ofNat (List.length x1))) (match (jget x1 p) with|.none  => none|.some v0=>(match (jget x2 p) with|.none  => none|.some v1=>(cond (Bool.not (Bool.and (keqI v0.1 v1.1) (Bool.and (keqS v0.2.1 v1.2.1) (Bool.and (keqB v0.2.2 v1.2.2) Bool.true)))) (some (Bool.false,())) (L4 (IntKind.i64.wrap (Int.add p (Int.ofNat 1))))))) (some (Bool.true,())))
abbrev gz38:Type:=ElA [(.list qad),(.list qad)]->Option qdc
abbrev sz38(g:gz38):Sm:=⟨[(.list qad),(.list qad)],[(false,.bool)],g⟩
abbrev Ez38(g:gz38)(J:JT qdc)(lf:Nat)(x1:(List qaa))(x2:(List qaa)):=qat Tryz.prog ttT.get qko qeb.nt (q1e _ lf) lf qmt J qeb.body [] (qal (argV [(.list qad),(.list qad)] (x1,x2,())) 0 .leaf) S0 [] (qak ttT.get qeb (sz38 g))
abbrev Bz38(g:gz38)(J:JT qdc)(lf k:Nat)(ms:List Nat)(q:NRes):=qbu Tryz.prog ttT.get qko qeb.nt (q1e _ lf) lf qmt J k qeb.body [] ms q (qak ttT.get qeb (sz38 g))
theorem zp4(g:gz38)(J:JT qdc)(lf:Nat)(x1:(List qaa))(x2:(List qaa)):Ez38 g J lf x1 x2=qvv lf x1 x2 (fun q=>J 4 [lf] (qi2 x1 x2 q)):=by kernel_rfl
theorem zxu(g:gz38)(J:JT qdc)(lf:Nat)(x1:(List qaa))(x2:(List qaa))(m1:Nat)(p:Int):Bz38 g J lf 4 [m1] (qi2 x1 x2 p)=qpm lf x1 x2 (fun q=>J 4 [m1] (qi2 x1 x2 q)) p:=by kernel_rfl
theorem q7d:(regs qeb.body).Nodup:=by decide +kernel
theorem zcl:okC qko qmt q1u qeb.body none=true:=by kernel_rfl
def Az38(g:gz38)(lf:Nat):JT qdc:=atN Tryz.prog ttT.get qko qeb (sz38 g) (q1e _ lf) lf q1u
def qpj(lf:Nat)(x1:(List qaa))(x2:(List qaa)):Nat->(Int)->Option qdc:=qa2 fun K p=>qpm lf x1 x2 K p
theorem zdz(g:gz38)(lf:Nat)(x1:(List qaa))(x2:(List qaa)):∀(n:Nat) (p:Int),Az38 g lf 4 [n] (qi2 x1 x2 p)=qpj lf x1 x2 n p
 | 0,p=>qbm 4 [0] rfl _
 | n+1,p=>by
  have ih:=zdz g lf x1 x2 n;refine(qbl (qa6 20 _) q7d zcl 4 [n+1] [n] rfl _).trans ((zxu g (Az38 g lf) lf x1 x2 n p).trans ?_);rw[(show (fun q=>Az38 g lf 4 [n] (qi2 x1 x2 q))=(fun q=>qpj lf x1 x2 n q) from funext ih)];rfl
def Fz38(lf:Nat)(x1:(List qaa))(x2:(List qaa)):Option qdc:=qvv lf x1 x2 (fun q=>qpj lf x1 x2 lf q)
theorem zrq(g:gz38)(lf:Nat)(x1:(List qaa))(x2:(List qaa)):Ez38 g (Az38 g lf) lf x1 x2=Fz38 lf x1 x2:=by
  refine(zp4 g (Az38 g lf) lf x1 x2).trans ?_;rw[(show (fun q=>Az38 g lf 4 [lf] (qi2 x1 x2 q))=(fun q=>qpj lf x1 x2 lf q) from funext fun q=>zdz g lf x1 x2 lf q)];rfl
theorem z32:qaq Tryz.prog q4f:=trivial
theorem zjo{g:gz38}(hsm:SmOK Tryz.prog qzv)(hg:∀(x:ElA [(.list qad),(.list qad)]) (y:qdc),WfA [(.list qad),(.list qad)] x->g x=some y->∃lf,Fz38 lf x.1 x.2.1=some y):Con Tryz.prog 100 ⟨[(.list qad),(.list qad)],[(false,.bool)],g⟩ :=
 conT (nmf:=qko) (sml:=qzv) (hxl:=q4f) (st:=qmt) (hd:=q1u) 20 mixed ttOK ftOK hsm z32 zwd rfl rfl (by kernel_rfl) (fun x=>by kernel_rfl) q7d zcl fun x y hx hy=>by
  obtain⟨lf,h⟩:=hg x y hx hy;exact⟨lf,(zrq g lf x.1 x.2.1).trans h⟩
end Go.Proofs.YtnhmanoiolfapaaGreat
end

section
namespace Go.Proofs.YtnhmanoiolfapaaGreat
open Go Go.RowKit Go.Shelf
def qv5:Go.Shelf.Ren:=⟨fun|105=>90|212=>102|99=>106|165=>107|166=>108|170=>109|169=>110|263=>116|264=>117|206=>118|240=>119|241=>120|276=>126|277=>127|n=>n,fun|9=>9|3=>3|4=>4|20=>20|0=>0|46=>141|109=>158|5=>5|72=>166|76=>170|51=>178|146=>179|53=>181|148=>182|70=>164|37=>78|75=>169|127=>184|164=>191|80=>100|n=>n,fun|n=>n⟩
theorem q8a:Go.Proofs.Lays.n105 Tryz.prog qv5:={
 mixed:=by kernel_rfl
 f99:=Tryz.func106.trans (congrArg some (by kernel_rfl))
 f105:=Tryz.func90.trans (congrArg some (by kernel_rfl))
 f165:=Tryz.func107.trans (congrArg some (by kernel_rfl))
 f166:=Tryz.func108.trans (congrArg some (by kernel_rfl))
 f169:=Tryz.func110.trans (congrArg some (by kernel_rfl))
 f170:=Tryz.func109.trans (congrArg some (by kernel_rfl))
 f206:=Tryz.func118.trans (congrArg some (by kernel_rfl))
 f212:=Tryz.func102.trans (congrArg some (by kernel_rfl))
 f240:=Tryz.func119.trans (congrArg some (by kernel_rfl))
 f241:=Tryz.func120.trans (congrArg some (by kernel_rfl))
 f263:=Tryz.func116.trans (congrArg some (by kernel_rfl))
 f264:=Tryz.func117.trans (congrArg some (by kernel_rfl))
 f276:=Tryz.func126.trans (congrArg some (by kernel_rfl))
 f277:=Tryz.func127.trans (congrArg some (by kernel_rfl))
 t0:=Tryz.underlying0
 a0:=Tryz.isAgg0
 z0:=Tryz.sizeOf0
 v0:=Tryz.zeroValue0
 t3:=Tryz.underlying3
 a3:=Tryz.isAgg3
 z3:=Tryz.sizeOf3
 v3:=Tryz.zeroValue3
 t4:=Tryz.underlying4
 a4:=Tryz.isAgg4
 z4:=Tryz.sizeOf4
 v4:=Tryz.zeroValue4
 t5:=Tryz.underlying5
 a5:=Tryz.isAgg5
 z5:=Tryz.sizeOf5
 v5:=Tryz.zeroValue5
 t9:=Tryz.underlying9
 a9:=Tryz.isAgg9
 z9:=Tryz.sizeOf9
 v9:=Tryz.zeroValue9
 t20:=Tryz.underlying20
 a20:=Tryz.isAgg20
 z20:=Tryz.sizeOf20
 v20:=Tryz.zeroValue20
 t37:=Tryz.underlying78
 a37:=Tryz.isAgg78
 z37:=Tryz.sizeOf78
 v37:=Tryz.zeroValue78
 t46:=Tryz.underlying141
 a46:=Tryz.isAgg141
 z46:=Tryz.sizeOf141
 v46:=Tryz.zeroValue141
 t51:=Tryz.underlying178
 a51:=Tryz.isAgg178
 z51:=Tryz.sizeOf178
 v51:=Tryz.zeroValue178
 t53:=Tryz.underlying181
 a53:=Tryz.isAgg181
 z53:=Tryz.sizeOf181
 v53:=Tryz.zeroValue181
 t70:=Tryz.underlying164
 a70:=Tryz.isAgg164
 z70:=Tryz.sizeOf164
 v70:=Tryz.zeroValue164
 t72:=Tryz.underlying166
 a72:=Tryz.isAgg166
 z72:=Tryz.sizeOf166
 v72:=Tryz.zeroValue166
 t75:=Tryz.underlying169
 a75:=Tryz.isAgg169
 z75:=Tryz.sizeOf169
 v75:=Tryz.zeroValue169
 t76:=Tryz.underlying170
 a76:=Tryz.isAgg170
 z76:=Tryz.sizeOf170
 v76:=Tryz.zeroValue170
 t109:=Tryz.underlying158
 a109:=Tryz.isAgg158
 z109:=Tryz.sizeOf158
 v109:=Tryz.zeroValue158
 t127:=Tryz.underlying184
 a127:=Tryz.isAgg184
 z127:=Tryz.sizeOf184
 v127:=Tryz.zeroValue184
 t146:=Tryz.underlying179
 a146:=Tryz.isAgg179
 z146:=Tryz.sizeOf179
 v146:=Tryz.zeroValue179
 t148:=Tryz.underlying182
 a148:=Tryz.isAgg182
 z148:=Tryz.sizeOf182
 v148:=Tryz.zeroValue182
 t164:=Tryz.underlying191
 a164:=Tryz.isAgg191
 z164:=Tryz.sizeOf191
 v164:=Tryz.zeroValue191 }
theorem z1r:Builder.Extra Tryz.prog qv5:={
 sizeBuilder:=by kernel_rfl
 liesBuilder:=by kernel_rfl
 t5:=Tryz.underlying5
 a5:=Tryz.isAgg5
 z5:=Tryz.sizeOf5
 v5:=Tryz.zeroValue5
 infoByte:=by kernel_rfl
 cellsByte:=by kernel_rfl
 sizeByte:=by kernel_rfl
 neB5:=by decide }
theorem zkv(s:ByteArray)(c:Nat)(w:World)(hc:c<=9223372036854775807)(hlen:s.size*c<=140737488355328) :
  Calls Tryz.prog 90 #[.string s,.int .i64 c] w fun e w'=>e=.returned (.string ⟨(Lib.repeatL s.data.toList c).toArray⟩)/\Below w.heap.size w w':=Any.strings_Repeat q8a z1r s c w hc hlen
end Go.Proofs.YtnhmanoiolfapaaGreat
end

noncomputable section
set_option maxRecDepth 100000
namespace Go.Proofs.YtnhmanoiolfapaaGreat
open Go Go.Sx Go.RowKit Go.Jx
theorem z0o:qah Tryz.prog 90:=⟨_,Tryz.func90,by kernel_rfl,by kernel_rfl⟩
theorem zvx{f:Nat}{s:Sm}(hC:qah Tryz.prog f)(hr:∀y,resO s.rts y=[])
  (h:∀(M:List Nat) (w:World) (x:ElA s.pts) (us:List Value) (y:ElR s.rts),s.f x=some y->VRs (EM M w) (argV s.pts x) us->∃v,(∀E':Env,VR E' (tupI (resV s.rts 0 y)) v)/\Calls Tryz.prog f us.toArray w fun e w'=>e=.returned v/\Below w.heap.size w w'):Con Tryz.prog f s :=
 ⟨hC,fun M w x us y hy hM hg hv=>by
  obtain⟨v,h1,h2⟩:=h M w x us y hy hv;refine(callsIn_wide.2 h2).mono fun e w' hR=>?_;obtain⟨rfl,hb⟩:=hR;rw[hr y];obtain⟨q1,q2⟩:=Post.idle (preM hM hg) (Upd.of_below hb);exact⟨v,(EM M w).at_ w',rfl,rfl,h1 _,q1,q2⟩⟩
theorem zzv{s:ByteArray}{n:Int}(h:S.oneN s n=true):s=S.lit [0]/\n=64:=by
 unfold S.oneN at h;rw[Bool.and_eq_true] at h;exact⟨of_decide_eq_true h.1,of_decide_eq_true h.2⟩
theorem zsl:S.blank.size=64:=by kernel_rfl
theorem z4o{E:Env}(s:ByteArray)(n:Int){us:List Value}{y:ByteArray × Unit}(hy:cond (S.oneN s n) (some (S.blank,())) none=some y)(hv:VRs E [.str s,.int .i64 n] us) :
  ∃v,(∀E':Env,VR E' (.str y.1) v)/\Calls Tryz.prog 90 us.toArray E.w fun e w'=>e=.returned v/\Below E.w.heap.size E.w w':=by
 obtain⟨hk,rfl⟩:=qa8 hy;obtain⟨rfl,rfl⟩:=zzv hk;obtain⟨u1,us1,rfl,a1,a2⟩:=hv.inv;obtain⟨u2,us2,rfl,a3,a4⟩:=a2.inv;have e:us2=[]:=by have:=a4.1;simpa using this.symm
 subst e;cases a1;cases a3;refine⟨.string S.blank,fun E'=>.str _ (by rw[zsl];omega),?_⟩;refine(zkv (S.lit [0]) 64 E.w (by omega) (by show 1*64<=_;omega)).mono fun e w' h=>?_;rw[show (⟨(Lib.repeatL (S.lit [0]).data.toList 64).toArray⟩:ByteArray)=S.blank by kernel_rfl] at h;exact h
theorem zu4:Con Tryz.prog 90 zbf :=
 zvx z0o (fun y=>rfl) fun M w x us y hy hv=>z4o x.1 x.2.1 hy hv
def qob:Nat->Option Nm:=fun k=>none
def qpv:Nat->Bool:=fun k=>false
def qzd:=qpv
abbrev qf8:Type:=Int × Unit
def q20:List (Nat × Sm):=[(93,qnx)]
def q4k:List (Nat × Hx):=[]
def q9g(R:Type)(lf:Nat):ClK R:=qan Tryz.prog ttT.get ftT.get (nm1 69 qob) (smL q20) (hxL q4k) lf 20 R
abbrev zm9:Nat:=69
def qts(lf:Nat)(x1:qae):Option qf8:=(match (cond (S.inI (Int.ofNat (List.length x1.1.1)) (Int.ofNat 0) (Int.ofNat 1000)) (some ((S.half (Int.toNat (Int.ofNat (List.length x1.1.1))) x1.2.1),())) none) with|.none  => none|.some v0=>(some ((IntKind.i64.wrap (Int.sub (IntKind.i64.wrap (Int.sub v0.1.2 v0.1.1)) x1.2.2.1)),())))
abbrev gz39:Type:=ElA [qag]->Option qf8
abbrev sz39(g:gz39):Sm:=⟨[qag],[(false,(.int .i64))],g⟩
abbrev Ez39(g:gz39)(J:JT qf8)(lf:Nat)(x1:qae):=qat Tryz.prog ttT.get qob fi69.nt (q9g _ lf) lf qpv J fi69.body [] (qal (argV [qag] (x1,())) 0 .leaf) S0 [] (qak ttT.get fi69 (sz39 g))
theorem zvh(g:gz39)(J:JT qf8)(lf:Nat)(x1:qae):Ez39 g J lf x1=qts lf x1:=by kernel_rfl
theorem zs7:(regs fi69.body).Nodup:=by decide +kernel
theorem zf9:okC qob qpv qzd fi69.body none=true:=by kernel_rfl
def Az39(g:gz39)(lf:Nat):JT qf8:=atN Tryz.prog ttT.get qob fi69 (sz39 g) (q9g _ lf) lf qzd
def Fz39(lf:Nat)(x1:qae):Option qf8:=qts lf x1
theorem zkq(g:gz39)(lf:Nat)(x1:qae):Ez39 g (Az39 g lf) lf x1=Fz39 lf x1:=by
  refine(zvh g (Az39 g lf) lf x1).trans ?_;rfl
theorem zks:qaq Tryz.prog q4k:=trivial
theorem zql{g:gz39}(hsm:SmOK Tryz.prog q20)(hg:∀(x:ElA [qag]) (y:qf8),WfA [qag] x->g x=some y->∃lf,Fz39 lf x.1=some y):Con Tryz.prog 69 ⟨[qag],[(false,(.int .i64))],g⟩ :=
 conT (nmf:=qob) (sml:=q20) (hxl:=q4k) (st:=qpv) (hd:=qzd) 20 mixed ttOK ftOK hsm zks zx1 rfl rfl (by kernel_rfl) (fun x=>by kernel_rfl) zs7 zf9 fun x y hx hy=>by
  obtain⟨lf,h⟩:=hg x y hx hy;exact⟨lf,(zkq g lf x.1).trans h⟩
def qip:Nat->Option Nm:=fun k=>cond (Nat.beq k 6) (some ⟨[0,12,13,14],[],[],[],[],0,0,false⟩) (none)
def qng:Nat->Bool:=fun k=>cond (Nat.beq k 6) true (false)
def q0w:=qng
abbrev qcx:Type:=Int × Int × Unit
def q2s:List (Nat × Sm):=[(66,qjb),(56,qol)]
def q3d:List (Nat × Hx):=[]
def qz5(R:Type)(lf:Nat):ClK R:=qan Tryz.prog ttT.get ftT.get (nm1 22 qip) (smL q2s) (hxL q3d) lf 20 R
abbrev zoz:Nat:=22
def qjh(x1:(List qaa))(p:Int):NRes:=(NRes.mk (.node (some (IV.lst qad x1)) (.node none .leaf (.node none .leaf (.node (some (IV.int .i64 (Int.ofNat (List.length x1)))) .leaf .leaf))) (.node none (.node none .leaf (.node (some (IV.lst qad x1)) .leaf .leaf)) (.node none .leaf (.node (some (IV.int .i64 p)) .leaf .leaf)))) (IS.mk .leaf 0) [] 0)
def q2r(lf:Nat)(x1:(List qaa))(L6:Int->Option qcx):Option qcx:=(cond (iltI (Int.ofNat 60) (Int.ofNat (List.length x1))) (some ((Int.ofNat 0),((Int.ofNat 3),()))) (cond (ieqI (Int.ofNat (List.length x1)) (Int.ofNat 0)) (some ((Int.ofNat 0),((Int.ofNat 1),()))) (L6 (Int.ofNat 0))))
def qlx(lf:Nat)(x1:(List qaa))(L6:Int->Option qcx)(p:Int):Option qcx:=(cond (iltI p (Int.ofNat (List.length x1))) (match (jget x1 p) with|.none  => none|.some v0=>(cond (Bool.not (S.inI v0.1 (Int.ofNat 0) (Int.ofNat 199))) (some ((Int.ofNat 0),((Int.ofNat 1),()))) (cond (iltI (Int.ofNat 4000) (Int.ofNat (ByteArray.size v0.2.1))) (some ((Int.ofNat 0),((Int.ofNat 1),()))) (cond v0.2.2 (cond (Bool.not (keqS v0.2.1 (S.lit []))) (some ((Int.ofNat 0),((Int.ofNat 1),()))) (cond (iltI (Int.ofNat 0) p) (match (jget x1 (IntKind.i64.wrap (Int.sub p (Int.ofNat 1)))) with|.none  => none|.some v1=>(cond (Bool.not (iltI v1.1 v0.1)) (some ((Int.ofNat 0),((Int.ofNat 1),()))) (L6 (IntKind.i64.wrap (Int.add p (Int.ofNat 1)))))) (L6 (IntKind.i64.wrap (Int.add p (Int.ofNat 1)))))) (cond (iltI (Int.ofNat 0) p) (match (jget x1 (IntKind.i64.wrap (Int.sub p (Int.ofNat 1)))) with|.none  => none|.some v25=>(cond (Bool.not (iltI v25.1 v0.1)) (some ((Int.ofNat 0),((Int.ofNat 1),()))) (L6 (IntKind.i64.wrap (Int.add p (Int.ofNat 1)))))) (L6 (IntKind.i64.wrap (Int.add p (Int.ofNat 1))))))))) (match (cond (S.pk x1) (some ((S.packed x1 (Int.ofNat 1)),())) none) with|.none  => none|.some v26=>(some ((Int.ofNat (List.length v26.1)),((Int.ofNat 0),())))))
abbrev gz40:Type:=ElA [(.list qad)]->Option qcx
abbrev sz40(g:gz40):Sm:=⟨[(.list qad)],[(false,(.int .i64)),(false,(.int .i64))],g⟩
abbrev Ez40(g:gz40)(J:JT qcx)(lf:Nat)(x1:(List qaa)):=qat Tryz.prog ttT.get qip fi22.nt (qz5 _ lf) lf qng J fi22.body [] (qal (argV [(.list qad)] (x1,())) 0 .leaf) S0 [] (qak ttT.get fi22 (sz40 g))
abbrev Bz40(g:gz40)(J:JT qcx)(lf k:Nat)(ms:List Nat)(q:NRes):=qbu Tryz.prog ttT.get qip fi22.nt (qz5 _ lf) lf qng J k fi22.body [] ms q (qak ttT.get fi22 (sz40 g))
theorem zr4(g:gz40)(J:JT qcx)(lf:Nat)(x1:(List qaa)):Ez40 g J lf x1=q2r lf x1 (fun q=>J 6 [lf] (qjh x1 q)):=by kernel_rfl
theorem z4p(g:gz40)(J:JT qcx)(lf:Nat)(x1:(List qaa))(m1:Nat)(p:Int):Bz40 g J lf 6 [m1] (qjh x1 p)=qlx lf x1 (fun q=>J 6 [m1] (qjh x1 q)) p:=by kernel_rfl
theorem zcu:(regs fi22.body).Nodup:=by decide +kernel
theorem q6y:okC qip qng q0w fi22.body none=true:=by kernel_rfl
def Az40(g:gz40)(lf:Nat):JT qcx:=atN Tryz.prog ttT.get qip fi22 (sz40 g) (qz5 _ lf) lf q0w
def qrt(lf:Nat)(x1:(List qaa)):Nat->(Int)->Option qcx:=qa2 fun K p=>qlx lf x1 K p
theorem zay(g:gz40)(lf:Nat)(x1:(List qaa)):∀(n:Nat) (p:Int),Az40 g lf 6 [n] (qjh x1 p)=qrt lf x1 n p
 | 0,p=>qbm 6 [0] rfl _
 | n+1,p=>by
  have ih:=zay g lf x1 n;refine(qbl (qa6 20 _) zcu q6y 6 [n+1] [n] rfl _).trans ((z4p g (Az40 g lf) lf x1 n p).trans ?_);rw[(show (fun q=>Az40 g lf 6 [n] (qjh x1 q))=(fun q=>qrt lf x1 n q) from funext ih)];rfl
def Fz40(lf:Nat)(x1:(List qaa)):Option qcx:=q2r lf x1 (fun q=>qrt lf x1 lf q)
theorem zjj(g:gz40)(lf:Nat)(x1:(List qaa)):Ez40 g (Az40 g lf) lf x1=Fz40 lf x1:=by
  refine(zr4 g (Az40 g lf) lf x1).trans ?_;rw[(show (fun q=>Az40 g lf 6 [lf] (qjh x1 q))=(fun q=>qrt lf x1 lf q) from funext fun q=>zay g lf x1 lf q)];rfl
theorem zyc:qaq Tryz.prog q3d:=trivial
theorem zp6{g:gz40}(hsm:SmOK Tryz.prog q2s)(hg:∀(x:ElA [(.list qad)]) (y:qcx),WfA [(.list qad)] x->g x=some y->∃lf,Fz40 lf x.1=some y):Con Tryz.prog 22 ⟨[(.list qad)],[(false,(.int .i64)),(false,(.int .i64))],g⟩ :=
 conT (nmf:=qip) (sml:=q2s) (hxl:=q3d) (st:=qng) (hd:=q0w) 20 mixed ttOK ftOK hsm zyc z3i rfl rfl (by kernel_rfl) (fun x=>by kernel_rfl) zcu q6y fun x y hx hy=>by
  obtain⟨lf,h⟩:=hg x y hx hy;exact⟨lf,(zjj g lf x.1).trans h⟩
def qmx:Nat->Option Nm:=fun k=>none
def qrm:Nat->Bool:=fun k=>false
def qw9:=qrm
abbrev qhv:Type:=Int × Unit
def q0e:List (Nat × Sm):=[(37,qj8),(61,qhg),(100,zcw)]
def quv:List (Nat × Hx):=[]
def zfh(R:Type)(lf:Nat):ClK R:=qan Tryz.prog ttT.get ftT.get (nm1 65 qmx) (smL q0e) (hxL quv) lf 20 R
abbrev zlq:Nat:=65
def q0h(lf:Nat)(x1:qae):Option qhv:=(cond (Bool.not (ieqI (S.checkDisk (x1.1.1,x1.1.2)) (Int.ofNat 0))) (some ((Int.ofNat 1),())) (cond (iltI (Int.ofNat 0) (Int.ofNat (List.length x1.1.2))) (some ((Int.ofNat 1),())) (match (cond (S.okL (x1.1.1,x1.1.2)) (some ((S.openedJ (x1.1.1,x1.1.2)).1,((S.openedJ (x1.1.1,x1.1.2)).2,()))) none) with|.none  => none|.some v0=>(cond (Bool.not v0.2.1) (some ((Int.ofNat 1),())) (cond (Bool.not (ieqI v0.1.2.1 x1.2.1)) (some ((Int.ofNat 1),())) (cond (Bool.not (ieqI v0.1.2.2.1 x1.2.2.1)) (some ((Int.ofNat 1),())) (cond (Bool.not (S.sameC v0.1.2.2.2 x1.2.2.2)) (some ((Int.ofNat 1),())) (some ((Int.ofNat 0),())))))))))
abbrev gz41:Type:=ElA [qag]->Option qhv
abbrev sz41(g:gz41):Sm:=⟨[qag],[(false,(.int .i64))],g⟩
abbrev Ez41(g:gz41)(J:JT qhv)(lf:Nat)(x1:qae):=qat Tryz.prog ttT.get qmx fi65.nt (zfh _ lf) lf qrm J fi65.body [] (qal (argV [qag] (x1,())) 0 .leaf) S0 [] (qak ttT.get fi65 (sz41 g))
theorem zhf(g:gz41)(J:JT qhv)(lf:Nat)(x1:qae):Ez41 g J lf x1=q0h lf x1:=by kernel_rfl
theorem z4h:(regs fi65.body).Nodup:=by decide +kernel
theorem zkc:okC qmx qrm qw9 fi65.body none=true:=by kernel_rfl
def Az41(g:gz41)(lf:Nat):JT qhv:=atN Tryz.prog ttT.get qmx fi65 (sz41 g) (zfh _ lf) lf qw9
def Fz41(lf:Nat)(x1:qae):Option qhv:=q0h lf x1
theorem zll(g:gz41)(lf:Nat)(x1:qae):Ez41 g (Az41 g lf) lf x1=Fz41 lf x1:=by
  refine(zhf g (Az41 g lf) lf x1).trans ?_;rfl
theorem zqx:qaq Tryz.prog quv:=trivial
theorem z0j{g:gz41}(hsm:SmOK Tryz.prog q0e)(hg:∀(x:ElA [qag]) (y:qhv),WfA [qag] x->g x=some y->∃lf,Fz41 lf x.1=some y):Con Tryz.prog 65 ⟨[qag],[(false,(.int .i64))],g⟩ :=
 conT (nmf:=qmx) (sml:=q0e) (hxl:=quv) (st:=qrm) (hd:=qw9) 20 mixed ttOK ftOK hsm zqx zt4 rfl rfl (by kernel_rfl) (fun x=>by kernel_rfl) z4h zkc fun x y hx hy=>by
  obtain⟨lf,h⟩:=hg x y hx hy;exact⟨lf,(zll g lf x.1).trans h⟩
def qns:Nat->Option Nm:=fun k=>none
def qsq:Nat->Bool:=fun k=>false
def q31:=qsq
abbrev qh1:Type:=Int × Int × Unit
def qu0:List (Nat × Sm):=[(65,qq6),(69,qvr)]
def q23:List (Nat × Hx):=[]
def q6n(R:Type)(lf:Nat):ClK R:=qan Tryz.prog ttT.get ftT.get (nm1 20 qns) (smL qu0) (hxL q23) lf 20 R
abbrev zmi:Nat:=20
def qvs(lf:Nat)(x1:qae):Option qh1:=(cond (Bool.not (ieqI (S.errR ((x1.1.1,x1.1.2),(x1.2.1,(x1.2.2.1,x1.2.2.2)))) (Int.ofNat 0))) (some ((Int.ofNat 0),((S.errR ((x1.1.1,x1.1.2),(x1.2.1,(x1.2.2.1,x1.2.2.2)))),()))) (match (cond (S.smallJ ((x1.1.1,x1.1.2),(x1.2.1,(x1.2.2.1,x1.2.2.2)))) (some ((S.roomOf ((x1.1.1,x1.1.2),(x1.2.1,(x1.2.2.1,x1.2.2.2)))),())) none) with|.none  => none|.some v0=>(some (v0.1,((Int.ofNat 0),())))))
abbrev gz42:Type:=ElA [qag]->Option qh1
abbrev sz42(g:gz42):Sm:=⟨[qag],[(false,(.int .i64)),(false,(.int .i64))],g⟩
abbrev Ez42(g:gz42)(J:JT qh1)(lf:Nat)(x1:qae):=qat Tryz.prog ttT.get qns fi20.nt (q6n _ lf) lf qsq J fi20.body [] (qal (argV [qag] (x1,())) 0 .leaf) S0 [] (qak ttT.get fi20 (sz42 g))
theorem zqt(g:gz42)(J:JT qh1)(lf:Nat)(x1:qae):Ez42 g J lf x1=qvs lf x1:=by kernel_rfl
theorem zke:(regs fi20.body).Nodup:=by decide +kernel
theorem zie:okC qns qsq q31 fi20.body none=true:=by kernel_rfl
def Az42(g:gz42)(lf:Nat):JT qh1:=atN Tryz.prog ttT.get qns fi20 (sz42 g) (q6n _ lf) lf q31
def Fz42(lf:Nat)(x1:qae):Option qh1:=qvs lf x1
theorem zos(g:gz42)(lf:Nat)(x1:qae):Ez42 g (Az42 g lf) lf x1=Fz42 lf x1:=by
  refine(zqt g (Az42 g lf) lf x1).trans ?_;rfl
theorem zjq:qaq Tryz.prog q23:=trivial
theorem zls{g:gz42}(hsm:SmOK Tryz.prog qu0)(hg:∀(x:ElA [qag]) (y:qh1),WfA [qag] x->g x=some y->∃lf,Fz42 lf x.1=some y):Con Tryz.prog 20 ⟨[qag],[(false,(.int .i64)),(false,(.int .i64))],g⟩ :=
 conT (nmf:=qns) (sml:=qu0) (hxl:=q23) (st:=qsq) (hd:=q31) 20 mixed ttOK ftOK hsm zjq zpb rfl rfl (by kernel_rfl) (fun x=>by kernel_rfl) zke zie fun x y hx hy=>by
  obtain⟨lf,h⟩:=hg x y hx hy;exact⟨lf,(zos g lf x.1).trans h⟩
def qnp:Nat->Option Nm:=fun k=>none
def qsj:Nat->Bool:=fun k=>false
def qti:=qsj
abbrev qf7:Type:=Int × Unit
def q2i:List (Nat × Sm):=[(65,qq6),(22,qwk)]
def qzh:List (Nat × Hx):=[]
def zeh(R:Type)(lf:Nat):ClK R:=qan Tryz.prog ttT.get ftT.get (nm1 71 qnp) (smL q2i) (hxL qzh) lf 20 R
abbrev zxx:Nat:=71
def qtb(lf:Nat)(x1:qae)(x2:(List qaa)):Option qf7:=(cond (Bool.not (ieqI (S.errR ((x1.1.1,x1.1.2),(x1.2.1,(x1.2.2.1,x1.2.2.2)))) (Int.ofNat 0))) (some ((S.errR ((x1.1.1,x1.1.2),(x1.2.1,(x1.2.2.1,x1.2.2.2)))),())) (some ((S.size x2).2,())))
abbrev gz43:Type:=ElA [qag,(.list qad)]->Option qf7
abbrev sz43(g:gz43):Sm:=⟨[qag,(.list qad)],[(false,(.int .i64))],g⟩
abbrev Ez43(g:gz43)(J:JT qf7)(lf:Nat)(x1:qae)(x2:(List qaa)):=qat Tryz.prog ttT.get qnp fi71.nt (zeh _ lf) lf qsj J fi71.body [] (qal (argV [qag,(.list qad)] (x1,x2,())) 0 .leaf) S0 [] (qak ttT.get fi71 (sz43 g))
theorem z3v(g:gz43)(J:JT qf7)(lf:Nat)(x1:qae)(x2:(List qaa)):Ez43 g J lf x1 x2=qtb lf x1 x2:=by kernel_rfl
theorem zgf:(regs fi71.body).Nodup:=by decide +kernel
theorem z1j:okC qnp qsj qti fi71.body none=true:=by kernel_rfl
def Az43(g:gz43)(lf:Nat):JT qf7:=atN Tryz.prog ttT.get qnp fi71 (sz43 g) (zeh _ lf) lf qti
def Fz43(lf:Nat)(x1:qae)(x2:(List qaa)):Option qf7:=qtb lf x1 x2
theorem z40(g:gz43)(lf:Nat)(x1:qae)(x2:(List qaa)):Ez43 g (Az43 g lf) lf x1 x2=Fz43 lf x1 x2:=by
  refine(z3v g (Az43 g lf) lf x1 x2).trans ?_;rfl
theorem zhv:qaq Tryz.prog qzh:=trivial
theorem zit{g:gz43}(hsm:SmOK Tryz.prog q2i)(hg:∀(x:ElA [qag,(.list qad)]) (y:qf7),WfA [qag,(.list qad)] x->g x=some y->∃lf,Fz43 lf x.1 x.2.1=some y):Con Tryz.prog 71 ⟨[qag,(.list qad)],[(false,(.int .i64))],g⟩ :=
 conT (nmf:=qnp) (sml:=q2i) (hxl:=qzh) (st:=qsj) (hd:=qti) 20 mixed ttOK ftOK hsm zhv z4q rfl rfl (by kernel_rfl) (fun x=>by kernel_rfl) zgf z1j fun x y hx hy=>by
  obtain⟨lf,h⟩:=hg x y hx hy;exact⟨lf,(z40 g lf x.1 x.2.1).trans h⟩
def qom:Nat->Option Nm:=fun k=>none
def qs0:Nat->Bool:=fun k=>false
def qtf:=qs0
abbrev qgw:Type:=(List DAct) × Bool × Unit
def qzy:List (Nat × Sm):=[(56,qol),(69,qvr),(93,qnx),(101,qtw),(54,qsb)]
def qxw:List (Nat × Hx):=[(53,hxR qfn),(55,hxR qeo)]
def zc2(R:Type)(lf:Nat):ClK R:=qan Tryz.prog ttT.get ftT.get (nm1 72 qom) (smL qzy) (hxL qxw) lf 20 R
abbrev z4e:Nat:=72
def q19(lf:Nat)(x1:qae)(x2:(List qaa)):Option qgw:=(match (cond (S.pk x2) (some ((S.packed x2 (Int.ofNat 1)),())) none) with|.none  => none|.some v0=>(match (cond (S.smallJ ((x1.1.1,x1.1.2),(x1.2.1,(x1.2.2.1,x1.2.2.2)))) (some ((S.roomOf ((x1.1.1,x1.1.2),(x1.2.1,(x1.2.2.1,x1.2.2.2)))),())) none) with|.none  => none|.some v1=>(cond (iltI v1.1 (Int.ofNat (List.length v0.1))) (some ([],(Bool.false,()))) (match (cond (S.inI (Int.ofNat (List.length x1.1.1)) (Int.ofNat 0) (Int.ofNat 1000)) (some ((S.half (Int.toNat (Int.ofNat (List.length x1.1.1))) x1.2.1),())) none) with|.none  => none|.some v2=>(match (jget v0.1 (Int.ofNat 0)) with|.none  => none|.some v3=>(match (GetElem?.getElem? v0.1 0) with|.none  => none|.some v4=>(match (cond (Decidable.decide (Eq (ByteArray.size v4) 64)) (some ((qaf (List.cons (Int.ofNat 0) (List.drop 1 (qac v4)))),())) none) with|.none  => none|.some v5=>(match (cond (Bool.and (S.inI (IntKind.i64.wrap (Int.add v2.1.1 x1.2.2.1)) (Int.ofNat 0) (Int.ofNat 1000000)) Bool.true) (some ((),(((S.app [] (S.puts (IntKind.i64.wrap (Int.add v2.1.1 x1.2.2.1)) (List.cons v5.1 []))),()),()))) none) with|.none  => none|.some v6=>(cond (lchk (Int.ofNat 1) (Int.ofNat (List.length v0.1)) (Int.ofNat (List.length v0.1)) (Int.ofNat (List.length v0.1))) (match (cond (Bool.and (S.inI (IntKind.i64.wrap (Int.add (IntKind.i64.wrap (Int.add v2.1.1 x1.2.2.1)) (Int.ofNat 1))) (Int.ofNat 0) (Int.ofNat 1000000)) (Bool.and (Nat.ble (List.length (lsub v0.1 (Int.ofNat 1) (Int.ofNat (List.length v0.1)))) 1000000) (Nat.ble (S.lenA v6.2.1.1) 1000000))) (some ((),(((S.app v6.2.1.1 (S.puts (IntKind.i64.wrap (Int.add (IntKind.i64.wrap (Int.add v2.1.1 x1.2.2.1)) (Int.ofNat 1))) (lsub v0.1 (Int.ofNat 1) (Int.ofNat (List.length v0.1))))),()),()))) none) with|.none  => none|.some v7=>(cond (iltI (IntKind.i64.wrap (Int.add (IntKind.i64.wrap (Int.add v2.1.1 x1.2.2.1)) (Int.ofNat (List.length v0.1)))) v2.1.2) (match (cond (Bool.and (S.inI (IntKind.i64.wrap (Int.add (IntKind.i64.wrap (Int.add v2.1.1 x1.2.2.1)) (Int.ofNat (List.length v0.1)))) (Int.ofNat 0) (Int.ofNat 1000000)) (Nat.ble (S.lenA v7.2.1.1) 1000000)) (some ((),(((S.app v7.2.1.1 (S.puts (IntKind.i64.wrap (Int.add (IntKind.i64.wrap (Int.add v2.1.1 x1.2.2.1)) (Int.ofNat (List.length v0.1)))) (List.cons S.blank []))),()),()))) none) with|.none  => none|.some v8=>(match (cond (Nat.ble (S.lenA v8.2.1.1) 4000000) (some ((),(((S.app v8.2.1.1 (List.cons S.sync [])),()),()))) none) with|.none  => none|.some v9=>(match (jget v0.1 (Int.ofNat 0)) with|.none  => none|.some v10=>(match (cond (Bool.and (S.inI (IntKind.i64.wrap (Int.add v2.1.1 x1.2.2.1)) (Int.ofNat 0) (Int.ofNat 1000000)) (Nat.ble (S.lenA v9.2.1.1) 1000000)) (some ((),(((S.app v9.2.1.1 (S.puts (IntKind.i64.wrap (Int.add v2.1.1 x1.2.2.1)) (List.cons v10 []))),()),()))) none) with|.none  => none|.some v11=>(match (cond (Nat.ble (S.lenA v11.2.1.1) 4000000) (some ((),(((S.app v11.2.1.1 (List.cons S.sync [])),()),()))) none) with|.none  => none|.some v12=>(some (v12.2.1.1,(Bool.true,())))))))) (match (cond (Nat.ble (S.lenA v7.2.1.1) 4000000) (some ((),(((S.app v7.2.1.1 (List.cons S.sync [])),()),()))) none) with|.none  => none|.some v13=>(match (jget v0.1 (Int.ofNat 0)) with|.none  => none|.some v14=>(match (cond (Bool.and (S.inI (IntKind.i64.wrap (Int.add v2.1.1 x1.2.2.1)) (Int.ofNat 0) (Int.ofNat 1000000)) (Nat.ble (S.lenA v13.2.1.1) 1000000)) (some ((),(((S.app v13.2.1.1 (S.puts (IntKind.i64.wrap (Int.add v2.1.1 x1.2.2.1)) (List.cons v14 []))),()),()))) none) with|.none  => none|.some v15=>(match (cond (Nat.ble (S.lenA v15.2.1.1) 4000000) (some ((),(((S.app v15.2.1.1 (List.cons S.sync [])),()),()))) none) with|.none  => none|.some v16=>(some (v16.2.1.1,(Bool.true,()))))))))) none)))))))))
abbrev gz44:Type:=ElA [qag,(.list qad)]->Option qgw
abbrev sz44(g:gz44):Sm:=⟨[qag,(.list qad)],[(true,cAct),(false,.bool)],g⟩
abbrev Ez44(g:gz44)(J:JT qgw)(lf:Nat)(x1:qae)(x2:(List qaa)):=qat Tryz.prog ttT.get qom fi72.nt (zc2 _ lf) lf qs0 J fi72.body [] (qal (argV [qag,(.list qad)] (x1,x2,())) 0 .leaf) S0 [] (qak ttT.get fi72 (sz44 g))
theorem zj3(g:gz44)(J:JT qgw)(lf:Nat)(x1:qae)(x2:(List qaa)):Ez44 g J lf x1 x2=q19 lf x1 x2:=by kernel_rfl
theorem zti:(regs fi72.body).Nodup:=by decide +kernel
theorem zl5:okC qom qs0 qtf fi72.body none=true:=by kernel_rfl
def Az44(g:gz44)(lf:Nat):JT qgw:=atN Tryz.prog ttT.get qom fi72 (sz44 g) (zc2 _ lf) lf qtf
def Fz44(lf:Nat)(x1:qae)(x2:(List qaa)):Option qgw:=q19 lf x1 x2
theorem zix(g:gz44)(lf:Nat)(x1:qae)(x2:(List qaa)):Ez44 g (Az44 g lf) lf x1 x2=Fz44 lf x1 x2:=by
  refine(zj3 g (Az44 g lf) lf x1 x2).trans ?_;rfl
theorem zrs(hrz11:ConR Tryz.prog 53 qfn)(hrz12:ConR Tryz.prog 55 qeo):qaq Tryz.prog qxw:=⟨qft hrz11,⟨qft hrz12,trivial⟩⟩
theorem z3j{g:gz44}(hsm:SmOK Tryz.prog qzy)(hrz11:ConR Tryz.prog 53 qfn)(hrz12:ConR Tryz.prog 55 qeo)(hg:∀(x:ElA [qag,(.list qad)]) (y:qgw),WfA [qag,(.list qad)] x->g x=some y->∃lf,Fz44 lf x.1 x.2.1=some y):Con Tryz.prog 72 ⟨[qag,(.list qad)],[(true,cAct),(false,.bool)],g⟩ :=
 conT (nmf:=qom) (sml:=qzy) (hxl:=qxw) (st:=qs0) (hd:=qtf) 20 mixed ttOK ftOK hsm (zrs hrz11 hrz12) zqc rfl rfl (by kernel_rfl) (fun x=>by kernel_rfl) zti zl5 fun x y hx hy=>by
  obtain⟨lf,h⟩:=hg x y hx hy;exact⟨lf,(zix g lf x.1 x.2.1).trans h⟩
def qnz:Nat->Option Nm:=fun k=>none
def qpo:Nat->Bool:=fun k=>false
def qwf:=qpo
abbrev qhr:Type:=qae × Unit
def qx7:List (Nat × Sm):=[(32,qyk),(61,qhg)]
def qw3:List (Nat × Hx):=[]
def zew(R:Type)(lf:Nat):ClK R:=qan Tryz.prog ttT.get ftT.get (nm1 74 qnz) (smL qx7) (hxL qw3) lf 20 R
abbrev zmx:Nat:=74
def qxr(lf:Nat)(x1:qae)(x2:(List DAct)):Option qhr:=(match (cond (S.okL ((S.doD (x1.1.1,x1.1.2) x2).1.1,(S.doD (x1.1.1,x1.1.2) x2).1.2)) (some ((S.openedJ ((S.doD (x1.1.1,x1.1.2) x2).1.1,(S.doD (x1.1.1,x1.1.2) x2).1.2)).1,((S.openedJ ((S.doD (x1.1.1,x1.1.2) x2).1.1,(S.doD (x1.1.1,x1.1.2) x2).1.2)).2,()))) none) with|.none  => none|.some v0=>(some (((v0.1.1.1,v0.1.1.2),(v0.1.2.1,(v0.1.2.2.1,v0.1.2.2.2))),())))
abbrev gz45:Type:=ElA [qag,(.list cAct)]->Option qhr
abbrev sz45(g:gz45):Sm:=⟨[qag,(.list cAct)],[(false,qag)],g⟩
abbrev Ez45(g:gz45)(J:JT qhr)(lf:Nat)(x1:qae)(x2:(List DAct)):=qat Tryz.prog ttT.get qnz fi74.nt (zew _ lf) lf qpo J fi74.body [] (qal (argV [qag,(.list cAct)] (x1,x2,())) 0 .leaf) S0 [] (qak ttT.get fi74 (sz45 g))
theorem zlg(g:gz45)(J:JT qhr)(lf:Nat)(x1:qae)(x2:(List DAct)):Ez45 g J lf x1 x2=qxr lf x1 x2:=by kernel_rfl
theorem zhy:(regs fi74.body).Nodup:=by decide +kernel
theorem zg0:okC qnz qpo qwf fi74.body none=true:=by kernel_rfl
def Az45(g:gz45)(lf:Nat):JT qhr:=atN Tryz.prog ttT.get qnz fi74 (sz45 g) (zew _ lf) lf qwf
def Fz45(lf:Nat)(x1:qae)(x2:(List DAct)):Option qhr:=qxr lf x1 x2
theorem zwk(g:gz45)(lf:Nat)(x1:qae)(x2:(List DAct)):Ez45 g (Az45 g lf) lf x1 x2=Fz45 lf x1 x2:=by
  refine(zlg g (Az45 g lf) lf x1 x2).trans ?_;rfl
theorem zuc:qaq Tryz.prog qw3:=trivial
theorem zo8{g:gz45}(hsm:SmOK Tryz.prog qx7)(hg:∀(x:ElA [qag,(.list cAct)]) (y:qhr),WfA [qag,(.list cAct)] x->g x=some y->∃lf,Fz45 lf x.1 x.2.1=some y):Con Tryz.prog 74 ⟨[qag,(.list cAct)],[(false,qag)],g⟩ :=
 conT (nmf:=qnz) (sml:=qx7) (hxl:=qw3) (st:=qpo) (hd:=qwf) 20 mixed ttOK ftOK hsm zuc z19 rfl rfl (by kernel_rfl) (fun x=>by kernel_rfl) zhy zg0 fun x y hx hy=>by
  obtain⟨lf,h⟩:=hg x y hx hy;exact⟨lf,(zwk g lf x.1 x.2.1).trans h⟩
def qle:Nat->Option Nm:=fun k=>none
def qry:Nat->Bool:=fun k=>false
def qxf:=qry
abbrev qgt:Type:=(List DAct) × Int × Unit
def q21:List (Nat × Sm):=[(71,q5j),(72,q8k)]
def qtp:List (Nat × Hx):=[]
def ze4(R:Type)(lf:Nat):ClK R:=qan Tryz.prog ttT.get ftT.get (nm1 24 qle) (smL q21) (hxL qtp) lf 20 R
abbrev zpq:Nat:=24
def qx0(lf:Nat)(x1:qae)(x2:(List qaa)):Option qgt:=(cond (Bool.not (ieqI (S.asked ((x1.1.1,x1.1.2),(x1.2.1,(x1.2.2.1,x1.2.2.2))) x2) (Int.ofNat 0))) (some ([],((S.asked ((x1.1.1,x1.1.2),(x1.2.1,(x1.2.2.1,x1.2.2.2))) x2),()))) (match (cond (S.comG ((x1.1.1,x1.1.2),(x1.2.1,(x1.2.2.1,x1.2.2.2))) x2) (some ((S.actsB (S.commit ((x1.1.1,x1.1.2),(x1.2.1,(x1.2.2.1,x1.2.2.2))) x2)).1,((S.actsB (S.commit ((x1.1.1,x1.1.2),(x1.2.1,(x1.2.2.1,x1.2.2.2))) x2)).2,()))) none) with|.none  => none|.some v0=>(cond (Bool.not v0.2.1) (some ([],((Int.ofNat 14),()))) (some (v0.1,((Int.ofNat 0),()))))))
abbrev gz46:Type:=ElA [qag,(.list qad)]->Option qgt
abbrev sz46(g:gz46):Sm:=⟨[qag,(.list qad)],[(true,cAct),(false,(.int .i64))],g⟩
abbrev Ez46(g:gz46)(J:JT qgt)(lf:Nat)(x1:qae)(x2:(List qaa)):=qat Tryz.prog ttT.get qle fi24.nt (ze4 _ lf) lf qry J fi24.body [] (qal (argV [qag,(.list qad)] (x1,x2,())) 0 .leaf) S0 [] (qak ttT.get fi24 (sz46 g))
theorem zng(g:gz46)(J:JT qgt)(lf:Nat)(x1:qae)(x2:(List qaa)):Ez46 g J lf x1 x2=qx0 lf x1 x2:=by kernel_rfl
theorem z0q:(regs fi24.body).Nodup:=by decide +kernel
theorem zjs:okC qle qry qxf fi24.body none=true:=by kernel_rfl
def Az46(g:gz46)(lf:Nat):JT qgt:=atN Tryz.prog ttT.get qle fi24 (sz46 g) (ze4 _ lf) lf qxf
def Fz46(lf:Nat)(x1:qae)(x2:(List qaa)):Option qgt:=qx0 lf x1 x2
theorem zmk(g:gz46)(lf:Nat)(x1:qae)(x2:(List qaa)):Ez46 g (Az46 g lf) lf x1 x2=Fz46 lf x1 x2:=by
  refine(zng g (Az46 g lf) lf x1 x2).trans ?_;rfl
theorem ztt:qaq Tryz.prog qtp:=trivial
theorem zi5{g:gz46}(hsm:SmOK Tryz.prog q21)(hg:∀(x:ElA [qag,(.list qad)]) (y:qgt),WfA [qag,(.list qad)] x->g x=some y->∃lf,Fz46 lf x.1 x.2.1=some y):Con Tryz.prog 24 ⟨[qag,(.list qad)],[(true,cAct),(false,(.int .i64))],g⟩ :=
 conT (nmf:=qle) (sml:=q21) (hxl:=qtp) (st:=qry) (hd:=qxf) 20 mixed ttOK ftOK hsm ztt zg7 rfl rfl (by kernel_rfl) (fun x=>by kernel_rfl) z0q zjs fun x y hx hy=>by
  obtain⟨lf,h⟩:=hg x y hx hy;exact⟨lf,(zmk g lf x.1 x.2.1).trans h⟩
def ql6:Nat->Option Nm:=fun k=>none
def qqq:Nat->Bool:=fun k=>false
def q2q:=qqq
abbrev qg0:Type:=qae × Int × Unit
def qvu:List (Nat × Sm):=[(24,q52),(74,qwh)]
def qz4:List (Nat × Hx):=[]
def zb9(R:Type)(lf:Nat):ClK R:=qan Tryz.prog ttT.get ftT.get (nm1 26 ql6) (smL qvu) (hxL qz4) lf 20 R
abbrev zmf:Nat:=26
def qy1(lf:Nat)(x1:qae)(x2:(List qaa)):Option qg0:=(cond (Bool.not (ieqI (S.plan ((x1.1.1,x1.1.2),(x1.2.1,(x1.2.2.1,x1.2.2.2))) x2).2 (Int.ofNat 0))) (some ((([],[]),((Int.ofNat 0),((Int.ofNat 0),[]))),((S.plan ((x1.1.1,x1.1.2),(x1.2.1,(x1.2.2.1,x1.2.2.2))) x2).2,()))) (match (cond (S.behG ((x1.1.1,x1.1.2),(x1.2.1,(x1.2.2.1,x1.2.2.2))) (S.plan ((x1.1.1,x1.1.2),(x1.2.1,(x1.2.2.1,x1.2.2.2))) x2).1) (some ((S.behind ((x1.1.1,x1.1.2),(x1.2.1,(x1.2.2.1,x1.2.2.2))) (S.plan ((x1.1.1,x1.1.2),(x1.2.1,(x1.2.2.1,x1.2.2.2))) x2).1).1,())) none) with|.none  => none|.some v0=>(some (((v0.1.1.1,v0.1.1.2),(v0.1.2.1,(v0.1.2.2.1,v0.1.2.2.2))),((Int.ofNat 0),())))))
abbrev gz47:Type:=ElA [qag,(.list qad)]->Option qg0
abbrev sz47(g:gz47):Sm:=⟨[qag,(.list qad)],[(false,qag),(false,(.int .i64))],g⟩
abbrev Ez47(g:gz47)(J:JT qg0)(lf:Nat)(x1:qae)(x2:(List qaa)):=qat Tryz.prog ttT.get ql6 fi26.nt (zb9 _ lf) lf qqq J fi26.body [] (qal (argV [qag,(.list qad)] (x1,x2,())) 0 .leaf) S0 [] (qak ttT.get fi26 (sz47 g))
theorem zud(g:gz47)(J:JT qg0)(lf:Nat)(x1:qae)(x2:(List qaa)):Ez47 g J lf x1 x2=qy1 lf x1 x2:=by kernel_rfl
theorem zyb:(regs fi26.body).Nodup:=by decide +kernel
theorem zhr:okC ql6 qqq q2q fi26.body none=true:=by kernel_rfl
def Az47(g:gz47)(lf:Nat):JT qg0:=atN Tryz.prog ttT.get ql6 fi26 (sz47 g) (zb9 _ lf) lf q2q
def Fz47(lf:Nat)(x1:qae)(x2:(List qaa)):Option qg0:=qy1 lf x1 x2
theorem zj7(g:gz47)(lf:Nat)(x1:qae)(x2:(List qaa)):Ez47 g (Az47 g lf) lf x1 x2=Fz47 lf x1 x2:=by
  refine(zud g (Az47 g lf) lf x1 x2).trans ?_;rfl
theorem z15:qaq Tryz.prog qz4:=trivial
theorem zuu{g:gz47}(hsm:SmOK Tryz.prog qvu)(hg:∀(x:ElA [qag,(.list qad)]) (y:qg0),WfA [qag,(.list qad)] x->g x=some y->∃lf,Fz47 lf x.1 x.2.1=some y):Con Tryz.prog 26 ⟨[qag,(.list qad)],[(false,qag),(false,(.int .i64))],g⟩ :=
 conT (nmf:=ql6) (sml:=qvu) (hxl:=qz4) (st:=qqq) (hd:=q2q) 20 mixed ttOK ftOK hsm z15 zv7 rfl rfl (by kernel_rfl) (fun x=>by kernel_rfl) zyb zhr fun x y hx hy=>by
  obtain⟨lf,h⟩:=hg x y hx hy;exact⟨lf,(zj7 g lf x.1 x.2.1).trans h⟩
def qmd:Nat->Option Nm:=fun k=>none
def qp8:Nat->Bool:=fun k=>false
def qyl:=qp8
abbrev qg8:Type:=(List DAct) × Int × Unit
def qxd:List (Nat × Sm):=[(65,qq6),(88,zbm)]
def qz8:List (Nat × Hx):=[]
def zeb(R:Type)(lf:Nat):ClK R:=qan Tryz.prog ttT.get ftT.get (nm1 39 qmd) (smL qxd) (hxL qz8) lf 20 R
abbrev z0s:Nat:=39
def q4g(lf:Nat)(x1:qae):Option qg8:=(cond (Bool.not (ieqI (S.errR ((x1.1.1,x1.1.2),(x1.2.1,(x1.2.2.1,x1.2.2.2)))) (Int.ofNat 0))) (some ([],((S.errR ((x1.1.1,x1.1.2),(x1.2.1,(x1.2.2.1,x1.2.2.2)))),()))) (match (cond (S.turG ((x1.1.1,x1.1.2),(x1.2.1,(x1.2.2.1,x1.2.2.2)))) (some ((S.actsB (S.turn ((x1.1.1,x1.1.2),(x1.2.1,(x1.2.2.1,x1.2.2.2))))).1,((S.actsB (S.turn ((x1.1.1,x1.1.2),(x1.2.1,(x1.2.2.1,x1.2.2.2))))).2,()))) none) with|.none  => none|.some v0=>(cond (Bool.not v0.2.1) (some ([],((Int.ofNat 14),()))) (some (v0.1,((Int.ofNat 0),()))))))
abbrev gz48:Type:=ElA [qag]->Option qg8
abbrev sz48(g:gz48):Sm:=⟨[qag],[(true,cAct),(false,(.int .i64))],g⟩
abbrev Ez48(g:gz48)(J:JT qg8)(lf:Nat)(x1:qae):=qat Tryz.prog ttT.get qmd fi39.nt (zeb _ lf) lf qp8 J fi39.body [] (qal (argV [qag] (x1,())) 0 .leaf) S0 [] (qak ttT.get fi39 (sz48 g))
theorem zmb(g:gz48)(J:JT qg8)(lf:Nat)(x1:qae):Ez48 g J lf x1=q4g lf x1:=by kernel_rfl
theorem zgm:(regs fi39.body).Nodup:=by decide +kernel
theorem z3n:okC qmd qp8 qyl fi39.body none=true:=by kernel_rfl
def Az48(g:gz48)(lf:Nat):JT qg8:=atN Tryz.prog ttT.get qmd fi39 (sz48 g) (zeb _ lf) lf qyl
def Fz48(lf:Nat)(x1:qae):Option qg8:=q4g lf x1
theorem zhh(g:gz48)(lf:Nat)(x1:qae):Ez48 g (Az48 g lf) lf x1=Fz48 lf x1:=by
  refine(zmb g (Az48 g lf) lf x1).trans ?_;rfl
theorem zl3:qaq Tryz.prog qz8:=trivial
theorem zfx{g:gz48}(hsm:SmOK Tryz.prog qxd)(hg:∀(x:ElA [qag]) (y:qg8),WfA [qag] x->g x=some y->∃lf,Fz48 lf x.1=some y):Con Tryz.prog 39 ⟨[qag],[(true,cAct),(false,(.int .i64))],g⟩ :=
 conT (nmf:=qmd) (sml:=qxd) (hxl:=qz8) (st:=qp8) (hd:=qyl) 20 mixed ttOK ftOK hsm zl3 zsx rfl rfl (by kernel_rfl) (fun x=>by kernel_rfl) zgm z3n fun x y hx hy=>by
  obtain⟨lf,h⟩:=hg x y hx hy;exact⟨lf,(zhh g lf x.1).trans h⟩
def qm2:Nat->Option Nm:=fun k=>none
def qrg:Nat->Bool:=fun k=>false
def qxm:=qrg
abbrev qhd:Type:=qae × Int × Unit
def qy9:List (Nat × Sm):=[(39,q65),(74,qwh)]
def qx1:List (Nat × Hx):=[]
def ze8(R:Type)(lf:Nat):ClK R:=qan Tryz.prog ttT.get ftT.get (nm1 41 qm2) (smL qy9) (hxL qx1) lf 20 R
abbrev zm2:Nat:=41
def q3f(lf:Nat)(x1:qae):Option qhd:=(cond (Bool.not (ieqI (S.planTurn ((x1.1.1,x1.1.2),(x1.2.1,(x1.2.2.1,x1.2.2.2)))).2 (Int.ofNat 0))) (some ((([],[]),((Int.ofNat 0),((Int.ofNat 0),[]))),((S.planTurn ((x1.1.1,x1.1.2),(x1.2.1,(x1.2.2.1,x1.2.2.2)))).2,()))) (match (cond (S.behG ((x1.1.1,x1.1.2),(x1.2.1,(x1.2.2.1,x1.2.2.2))) (S.planTurn ((x1.1.1,x1.1.2),(x1.2.1,(x1.2.2.1,x1.2.2.2)))).1) (some ((S.behind ((x1.1.1,x1.1.2),(x1.2.1,(x1.2.2.1,x1.2.2.2))) (S.planTurn ((x1.1.1,x1.1.2),(x1.2.1,(x1.2.2.1,x1.2.2.2)))).1).1,())) none) with|.none  => none|.some v0=>(some (((v0.1.1.1,v0.1.1.2),(v0.1.2.1,(v0.1.2.2.1,v0.1.2.2.2))),((Int.ofNat 0),())))))
abbrev gz49:Type:=ElA [qag]->Option qhd
abbrev sz49(g:gz49):Sm:=⟨[qag],[(false,qag),(false,(.int .i64))],g⟩
abbrev Ez49(g:gz49)(J:JT qhd)(lf:Nat)(x1:qae):=qat Tryz.prog ttT.get qm2 fi41.nt (ze8 _ lf) lf qrg J fi41.body [] (qal (argV [qag] (x1,())) 0 .leaf) S0 [] (qak ttT.get fi41 (sz49 g))
theorem zka(g:gz49)(J:JT qhd)(lf:Nat)(x1:qae):Ez49 g J lf x1=q3f lf x1:=by kernel_rfl
theorem znp:(regs fi41.body).Nodup:=by decide +kernel
theorem zo1:okC qm2 qrg qxm fi41.body none=true:=by kernel_rfl
def Az49(g:gz49)(lf:Nat):JT qhd:=atN Tryz.prog ttT.get qm2 fi41 (sz49 g) (ze8 _ lf) lf qxm
def Fz49(lf:Nat)(x1:qae):Option qhd:=q3f lf x1
theorem z16(g:gz49)(lf:Nat)(x1:qae):Ez49 g (Az49 g lf) lf x1=Fz49 lf x1:=by
  refine(zka g (Az49 g lf) lf x1).trans ?_;rfl
theorem zsg:qaq Tryz.prog qx1:=trivial
theorem zuk{g:gz49}(hsm:SmOK Tryz.prog qy9)(hg:∀(x:ElA [qag]) (y:qhd),WfA [qag] x->g x=some y->∃lf,Fz49 lf x.1=some y):Con Tryz.prog 41 ⟨[qag],[(false,qag),(false,(.int .i64))],g⟩ :=
 conT (nmf:=qm2) (sml:=qy9) (hxl:=qx1) (st:=qrg) (hd:=qxm) 20 mixed ttOK ftOK hsm zsg zwt rfl rfl (by kernel_rfl) (fun x=>by kernel_rfl) znp zo1 fun x y hx hy=>by
  obtain⟨lf,h⟩:=hg x y hx hy;exact⟨lf,(z16 g lf x.1).trans h⟩
def ql9:Nat->Option Nm:=fun k=>none
def qrq:Nat->Bool:=fun k=>false
def q1k:=qrq
abbrev qgm:Type:=qae × Int × Unit
def qyn:List (Nat × Sm):=[(37,qj8),(61,qhg)]
def qv4:List (Nat × Hx):=[]
def zfq(R:Type)(lf:Nat):ClK R:=qan Tryz.prog ttT.get ftT.get (nm1 13 ql9) (smL qyn) (hxL qv4) lf 20 R
abbrev zgl:Nat:=13
def qy7(lf:Nat)(x1:qab):Option qgm:=(cond (Bool.not (ieqI (S.checkDisk (x1.1,x1.2)) (Int.ofNat 0))) (some ((([],[]),((Int.ofNat 0),((Int.ofNat 0),[]))),((S.checkDisk (x1.1,x1.2)),()))) (cond (iltI (Int.ofNat 0) (Int.ofNat (List.length x1.2))) (some ((([],[]),((Int.ofNat 0),((Int.ofNat 0),[]))),((Int.ofNat 12),()))) (match (cond (S.okL (x1.1,x1.2)) (some ((S.openedJ (x1.1,x1.2)).1,((S.openedJ (x1.1,x1.2)).2,()))) none) with|.none  => none|.some v0=>(cond (Bool.not v0.2.1) (some ((([],[]),((Int.ofNat 0),((Int.ofNat 0),[]))),((Int.ofNat 15),()))) (some (((v0.1.1.1,v0.1.1.2),(v0.1.2.1,(v0.1.2.2.1,v0.1.2.2.2))),((Int.ofNat 0),())))))))
abbrev gz50:Type:=ElA [cDisk]->Option qgm
abbrev sz50(g:gz50):Sm:=⟨[cDisk],[(false,qag),(false,(.int .i64))],g⟩
abbrev Ez50(g:gz50)(J:JT qgm)(lf:Nat)(x1:qab):=qat Tryz.prog ttT.get ql9 fi13.nt (zfq _ lf) lf qrq J fi13.body [] (qal (argV [cDisk] (x1,())) 0 .leaf) S0 [] (qak ttT.get fi13 (sz50 g))
theorem zxl(g:gz50)(J:JT qgm)(lf:Nat)(x1:qab):Ez50 g J lf x1=qy7 lf x1:=by kernel_rfl
theorem zmv:(regs fi13.body).Nodup:=by decide +kernel
theorem zmm:okC ql9 qrq q1k fi13.body none=true:=by kernel_rfl
def Az50(g:gz50)(lf:Nat):JT qgm:=atN Tryz.prog ttT.get ql9 fi13 (sz50 g) (zfq _ lf) lf q1k
def Fz50(lf:Nat)(x1:qab):Option qgm:=qy7 lf x1
theorem zoq(g:gz50)(lf:Nat)(x1:qab):Ez50 g (Az50 g lf) lf x1=Fz50 lf x1:=by
  refine(zxl g (Az50 g lf) lf x1).trans ?_;rfl
theorem zsq:qaq Tryz.prog qv4:=trivial
theorem zxn{g:gz50}(hsm:SmOK Tryz.prog qyn)(hg:∀(x:ElA [cDisk]) (y:qgm),WfA [cDisk] x->g x=some y->∃lf,Fz50 lf x.1=some y):Con Tryz.prog 13 ⟨[cDisk],[(false,qag),(false,(.int .i64))],g⟩ :=
 conT (nmf:=ql9) (sml:=qyn) (hxl:=qv4) (st:=qrq) (hd:=q1k) 20 mixed ttOK ftOK hsm zsq znh rfl rfl (by kernel_rfl) (fun x=>by kernel_rfl) zmv zmm fun x y hx hy=>by
  obtain⟨lf,h⟩:=hg x y hx hy;exact⟨lf,(zoq g lf x.1).trans h⟩
end Go.Proofs.YtnhmanoiolfapaaGreat
end

section
namespace Go.Jx
open Go Go.Sx Go.RowKit
end Go.Jx
end

section
namespace Go.Jx
open Go Go.Sx Go.RowKit
def omap{α β:Type}(f:α->β):Option α->Option β
 | none=>none
 | some a=>some (f a)
def hxG(a:Hx):Hx:=⟨fun cl vs S=>omap (igc S) (a.f cl vs S),fun clP R vs S kk=>a.k clP R vs S fun r=>kk (igc S r),fun cl clP h R vs S kk=>by
 rw[a.eq cl clP h R vs S];cases a.f cl vs S<;>rfl⟩
theorem znt{P:Program}{f:Nat}{a:Hx}(ha:HxOK P f a.f):HxOK P f (hxG a).f:=by
 have inv:∀{cl vs S r},(hxG a).f cl vs S=some r->∃q,a.f cl vs S=some q/\r=igc S q:=by
  intro cl vs S r hr;have hr:omap (igc S) (a.f cl vs S)=some r:=hr;cases hq:a.f cl vs S with
  | none=>rw[hq] at hr;cases hr
  | some q=>rw[hq] at hr;cases hr;exact⟨q,rfl,rfl⟩
 refine⟨fun cl h1 h2 h3 vs S r hr T E us p hrd hwr hv=>?_,fun cl h1 vs S r hr=>?_,fun cl h1 vs S r hr hw hl=>?_⟩
 ·obtain⟨q,hq,rfl⟩:=inv hr;obtain⟨T',p',t1,t2,hback⟩:=zc3 p hrd hwr;obtain⟨c1,c2⟩:=ha.fn cl h1 h2 h3 vs S q hq T' E us p' t1 t2 hv;exact⟨c1,c2.mono fun e w h=>hback e w h⟩
 ·obtain⟨q,hq,rfl⟩:=inv hr;exact q7i (ha.fr cl h1 vs S q hq)
 ·obtain⟨q,hq,rfl⟩:=inv hr;exact zfr hw hl
end Go.Jx
end

noncomputable section
set_option maxRecDepth 100000
namespace Go.Proofs.YtnhmanoiolfapaaGreat
open Go Go.Sx Go.RowKit Go.Jx
def qmi:Nat->Option Nm:=fun k=>none
def qsc:Nat->Bool:=fun k=>false
def qxx:=qsc
abbrev qgx:Type:=(List DAct) × Bool × Unit
def qv9:List (Nat × Sm):=[(56,qol),(93,qnx),(101,qtw),(54,zdt),(76,qi5)]
def qyu:List (Nat × Hx):=[(55,hxR qeo),(53,hxG (hxR qfn))]
def q6o(R:Type)(lf:Nat):ClK R:=qan Tryz.prog ttT.get ftT.get (nm1 88 qmi) (smL qv9) (hxL qyu) lf 20 R
abbrev zjm:Nat:=88
def qt5(lf:Nat)(x1:qae):Option qgx:=(match (cond (S.pk x1.2.2.2) (some ((S.packed x1.2.2.2 (Int.ofNat 1)),())) none) with|.none  => none|.some v0=>(match (cond (S.inI (Int.ofNat (List.length x1.1.1)) (Int.ofNat 0) (Int.ofNat 1000)) (some ((S.half (Int.toNat (Int.ofNat (List.length x1.1.1))) (IntKind.i64.wrap (Int.sub (Int.ofNat 1) x1.2.1))),())) none) with|.none  => none|.some v1=>(cond (iltI (IntKind.i64.wrap (Int.sub v1.1.2 v1.1.1)) (Int.ofNat (List.length v0.1))) (some ([],(Bool.false,()))) (match (cond (S.inI (IntKind.i64.wrap (Int.sub v1.1.2 v1.1.1)) (Int.ofNat 0) (Int.ofNat 1000)) (some ((List.replicate (Int.toNat (IntKind.i64.wrap (Int.sub v1.1.2 v1.1.1))) (S.lit [0,0,0,0,0,0,0,0,0,0,0,0,0,0,0,0,0,0,0,0,0,0,0,0,0,0,0,0,0,0,0,0,0,0,0,0,0,0,0,0,0,0,0,0,0,0,0,0,0,0,0,0,0,0,0,0,0,0,0,0,0,0,0,0])),())) none) with|.none  => none|.some v2=>(match (cond (Bool.and (S.inI v1.1.1 (Int.ofNat 0) (Int.ofNat 1000000)) (Bool.and (Nat.ble (List.length v2.1) 1000000) Bool.true)) (some ((),(((S.app [] (S.puts v1.1.1 v2.1)),()),()))) none) with|.none  => none|.some v3=>(match (cond (Nat.ble (S.lenA v3.2.1.1) 4000000) (some ((),(((S.app v3.2.1.1 (List.cons S.sync [])),()),()))) none) with|.none  => none|.some v4=>(match (jget v0.1 (Int.ofNat 0)) with|.none  => none|.some v5=>(match (GetElem?.getElem? v0.1 0) with|.none  => none|.some v6=>(match (cond (Decidable.decide (Eq (ByteArray.size v6) 64)) (some ((qaf (List.cons (Int.ofNat 0) (List.drop 1 (qac v6)))),())) none) with|.none  => none|.some v7=>(match (cond (Bool.and (S.inI v1.1.1 (Int.ofNat 0) (Int.ofNat 1000000)) (Nat.ble (S.lenA v4.2.1.1) 1000000)) (some ((),(((S.app v4.2.1.1 (S.puts v1.1.1 (List.cons v7.1 []))),()),()))) none) with|.none  => none|.some v8=>(cond (lchk (Int.ofNat 1) (Int.ofNat (List.length v0.1)) (Int.ofNat (List.length v0.1)) (Int.ofNat (List.length v0.1))) (match (cond (Bool.and (S.inI (IntKind.i64.wrap (Int.add v1.1.1 (Int.ofNat 1))) (Int.ofNat 0) (Int.ofNat 1000000)) (Bool.and (Nat.ble (List.length (lsub v0.1 (Int.ofNat 1) (Int.ofNat (List.length v0.1)))) 1000000) (Nat.ble (S.lenA v8.2.1.1) 1000000))) (some ((),(((S.app v8.2.1.1 (S.puts (IntKind.i64.wrap (Int.add v1.1.1 (Int.ofNat 1))) (lsub v0.1 (Int.ofNat 1) (Int.ofNat (List.length v0.1))))),()),()))) none) with|.none  => none|.some v9=>(match (cond (Nat.ble (S.lenA v9.2.1.1) 4000000) (some ((),(((S.app v9.2.1.1 (List.cons S.sync [])),()),()))) none) with|.none  => none|.some v10=>(match (jget v0.1 (Int.ofNat 0)) with|.none  => none|.some v11=>(match (cond (Bool.and (S.inI v1.1.1 (Int.ofNat 0) (Int.ofNat 1000000)) (Nat.ble (S.lenA v10.2.1.1) 1000000)) (some ((),(((S.app v10.2.1.1 (S.puts v1.1.1 (List.cons v11 []))),()),()))) none) with|.none  => none|.some v12=>(match (cond (Nat.ble (S.lenA v12.2.1.1) 4000000) (some ((),(((S.app v12.2.1.1 (List.cons S.sync [])),()),()))) none) with|.none  => none|.some v13=>(match (cond (Bool.and (S.inI (Int.ofNat 0) (Int.ofNat 0) (Int.ofNat 1000000)) (Nat.ble (S.lenA v13.2.1.1) 1000000)) (some ((),(((S.app v13.2.1.1 (S.puts (Int.ofNat 0) (List.cons (ByteArray.append (ByteArray.mk (Array.mk (List.cons (UInt8.ofBitVec (BitVec.ofFin (Fin.mk (Nat.mod (Int.toNat (IntKind.u8.wrap (IntKind.i64.wrap (Int.sub (Int.ofNat 1) x1.2.1)))) 256) (Nat.mod_lt (Int.toNat (IntKind.u8.wrap (IntKind.i64.wrap (HSub.hSub (OfNat.ofNat 1) (x1,()).1.2.1)))) (BitVec.ofNat._proof_1 (OfNat.ofNat 8)))))) []))) (S.lit [0,0,0,0,0,0,0,0,0,0,0,0,0,0,0,0,0,0,0,0,0,0,0,0,0,0,0,0,0,0,0,0,0,0,0,0,0,0,0,0,0,0,0,0,0,0,0,0,0,0,0,0,0,0,0,0,0,0,0,0,0,0,0])) []))),()),()))) none) with|.none  => none|.some v14=>(match (cond (Nat.ble (S.lenA v14.2.1.1) 4000000) (some ((),(((S.app v14.2.1.1 (List.cons S.sync [])),()),()))) none) with|.none  => none|.some v15=>(some (v15.2.1.1,(Bool.true,())))))))))) none)))))))))))
abbrev gz51:Type:=ElA [qag]->Option qgx
abbrev sz51(g:gz51):Sm:=⟨[qag],[(true,cAct),(false,.bool)],g⟩
abbrev Ez51(g:gz51)(J:JT qgx)(lf:Nat)(x1:qae):=qat Tryz.prog ttT.get qmi fi88.nt (q6o _ lf) lf qsc J fi88.body [] (qal (argV [qag] (x1,())) 0 .leaf) S0 [] (qak ttT.get fi88 (sz51 g))
theorem zk3(g:gz51)(J:JT qgx)(lf:Nat)(x1:qae):Ez51 g J lf x1=qt5 lf x1:=by kernel_rfl
theorem zpk:(regs fi88.body).Nodup:=by decide +kernel
theorem z35:okC qmi qsc qxx fi88.body none=true:=by kernel_rfl
def Az51(g:gz51)(lf:Nat):JT qgx:=atN Tryz.prog ttT.get qmi fi88 (sz51 g) (q6o _ lf) lf qxx
def Fz51(lf:Nat)(x1:qae):Option qgx:=qt5 lf x1
theorem zxq(g:gz51)(lf:Nat)(x1:qae):Ez51 g (Az51 g lf) lf x1=Fz51 lf x1:=by
  refine(zk3 g (Az51 g lf) lf x1).trans ?_;rfl
theorem zi2(hrz12:ConR Tryz.prog 55 qeo):qaq Tryz.prog qyu:=⟨qft hrz12,⟨znt (qft qzn),trivial⟩⟩
theorem zgc{g:gz51}(hsm:SmOK Tryz.prog qv9)(hrz12:ConR Tryz.prog 55 qeo)(hg:∀(x:ElA [qag]) (y:qgx),WfA [qag] x->g x=some y->∃lf,Fz51 lf x.1=some y):Con Tryz.prog 88 ⟨[qag],[(true,cAct),(false,.bool)],g⟩ :=
 conT (nmf:=qmi) (sml:=qv9) (hxl:=qyu) (st:=qsc) (hd:=qxx) 20 mixed ttOK ftOK hsm (zi2 hrz12) z1a rfl rfl (by kernel_rfl) (fun x=>by kernel_rfl) zpk z35 fun x y hx hy=>by
  obtain⟨lf,h⟩:=hg x y hx hy;exact⟨lf,(zxq g lf x.1).trans h⟩
def qj5:Nat->Option Nm:=fun k=>cond (Nat.beq k 4) (some ⟨[0,1,5],[],[],[],[],0,0,false⟩) (none)
def qn3:Nat->Bool:=fun k=>cond (Nat.beq k 4) true (false)
def qux:=qn3
abbrev qdi:Type:=Bool × Unit
def qve:List (Nat × Sm):=[]
def qtq:List (Nat × Hx):=[]
def qzx(R:Type)(lf:Nat):ClK R:=qan Tryz.prog ttT.get ftT.get (nm1 50 qj5) (smL qve) (hxL qtq) lf 20 R
abbrev z24:Nat:=50
def qia(x1:(List qaa))(x2:(List qaa))(p:Int):NRes:=(NRes.mk (.node (some (IV.lst qad x1)) (.node (some (IV.lst qad x2)) .leaf (.node (some (IV.int .i64 p)) .leaf .leaf)) .leaf) (IS.mk .leaf 0) [] 0)
def qwg(lf:Nat)(x1:(List qaa))(x2:(List qaa))(L4:Int->Option qdi):Option qdi:=(cond (Bool.not (ieqI (Int.ofNat (List.length x1)) (Int.ofNat (List.length x2)))) (some (Bool.false,())) (L4 (Int.ofNat 0)))
def qr0(lf:Nat)(x1:(List qaa))(x2:(List qaa))(L4:Int->Option qdi)(p:Int):Option qdi:=(cond (iltI p (Int.ofNat (List.length x1))) (match (jget x1 p) with|.none  => none|.some v0=>(match (jget x2 p) with|.none  => none|.some v1=>(cond (Bool.not (Bool.and (keqI v0.1 v1.1) (Bool.and (keqS v0.2.1 v1.2.1) (Bool.and (keqB v0.2.2 v1.2.2) Bool.true)))) (some (Bool.false,())) (L4 (IntKind.i64.wrap (Int.add p (Int.ofNat 1))))))) (some (Bool.true,())))
abbrev gz52:Type:=ElA [(.list qad),(.list qad)]->Option qdi
abbrev sz52(g:gz52):Sm:=⟨[(.list qad),(.list qad)],[(false,.bool)],g⟩
abbrev Ez52(g:gz52)(J:JT qdi)(lf:Nat)(x1:(List qaa))(x2:(List qaa)):=qat Tryz.prog ttT.get qj5 fi50.nt (qzx _ lf) lf qn3 J fi50.body [] (qal (argV [(.list qad),(.list qad)] (x1,x2,())) 0 .leaf) S0 [] (qak ttT.get fi50 (sz52 g))
abbrev Bz52(g:gz52)(J:JT qdi)(lf k:Nat)(ms:List Nat)(q:NRes):=qbu Tryz.prog ttT.get qj5 fi50.nt (qzx _ lf) lf qn3 J k fi50.body [] ms q (qak ttT.get fi50 (sz52 g))
theorem zp7(g:gz52)(J:JT qdi)(lf:Nat)(x1:(List qaa))(x2:(List qaa)):Ez52 g J lf x1 x2=qwg lf x1 x2 (fun q=>J 4 [lf] (qia x1 x2 q)):=by kernel_rfl
theorem zoe(g:gz52)(J:JT qdi)(lf:Nat)(x1:(List qaa))(x2:(List qaa))(m1:Nat)(p:Int):Bz52 g J lf 4 [m1] (qia x1 x2 p)=qr0 lf x1 x2 (fun q=>J 4 [m1] (qia x1 x2 q)) p:=by kernel_rfl
theorem q66:(regs fi50.body).Nodup:=by decide +kernel
theorem zfs:okC qj5 qn3 qux fi50.body none=true:=by kernel_rfl
def Az52(g:gz52)(lf:Nat):JT qdi:=atN Tryz.prog ttT.get qj5 fi50 (sz52 g) (qzx _ lf) lf qux
def qpu(lf:Nat)(x1:(List qaa))(x2:(List qaa)):Nat->(Int)->Option qdi:=qa2 fun K p=>qr0 lf x1 x2 K p
theorem zej(g:gz52)(lf:Nat)(x1:(List qaa))(x2:(List qaa)):∀(n:Nat) (p:Int),Az52 g lf 4 [n] (qia x1 x2 p)=qpu lf x1 x2 n p
 | 0,p=>qbm 4 [0] rfl _
 | n+1,p=>by
  have ih:=zej g lf x1 x2 n;refine(qbl (qa6 20 _) q66 zfs 4 [n+1] [n] rfl _).trans ((zoe g (Az52 g lf) lf x1 x2 n p).trans ?_);rw[(show (fun q=>Az52 g lf 4 [n] (qia x1 x2 q))=(fun q=>qpu lf x1 x2 n q) from funext ih)];rfl
def Fz52(lf:Nat)(x1:(List qaa))(x2:(List qaa)):Option qdi:=qwg lf x1 x2 (fun q=>qpu lf x1 x2 lf q)
theorem zlf(g:gz52)(lf:Nat)(x1:(List qaa))(x2:(List qaa)):Ez52 g (Az52 g lf) lf x1 x2=Fz52 lf x1 x2:=by
  refine(zp7 g (Az52 g lf) lf x1 x2).trans ?_;rw[(show (fun q=>Az52 g lf 4 [lf] (qia x1 x2 q))=(fun q=>qpu lf x1 x2 lf q) from funext fun q=>zej g lf x1 x2 lf q)];rfl
theorem zi0:qaq Tryz.prog qtq:=trivial
theorem z1b{g:gz52}(hsm:SmOK Tryz.prog qve)(hg:∀(x:ElA [(.list qad),(.list qad)]) (y:qdi),WfA [(.list qad),(.list qad)] x->g x=some y->∃lf,Fz52 lf x.1 x.2.1=some y):Con Tryz.prog 50 ⟨[(.list qad),(.list qad)],[(false,.bool)],g⟩ :=
 conT (nmf:=qj5) (sml:=qve) (hxl:=qtq) (st:=qn3) (hd:=qux) 20 mixed ttOK ftOK hsm zi0 zlp rfl rfl (by kernel_rfl) (fun x=>by kernel_rfl) q66 zfs fun x y hx hy=>by
  obtain⟨lf,h⟩:=hg x y hx hy;exact⟨lf,(zlf g lf x.1 x.2.1).trans h⟩
def qkj:Nat->Option Nm:=fun k=>cond (Nat.beq k 4) (some ⟨[2,3,5],[],[],[],[],0,0,false⟩) (cond (Nat.beq k 9) (some ⟨[2,3,6],[],[],[],[],0,0,false⟩) (none))
def qlf:Nat->Bool:=fun k=>cond (Nat.beq k 4) true (cond (Nat.beq k 9) true (false))
def qvg:=qlf
abbrev qb6:Type:=Bool × Unit
def q18:List (Nat × Sm):=[]
def qyt:List (Nat × Hx):=[]
def qy2(R:Type)(lf:Nat):ClK R:=qan Tryz.prog ttT.get ftT.get (nm1 36 qkj) (smL q18) (hxL qyt) lf 20 R
abbrev zsn:Nat:=36
def qj3(x1:qab)(x2:qab)(p:Int):NRes:=(NRes.mk (.node none (.node none (.node (some (IV.ptr 1 0)) .leaf .leaf) (.node (some (IV.int .i64 p)) .leaf .leaf)) (.node (some (IV.ptr 0 0)) .leaf .leaf)) (IS.mk (.node (some (IObj.row (List.cons (IV.lst TC.str x1.1) (List.cons (IV.lst cPut x1.2) [])))) (.node (some (IObj.row (List.cons (IV.lst TC.str x2.1) (List.cons (IV.lst cPut x2.2) [])))) .leaf .leaf) .leaf) 2) [] 0)
def qje(x1:qab)(x2:qab)(p:Int):NRes:=(NRes.mk (.node none (.node none (.node (some (IV.ptr 1 0)) .leaf .leaf) .leaf) (.node (some (IV.ptr 0 0)) .leaf (.node (some (IV.int .i64 p)) .leaf .leaf))) (IS.mk (.node (some (IObj.row (List.cons (IV.lst TC.str x1.1) (List.cons (IV.lst cPut x1.2) [])))) (.node (some (IObj.row (List.cons (IV.lst TC.str x2.1) (List.cons (IV.lst cPut x2.2) [])))) .leaf .leaf) .leaf) 2) [] 0)
def q1q(lf:Nat)(x1:qab)(x2:qab)(L4:Int->Option qb6):Option qb6:=(cond (Bool.not (ieqI (Int.ofNat (List.length x1.1)) (Int.ofNat (List.length x2.1)))) (some (Bool.false,())) (cond (Bool.not (ieqI (Int.ofNat (List.length x1.2)) (Int.ofNat (List.length x2.2)))) (some (Bool.false,())) (L4 (Int.ofNat 0))))
def qsy(lf:Nat)(x1:qab)(x2:qab)(L4:Int->Option qb6)(L9:Int->Option qb6)(p:Int):Option qb6:=(cond (iltI p (Int.ofNat (List.length x1.1))) (match (jget x1.1 p) with|.none  => none|.some v0=>(match (jget x2.1 p) with|.none  => none|.some v1=>(cond (Bool.not (keqS v0 v1)) (some (Bool.false,())) (L4 (IntKind.i64.wrap (Int.add p (Int.ofNat 1))))))) (L9 (Int.ofNat 0)))
def qqk(lf:Nat)(x1:qab)(x2:qab)(L9:Int->Option qb6)(p:Int):Option qb6:=(cond (iltI p (Int.ofNat (List.length x1.2))) (match (jget x1.2 p) with|.none  => none|.some v0=>(match (jget x2.2 p) with|.none  => none|.some v1=>(cond (Bool.not (Bool.and (keqI v0.1 v1.1) (Bool.and (keqS v0.2 v1.2) Bool.true))) (some (Bool.false,())) (L9 (IntKind.i64.wrap (Int.add p (Int.ofNat 1))))))) (some (Bool.true,())))
abbrev gz53:Type:=ElA [cDisk,cDisk]->Option qb6
abbrev sz53(g:gz53):Sm:=⟨[cDisk,cDisk],[(false,.bool)],g⟩
abbrev Ez53(g:gz53)(J:JT qb6)(lf:Nat)(x1:qab)(x2:qab):=qat Tryz.prog ttT.get qkj fi36.nt (qy2 _ lf) lf qlf J fi36.body [] (qal (argV [cDisk,cDisk] (x1,x2,())) 0 .leaf) S0 [] (qak ttT.get fi36 (sz53 g))
abbrev Bz53(g:gz53)(J:JT qb6)(lf k:Nat)(ms:List Nat)(q:NRes):=qbu Tryz.prog ttT.get qkj fi36.nt (qy2 _ lf) lf qlf J k fi36.body [] ms q (qak ttT.get fi36 (sz53 g))
theorem zni(g:gz53)(J:JT qb6)(lf:Nat)(x1:qab)(x2:qab):Ez53 g J lf x1 x2=q1q lf x1 x2 (fun q=>J 4 [lf] (qj3 x1 x2 q)):=by kernel_rfl
theorem zxv(g:gz53)(J:JT qb6)(lf:Nat)(x1:qab)(x2:qab)(m1:Nat)(p:Int):Bz53 g J lf 4 [m1] (qj3 x1 x2 p)=qsy lf x1 x2 (fun q=>J 4 [m1] (qj3 x1 x2 q)) (fun q=>J 9 [lf] (qje x1 x2 q)) p:=by kernel_rfl
theorem zh6(g:gz53)(J:JT qb6)(lf:Nat)(x1:qab)(x2:qab)(m1:Nat)(p:Int):Bz53 g J lf 9 [m1] (qje x1 x2 p)=qqk lf x1 x2 (fun q=>J 9 [m1] (qje x1 x2 q)) p:=by kernel_rfl
theorem q01:(regs fi36.body).Nodup:=by decide +kernel
theorem qtk:okC qkj qlf qvg fi36.body none=true:=by kernel_rfl
def Az53(g:gz53)(lf:Nat):JT qb6:=atN Tryz.prog ttT.get qkj fi36 (sz53 g) (qy2 _ lf) lf qvg
def qlz(lf:Nat)(x1:qab)(x2:qab):Nat->(Int)->Option qb6:=qa2 fun K p=>qqk lf x1 x2 K p
theorem zbk(g:gz53)(lf:Nat)(x1:qab)(x2:qab):∀(n:Nat) (p:Int),Az53 g lf 9 [n] (qje x1 x2 p)=qlz lf x1 x2 n p
 | 0,p=>qbm 9 [0] rfl _
 | n+1,p=>by
  have ih:=zbk g lf x1 x2 n;refine(qbl (qa6 20 _) q01 qtk 9 [n+1] [n] rfl _).trans ((zh6 g (Az53 g lf) lf x1 x2 n p).trans ?_);rw[(show (fun q=>Az53 g lf 9 [n] (qje x1 x2 q))=(fun q=>qlz lf x1 x2 n q) from funext ih)];rfl
def qrk(lf:Nat)(x1:qab)(x2:qab):Nat->(Int)->Option qb6:=qa2 fun K p=>qsy lf x1 x2 K (fun q=>qlz lf x1 x2 lf q) p
theorem zdy(g:gz53)(lf:Nat)(x1:qab)(x2:qab):∀(n:Nat) (p:Int),Az53 g lf 4 [n] (qj3 x1 x2 p)=qrk lf x1 x2 n p
 | 0,p=>qbm 4 [0] rfl _
 | n+1,p=>by
  have ih:=zdy g lf x1 x2 n;refine(qbl (qa6 20 _) q01 qtk 4 [n+1] [n] rfl _).trans ((zxv g (Az53 g lf) lf x1 x2 n p).trans ?_);rw[(show (fun q=>Az53 g lf 9 [lf] (qje x1 x2 q))=(fun q=>qlz lf x1 x2 lf q) from funext fun q=>zbk g lf x1 x2 lf q),(show (fun q=>Az53 g lf 4 [n] (qj3 x1 x2 q))=(fun q=>qrk lf x1 x2 n q) from funext ih)];rfl
def Fz53(lf:Nat)(x1:qab)(x2:qab):Option qb6:=q1q lf x1 x2 (fun q=>qrk lf x1 x2 lf q)
theorem z4w(g:gz53)(lf:Nat)(x1:qab)(x2:qab):Ez53 g (Az53 g lf) lf x1 x2=Fz53 lf x1 x2:=by
  refine(zni g (Az53 g lf) lf x1 x2).trans ?_;rw[(show (fun q=>Az53 g lf 4 [lf] (qj3 x1 x2 q))=(fun q=>qrk lf x1 x2 lf q) from funext fun q=>zdy g lf x1 x2 lf q)];rfl
theorem zy6:qaq Tryz.prog qyt:=trivial
theorem zw7{g:gz53}(hsm:SmOK Tryz.prog q18)(hg:∀(x:ElA [cDisk,cDisk]) (y:qb6),WfA [cDisk,cDisk] x->g x=some y->∃lf,Fz53 lf x.1 x.2.1=some y):Con Tryz.prog 36 ⟨[cDisk,cDisk],[(false,.bool)],g⟩ :=
 conT (nmf:=qkj) (sml:=q18) (hxl:=qyt) (st:=qlf) (hd:=qvg) 20 mixed ttOK ftOK hsm zy6 zzw rfl rfl (by kernel_rfl) (fun x=>by kernel_rfl) q01 qtk fun x y hx hy=>by
  obtain⟨lf,h⟩:=hg x y hx hy;exact⟨lf,(z4w g lf x.1 x.2.1).trans h⟩
def qkx:Nat->Option Nm:=fun k=>none
def qrf:Nat->Bool:=fun k=>false
def qz7:=qrf
abbrev qhs:Type:=Bool × Unit
def qt6:List (Nat × Sm):=[(36,q7a),(50,zaw)]
def q10:List (Nat × Hx):=[]
def zb4(R:Type)(lf:Nat):ClK R:=qan Tryz.prog ttT.get ftT.get (nm1 16 qkx) (smL qt6) (hxL q10) lf 20 R
abbrev zvq:Nat:=16
def qtd(lf:Nat)(x1:qae)(x2:qae):Option qhs:=(cond (ieqI x1.2.1 x2.2.1) (cond (ieqI x1.2.2.1 x2.2.2.1) (cond (S.sameD (x1.1.1,x1.1.2) (x2.1.1,x2.1.2)) (some ((S.sameC x1.2.2.2 x2.2.2.2),())) (some (Bool.false,()))) (some (Bool.false,()))) (some (Bool.false,())))
abbrev gz54:Type:=ElA [qag,qag]->Option qhs
abbrev sz54(g:gz54):Sm:=⟨[qag,qag],[(false,.bool)],g⟩
abbrev Ez54(g:gz54)(J:JT qhs)(lf:Nat)(x1:qae)(x2:qae):=qat Tryz.prog ttT.get qkx fi16.nt (zb4 _ lf) lf qrf J fi16.body [] (qal (argV [qag,qag] (x1,x2,())) 0 .leaf) S0 [] (qak ttT.get fi16 (sz54 g))
theorem zj9(g:gz54)(J:JT qhs)(lf:Nat)(x1:qae)(x2:qae):Ez54 g J lf x1 x2=qtd lf x1 x2:=by kernel_rfl
theorem zwx:(regs fi16.body).Nodup:=by decide +kernel
theorem z17:okC qkx qrf qz7 fi16.body none=true:=by kernel_rfl
def Az54(g:gz54)(lf:Nat):JT qhs:=atN Tryz.prog ttT.get qkx fi16 (sz54 g) (zb4 _ lf) lf qz7
def Fz54(lf:Nat)(x1:qae)(x2:qae):Option qhs:=qtd lf x1 x2
theorem zfu(g:gz54)(lf:Nat)(x1:qae)(x2:qae):Ez54 g (Az54 g lf) lf x1 x2=Fz54 lf x1 x2:=by
  refine(zj9 g (Az54 g lf) lf x1 x2).trans ?_;rfl
theorem zr2:qaq Tryz.prog q10:=trivial
theorem zxg{g:gz54}(hsm:SmOK Tryz.prog qt6)(hg:∀(x:ElA [qag,qag]) (y:qhs),WfA [qag,qag] x->g x=some y->∃lf,Fz54 lf x.1 x.2.1=some y):Con Tryz.prog 16 ⟨[qag,qag],[(false,.bool)],g⟩ :=
 conT (nmf:=qkx) (sml:=qt6) (hxl:=q10) (st:=qrf) (hd:=qz7) 20 mixed ttOK ftOK hsm zr2 zrv rfl rfl (by kernel_rfl) (fun x=>by kernel_rfl) zwx z17 fun x y hx hy=>by
  obtain⟨lf,h⟩:=hg x y hx hy;exact⟨lf,(zfu g lf x.1 x.2.1).trans h⟩
def qi7:Nat->Option Nm:=fun k=>cond (Nat.beq k 4) (some ⟨[0,1,5],[],[],[],[],0,0,false⟩) (none)
def qky:Nat->Bool:=fun k=>cond (Nat.beq k 4) true (false)
def q08:=qky
abbrev qc9:Type:=Bool × Unit
def qvn:List (Nat × Sm):=[]
def quf:List (Nat × Hx):=[]
def q3w(R:Type)(lf:Nat):ClK R:=qan Tryz.prog ttT.get ftT.get (nm1 15 qi7) (smL qvn) (hxL quf) lf 20 R
abbrev zw0:Nat:=15
def qi9(x1:qwo)(x2:qwo)(p:Int):NRes:=(NRes.mk (.node (some (IV.lst cAct x1)) (.node (some (IV.lst cAct x2)) .leaf (.node (some (IV.int .i64 p)) .leaf .leaf)) .leaf) (IS.mk .leaf 0) [] 0)
def qt2(lf:Nat)(x1:(List DAct))(x2:(List DAct))(L4:Int->Option qc9):Option qc9:=(cond (Bool.not (ieqI (Int.ofNat (List.length x1)) (Int.ofNat (List.length x2)))) (some (Bool.false,())) (L4 (Int.ofNat 0)))
def qss(lf:Nat)(x1:(List DAct))(x2:(List DAct))(L4:Int->Option qc9)(p:Int):Option qc9:=(cond (iltI p (Int.ofNat (List.length x1))) (match (jget x1 p) with|.none  => none|.some v0=>(match (jget x2 p) with|.none  => none|.some v1=>(cond (Bool.not (Bool.and (keqB v0.1 v1.1) (Bool.and (Bool.and (keqI v0.2.1 v1.2.1) (Bool.and (keqS v0.2.2 v1.2.2) Bool.true)) Bool.true))) (some (Bool.false,())) (L4 (IntKind.i64.wrap (Int.add p (Int.ofNat 1))))))) (some (Bool.true,())))
abbrev gz55:Type:=ElA [(.list cAct),(.list cAct)]->Option qc9
abbrev sz55(g:gz55):Sm:=⟨[(.list cAct),(.list cAct)],[(false,.bool)],g⟩
abbrev Ez55(g:gz55)(J:JT qc9)(lf:Nat)(x1:(List DAct))(x2:(List DAct)):=qat Tryz.prog ttT.get qi7 fi15.nt (q3w _ lf) lf qky J fi15.body [] (qal (argV [(.list cAct),(.list cAct)] (x1,x2,())) 0 .leaf) S0 [] (qak ttT.get fi15 (sz55 g))
abbrev Bz55(g:gz55)(J:JT qc9)(lf k:Nat)(ms:List Nat)(q:NRes):=qbu Tryz.prog ttT.get qi7 fi15.nt (q3w _ lf) lf qky J k fi15.body [] ms q (qak ttT.get fi15 (sz55 g))
theorem zon(g:gz55)(J:JT qc9)(lf:Nat)(x1:(List DAct))(x2:(List DAct)):Ez55 g J lf x1 x2=qt2 lf x1 x2 (fun q=>J 4 [lf] (qi9 x1 x2 q)):=by kernel_rfl
theorem zrz(g:gz55)(J:JT qc9)(lf:Nat)(x1:(List DAct))(x2:(List DAct))(m1:Nat)(p:Int):Bz55 g J lf 4 [m1] (qi9 x1 x2 p)=qss lf x1 x2 (fun q=>J 4 [m1] (qi9 x1 x2 q)) p:=by kernel_rfl
theorem zbp:(regs fi15.body).Nodup:=by decide +kernel
theorem zem:okC qi7 qky q08 fi15.body none=true:=by kernel_rfl
def Az55(g:gz55)(lf:Nat):JT qc9:=atN Tryz.prog ttT.get qi7 fi15 (sz55 g) (q3w _ lf) lf q08
def qrw(lf:Nat)(x1:(List DAct))(x2:(List DAct)):Nat->(Int)->Option qc9:=qa2 fun K p=>qss lf x1 x2 K p
theorem zfg(g:gz55)(lf:Nat)(x1:(List DAct))(x2:(List DAct)):∀(n:Nat) (p:Int),Az55 g lf 4 [n] (qi9 x1 x2 p)=qrw lf x1 x2 n p
 | 0,p=>qbm 4 [0] rfl _
 | n+1,p=>by
  have ih:=zfg g lf x1 x2 n;refine(qbl (qa6 20 _) zbp zem 4 [n+1] [n] rfl _).trans ((zrz g (Az55 g lf) lf x1 x2 n p).trans ?_);rw[(show (fun q=>Az55 g lf 4 [n] (qi9 x1 x2 q))=(fun q=>qrw lf x1 x2 n q) from funext ih)];rfl
def Fz55(lf:Nat)(x1:(List DAct))(x2:(List DAct)):Option qc9:=qt2 lf x1 x2 (fun q=>qrw lf x1 x2 lf q)
theorem zln(g:gz55)(lf:Nat)(x1:(List DAct))(x2:(List DAct)):Ez55 g (Az55 g lf) lf x1 x2=Fz55 lf x1 x2:=by
  refine(zon g (Az55 g lf) lf x1 x2).trans ?_;rw[(show (fun q=>Az55 g lf 4 [lf] (qi9 x1 x2 q))=(fun q=>qrw lf x1 x2 lf q) from funext fun q=>zfg g lf x1 x2 lf q)];rfl
theorem zsw:qaq Tryz.prog quf:=trivial
theorem zvy{g:gz55}(hsm:SmOK Tryz.prog qvn)(hg:∀(x:ElA [(.list cAct),(.list cAct)]) (y:qc9),WfA [(.list cAct),(.list cAct)] x->g x=some y->∃lf,Fz55 lf x.1 x.2.1=some y):Con Tryz.prog 15 ⟨[(.list cAct),(.list cAct)],[(false,.bool)],g⟩ :=
 conT (nmf:=qi7) (sml:=qvn) (hxl:=quf) (st:=qky) (hd:=q08) 20 mixed ttOK ftOK hsm zsw zmt rfl rfl (by kernel_rfl) (fun x=>by kernel_rfl) zbp zem fun x y hx hy=>by
  obtain⟨lf,h⟩:=hg x y hx hy;exact⟨lf,(zln g lf x.1 x.2.1).trans h⟩
theorem q8f{l:List qaa}(h:S.pk l=true)(m:Int):(S.packed l m).length<=20000:=by
 have:=qod h;rw[qdv];omega
theorem qmp{α:Type}{l:List α}{d:α}(h:1<=l.length):jget l (Int.ofNat 0)=some (l.getD 0 d):=qs1 (i:=Int.ofNat 0) (d:=d) (Int.le_refl _) (by show (0:Int)<(l.length:Int);omega)
theorem get0{α:Type}{l:List α}{d:α}(h:1<=l.length):l[0]?=some (l.getD 0 d):=by
 cases l with
 | nil=>exact absurd h (Nat.not_succ_le_zero 0)
 | cons a l=>rfl
theorem q67:S.packed [] 1=[qaf (1::List.replicate 63 0)]:=by kernel_rfl
theorem zp2(lf:Nat)(d:qab):Fz14 lf d=some (S.format d,()):=by
 simp only[Fz14,que];unfold S.format;show cond (ieqI (S.checkDisk d) _) _ _=_;by_cases h0:S.checkDisk d=0
 ·rw[qbk (show S.checkDisk d=Int.ofNat 0 from h0),cond_true,if_pos h0,qa5];by_cases h1:d.2.length=0
  ·rw[decide_eq_false (by omega),cond_false,if_pos h1,Bool.not_true,cond_false,show S.inI (Int.ofNat 64) (Int.ofNat 0) (Int.ofNat 64)=true from rfl,cond_true,show S.pkm [] (Int.ofNat 1)=true from rfl,cond_true,q9v];simp only[show S.packed [] (Int.ofNat 1)=S.packed [] 1 from rfl,q67];rfl
  ·rw[decide_eq_true (by omega),cond_true,if_neg h1];rfl
 ·rw[qbg (show ¬S.checkDisk d=Int.ofNat 0 from h0),cond_false,if_neg h0,Bool.not_false,cond_true]
theorem z1o:Con Tryz.prog zkl q7z:=zt3 ⟨q90,q05,zrc,zjw,zjt,trivial⟩ fun x y hx h=>⟨0,(zp2 0 x.1).trans h⟩
theorem zkw(lf:Nat)(d:qab):Fz13 lf d=some ((S.format d).1,(S.format d).2,()):=by
 simp only[Fz13,qxu];unfold S.format;show cond (!ieqI (S.checkDisk d) _) _ _=_;by_cases h0:S.checkDisk d=0
 ·rw[qbk (show S.checkDisk d=Int.ofNat 0 from h0),Bool.not_true,cond_false,if_pos h0,qa5];by_cases h1:d.2.length=0
  ·rw[decide_eq_false (by omega),cond_false,if_pos h1,cond_true,show S.pk []=true from rfl,cond_true];simp only[show S.packed [] (Int.ofNat 1)=S.packed [] 1 from rfl,q67];rfl
  ·rw[decide_eq_true (by omega),cond_true,if_neg h1];rfl
 ·rw[qbg (show ¬S.checkDisk d=Int.ofNat 0 from h0),if_neg h0,Bool.not_false,cond_true]
theorem qj1{l:List ByteArray}(h:S.secs l=true):l.length<=1000/\∀s∈l,s.size=64:=by
 unfold S.secs at h;rw[Bool.and_eq_true,Bool.not_eq_true'] at h;refine⟨Nat.le_of_ble_eq_true h.1,fun s hs=>?_⟩;have:=List.any_eq_false.1 h.2 s hs;unfold S.short at this;simpa using this
theorem zc4{l:List ByteArray}(h:S.secs1 l=true):1<=l.length/\l.length<=1000/\∀s∈l,s.size=64:=by
 unfold S.secs1 at h;rw[Bool.and_eq_true] at h;exact⟨Nat.le_of_ble_eq_true h.1,qj1 h.2⟩
theorem qfk{l:List ByteArray}{i:Nat}(h:i<l.length):l.getD i S.none_∈l:=by
 rw[List.getD_eq_getElem?_getD,List.getElem?_eq_getElem h];exact List.getElem_mem h
theorem qrv{s:ByteArray}(h:s.size=64):∃b0 b1 b2 b3 r,qac s=b0::b1::b2::b3::r:=by
 have:=qcr s;rcases hs:qac s with _|⟨b0,_|⟨b1,_|⟨b2,_|⟨b3,r⟩⟩⟩⟩
 case cons.cons.cons.cons=>exact⟨_,_,_,_,_,rfl⟩
 all_goals rw[hs] at this;simp only[List.length_cons,List.length_nil] at this;omega
theorem zsu(l:List ByteArray)(v:ByteArray):(l++[v]).flatMap qac=l.flatMap qac++qac v:=by simp
theorem zet(l:List ByteArray)(v:ByteArray):ByteArray.append (qaf (l.flatMap qac)) v=qaf ((l++[v]).flatMap qac):=by
 rw[zsu,<- qcm,qe9]
theorem zuv{N:Nat}(h:N<100000000):IntKind.i64.wrap (Int.tdiv (Int.ofNat (N+63)) (Int.ofNat 64))=Int.ofNat ((N+63) / 64):=qa3 (n:=(N+63) / 64) (by omega)
theorem qhl{N:Nat}(h:N<100000000):IntKind.i64.wrap (Int.tdiv (IntKind.i64.wrap (Int.sub (IntKind.i64.wrap (Int.add (Int.ofNat N) (Int.ofNat 64))) (Int.ofNat 1))) (Int.ofNat 64))=Int.ofNat ((N+63) / 64):=by
 rw[show IntKind.i64.wrap (Int.add (Int.ofNat N) (Int.ofNat 64))=Int.ofNat (N+64) from qa3 (n:=N+64) (by omega)];have:Int.sub (Int.ofNat (N+64)) (Int.ofNat 1)=Int.ofNat (N+63):=by
  show ((N+64:Nat):Int)-1=((N+63:Nat):Int);omega
 rw[this,qa3 (n:=N+63) (by omega)];exact zuv h
theorem q96{b0 b1 b2 b3:Int}{r:List Int}(h:rng (b0::b1::b2::b3::r)):b1*65536+b2*256+b3=((S.recN (b0::b1::b2::b3::r):Nat):Int)/\S.recN (b0::b1::b2::b3::r)<16777216:=by
 have h1:=h b1 (by simp);have h2:=h b2 (by simp);have h3:=h b3 (by simp);have e:S.recN (b0::b1::b2::b3::r)=(b1*65536+b2*256+b3).toNat:=rfl;rw[e];omega
def qhc(l:List Int):Bool:=l.all fun b=>decide (b=0)
theorem q1v(l:List ByteArray)(cells:List qaa)(M:Int)(f:List Int)(hr:rng f)(hf:f.length<=1000000):∀(k F i:Nat) (is:Bool),i+k=f.length->k<F->qf0 LF l F (cells,is,Int.ofNat i,M,qaf f)=some ((cells,M,!(is&&qhc (f.drop i))),())
 | 0,F+1,i,is,hi,hF=>by
  show qij LF l (qf0 LF l F) _=_;simp only[qij];rw[qa1,qa5,decide_eq_false (by omega),cond_false,List.drop_eq_nil_of_le (by omega)];cases is<;>rfl
 | k+1,F+1,i,is,hi,hF=>by
  show qij LF l (qf0 LF l F) _=_;simp only[qij];have hlt:i<f.length:=by omega
  rw[qa1,qa5,decide_eq_true hlt,cond_true,qbf hr,qbr,List.getElem?_eq_getElem hlt,List.drop_eq_getElem_cons hlt,show IntKind.i64.wrap (Int.add (Int.ofNat i) (Int.ofNat 1))=Int.ofNat (i+1) from qa3 (n:=i+1) (by omega)];simp only;rw[q1v l cells M f hr hf k F (i+1) _ (by omega) (by omega),q1v l cells M f hr hf k F (i+1) _ (by omega) (by omega)];show _=some ((cells,M,!(is&&(decide (f[i]=0)&&qhc (f.drop (i+1))))),());cases is with
  | false=>rfl
  | true =>
   rw[cond_true,qdb];rfl
theorem z2v(l:List ByteArray)(h:S.secs1 l=true):Fz6 LF l=some (S.readK l,()):=by
 obtain⟨h1,h2,h3⟩:=zc4 h;have hs:=h3 _ (qfk (i:=0) (by omega));obtain⟨b0,b1,b2,b3,r,hb⟩:=qrv hs;have hrb:rng (b0::b1::b2::b3::r):=hb▸qde _;obtain⟨n1,n2⟩:=q96 hrb;have hM:S.recM (b0::b1::b2::b3::r)=(S.recN (b0::b1::b2::b3::r)+4+63) / 64:=rfl;have r1:=hrb b1 (by simp);have r2:=hrb b2 (by simp);have r3:=hrb b3 (by simp);unfold S.readK;simp only[Fz6,qta,qmp (d:=S.none_) h1,hb];rw[hM];generalize S.recN (b0::b1::b2::b3::r)=N at n1 n2;have wn:IntKind.i64.wrap (Int.add (IntKind.i64.wrap (Int.add (IntKind.i64.wrap (Int.mul (IntKind.i64.wrap b1) (Int.ofNat 65536))) (IntKind.i64.wrap (Int.mul (IntKind.i64.wrap b2) (Int.ofNat 256))))) (IntKind.i64.wrap b3))=Int.ofNat N:=by
  rw[wrap_in (n:=b1) (by omega),wrap_in (n:=b2) (by omega),wrap_in (n:=b3) (by omega),wrap_in (n:=Int.mul b1 (Int.ofNat 65536)) (by show -_<=b1*65536/\b1*65536<_;omega),wrap_in (n:=Int.mul b2 (Int.ofNat 256)) (by show -_<=b2*256/\b2*256<_;omega),
   wrap_in (n:=Int.add (Int.mul b1 (Int.ofNat 65536)) (Int.mul b2 (Int.ofNat 256))) (by show -_<=b1*65536+b2*256/\b1*65536+b2*256<_;omega)]
  rw[show Int.add (Int.add (Int.mul b1 (Int.ofNat 65536)) (Int.mul b2 (Int.ofNat 256))) b3=Int.ofNat N from n1];exact qa3 (by omega)
 have w4:IntKind.i64.wrap (Int.add (Int.ofNat N) (Int.ofNat 4))=Int.ofNat (N+4):=qa3 (n:=N+4) (by omega);simp only[qbr,List.getElem?_cons_zero,List.getElem?_cons_succ,wn,w4,qhl (N:=N+4) (by omega)];by_cases c0:b0=1
 ·have e0:ieqI b0 (Int.ofNat 1)=true:=qbk c0;rw[e0,Bool.not_true,cond_false];by_cases c1:l.length<(N+4+63) / 64
  ·rw[qd8 (show Int.ofNat l.length<Int.ofNat ((N+4+63) / 64) from Int.ofNat_lt.2 c1),cond_true,if_pos (.inr c1)];rfl
  ·rw[qd4 (show ¬Int.ofNat l.length<Int.ofNat ((N+4+63) / 64) from fun h=>c1 (Int.ofNat_lt.1 h)),cond_false,if_neg (show ¬(¬(b0::b1::b2::b3::r).getD 0 0=1\/l.length<(N+4+63) / 64) from fun h=>h.elim (fun h=>h c0) c1)];obtain⟨M,hMe⟩:∃M,(N+4+63) / 64=M:=⟨_,rfl⟩;rw[hMe] at c1 ⊢;have l1:lchk (Int.ofNat 0) (Int.ofNat M) (Int.ofNat M) (Int.ofNat l.length)=true:=qbt.2 ⟨Int.le_refl _,Int.natCast_nonneg _,Int.le_refl _,by show (M:Int)<=(l.length:Int);omega⟩;rw[l1,cond_true];have hL:(l.take M).length=M:=by rw[List.length_take,Nat.min_eq_left (by omega)]
   have hfl:∀i,((((l.take M).take i).flatMap qac).length)=64*min i M:=fun i=>by
    rw[qp5 _ fun s hs=>h3 s (List.mem_of_mem_take (List.mem_of_mem_take hs)),List.length_take,hL]
   refine(range0 (σ:=ByteArray) (R:=Rtz6) (T:=fun K p=>qn1 LF l K (fun q=>qf0 LF l LF q) p) (l.take M) (fun i s=>(Int.ofNat N,i,s)) (fun i s=>s=qaf (((l.take M).take i).flatMap qac)) (fun _ _ _=>some ((match S.changes (N+1) ((((l.take M).flatMap qac).drop 4).take N) (-1) with
     | some c=>(c,(M:Int),!((((l.take M).flatMap qac).drop (4+N)).all fun b=>decide (b=0)))
     | none=>([],(M:Int),true)),())) (by rw[hL];unfold LF;omega) (fun K s hs=>?_) (fun K i v rest s hs r hk=>?_) (S.lit []) rfl).trans rfl
   ·rw[hL,List.take_of_length_le (by rw[hL];exact Nat.le_refl _)] at hs;have hf:=hfl M;rw[Nat.min_self,List.take_of_length_le (by rw[hL];exact Nat.le_refl _)] at hf;have hrf:=qxt (l.take M);simp only[qn1,w4,qhl (N:=N+4) (by omega),hMe];rw[show lsub l (Int.ofNat 0) (Int.ofNat M)=l.take M from rfl,qce,cond_false,hs];generalize (l.take M).flatMap qac=f at hf hrf;have w4':IntKind.i64.wrap (Int.add (Int.ofNat 4) (Int.ofNat N))=Int.ofNat (4+N):=qa3 (n:=4+N) (by omega);have l2:lchk (Int.ofNat 4) (Int.ofNat (4+N)) (Int.ofNat f.length) (Int.ofNat f.length)=true:=qbt.2 ⟨by decide,by show (4:Int)<=((4+N:Nat):Int);omega,by show ((4+N:Nat):Int)<=((f.length:Nat):Int);omega,Int.le_refl _⟩;have hext:ByteArray.extract (qaf f) 4 (Int.toNat (Int.ofNat (4+N)))=qaf ((f.drop 4).take N):=by
     refine qee ?_;rw[qmc,qbf hrf,qbf (qd5 (qc0 hrf 4) N),List.extract_eq_take_drop];show (f.drop 4).take (4+N-4)=_;rw[Nat.add_sub_cancel_left]
    have hszN:((f.drop 4).take N).length=N:=by rw[List.length_take,List.length_drop,Nat.min_eq_left (by omega)]
    rw[w4',qa1,l2,cond_true,hext,qa1,Nat.ble_eq_true_of_le (by rw[hszN];omega),cond_true];simp only;rw[q1v l _ _ f hrf (by omega) (f.length-(4+N)) LF (4+N) _ (by omega) (by unfold LF;omega)];unfold S.chg;rw[qa1,hszN,qbf (qd5 (qc0 hrf 4) N)];cases S.changes (N+1) ((f.drop 4).take N) (-1)<;>rfl
   ·have hi:=r.lt;rw[hL] at hi;subst hs;have hfi:=hfl i;rw[Nat.min_eq_left (by omega)] at hfi;have hvs:=h3 v (List.mem_of_mem_take r.mem);simp only[qn1,w4,qhl (N:=N+4) (by omega),hMe];rw[show lsub l (Int.ofNat 0) (Int.ofNat M)=l.take M from rfl,r.ilt,cond_true,r.get];simp only;rw[qa1,hfi,hvs,qb4 (by show 64*i+64<_;omega),cond_true,r.next,zet,<- r.take];exact hk _ rfl
 ·have e0:ieqI b0 (Int.ofNat 1)=false:=qbg c0;rw[e0,Bool.not_false,cond_true,if_pos (.inl (show ¬(b0::b1::b2::b3::r).getD 0 0=1 from c0))];rfl
theorem z0m:Con Tryz.prog idz6 spz6:=mkz6 ⟨zsh,trivial⟩ fun x y hx h=>⟨LF,by
 obtain⟨h1,h2⟩:=qa8 (show cond (S.secs1 x.1) (some (S.readK x.1,())) none=some y from h);exact(z2v x.1 h1).trans (congrArg some h2)⟩
def recR(n:Int)(out:List qaa):Option (List qaa)->q09
 | some l=>(out++l,n,false,true)
 | none=>([],0,false,false)
theorem val2{a b:Int}(h:rng [a,b]):S.val (qaf [a,b])=a*256+b:=by
 unfold S.val;rw[qbf h];show 256*(256*0+a)+b=_;omega
theorem val3{a b c:Int}(h:rng [a,b,c]):S.val (qaf [a,b,c])=a*65536+b*256+c:=by
 unfold S.val;rw[qbf h];show 256*(256*(256*0+a)+b)+c=_;omega
theorem qv7{f:List Int}(hr:rng f)(a b:Nat):ByteArray.extract (qaf f) a b=qaf ((f.drop a).take (b-a)):=by
 refine qee ?_;rw[qmc,qbf hr,qbf (qd5 (qc0 hr a) _),List.extract_eq_take_drop]
theorem q0p(d:qab)(x2 x3:Int)(f:List Int)(n:Nat)(hr:rng f)(hn:n<=f.length)(hf:f.length<=1000000):∀(k F i:Nat) (last:Int) (out:List qaa),n-i<k->k<=F->i<=n->out.length+(n-i)<=3000000->qe7 LF d x2 x3 F (qaf f,Int.ofNat n,Int.ofNat i,last,out)=some (recR (Int.ofNat ((n+63) / 64)) out (S.changes k ((f.drop i).take (n-i)) last),())
 | 0,_,i,last,out,h1,h2,h3,h4=>by omega
 | k+1,0,i,last,out,h1,h2,h3,h4=>by omega
 | k+1,F+1,i,last,out,h1,h2,h3,h4=>by
  show qsz LF d x2 x3 (qe7 LF d x2 x3 F) _=_;simp only[qsz];rw[qa1,qbf hr,qa5];by_cases c0:i<n
  ·rw[decide_eq_true c0,cond_true,show IntKind.i64.wrap (Int.add (Int.ofNat i) (Int.ofNat 3))=Int.ofNat (i+3) from qa3 (n:=i+3) (by omega),show IntKind.i64.wrap (Int.add (Int.ofNat i) (Int.ofNat 1))=Int.ofNat (i+1) from qa3 (n:=i+1) (by omega),qa5];by_cases c1:n<i+3
   ·rw[decide_eq_true c1,cond_true];have hl:((f.drop i).take (n-i)).length=n-i:=by rw[List.length_take,List.length_drop,Nat.min_eq_left (by omega)]
    rcases hg:(f.drop i).take (n-i) with _|⟨a,_|⟨b,_|⟨c,r⟩⟩⟩
    ·rw[hg] at hl;simp only[List.length_nil] at hl;omega
    ·rfl
    ·rfl
    ·rw[hg] at hl;simp only[List.length_cons] at hl;omega
   ·rw[decide_eq_false c1,cond_false];have hl:(f.drop i).length=f.length-i:=List.length_drop;rcases hg:f.drop i with _|⟨ky,_|⟨a,_|⟨b,r⟩⟩⟩
    ·rw[hg] at hl;simp only[List.length_nil] at hl;omega
    ·rw[hg] at hl;simp only[List.length_cons,List.length_nil] at hl;omega
    ·rw[hg] at hl;simp only[List.length_cons,List.length_nil] at hl;omega
    have hrg:rng (ky::a::b::r):=hg▸qc0 hr i;have hd1:f.drop (i+1)=a::b::r:=by rw[<- List.drop_drop,hg];rfl
    have hd3:f.drop (i+3)=r:=by rw[<- List.drop_drop,hg];rfl
    have hr':rng r:=hd3▸qc0 hr _;have hk:=hrg ky (by simp);have ha:=hrg a (by simp);have hb:=hrg b (by simp);have hrl:r.length=f.length-(i+3):=by rw[<- hd3,List.length_drop]
    have hget:f[i]?=some ky:=by
     have:=List.getElem?_drop (xs:=f) (i:=i) (j:=0);rw[hg] at this;exact this.symm
    obtain⟨j,hj⟩:∃j,n-i=j+3:=⟨n-i-3,by omega⟩;have hspec:(ky::a::b::r).take (n-i)=ky::a::b::r.take j:=by rw[hj];rfl
    rw[hspec,qnh,qbr,hget];have l1:lchk (Int.ofNat (i+1)) (Int.ofNat (i+3)) (Int.ofNat f.length) (Int.ofNat f.length)=true:=qbt.2 ⟨Int.natCast_nonneg _,by show ((i+1:Nat):Int)<=((i+3:Nat):Int);omega,by show ((i+3:Nat):Int)<=(f.length:Int);omega,Int.le_refl _⟩;have hext:ByteArray.extract (qaf f) (Int.toNat (Int.ofNat (i+1))) (Int.toNat (Int.ofNat (i+3)))=qaf [a,b]:=by
     rw[show Int.toNat (Int.ofNat (i+1))=i+1 from rfl,show Int.toNat (Int.ofNat (i+3))=i+3 from rfl,qv7 hr,hd1,show i+3-(i+1)=2 by omega];rfl
    have hab:rng [a,b]:=fun x hx=>hrg x (by simp only[List.mem_cons,List.not_mem_nil,or_false] at hx;rcases hx with rfl|rfl<;>simp);have wk:IntKind.i64.wrap ky=ky:=wrap_in (by omega);simp only;rw[l1,cond_true,hext,qa1,show Nat.ble [a,b].length 3=true from rfl,cond_true,val2 hab];simp only;have hnn:0<=a*256+b/\a*256+b<65536:=by omega
    generalize a*256+b=nn at hnn;have hjl:(r.take j).length=j:=by rw[List.length_take,Nat.min_eq_left (by omega)]
    have hB:Nat.ble (Nat.mul (Nat.add out.length 1) 32) 140737488355328=true:=Nat.ble_eq_true_of_le (by show (out.length+1)*32<=_;omega);rw[hjl,wk,hB];simp only[qbs,cond_true];by_cases c5:nn=0
    ·rw[qbk (show nn=Int.ofNat 0 from c5),cond_true];by_cases c2:last<ky
     ·rw[decide_eq_true c2,Bool.not_true,cond_false];by_cases c3:199<ky
      ·rw[decide_eq_true (show Int.ofNat 199<ky from c3),cond_true,if_pos (.inl c3)];rfl
      ·rw[decide_eq_false (show ¬Int.ofNat 199<ky from c3),cond_false,if_neg (by omega),if_pos c5];rw[q0p d x2 x3 f n hr hn hf k F (i+3) ky _ (by omega) (by omega) (by omega) (by simp only[List.append_eq,List.length_append,List.length_cons,List.length_nil];omega),hd3,show n-(i+3)=j by omega,List.append_eq];cases S.changes k (r.take j) ky with
       | none=>rfl
       | some l=>show some ((out++[_]++l,_),())=some ((out++_::l,_),());rw[List.append_assoc];rfl
     ·rw[decide_eq_false c2,Bool.not_false,cond_true,if_pos (.inr (.inl (by omega)))];rfl
    ·rw[qbg (show ¬nn=Int.ofNat 0 from c5),cond_false];have e1:IntKind.i64.wrap (Int.sub nn (Int.ofNat 1))=nn-1:=wrap_in (by show -_<=nn-1/\nn-1<_;omega);have e2:IntKind.i64.wrap (Int.sub (IntKind.i64.wrap (Int.add (Int.ofNat (i+3)) nn)) (Int.ofNat 1))=Int.ofNat (i+3+(nn-1).toNat):=by
      rw[wrap_in (n:=Int.add (Int.ofNat (i+3)) nn) (by show -_<=((i+3:Nat):Int)+nn/\((i+3:Nat):Int)+nn<_;omega)];have:Int.sub (Int.add (Int.ofNat (i+3)) nn) (Int.ofNat 1)=Int.ofNat (i+3+(nn-1).toNat):=by
       show ((i+3:Nat):Int)+nn-1=((i+3+(nn-1).toNat:Nat):Int);omega
      rw[this];exact qa3 (by omega)
     have e3:IntKind.i64.wrap (Int.add (Int.ofNat (i+3)) (nn-1))=Int.ofNat (i+3+(nn-1).toNat):=by
      have:Int.add (Int.ofNat (i+3)) (nn-1)=Int.ofNat (i+3+(nn-1).toNat):=by
       show ((i+3:Nat):Int)+(nn-1)=((i+3+(nn-1).toNat:Nat):Int);omega
      rw[this];exact qa3 (by omega)
     simp only[e1,e2,e3];by_cases c4:4001<nn
     ·rw[decide_eq_true (show Int.ofNat 4000<nn-1 from by show (4000:Int)<_;omega),cond_true,if_pos (.inr (.inr (.inr c4)))];rfl
     rw[decide_eq_false (show ¬Int.ofNat 4000<nn-1 from by show ¬(4000:Int)<_;omega),cond_false];by_cases c6:(j:Int)+1<nn
     ·rw[decide_eq_true (show Int.ofNat n<Int.ofNat (i+3+(nn-1).toNat) from Int.ofNat_lt.2 (by omega)),cond_true,if_pos (.inr (.inr (.inl c6)))];rfl
     have l2:lchk (Int.ofNat (i+3)) (Int.ofNat (i+3+(nn-1).toNat)) (Int.ofNat f.length) (Int.ofNat f.length)=true:=qbt.2 ⟨Int.natCast_nonneg _,by show ((i+3:Nat):Int)<=((i+3+(nn-1).toNat:Nat):Int);omega,by show ((i+3+(nn-1).toNat:Nat):Int)<=(f.length:Int);omega,Int.le_refl _⟩;rw[decide_eq_false (show ¬Int.ofNat n<Int.ofNat (i+3+(nn-1).toNat) from fun h=>by have:=Int.ofNat_lt.1 h;omega),cond_false,l2,cond_true];by_cases c2:last<ky
     ·rw[decide_eq_true c2,Bool.not_true,cond_false];by_cases c3:199<ky
      ·rw[decide_eq_true (show Int.ofNat 199<ky from c3),cond_true,if_pos (.inl c3)];rfl
      ·rw[decide_eq_false (show ¬Int.ofNat 199<ky from c3),cond_false,if_neg (by omega),if_neg c5]
       rw[show Int.toNat (Int.ofNat (i+3))=i+3 from rfl,show Int.toNat (Int.ofNat (i+3+(nn-1).toNat))=i+3+(nn-1).toNat from rfl,qv7 hr,hd3,Nat.add_sub_cancel_left,
        q0p d x2 x3 f n hr hn hf k F (i+3+(nn-1).toNat) ky _ (by omega) (by omega) (by omega) (by simp only[List.append_eq,List.length_append,List.length_cons,List.length_nil];omega)]
       have hd:f.drop (i+3+(nn-1).toNat)=r.drop (nn-1).toNat:=by rw[<- List.drop_drop,hd3]
       rw[hd,List.take_take,Nat.min_eq_left (by omega),List.drop_take,show n-(i+3+(nn-1).toNat)=j-(nn-1).toNat by omega,List.append_eq];cases S.changes k ((r.drop (nn-1).toNat).take (j-(nn-1).toNat)) ky with
       | none=>rfl
       | some l=>show some ((out++[_]++l,_),())=some ((out++_::l,_),());rw[List.append_assoc];rfl
     ·rw[decide_eq_false c2,Bool.not_false,cond_true,if_pos (.inr (.inl (by omega)))];rfl
  ·rw[decide_eq_false c0,cond_false,show n-i=0 by omega,List.take_zero];have e:IntKind.i64.wrap (Int.tdiv (IntKind.i64.wrap (Int.sub (IntKind.i64.wrap (Int.add (Int.ofNat n) (Int.ofNat 64))) (Int.ofNat 1))) (Int.ofNat 64))=Int.ofNat ((n+63) / 64):=qhl (by omega);rw[e];show some ((out,_),())=some ((out++[],_),());rw[List.append_nil]
theorem q7s(d:qab)(x2 x3:Int)(f:List Int)(n:Nat)(hr:rng f)(hf:f.length<=1000000):∀(k F i:Nat),i+k=f.length->k<F->qfg LF d x2 x3 F (Int.ofNat n,qaf f,Int.ofNat i)=cond (qhc (f.drop i)) (qe7 LF d x2 x3 LF (qaf f,Int.ofNat n,Int.ofNat 4,Int.negSucc 0,[])) (some (([],0,false,false),()))
 | 0,F+1,i,hi,hF=>by
  show qid LF d x2 x3 (qfg LF d x2 x3 F) (fun q=>qe7 LF d x2 x3 LF q) _=_;simp only[qid];rw[qa1,qa5,decide_eq_false (by omega),cond_false,List.drop_eq_nil_of_le (by omega)];rfl
 | k+1,F+1,i,hi,hF=>by
  show qid LF d x2 x3 (qfg LF d x2 x3 F) (fun q=>qe7 LF d x2 x3 LF q) _=_;simp only[qid];have hlt:i<f.length:=by omega
  rw[qa1,qa5,decide_eq_true hlt,cond_true,qbf hr,qbr,List.getElem?_eq_getElem hlt,List.drop_eq_getElem_cons hlt,show IntKind.i64.wrap (Int.add (Int.ofNat i) (Int.ofNat 1))=Int.ofNat (i+1) from qa3 (n:=i+1) (by omega)];simp only;rw[q7s d x2 x3 f n hr hf k F (i+1) (by omega) (by omega),qdb];show _=cond (decide (f[i]=0)&&qhc (f.drop (i+1))) _ _;by_cases e:f[i]=0
  ·rw[decide_eq_true e,decide_eq_true (show f[i]=Int.ofNat 0 from e),Bool.not_true,cond_false,Bool.true_and]
  ·rw[decide_eq_false e,decide_eq_false (show ¬f[i]=Int.ofNat 0 from e),Bool.not_false,cond_true,Bool.false_and,cond_false];rfl
theorem ztf{d:qab}{a e:Int}(h:S.recG d a e=true):(d.1.length<=1000/\∀s∈d.1,s.size=64)/\(0<=a/\a<e)/\e<=d.1.length:=by
 unfold S.recG at h;rw[Bool.and_eq_true,Bool.and_eq_true,qa7,qa7] at h;exact⟨qj1 h.1,⟨h.2.1.1,by omega⟩,h.2.2.2⟩
theorem zmy(d:qab)(x2 x3:Int)(h:S.recG d x2 x3=true):Fz8 LF d x2 x3=some (S.recAt d x2 x3,()):=by
 obtain⟨⟨h1,h3⟩,⟨h4,h5⟩,h6⟩:=ztf h;obtain⟨a,rfl⟩:∃a:Nat,x2=Int.ofNat a:=⟨x2.toNat,by show x2=((x2.toNat:Nat):Int);omega⟩;obtain⟨e,rfl⟩:∃e:Nat,x3=Int.ofNat e:=⟨x3.toNat,by show x3=((x3.toNat:Nat):Int);omega⟩;have h5:a<e:=Int.ofNat_lt.1 h5;have h6:e<=d.1.length:=Int.ofNat_le.1 h6;have hmem:d.1.getD a S.none_∈d.1:=qfk (by omega);have hs:=h3 _ hmem;obtain⟨b0,b1,b2,b3,r,hb⟩:=qrv hs;have hrb:rng (b0::b1::b2::b3::r):=hb▸qde _;obtain⟨n1,n2⟩:=q96 hrb;have hM:S.recM (b0::b1::b2::b3::r)=(S.recN (b0::b1::b2::b3::r)+4+63) / 64:=rfl;have hj:jget d.1 (Int.ofNat a)=some (d.1.getD a S.none_):=qs1 (i:=Int.ofNat a) (d:=S.none_) h4 (by show (a:Int)<(d.1.length:Int);omega);have hl0:((d.1.take e).drop a).getD 0 S.none_=d.1.getD a S.none_:=by rw[q29,Nat.add_zero,q75 d.1 _ h5]
 have hll:((d.1.take e).drop a).length=e-a:=by rw[List.length_drop,List.length_take,Nat.min_eq_left h6]
 have hl3:∀s∈(d.1.take e).drop a,s.size=64:=fun s hs=>h3 s (List.mem_of_mem_take (List.mem_of_mem_drop hs));unfold S.recAt S.readR;simp only[Fz8,q3y,hj,show Int.toNat (Int.ofNat a)=a from rfl,show Int.toNat (Int.ofNat e)=e from rfl,hl0,hb,hll];rw[hM];have hext:ByteArray.extract (d.1.getD a S.none_) 1 4=qaf [b1,b2,b3]:=by
  rw[<- qe9 (d.1.getD a S.none_),hb,qv7 hrb];rfl
 have h123:rng [b1,b2,b3]:=fun x hx=>hrb x (by simp only[List.mem_cons,List.not_mem_nil,or_false] at hx;rcases hx with rfl|rfl|rfl<;>simp);have hsz:(d.1.getD a S.none_).size=(b0::b1::b2::b3::r).length:=by rw[<- qcr,hb]
 rw[hs] at hsz;generalize hNe:S.recN (b0::b1::b2::b3::r)=N at n1 n2;simp only[qbr,List.getElem?_cons_zero,hext,val3 h123,n1];by_cases c0:b0=0
 ·rw[qbk (show b0=Int.ofNat 0 from c0),cond_true,if_pos (show (b0::b1::b2::b3::r).getD 0 0=0 from c0)];rfl
 rw[qbg (show ¬b0=Int.ofNat 0 from c0),cond_false,if_neg (show ¬(b0::b1::b2::b3::r).getD 0 0=0 from c0)];by_cases c1:b0=1
 ·have l1:lchk (Int.ofNat 1) (Int.ofNat 4) (Int.ofNat (d.1.getD a S.none_).size) (Int.ofNat (d.1.getD a S.none_).size)=true:=by rw[hs];rfl
  rw[qbk (show b0=Int.ofNat 1 from c1),Bool.not_true,cond_false,l1,cond_true,qa1,show Nat.ble [b1,b2,b3].length 3=true from rfl,cond_true];simp only;have w4:IntKind.i64.wrap (Int.add (Int.ofNat 4) ((N:Nat):Int))=Int.ofNat (N+4):=by
   have:Int.add (Int.ofNat 4) ((N:Nat):Int)=Int.ofNat (N+4):=by
    show (4:Int)+(N:Int)=((N+4:Nat):Int);omega
   rw[this];exact qa3 (by omega)
  rw[w4,qhl (N:=N+4) (by omega)];obtain⟨M,hMe⟩:∃M,(N+4+63) / 64=M:=⟨_,rfl⟩;rw[hMe,show IntKind.i64.wrap (Int.add (Int.ofNat a) (Int.ofNat M))=Int.ofNat (a+M) from qa3 (n:=a+M) (by omega),qa5];by_cases c2:e-a<M
  ·rw[decide_eq_true (by omega),cond_true,if_pos (.inr c2)];rfl
  rw[decide_eq_false (by omega),cond_false,if_neg (show ¬(¬(b0::b1::b2::b3::r).getD 0 0=1\/e-a<M) from fun h=>h.elim (fun h=>h c1) c2)];have hL:(((d.1.take e).drop a).take M).length=M:=by rw[List.length_take,hll,Nat.min_eq_left (by omega)]
  have hLg:∀i,i<M->(((d.1.take e).drop a).take M)[i]?=d.1[a+i]?:=fun i hi=>by
   rw[List.getElem?_take,if_pos hi,List.getElem?_drop,List.getElem?_take,if_pos (by omega)]
  have hL3:∀s∈((d.1.take e).drop a).take M,s.size=64:=fun s hs=>hl3 s (List.mem_of_mem_take hs);generalize ((d.1.take e).drop a).take M=L at hL hLg hL3;have hfl:∀i,(((L.take i).flatMap qac).length)=64*min i M:=fun i=>by
   rw[qp5 _ fun s hs=>hL3 s (List.mem_of_mem_take hs),List.length_take,hL]
  refine(range0 (σ:=ByteArray) (R:=Rtz8) (T:=fun K p=>qlm LF d (Int.ofNat a) (Int.ofNat e) K (fun q=>qfg LF d (Int.ofNat a) (Int.ofNat e) LF q) p) L (fun i s=>(Int.ofNat (N+4),i,s)) (fun i s=>s=qaf ((L.take i).flatMap qac)) (fun _ _ _=>some ((match (match S.changes (N+1) (((L.flatMap qac).drop 4).take N) (-1) with
    | some c=>(bif qhc ((L.flatMap qac).drop (4+N)) then some (c,M) else none)
    | none=>none) with
   | some x=>(x.1,(x.2:Int),false,true)
   | none=>([],0,false,false)),())) (by rw[hL];unfold LF;omega) (fun K s hs=>?_) (fun K i v rest s hs q hk=>?_) (S.lit []) rfl).trans rfl
  ·rw[List.take_of_length_le (Nat.le_refl _)] at hs;have hf:=hfl M;rw[Nat.min_self,List.take_of_length_le (by rw[hL];exact Nat.le_refl _)] at hf;have hrf:=qxt L;simp only[qlm,qhl (N:=N+4) (by omega),hMe];rw[hL,qce,cond_false,hs];generalize L.flatMap qac=f at hf hrf
   rw[q7s d _ _ f (N+4) hrf (by omega) (f.length-(N+4)) LF (N+4) (by omega) (by unfold LF;omega),
    q0p d _ _ f (N+4) hrf (by omega) (by omega) (N+1) LF 4 (Int.negSucc 0) [] (by omega) (by unfold LF;omega) (by omega) (by rw[List.length_nil];omega),hMe,Nat.add_sub_cancel,Nat.add_comm N 4]
   show _=some ((match (match S.changes (N+1) ((f.drop 4).take N) (Int.negSucc 0) with
    | some c=>(bif qhc (f.drop (4+N)) then some (c,M) else none)
    | none=>none) with
   | some x=>(x.1,(x.2:Int),false,true)
   | none=>([],0,false,false)),())
   cases qhc (f.drop (4+N))<;>cases S.changes (N+1) ((f.drop 4).take N) (Int.negSucc 0)<;>rfl
  ·have hi:=q.lt;rw[hL] at hi;subst hs;have hfi:=hfl i;rw[Nat.min_eq_left (by omega)] at hfi;have hvs:=hL3 v q.mem;have hg:=q.get;rw[qbr,hLg i hi] at hg;simp only[qlm,qhl (N:=N+4) (by omega),hMe];rw[qa5,decide_eq_true hi,cond_true,show IntKind.i64.wrap (Int.add (Int.ofNat a) (Int.ofNat i))=Int.ofNat (a+i) from qa3 (n:=a+i) (by omega),qbr,hg];simp only;rw[qa1,hfi,hvs,qb4 (by show 64*i+64<_;omega),cond_true,q.next,zet,<- q.take];exact hk _ rfl
 ·rw[qbg (show ¬b0=Int.ofNat 1 from c1),Bool.not_false,cond_true,if_pos (.inl (show ¬(b0::b1::b2::b3::r).getD 0 0=1 from c1))];rfl
theorem z0h:Con Tryz.prog idz8 spz8:=mkz8 ⟨zif,trivial⟩ fun x y hx h=>⟨LF,by
 obtain⟨h1,h2⟩:=qa8 (show cond (S.recG x.1 x.2.1 x.2.2.1) (some (S.recAt x.1 x.2.1 x.2.2.1,())) none=some y from h);exact(zmy x.1 x.2.1 x.2.2.1 h1).trans (congrArg some h2)⟩
def qsf(d:qab)(h:Int):Option (List qaa × Nat)->q4o
 | some (c,u)=>if u=0 then (S.noJ,15) else ((d,h,(u:Int),c),0)
 | none=>(S.noJ,15)
theorem q1z(d:qab)(h:Int)(c:List qaa)(u:Nat):qsf d h (some (c,u))=if u=0 then (S.noJ,15) else ((d,h,(u:Int),c),0):=rfl
def qn2(L:List qaa):Bool:=L.any (·.2.2)
theorem q6b(d:qab)(K12:(Int × Int × Int × Int × List qaa)->Option qbv)(h toX:Int)(first at_:Nat)(L:List qaa)(m:Nat)(c:List qaa)(hm:S.mrg c L=true)(hat:at_+m<1000000)(hL:L.length<=1000000):∀(k F i:Nat),i+k=L.length->k<F ->
  qh4 LF d K12 F (h,toX,Int.ofNat first,L,(m:Int),false,true,Int.ofNat i,Int.ofNat at_,c)=cond (decide (at_=first)&&qn2 (L.drop i)) (some ((S.noJ,15),())) (K12 (Int.ofNat first,h,toX,Int.ofNat (at_+m),S.changed c L))
 | k,0,i,h1,h2=>by omega
 | k,F+1,i,h1,h2=>by
  show qo9 LF d (qh4 LF d K12 F) K12 _=_;simp only[qo9];rw[hm,show IntKind.i64.wrap (Int.add (Int.ofNat at_) ((m:Nat):Int))=Int.ofNat (at_+m) from qa3 (n:=at_+m) (by omega),qa5,qg9];simp only[cond_true];by_cases hi:i<L.length
  ·rw[decide_eq_true hi,cond_true];by_cases e:at_=first
   ·rw[decide_eq_true e,cond_true,qbr,List.getElem?_eq_getElem hi,List.drop_eq_getElem_cons hi];simp only;rw[show IntKind.i64.wrap (Int.add (Int.ofNat i) (Int.ofNat 1))=Int.ofNat (i+1) from qa3 (n:=i+1) (by omega),q6b d K12 h toX first at_ L m c hm hat hL (k-1) F (i+1) (by omega) (by omega),decide_eq_true e];show _=cond (true&&(L[i].2.2||qn2 (L.drop (i+1)))) _ _;cases L[i].2.2<;>rfl
   ·rw[decide_eq_false e,cond_false,Bool.false_and,cond_false]
  ·rw[decide_eq_false hi,cond_false,List.drop_eq_nil_of_le (by omega)];show _=cond (decide (at_=first)&&false) _ _;rw[Bool.and_false,cond_false]
theorem zt1(d:qab)(a e:Nat):S.recAt d (Int.ofNat a) (Int.ofNat e)=if (qac (d.1.getD a S.none_)).getD 0 0=0 then ([],0,true,true) else match S.readR ((d.1.take e).drop a) with
  | some x=>(x.1,(x.2:Int),false,true)
  | none=>([],0,false,false):=rfl
theorem za8(d:qab)(hl:d.1.length<=1000)(hs:szS d.1)(h:Int)(first toX:Nat)(hto:toX<=d.1.length)(hft:first<toX):∀(k F at_:Nat) (c:List qaa),toX-at_<k->k<=F->first<=at_->at_<=toX->okS c (-1) ->
  qiv LF d F (Int.ofNat first,h,Int.ofNat toX,Int.ofNat at_,c)=some (qsf d h (S.recs k ((d.1.take toX).drop at_) c (at_-first)),())
 | 0,_,at_,c,h1,h2,h3,h4,h5=>by omega
 | k+1,0,at_,c,h1,h2,h3,h4,h5=>by omega
 | k+1,F+1,at_,c,h1,h2,h3,h4,h5=>by
  show qr2 LF d (fun q=>qh4 LF d (qiv LF d F) LF q) _=_;simp only[qr2];have hw:IntKind.i64.wrap (Int.sub (Int.ofNat at_) (Int.ofNat first))=((at_-first:Nat):Int):=by
   have:Int.sub (Int.ofNat at_) (Int.ofNat first)=Int.ofNat (at_-first):=by
    show (at_:Int)-(first:Int)=((at_-first:Nat):Int);omega
   rw[this];exact qa3 (by omega)
  rw[qa5,hw];by_cases c0:at_<toX
  ·have hG:S.recG d (Int.ofNat at_) (Int.ofNat toX)=true:=by
    unfold S.recG S.secs;rw[Bool.and_eq_true,Bool.and_eq_true,Bool.and_eq_true,qa7,qa7,Bool.not_eq_true'];refine⟨⟨Nat.ble_eq_true_of_le hl,?_⟩,⟨Int.natCast_nonneg _,by show (at_:Int)<=(toX:Int)-1;omega⟩,Int.natCast_nonneg _,Int.ofNat_le.2 hto⟩;refine List.any_eq_false.2 fun s q=>?_;unfold S.short;rw[hs s q];decide
   have hlt:at_<(d.1.take toX).length:=by rw[List.length_take,Nat.min_eq_left hto];exact c0
   have hgd:(d.1.take toX)[at_]=d.1.getD at_ S.none_:=by
    rw[List.getElem_take,List.getD_eq_getElem?_getD,List.getElem?_eq_getElem (show at_<d.1.length by omega)];rfl
   rw[decide_eq_true c0,cond_true,show S.recG (d.1,d.2) (Int.ofNat at_) (Int.ofNat toX)=true from hG,cond_true];simp only;rw[show S.recAt (d.1,d.2) (Int.ofNat at_) (Int.ofNat toX)=S.recAt d (Int.ofNat at_) (Int.ofNat toX) from rfl,zt1,List.drop_eq_getElem_cons hlt,qey,hgd];by_cases c1:(qac (d.1.getD at_ S.none_)).getD 0 0=0
   ·rw[if_pos c1,if_pos c1];simp only[Bool.not_true,cond_false,cond_true];rw[qg9];by_cases e:at_=first
    ·rw[decide_eq_true e,cond_true,show at_-first=0 by omega];rfl
    ·rw[decide_eq_false e,cond_false];rw[q1z,if_neg (by omega)];rfl
   ·rw[if_neg c1,if_neg c1];have hsz:szS (d.1.getD at_ S.none_::(d.1.take toX).drop (at_+1)):=by
     rw[<- hgd,<- List.drop_eq_getElem_cons hlt];exact(hs.take toX).drop at_
    have hdr:d.1.getD at_ S.none_::(d.1.take toX).drop (at_+1)=(d.1.take toX).drop at_:=by rw[<- hgd,<- List.drop_eq_getElem_cons hlt]
    cases hx:S.readR (d.1.getD at_ S.none_::(d.1.take toX).drop (at_+1)) with
    | none=>rfl
    | some x =>
     obtain⟨i1,i2,i3,_,_,_⟩:=qr1 hsz hx;have hxl:=qqw i3;rw[hdr,List.length_drop,List.length_take,Nat.min_eq_left hto] at i2;simp only[Bool.not_true,cond_false];rw[q6b d _ h (Int.ofNat toX) first at_ x.1 x.2 c (zzd h5 i3) (by omega) (by omega) x.1.length LF 0 (by omega) (by unfold LF;omega),List.drop_zero];have e2:decide (at_-first=0)=decide (at_=first):=decide_eq_decide.2 (by omega);rw[e2];show cond (decide (at_=first)&&qn2 x.1) _ _=some (qsf d h (cond (decide (at_=first)&&qn2 x.1) none _),());cases decide (at_=first)&&qn2 x.1 with
     | true=>rfl
     | false =>
      rw[cond_false,cond_false,za8 d hl hs h first toX hto hft k F (at_+x.2) _ (by omega) (by omega) (by omega) (by omega) (q0l h5 i3),hdr,List.drop_drop,show at_+x.2-first=at_-first+x.2 by omega]
  ·rw[decide_eq_false c0,cond_false];have:(d.1.take toX).drop at_=[]:=List.drop_eq_nil_of_le (by rw[List.length_take,Nat.min_eq_left hto];omega);rw[this];show _=some (qsf d h (some (c,at_-first)),());rw[q1z,if_neg (by omega)];rfl
theorem qye:S.lit [0,0,0,0,0,0,0,0,0,0,0,0,0,0,0,0,0,0,0,0,0,0,0,0,0,0,0,0,0,0,0,0,0,0,0,0,0,0,0,0,0,0,0,0,0,0,0,0,0,0,0,0,0,0,0,0,0,0,0,0,0,0,0]=qaf (List.replicate 63 0):=by kernel_rfl
theorem zlx(d:qab):Fz10 LF d=some (S.open_ d,()):=by
 simp only[Fz10,qu4];unfold S.open_;show cond (ieqI (S.checkDisk d) (Int.ofNat 0)) _ _=_;by_cases h0:S.checkDisk d=0
 ·obtain⟨ok,h8,h2⟩:=qn5 h0;rw[qbk (show S.checkDisk d=Int.ofNat 0 from h0),cond_true,if_pos h0,qa5];by_cases h1:d.2.length=0
  ·rw[decide_eq_false (by omega),cond_false,if_pos h1];have hd2:d.2=[]:=List.length_eq_zero_iff.1 h1;have hs64:=ok.sz _ (qfk (i:=0) (show 0<d.1.length by omega));obtain⟨b0,b1,b2,b3,r,hb⟩:=qrv hs64;have hrb:rng (b0::b1::b2::b3::r):=hb▸qde _;have hb0:=hrb b0 (by simp);have hsz:(d.1.getD 0 S.none_).size=(b0::b1::b2::b3::r).length:=by rw[<- qcr,hb]
   have l1:lchk (Int.ofNat 1) (Int.ofNat (d.1.getD 0 S.none_).size) (Int.ofNat (d.1.getD 0 S.none_).size) (Int.ofNat (d.1.getD 0 S.none_).size)=true:=by rw[hs64];rfl
   have hext:ByteArray.extract (d.1.getD 0 S.none_) 1 (Int.toNat (Int.ofNat (d.1.getD 0 S.none_).size))=qaf (b1::b2::b3::r):=by
    show ByteArray.extract (d.1.getD 0 S.none_) 1 (d.1.getD 0 S.none_).size=_;rw[hsz,<- qe9 (d.1.getD 0 S.none_),hb];exact qjc hrb 1
   have hr1:rng (b1::b2::b3::r):=fun x hx=>hrb x (List.mem_cons_of_mem _ hx);rw[Bool.not_true,cond_false];simp only[qmp (d:=S.none_) (show 1<=d.1.length by omega),hb,qbr,List.getElem?_cons_zero,l1,hext,cond_true];rw[show S.inI (Int.ofNat 63) (Int.ofNat 0) (Int.ofNat 64)=true from rfl,cond_true];simp only[qye,q9o,qbf hr1,qbf (qfi 63)];unfold S.opened;rw[hb];simp only[List.getD_cons_zero];by_cases q1:1<b0
   ·rw[qd8 (show Int.ofNat 1<b0 from q1),cond_true,if_pos (.inl q1)];rfl
   rw[qd4 (show ¬Int.ofNat 1<b0 from q1),cond_false];by_cases q2:(b1::b2::b3::r)=List.replicate 63 0
   ·rw[decide_eq_true q2,Bool.not_true,cond_false,if_neg (fun hh=>hh.elim q1 (fun hh=>hh q2)),Nat.ble_eq_true_of_le ok.le];rw[show (true&&decide (Nat.mod d.1.length 2=0))=true from decide_eq_true h2,cond_true,wrap_in (n:=b0) (by omega)];simp only;obtain⟨a,e1,e2,e3,_,_⟩:=qix h2 h8 (h:=b0) (by omega);unfold S.halfS;rw[e1];simp only[Int.toNat_natCast];refine(za8 d ok.le ok.sz b0 a (a+(d.1.length / 2-1)) (by omega) (by omega) (d.1.length+1) LF a [] (by omega) (by have:=ok.le;unfold LF;omega) (Nat.le_refl _) (by omega) ⟨rfl,fun c hc=>by cases hc⟩).trans ?_;rw[Nat.sub_self];cases S.recs (d.1.length+1) ((d.1.take (a+(d.1.length / 2-1))).drop a) [] 0 with
    | none=>rfl
    | some x =>
     obtain⟨c,u⟩:=x;rw[q1z];simp only;by_cases hu:u=0
     ·rw[if_pos hu,if_pos hu]
     ·rw[if_neg hu,if_neg hu,<- hd2]
   ·rw[decide_eq_false q2,Bool.not_false,cond_true,if_pos (.inr q2)];rfl
  ·rw[decide_eq_true (by omega),cond_true,if_neg h1];rfl
 ·rw[qbg (show ¬S.checkDisk d=Int.ofNat 0 from h0),cond_false,if_neg h0];rw[Bool.not_false,cond_true];rfl
theorem zwf:Con Tryz.prog zzk q73:=zhi ⟨q90,q05,zjc,z0h,zof,trivial⟩ fun x y hx h=>⟨LF,(zlx x.1).trans h⟩
theorem zfo{d:qab}(h:S.checkDisk d=0):Dk d.1:=by
 obtain⟨ok,h8,h2⟩:=qn5 h;exact⟨ok.sz,h8,ok.le,h2⟩
theorem Jn.opened_{L:List ByteArray}{h:Int}{a u:Nat}{c:List qaa}(j:Jn L h a u c):S.open_ (L,[])=(((L,[]),h,(u:Int),c),0):=by
 unfold S.open_;rw[if_pos j.dk.check,if_pos (show (L,([]:List DPut)).2.length=0 from rfl)]
 show (match S.opened L with
  | some (h,u,c)=>(((L,([]:List DPut)),h,(u:Int),c),(0:Int))
  | none=>(S.noJ,15))=_
 rw[j.open_]
theorem zft{d:qab}(h:(S.open_ d).2=0):∃hf a u c,Jn d.1 hf a u c/\d.2=[]/\S.open_ d=(((d.1,[]),hf,(u:Int),c),0):=by
 unfold S.open_ at h ⊢;by_cases h0:S.checkDisk d=0
 ·rw[if_pos h0] at h ⊢;by_cases h1:d.2.length=0
  ·rw[if_pos h1] at h ⊢;cases ho:S.opened d.1 with
   | none=>rw[ho] at h;cases h
   | some x =>
    obtain⟨hf,u,c⟩:=x;obtain⟨a,j⟩:=zhg (zfo h0) ho;exact⟨hf,a,u,c,j,List.length_eq_zero_iff.1 h1,rfl⟩
  ·rw[if_neg h1] at h;cases h
 ·rw[if_neg h0] at h;exact absurd h h0
theorem qyd{j:qae}(h:S.right j=true):∃a u,Jn j.1.1 j.2.1 a u j.2.2.2/\j.1.2=[]/\j.2.2.1=((u:Nat):Int):=by
 unfold S.right at h;rw[Bool.and_eq_true] at h;obtain⟨hf,a,u,c,k,h1,h2⟩:=zft (of_decide_eq_true h.1);have h3:=of_decide_eq_true h.2;rw[h2] at h3;obtain⟨⟨l,q⟩,hh,uu,cc⟩:=j;cases h3;exact⟨a,u,k,rfl,rfl⟩
theorem Jn.right{L:List ByteArray}{h:Int}{a u:Nat}{c:List qaa}(j:Jn L h a u c):S.right ((L,[]),h,(u:Int),c)=true:=by
 unfold S.right;rw[Bool.and_eq_true];show decide ((S.open_ (L,[])).2=0)=true/\decide ((S.open_ (L,[])).1=_)=true;rw[j.opened_];exact⟨decide_eq_true rfl,decide_eq_true rfl⟩
theorem qla{l:List qaa}(h:S.okC l=true):S.pk l=true:=by
 unfold S.pk;rw[h,Nat.ble_eq_true_of_le (by have:=qqw h;omega)];rfl
theorem zvd(l:List qaa)(m m':Int):(S.packed l m).drop 1=(S.packed l m').drop 1:=by
 have e:∀x:Int,S.packed l x=qaf ((S.recB l x).take 64++List.replicate (64-(S.recB l x).length) 0)::S.chunks ((S.body l).length+3) ((S.recB l x).drop 64):=fun x=>qfu ((S.body l).length+3) (b:=S.recB l x) (by rw[qef];omega);rw[e m,e m'];rfl
theorem qv2(l:List qaa)(m:Int):S.packed l m=(S.packed l m).getD 0 S.none_::(S.packed l 1).drop 1:=by
 have hp:=qfo l m;rw[<- zvd l m 1];cases h:S.packed l m with
 | nil=>rw[h] at hp;cases hp
 | cons s r=>rfl
theorem qiq(l:List qaa)(m:Int):szS (S.packed l m):=q9l _ _
theorem q4p:S.blank.size=64:=by kernel_rfl
theorem q5o:(qac S.blank).getD 0 0=0:=by kernel_rfl
theorem zkx{L:List ByteArray}{a:Nat}{x y:ByteArray}{r:List ByteArray}(h:a+(r.length+1)<=L.length):over (over L a (x::r)) a [y]=over L a (y::r):=by
 have h':a+(x::r).length<=L.length:=h;have h1:=zbr h';have h2:=qsa h';show (over L a (x::r)).take a++([y]++(over L a (x::r)).drop (a+1))=L.take a++((y::r)++L.drop (a+(r.length+1)));rw[h1,<- List.drop_drop,h2];rfl
theorem z2i(X:List ByteArray)(t:ByteArray):∀{b:Nat},1<=b->(over X 0 [t]).drop b=X.drop b
 | 0,h=>by omega
 | b+1,_=>by
  show (t::X.drop (0+1)).drop (b+1)=_;rw[List.drop_succ_cons,List.drop_drop,show 0+1+b=b+1 by omega]
theorem Dk.over{L:List ByteArray}(d:Dk L){a:Nat}{ss:List ByteArray}(h:a+ss.length<=L.length)(hs:szS ss):Dk (over L a ss):=by
 refine⟨zvl d.sz hs,?_,?_,?_⟩<;>rw[qgb h]
 ·exact d.ge
 ·exact d.le
 ·exact d.ev
theorem zaa{L:List ByteArray}{a:Nat}{l:List qaa}{tail:List ByteArray}{r:List DAct}(ht:szS tail)(h:a+((S.packed l 1).length+tail.length)<=L.length)(hL:L.length<=1000) :
  S.doGo (S.puts (a:Int) (S.packed l 0++tail)++(S.sync::S.put (a:Int) ((S.packed l 1).getD 0 S.none_)::S.sync::r)) L []=S.doGo r (over L a (S.packed l 1++tail)) []:=by
 have e1:(S.packed l 0).length=(S.packed l 1).length:=by rw[qdv,qdv]
 have hp:=qfo l 1;have h':a+(S.packed l 0++tail).length<=L.length:=by rw[List.length_append,e1];exact h
 have hs:szS (S.packed l 0++tail):=fun s hs=>(List.mem_append.1 hs).elim (qiq l 0 s) (ht s);have hol:(over L a (S.packed l 0++tail)).length=L.length:=qgb h';rw[qxb _ _ _ _ _ hs h' (by rw[List.length_nil];omega),List.nil_append,qs3,ql4 _ _ _ h',q4j (qiq l 1 _ (qfk (by omega))) (by omega) (by rw[List.length_nil];omega),qs3];have:S.settled (over L a (S.packed l 0++tail)) ([]++[(((a:Nat):Int),(S.packed l 1).getD 0 S.none_)])=over L a (S.packed l 1++tail):=by
  refine(ql4 [(S.packed l 1).getD 0 S.none_] a _ (by rw[hol];simp only[List.length_cons,List.length_nil];omega)).trans ?_;have hlen:a+(((S.packed l 1).drop 1++tail).length+1)<=L.length:=by rw[List.length_append,List.length_drop];omega
  have s1:=qv2 l 1;rw[qv2 l 0,List.cons_append];refine(zkx hlen).trans (congrArg (over L a) ?_);rw[<- List.cons_append,<- s1]
 rw[this]
def qep(b:Bool):List ByteArray:=cond b [S.blank] []
theorem q9i(b:Bool):szS (qep b):=fun s h=>by
 cases b with
 | true=>rw[List.mem_singleton.1 h];exact q4p
 | false=>cases h
theorem zqz(l:List qaa)(a:Nat)(e:Int)(b:Bool):S.laid l (a:Int) e b=S.puts (a:Int) (S.packed l 0++qep (b&&decide ((a:Int)+(S.packed l 1).length<e)))++[S.sync,S.put (a:Int) ((S.packed l 1).getD 0 S.none_),S.sync]:=by
 have e1:(S.packed l 0).length=(S.packed l 1).length:=by rw[qdv,qdv]
 unfold S.laid;rw[q0g,e1,List.append_assoc];cases (b&&decide ((a:Int)+(S.packed l 1).length<e))<;>rfl
theorem zfc{j:qae}{l:List qaa}(h:¬S.roomOf j<(S.packed l 1).length):S.commit j l=some (S.laid l ((S.half j.1.1.length j.2.1).1+j.2.2.1) (S.half j.1.1.length j.2.1).2 true):=by
 unfold S.commit S.laid;rw[if_neg h,Bool.true_and,List.append_assoc]
theorem q5z{L:List ByteArray}{h:Int}{a u:Nat}{c:List qaa}(j:Jn L h a u c):S.roomOf ((L,[]),h,(u:Int),c)=((L.length / 2-1-u:Nat):Int):=by
 have:=j.le.1;unfold S.roomOf;show (S.half L.length h).2-(S.half L.length h).1-(u:Int)=_;rw[j.fr];show ((a+(L.length / 2-1):Nat):Int)-(a:Int)-(u:Int)=_;omega
def comL(L:List ByteArray)(a u:Nat)(l:List qaa):List ByteArray:=over L (a+u) (S.packed l 1++qep (decide (u+(S.packed l 1).length<L.length / 2-1)))
theorem zgo{L:List ByteArray}{h:Int}{a u:Nat}{c l:List qaa}(j:Jn L h a u c)(hl:S.okC l=true)(hr:u+(S.packed l 1).length<=L.length / 2-1) :
  S.commit ((L,[]),h,(u:Int),c) l=some (S.laid l ((a+u:Nat):Int) ((a+(L.length / 2-1):Nat):Int) true) /\
  S.doD (L,[]) (S.laid l ((a+u:Nat):Int) ((a+(L.length / 2-1):Nat):Int) true)=((comL L a u l,[]),0) /\
  Jn (comL L a u l) h a (u+(S.packed l 1).length) (S.changed c l)/\(comL L a u l).length=L.length:=by
 have hto:=j.to_;have hle:=j.dk.le;have hb:=qod (qla hl);have hd:decide (((a+u:Nat):Int)+(S.packed l 1).length<((a+(L.length / 2-1):Nat):Int))=decide (u+(S.packed l 1).length<L.length / 2-1):=decide_eq_decide.2 (by omega);have htl:(qep (decide (u+(S.packed l 1).length<L.length / 2-1))).length=if u+(S.packed l 1).length<L.length / 2-1 then 1 else 0:=by
  by_cases e:u+(S.packed l 1).length<L.length / 2-1
  ·rw[if_pos e,decide_eq_true e];rfl
  ·rw[if_neg e,decide_eq_false e];rfl
 have hfit:a+u+((S.packed l 1).length+(qep (decide (u+(S.packed l 1).length<L.length / 2-1))).length)<=L.length:=by
  rw[htl];split<;>omega
 have hfit':a+u+(S.packed l 1++qep (decide (u+(S.packed l 1).length<L.length / 2-1))).length<=L.length:=by rw[List.length_append];exact hfit
 have hsz:szS (S.packed l 1++qep (decide (u+(S.packed l 1).length<L.length / 2-1))):=fun s hs=>(List.mem_append.1 hs).elim (qiq l 1 s) (q9i _ s);refine⟨?_,?_,?_,qgb hfit'⟩
 ·rw[zfc (by rw[q5z j];omega)];show some (S.laid l ((S.half L.length h).1+(u:Int)) (S.half L.length h).2 true)=_;rw[j.fr];rfl
 ·unfold S.doD;rw[if_pos j.dk.check,zqz,Bool.true_and,hd];exact(zaa (r:=[]) (q9i _) hfit hle).trans (q5k _ _)
 ·refine j.more (j.dk.over hfit' hsz) (qgb hfit') (zbr hfit') hl (by omega) hr (rest:=qep (decide (u+(S.packed l 1).length<L.length / 2-1))++L.drop (a+u+(S.packed l 1++qep (decide (u+(S.packed l 1).length<L.length / 2-1))).length)) ?_ ?_
  ·show (over L (a+u) _).drop (a+u)=_;rw[qsa hfit',List.append_assoc]
  ·by_cases e:u+(S.packed l 1).length<L.length / 2-1
   ·right;rw[decide_eq_true e];exact q5o
   ·left;omega
theorem q99:∀{c:List qaa} {last:Int},okS c last->S.changed [] c=c
 | [],_,_=>rfl
 | x::c,last,h=>by
  have hx:=h.2 x (by simp);have h5:=(qbq.1 h.1).2.2.2.2;rw[zfk h.1,hx,cond_false,q99 (c:=c) ⟨h5,fun y hy=>h.2 y (by simp[hy])⟩]
theorem q71{j:qae}(h:¬(S.half j.1.1.length (1-j.2.1)).2-(S.half j.1.1.length (1-j.2.1)).1<(S.packed j.2.2.2 1).length):S.turn j=some (S.puts (S.half j.1.1.length (1-j.2.1)).1 (List.replicate ((S.half j.1.1.length (1-j.2.1)).2-(S.half j.1.1.length (1-j.2.1)).1).toNat S.blank)++[S.sync]++S.puts (S.half j.1.1.length (1-j.2.1)).1 (S.packed j.2.2.2 0) ++
  [S.sync,S.put (S.half j.1.1.length (1-j.2.1)).1 ((S.packed j.2.2.2 1).getD 0 S.none_),S.sync,S.put 0 (qaf ((1-j.2.1)::List.replicate 63 0)),S.sync]):=by
 unfold S.turn;rw[if_neg h]
def topS(h:Int):ByteArray:=qaf (h::List.replicate 63 0)
def turL(L:List ByteArray)(h:Int)(b:Nat)(c:List qaa):List ByteArray:=over (over (over L b (List.replicate (L.length / 2-1) S.blank)) b (S.packed c 1)) 0 [topS h]
def turA(L:List ByteArray)(h:Int)(b:Nat)(c:List qaa):List DAct:=S.puts (b:Int) (List.replicate (L.length / 2-1) S.blank)++[S.sync]++S.puts (b:Int) (S.packed c 0)++[S.sync,S.put (b:Int) ((S.packed c 1).getD 0 S.none_),S.sync,S.put 0 (topS h),S.sync]
theorem q9a{h:Int}:(topS h).size=64:=by
 unfold topS;rw[qa1,List.length_cons,List.length_replicate]
theorem zky{h:Int}(hh:h=0\/h=1):qac (topS h)=topB h:=qbf fun x hx=>by
 rcases List.mem_cons.1 hx with rfl|hx
 ·omega
 ·exact qfi 63 x hx
theorem zjb{L:List ByteArray}{h:Int}{a u:Nat}{c:List qaa}(j:Jn L h a u c)(hr:(S.packed c 1).length<=L.length / 2-1):∃b:Nat,S.half L.length (1-h)=((b:Int),((b+(L.length / 2-1):Nat):Int)) /\
  S.turn ((L,[]),h,(u:Int),c)=some (turA L (1-h) b c)/\S.doD (L,[]) (turA L (1-h) b c)=((turL L (1-h) b c,[]),0)/\Jn (turL L (1-h) b c) (1-h) b (S.packed c 1).length c/\(turL L (1-h) b c).length=L.length:=by
 have hh:=j.hh;have hle:=j.dk.le;have hge:=j.dk.ge;have hok:=j.le.2.1;have hb:=qod (qla hok.1);obtain⟨b,e1,e2,e3,_,_⟩:=qix j.dk.ev hge (h:=1-h) (by omega);have hK:(List.replicate (L.length / 2-1) S.blank).length=L.length / 2-1:=List.length_replicate;have hf1:b+(List.replicate (L.length / 2-1) S.blank).length<=L.length:=by rw[hK];omega
 have hs1:szS (List.replicate (L.length / 2-1) S.blank):=fun s hs=>by rw[(List.mem_replicate.1 hs).2];exact q4p
 have d1:=j.dk.over hf1 hs1;have l1:(over L b (List.replicate (L.length / 2-1) S.blank)).length=L.length:=qgb hf1;have hf2:b+(S.packed c 1).length<=(over L b (List.replicate (L.length / 2-1) S.blank)).length:=by rw[l1];omega
 have d2:=d1.over hf2 (qiq c 1);have l2:=(qgb hf2).trans l1;have hf3:0+[topS (1-h)].length<=(over (over L b (List.replicate (L.length / 2-1) S.blank)) b (S.packed c 1)).length:=by rw[l2];show 0+1<=_;omega
 have hs3:szS [topS (1-h)]:=fun s hs=>by rw[List.mem_singleton.1 hs];exact q9a
 have d3:=d2.over hf3 hs3;have l3:(turL L (1-h) b c).length=L.length:=(qgb hf3).trans l2;have hmem:(S.packed c 1).getD 0 S.none_∈S.packed c 1:=qfk (qfo c 1);refine⟨b,e1,?_,?_,?_,l3⟩
 ·rw[q71]
  ·show some (S.puts (S.half L.length (1-h)).1 (List.replicate ((S.half L.length (1-h)).2-(S.half L.length (1-h)).1).toNat S.blank)++[S.sync]++S.puts (S.half L.length (1-h)).1 (S.packed c 0)++_)=_;rw[e1];have:(((b+(L.length / 2-1):Nat):Int)-(b:Int)).toNat=L.length / 2-1:=by omega
   simp only[this];rfl
  ·show ¬(S.half L.length (1-h)).2-(S.half L.length (1-h)).1<_;rw[e1];show ¬((b+(L.length / 2-1):Nat):Int)-(b:Int)<((S.packed c 1).length:Int);omega
 ·unfold S.doD;rw[if_pos j.dk.check];show S.doGo (turA L (1-h) b c) L []=_;unfold turA;rw[List.append_assoc,List.append_assoc,qxb _ _ _ _ _ hs1 hf1 (by rw[List.length_nil,hK];omega),List.nil_append];show S.doGo (S.sync::_) _ _=_;rw[qs3,ql4 _ _ _ hf1];have:=zaa (L:=over L b (List.replicate (L.length / 2-1) S.blank)) (a:=b) (l:=c) (tail:=[]) (r:=[S.put ((0:Nat):Int) (topS (1-h)),S.sync]) (fun s hs=>by cases hs) (by rw[l1,List.length_nil];omega) (by rw[l1];exact hle);rw[List.append_nil,List.append_nil] at this;refine this.trans ?_;rw[q4j q9a (by rw[l2];omega) (by rw[List.length_nil];omega),qs3,q5k];refine congrArg (fun z=>((z,[]),0)) ?_;exact ql4 [topS (1-h)] 0 _ hf3
 ·have hh':1-h=0\/1-h=1:=by omega
  have htop:(turL L (1-h) b c).getD 0 S.none_=topS (1-h):=rfl;refine⟨d3,hh',by rw[htop];exact zky hh',by rw[l3];exact e1,e2,by rw[l3];exact e3,⟨2,?_⟩,qfo c 1⟩;rw[l3];have hdr:(turL L (1-h) b c).drop b=S.packed c 1++(over L b (List.replicate (L.length / 2-1) S.blank)).drop (b+(S.packed c 1).length):=by
   rw[<- qsa hf2];show (over _ 0 [topS (1-h)]).drop b=_;exact z2i _ _ e2
  rw[hdr,List.take_append,List.take_of_length_le hr,q68 1 c _ [] 0 hok.1 (by omega)];have hng:c.any (·.2.2)=false:=List.any_eq_false.2 fun x hx=>by rw[hok.2 x hx];decide
  rw[hng,Bool.and_false,cond_false,q99 hok,Nat.zero_add];have hrest:((over L b (List.replicate (L.length / 2-1) S.blank)).drop (b+(S.packed c 1).length)).take (L.length / 2-1-(S.packed c 1).length)=List.replicate (L.length / 2-1-(S.packed c 1).length) S.blank:=by
   rw[<- List.drop_drop,qsa hf1,List.drop_append_of_le_length (by rw[hK];exact hr),List.drop_replicate,List.take_append_of_le_length (by rw[List.length_replicate];exact Nat.le_refl _),List.take_of_length_le (by rw[List.length_replicate];exact Nat.le_refl _)]
  rw[hrest];cases L.length / 2-1-(S.packed c 1).length with
  | zero=>rfl
  | succ n=>rw[List.replicate_succ,qey,if_pos q5o]
theorem q8c(a b:qaa):(keqI a.1 b.1&&(keqS a.2.1 b.2.1&&(keqB a.2.2 b.2.2&&true)))=decide (a=b):=by
 obtain⟨a1,a2,a3⟩:=a;obtain⟨b1,b2,b3⟩:=b;rw[Bool.eq_iff_iff];simp[keqI,keqS,keqB]
theorem z3q(a b:DPut):(keqI a.1 b.1&&(keqS a.2 b.2&&true))=decide (a=b):=by
 obtain⟨a1,a2⟩:=a;obtain⟨b1,b2⟩:=b;rw[Bool.eq_iff_iff];simp[keqI,keqS]
theorem zz3(a b:DAct):(keqB a.1 b.1&&((keqI a.2.1 b.2.1&&(keqS a.2.2 b.2.2&&true))&&true))=decide (a=b):=by
 obtain⟨a1,a2,a3⟩:=a;obtain⟨b1,b2,b3⟩:=b;rw[Bool.eq_iff_iff];simp[keqI,keqS,keqB]
theorem ql1{α R:Type}[DecidableEq α]{T:(Int->Option R)->Int->Option R}(a b:List α)(hl:a.length=b.length)(ha:a.length<LF)(Y N:Option R)
  (h0:∀K,T K (Int.ofNat a.length)=Y)
  (h1:∀K i v w,iltI (Int.ofNat i) (Int.ofNat a.length)=true->jget a (Int.ofNat i)=some v->jget b (Int.ofNat i)=some w->IntKind.i64.wrap (Int.add (Int.ofNat i) (Int.ofNat 1))=Int.ofNat (i+1)->T K (Int.ofNat i)=cond (decide (v=w)) (K (Int.ofNat (i+1))) N) :
  qa2 T LF (Int.ofNat 0)=cond (decide (a=b)) Y N:=by
 refine(q14 (T:=T) a (fun rest i=>cond (decide (rest=b.drop i)) Y N) ha (fun K=>?_) (fun K i v rest r h=>?_)).trans ?_
 ·rw[h0,hl,List.drop_eq_nil_of_le (Nat.le_refl _)];rfl
 ·have hi:=r.lt;obtain⟨w,w1,w2⟩:∃w,b[i]?=some w/\b.drop i=w::b.drop (i+1):=⟨b[i],List.getElem?_eq_getElem (by omega),List.drop_eq_getElem_cons (by omega)⟩;rw[h1 K i v w r.ilt r.get (by rw[qbr];exact w1) r.next,h,w2];by_cases e:v=w
  ·rw[decide_eq_true e,cond_true];have:decide (rest=b.drop (i+1))=decide (v::rest=w::b.drop (i+1)):=decide_eq_decide.2 (by rw[e];simp);rw[this]
  ·rw[decide_eq_false e,cond_false,decide_eq_false (fun h=>e (List.cons.inj h).1),cond_false]
 ·rfl
theorem zn9(a b:List qaa)(ha:a.length<LF):Fz52 LF a b=some (S.sameC a b,()):=by
 simp only[Fz52,qwg];unfold S.sameC;by_cases e:a.length=b.length
 ·rw[qbk (show Int.ofNat a.length=Int.ofNat b.length from congrArg Int.ofNat e),Bool.not_true,cond_false];refine(ql1 a b e ha (some (true,())) (some (false,())) (fun K=>?_) (fun K i v w h1 h2 h3 h4=>?_)).trans ?_
  ·simp only[qr0,qce,cond_false]
  ·simp only[qr0,h1,h2,h3,h4,cond_true,q8c];cases decide (v=w)<;>rfl
  ·cases decide (a=b)<;>rfl
 ·rw[qbg (show ¬Int.ofNat a.length=Int.ofNat b.length from fun h=>e (Int.ofNat.inj h)),Bool.not_false,cond_true,decide_eq_false (fun h=>e (congrArg List.length h))]
theorem zk1:Con Tryz.prog z24 zaw:=z1b trivial fun x y hx h=>⟨LF,(zn9 x.1 x.2.1 (qct (c:=qad) hx.1)).trans h⟩
theorem z2y(a b:List DAct)(ha:a.length<LF):Fz55 LF a b=some (S.sameA a b,()):=by
 simp only[Fz55,qt2];unfold S.sameA;by_cases e:a.length=b.length
 ·rw[qbk (show Int.ofNat a.length=Int.ofNat b.length from congrArg Int.ofNat e),Bool.not_true,cond_false];refine(ql1 a b e ha (some (true,())) (some (false,())) (fun K=>?_) (fun K i v w h1 h2 h3 h4=>?_)).trans ?_
  ·simp only[qss,qce,cond_false]
  ·simp only[qss,h1,h2,h3,h4,cond_true,zz3];cases decide (v=w)<;>rfl
  ·cases decide (a=b)<;>rfl
 ·rw[qbg (show ¬Int.ofNat a.length=Int.ofNat b.length from fun h=>e (Int.ofNat.inj h)),Bool.not_false,cond_true,decide_eq_false (fun h=>e (congrArg List.length h))]
theorem zwl:Con Tryz.prog zw0 q8d:=zvy trivial fun x y hx h=>⟨LF,(z2y x.1 x.2.1 (qct (c:=cAct) hx.1)).trans h⟩
theorem zht(a b:qab)(ha:a.1.length<LF)(ha2:a.2.length<LF):Fz53 LF a b=some (S.sameD a b,()):=by
 simp only[Fz53,q1q];unfold S.sameD;by_cases e:a.1.length=b.1.length
 ·rw[qbk (show Int.ofNat a.1.length=Int.ofNat b.1.length from congrArg Int.ofNat e),Bool.not_true,cond_false];by_cases e2:a.2.length=b.2.length
  ·rw[qbk (show Int.ofNat a.2.length=Int.ofNat b.2.length from congrArg Int.ofNat e2),Bool.not_true,cond_false];have g9:qlz LF a b LF (Int.ofNat 0)=cond (decide (a.2=b.2)) (some (true,())) (some (false,())):=by
    refine ql1 a.2 b.2 e2 ha2 (some (true,())) (some (false,())) (fun K=>?_) (fun K i v w h1 h2 h3 h4=>?_)
    ·simp only[qqk,qce,cond_false]
    ·simp only[qqk,h1,h2,h3,h4,cond_true,z3q];cases decide (v=w)<;>rfl
   refine(ql1 a.1 b.1 e ha (cond (decide (a.2=b.2)) (some (true,())) (some (false,()))) (some (false,())) (fun K=>?_) (fun K i v w h1 h2 h3 h4=>?_)).trans ?_
   ·simp only[qsy,qce,cond_false,g9]
   ·simp only[qsy,h1,h2,h3,h4,cond_true,keqS];cases decide (v=w)<;>rfl
   ·have:decide (a=b)=(decide (a.1=b.1)&&decide (a.2=b.2)):=by
     rw[Bool.eq_iff_iff];obtain⟨a1,a2⟩:=a;obtain⟨b1,b2⟩:=b;simp
    rw[this];cases decide (a.1=b.1)<;>cases decide (a.2=b.2)<;>rfl
  ·rw[qbg (show ¬Int.ofNat a.2.length=Int.ofNat b.2.length from fun h=>e2 (Int.ofNat.inj h)),Bool.not_false,cond_true,decide_eq_false (fun h=>e2 (congrArg (fun z:qab=>z.2.length) h))]
 ·rw[qbg (show ¬Int.ofNat a.1.length=Int.ofNat b.1.length from fun h=>e (Int.ofNat.inj h)),Bool.not_false,cond_true,decide_eq_false (fun h=>e (congrArg (fun z:qab=>z.1.length) h))]
theorem zvi:Con Tryz.prog zsn q7a:=zw7 trivial fun x y hx h=>⟨LF,(zht x.1 x.2.1 (qct (c:=.str) hx.1.1) (qct (c:=cPut) hx.1.2)).trans h⟩
theorem zqr(lf:Nat)(a b:qae):Fz54 lf a b=some (S.sameJ a b,()):=by
 simp only[Fz54,qtd,qdb];obtain⟨d,h,u,c⟩:=a;obtain⟨d',h',u',c'⟩:=b;show cond (decide (h=h')) (cond (decide (u=u')) (cond (decide (d=d')) (some (decide (c=c'),())) _) _) _=some (decide ((d,h,u,c)=(d',h',u',c')),());by_cases e1:h=h'
 ·by_cases e2:u=u'
  ·by_cases e3:d=d'
   ·subst e1 e2 e3;rw[decide_eq_true rfl,decide_eq_true rfl,decide_eq_true rfl];have:decide (c=c')=decide ((d,h,u,c)=(d,h,u,c')):=decide_eq_decide.2 (by simp);rw[<- this];rfl
   ·rw[decide_eq_false e3,decide_eq_true e1,decide_eq_true e2,decide_eq_false (fun q=>e3 (congrArg (fun z:qae=>z.1) q))];rfl
  ·rw[decide_eq_false e2,decide_eq_true e1,decide_eq_false (fun q=>e2 (congrArg (fun z:qae=>z.2.2.1) q))];rfl
 ·rw[decide_eq_false e1,decide_eq_false (fun q=>e1 (congrArg (fun z:qae=>z.2.1) q))];rfl
theorem zm6:Con Tryz.prog zvq zc8:=zxg ⟨zvi,zk1,trivial⟩ fun x y hx h=>⟨0,(zqr 0 x.1 x.2.1).trans h⟩
def qcs(l:List qaa)(i:Nat):Int:=if i=0 then -1 else ((l.getD (i-1) (0,S.none_,false)).1)
theorem ze3{R:Type}{l:List qaa}{i:Nat}{k:Int}(hk:0<=k)(hi:i<=l.length)(hl:l.length<1000000)(N T:Option R) :
  cond (iltI (Int.ofNat 0) (Int.ofNat i)) (match jget l (IntKind.i64.wrap (Int.sub (Int.ofNat i) (Int.ofNat 1))) with
   | none=>none
   | some v=>cond (!iltI v.1 k) N T) T=cond (decide (qcs l i<k)) T N:=by
 unfold qcs;cases i with
 | zero =>
  rw[if_pos rfl,decide_eq_true (show (-1:Int)<k by omega)];rfl
 | succ i =>
  rw[if_neg (by omega),qa5,decide_eq_true (by omega),cond_true];have e:IntKind.i64.wrap (Int.sub (Int.ofNat (i+1)) (Int.ofNat 1))=Int.ofNat i:=by
   have:Int.sub (Int.ofNat (i+1)) (Int.ofNat 1)=Int.ofNat i:=by
    show ((i+1:Nat):Int)-1=(i:Int);omega
   rw[this];exact qa3 (by omega)
  rw[e,qs1 (i:=Int.ofNat i) (d:=(0,S.none_,false)) (Int.natCast_nonneg _) (by show (i:Int)<(l.length:Int);omega)];show cond (!iltI (l.getD i (0,S.none_,false)).1 k) N T=cond (decide ((l.getD i (0,S.none_,false)).1<k)) T N;rw[qbs];cases decide ((l.getD i (0,S.none_,false)).1<k)<;>rfl
theorem zx3{l:List qaa}{i:Nat}{v:qaa}(h:l[i]?=some v):qcs l (i+1)=v.1:=by
 unfold qcs;rw[if_neg (by omega),List.getD_eq_getElem?_getD,Nat.add_sub_cancel,h];rfl
theorem zzn(s:ByteArray):keqS s (S.lit [])=decide (s.size=0):=by
 unfold keqS;exact decide_eq_decide.2 q6d.symm
theorem qxo{j:qae}(h:S.smallJ j=true):j.1.1.length<=1000/\j.1.1.length % 2=0/\-1000<=j.2.2.1/\j.2.2.1<=1000:=by
 unfold S.smallJ at h;rw[Bool.and_eq_true,Bool.and_eq_true,qa7] at h;exact⟨Nat.le_of_ble_eq_true h.1,of_decide_eq_true h.2.1,h.2.2.1,h.2.2.2⟩
structure RJ (j:qae) (a u:Nat):Prop where
 jn:Jn j.1.1 j.2.1 a u j.2.2.2
 eq:j=((j.1.1,[]),j.2.1,(u:Int),j.2.2.2)
 small:S.smallJ j=true
 room:S.roomR j=((j.1.1.length / 2-1-u:Nat):Int)
 room2:S.roomOf j=((j.1.1.length / 2-1-u:Nat):Int)
 halfG:(Nat.ble j.1.1.length 1000&&decide (j.1.1.length % 2=0))=true
 used:j.2.2.1=(u:Int)
theorem qim{j:qae}(h:S.right j=true):∃a u,RJ j a u:=by
 obtain⟨a,u,jn,h1,h2⟩:=qyd h;have hle:=jn.dk.le;have hge:=jn.dk.ge;have hev:=jn.dk.ev;have hu:=jn.le.1;refine⟨a,u,jn,?_,?_,?_,?_,?_,h2⟩
 ·obtain⟨⟨l,q⟩,hh,uu,cc⟩:=j;simp only at h1 h2;rw[h1,h2]
 ·unfold S.smallJ;rw[Nat.ble_eq_true_of_le hle,decide_eq_true hev,Bool.true_and,Bool.true_and,qa7,h2];omega
 ·unfold S.roomR;rw[h2];omega
 ·have:=q5z jn;obtain⟨⟨l,q⟩,hh,uu,cc⟩:=j;simp only at h1 h2;subst h1 h2;exact this
 ·rw[Nat.ble_eq_true_of_le hle,decide_eq_true hev];rfl
theorem zd5{l:List qaa}(h:(S.size l).2=0):S.okC l=true/\(S.size l).1=((S.packed l 1).length:Int)/\1<=l.length:=by
 unfold S.size at h ⊢;by_cases h1:60<l.length
 ·rw[if_pos h1] at h;cases h
 rw[if_neg h1] at h ⊢;by_cases h2:l.length=0
 ·rw[if_pos h2] at h;cases h
 rw[if_neg h2] at h ⊢;cases hc:S.okC l with
 | false=>rw[hc] at h;cases h
 | true=>exact⟨rfl,rfl,by omega⟩
theorem za4{j:qae}{l:List qaa}(h:S.roomOf j<(S.packed l 1).length):S.commit j l=none:=by
 unfold S.commit;rw[if_pos h]
theorem zen{j:qae}(h:(S.half j.1.1.length (1-j.2.1)).2-(S.half j.1.1.length (1-j.2.1)).1<(S.packed j.2.2.2 1).length):S.turn j=none:=by
 unfold S.turn;rw[if_pos h]
theorem ztp:S.lit [0,0,0,0,0,0,0,0,0,0,0,0,0,0,0,0,0,0,0,0,0,0,0,0,0,0,0,0,0,0,0,0,0,0,0,0,0,0,0,0,0,0,0,0,0,0,0,0,0,0,0,0,0,0,0,0,0,0,0,0,0,0,0]=qaf (List.replicate 63 0):=qye
theorem zzr{j:qae}{a u:Nat}(r:RJ j a u)(h1:S.right j=true):(S.turn j=none/\S.turnJ j=(S.noJ,14)/\S.planTurn j=([],14)/\j.1.1.length / 2-1<(S.packed j.2.2.2 1).length) \/
  ∃b:Nat,S.half j.1.1.length (1-j.2.1)=((b:Int),((b+(j.1.1.length / 2-1):Nat):Int))/\S.turn j=some (turA j.1.1 (1-j.2.1) b j.2.2.2)/\S.planTurn j=(turA j.1.1 (1-j.2.1) b j.2.2.2,0)/\S.doD j.1 (turA j.1.1 (1-j.2.1) b j.2.2.2)=((turL j.1.1 (1-j.2.1) b j.2.2.2,[]),0) /\
   S.turnJ j=(((turL j.1.1 (1-j.2.1) b j.2.2.2,[]),1-j.2.1,((S.packed j.2.2.2 1).length:Int),j.2.2.2),0)/\Jn (turL j.1.1 (1-j.2.1) b j.2.2.2) (1-j.2.1) b (S.packed j.2.2.2 1).length j.2.2.2:=by
 by_cases h3:j.1.1.length / 2-1<(S.packed j.2.2.2 1).length
 ·left;have hh:=r.jn.hh;obtain⟨b,e1,e2,e3,_,_⟩:=qix r.jn.dk.ev r.jn.dk.ge (h:=1-j.2.1) (by omega);have hn:S.turn j=none:=zen (by rw[e1];show ((b+(j.1.1.length / 2-1):Nat):Int)-(b:Int)<_;omega);have hp:S.planTurn j=([],14):=by
   unfold S.planTurn;rw[if_pos h1,hn]
  refine⟨hn,?_,hp,h3⟩;unfold S.turnJ;rw[hp];rfl
 ·right;obtain⟨b,f1,f2,f3,f4,f5⟩:=zjb r.jn (by omega);rw[<- r.eq] at f2;have hq:j.1=(j.1.1,[]):=congrArg (·.1) r.eq;rw[<- hq] at f3;have hp:S.planTurn j=(turA j.1.1 (1-j.2.1) b j.2.2.2,0):=by
   unfold S.planTurn;rw[if_pos h1,f2]
  refine⟨b,f1,f2,hp,f3,?_,f4⟩;unfold S.turnJ;rw[hp];show S.open_ (S.doD j.1 (turA j.1.1 (1-j.2.1) b j.2.2.2)).1=_;rw[f3];exact f4.opened_
theorem zig{j:qae}{a u:Nat}(r:RJ j a u){l:List qaa}(hl:S.okC l=true):(S.commit j l=none/\j.1.1.length / 2-1<u+(S.packed l 1).length) \/
  ∃A,S.commit j l=some A/\A=S.laid l ((a+u:Nat):Int) ((a+(j.1.1.length / 2-1):Nat):Int) true/\u+(S.packed l 1).length<=j.1.1.length / 2-1/\S.doD j.1 A=((comL j.1.1 a u l,[]),0) /\
   S.behind j A=(((comL j.1.1 a u l,[]),j.2.1,((u+(S.packed l 1).length:Nat):Int),S.changed j.2.2.2 l),0)/\Jn (comL j.1.1 a u l) j.2.1 a (u+(S.packed l 1).length) (S.changed j.2.2.2 l):=by
 have hu:=r.jn.le.1;by_cases h3:j.1.1.length / 2-1<u+(S.packed l 1).length
 ·exact .inl ⟨za4 (by rw[r.room2];omega),h3⟩
 ·right;obtain⟨c1,c2,c3,_⟩:=zgo r.jn hl (by omega);rw[<- r.eq] at c1;have hq:j.1=(j.1.1,[]):=congrArg (·.1) r.eq;rw[<- hq] at c2;refine⟨_,c1,rfl,by omega,c2,?_,c3⟩;unfold S.behind;rw[c2];exact c3.opened_
theorem zxm(lf:Nat)(j:qae)(h:S.smallJ j=true):Fz39 lf j=some (S.roomOf j,()):=by
 obtain⟨h1,h2,h3,h4⟩:=qxo h;simp only[Fz39,qts];rw[show S.inI (Int.ofNat j.1.1.length) (Int.ofNat 0) (Int.ofNat 1000)=true from qa7.2 ⟨Int.natCast_nonneg _,by show (j.1.1.length:Int)<=1000;omega⟩,cond_true];simp only;unfold S.roomOf;show some (IntKind.i64.wrap (Int.sub (IntKind.i64.wrap ((S.half j.1.1.length j.2.1).2-(S.half j.1.1.length j.2.1).1)) j.2.2.1),())=_;have hb:-1000<=(S.half j.1.1.length j.2.1).2-(S.half j.1.1.length j.2.1).1/\(S.half j.1.1.length j.2.1).2-(S.half j.1.1.length j.2.1).1<=1000:=by
  unfold S.half;split
  ·show -1000<=((j.1.1.length / 2:Nat):Int)-1/\((j.1.1.length / 2:Nat):Int)-1<=1000;omega
  ·show -1000<=(j.1.1.length:Int)-1-((j.1.1.length / 2:Nat):Int)/\(j.1.1.length:Int)-1-((j.1.1.length / 2:Nat):Int)<=1000;omega
 rw[wrap_in (n:=(S.half j.1.1.length j.2.1).2-(S.half j.1.1.length j.2.1).1) (by omega)];refine congrArg (fun z=>some (z,())) (wrap_in ?_);show -_<=(S.half j.1.1.length j.2.1).2-(S.half j.1.1.length j.2.1).1-j.2.2.1/\(S.half j.1.1.length j.2.1).2-(S.half j.1.1.length j.2.1).1-j.2.2.1<_;omega
theorem zbv:Con Tryz.prog zm9 qvr:=zql ⟨qrh,trivial⟩ fun x y hx h=>⟨0,by
 obtain⟨h1,h2⟩:=qa8 (show cond (S.smallJ x.1) (some (S.roomOf x.1,())) none=some y from h);exact(zxm 0 x.1 h1).trans (congrArg some h2)⟩
theorem z2e(l:List qaa):Fz40 LF l=some ((S.size l).1,(S.size l).2,()):=by
 simp only[Fz40,q2r];unfold S.size;rw[qa5,qg9];by_cases h1:60<l.length
 ·rw[decide_eq_true h1,cond_true,if_pos h1];rfl
 rw[decide_eq_false h1,cond_false,if_neg h1];by_cases h2:l.length=0
 ·rw[decide_eq_true h2,cond_true,if_pos h2];rfl
 rw[decide_eq_false h2,cond_false,if_neg h2];have hfin:∀b:Bool,b=S.okC l->(cond b (some (((S.packed l 1).length:Int),(0:Int),())) (some ((0:Int),(1:Int),())))=some ((cond (S.okC l) (((S.packed l 1).length:Int),(0:Int)) ((0:Int),(1:Int))).1,(cond (S.okC l) (((S.packed l 1).length:Int),(0:Int)) ((0:Int),(1:Int))).2,()):=fun b hb=>by
  subst hb;cases S.okC l<;>rfl
 refine(range0 (σ:=Unit) (R:=qcx) (T:=fun K p=>qlx LF l K p) l (fun i _=>i) (fun i _=>S.okGo (l.drop i) (qcs l i)=S.okC l\/S.okC l=S.okGo (l.drop i) (qcs l i)) (fun rest i _=>cond (S.okGo rest (qcs l i)) (some (((S.packed l 1).length:Int),(0:Int),())) (some ((0:Int),(1:Int),()))) (by unfold LF;omega) (fun K s hs=>?_) (fun K i v rest s hs r hk=>?_) () (.inl rfl)).trans (hfin _ rfl)
 ·rw[List.drop_eq_nil_of_le (Nat.le_refl _)] at hs;have hok:S.okC l=true:=hs.elim (fun h=>h.symm) id;simp only[qlx,qce,cond_false];rw[qla hok,cond_true];rfl
 ·have hd:=r.drop;have hi:=r.lt;have hgi:l[i]?=some v:=by
   have:=r.get
   rwa [qbr] at this
  have hst:S.okGo (v::rest) (qcs l i)=(S.inI v.1 0 199&&(decide (v.2.1.size<=4000)&&(!(v.2.2&&!decide (v.2.1.size=0))&&(decide (qcs l i<v.1)&&S.okGo rest v.1)))):=rfl;have hs':S.okC l=S.okGo (v::rest) (qcs l i):=by rw[hd] at hs;exact hs.elim (fun h=>h.symm) id
  have hnext:qcs l (i+1)=v.1:=zx3 hgi;rw[hnext] at hk;simp only[qlx,r.ilt,r.get,r.next,cond_true];rw[hst];by_cases c1:S.inI v.1 0 199=true
  ·rw[show S.inI v.1 (Int.ofNat 0) (Int.ofNat 199)=true from c1,Bool.not_true,cond_false,c1,Bool.true_and,qa5];by_cases c2:v.2.1.size<=4000
   ·rw[decide_eq_false (show ¬4000<v.2.1.size by omega),cond_false,decide_eq_true c2,Bool.true_and,zzn];have hv0:0<=v.1:=(qa7.1 c1).1;have hfinal:cond (decide (qcs l i<v.1)) (K (Int.ofNat (i+1))) (some (Int.ofNat 0,Int.ofNat 1,()))=cond (decide (qcs l i<v.1)&&S.okGo rest v.1) (some (((S.packed l 1).length:Int),(0:Int),())) (some ((0:Int),(1:Int),()))\/¬(v.2.2&&!decide (v.2.1.size=0))=false:=by
     by_cases cg:(v.2.2&&!decide (v.2.1.size=0))=false
     ·left;by_cases c4:qcs l i<v.1
      ·rw[decide_eq_true c4,cond_true,Bool.true_and];refine hk () ?_;rw[r.tail];left;rw[hs',hst,c1,decide_eq_true c2,cg,decide_eq_true c4];rfl
      ·rw[decide_eq_false c4,cond_false,Bool.false_and,cond_false];rfl
     ·exact .inr cg
    cases hg:v.2.2 with
    | true =>
     rw[cond_true,Bool.true_and];by_cases c3:v.2.1.size=0
     ·rw[decide_eq_true c3,Bool.not_true,cond_false,Bool.not_false,Bool.true_and];refine(ze3 (l:=l) hv0 (by omega) (by omega) _ _).trans ?_;refine hfinal.resolve_right ?_;rw[decide_eq_true c3,Bool.not_true,Bool.and_false];decide
     ·rw[decide_eq_false c3,Bool.not_false,cond_true,Bool.not_true,Bool.false_and,cond_false];rfl
    | false =>
     rw[cond_false,Bool.false_and,Bool.not_false,Bool.true_and];refine(ze3 (l:=l) hv0 (by omega) (by omega) _ _).trans ?_;refine hfinal.resolve_right ?_;rw[hg,Bool.false_and];decide
   ·rw[decide_eq_true (show 4000<v.2.1.size by omega),cond_true,decide_eq_false c2,Bool.false_and,cond_false];rfl
  ·have c1:=Bool.eq_false_iff.2 c1;rw[show S.inI v.1 (Int.ofNat 0) (Int.ofNat 199)=false from c1,Bool.not_false,cond_true,c1,Bool.false_and,cond_false];rfl
theorem zar:Con Tryz.prog zoz qwk:=zp6 ⟨qnu,qqr,trivial⟩ fun x y hx h=>⟨LF,(z2e x.1).trans h⟩
theorem qx9{j:qae}(h:S.right j=true):S.errR j=0:=by unfold S.errR;rw[if_pos h]
theorem qev{j:qae}(h:¬S.right j=true):S.errR j=1:=by unfold S.errR;rw[if_neg h]
theorem qty{d:qab}(h:S.checkDisk d=0):S.okL d=true:=by
 have k:=zfo h;unfold S.okL S.secs;rw[Bool.and_eq_true,Bool.and_eq_true,Bool.and_eq_true,Bool.not_eq_true'];refine⟨⟨Nat.ble_eq_true_of_le k.le,List.any_eq_false.2 fun s q=>?_⟩,Nat.ble_eq_true_of_le k.ge,decide_eq_true k.ev⟩;unfold S.short;rw[k.sz s q];decide
theorem zpv(lf:Nat)(j:qae):Fz41 lf j=some (S.errR j,()):=by
 simp only[Fz41,q0h];show cond (!ieqI (S.checkDisk j.1) _) _ (cond (iltI (Int.ofNat 0) (Int.ofNat j.1.2.length)) _ (match (cond (S.okL j.1) (some ((S.openedJ j.1).1,((S.openedJ j.1).2,()))) none) with|none=>none|some v=>_))=_;by_cases h0:S.checkDisk j.1=0
 ·rw[qbk (show _=Int.ofNat 0 from h0),Bool.not_true,cond_false,qa5];by_cases h1:j.1.2.length=0
  ·have hq:j.1.2=[]:=List.length_eq_zero_iff.1 h1;rw[decide_eq_false (by omega),cond_false,qty h0,cond_true];simp only;unfold S.openedJ;cases ho:S.opened j.1.1 with
   | none =>
    have hr:¬S.right j=true:=fun h=>by
     obtain⟨a,u,r⟩:=qim h;rw[r.jn.open_] at ho;cases ho
    rw[qev hr];rfl
   | some x =>
    obtain⟨hf,u,c⟩:=x;simp only;rw[Bool.not_true,cond_false,qdb,qdb];have hop:S.open_ j.1=(((j.1.1,[]),hf,(u:Int),c),0):=by
     unfold S.open_;rw[if_pos h0,if_pos h1,ho]
    have hre:S.right j=decide ((((j.1.1,[]),hf,(u:Int),c):qae)=j):=by
     unfold S.right;rw[hop];rfl
    obtain⟨⟨L,q⟩,h',u',c'⟩:=j;simp only at hq;subst hq;show cond (!decide (hf=h')) _ (cond (!decide ((u:Int)=u')) _ (cond (!decide (c=c')) _ _))=_;by_cases e1:hf=h'
    ·by_cases e2:(u:Int)=u'
     ·by_cases e3:c=c'
      ·rw[decide_eq_true e1,decide_eq_true e2,decide_eq_true e3,qx9 (by rw[hre,e1,e2,e3];exact decide_eq_true rfl)];rfl
      ·rw[decide_eq_true e1,decide_eq_true e2,decide_eq_false e3,qev (fun h=>by rw[hre] at h;exact e3 (congrArg (fun z:qae=>z.2.2.2) (of_decide_eq_true h)))];rfl
     ·rw[decide_eq_true e1,decide_eq_false e2,qev (fun h=>by rw[hre] at h;exact e2 (congrArg (fun z:qae=>z.2.2.1) (of_decide_eq_true h)))];rfl
    ·rw[decide_eq_false e1,qev (fun h=>by rw[hre] at h;exact e1 (congrArg (fun z:qae=>z.2.1) (of_decide_eq_true h)))];rfl
  ·have hr:¬S.right j=true:=fun h=>by
    obtain⟨a,u,jn,h2,_⟩:=qyd h;rw[h2] at h1;exact h1 rfl
   rw[decide_eq_true (by omega),cond_true,qev hr];rfl
 ·have hr:¬S.right j=true:=fun h=>by
   obtain⟨a,u,jn,h2,_⟩:=qyd h;have:=jn.dk.check;rw[show j.1=(j.1.1,[]) from Prod.ext rfl h2] at h0;exact h0 this
  rw[qbg (show ¬_=Int.ofNat 0 from h0),Bool.not_false,cond_true,qev hr];rfl
theorem zu9(lf:Nat)(d:qab):Fz50 lf d=some ((S.open_ d).1,(S.open_ d).2,()):=by
 simp only[Fz50,qy7];unfold S.open_;show cond (!ieqI (S.checkDisk d) _) _ (cond (iltI (Int.ofNat 0) (Int.ofNat d.2.length)) _ (match (cond (S.okL d) (some ((S.openedJ d).1,((S.openedJ d).2,()))) none) with|none=>none|some v=>_))=_;by_cases h0:S.checkDisk d=0
 ·rw[qbk (show _=Int.ofNat 0 from h0),Bool.not_true,cond_false,qa5,if_pos h0];by_cases h1:d.2.length=0
  ·rw[decide_eq_false (by omega),cond_false,qty h0,cond_true,if_pos h1];simp only;unfold S.openedJ;cases S.opened d.1<;>rfl
  ·rw[decide_eq_true (by omega),cond_true,if_neg h1];rfl
 ·rw[qbg (show ¬_=Int.ofNat 0 from h0),Bool.not_false,cond_true,if_neg h0];rfl
theorem zzx(lf:Nat)(j:qae):Fz42 lf j=some ((S.room j).1,(S.room j).2,()):=by
 simp only[Fz42,qvs];unfold S.room;show cond (!ieqI (S.errR j) _) (some (_,S.errR j,())) (match (cond (S.smallJ j) (some (S.roomOf j,())) none) with|none=>none|some v=>_)=_;by_cases h1:S.right j=true
 ·obtain⟨a,u,r⟩:=qim h1;rw[qx9 h1,show ieqI 0 (Int.ofNat 0)=true from rfl,Bool.not_true,cond_false,r.small,cond_true,if_pos h1];rfl
 ·rw[qev h1,show ieqI 1 (Int.ofNat 0)=false from rfl,Bool.not_false,cond_true,if_neg h1];rfl
theorem zl7(lf:Nat)(j:qae)(l:List qaa):Fz43 lf j l=some (S.asked j l,()):=by
 simp only[Fz43,qtb];unfold S.asked;show cond (!ieqI (S.errR j) _) (some (S.errR j,())) _=_;by_cases h1:S.right j=true
 ·rw[qx9 h1,show ieqI 0 (Int.ofNat 0)=true from rfl,Bool.not_true,cond_false,if_pos h1]
 ·rw[qev h1,show ieqI 1 (Int.ofNat 0)=false from rfl,Bool.not_false,cond_true,if_neg h1]
theorem zby(a b:List DAct):S.app a b=a++b:=rfl
theorem qcf{a:List DAct}{n:Nat}(h:a.length<=n):Nat.ble (S.lenA a) n=true:=Nat.ble_eq_true_of_le h
theorem qze(a:Int)(s:ByteArray):S.puts a [s]=[S.put a s]:=rfl
theorem unm(l:List qaa):qaf (0::(qac ((S.packed l 1).getD 0 S.none_)).drop 1)=(S.packed l 0).getD 0 S.none_:=by
 have e:∀m:Int,0<=m/\m<256->qac ((S.packed l m).getD 0 S.none_)=m::((S.recB l 0).drop 1).take 63++List.replicate (64-(S.recB l 0).length) 0:=fun m hm=>by
  have h:=qfu ((S.body l).length+3) (b:=S.recB l m) (by rw[qef];omega);have:S.packed l m=qaf ((S.recB l m).take 64++List.replicate (64-(S.recB l m).length) 0)::S.chunks ((S.body l).length+3) ((S.recB l m).drop 64):=h;rw[this];exact qbf (qf1 (qd5 (qjq l hm) 64) (qfi _))
 refine qee ?_;rw[e 1 (by omega),e 0 (by omega)];have hr:rng ((0:Int)::(((S.recB l 0).drop 1).take 63++List.replicate (64-(S.recB l 0).length) 0)):=fun x hx=>by
  rcases List.mem_cons.1 hx with rfl|hx
  ·decide
  ·exact qf1 (qd5 (qc0 (qjq l (by decide)) 1) 63) (qfi _) x hx
 exact qbf hr
theorem unm2(l:List qaa):qaf (Int.ofNat 0::(qac ((S.packed l 1).getD 0 S.none_)).drop 1)=(S.packed l 0).getD 0 S.none_:=unm l
theorem q5y(l:List ByteArray):lsub l (Int.ofNat 1) (Int.ofNat l.length)=l.drop 1:=by
 unfold lsub;show (l.take l.length).drop 1=_;rw[List.take_length]
theorem q40(l:List qaa)(a:Nat):S.puts (a:Int) [(S.packed l 0).getD 0 S.none_]++S.puts ((a+1:Nat):Int) ((S.packed l 1).drop 1)=S.puts (a:Int) (S.packed l 0):=by
 rw[qv2 l 0];exact(q0g a [(S.packed l 0).getD 0 S.none_] ((S.packed l 1).drop 1)).symm
theorem in0{n:Nat}(h:n<=1000000):S.inI ((n:Nat):Int) (Int.ofNat 0) (Int.ofNat 1000000)=true:=qa7.2 ⟨Int.natCast_nonneg _,by show (n:Int)<=1000000;omega⟩
theorem ziy{j:qae}{l:List qaa}(h:S.comG j l=true):S.smallJ j=true/\S.pk l=true/\0<=j.2.2.1/\j.2.2.1<=1000:=by
 unfold S.comG at h;rw[Bool.and_eq_true,Bool.and_eq_true,qa7] at h;exact⟨h.1,h.2.1,h.2.2⟩
theorem zq0(n:Nat)(hn:n<=1000)(h:Int)(h1:0<n\/h=0):∃a b:Nat,(S.half n h).1=(a:Int)/\(S.half n h).2=(b:Int)/\a<=1000/\b<=1000:=by
 unfold S.half;by_cases e:h=0
 ·rw[if_pos e];exact⟨1,n / 2,rfl,rfl,by omega,by omega⟩
 ·rw[if_neg e];have:0<n:=h1.resolve_right e;exact⟨n / 2,n-1,rfl,by show (n:Int)-1=((n-1:Nat):Int);omega,by omega,by omega⟩
theorem zts(lf:Nat)(j:qae)(l:List qaa)(h:S.comG j l=true):Fz44 lf j l=some ((S.actsB (S.commit j l)).1,(S.actsB (S.commit j l)).2,()):=by
 obtain⟨hs,hp,hu0,hu1⟩:=ziy h;obtain⟨h1,h2,_,_⟩:=qxo hs;have hpl:=q8f hp 1;have hpos:=qfo l 1;have hp0:(S.packed l 0).length=(S.packed l 1).length:=by rw[qdv,qdv]
 simp only[Fz44,q19];show (match (cond (S.pk l) (some ((S.packed l 1),())) none) with|none=>none|some v0=>(match (cond (S.smallJ j) (some (S.roomOf j,())) none) with|none=>none|some v1=>_))=_;rw[hp,cond_true,hs,cond_true];simp only;by_cases c0:S.roomOf j<((S.packed l 1).length:Int)
 ·rw[qd8 (show S.roomOf j<Int.ofNat (S.packed l 1).length from c0),cond_true,za4 c0];rfl
 rw[qd4 (show ¬S.roomOf j<Int.ofNat (S.packed l 1).length from c0),cond_false,zfc c0,show S.inI (Int.ofNat j.1.1.length) (Int.ofNat 0) (Int.ofNat 1000)=true from qa7.2 ⟨Int.natCast_nonneg _,by show (j.1.1.length:Int)<=1000;omega⟩,cond_true];simp only;obtain⟨a,b,ea,eb,ha,hb⟩:=zq0 j.1.1.length h1 j.2.1 (by
  refine Nat.eq_zero_or_pos j.1.1.length |>.elim (fun e=>?_) (fun e=>.inl e);refine Classical.byContradiction fun hc=>?_;have hc:¬j.2.1=0:=fun h=>hc (.inr h);have:S.roomOf j=-1-j.2.2.1:=by
   unfold S.roomOf S.half;rw[e,if_neg hc];show ((0:Nat):Int)-1-((0 / 2:Nat):Int)-j.2.2.1=_;omega
  rw[this] at c0;omega)
 obtain⟨u,hu⟩:∃u:Nat,j.2.2.1=(u:Int):=⟨j.2.2.1.toNat,by omega⟩;have huu:u<=1000:=by omega
 rw[show Int.toNat (Int.ofNat j.1.1.length)=j.1.1.length from rfl,ea,eb,hu];have w1:IntKind.i64.wrap (Int.add (a:Int) (u:Int))=((a+u:Nat):Int):=qa3 (n:=a+u) (by omega);have w2:IntKind.i64.wrap (Int.add ((a+u:Nat):Int) (Int.ofNat 1))=((a+u+1:Nat):Int):=qa3 (n:=a+u+1) (by omega);have w3:IntKind.i64.wrap (Int.add ((a+u:Nat):Int) (Int.ofNat (S.packed l 1).length))=((a+u+(S.packed l 1).length:Nat):Int):=qa3 (n:=a+u+(S.packed l 1).length) (by omega);have hsz:=qiq l 1 _ (qfk (i:=0) (show 0<(S.packed l 1).length by omega));have l1:lchk (Int.ofNat 1) (Int.ofNat (S.packed l 1).length) (Int.ofNat (S.packed l 1).length) (Int.ofNat (S.packed l 1).length)=true:=qbt.2 ⟨by decide,by show (1:Int)<=((S.packed l 1).length:Int);omega,Int.le_refl _,Int.le_refl _⟩;have hdl:Nat.ble ((S.packed l 1).drop 1).length 1000000=true:=Nat.ble_eq_true_of_le (by rw[List.length_drop];omega);have hpl0:(S.puts ((a+u:Nat):Int) (S.packed l 0)).length<=20000:=by rw[qku];omega
 rw[w1,w3];simp only[qmp (d:=S.none_) hpos,get0 (d:=S.none_) hpos,hsz,decide_true,cond_true,unm2,w2,in0 (show a+u<=1000000 by omega),in0 (show a+u+1<=1000000 by omega),in0 (show a+u+(S.packed l 1).length<=1000000 by omega),l1,q5y,hdl,Bool.and_true,Bool.true_and,zby,List.nil_append];rw[qcf (show (S.puts ((a+u:Nat):Int) [(S.packed l 0).getD 0 S.none_]).length<=1000000 by rw[qku];show 1<=_;omega),cond_true];simp only;rw[q40 l (a+u),qcf (show (S.puts ((a+u:Nat):Int) (S.packed l 0)).length<=1000000 by omega),cond_true];simp only;rw[qcf (show (S.puts ((a+u:Nat):Int) (S.packed l 0)).length<=4000000 by omega),cond_true];simp only;rw[qcf (show (S.puts ((a+u:Nat):Int) (S.packed l 0)++[S.sync]).length<=1000000 by rw[List.length_append];show _+1<=_;omega),cond_true];simp only;rw[qcf (show (S.puts ((a+u:Nat):Int) (S.packed l 0)++[S.sync]++S.puts ((a+u:Nat):Int) [(S.packed l 1).getD 0 S.none_]).length<=4000000 by rw[List.length_append,List.length_append];show _+1+1<=_;omega),cond_true];simp only;rw[qcf (show (S.puts ((a+u:Nat):Int) (S.packed l 0)++S.puts ((a+u+(S.packed l 1).length:Nat):Int) [S.blank]).length<=4000000 by rw[List.length_append];show _+1<=_;omega),cond_true];simp only;rw[qcf (show (S.puts ((a+u:Nat):Int) (S.packed l 0)++S.puts ((a+u+(S.packed l 1).length:Nat):Int) [S.blank]++[S.sync]).length<=1000000 by rw[List.length_append,List.length_append];show _+1+1<=_;omega),cond_true];simp only;rw[qcf (show (S.puts ((a+u:Nat):Int) (S.packed l 0)++S.puts ((a+u+(S.packed l 1).length:Nat):Int) [S.blank]++[S.sync]++S.puts ((a+u:Nat):Int) [(S.packed l 1).getD 0 S.none_]).length<=4000000 by rw[List.length_append,List.length_append,List.length_append];show _+1+1+1<=_;omega),cond_true,qbs];unfold S.laid;rw[Bool.true_and];have hc2:(a:Int)+(u:Int)=((a+u:Nat):Int):=by omega
 have hc3:((a+u:Nat):Int)+((S.packed l 1).length:Int)=((a+u+(S.packed l 1).length:Nat):Int):=by omega
 rw[hc2,hc3];cases decide (((a+u+(S.packed l 1).length:Nat):Int)<(b:Int)) with
 | true =>
  simp only[cond_true,qze,List.append_assoc];rfl
 | false =>
  simp only[cond_false,qze,List.append_assoc,List.nil_append];rfl
theorem z2l{d:qab}(h:(S.open_ d).2=0):S.okL d=true/\S.openedJ d=((S.open_ d).1,true):=by
 obtain⟨hf,a,u,c,jn,h1,h2⟩:=zft h;have hd:d=(d.1,[]):=Prod.ext rfl h1;refine⟨qty (by rw[hd];exact jn.dk.check),?_⟩;unfold S.openedJ;rw[jn.open_,h2]
theorem zg6(lf:Nat)(j:qae)(a:List DAct)(h:S.behG j a=true):Fz45 lf j a=some ((S.behind j a).1,()):=by
 unfold S.behG at h;rw[Bool.and_eq_true] at h;have h1:=of_decide_eq_true h.1;simp only[Fz45,qxr];unfold S.behind at h1 ⊢;obtain⟨h2,h3⟩:=z2l h1;show (match (cond (S.okL (S.doD j.1 a).1) (some ((S.openedJ (S.doD j.1 a).1).1,((S.openedJ (S.doD j.1 a).1).2,()))) none) with|none=>none|some v=>_)=_;rw[h2,cond_true,h3]
theorem z1v{j:qae}(h:S.turG j=true):S.smallJ j=true/\S.pk j.2.2.2=true/\(j.2.1=0\/j.2.1=1)/\8<=j.1.1.length:=by
 unfold S.turG at h;rw[Bool.and_eq_true,Bool.and_eq_true,Bool.and_eq_true,qa7] at h;exact⟨h.1,h.2.1,by omega,Nat.le_of_ble_eq_true h.2.2.2⟩
theorem zvj(lf:Nat)(j:qae)(h:S.turG j=true):Fz51 lf j=some ((S.actsB (S.turn j)).1,(S.actsB (S.turn j)).2,()):=by
 obtain⟨hs,hp,hh,hge⟩:=z1v h;obtain⟨h1,h2,_,_⟩:=qxo hs;have hpl:=q8f hp 1;have hpos:=qfo j.2.2.2 1;have hp0:(S.packed j.2.2.2 0).length=(S.packed j.2.2.2 1).length:=by rw[qdv,qdv]
 obtain⟨b,e1,e2,e3,_,_⟩:=qix h2 hge (h:=1-j.2.1) (by omega);have hw:IntKind.i64.wrap (Int.sub (Int.ofNat 1) j.2.1)=1-j.2.1:=wrap_in (by show -_<=(1:Int)-j.2.1/\(1:Int)-j.2.1<_;omega);have hw2:IntKind.i64.wrap (Int.sub ((b+(j.1.1.length / 2-1):Nat):Int) (b:Int))=Int.ofNat (j.1.1.length / 2-1):=by
  have:Int.sub ((b+(j.1.1.length / 2-1):Nat):Int) (b:Int)=Int.ofNat (j.1.1.length / 2-1):=by
   show ((b+(j.1.1.length / 2-1):Nat):Int)-(b:Int)=((j.1.1.length / 2-1:Nat):Int);omega
  rw[this];exact qa3 (by omega)
 simp only[Fz51,qt5,hw];rw[hp,cond_true];simp only;rw[show S.inI (Int.ofNat j.1.1.length) (Int.ofNat 0) (Int.ofNat 1000)=true from qa7.2 ⟨Int.natCast_nonneg _,by show (j.1.1.length:Int)<=1000;omega⟩,cond_true];simp only;rw[show Int.toNat (Int.ofNat j.1.1.length)=j.1.1.length from rfl,e1];simp only[hw2];by_cases c0:j.1.1.length / 2-1<(S.packed j.2.2.2 1).length
 ·have hn:S.turn j=none:=zen (by rw[e1];show ((b+(j.1.1.length / 2-1):Nat):Int)-(b:Int)<((S.packed j.2.2.2 1).length:Int);omega);rw[qd8 (show Int.ofNat (j.1.1.length / 2-1)<Int.ofNat (S.packed j.2.2.2 (Int.ofNat 1)).length from Int.ofNat_lt.2 c0),cond_true,hn];rfl
 have hsome:S.turn j=some (turA j.1.1 (1-j.2.1) b j.2.2.2):=by
  rw[q71 (by rw[e1];show ¬((b+(j.1.1.length / 2-1):Nat):Int)-(b:Int)<((S.packed j.2.2.2 1).length:Int);omega),e1];have:(((b+(j.1.1.length / 2-1):Nat):Int)-(b:Int)).toNat=j.1.1.length / 2-1:=by omega
  simp only[this];rfl
 rw[qd4 (show ¬Int.ofNat (j.1.1.length / 2-1)<Int.ofNat (S.packed j.2.2.2 (Int.ofNat 1)).length from fun h=>c0 (Int.ofNat_lt.1 h)),cond_false,hsome];unfold turA;have hR:(S.puts (b:Int) (List.replicate (j.1.1.length / 2-1) S.blank)).length<=1000:=by rw[qku,List.length_replicate];omega
 have w2:IntKind.i64.wrap (Int.add (b:Int) (Int.ofNat 1))=((b+1:Nat):Int):=qa3 (n:=b+1) (by omega);have hsz:=qiq j.2.2.2 1 _ (qfk (i:=0) (show 0<(S.packed j.2.2.2 1).length by omega));have l1:lchk (Int.ofNat 1) (Int.ofNat (S.packed j.2.2.2 1).length) (Int.ofNat (S.packed j.2.2.2 1).length) (Int.ofNat (S.packed j.2.2.2 1).length)=true:=qbt.2 ⟨by decide,by show (1:Int)<=((S.packed j.2.2.2 1).length:Int);omega,Int.le_refl _,Int.le_refl _⟩;have hdl:Nat.ble ((S.packed j.2.2.2 1).drop 1).length 1000000=true:=Nat.ble_eq_true_of_le (by rw[List.length_drop];omega);have hpl0:(S.puts (b:Int) (S.packed j.2.2.2 0)).length<=20000:=by rw[qku];omega
 have hj0:jget (S.packed j.2.2.2 (Int.ofNat 1)) (Int.ofNat 0)=some ((S.packed j.2.2.2 1).getD 0 S.none_):=qmp hpos;have hg0:(S.packed j.2.2.2 (Int.ofNat 1))[0]?=some ((S.packed j.2.2.2 1).getD 0 S.none_):=get0 hpos;have htop:ByteArray.append (qaf [IntKind.u8.wrap (1-j.2.1)]) (qaf (List.replicate 63 0))=topS (1-j.2.1):=by
  rw[qcm,qkg,show (1-j.2.1) % 256=1-j.2.1 by omega];rfl
 rw[show S.inI (Int.ofNat (j.1.1.length / 2-1)) (Int.ofNat 0) (Int.ofNat 1000)=true from qa7.2 ⟨Int.natCast_nonneg _,by show ((j.1.1.length / 2-1:Nat):Int)<=1000;omega⟩,cond_true];simp only[show Int.toNat (Int.ofNat (j.1.1.length / 2-1))=j.1.1.length / 2-1 from rfl,in0 (show b<=1000000 by omega),w2,in0 (show b+1<=1000000 by omega),Bool.true_and,Bool.and_true,zby,List.nil_append,hj0,hg0,hsz,decide_true,cond_true,unm2,q9v];rw[Nat.ble_eq_true_of_le (show (List.replicate (j.1.1.length / 2-1) S.blank).length<=1000000 by rw[List.length_replicate];omega),cond_true];simp only;generalize S.puts (b:Int) (List.replicate (j.1.1.length / 2-1) S.blank)=X at hR;rw[qcf (show X.length<=4000000 by omega),cond_true];simp only;rw[qcf (show (X++[S.sync]).length<=1000000 by rw[List.length_append];show _+1<=_;omega),cond_true];simp only
 rw[show lchk (Int.ofNat 1) (Int.ofNat (S.packed j.2.2.2 (Int.ofNat 1)).length) (Int.ofNat (S.packed j.2.2.2 (Int.ofNat 1)).length) (Int.ofNat (S.packed j.2.2.2 (Int.ofNat 1)).length)=true from l1,cond_true,
  show lsub (S.packed j.2.2.2 (Int.ofNat 1)) (Int.ofNat 1) (Int.ofNat (S.packed j.2.2.2 (Int.ofNat 1)).length)=(S.packed j.2.2.2 1).drop 1 from q5y _,hdl,Bool.true_and,qcf (show (X++[S.sync]++S.puts (b:Int) [(S.packed j.2.2.2 0).getD 0 S.none_]).length<=1000000 by rw[List.length_append,List.length_append];show _+1+1<=_;omega),cond_true]
 simp only;rw[List.append_assoc (X++[S.sync]),q40 j.2.2.2 b];generalize S.puts (b:Int) (S.packed j.2.2.2 0)=Y at hpl0;rw[qcf (show (X++[S.sync]++Y).length<=4000000 by rw[List.length_append,List.length_append];show _+1+_<=_;omega),cond_true];simp only;rw[qcf (show (X++[S.sync]++Y++[S.sync]).length<=1000000 by rw[List.length_append,List.length_append,List.length_append];show _+1+_+1<=_;omega),cond_true];simp only;rw[qcf (show (X++[S.sync]++Y++[S.sync]++S.puts (b:Int) [(S.packed j.2.2.2 1).getD 0 S.none_]).length<=4000000 by rw[List.length_append,List.length_append,List.length_append,List.length_append];show _+1+_+1+1<=_;omega),cond_true];simp only;rw[show S.inI (Int.ofNat 0) (Int.ofNat 0) (Int.ofNat 1000000)=true from rfl,Bool.true_and,qcf (show (X++[S.sync]++Y++[S.sync]++S.puts (b:Int) [(S.packed j.2.2.2 1).getD 0 S.none_]++[S.sync]).length<=1000000 by rw[List.length_append,List.length_append,List.length_append,List.length_append,List.length_append];show _+1+_+1+1+1<=_;omega),cond_true];simp only[q1j,ztp,htop];rw[qcf (show (X++[S.sync]++Y++[S.sync]++S.puts (b:Int) [(S.packed j.2.2.2 1).getD 0 S.none_]++[S.sync]++S.puts (Int.ofNat 0) [topS (1-j.2.1)]).length<=4000000 by rw[List.length_append,List.length_append,List.length_append,List.length_append,List.length_append,List.length_append];show _+1+_+1+1+1+1<=_;omega),cond_true];simp only[qze,List.append_assoc];rfl
theorem zoy{j:qae}{a u:Nat}(r:RJ j a u){l:List qaa}(hok:S.okC l=true):S.comG j l=true:=by
 have:=r.jn.le.1;have:=r.jn.dk.le;unfold S.comG;rw[Bool.and_eq_true,Bool.and_eq_true,qa7,r.used];exact⟨r.small,qla hok,by omega⟩
theorem z1z{j:qae}{a u:Nat}(r:RJ j a u):S.turG j=true:=by
 have h:=r.jn.hh;unfold S.turG;rw[Bool.and_eq_true,Bool.and_eq_true,Bool.and_eq_true,qa7];exact⟨r.small,qla r.jn.le.2.1.1,by omega,Nat.ble_eq_true_of_le r.jn.dk.ge⟩
theorem zcd{j:qae}{A:List DAct}{x:qae}{y:qab}(h:S.behind j A=(x,0))(k:S.doD j.1 A=(y,0)):S.behG j A=true:=by
 unfold S.behG;rw[h,k];rfl
theorem zca{j:qae}{l:List qaa}:S.plan j l=if S.asked j l=0 then (match S.commit j l with
  | some a=>(a,0)
  | none=>([],14)) else ([],S.asked j l):=by
 unfold S.plan S.asked;by_cases h1:S.right j=true
 ·rw[if_pos h1,if_pos h1];by_cases h2:(S.size l).2=0
  ·rw[if_pos h2,if_pos h2];cases S.commit j l<;>rfl
  ·rw[if_neg h2,if_neg h2]
 ·rw[if_neg h1,if_neg h1,if_neg (by decide)]
theorem zaz{j:qae}{l:List qaa}(h:S.asked j l=0):S.right j=true/\(S.size l).2=0:=by
 unfold S.asked at h;by_cases h1:S.right j=true
 ·rw[if_pos h1] at h;exact⟨h1,h⟩
 ·rw[if_neg h1] at h;cases h
theorem zur(lf:Nat)(j:qae)(l:List qaa):Fz46 lf j l=some ((S.plan j l).1,(S.plan j l).2,()):=by
 simp only[Fz46,qx0];show cond (!ieqI (S.asked j l) _) (some (_,S.asked j l,())) (match (cond (S.comG j l) (some ((S.actsB (S.commit j l)).1,((S.actsB (S.commit j l)).2,()))) none) with|none=>none|some v=>_)=_;rw[zca];by_cases h0:S.asked j l=0
 ·obtain⟨h1,h2⟩:=zaz h0;obtain⟨a,u,r⟩:=qim h1;rw[qbk (show S.asked j l=Int.ofNat 0 from h0),Bool.not_true,cond_false,zoy r (zd5 h2).1,cond_true,if_pos h0];simp only;cases S.commit j l<;>rfl
 ·rw[qbg (show ¬S.asked j l=Int.ofNat 0 from h0),Bool.not_false,cond_true,if_neg h0]
theorem zkr{j:qae}{l:List qaa}(h:(S.plan j l).2=0):S.right j=true/\(S.size l).2=0/\∃A,S.commit j l=some A/\S.plan j l=(A,0):=by
 rw[zca] at h ⊢;by_cases h0:S.asked j l=0
 ·obtain⟨h1,h2⟩:=zaz h0;rw[if_pos h0] at h ⊢;cases hc:S.commit j l with
  | none=>rw[hc] at h;cases h
  | some A=>exact⟨h1,h2,A,rfl,rfl⟩
 ·rw[if_neg h0] at h;exact absurd h h0
theorem zhu(lf:Nat)(j:qae)(l:List qaa):Fz47 lf j l=some ((S.commitJ j l).1,(S.commitJ j l).2,()):=by
 simp only[Fz47,qy1];show cond (!ieqI (S.plan j l).2 _) (some (S.noJ,(S.plan j l).2,())) (match (cond (S.behG j (S.plan j l).1) (some ((S.behind j (S.plan j l).1).1,())) none) with|none=>none|some v=>_)=_;unfold S.commitJ;by_cases h0:(S.plan j l).2=0
 ·obtain⟨h1,h2,A,h3,h4⟩:=zkr h0;obtain⟨a,u,r⟩:=qim h1;rcases zig r (zd5 h2).1 with ⟨c1,_⟩|⟨A',c1,_,_,c4,c5,_⟩
  ·rw[h3] at c1;cases c1
  ·have:A'=A:=by rw[h3] at c1;cases c1;rfl
   subst this;rw[if_pos h0,h4,show ieqI (A',(0:Int)).2 (Int.ofNat 0)=true from rfl,Bool.not_true,cond_false,zcd c5 c4,cond_true,c5];rfl
 ·rw[qbg (show ¬(S.plan j l).2=Int.ofNat 0 from h0),Bool.not_false,cond_true,if_neg h0]
theorem zxc{j:qae}:S.planTurn j=if S.errR j=0 then (match S.turn j with
  | some a=>(a,0)
  | none=>([],14)) else ([],S.errR j):=by
 unfold S.planTurn S.errR;by_cases h1:S.right j=true
 ·rw[if_pos h1,if_pos h1,if_pos rfl];cases S.turn j<;>rfl
 ·rw[if_neg h1,if_neg h1,if_neg (by decide)]
theorem zol{j:qae}(h:S.errR j=0):S.right j=true:=Classical.byContradiction fun e=>by rw[qev e] at h;cases h
theorem zih(lf:Nat)(j:qae):Fz48 lf j=some ((S.planTurn j).1,(S.planTurn j).2,()):=by
 simp only[Fz48,q4g];show cond (!ieqI (S.errR j) _) (some (_,S.errR j,())) (match (cond (S.turG j) (some ((S.actsB (S.turn j)).1,((S.actsB (S.turn j)).2,()))) none) with|none=>none|some v=>_)=_;rw[zxc];by_cases h0:S.errR j=0
 ·obtain⟨a,u,r⟩:=qim (zol h0);rw[qbk (show S.errR j=Int.ofNat 0 from h0),Bool.not_true,cond_false,z1z r,cond_true,if_pos h0];simp only;cases S.turn j<;>rfl
 ·rw[qbg (show ¬S.errR j=Int.ofNat 0 from h0),Bool.not_false,cond_true,if_neg h0]
theorem zh8(lf:Nat)(j:qae):Fz49 lf j=some ((S.turnJ j).1,(S.turnJ j).2,()):=by
 simp only[Fz49,q3f];show cond (!ieqI (S.planTurn j).2 _) (some (S.noJ,(S.planTurn j).2,())) (match (cond (S.behG j (S.planTurn j).1) (some ((S.behind j (S.planTurn j).1).1,())) none) with|none=>none|some v=>_)=_;by_cases h0:(S.planTurn j).2=0
 ·have h1:S.right j=true:=by
   unfold S.planTurn at h0;by_cases h1:S.right j=true
   ·exact h1
   ·rw[if_neg h1] at h0;cases h0
  obtain⟨a,u,r⟩:=qim h1;rcases zzr r h1 with ⟨_,_,t3,_⟩|⟨b,t1,t2,t3,t4,t5,_⟩
  ·rw[t3] at h0;cases h0
  ·have hb:S.behind j (turA j.1.1 (1-j.2.1) b j.2.2.2)=S.turnJ j:=by
    unfold S.turnJ;rw[t3];rfl
   rw[t3,show ieqI (turA j.1.1 (1-j.2.1) b j.2.2.2,(0:Int)).2 (Int.ofNat 0)=true from rfl,Bool.not_true,cond_false,zcd (hb.trans t5) t4,cond_true,hb,t5];rfl
 ·rw[qbg (show ¬(S.planTurn j).2=Int.ofNat 0 from h0),Bool.not_false,cond_true];unfold S.turnJ;rw[if_neg h0]
theorem ql3:Con Tryz.prog zo4 qsb:=z3a ⟨zu4,trivial⟩ fun x y hx h=>⟨0,h⟩
theorem zu6(a b:List qaa)(ha:a.length<LF):Fz38 LF a b=some (S.sameC a b,()):=by
 simp only[Fz38,qvv];unfold S.sameC;by_cases e:a.length=b.length
 ·rw[qbk (show Int.ofNat a.length=Int.ofNat b.length from congrArg Int.ofNat e),Bool.not_true,cond_false];refine(ql1 a b e ha (some (true,())) (some (false,())) (fun K=>?_) (fun K i v w h1 h2 h3 h4=>?_)).trans ?_
  ·simp only[qpm,qce,cond_false]
  ·simp only[qpm,h1,h2,h3,h4,cond_true,q8c];cases decide (v=w)<;>rfl
  ·cases decide (a=b)<;>rfl
 ·rw[qbg (show ¬Int.ofNat a.length=Int.ofNat b.length from fun h=>e (Int.ofNat.inj h)),Bool.not_false,cond_true,decide_eq_false (fun h=>e (congrArg List.length h))]
theorem zjz:Con Tryz.prog zvm zcw:=zjo trivial fun x y hx h=>⟨LF,(zu6 x.1 x.2.1 (qct (c:=qad) hx.1)).trans h⟩
theorem q93:Con Tryz.prog z3k qx3:=zhq ⟨qm5,ql3,qqr,trivial⟩ qzn q30 fun x y hx h=>⟨0,(zkw 0 x.1).trans h⟩
theorem zs9:Con Tryz.prog z4e q8k:=z3j ⟨qqr,zbv,qrh,q8o,ql3,trivial⟩ qzn q30 fun x y hx h=>⟨0,by
 obtain⟨h1,h2⟩:=qa8 (show cond (S.comG x.1 x.2.1) (some ((S.actsB (S.commit x.1 x.2.1)).1,(S.actsB (S.commit x.1 x.2.1)).2,())) none=some y from h);exact(zts 0 x.1 x.2.1 h1).trans (congrArg some h2)⟩
theorem qgc{P:Program}{f:Nat}{p:List TC}{r:List (Bool × TC)}{g g':ElA p->Option (ElR r)}(h:Con P f ⟨p,r,g⟩)(hg:∀x y,g' x=some y->g x=some y):Con P f ⟨p,r,g'⟩ :=
 ⟨h.callable,fun M w x us y hy hM hgl hv=>h.calls M w x us y (hg x y hy) hM hgl hv⟩
section
variable (hR : Con Tryz.prog 76 qi5) (hO : Con Tryz.prog 61 qhg)
include hR in
theorem zza:Con Tryz.prog zt9 zb3:=zl2 ⟨qnu,ql3,hR,trivial⟩ fun x y hx h=>⟨0,(zy4 0 x.1).trans h⟩
include hO in
theorem q4a:Con Tryz.prog zlq qq6:=z0j ⟨qm5,hO,zjz,trivial⟩ fun x y hx h=>⟨0,(zpv 0 x.1).trans h⟩
include hO in
theorem qv3:Con Tryz.prog zgl qy0:=zxn ⟨qm5,hO,trivial⟩ fun x y hx h=>⟨0,(zu9 0 x.1).trans h⟩
include hO in
include hO in
theorem zp3:Con Tryz.prog zmi zmd:=zls ⟨q4a hO,zbv,trivial⟩ fun x y hx h=>⟨0,(zzx 0 x.1).trans h⟩
include hO in
theorem zlm:Con Tryz.prog zxx q5j:=zit ⟨q4a hO,zar,trivial⟩ fun x y hx h=>⟨0,(zl7 0 x.1 x.2.1).trans h⟩
include hR in
theorem zr7:Con Tryz.prog zjm zbm:=zgc ⟨qqr,qrh,q8o,ql3,hR,trivial⟩ q30 fun x y hx h=>⟨0,by
 obtain⟨h1,h2⟩:=qa8 (show cond (S.turG x.1) (some ((S.actsB (S.turn x.1)).1,(S.actsB (S.turn x.1)).2,())) none=some y from h);exact(zvj 0 x.1 h1).trans (congrArg some h2)⟩
include hO in
theorem ze1:Con Tryz.prog zmx qwh:=zo8 ⟨qtl,hO,trivial⟩ fun x y hx h=>⟨0,by
 obtain⟨h1,h2⟩:=qa8 (show cond (S.behG x.1 x.2.1) (some ((S.behind x.1 x.2.1).1,())) none=some y from h);exact(zg6 0 x.1 x.2.1 h1).trans (congrArg some h2)⟩
include hO in
theorem q9s:Con Tryz.prog zpq q52:=zi5 ⟨zlm hO,zs9,trivial⟩ fun x y hx h=>⟨0,(zur 0 x.1 x.2.1).trans h⟩
include hO in
theorem zzb:Con Tryz.prog zmf zzu:=zuu ⟨q9s hO,ze1 hO,trivial⟩ fun x y hx h=>⟨0,(zhu 0 x.1 x.2.1).trans h⟩
include hR hO in
theorem zs4:Con Tryz.prog z0s q65:=zfx ⟨q4a hO,zr7 hR,trivial⟩ fun x y hx h=>⟨0,(zih 0 x.1).trans h⟩
include hR hO in
theorem zp5:Con Tryz.prog zm2 zxo:=zuk ⟨zs4 hR hO,ze1 hO,trivial⟩ fun x y hx h=>⟨0,(zh8 0 x.1).trans h⟩
include hR hO in
end
theorem zfy(lf:Nat):Fz1 lf=some (true,()):=by kernel_rfl
theorem zdg{a b:List qaa}(h:S.sameC a b=true):a=b:=of_decide_eq_true h
theorem qsx{a b:qab}(h:S.sameD a b=true):a=b:=of_decide_eq_true h
theorem qp4{a b:qae}(h:S.sameJ a b=true):a=b:=of_decide_eq_true h
theorem z0v{a b:List DAct}(h:S.sameA a b=true):a=b:=of_decide_eq_true h
theorem zhp:(S.plan S.madeJ S.hC).2=0:=by kernel_rfl
theorem hDo:(S.doD S.madeJ.1 (S.hL.take 4)).2=0:=by kernel_rfl
theorem hCr0:(S.crash S.hD [0]).2=0:=by kernel_rfl
theorem hCr1:(S.crash S.hD [1]).2=0:=by kernel_rfl
theorem hOp0:(S.open_ S.hLost).2=0:=by kernel_rfl
theorem hOp1:(S.open_ S.hKept).2=0:=by kernel_rfl
theorem hOpE:S.sameD S.hKept S.hLost=false:=by kernel_rfl
theorem hOpF:S.sameD S.hLost S.hLost=true:=by kernel_rfl
theorem hCom:(S.commitJ S.hY S.hG).2=0:=by kernel_rfl
theorem zpu:S.room S.hZ=(0,0):=by kernel_rfl
theorem zwc:(S.turnJ S.hZ).2=0:=by kernel_rfl
theorem z1c{d:qab}{k:List Int}(h:S.gCrash d k=true):some ((S.crash d k).1,(S.crash d k).2,())=some (S.hCr k,(0:Int),()):=by
 unfold S.gCrash at h;rw[Bool.and_eq_true,Bool.or_eq_true] at h;have e1:=qsx h.1;subst e1;rcases h.2 with e2|e2
 ·have e2:=of_decide_eq_true e2;subst e2;rw[hCr0];rfl
 ·have e2:=of_decide_eq_true e2;subst e2;rw[hCr1];rfl
section
variable (hR : Con Tryz.prog 76 qi5) (hO : Con Tryz.prog 61 qhg)
include hO in
theorem zyi:Con Tryz.prog 24 zey:=qgc (q9s hO) fun x y h=>by
 obtain⟨h1,rfl⟩:=qa8 (show cond (S.gPlan x.1 x.2.1) (some (S.hL,(0:Int),())) none=some y from h);obtain⟨a,b,_⟩:=x;unfold S.gPlan at h1;rw[Bool.and_eq_true] at h1;have e1:=qp4 h1.1;have e2:=zdg h1.2;show some ((S.plan a b).1,(S.plan a b).2,())=_;rw[show a=S.madeJ from e1,show b=S.hC from e2,zhp];rfl
theorem zkz:Con Tryz.prog 32 q5e:=qgc qtl fun x y h=>by
 obtain⟨h1,rfl⟩:=qa8 (show cond (S.gDo x.1 x.2.1) (some (S.hD,(0:Int),())) none=some y from h);obtain⟨a,b,_⟩:=x;unfold S.gDo at h1;rw[Bool.and_eq_true] at h1;have e1:=qsx h1.1;have e2:=z0v h1.2;show some ((S.doD a b).1,(S.doD a b).2,())=_;rw[show a=S.madeJ.1 from e1,show b=S.hL.take 4 from e2,hDo];rfl
theorem zpr:Con Tryz.prog 34 zdd:=qgc zua fun x y h=>by
 obtain⟨h1,rfl⟩:=qa8 (show cond (S.gCrash x.1 x.2.1) (some (S.hCr x.2.1,(0:Int),())) none=some y from h);exact z1c h1
include hO in
theorem zun:Con Tryz.prog 13 q91:=qgc (qv3 hO) fun x y h=>by
 obtain⟨h1,rfl⟩:=qa8 (show cond (S.gOpen x.1) (some (S.hOp x.1,(0:Int),())) none=some y from h);obtain⟨a,_⟩:=x;unfold S.gOpen at h1;rw[Bool.or_eq_true] at h1;show some ((S.open_ a).1,(S.open_ a).2,())=some (cond (S.sameD a S.hLost) S.hX S.hY,0,());rcases h1 with e|e
 ·rw[show a=S.hLost from qsx e,hOp0,hOpF];rfl
 ·rw[show a=S.hKept from qsx e,hOp1,hOpE];rfl
include hO in
theorem z11:Con Tryz.prog 26 zfn:=qgc (zzb hO) fun x y h=>by
 obtain⟨h1,rfl⟩:=qa8 (show cond (S.gCom x.1 x.2.1) (some (S.hZ,(0:Int),())) none=some y from h);obtain⟨a,b,_⟩:=x;unfold S.gCom at h1;rw[Bool.and_eq_true] at h1;have e1:=qp4 h1.1;have e2:=zdg h1.2;show some ((S.commitJ a b).1,(S.commitJ a b).2,())=_;rw[show a=S.hY from e1,show b=S.hG from e2,hCom];rfl
include hO in
theorem zla:Con Tryz.prog 20 zd7:=qgc (zp3 hO) fun x y h=>by
 obtain⟨h1,rfl⟩:=qa8 (show cond (S.gZ x.1) (some ((0:Int),(0:Int),())) none=some y from h);obtain⟨a,_⟩:=x;show some ((S.room a).1,(S.room a).2,())=_;rw[show a=S.hZ from qp4 h1,zpu];rfl
include hR hO in
theorem zvf:Con Tryz.prog 41 zdb:=qgc (zp5 hR hO) fun x y h=>by
 obtain⟨h1,rfl⟩:=qa8 (show cond (S.gZ x.1) (some (S.hT,(0:Int),())) none=some y from h);obtain⟨a,_⟩:=x;show some ((S.turnJ a).1,(S.turnJ a).2,())=_;rw[show a=S.hZ from qp4 h1,zwc];rfl
include hR hO in
theorem zto:Con Tryz.prog idz3 spz3:=mkz3 ⟨zza hR,q93,qtl,qv3 hO,trivial⟩ fun x y hx h=>⟨0,by
 obtain⟨h1,rfl⟩:=qa8 (show cond (S.inI x.1 8 8) (some (S.madeJ,true,())) none=some y from h);obtain⟨h2,h3⟩:=qa7.1 h1;rw[show x.1=(8:Int) from Int.le_antisymm h3 h2];exact zxt 0⟩
include hR hO in
theorem zwo:Con Tryz.prog idz1 spz1:=mkz1 ⟨zto hR hO,zar,zyi hO,zkz,zpr,zun hO,z11 hO,zla hO,zvf hR hO,trivial⟩ fun x y hx h=>⟨0,(zfy 0).trans h⟩
end
def spz4:Sm:=⟨[cDisk],[(false,.bool)],fun _=>some (true,())⟩
section
variable (hR : Con Tryz.prog 76 qi5) (hO : Con Tryz.prog 61 qhg)
include hR hO in
include hR hO in
theorem zph:Con Tryz.prog idz4 spz4:=mkz4 ⟨zwo hR hO,z00,q93,z1o,qv3 hO,zwf,zwl,zm6,trivial⟩ fun x y hx h=>⟨0,(zmh 0 x.1).trans h⟩
include hR hO in
include hR hO in
end
end Go.Proofs.YtnhmanoiolfapaaGreat
end

section
namespace Go.Sx
open Go Go.RowKit
section
variable {P : Program} {n : Nat} {σ : Nat -> Value} {w : World} {Q : Exit -> Act -> World -> Prop} {ops : Array Oper} {rest : List Oper} {d : Nat} {ty : TypeId} {pos : String} {aft : Array Edge} {g : Option (Nat × Bool)}
theorem q7j{x y:Operand}{u v:Value}{T T':TypeId}{m:Nat}{w':World}(hg:qas ops σ n g=true)(hx:okO n x=true)(ex:ev σ x=u)(hy:okO n y=true)(ey:ev σ y=v)
  (hr:(Builtin.copy_ #[T,T'] ty #[u,v]).run P w=.ok (goInt m) w') (k:wpList P ops Q rest (Fr n (upd σ d (.int .i64 m))) w'):wpList P ops Q (⟨some d,.call ⟨.builtin .copy,#[x,y],#[T,T']⟩,ty,pos,aft,g⟩::rest) (Fr n σ) w :=
 qbb hg (by
  have h1:(#[x,y].map (Fr n σ).eval)=#[u,v]:=by simp[qax hx,qax hy,ex,ey]
  simp only[execOp,resolve,h1,invoke,builtin,Sem.run_bind,Sem.run_pure,Result.andThen_ok,hr,goInt]) k
theorem zsv{x y:Operand}{u v r:Value}{T:TypeId}{w':World}(hg:qas ops σ n g=true)(hx:okO n x=true)(ex:ev σ x=u)(hy:okO n y=true)(ey:ev σ y=v)
  (hr:(Instr.makeSlice T u v).run P w=.ok r w') (k:wpList P ops Q rest (Fr n (upd σ d r)) w'):wpList P ops Q (⟨some d,.makeSlice T x y,ty,pos,aft,g⟩::rest) (Fr n σ) w :=
 qbb hg (by
  simp only[execOp,qax hx,qax hy,ex,ey,Sem.run_bind,Sem.run_pure,Result.andThen_ok,hr]) k
end
end Go.Sx
end

section
namespace Go.Sx
open Go Go.RowKit
section
variable {P : Program} {ops : Array Oper} {md : Region.Mode} {Q : Exit -> Act -> World -> Prop}
def KOne(K:Act->World->Prop):Exit->Act->World->Prop:=fun e a w=>e=.normal/\K a w
theorem zjr{o:Oper}{a:Act}{K K':Act->World->Prop}{r:Result Next}(hK:∀a w,K' a w->K a w)(h:o.upon P a K' (KOne K) r):o.upon P a K Q r:=by
 cases r with
 | ok v w' =>
  cases v with
  | value v=>exact hK _ _ h
  | skip=>exact hK _ _ h
  | defer d=>exact hK _ _ h
  | enter f args =>
   refine Calls.mono h fun e w'' he=>?_;cases e with
   | returned v=>exact hK _ _ he
   | panicked c=>cases he.1
   | outgrown=>obtain⟨_,_,h1,_⟩:=he;cases h1
  | row row args=>exact Rows.mono h fun v w'' he=>hK _ _ he
  | _=>exact h
 | halt x w'=>cases x<;>first|exact h|exact absurd h.1 (by simp)
theorem zzc{i:Nat}{o:Oper}{a:Act}{w:World}{K:Act->World->Prop}(hi:ops[i]?=some o)(h:wpList P ops (KOne K) [o] a w):wpOp P ops Q i K a w:=by
 unfold wpOp;simp only[hi];unfold wpList at h;split at h
 ·rename_i hw;rw[if_pos hw];rcases h with h|⟨_,_,_,h,_⟩
  ·exact .inl (zjr (fun a w h=>h.2) h)
  ·cases h
 ·rename_i hw;rw[if_neg hw];exact h.2
end
end Go.Sx
end

/- Texts: Kw3, Kp2, Kg3, Kp3, Kp4, Kp6, Kl2, Kg9, Ksh, Ksr, Kg7, Xhs, Xhg, Kg8, Kg6, Kp5, Kp7, Kp8, Kp9, Kw4, Kpa, Kpb, Kpc, Kpd, Kpe, Kpf, Kpg, Kph, Kpj, Kl4, Kl5, Krp, Rg, Krq, Jcr, Jit, Ksx, Kso, Kca, Kcb, Kcc. -/
import Derived.Test.YtnhmanoiolfapaaGreatMa4
import Derived.Shelf.Strings.Repeat
import Derived.Test.YtnhmanoiolfapaaGreatProg
import Derived.Laws.IdiomCopy
import Derived.Laws.MakeOwn
import Derived.Test.YtnhmanoiolfapaaGreatMa1
import Derived.Shelf.SlSortCmp.WholeK
import Derived.Shelf.SlSortCmp.NoneTotal
import Derived.Laws.IdiomRangeMap
set_option linter.unusedVariables false
noncomputable section
set_option maxRecDepth 100000
namespace Go.Proofs.YtnhmanoiolfapaaGreat
open Go Go.Sx Go.RowKit Go.Jx
def over(L:List ByteArray)(a:Nat)(ss:List ByteArray):List ByteArray:=L.take a++(ss++L.drop (a+ss.length))
def qr4:Nat->List ByteArray->List DPut
 | _,[]=>[]
 | a,s::ss=>((a:Int),s)::qr4 (a+1) ss
theorem qxr(a:Nat)(s:ByteArray)(ss:List ByteArray):S.puts (a:Int) (s::ss)=S.put (a:Int) s::S.puts ((a+1:Nat):Int) ss:=rfl
theorem q10:∀(a:Nat) (x y:List ByteArray),S.puts (a:Int) (x++y)=S.puts (a:Int) x++S.puts ((a+x.length:Nat):Int) y
 | a,[],y=>rfl
 | a,s::x,y=>by
  rw[List.cons_append,qxr,qxr,q10 (a+1) x y,List.cons_append,List.length_cons,show a+(x.length+1)=a+1+x.length by omega]
theorem qly:∀(a:Nat) (x:List ByteArray),(S.puts (a:Int) x).length=x.length
 | _,[]=>rfl
 | a,s::x=>congrArg (·+1) (qly (a+1) x)
theorem zhx(L:List ByteArray)(a:Nat):over L a []=L:=by
 unfold over;rw[List.nil_append,List.length_nil,Nat.add_zero,List.take_append_drop]
theorem qgb{L:List ByteArray}{a:Nat}{ss:List ByteArray}(h:a+ss.length<=L.length):(over L a ss).length=L.length:=by
 unfold over;rw[List.length_append,List.length_append,List.length_take,List.length_drop];omega
theorem q4j{L:List ByteArray}{a:Nat}{ss:List ByteArray}(h:a+ss.length<=L.length):(over L a ss).take a=L.take a:=by
 unfold over;rw[List.take_append_of_le_length (by rw[List.length_take];omega),List.take_take,Nat.min_self]
theorem qpl{L:List ByteArray}{a:Nat}{ss:List ByteArray}(h:a+ss.length<=L.length):(over L a ss).drop a=ss++L.drop (a+ss.length):=by
 unfold over;rw[List.drop_append_of_le_length (by rw[List.length_take];omega),List.drop_eq_nil_of_le (by rw[List.length_take];omega),List.nil_append]
theorem zk2{L:List ByteArray}{a:Nat}{ss:List ByteArray}(hL:szS L)(hs:szS ss):szS (over L a ss):=fun s h=>by
 unfold over at h;rcases List.mem_append.1 h with h|h
 ·exact hL s (List.mem_of_mem_take h)
 rcases List.mem_append.1 h with h|h
 ·exact hs s h
 ·exact hL s (List.mem_of_mem_drop h)
theorem qlo:∀(ss:List ByteArray) (a:Nat) (L:List ByteArray),a+ss.length<=L.length->S.settled L (qr4 a ss)=over L a ss
 | [],a,L,_=>(zhx L a).symm
 | s::ss,a,L,h=>by
  rw[List.length_cons] at h;show S.settled (L.set (a:Int).toNat s) (qr4 (a+1) ss)=_;rw[Int.toNat_natCast,qlo ss (a+1) _ (by rw[List.length_set];omega)];unfold over;rw[List.length_cons,List.drop_set_of_lt (by omega),List.take_set];have:(L.take (a+1)).set a s=L.take a++[s]:=by
   rw[List.take_succ_eq_append_getElem (by omega),List.set_append_right _ _ (by rw[List.length_take];omega)];rw[List.length_take,Nat.min_eq_left (by omega),Nat.sub_self];rfl
  rw[this,List.append_assoc,List.cons_append,List.nil_append,show a+1+ss.length=a+(ss.length+1) by omega];rfl
theorem zfr{n a:Nat}{s:ByteArray}(hs:s.size=64)(h:a<n):S.badPut (n:Int) ((a:Int),s)=false:=by
 unfold S.badPut S.short S.inI;rw[decide_eq_true hs,decide_eq_true (show (0:Int)<=(a:Int) by omega),decide_eq_true (show (a:Int)<=(n:Int)-1 by omega)];rfl
theorem qxu{L:List ByteArray}{a:Nat}{s:ByteArray}{q:List DPut}{r:List DAct}(hs:s.size=64)(h:a<L.length)(hq:q.length<4000):S.doGo (S.put (a:Int) s::r) L q=S.doGo r L (q++[((a:Int),s)]):=by
 show cond false _ (cond (S.badPut (L.length:Int) ((a:Int),s)) _ (if q.length=4000 then _ else _))=_;rw[zfr hs h,cond_false,cond_false,if_neg (by omega)];rfl
theorem qte:∀(ss:List ByteArray) (a:Nat) (r:List DAct) (L:List ByteArray) (q:List DPut),szS ss->a+ss.length<=L.length->q.length+ss.length<=4000 ->
  S.doGo (S.puts (a:Int) ss++r) L q=S.doGo r L (q++qr4 a ss)
 | [],a,r,L,q,_,_,_=>by
  show S.doGo r L q=S.doGo r L (q++[]);rw[List.append_nil]
 | s::ss,a,r,L,q,hs,h,hq=>by
  rw[List.length_cons] at h hq;rw[qxr,List.cons_append,qxu (hs s (by simp)) (by omega) (by omega),qte ss (a+1) r L _ (fun t ht=>hs t (by simp[ht])) (by omega) (by rw[List.length_append];simp only[List.length_cons,List.length_nil];omega),List.append_assoc];rfl
theorem qrh(L:List ByteArray)(q:List DPut)(r:List DAct):S.doGo (S.sync::r) L q=S.doGo r (S.settled L q) []:=rfl
theorem zbt(L:List ByteArray)(q:List DPut):S.doGo [] L q=((L,q),0):=rfl
theorem zc3{s p:ByteArray}{n:Nat}(hs:s.size=64)(hp:p.size=64)(hn:n<=64):(S.tear s p n).size=64:=by
 unfold S.tear;rw[qbj,List.length_append,List.length_take,List.length_drop,qcl,qcl];omega
theorem zpa(s p:ByteArray)(n:Nat):rng ((qac p).take n++(qac s).drop n):=qfs (qeo (qd5 p) n) (qeh (qd5 s) n)
theorem qkw{n:Nat}(h2:n % 2=0)(h8:8<=n){h:Int}(hh:h=0\/h=1):∃a:Nat,S.half n h=((a:Int),((a+(n / 2-1):Nat):Int))/\1<=a/\a+(n / 2-1)<n/\(h=0->a=1)/\(h=1->a=n / 2):=by
 rcases hh with rfl|rfl
 ·refine⟨1,?_,by omega,by omega,fun _=>rfl,fun h=>(by cases h)⟩;unfold S.half;rw[if_pos rfl];exact Prod.ext rfl (by show ((n / 2:Nat):Int)=((1+(n / 2-1):Nat):Int);omega)
 ·refine⟨n / 2,?_,by omega,by omega,fun h=>(by cases h),fun _=>rfl⟩;unfold S.half;rw[if_neg (by decide)];exact Prod.ext rfl (by show (n:Int)-1=((n / 2+(n / 2-1):Nat):Int);omega)
structure Dk (L:List ByteArray):Prop where
 sz:szS L
 ge:8<=L.length
 le:L.length<=1000
 ev:L.length % 2=0
theorem Dk.check{L:List ByteArray}(h:Dk L):S.checkDisk (L,[])=0:=by
 unfold S.checkDisk;have h1:=h.ge;have h2:=h.le;have h3:L.any S.short=false:=by
  rw[Bool.eq_false_iff];intro e;obtain⟨s,hs,e⟩:=List.any_eq_true.1 e;unfold S.short at e;rw[decide_eq_true (h.sz s hs)] at e;cases e
 rw[if_neg (show ¬(1000<L.length\/4000<([]:List DPut).length) by simp;omega),if_neg];have:=h.ev;rintro(e|e|e|e)
 ·exact absurd e (show ¬L.length<8 by omega)
 ·exact e this
 ·cases e
 ·rw[show ((L,([]:List DPut)).1).any S.short=L.any S.short from rfl,h3] at e;cases e
def topB(h:Int):List Int:=h::List.replicate 63 0
structure Jn (L:List ByteArray) (h:Int) (a u:Nat) (c:List qaa):Prop where
 dk:Dk L
 hh:h=0\/h=1
 top:qac (L.getD 0 S.none_)=topB h
 fr:S.half L.length h=((a:Int),((a+(L.length / 2-1):Nat):Int))
 a1:1<=a
 to_:a+(L.length / 2-1)<L.length
 rc:∃f,S.recs f ((L.drop a).take (L.length / 2-1)) [] 0=some (c,u)
 u1:1<=u
theorem za4{L:List ByteArray}{h:Int}{a K:Nat}(hf:S.half L.length h=((a:Int),((a+K:Nat):Int))):S.halfS L h=(L.drop a).take K:=by
 unfold S.halfS;rw[hf];simp only[Int.toNat_natCast];rw[List.drop_take,Nat.add_sub_cancel_left]
theorem Jn.open_{L:List ByteArray}{h:Int}{a u:Nat}{c:List qaa}(j:Jn L h a u c):S.opened L=some (h,u,c):=by
 obtain⟨f,hf⟩:=j.rc;have h0:(qac (L.getD 0 S.none_)).getD 0 0=h:=by rw[j.top];rfl
 have hd:(qac (L.getD 0 S.none_)).drop 1=List.replicate 63 0:=by rw[j.top];rfl
 unfold S.opened;rw[h0,hd,if_neg (show ¬(1<h\/¬List.replicate 63 (0:Int)=List.replicate 63 0) from fun e=>by rcases e with e|e;(rcases j.hh with rfl|rfl<;>omega);exact e rfl),za4 j.fr];rw[zb6 f ((j.dk.sz.drop a).take _) hf (L.length+1) (by rw[List.length_take,List.length_drop];omega)];have:=j.u1;simp only;rw[if_neg (by omega)]
theorem zgj{L:List ByteArray}(d:Dk L){h:Int}{u:Nat}{c:List qaa}(ho:S.opened L=some (h,u,c)):∃a,Jn L h a u c:=by
 unfold S.opened at ho;split at ho
 ·cases ho
 rename_i hn;have hz:(L.getD 0 S.none_).size=64:=by
  have:=d.ge;rw[List.getD_eq_getElem?_getD,List.getElem?_eq_getElem (by omega)];exact d.sz _ (List.getElem_mem _)
 have hb:(qac (L.getD 0 S.none_)).length=64:=by rw[qcl,hz]
 have h0:=qq8 (qd5 (L.getD 0 S.none_)) 0;have ht:qac (L.getD 0 S.none_)=topB ((qac (L.getD 0 S.none_)).getD 0 0):=by
  cases hl:qac (L.getD 0 S.none_) with
  | nil=>rw[hl] at hb;cases hb
  | cons x r =>
   have:r=List.replicate 63 0:=by
    refine Classical.byContradiction fun e=>hn (.inr ?_);rw[hl];exact e
   rw[this];rfl
 split at ho
 ·rename_i c' u' hr;split at ho
  ·cases ho
  rename_i hu;cases ho;have hh:(qac (L.getD 0 S.none_)).getD 0 0=0\/(qac (L.getD 0 S.none_)).getD 0 0=1:=by omega
  obtain⟨a,e1,e2,e3,_,_⟩:=qkw d.ev d.ge hh;exact⟨a,d,hh,ht,e1,e2,e3,⟨_,by rw[<- za4 e1];exact hr⟩,by omega⟩
 ·cases ho
theorem Jn.kept{L L':List ByteArray}{h:Int}{a u:Nat}{c:List qaa}(j:Jn L h a u c)(d:Dk L')(hl:L'.length=L.length)(ht:L'.take (a+u)=L.take (a+u))(hu:u<=L.length / 2-1){c':List qaa}{v f:Nat}(hv:1<=v)
  (hr:S.recs f ((L'.drop (a+u)).take (L.length / 2-1-u)) c u=some (c',v)):Jn L' h a v c':=by
 obtain⟨f0,h0⟩:=j.rc;obtain⟨k1,k2,k3,k4,k5⟩:=q0p f0 ((j.dk.sz.drop a).take _) h0;rw[Nat.sub_zero] at k2 k3 k5;have hto:=j.to_;have ha1:=j.a1;have h2:((L'.drop a).take (L.length / 2-1)).take u=((L.drop a).take (L.length / 2-1)).take u:=by
  rw[List.take_take,List.take_take,Nat.min_eq_left hu];have:=congrArg (List.drop a) ht
  rwa [List.drop_take,List.drop_take,Nat.add_sub_cancel_left] at this
 obtain⟨f3,h3⟩:=k5 ((L'.drop a).take (L.length / 2-1)) ((d.sz.drop a).take _) h2 f (c',v) (by
  rw[List.drop_take,List.drop_drop];exact hr)
 refine⟨d,j.hh,?_,by rw[hl];exact j.fr,j.a1,by rw[hl];exact j.to_,⟨f3,by rw[hl];exact h3⟩,hv⟩;rw[q0u ht (by omega)];exact j.top
theorem Jn.le{L:List ByteArray}{h:Int}{a u:Nat}{c:List qaa}(j:Jn L h a u c):u<=L.length / 2-1/\okS c (-1)/\(u=L.length / 2-1\/(qac (L.getD (a+u) S.none_)).getD 0 0=0):=by
 obtain⟨f0,h0⟩:=j.rc;obtain⟨k1,k2,k3,k4,k5⟩:=q0p f0 ((j.dk.sz.drop a).take _) h0;have hto:=j.to_;have hl:((L.drop a).take (L.length / 2-1)).length=L.length / 2-1:=by rw[List.length_take,List.length_drop];omega
 rw[Nat.sub_zero,hl] at k2 k3;refine⟨k2,k4 ⟨rfl,fun x hx=>by cases hx⟩,?_⟩;rcases k3 with k3|k3
 ·exact .inl k3.symm
 ·by_cases e:u=L.length / 2-1
  ·exact .inl e
  ·refine .inr ?_;rw[zo3 _ _ (by omega),q4a] at k3;exact k3
theorem Jn.more{L L':List ByteArray}{h:Int}{a u:Nat}{c:List qaa}(j:Jn L h a u c)(d:Dk L')(hl:L'.length=L.length)(ht:L'.take (a+u)=L.take (a+u)){l:List qaa}(hc:S.okC l=true)(hb:(S.body l).length<16777216)
  (hn:u+(S.packed l 1).length<=L.length / 2-1) {rest:List ByteArray} (hr:L'.drop (a+u)=S.packed l 1++rest) (h0:u+(S.packed l 1).length=L.length / 2-1\/(qac (rest.getD 0 S.none_)).getD 0 0=0):Jn L' h a (u+(S.packed l 1).length) (S.changed c l):=by
 have hu:=j.u1;refine j.kept d hl ht (by omega) (f:=2) (by omega) ?_;rw[hr,List.take_append,List.take_of_length_le (by omega),q3t 1 l _ c u hc hb,show decide (u=0)=false from decide_eq_false (by omega),Bool.false_and,cond_false];cases hz:rest.take (L.length / 2-1-u-(S.packed l 1).length) with
 | nil=>rfl
 | cons s r =>
  rw[qe5];rcases h0 with h0|h0
  ·rw[show L.length / 2-1-u-(S.packed l 1).length=0 by omega,List.take_zero] at hz;cases hz
  ·have:s=rest.getD 0 S.none_:=by
    cases rest with
    | nil=>rw[List.take_nil] at hz;cases hz
    | cons s' r' =>
     cases hk:L.length / 2-1-u-(S.packed l 1).length with
     | zero=>rw[hk] at hz;cases hz
     | succ k=>rw[hk,List.take_succ_cons] at hz;cases hz;rfl
   rw[this,if_pos h0]
theorem Jn.same{L L':List ByteArray}{h:Int}{a u:Nat}{c:List qaa}(j:Jn L h a u c)(d:Dk L')(hl:L'.length=L.length)(ht:L'.take (a+u)=L.take (a+u))(h0:u=L.length / 2-1\/(qac (L'.getD (a+u) S.none_)).getD 0 0=0):Jn L' h a u c:=by
 have hu:=j.le.1;have hto:=j.to_;refine j.kept d hl ht hu (f:=1) j.u1 ?_;rcases h0 with h0|h0
 ·rw[show L.length / 2-1-u=0 by omega,List.take_zero];rfl
 ·cases hz:(L'.drop (a+u)).take (L.length / 2-1-u) with
  | nil=>rfl
  | cons s r =>
   have:s=L'.getD (a+u) S.none_:=by
    have:=congrArg (fun x:List ByteArray=>x[0]?) hz;simp only[List.getElem?_take,List.getElem?_drop,Nat.add_zero,List.getElem?_cons_zero] at this;split at this
    ·rw[List.getD_eq_getElem?_getD,this];rfl
    ·cases this
   rw[qe5,this,if_pos h0]
structure OkD (l:List ByteArray) (q:List DPut):Prop where
 sz:szS l
 le:l.length<=1000
 fit:S.fitP l q=true
 many:q.length<=4000
theorem qpm{l:List ByteArray}:S.anyShort l=false↔szS l:=by
 unfold S.anyShort S.short szS;rw[Bool.eq_false_iff];constructor
 ·intro h s hs;refine Classical.byContradiction fun e=>h (List.any_eq_true.2 ⟨s,hs,by rw[decide_eq_false e];rfl⟩)
 ·intro h e;obtain⟨s,hs,e⟩:=List.any_eq_true.1 e;rw[decide_eq_true (h s hs)] at e;cases e
theorem qdd{l:List ByteArray}{q:List DPut}:S.fitP l q=true↔∀p∈q,p.2.size=64/\0<=p.1/\p.1<l.length:=by
 unfold S.fitP;rw[List.all_eq_true];constructor
 ·intro h p hp;have:=h p hp;rw[Bool.not_eq_true'] at this;exact qpq.1 this
 ·intro h p hp;rw[Bool.not_eq_true'];exact qpq.2 (h p hp)
theorem qig{d:qab}(h:S.checkDisk d=0):OkD d.1 d.2/\8<=d.1.length/\d.1.length % 2=0:=by
 unfold S.checkDisk at h;split at h
 ·cases h
 rename_i h1;split at h
 ·cases h
 rename_i h2;have h3:d.1.any S.short=false:=by rw[Bool.eq_false_iff];exact fun e=>h2 (.inr (.inr (.inr e)))
 have h4:d.2.any (S.badPut d.1.length)=false:=by rw[Bool.eq_false_iff];exact fun e=>h2 (.inr (.inr (.inl e)))
 refine⟨⟨qpm.1 h3,by omega,?_,by omega⟩,by omega,Classical.byContradiction fun e=>h2 (.inr (.inl e))⟩;unfold S.fitP;rw[List.all_eq_true];intro p hp;rw[Bool.not_eq_true',Bool.eq_false_iff];intro e;rw[List.any_eq_false] at h4;exact h4 p hp e
theorem q9c:∀(q:List DPut) {l:List ByteArray},S.fitP l q=true->szS l->(S.settled l q).length=l.length/\szS (S.settled l q)
 | [],l,_,h=>⟨rfl,h⟩
 | p::q,l,hf,h=>by
  have hf:=qdd.1 hf;have hp:=hf p (by simp);obtain⟨i1,i2⟩:=q9c q (l:=l.set p.1.toNat p.2) (qdd.2 fun x hx=>by rw[List.length_set];exact hf x (by simp[hx])) fun s hs=>by
   rcases List.mem_or_eq_of_mem_set hs with hs|rfl
   ·exact h s hs
   ·exact hp.1
  exact⟨i1.trans (List.length_set ..),i2⟩
theorem OkD.sync{l:List ByteArray}{q:List DPut}(h:OkD l q):OkD (S.settled l q) []:=by
 obtain⟨h1,h2⟩:=q9c q h.fit h.sz;exact⟨h2,by rw[h1];exact h.le,rfl,Nat.zero_le _⟩
theorem OkD.put{l:List ByteArray}{q:List DPut}{p:DPut}(h:OkD l q)(hp:S.badPut l.length p=false)(hq:¬q.length=4000):OkD l (q++[p]):=by
 refine⟨h.sz,h.le,qdd.2 fun x hx=>?_,?_⟩
 ·rcases List.mem_append.1 hx with hx|hx
  ·exact qdd.1 h.fit x hx
  ·rw[List.mem_singleton.1 hx];exact qpq.1 hp
 ·have:=h.many;rw[List.length_append];simp only[List.length_cons,List.length_nil];omega
theorem qrb{s:ByteArray}:s.size=0↔s=S.lit []:=⟨fun h=>qe6 (by
  have h1:=qcl s;rw[h] at h1;rw[List.length_eq_zero_iff.1 h1];rfl),fun h=>by rw[h];rfl⟩
theorem zxc(v:DAct):(Bool.and (keqI v.2.1 (Int.ofNat 0)) (Bool.and (keqS v.2.2 (S.lit [])) Bool.true))=decide (v.2.1=0/\v.2.2.size=0):=by
 have e1:keqI v.2.1 (Int.ofNat 0)=decide (v.2.1=0):=rfl;have e2:keqS v.2.2 (S.lit [])=decide (v.2.2.size=0):=by
  show decide (v.2.2=S.lit [])=_;exact decide_eq_decide.2 qrb.symm
 rw[e1,e2,Bool.and_true,Bool.decide_and]
theorem zby(a:DAct)(r:List DAct)(l:List ByteArray)(q:List DPut):S.doGo (a::r) l q=cond a.1 (if a.2.1=0/\a.2.2.size=0 then S.doGo r (S.settled l q) [] else (([],[]),1))
  (cond (S.badPut l.length a.2) (([],[]),1) (if q.length=4000 then (([],[]),3) else S.doGo r l (q++[a.2]))):=rfl
theorem zwb(d:qab)(l:List DAct)(hl:l.length<LF):Fz10 LF d l=some ((S.doD d l).1,(S.doD d l).2,()):=by
 simp only[Fz10,qzx];show cond (!ieqI (S.checkDisk d) (Int.ofNat 0)) _ _=_;unfold S.doD;by_cases h0:S.checkDisk d=0
 ·rw[qbd (show _=Int.ofNat 0 from h0),Bool.not_true,cond_false,if_pos h0];refine range0 (σ:=List DPut × List ByteArray) (R:=qcr) l (fun i s=>(i,s.1,s.2)) (fun _ s=>OkD s.2 s.1) (fun rest _ s=>some ((S.doGo rest s.2 s.1).1,(S.doGo rest s.2 s.1).2,())) hl (fun K s _=>?_) (fun K i v rest s hs r h=>?_) (d.2,d.1) (qig h0).1
  ·simp only[qqi,qbv,cond_false];rfl
  ·obtain⟨q,t⟩:=s;simp only at hs h;have hle:=hs.le;have hm:=hs.many;have r1:Nat.ble (Nat.mul (Nat.add q.length 1) 24) 140737488355328=true:=Nat.ble_eq_true_of_le (by show (q.length+1)*24<=_;omega);have hw:=qi3 (n:=t.length) (by unfold LF;omega);have hb:∀p:DPut,S.badPut t.length p=(S.short p.2||!S.inI p.1 (Int.ofNat 0) ((t.length:Int)-1)):=fun _=>rfl;simp only[qqi,r.ilt,r.get,r.next,cond_true,hw,r1,hs.fit,zxc];rw[zby];obtain⟨sy,p1,p2⟩:=v;simp only;rw[hb];cases sy with
   | true =>
    simp only[cond_true,cond_false,Bool.not_true];by_cases hz:p1=0/\p2.size=0
    ·rw[decide_eq_true hz,if_pos hz];exact h ([],S.settled t q) hs.sync
    ·rw[decide_eq_false hz,if_neg hz];rfl
   | false =>
    simp only[cond_true,cond_false,Bool.not_false];cases hsh:S.short p2 with
    | true=>rfl
    | false =>
     cases hin:S.inI p1 (Int.ofNat 0) ((t.length:Int)-1) with
     | false=>rfl
     | true =>
      simp only[cond_true,cond_false,Bool.not_true,Bool.or_false];by_cases h4:q.length=4000
      ·rw[qbd (show Int.ofNat q.length=Int.ofNat 4000 from congrArg Int.ofNat h4),cond_true,if_pos h4];rfl
      ·rw[qbc (show ¬Int.ofNat q.length=Int.ofNat 4000 from fun e=>h4 (Int.ofNat.inj e)),cond_false,if_neg h4];exact h (q++[(p1,p2)],t) (hs.put (by rw[hb,hsh,hin];rfl) h4)
 ·rw[qbc (show ¬_=Int.ofNat 0 from h0),Bool.not_false,cond_true,if_neg h0]
theorem qri:Con Tryz.prog zt4 qpw:=zsz ⟨qgt,qin,q3e,zth,qqv,znd,trivial⟩ fun x y hx h=>⟨LF,(zwb x.1 x.2.1 (qbu (c:=cAct) hx.2.1)).trans h⟩
theorem zv1(s p:ByteArray)(n:Nat):ByteArray.append (ByteArray.extract p 0 n) (ByteArray.extract s n s.size)=S.tear s p n:=by
 unfold S.tear;refine qe6 ?_;rw[qb2 (zpa s p n)];show qac (p.extract 0 n++s.extract n s.size)=_;rw[zdw,q83,q9f s n s.size (Nat.le_refl _)]
theorem qht(p:DPut)(q:List DPut)(n:Int)(r:List Int)(l:List ByteArray):S.crashGo (p::q) (n::r) l=S.crashGo q r (l.set p.1.toNat (S.tear (l.getD p.1.toNat S.none_) p.2 n.toNat)):=rfl
theorem qyt{l:List ByteArray}(h:szS l){i:Nat}{s:ByteArray}(hs:s.size=64):szS (l.set i s):=fun t ht=>by
 rcases List.mem_or_eq_of_mem_set ht with ht|rfl
 ·exact h t ht
 ·exact hs
theorem q3m{s p:ByteArray}{n:Int}(hs:s.size=64)(hp:p.size=64)(h0:0<=n)(h1:n<=64) :
  lchk (Int.ofNat 0) n (Int.ofNat p.size) (Int.ofNat p.size)=true/\lchk n (Int.ofNat s.size) (Int.ofNat s.size) (Int.ofNat s.size)=true /\
  Nat.ble (Nat.succ (Nat.add (ByteArray.size (ByteArray.extract p 0 (Int.toNat n))) (ByteArray.size (ByteArray.extract s (Int.toNat n) (Int.toNat (Int.ofNat s.size)))))) 9223372036854775808=true /\
  ByteArray.append (ByteArray.extract p 0 (Int.toNat n)) (ByteArray.extract s (Int.toNat n) (Int.toNat (Int.ofNat s.size)))=S.tear s p n.toNat:=by
 rw[hs,hp];refine⟨qb4.2 ⟨Int.le_refl _,h0,h1,Int.le_refl _⟩,qb4.2 ⟨h0,h1,Int.le_refl _,Int.le_refl _⟩,Nat.ble_eq_true_of_le ?_,?_⟩
 ·rw[ByteArray.size_extract,ByteArray.size_extract];show _+_+1<=_;omega
 ·have:=zv1 s p n.toNat;rw[hs] at this;exact this
theorem zkp(d:qab)(l:List Int)(hl:l.length<LF):Fz11 LF d l=some ((S.crash d l).1,(S.crash d l).2,()):=by
 have e1:idxO (fun v0:Int=>(some (!(S.inI v0 (Int.ofNat 0) (Int.ofNat 64))))) l 0=some (Go.Jx.S.idx (fun n=>!S.inI n 0 64) l):=qr3 _ fun x _=>rfl;simp only[Fz11,qt7,qbt];show cond (!ieqI (S.checkDisk d) (Int.ofNat 0)) _ _=_;unfold S.crash;by_cases h0:S.checkDisk d=0
 ·rw[qbd (show _=Int.ofNat 0 from h0),Bool.not_true,cond_false,if_pos h0];by_cases h1:d.2.length<l.length
  ·rw[decide_eq_true h1,cond_true,if_pos (.inl h1)];rfl
  rw[decide_eq_false h1,cond_false,e1];simp only[qon];cases h2:l.any (fun n=>!S.inI n 0 64) with
  | true=>rw[cond_true,if_pos (.inr rfl)];rfl
  | false =>
  rw[cond_false,if_neg (by simp[h1])];have hk:∀n∈l,0<=n/\n<=64:=fun n hn=>by
   rw[List.any_eq_false] at h2;have:=h2 n hn;rw[Bool.not_eq_true,Bool.not_eq_false'] at this;exact qa8.1 this
  have hf:=qdd.1 (qig h0).1.fit;refine(range0 (σ:=List ByteArray) (R:=qcz) l (fun i s=>(i,s)) (fun _ s=>szS s/\s.length=d.1.length) (fun rest i s=>some ((S.crashGo (d.2.drop i) rest s,[]),0,())) hl (fun K s _=>?_) (fun K i v rest s hs r h=>?_) d.1 ⟨(qig h0).1.sz,rfl⟩).trans ?_
  ·simp only[qn0,qbv,cond_false];have:S.crashGo (d.2.drop l.length) [] s=s:=by cases d.2.drop l.length<;>rfl
   rw[this];rfl
  ·have hi:=r.lt;have hip:i<d.2.length:=by omega
   have hg:d.2[i]?=some d.2[i]:=List.getElem?_eq_getElem hip;obtain⟨z1,z2,z3⟩:=hf d.2[i] (List.getElem_mem hip);have hd:d.2.drop i=d.2[i]::d.2.drop (i+1):=List.drop_eq_getElem_cons hip;obtain⟨x,y1,y2,y3⟩:=qor (l:=s) z2 (by rw[hs.2];exact z3);have hx:=hs.1 x y3;obtain⟨v0,v1⟩:=hk v r.mem;obtain⟨w1,w2,w3,w4⟩:=q3m hx z1 v0 v1;simp only[qn0,r.ilt,r.get,r.next,cond_true,qdg,hg,y1,y2,w1,w2,w3,w4];rw[hd,qht,List.getD_eq_getElem?_getD,y2];exact h _ ⟨qyt hs.1 (zc3 hx z1 (by omega)),by rw[List.length_set];exact hs.2⟩
  ·rfl
 ·rw[qbc (show ¬_=Int.ofNat 0 from h0),Bool.not_false,cond_true,if_neg h0]
theorem q42:Con Tryz.prog zxs q32:=zu5 ⟨qgt,qin,qqv,trivial⟩ fun x y hx h=>⟨LF,(zkp x.1 x.2.1 (qbu (c:=.int .i64) hx.2.1)).trans h⟩
theorem zlt(n:Int)(h1:S.inI n 0 4000=true):Fz13 LF n=some (List.replicate n.toNat (64:Int),()):=by
 obtain⟨h2,h3⟩:=qa8.1 h1;obtain⟨k,rfl⟩:∃k:Nat,n=Int.ofNat k:=⟨n.toNat,by show n=((n.toNat:Nat):Int);omega⟩;have hk:k<=4000:=by have:(k:Int)<=4000:=h3;omega
 refine q5t (σ:=List Int) (R:=qcs) k (fun i q=>(i,q)) (fun i q=>q=List.replicate i (64:Int)) (fun _ _=>some (List.replicate k (64:Int),())) (by unfold LF;omega) (fun K q hq=>?_) (fun K i q hq hi hw hk=>?_) [] rfl
 ·simp only[qpd,qbv,cond_false];rw[hq]
 ·simp only[qpd];rw[qd3 (show Int.ofNat i<Int.ofNat k by show (i:Int)<(k:Int);omega),cond_true];rw[hq,Nat.ble_eq_true_of_le (by show ((List.replicate i (64:Int)).length+1)*8<=_;rw[List.length_replicate];omega),cond_true,hw];exact hk _ (by show List.replicate i (64:Int)++[64]=_;rw[List.replicate_succ'])
theorem znk:Con Tryz.prog zdj q88:=zwx trivial fun x y hx h=>⟨LF,by
 obtain⟨h1,h2⟩:=qba (show cond (S.inI x.1 0 4000) (some (List.replicate (Int.toNat x.1) (64:Int),())) none=some y from h);exact(zlt x.1 h1).trans (congrArg some h2)⟩
theorem qzv{q:List DPut}{m:List Int}:S.fitN q m=true↔m.length=q.length/\∀n∈m,0<=n/\n<=64:=by
 unfold S.fitN;rw[Bool.and_eq_true,decide_eq_true_iff,List.all_eq_true];exact and_congr_right fun _=>⟨fun h n hn=>qa8.1 (h n hn),fun h n hn=>qa8.2 (h n hn)⟩
theorem zzw(l:List ByteArray)(q:List DPut)(m:List Int)(hf:S.fitP l q=true)(hs:szS l)(hn:S.fitN q m=true)(hl:l.length<=1000)(hq:q.length<LF):Fz12 LF l q m=some (S.crashGo q m l,()):=by
 have hf:=qdd.1 hf;obtain⟨hn1,hn2⟩:=qzv.1 hn;simp only[Fz12,qty];rw[Nat.ble_eq_true_of_le (by show (0+l.length)*16<=_;omega),cond_true];refine(range0 (σ:=List ByteArray) (R:=qc4) q (fun i s=>(i,s)) (fun _ s=>szS s/\s.length=l.length) (fun rest i s=>some (S.crashGo rest (m.drop i) s,())) hq (fun K s _=>?_) (fun K i v rest s hs r h=>?_) l ⟨hs,rfl⟩).trans ?_
 ·simp only[qqh,qbv,cond_false];rfl
 ·have hi:=r.lt;have him:i<m.length:=by omega
  have hg:m[i]?=some m[i]:=List.getElem?_eq_getElem him;obtain⟨v0,v1⟩:=hn2 m[i] (List.getElem_mem him);have hd:m.drop i=m[i]::m.drop (i+1):=List.drop_eq_getElem_cons him;obtain⟨z1,z2,z3⟩:=hf v r.mem;obtain⟨x,y1,y2,y3⟩:=qor (l:=s) z2 (by rw[hs.2];exact z3);have hx:=hs.1 x y3;obtain⟨w1,w2,w3,w4⟩:=q3m hx z1 v0 v1;have hgm:jget m (Int.ofNat i)=some m[i]:=qdg.trans hg;simp only[qqh,r.ilt,r.get,r.next,cond_true,hgm,y1,y2,w1,w2,w3,w4];rw[hd,qht,List.getD_eq_getElem?_getD,y2];exact h _ ⟨qyt hs.1 (zc3 hx z1 (by omega)),by rw[List.length_set];exact hs.2⟩
 ·rfl
theorem q4b:Con Tryz.prog zii quz:=zer trivial fun x y hx h=>⟨LF,by
 obtain⟨h1,h2⟩:=qba (show cond (S.fitP x.1 x.2.1&&(!S.anyShort x.1&&(S.fitN x.2.1 x.2.2.1&&Nat.ble x.1.length 1000))) (some (S.crashGo x.2.1 x.2.2.1 x.1,())) none=some y from h);simp only[Bool.and_eq_true,Bool.not_eq_true'] at h1;exact(zzw x.1 x.2.1 x.2.2.1 h1.1 (qpm.1 h1.2.1) h1.2.2.1 (Nat.le_of_ble_eq_true h1.2.2.2) (qbu (c:=cPut) hx.2.1)).trans (congrArg some h2)⟩
theorem zdn{s p:ByteArray}(hs:s.size=64)(hp:p.size=64):S.tear s p 64=p:=by
 unfold S.tear;rw[List.take_of_length_le (by rw[qcl];omega),List.drop_eq_nil_of_le (by rw[qcl];omega),List.append_nil,qfl]
theorem q3q:∀(q:List DPut) {l:List ByteArray},S.fitP l q=true->szS l->S.crashGo q (List.replicate q.length (64:Int)) l=S.settled l q
 | [],l,_,_=>rfl
 | p::q,l,hf,h=>by
  have hf:=qdd.1 hf;obtain⟨z1,z2,z3⟩:=hf p (by simp);rw[List.length_cons,List.replicate_succ,qht];have hx:(l.getD p.1.toNat S.none_).size=64:=by
   rw[List.getD_eq_getElem?_getD,List.getElem?_eq_getElem (by omega)];exact h _ (List.getElem_mem _)
  rw[show ((64:Int)).toNat=64 from rfl,zdn hx z1];exact q3q q (qdd.2 fun x hx=>by rw[List.length_set];exact hf x (by simp[hx])) (qyt h z1)
theorem zr8(d:qab)(l:List DAct)(hl:l.length<LF):Fz14 LF d l=some (S.doD d l,()):=by
 simp only[Fz14,qvw];show cond (!ieqI (S.checkDisk d) (Int.ofNat 0)) _ _=_;unfold S.doD;by_cases h0:S.checkDisk d=0
 ·rw[qbd (show _=Int.ofNat 0 from h0),Bool.not_true,cond_false,if_pos h0];have hc:=(qig h0).1;have:=hc.le;have:=hc.many;rw[Nat.ble_eq_true_of_le (by show (0+d.1.length)*16<=_;omega),cond_true,Nat.ble_eq_true_of_le (by show (0+d.2.length)*24<=_;omega),cond_true];refine range0 (σ:=List DPut × List ByteArray) (R:=qcu) l (fun i s=>(i,s.1,s.2)) (fun _ s=>OkD s.2 s.1) (fun rest _ s=>some (S.doGo rest s.2 s.1,())) hl (fun K s _=>?_) (fun K i v rest s hs r h=>?_) (d.2,d.1) hc
  ·simp only[qp3,qbv,cond_false];rfl
  ·obtain⟨q,t⟩:=s;simp only at hs h;have hle:=hs.le;have hm:=hs.many;have r1:Nat.ble (Nat.mul (Nat.add q.length 1) 24) 140737488355328=true:=Nat.ble_eq_true_of_le (by show (q.length+1)*24<=_;omega);have hw:=qi3 (n:=t.length) (by unfold LF;omega);have hb:∀p:DPut,S.badPut t.length p=(S.short p.2||!S.inI p.1 (Int.ofNat 0) ((t.length:Int)-1)):=fun _=>rfl;have hin4:S.inI (Int.ofNat q.length) (Int.ofNat 0) (Int.ofNat 4000)=true:=qa8.2 ⟨Int.natCast_nonneg _,by show (q.length:Int)<=4000;omega⟩;have hfn:S.fitN q (List.replicate q.length (Int.ofNat 64))=true:=qzv.2 ⟨List.length_replicate,fun n hn=>by rw[(List.mem_replicate.1 hn).2];decide⟩;have hca:S.crashGo q (List.replicate q.length (Int.ofNat 64)) t=S.settled t q:=q3q q hs.fit hs.sz;have htn:Int.toNat (Int.ofNat q.length)=q.length:=rfl;simp only[qp3,r.ilt,r.get,r.next,cond_true,hw,r1,hin4,htn,hs.fit,qpm.2 hs.sz,hfn,Nat.ble_eq_true_of_le hle,hca,Bool.not_false,Bool.and_true,<- qp4];rw[zby];obtain⟨sy,p1,p2⟩:=v;simp only;rw[hb];cases sy with
   | true =>
    simp only[cond_true];by_cases hz1:p1=0
    ·rw[qbd (show p1=Int.ofNat 0 from hz1),Bool.not_true,cond_false];by_cases hz2:p2.size=0
     ·rw[show keqS p2 (S.lit [])=true from decide_eq_true (qrb.1 hz2),Bool.not_true,cond_false,if_pos ⟨hz1,hz2⟩];exact h ([],S.settled t q) hs.sync
     ·rw[show keqS p2 (S.lit [])=false from decide_eq_false (fun e=>hz2 (qrb.2 e)),Bool.not_false,cond_true,if_neg (fun e=>hz2 e.2)];rfl
    ·rw[qbc (show ¬p1=Int.ofNat 0 from hz1),Bool.not_false,cond_true,if_neg (fun e=>hz1 e.1)];rfl
   | false =>
    simp only[cond_false];cases hin:S.inI p1 (Int.ofNat 0) ((t.length:Int)-1) with
    | false=>rw[Bool.not_false,cond_true,Bool.or_true];rfl
    | true =>
     simp only[cond_true,cond_false,Bool.not_true,Bool.or_false];cases hsh:S.short p2 with
     | true=>rfl
     | false =>
      rw[cond_false,cond_false];by_cases h4:q.length=4000
      ·rw[qbd (show Int.ofNat q.length=Int.ofNat 4000 from congrArg Int.ofNat h4),cond_true,if_pos h4];rfl
      ·rw[qbc (show ¬Int.ofNat q.length=Int.ofNat 4000 from fun e=>h4 (Int.ofNat.inj e)),cond_false,if_neg h4];exact h (q++[(p1,p2)],t) (hs.put (by rw[hb,hsh,hin];rfl) h4)
 ·rw[qbc (show ¬_=Int.ofNat 0 from h0),Bool.not_false,cond_true,if_neg h0]
theorem zqp:Con Tryz.prog zr4 q4l:=ze1 ⟨qom,qns,q4b,znk,trivial⟩ fun x y hx h=>⟨LF,(zr8 x.1 x.2.1 (qbu (c:=cAct) hx.2.1)).trans h⟩
theorem q4e:∀(q:List DPut) (k:Nat) {l:List ByteArray},S.fitP l q=true->S.crashGo q (List.replicate k (0:Int)) l=l
 | [],k,l,_=>by cases k<;>rfl
 | p::q,0,l,_=>rfl
 | p::q,k+1,l,hf=>by
  obtain⟨z1,z2,z3⟩:=qdd.1 hf p (by simp);rw[List.replicate_succ,qht];have e:S.tear (l.getD p.1.toNat S.none_) p.2 (Int.toNat 0)=l.getD p.1.toNat S.none_:=by
   unfold S.tear;rw[show Int.toNat 0=0 from rfl,List.take_zero,List.nil_append,List.drop_zero,qfl]
  have e2:l.set p.1.toNat (l.getD p.1.toNat S.none_)=l:=by
   rw[List.getD_eq_getElem?_getD,List.getElem?_eq_getElem (by omega)];exact List.set_getElem_self _
  rw[e,e2];exact q4e q k (qdd.2 fun x hx=>qdd.1 hf x (by simp[hx]))
theorem zc7:∀(q:List DPut) (m:List Int) (k:Nat) {l:List ByteArray},S.fitP l q=true->S.crashGo q (m++List.replicate k (0:Int)) l=S.crashGo q m l
 | q,[],k,l,hf=>by
  rw[List.nil_append,q4e q k hf];cases q<;>rfl
 | [],n::m,k,l,hf=>rfl
 | p::q,n::m,k,l,hf=>by
  rw[List.cons_append,qht,qht];exact zc7 q m k (qdd.2 fun x hx=>by rw[List.length_set];exact qdd.1 hf x (by simp[hx]))
theorem zuj(d:qab)(l:List Int)(hl:l.length<LF):Fz15 LF d l=some (S.crash d l,()):=by
 simp only[Fz15,qyv,qbt];show cond (!ieqI (S.checkDisk d) (Int.ofNat 0)) _ _=_;unfold S.crash;by_cases h0:S.checkDisk d=0
 ·rw[qbd (show _=Int.ofNat 0 from h0),Bool.not_true,cond_false,if_pos h0];by_cases h1:d.2.length<l.length
  ·rw[decide_eq_true h1,cond_true,if_pos (.inl h1)];rfl
  have hc:=(qig h0).1;have hm:=hc.many;rw[decide_eq_false h1,cond_false,decide_eq_false (show ¬d.2.length<0 by omega),cond_false,show Nat.ble (Nat.mul (Int.toNat (Int.ofNat d.2.length)) 8) 140737488355328=true from Nat.ble_eq_true_of_le (by show d.2.length*8<=_;omega),cond_true];refine(range0 (σ:=List Int) (R:=qc1) l (fun i s=>(i,s)) (fun i s=>(∀n∈l.take i,0<=n/\n<=64)/\s=l.take i++List.replicate (d.2.length-i) (0:Int)) (fun rest i s=>some (if rest.any (fun n=>!S.inI n 0 64)=true then (([],[]),1) else ((S.crashGo d.2 l d.1,[]),0),())) hl (fun K s hs=>?_) (fun K i v rest s hs r h=>?_) _ ⟨fun n hn=>(by cases hn),by show List.replicate _ _=_;rfl⟩).trans ?_
  ·obtain⟨hs1,rfl⟩:=hs;rw[List.take_length] at hs1;simp only[qpi,qbv,cond_false,List.take_length];have hfn:S.fitN d.2 (l++List.replicate (d.2.length-l.length) (0:Int))=true:=qzv.2 ⟨by rw[List.length_append,List.length_replicate];omega,fun n hn=>by
    rcases List.mem_append.1 hn with hn|hn
    ·exact hs1 n hn
    ·rw[(List.mem_replicate.1 hn).2];decide⟩
   rw[hc.fit,qpm.2 hc.sz,hfn,Nat.ble_eq_true_of_le hc.le,zc7 d.2 l _ hc.fit];rfl
  ·obtain⟨hs1,rfl⟩:=hs;have hi:=r.lt;have hlt:(l.take i).length=i:=by rw[List.length_take];omega
   have hrep:List.replicate (d.2.length-i) (0:Int)=0::List.replicate (d.2.length-(i+1)) 0:=by rw[show d.2.length-i=d.2.length-(i+1)+1 by omega];rfl
   have hg:(l.take i++List.replicate (d.2.length-i) (0:Int))[i]?=some 0:=by
    rw[hrep,List.getElem?_append_right (by omega),hlt,Nat.sub_self];rfl
   have hj:jget (l.take i++List.replicate (d.2.length-i) (0:Int)) (Int.ofNat i)=some 0:=qdg.trans hg;have htn:Int.toNat (Int.ofNat i)=i:=rfl;simp only[qpi,r.ilt,r.get,r.next,cond_true,hj,htn,hg];show cond (!S.inI v 0 64) _ _=_;cases hv:S.inI v 0 64 with
   | false =>
    rw[Bool.not_false,cond_true,if_pos (by rw[List.any_cons,hv];rfl)];rfl
   | true =>
    rw[Bool.not_true,cond_false,List.any_cons,hv,Bool.not_true,Bool.false_or];refine h _ ⟨fun n hn=>?_,?_⟩
    ·rw[r.take] at hn;rcases List.mem_append.1 hn with hn|hn
     ·exact hs1 n hn
     ·rw[List.mem_singleton.1 hn];exact qa8.1 hv
    ·rw[hrep,r.take,List.set_append_right _ _ (by omega),hlt,Nat.sub_self,List.set_cons_zero,List.append_assoc];rfl
  ·by_cases h2:l.any (fun n=>!S.inI n 0 64)=true
   ·rw[if_pos h2,if_pos (.inr h2)]
   ·rw[if_neg h2,if_neg (fun e=>by rcases e with e|e;exact h1 e;exact h2 e)]
 ·rw[qbc (show ¬_=Int.ofNat 0 from h0),Bool.not_false,cond_true,if_neg h0]
theorem zr6:Con Tryz.prog zi2 zbb:=zqk ⟨qom,qns,q4b,trivial⟩ fun x y hx h=>⟨LF,(zuj x.1 x.2.1 (qbu (c:=.int .i64) hx.2.1)).trans h⟩
def qk0:Nat->Option Nm:=fun k=>none
def qrm:Nat->Bool:=fun k=>false
def qsp:=qrm
abbrev qg1:Type:=ByteArray × Unit
def qy0:List (Nat × Sm):=[]
def qzp:List (Nat × Hx):=[]
def q2s(R:Type)(lf:Nat):ClK R:=qao Tryz.prog ttT.get ftT.get (nm1 92 qk0) (smL qy0) (hxL qzp) lf 20 R
abbrev zi3:Nat:=92
def qwh(lf:Nat)(x1:Int):Option qg1:=(some ((ByteArray.mk (Array.mk (List.cons (UInt8.ofBitVec (BitVec.ofFin (Fin.mk (Nat.mod (Int.toNat (IntKind.u8.wrap (Int.fdiv x1 (Int.ofNat 256)))) 256) (Nat.mod_lt (Int.toNat (IntKind.u8.wrap (Int.fdiv (x1,()).1 (HPow.hPow (OfNat.ofNat 2) (Min.min (Int.toNat (OfNat.ofNat 8)) (IntKind.bits IntKind.i64)))))) (BitVec.ofNat._proof_1 (OfNat.ofNat 8)))))) (List.cons (UInt8.ofBitVec (BitVec.ofFin (Fin.mk (Nat.mod (Int.toNat (IntKind.u8.wrap x1)) 256) (Nat.mod_lt (Int.toNat (IntKind.u8.wrap (x1,()).1)) (BitVec.ofNat._proof_1 (OfNat.ofNat 8)))))) [])))),()))
abbrev gz29:Type:=ElA [(.int .i64)]->Option qg1
abbrev sz29(g:gz29):Sm:=⟨[(.int .i64)],[(false,.str)],g⟩
abbrev Ez29(g:gz29)(J:JT qg1)(lf:Nat)(x1:Int):=qax Tryz.prog ttT.get qk0 fi92.nt (q2s _ lf) lf qrm J fi92.body [] (qam (argV [(.int .i64)] (x1,())) 0 .leaf) S0 [] (qal ttT.get fi92 (sz29 g))
theorem zts(g:gz29)(J:JT qg1)(lf:Nat)(x1:Int):Ez29 g J lf x1=qwh lf x1:=by kernel_rfl
theorem zuz:(regs fi92.body).Nodup:=by decide +kernel
theorem zz9:okC qk0 qrm qsp fi92.body none=true:=by kernel_rfl
def Az29(g:gz29)(lf:Nat):JT qg1:=atN Tryz.prog ttT.get qk0 fi92 (sz29 g) (q2s _ lf) lf qsp
def Fz29(lf:Nat)(x1:Int):Option qg1:=qwh lf x1
theorem zy0(g:gz29)(lf:Nat)(x1:Int):Ez29 g (Az29 g lf) lf x1=Fz29 lf x1:=by
  refine(zts g (Az29 g lf) lf x1).trans ?_;rfl
theorem znx:qat Tryz.prog qzp:=trivial
theorem zn1{g:gz29}(hsm:SmOK Tryz.prog qy0)(hg:∀(x:ElA [(.int .i64)]) (y:qg1),WfA [(.int .i64)] x->g x=some y->∃lf,Fz29 lf x.1=some y):Con Tryz.prog 92 ⟨[(.int .i64)],[(false,.str)],g⟩ :=
 conT (nmf:=qk0) (sml:=qy0) (hxl:=qzp) (st:=qrm) (hd:=qsp) 20 mixed ttOK ftOK hsm znx zum rfl rfl (by kernel_rfl) (fun x=>by kernel_rfl) zuz zz9 fun x y hx hy=>by
  obtain⟨lf,h⟩:=hg x y hx hy;exact⟨lf,(zy0 g lf x.1).trans h⟩
def qjv:Nat->Option Nm:=fun k=>cond (Nat.beq k 3) (some ⟨[3,6,7,8],[],[],[],[],0,0,false⟩) (none)
def qma:Nat->Bool:=fun k=>cond (Nat.beq k 3) true (false)
def qyi:=qma
abbrev qct:Type:=ByteArray × Unit
def qsm:List (Nat × Sm):=[(92,qsa)]
def qso:List (Nat × Hx):=[]
def qxb(R:Type)(lf:Nat):ClK R:=qao Tryz.prog ttT.get ftT.get (nm1 91 qjv) (smL qsm) (hxL qso) lf 20 R
abbrev zmb:Nat:=91
def qje(x1:(List qaa))(p:ByteArray × Int):NRes:=(NRes.mk (.node none (.node none (.node (some (IV.str p.1)) (.node (some (IV.int .i64 (Int.ofNat (List.length x1)))) .leaf .leaf) .leaf) .leaf) (.node none (.node none (.node (some (IV.int .i64 p.2)) .leaf .leaf) .leaf) (.node (some (IV.lst qae x1)) .leaf .leaf))) (IS.mk .leaf 0) [] 0)
def za2(lf:Nat)(x1:(List qaa))(L3:(ByteArray × Int)->Option qct):Option qct:=(L3 ((S.lit []),(Int.ofNat 0)))
def qn8(lf:Nat)(x1:(List qaa))(L3:(ByteArray × Int)->Option qct)(p:ByteArray × Int):Option qct:=(cond (iltI p.2 (Int.ofNat (List.length x1))) (match (jget x1 p.2) with|.none  => none|.some v0=>(cond (Nat.ble (Nat.succ (Nat.add (ByteArray.size p.1) 1)) 9223372036854775808) (cond v0.2.2 (match (cond (S.inI (Int.ofNat 0) (Int.ofNat 0) (Int.ofNat 16777215)) (some ((S.lit [0,0]),())) none) with|.none  => none|.some v1=>(cond (Nat.ble (Nat.succ (Nat.add (ByteArray.size (ByteArray.append p.1 (ByteArray.mk (Array.mk (List.cons (UInt8.ofBitVec (BitVec.ofFin (Fin.mk (Nat.mod (Int.toNat (IntKind.u8.wrap v0.1)) 256) (Nat.mod_lt (Int.toNat (IntKind.u8.wrap v0.1)) (BitVec.ofNat._proof_1 (OfNat.ofNat 8)))))) []))))) (ByteArray.size v1.1))) 9223372036854775808) (L3 ((ByteArray.append (ByteArray.append p.1 (ByteArray.mk (Array.mk (List.cons (UInt8.ofBitVec (BitVec.ofFin (Fin.mk (Nat.mod (Int.toNat (IntKind.u8.wrap v0.1)) 256) (Nat.mod_lt (Int.toNat (IntKind.u8.wrap v0.1)) (BitVec.ofNat._proof_1 (OfNat.ofNat 8)))))) [])))) v1.1),(IntKind.i64.wrap (Int.add p.2 (Int.ofNat 1))))) none)) (match (cond (S.inI (IntKind.i64.wrap (Int.ofNat (Nat.add (ByteArray.size v0.2.1) 1))) (Int.ofNat 0) (Int.ofNat 16777215)) (some ((qag (S.two (Int.toNat (IntKind.i64.wrap (Int.ofNat (Nat.add (ByteArray.size v0.2.1) 1)))))),())) none) with|.none  => none|.some v37=>(cond (Nat.ble (Nat.succ (Nat.add (ByteArray.size v37.1) (ByteArray.size v0.2.1))) 9223372036854775808) (cond (Nat.ble (Nat.succ (Nat.add (ByteArray.size (ByteArray.append p.1 (ByteArray.mk (Array.mk (List.cons (UInt8.ofBitVec (BitVec.ofFin (Fin.mk (Nat.mod (Int.toNat (IntKind.u8.wrap v0.1)) 256) (Nat.mod_lt (Int.toNat (IntKind.u8.wrap v0.1)) (BitVec.ofNat._proof_1 (OfNat.ofNat 8)))))) []))))) (ByteArray.size (ByteArray.append v37.1 v0.2.1)))) 9223372036854775808) (L3 ((ByteArray.append (ByteArray.append p.1 (ByteArray.mk (Array.mk (List.cons (UInt8.ofBitVec (BitVec.ofFin (Fin.mk (Nat.mod (Int.toNat (IntKind.u8.wrap v0.1)) 256) (Nat.mod_lt (Int.toNat (IntKind.u8.wrap v0.1)) (BitVec.ofNat._proof_1 (OfNat.ofNat 8)))))) [])))) (ByteArray.append v37.1 v0.2.1)),(IntKind.i64.wrap (Int.add p.2 (Int.ofNat 1))))) none) none))) none)) (some (p.1,())))
abbrev gz30:Type:=ElA [(.list qae)]->Option qct
abbrev sz30(g:gz30):Sm:=⟨[(.list qae)],[(false,.str)],g⟩
abbrev Ez30(g:gz30)(J:JT qct)(lf:Nat)(x1:(List qaa)):=qax Tryz.prog ttT.get qjv fi91.nt (qxb _ lf) lf qma J fi91.body [] (qam (argV [(.list qae)] (x1,())) 0 .leaf) S0 [] (qal ttT.get fi91 (sz30 g))
abbrev Bz30(g:gz30)(J:JT qct)(lf k:Nat)(ms:List Nat)(q:NRes):=qbr Tryz.prog ttT.get qjv fi91.nt (qxb _ lf) lf qma J k fi91.body [] ms q (qal ttT.get fi91 (sz30 g))
theorem zr7(g:gz30)(J:JT qct)(lf:Nat)(x1:(List qaa)):Ez30 g J lf x1=za2 lf x1 (fun q=>J 3 [lf] (qje x1 q)):=by kernel_rfl
theorem zej(g:gz30)(J:JT qct)(lf:Nat)(x1:(List qaa))(m1:Nat)(p:ByteArray × Int):Bz30 g J lf 3 [m1] (qje x1 p)=qn8 lf x1 (fun q=>J 3 [m1] (qje x1 q)) p:=by kernel_rfl
theorem q8t:(regs fi91.body).Nodup:=by decide +kernel
theorem zau:okC qjv qma qyi fi91.body none=true:=by kernel_rfl
def Az30(g:gz30)(lf:Nat):JT qct:=atN Tryz.prog ttT.get qjv fi91 (sz30 g) (qxb _ lf) lf qyi
def qpa(lf:Nat)(x1:(List qaa)):Nat->(ByteArray × Int)->Option qct:=qa2 fun K p=>qn8 lf x1 K p
theorem zb5(g:gz30)(lf:Nat)(x1:(List qaa)):∀(n:Nat) (p:ByteArray × Int),Az30 g lf 3 [n] (qje x1 p)=qpa lf x1 n p
 | 0,p=>qbl 3 [0] rfl _
 | n+1,p=>by
  have ih:=zb5 g lf x1 n;refine(qbm (qa5 20 _) q8t zau 3 [n+1] [n] rfl _).trans ((zej g (Az30 g lf) lf x1 n p).trans ?_);rw[(show (fun q=>Az30 g lf 3 [n] (qje x1 q))=(fun q=>qpa lf x1 n q) from funext ih)];rfl
def Fz30(lf:Nat)(x1:(List qaa)):Option qct:=za2 lf x1 (fun q=>qpa lf x1 lf q)
theorem zvq(g:gz30)(lf:Nat)(x1:(List qaa)):Ez30 g (Az30 g lf) lf x1=Fz30 lf x1:=by
  refine(zr7 g (Az30 g lf) lf x1).trans ?_;rw[(show (fun q=>Az30 g lf 3 [lf] (qje x1 q))=(fun q=>qpa lf x1 lf q) from funext fun q=>zb5 g lf x1 lf q)];rfl
theorem zhd:qat Tryz.prog qso:=trivial
theorem zn0{g:gz30}(hsm:SmOK Tryz.prog qsm)(hg:∀(x:ElA [(.list qae)]) (y:qct),WfA [(.list qae)] x->g x=some y->∃lf,Fz30 lf x.1=some y):Con Tryz.prog 91 ⟨[(.list qae)],[(false,.str)],g⟩ :=
 conT (nmf:=qjv) (sml:=qsm) (hxl:=qso) (st:=qma) (hd:=qyi) 20 mixed ttOK ftOK hsm zhd zzx rfl rfl (by kernel_rfl) (fun x=>by kernel_rfl) q8t zau fun x y hx hy=>by
  obtain⟨lf,h⟩:=hg x y hx hy;exact⟨lf,(zvq g lf x.1).trans h⟩
def qjk:Nat->Option Nm:=fun k=>cond (Nat.beq k 3) (some ⟨[4],[],[],[],[],0,0,false⟩) (cond (Nat.beq k 6) (some ⟨[4,5],[(5,.str)],[],[],[],0,0,false⟩) (none))
def qlp:Nat->Bool:=fun k=>cond (Nat.beq k 3) true (cond (Nat.beq k 6) true (false))
def qvy:=qlp
abbrev qb6:Type:=(List ByteArray) × Unit
def qv2:List (Nat × Sm):=[(91,q5r),(92,qsa)]
def qzj:List (Nat × Hx):=[]
def qvo(R:Type)(lf:Nat):ClK R:=qao Tryz.prog ttT.get ftT.get (nm1 56 qjk) (smL qv2) (hxL qzj) lf 20 R
abbrev zmu:Nat:=56
def qjn(x1:(List qaa))(p:ByteArray):NRes:=(NRes.mk (.node none .leaf (.node none (.node (some (IV.str p)) .leaf .leaf) .leaf)) (IS.mk .leaf 0) [] 0)
def qh3(x1:(List qaa))(p:ByteArray × (List ByteArray)):NRes:=(NRes.mk (.node none (.node none .leaf (.node (some (IV.arr 0)) .leaf .leaf)) (.node none (.node (some (IV.str p.1)) .leaf .leaf) .leaf)) (IS.mk (.node (some (IObj.arr TC.str p.2)) .leaf .leaf) 1) [] 0)
def qr7(lf:Nat)(x1:(List qaa))(L3:ByteArray->Option qb6):Option qb6:=(match (cond (S.pk x1) (some ((qag (S.body x1)),())) none) with|.none  => none|.some v0=>(match (cond (S.inI (Int.ofNat (ByteArray.size v0.1)) (Int.ofNat 0) (Int.ofNat 16777215)) (some ((qag (S.two (Int.toNat (Int.ofNat (ByteArray.size v0.1))))),())) none) with|.none  => none|.some v1=>(cond (Nat.ble (Nat.succ (Nat.add 2 (ByteArray.size v1.1))) 9223372036854775808) (cond (Nat.ble (Nat.succ (Nat.add (ByteArray.size (ByteArray.append (ByteArray.mk (Array.mk (List.cons (UInt8.ofBitVec (BitVec.ofFin (Fin.mk 1 (Nat.mod_lt (Int.toNat (OfNat.ofNat 1)) (BitVec.ofNat._proof_1 (OfNat.ofNat 8)))))) (List.cons (UInt8.ofBitVec (BitVec.ofFin (Fin.mk (Nat.mod (Int.toNat (IntKind.u8.wrap (Int.fdiv (Int.ofNat (ByteArray.size v0.1)) (Int.ofNat 65536)))) 256) (Nat.mod_lt (Int.toNat (IntKind.u8.wrap (Int.fdiv (Nat.cast (ByteArray.size v0.1)) (HPow.hPow (OfNat.ofNat 2) (Min.min (Int.toNat (OfNat.ofNat 16)) (IntKind.bits IntKind.i64)))))) (BitVec.ofNat._proof_1 (OfNat.ofNat 8)))))) [])))) v1.1)) (ByteArray.size v0.1))) 9223372036854775808) (L3 (ByteArray.append (ByteArray.append (ByteArray.mk (Array.mk (List.cons (UInt8.ofBitVec (BitVec.ofFin (Fin.mk 1 (Nat.mod_lt (Int.toNat (OfNat.ofNat 1)) (BitVec.ofNat._proof_1 (OfNat.ofNat 8)))))) (List.cons (UInt8.ofBitVec (BitVec.ofFin (Fin.mk (Nat.mod (Int.toNat (IntKind.u8.wrap (Int.fdiv (Int.ofNat (ByteArray.size v0.1)) (Int.ofNat 65536)))) 256) (Nat.mod_lt (Int.toNat (IntKind.u8.wrap (Int.fdiv (Nat.cast (ByteArray.size v0.1)) (HPow.hPow (OfNat.ofNat 2) (Min.min (Int.toNat (OfNat.ofNat 16)) (IntKind.bits IntKind.i64)))))) (BitVec.ofNat._proof_1 (OfNat.ofNat 8)))))) [])))) v1.1) v0.1)) none) none)))
def qhz(lf:Nat)(x1:(List qaa))(L3:ByteArray->Option qb6)(L6:(ByteArray × (List ByteArray))->Option qb6)(p:ByteArray):Option qb6:=(cond (Bool.not (ieqI (Int.ofNat (Nat.mod (ByteArray.size p) 64)) (Int.ofNat 0))) (cond (Nat.ble (Nat.succ (Nat.add (ByteArray.size p) 1)) 9223372036854775808) (L3 (ByteArray.append p (S.lit [0]))) none) (L6 (p,[])))
def qh7(lf:Nat)(x1:(List qaa))(L6:(ByteArray × (List ByteArray))->Option qb6)(p:ByteArray × (List ByteArray)):Option qb6:=(cond (iltI (Int.ofNat 0) (Int.ofNat (ByteArray.size p.1))) (cond (lchk (Int.ofNat 0) (Int.ofNat 64) (Int.ofNat (ByteArray.size p.1)) (Int.ofNat (ByteArray.size p.1))) (cond (Nat.ble (Nat.mul (Nat.add (List.length p.2) 1) 16) 140737488355328) (cond (lchk (Int.ofNat 64) (Int.ofNat (ByteArray.size p.1)) (Int.ofNat (ByteArray.size p.1)) (Int.ofNat (ByteArray.size p.1))) (L6 ((ByteArray.extract p.1 64 (Int.toNat (Int.ofNat (ByteArray.size p.1)))),(List.append p.2 (List.cons (ByteArray.extract p.1 0 64) [])))) none) none) none) (some (p.2,())))
abbrev gz31:Type:=ElA [(.list qae)]->Option qb6
abbrev sz31(g:gz31):Sm:=⟨[(.list qae)],[(true,.str)],g⟩
abbrev Ez31(g:gz31)(J:JT qb6)(lf:Nat)(x1:(List qaa)):=qax Tryz.prog ttT.get qjk fi56.nt (qvo _ lf) lf qlp J fi56.body [] (qam (argV [(.list qae)] (x1,())) 0 .leaf) S0 [] (qal ttT.get fi56 (sz31 g))
abbrev Bz31(g:gz31)(J:JT qb6)(lf k:Nat)(ms:List Nat)(q:NRes):=qbr Tryz.prog ttT.get qjk fi56.nt (qvo _ lf) lf qlp J k fi56.body [] ms q (qal ttT.get fi56 (sz31 g))
theorem zif(g:gz31)(J:JT qb6)(lf:Nat)(x1:(List qaa)):Ez31 g J lf x1=qr7 lf x1 (fun q=>J 3 [lf] (qjn x1 q)):=by kernel_rfl
theorem zkm(g:gz31)(J:JT qb6)(lf:Nat)(x1:(List qaa))(m1:Nat)(p:ByteArray):Bz31 g J lf 3 [m1] (qjn x1 p)=qhz lf x1 (fun q=>J 3 [m1] (qjn x1 q)) (fun q=>J 6 [lf] (qh3 x1 q)) p:=by kernel_rfl
theorem zvj(g:gz31)(J:JT qb6)(lf:Nat)(x1:(List qaa))(m1:Nat)(p:ByteArray × (List ByteArray)):Bz31 g J lf 6 [m1] (qh3 x1 p)=qh7 lf x1 (fun q=>J 6 [m1] (qh3 x1 q)) p:=by kernel_rfl
theorem qwu:(regs fi56.body).Nodup:=by decide +kernel
theorem qxm:okC qjk qlp qvy fi56.body none=true:=by kernel_rfl
def Az31(g:gz31)(lf:Nat):JT qb6:=atN Tryz.prog ttT.get qjk fi56 (sz31 g) (qvo _ lf) lf qvy
def qdp(lf:Nat)(x1:(List qaa)):Nat->(ByteArray × (List ByteArray))->Option qb6:=qa2 fun K p=>qh7 lf x1 K p
theorem q9t(g:gz31)(lf:Nat)(x1:(List qaa)):∀(n:Nat) (p:ByteArray × (List ByteArray)),Az31 g lf 6 [n] (qh3 x1 p)=qdp lf x1 n p
 | 0,p=>qbl 6 [0] rfl _
 | n+1,p=>by
  have ih:=q9t g lf x1 n;refine(qbm (qa5 20 _) qwu qxm 6 [n+1] [n] rfl _).trans ((zvj g (Az31 g lf) lf x1 n p).trans ?_);rw[(show (fun q=>Az31 g lf 6 [n] (qh3 x1 q))=(fun q=>qdp lf x1 n q) from funext ih)];rfl
def qhe(lf:Nat)(x1:(List qaa)):Nat->(ByteArray)->Option qb6:=qa2 fun K p=>qhz lf x1 K (fun q=>qdp lf x1 lf q) p
theorem q36(g:gz31)(lf:Nat)(x1:(List qaa)):∀(n:Nat) (p:ByteArray),Az31 g lf 3 [n] (qjn x1 p)=qhe lf x1 n p
 | 0,p=>qbl 3 [0] rfl _
 | n+1,p=>by
  have ih:=q36 g lf x1 n;refine(qbm (qa5 20 _) qwu qxm 3 [n+1] [n] rfl _).trans ((zkm g (Az31 g lf) lf x1 n p).trans ?_);rw[(show (fun q=>Az31 g lf 6 [lf] (qh3 x1 q))=(fun q=>qdp lf x1 lf q) from funext fun q=>q9t g lf x1 lf q),(show (fun q=>Az31 g lf 3 [n] (qjn x1 q))=(fun q=>qhe lf x1 n q) from funext ih)];rfl
def Fz31(lf:Nat)(x1:(List qaa)):Option qb6:=qr7 lf x1 (fun q=>qhe lf x1 lf q)
theorem zhf(g:gz31)(lf:Nat)(x1:(List qaa)):Ez31 g (Az31 g lf) lf x1=Fz31 lf x1:=by
  refine(zif g (Az31 g lf) lf x1).trans ?_;rw[(show (fun q=>Az31 g lf 3 [lf] (qjn x1 q))=(fun q=>qhe lf x1 lf q) from funext fun q=>q36 g lf x1 lf q)];rfl
theorem zm7:qat Tryz.prog qzj:=trivial
theorem zq1{g:gz31}(hsm:SmOK Tryz.prog qv2)(hg:∀(x:ElA [(.list qae)]) (y:qb6),WfA [(.list qae)] x->g x=some y->∃lf,Fz31 lf x.1=some y):Con Tryz.prog 56 ⟨[(.list qae)],[(true,.str)],g⟩ :=
 conT (nmf:=qjk) (sml:=qv2) (hxl:=qzj) (st:=qlp) (hd:=qvy) 20 mixed ttOK ftOK hsm zm7 zrc rfl rfl (by kernel_rfl) (fun x=>by kernel_rfl) qwu qxm fun x y hx hy=>by
  obtain⟨lf,h⟩:=hg x y hx hy;exact⟨lf,(zhf g lf x.1).trans h⟩
def qkv:Nat->Option Nm:=fun k=>none
def qpj:Nat->Bool:=fun k=>false
def qva:=qpj
abbrev qgw:Type:=ByteArray × Unit
def qur:List (Nat × Sm):=[]
def qzw:List (Nat × Hx):=[]
def q4y(R:Type)(lf:Nat):ClK R:=qao Tryz.prog ttT.get ftT.get (nm1 101 qkv) (smL qur) (hxL qzw) lf 20 R
abbrev zua:Nat:=101
def qxf(lf:Nat)(x1:ByteArray):Option qgw:=(cond (lchk (Int.ofNat 1) (Int.ofNat (ByteArray.size x1)) (Int.ofNat (ByteArray.size x1)) (Int.ofNat (ByteArray.size x1))) (cond (Nat.ble (Nat.succ (Nat.add 1 (ByteArray.size (ByteArray.extract x1 1 (Int.toNat (Int.ofNat (ByteArray.size x1))))))) 9223372036854775808) (some ((ByteArray.append (S.lit [0]) (ByteArray.extract x1 1 (Int.toNat (Int.ofNat (ByteArray.size x1))))),())) none) none)
abbrev gz32:Type:=ElA [.str]->Option qgw
abbrev sz32(g:gz32):Sm:=⟨[.str],[(false,.str)],g⟩
abbrev Ez32(g:gz32)(J:JT qgw)(lf:Nat)(x1:ByteArray):=qax Tryz.prog ttT.get qkv qfn.nt (q4y _ lf) lf qpj J qfn.body [] (qam (argV [.str] (x1,())) 0 .leaf) S0 [] (qal ttT.get qfn (sz32 g))
theorem zvc(g:gz32)(J:JT qgw)(lf:Nat)(x1:ByteArray):Ez32 g J lf x1=qxf lf x1:=by kernel_rfl
theorem zkz:(regs qfn.body).Nodup:=by decide +kernel
theorem zdv:okC qkv qpj qva qfn.body none=true:=by kernel_rfl
def Az32(g:gz32)(lf:Nat):JT qgw:=atN Tryz.prog ttT.get qkv qfn (sz32 g) (q4y _ lf) lf qva
def Fz32(lf:Nat)(x1:ByteArray):Option qgw:=qxf lf x1
theorem zux(g:gz32)(lf:Nat)(x1:ByteArray):Ez32 g (Az32 g lf) lf x1=Fz32 lf x1:=by
  refine(zvc g (Az32 g lf) lf x1).trans ?_;rfl
theorem zq4:qat Tryz.prog qzw:=trivial
theorem zsr{g:gz32}(hsm:SmOK Tryz.prog qur)(hg:∀(x:ElA [.str]) (y:qgw),WfA [.str] x->g x=some y->∃lf,Fz32 lf x.1=some y):Con Tryz.prog 101 ⟨[.str],[(false,.str)],g⟩ :=
 conT (nmf:=qkv) (sml:=qur) (hxl:=qzw) (st:=qpj) (hd:=qva) 20 mixed ttOK ftOK hsm zq4 zeu rfl rfl (by kernel_rfl) (fun x=>by kernel_rfl) zkz zdv fun x y hx hy=>by
  obtain⟨lf,h⟩:=hg x y hx hy;exact⟨lf,(zux g lf x.1).trans h⟩
def qno:Nat->Option Nm:=fun k=>none
def qnv:Nat->Bool:=fun k=>false
def qzc:=qnv
abbrev qg4:Type:=zg2 × Unit
def qy8:List (Nat × Sm):=[]
def qus:List (Nat × Hx):=[]
def q2z(R:Type)(lf:Nat):ClK R:=qao Tryz.prog ttT.get ftT.get (nm1 93 qno) (smL qy8) (hxL qus) lf 20 R
abbrev zna:Nat:=93
def qsn(lf:Nat)(x1:Int)(x2:Int):Option qg4:=(cond (ieqI x2 (Int.ofNat 0)) (some (((Int.ofNat 1),(IntKind.i64.wrap (Int.tdiv x1 (Int.ofNat 2)))),())) (some (((IntKind.i64.wrap (Int.tdiv x1 (Int.ofNat 2))),(IntKind.i64.wrap (Int.sub x1 (Int.ofNat 1)))),())))
abbrev gz33:Type:=ElA [(.int .i64),(.int .i64)]->Option qg4
abbrev sz33(g:gz33):Sm:=⟨[(.int .i64),(.int .i64)],[(false,qy4)],g⟩
abbrev Ez33(g:gz33)(J:JT qg4)(lf:Nat)(x1:Int)(x2:Int):=qax Tryz.prog ttT.get qno fi93.nt (q2z _ lf) lf qnv J fi93.body [] (qam (argV [(.int .i64),(.int .i64)] (x1,x2,())) 0 .leaf) S0 [] (qal ttT.get fi93 (sz33 g))
theorem zl0(g:gz33)(J:JT qg4)(lf:Nat)(x1:Int)(x2:Int):Ez33 g J lf x1 x2=qsn lf x1 x2:=by kernel_rfl
theorem ze0:(regs fi93.body).Nodup:=by decide +kernel
theorem zlo:okC qno qnv qzc fi93.body none=true:=by kernel_rfl
def Az33(g:gz33)(lf:Nat):JT qg4:=atN Tryz.prog ttT.get qno fi93 (sz33 g) (q2z _ lf) lf qzc
def Fz33(lf:Nat)(x1:Int)(x2:Int):Option qg4:=qsn lf x1 x2
theorem zlz(g:gz33)(lf:Nat)(x1:Int)(x2:Int):Ez33 g (Az33 g lf) lf x1 x2=Fz33 lf x1 x2:=by
  refine(zl0 g (Az33 g lf) lf x1 x2).trans ?_;rfl
theorem zex:qat Tryz.prog qus:=trivial
theorem zu4{g:gz33}(hsm:SmOK Tryz.prog qy8)(hg:∀(x:ElA [(.int .i64),(.int .i64)]) (y:qg4),WfA [(.int .i64),(.int .i64)] x->g x=some y->∃lf,Fz33 lf x.1 x.2.1=some y):Con Tryz.prog 93 ⟨[(.int .i64),(.int .i64)],[(false,qy4)],g⟩ :=
 conT (nmf:=qno) (sml:=qy8) (hxl:=qus) (st:=qnv) (hd:=qzc) 20 mixed ttOK ftOK hsm zex zx5 rfl rfl (by kernel_rfl) (fun x=>by kernel_rfl) ze0 zlo fun x y hx hy=>by
  obtain⟨lf,h⟩:=hg x y hx hy;exact⟨lf,(zlz g lf x.1 x.2.1).trans h⟩
theorem qm3(n:Int):IntKind.u8.wrap n=n % 256:=by
 unfold IntKind.wrap;simp[IntKind.signed,IntKind.bits]
theorem zde(n:Int)(h:Nat.mod (Int.toNat n) 256<2 ^ 8):ByteArray.mk (Array.mk (List.cons (UInt8.ofBitVec (BitVec.ofFin (Fin.mk (Nat.mod (Int.toNat n) 256) h))) []))=qag [n]:=rfl
theorem zxi(a b:Int)(h:Nat.mod (Int.toNat a) 256<2 ^ 8)(k:Nat.mod (Int.toNat b) 256<2 ^ 8):ByteArray.mk (Array.mk (List.cons (UInt8.ofBitVec (BitVec.ofFin (Fin.mk (Nat.mod (Int.toNat a) 256) h))) (List.cons (UInt8.ofBitVec (BitVec.ofFin (Fin.mk (Nat.mod (Int.toNat b) 256) k))) [])))=qag [a,b]:=rfl
theorem ze5(b:Int)(h:1<2 ^ 8)(k:Nat.mod (Int.toNat b) 256<2 ^ 8):ByteArray.mk (Array.mk (List.cons (UInt8.ofBitVec (BitVec.ofFin (Fin.mk 1 h))) (List.cons (UInt8.ofBitVec (BitVec.ofFin (Fin.mk (Nat.mod (Int.toNat b) 256) k))) [])))=qag [1,b]:=rfl
theorem qfi(a b:List Int):ByteArray.append (qag a) (qag b)=qag (a++b):=by
 show qag a++qag b=_;apply ByteArray.ext;simp[qag]
theorem qyb(s:ByteArray):∃b,rng b/\s=qag b/\s.size=b.length/\qac s=b:=⟨qac s,qd5 s,(qfl s).symm,(qcl s).symm,rfl⟩
theorem q26{b:List Int}(h:rng b)(n:Nat):ByteArray.extract (qag b) 0 n=qag (b.take n):=by
 refine qe6 ?_;rw[q83,qb2 h,qb2 (qeo h n)]
theorem qko{b:List Int}(h:rng b)(n:Nat):ByteArray.extract (qag b) n b.length=qag (b.drop n):=by
 refine qe6 ?_;rw[q9f _ _ _ (by rw[qbj];exact Nat.le_refl _),qb2 h,qb2 (qeh h n)]
theorem zef(lf:Nat)(n:Int)(h:S.inI n 0 16777215=true):Fz29 lf n=some (qag (S.two n.toNat),()):=by
 obtain⟨h1,h2⟩:=qa8.1 h;obtain⟨k,rfl⟩:∃k:Nat,n=Int.ofNat k:=⟨n.toNat,by show n=((n.toNat:Nat):Int);omega⟩;simp only[Fz29,qwh,zxi,qm3];refine congrArg (fun l=>some (qag l,())) ?_;show [Int.fdiv (k:Int) 256 % 256,(k:Int) % 256]=S.two k;unfold S.two;rw[Int.fdiv_eq_ediv_of_nonneg _ (by decide)];simp only[List.cons.injEq,and_true];omega
theorem q7r:Con Tryz.prog zi3 qsa:=zn1 trivial fun x y hx h=>⟨0,by
 obtain⟨h1,h2⟩:=qba (show cond (S.inI x.1 0 16777215) (some (qag (S.two (Int.toNat x.1)),())) none=some y from h);exact(zef 0 x.1 h1).trans (congrArg some h2)⟩
theorem qto{l:List qaa}(h:S.pk l=true):S.okC l=true/\l.length<=250:=by
 unfold S.pk at h;rw[Bool.and_eq_true] at h;exact⟨h.1,Nat.le_of_ble_eq_true h.2⟩
theorem qrj:∀{l:List qaa} {last:Int},S.okGo l last=true->∀c∈l,(0<=c.1/\c.1<=199)/\c.2.1.size<=4000/\(c.2.2=true->c.2.1=S.none_)
 | [],_,_,c,hc=>by cases hc
 | a::l,last,h,c,hc=>by
  obtain⟨h1,h2,h3,h4,h5⟩:=qbo.1 h;rcases List.mem_cons.1 hc with rfl|hc
  ·exact⟨h1,h2,h3⟩
  ·exact qrj h5 c hc
theorem qtl:∀{l:List qaa},(∀c∈l,c.2.1.size<=4000)->(S.body l).length<=4003*l.length
 | [],_=>Nat.zero_le _
 | c::l,h=>by
  have h1:=h c (by simp);have h2:=qtl (l:=l) fun x hx=>h x (by simp[hx]);have h3:cond c.2.2 0 c.2.1.size<=4000:=by
   cases c.2.2
   ·exact h1
   ·exact Nat.zero_le _
  rw[qoj,List.length_append,qos,List.length_cons];omega
theorem qry{l:List qaa}(h:S.pk l=true):(S.body l).length<=1000750:=by
 obtain⟨h1,h2⟩:=qto h;have:=qtl fun c hc=>(qrj h1 c hc).2.1;omega
theorem ztp(l:List qaa)(c:qaa):S.body (l++[c])=S.body l++S.cellB c:=by
 unfold S.body;rw[List.flatMap_append];simp
theorem zqs{l:List qaa}(h:S.pk l=true)(i:Nat):(S.body (l.take i)).length<=1000750:=by
 obtain⟨h1,h2⟩:=qto h;have:=qtl (l:=l.take i) fun c hc=>(qrj h1 c (List.mem_of_mem_take hc)).2.1;rw[List.length_take] at this;omega
theorem qez{n:Nat}(h:n<9223372036854775808):Nat.ble (Nat.succ n) 9223372036854775808=true:=Nat.ble_eq_true_of_le h
theorem zkg(l:List qaa)(h:S.pk l=true):Fz30 LF l=some (qag (S.body l),()):=by
 obtain⟨hok,hlen⟩:=qto h;refine(range0 (σ:=ByteArray) (R:=qct) l (fun i s=>(s,i)) (fun i s=>s=qag (S.body (l.take i))) (fun _ _ _=>some (qag (S.body l),())) (by unfold LF;omega) (fun K s hs=>?_) (fun K i v rest s hs r hk=>?_) (S.lit []) rfl).trans rfl
 ·rw[List.take_length] at hs;simp only[qn8,qbv,cond_false];rw[hs]
 ·obtain⟨⟨v1,v2⟩,v3,v4⟩:=qrj hok v r.mem;have hB:=zqs h i;have hnext:qag (S.body (l.take (i+1)))=qag (S.body (l.take i)++S.cellB v):=by rw[r.take,ztp]
  obtain⟨k,s0,g⟩:=v;simp only at v1 v2 v3 v4;have hkw:IntKind.u8.wrap k=k % 256:=qm3 k;subst hs;generalize S.body (l.take i)=B at *;have hsB:(qag B).size=B.length:=qbj B;simp only[qn8,r.ilt,r.get,r.next,cond_true,zde,hkw,qfi,qbj];rw[qez (n:=Nat.add B.length 1) (by show B.length+1<_;omega),cond_true];cases g with
  | true =>
   rw[cond_true,show S.inI (Int.ofNat 0) (Int.ofNat 0) (Int.ofNat 16777215)=true from rfl,cond_true];simp only;rw[show S.lit [0,0]=qag [0,0] from rfl,qbj,qfi,qez (by simp only[List.length_append,List.length_cons,List.length_nil];show _+2<_;omega),cond_true];refine hk _ ?_;rw[hnext,List.append_assoc];rfl
  | false =>
   obtain⟨b,hb1,hb2,hb3,_⟩:=qyb s0;subst hb2;rw[hb3] at v3;have hw:IntKind.i64.wrap (Int.ofNat (Nat.add (qag b).size 1))=Int.ofNat (b.length+1):=by
    rw[hb3];exact qb7 (n:=b.length+1) (by omega)
   rw[cond_false,hw,show S.inI (Int.ofNat (b.length+1)) (Int.ofNat 0) (Int.ofNat 16777215)=true from qa8.2 ⟨Int.natCast_nonneg _,by show ((b.length+1:Nat):Int)<=16777215;omega⟩,cond_true];simp only[qfi,qbj];have h2:(S.two (Int.toNat (Int.ofNat (b.length+1)))).length=2:=rfl;rw[qez (by show _+b.length<_;rw[h2];omega),cond_true,qez (by simp only[List.length_append,List.length_cons,List.length_nil,h2];show (_:Nat)+(_:Nat)<_;omega),cond_true];refine hk _ ?_;rw[hnext];have:S.cellB (k,qag b,false)=[k % 256]++(S.two (Int.toNat (Int.ofNat (b.length+1)))++b):=by
    unfold S.cellB;simp only[cond_false];rw[hb3,qb2 hb1];rfl
   rw[this,List.append_assoc]
theorem zs0:Con Tryz.prog zmb q5r:=zn0 ⟨q7r,trivial⟩ fun x y hx h=>⟨LF,by
 obtain⟨h1,h2⟩:=qba (show cond (S.pk x.1) (some (qag (S.body x.1),())) none=some y from h);exact(zkg x.1 h1).trans (congrArg some h2)⟩
def cut:Nat->List Int->List ByteArray
 | 0,_=>[]
 | m+1,b=>qag (b.take 64)::cut m (b.drop 64)
theorem q7d:∀(f:Nat) (b:List Int),b.length<=f->S.chunks f b=cut ((b.length+63) / 64) (b++List.replicate (64*((b.length+63) / 64)-b.length) 0)
 | 0,b,h=>by
  have:b=[]:=List.length_eq_zero_iff.1 (by omega);subst this;rfl
 | f+1,b,h=>by
  by_cases hb:0<b.length
  ·have ih:=q7d f (b.drop 64) (by rw[List.length_drop];omega);rw[List.length_drop] at ih;rw[qgn f hb,ih,show (b.length+63) / 64=(b.length-64+63) / 64+1 by omega];show _=qag ((b++_).take 64)::cut _ ((b++_).drop 64);by_cases h64:64<=b.length
   ·rw[List.take_append_of_le_length h64,List.drop_append_of_le_length h64,show 64-b.length=0 by omega,List.replicate_zero,List.append_nil,show 64*((b.length-64+63) / 64+1)-b.length=64*((b.length-64+63) / 64)-(b.length-64) by omega]
   ·have e1:b.drop 64=[]:=List.drop_eq_nil_of_le (by omega);rw[show (b.length-64+63) / 64=0 by omega,List.take_of_length_le (by omega:b.length<=64),List.take_of_length_le (by rw[List.length_append,List.length_replicate];omega),show 64*(0+1)-b.length=64-b.length by omega];rfl
  ·have:b=[]:=List.length_eq_zero_iff.1 (by omega);subst this;rfl
theorem q7p(l:List qaa):∀(m f:Nat) (b:List Int) (out:List ByteArray),rng b->b.length=64*m->m<f->out.length+m<=1000000->qdp LF l f (qag b,out)=some (out++cut m b,())
 | 0,f+1,b,out,hr,hb,hf,ho=>by
  have:b=[]:=List.length_eq_zero_iff.1 (by omega);subst this;show qh7 LF l (qdp LF l f) (qag [],out)=_;simp only[qh7];rw[qbj];show some (out,())=some (out++[],());rw[List.append_nil]
 | m+1,f+1,b,out,hr,hb,hf,ho=>by
  show qh7 LF l (qdp LF l f) _=_;simp only[qh7];have l1:lchk (Int.ofNat 0) (Int.ofNat 64) (Int.ofNat b.length) (Int.ofNat b.length)=true:=qb4.2 ⟨Int.le_refl _,by decide,by show (64:Int)<=(b.length:Int);omega,Int.le_refl _⟩;have l2:lchk (Int.ofNat 64) (Int.ofNat b.length) (Int.ofNat b.length) (Int.ofNat b.length)=true:=qb4.2 ⟨by decide,by show (64:Int)<=(b.length:Int);omega,Int.le_refl _,Int.le_refl _⟩
  rw[qbj,qd3 (show Int.ofNat 0<Int.ofNat b.length by show (0:Int)<(b.length:Int);omega),cond_true,l1,cond_true,Nat.ble_eq_true_of_le (by show (out.length+1)*16<=_;omega),cond_true,
   l2,cond_true,q26 hr,show Int.toNat (Int.ofNat b.length)=b.length from rfl,qko hr]
  rw[q7p l m f (b.drop 64) _ (qeh hr 64) (by rw[List.length_drop];omega) (by omega) (by simp only[List.append_eq,List.length_append,List.length_cons,List.length_nil];omega)];show some ((out++[_])++cut m _,())=some (out++_::cut m _,());rw[List.append_assoc];rfl
theorem q8v(l:List qaa):∀(k f:Nat) (b:List Int),k=(64-b.length % 64) % 64->k<f->b.length<=2000000->qhe LF l f (qag b)=qdp LF l LF (qag (b++List.replicate k 0),[])
 | 0,f+1,b,hk,hf,hb=>by
  show qhz LF l (qhe LF l f) (fun q=>qdp LF l LF q) (qag b)=_;simp only[qhz];rw[qbj,qbd (show Int.ofNat (Nat.mod b.length 64)=Int.ofNat 0 from congrArg Int.ofNat (show b.length % 64=0 by omega))];show qdp LF l LF (qag b,[])=qdp LF l LF (qag (b++[]),[]);rw[List.append_nil]
 | k+1,f+1,b,hk,hf,hb=>by
  show qhz LF l (qhe LF l f) (fun q=>qdp LF l LF q) (qag b)=_;simp only[qhz]
  rw[qbj,qbc (show ¬Int.ofNat (Nat.mod b.length 64)=Int.ofNat 0 from fun e=>by have:=Int.ofNat.inj e;have:b.length % 64=0:=this;omega),Bool.not_false,cond_true,qez (by show b.length+1<_;omega),cond_true,show S.lit [0]=qag [0] from rfl,qfi,
   q8v l k f (b++[0]) (by rw[List.length_append,List.length_cons,List.length_nil];omega) (by omega) (by rw[List.length_append,List.length_cons,List.length_nil];have:b.length<=2000000:=hb;omega),List.append_assoc]
  rfl
theorem zih(l:List qaa)(h:S.pk l=true):Fz31 LF l=some (S.packed l 1,()):=by
 have hb:=qry h;simp only[Fz31,qr7,h,cond_true,qbj];rw[show S.inI (Int.ofNat (S.body l).length) (Int.ofNat 0) (Int.ofNat 16777215)=true from qa8.2 ⟨Int.natCast_nonneg _,by show (((S.body l).length:Nat):Int)<=16777215;omega⟩];simp only[cond_true,ze5,qm3,qfi,qbj];have h2:(S.two (Int.toNat (Int.ofNat (S.body l).length))).length=2:=rfl;rw[qez (by show 2+_<_;rw[h2];decide),cond_true,qez (by simp only[List.length_append,List.length_cons,List.length_nil,h2];show (_:Nat)+(_:Nat)<_;omega),cond_true];have hrec:[1,Int.fdiv (Int.ofNat (S.body l).length) (Int.ofNat 65536) % 256]++S.two (Int.toNat (Int.ofNat (S.body l).length))++S.body l=S.recB l 1:=by
  unfold S.recB;have:Int.fdiv (Int.ofNat (S.body l).length) (Int.ofNat 65536) % 256=(((S.body l).length / 65536 % 256:Nat):Int):=by
   rw[Int.fdiv_eq_ediv_of_nonneg _ (by decide)];show ((S.body l).length:Int) / 65536 % 256=_;omega
  rw[this,List.append_assoc];rfl
 rw[hrec,q8v l _ LF (S.recB l 1) rfl (by unfold LF;omega) (by rw[qel];omega)];have hl:=qel l 1;have hp:S.packed l 1=_:=q7d (S.recB l 1).length (S.recB l 1) (Nat.le_refl _);rw[hp,show (64-(S.recB l 1).length % 64) % 64=64*(((S.recB l 1).length+63) / 64)-(S.recB l 1).length by omega];rw[q7p l (((S.recB l 1).length+63) / 64) LF _ [] (qfs (qmf l (by decide)) (qga _)) (by rw[List.length_append,List.length_replicate];omega) (by unfold LF;omega) (by rw[List.length_nil];omega)];rfl
theorem qps:Con Tryz.prog zmu qk6:=zq1 ⟨zs0,q7r,trivial⟩ fun x y hx h=>⟨LF,by
 obtain⟨h1,h2⟩:=qba (show cond (S.pk x.1) (some (S.packed x.1 1,())) none=some y from h);exact(zih x.1 h1).trans (congrArg some h2)⟩
theorem znw(lf:Nat)(s:ByteArray)(h:s.size=64):Fz32 lf s=some (qag (0::(qac s).drop 1),()):=by
 obtain⟨b,hb1,rfl,hb3,hb4⟩:=qyb s;rw[hb3] at h;simp only[Fz32,qxf];have l1:lchk (Int.ofNat 1) (Int.ofNat b.length) (Int.ofNat b.length) (Int.ofNat b.length)=true:=qb4.2 ⟨by decide,by show (1:Int)<=(b.length:Int);omega,Int.le_refl _,Int.le_refl _⟩;rw[hb3,hb4,l1,cond_true,show Int.toNat (Int.ofNat b.length)=b.length from rfl,qko hb1,qbj,qez (by show 1+_<_;rw[List.length_drop];omega),cond_true,show S.lit [0]=qag [0] from rfl,qfi];rfl
theorem q3f:Con Tryz.prog zua qve:=zsr trivial fun x y hx h=>⟨0,by
 obtain⟨h1,h2⟩:=qba (show cond (decide (ByteArray.size x.1=64)) (some (qag (0::(qac x.1).drop 1),())) none=some y from h);exact(znw 0 x.1 (of_decide_eq_true h1)).trans (congrArg some h2)⟩
theorem zx4(lf:Nat)(n h:Int)(hn:S.inI n 0 1000=true):Fz33 lf n h=some (S.half n.toNat h,()):=by
 obtain⟨h1,h2⟩:=qa8.1 hn;have e1:Int.tdiv n (Int.ofNat 2)=((n.toNat / 2:Nat):Int):=by
  rw[Int.tdiv_eq_ediv_of_nonneg h1];show n / 2=_;omega
 simp only[Fz33,qsn,e1];rw[wrap_in (n:=((n.toNat / 2:Nat):Int)) (by omega),wrap_in (n:=Int.sub n (Int.ofNat 1)) (by show -9223372036854775808<=n-1/\n-1<9223372036854775808;omega)];unfold S.half;by_cases h0:h=0
 ·rw[qbd (show h=Int.ofNat 0 from h0),cond_true,if_pos h0];rfl
 ·rw[qbc (show ¬h=Int.ofNat 0 from h0),cond_false,if_neg h0];refine congrArg (fun z:Int=>some ((_,z),())) ?_;show n-1=(n.toNat:Int)-1;omega
theorem qoc:Con Tryz.prog zna qmt:=zu4 trivial fun x y hx h=>⟨0,by
 obtain⟨h1,h2⟩:=qba (show cond (S.inI x.1 0 1000) (some (S.half (Int.toNat x.1) x.2.1,())) none=some y from h);exact(zx4 0 x.1 x.2.1 h1).trans (congrArg some h2)⟩
theorem zdz{l:List ByteArray}{i:Nat}(h:i<l.length)(a:Int):S.puts (a+i) (l.drop i)=S.put (a+i) (l.getD i S.none_)::S.puts (a+((i+1:Nat):Int)) (l.drop (i+1)):=by
 rw[List.drop_eq_getElem_cons h,List.getD_eq_getElem?_getD,List.getElem?_eq_getElem h];show S.put (a+i) _::S.puts (a+i+1) _=_;rw[show a+(i:Int)+1=a+((i+1:Nat):Int) by omega];rfl
theorem zb7(x1:List DAct)(a:Int)(l:List ByteArray)(ha:S.inI a 0 1000000=true)(hl:l.length<=1000000):∀(k f i:Nat) (out:List DAct),i+k=l.length->k<f->out.length+k<=2000000->qhc LF x1 a l f (Int.ofNat i,out)=some ((),((out++S.puts (a+i) (l.drop i),()),()))
 | 0,f+1,i,out,hi,hf,ho=>by
  show qis LF x1 a l (qhc LF x1 a l f) _=_;simp only[qis];rw[qbt,decide_eq_false (by omega),cond_false,List.drop_eq_nil_of_le (by omega)];show some ((),((out,()),()))=some ((),((out++[],()),()));rw[List.append_nil]
 | k+1,f+1,i,out,hi,hf,ho=>by
  obtain⟨h1,h2⟩:=qa8.1 ha;show qis LF x1 a l (qhc LF x1 a l f) _=_;simp only[qis];rw[qbt,decide_eq_true (by omega),cond_true,qmz (i:=Int.ofNat i) (d:=S.none_) (Int.natCast_nonneg i) (by show (i:Int)<(l.length:Int);omega)];simp only
  rw[Nat.ble_eq_true_of_le (by show (out.length+1)*32<=_;omega),cond_true,show IntKind.i64.wrap (Int.add (Int.ofNat i) (Int.ofNat 1))=Int.ofNat (i+1) from qb7 (n:=i+1) (by omega),
   show IntKind.i64.wrap (Int.add a (Int.ofNat i))=a+i from wrap_in (by show -_<=a+(i:Int)/\a+(i:Int)<_;omega),
   zb7 x1 a l ha hl k f (i+1) _ (by omega) (by omega) (by simp only[List.append_eq,List.length_append,List.length_cons,List.length_nil];omega),zdz (l:=l) (i:=i) (by omega) a]
  show some ((),(((out++[_])++_,()),()))=some ((),((out++_::_,()),()));rw[List.append_assoc];rfl
theorem zr9(x1:List DAct)(a:Int)(l:List ByteArray)(ha:S.inI a 0 1000000=true)(hl:l.length<=1000000)(hx:x1.length<=1000000):Fz7 LF x1 a l=some ((),((S.app x1 (S.puts a l),()),())):=by
 simp only[Fz7,qsh];refine(zb7 x1 a l ha hl l.length LF 0 x1 (by omega) (by unfold LF;omega) (by omega)).trans ?_;rw[List.drop_zero,show a+((0:Nat):Int)=a by omega];rfl
theorem qui:ConR Tryz.prog idz7 spz7:=mkz7 trivial fun x y hx h=>⟨LF,by
 obtain⟨h1,h2⟩:=qba (show cond (S.inI x.2.1 0 1000000&&(Nat.ble x.2.2.1.length 1000000&&Nat.ble (S.lenA x.1.1) 1000000)) (some ((),((S.app x.1.1 (S.puts x.2.1 x.2.2.1),()),()))) none=some y from h);rw[Bool.and_eq_true,Bool.and_eq_true] at h1;exact(zr9 x.1.1 x.2.1 x.2.2.1 h1.1 (Nat.le_of_ble_eq_true h1.2.1) (Nat.le_of_ble_eq_true h1.2.2)).trans (congrArg some h2)⟩
theorem zp6(x1:List DAct)(hx:x1.length<=4000000):Fz8 LF x1=some ((),((S.app x1 [S.sync],()),())):=by
 simp only[Fz8,qyy];rw[Nat.ble_eq_true_of_le (by show (x1.length+1)*32<=_;omega),cond_true];rfl
theorem qs2:ConR Tryz.prog idz8 spz8:=mkz8 trivial fun x y hx h=>⟨LF,by
 obtain⟨h1,h2⟩:=qba (show cond (Nat.ble (S.lenA x.1.1) 4000000) (some ((),((S.app x.1.1 [S.sync],()),()))) none=some y from h);exact(zp6 x.1.1 (Nat.le_of_ble_eq_true h1)).trans (congrArg some h2)⟩
def qgz(out:List qaa):Int:=(out.getLast?.map (·.1)).getD (-1)
theorem qwa(out:List qaa)(c:qaa):qgz (out++[c])=c.1:=by simp[qgz]
theorem zub{R:Type}{out:List qaa}{k:Int}(hk:0<=k)(hl:out.length<1000000000)(N T:Option R) :
  cond (iltI (Int.ofNat 0) (Int.ofNat out.length)) (match jget out (IntKind.i64.wrap (Int.sub (Int.ofNat out.length) (Int.ofNat 1))) with
   | none=>none
   | some v3=>match out[Int.toNat (IntKind.i64.wrap (Int.sub (Int.ofNat out.length) (Int.ofNat 1)))]? with
    | none=>none
    | some v4=>cond (!iltI v4.1 k) N T) T=cond (decide (k<=qgz out)) N T:=by
 rcases List.eq_nil_or_concat out with rfl|⟨o,c,rfl⟩
 ·have:decide (k<=qgz [])=false:=decide_eq_false (by show ¬k<=-1;omega);rw[this];rfl
 ·rw[List.concat_eq_append] at *;have hlen:(o++[c]).length=o.length+1:=by simp
  rw[hlen] at hl ⊢;have e:IntKind.i64.wrap (Int.sub (Int.ofNat (o.length+1)) (Int.ofNat 1))=Int.ofNat o.length:=by
   have:Int.sub (Int.ofNat (o.length+1)) (Int.ofNat 1)=Int.ofNat o.length:=by
    show ((o.length+1:Nat):Int)-1=(o.length:Int);omega
   rw[this];exact qb7 (by omega)
  rw[e,qdg];have h1:(o++[c])[o.length]?=some c:=by simp
  have h2:(o++[c])[Int.toNat (Int.ofNat o.length)]?=some c:=h1;rw[h1,h2,qbt,decide_eq_true (by omega),cond_true,qwa];show cond (!iltI c.1 k) N T=_;rw[qbn,qud]
def chgR(out:List qaa):Option (List qaa)->List qaa × Bool
 | some l=>(out++l,true)
 | none=>([],false)
theorem q0g(x1:ByteArray):∀(f F:Nat) (r:List Int) (out:List qaa),rng r->r.length<f->f<=F->out.length+r.length<=3000000->qh0 LF x1 F (qag r,out)=some ((chgR out (S.changes f r (qgz out))).1,(chgR out (S.changes f r (qgz out))).2,())
 | 0,_,r,out,hr,hf,hF,ho=>by omega
 | f+1,0,r,out,hr,hf,hF,ho=>by omega
 | f+1,F+1,r,out,hr,hf,hF,ho=>by
  show qp0 LF x1 (qh0 LF x1 F) _=_;simp only[qp0,qb2 hr,qbj];rcases r with _|⟨k,_|⟨a,_|⟨b,r⟩⟩⟩
  ·show some (out,true,())=some (out++[],true,());rw[List.append_nil]
  ·rfl
  ·rfl
  ·have hk:=hr k (by simp);have ha:=hr a (by simp);have hb:=hr b (by simp);have hr':rng r:=fun x hx=>hr x (by simp[hx]);have hlen:(k::a::b::r).length=r.length+3:=rfl;rw[hlen] at hf ho;have l1:lchk (Int.ofNat 3) (Int.ofNat (k::a::b::r).length) (Int.ofNat (k::a::b::r).length) (Int.ofNat (k::a::b::r).length)=true:=qb4.2 ⟨by decide,by show (3:Int)<=((r.length+3:Nat):Int);omega,Int.le_refl _,Int.le_refl _⟩;have he:ByteArray.extract (qag (k::a::b::r)) 3 (Int.toNat (Int.ofNat (k::a::b::r).length))=qag r:=qko hr 3;have wk:IntKind.i64.wrap k=k:=wrap_in (by omega);have wn:IntKind.i64.wrap (Int.add (IntKind.i64.wrap (Int.mul (IntKind.i64.wrap a) (Int.ofNat 256))) (IntKind.i64.wrap b))=a*256+b:=by
    rw[wrap_in (n:=a) (by omega),wrap_in (n:=b) (by omega),wrap_in (n:=Int.mul a (Int.ofNat 256)) (by show -_<=a*256/\a*256<_;omega)];exact wrap_in (by show -_<=a*256+b/\a*256+b<_;omega)
   have hn:0<=a*256+b/\a*256+b<65536:=by omega
   rw[qp7];rw[qbt,decide_eq_true (show 0<(k::a::b::r).length by rw[hlen];omega),cond_true,qbt,decide_eq_false (show ¬(k::a::b::r).length<3 by rw[hlen];omega),cond_false,qdg,qdg,qdg];show cond (lchk _ _ _ _) _ _=_;rw[l1,cond_true,he,wk,wn];generalize a*256+b=n at hn;by_cases c1:199<k
   ·rw[qd3 (show Int.ofNat 199<k from c1),cond_true,if_pos (.inl c1)];rfl
   rw[qem (show ¬Int.ofNat 199<k from c1),cond_false];refine(zub (out:=out) hk.1 (by omega) _ _).trans ?_;by_cases c2:k<=qgz out
   ·rw[decide_eq_true c2,cond_true,if_pos (.inr (.inl c2))];rfl
   rw[decide_eq_false c2,cond_false,qbj,qb7 (n:=Nat.add r.length 1) (by show r.length+1<_;omega)];by_cases c3:(r.length:Int)+1<n
   ·rw[qd3 (show Int.ofNat (Nat.add r.length 1)<n from by show ((r.length+1:Nat):Int)<n;omega),cond_true,if_pos (.inr (.inr (.inl c3)))];rfl
   rw[qem (show ¬Int.ofNat (Nat.add r.length 1)<n from by show ¬((r.length+1:Nat):Int)<n;omega),cond_false];by_cases c4:4001<n
   ·rw[qd3 (show Int.ofNat 4001<n from c4),cond_true,if_pos (.inr (.inr (.inr c4)))];rfl
   rw[qem (show ¬Int.ofNat 4001<n from c4),cond_false,if_neg (by omega)];rw[Nat.ble_eq_true_of_le (show Nat.mul (Nat.add out.length 1) 32<=140737488355328 by show (out.length+1)*32<=_;omega),cond_true];by_cases c5:n=0
   ·rw[qbd (show n=Int.ofNat 0 from c5),cond_true,if_pos c5,q0g x1 f F r _ hr' (by omega) (by omega) (by simp only[List.append_eq,List.length_append,List.length_cons,List.length_nil];omega)];rw[List.append_eq,qwa];show some ((chgR (out++[(k,S.none_,true)]) (S.changes f r k)).1,_,())=_;cases S.changes f r k with
    | none=>rfl
    | some l=>show some (out++[_]++l,true,())=some (out++_::l,true,());rw[List.append_assoc];rfl
   ·rw[qbc (show ¬n=Int.ofNat 0 from c5),cond_false,if_neg c5];have e1:IntKind.i64.wrap (Int.sub n (Int.ofNat 1))=n-1:=wrap_in (by show -_<=n-1/\n-1<_;omega);have l2:lchk (Int.ofNat 0) (n-1) (Int.ofNat r.length) (Int.ofNat r.length)=true:=qb4.2 ⟨Int.le_refl _,by show (0:Int)<=n-1;omega,by show n-1<=(r.length:Int);omega,Int.le_refl _⟩;have l3:lchk (n-1) (Int.ofNat r.length) (Int.ofNat r.length) (Int.ofNat r.length)=true:=qb4.2 ⟨by omega,by show n-1<=(r.length:Int);omega,Int.le_refl _,Int.le_refl _⟩;rw[e1,l2,cond_true,l3,cond_true,show Int.toNat (Int.ofNat r.length)=r.length from rfl,qko hr',q26 hr'];rw[q0g x1 f F (r.drop (n-1).toNat) _ (qeh hr' _) (by rw[List.length_drop];omega) (by omega) (by simp only[List.append_eq,List.length_append,List.length_cons,List.length_nil,List.length_drop];omega)];rw[List.append_eq,qwa];cases S.changes f (r.drop (n-1).toNat) k with
    | none=>rfl
    | some l=>show some (out++[_]++l,true,())=some (out++_::l,true,());rw[List.append_assoc];rfl
theorem zuo(b:ByteArray)(h:b.size<=1000000):Fz5 LF b=some ((S.chg b).1,(S.chg b).2,()):=by
 obtain⟨r,h1,rfl,h3,h4⟩:=qyb b;rw[h3] at h;simp only[Fz5,qv1];refine(q0g (qag r) (r.length+1) LF r [] h1 (by omega) (by unfold LF;omega) (by rw[List.length_nil];omega)).trans ?_;unfold S.chg;rw[h3,h4];show some ((chgR [] (S.changes (r.length+1) r (-1))).1,(chgR [] (S.changes (r.length+1) r (-1))).2,())=_;cases S.changes (r.length+1) r (-1)<;>rfl
theorem zx6:Con Tryz.prog idz5 spz5:=mkz5 trivial fun x y hx h=>⟨LF,by
 obtain⟨h1,h2⟩:=qba (show cond (Nat.ble x.1.size 1000000) (some ((S.chg x.1).1,(S.chg x.1).2,())) none=some y from h);exact(zuo x.1 (Nat.le_of_ble_eq_true h1)).trans (congrArg some h2)⟩
theorem qs1:∀{l:List qaa} {last:Int},S.okGo l last=true->-1<=last->(l.length:Int)<=max 0 (199-last)
 | [],_,_,_=>by rw[List.length_nil];omega
 | c::l,last,h,hl=>by
  obtain⟨h1,h2,h3,h4,h5⟩:=qbo.1 h;have:=qs1 h5 (by omega);rw[List.length_cons];omega
theorem zgx{l:List qaa}(h:S.okC l=true):l.length<=200:=by
 have:=qs1 (l:=l) (last:=-1) h (Int.le_refl _);omega
theorem znn(x c:qaa)(h:x.1<c.1)(a:List qaa):S.ins1 c (x::a)=x::S.ins1 c a:=by
 show (if x.1<c.1 then x::S.ins1 c a else _)=_;rw[if_pos h]
theorem q9x(x:qaa):∀(b a:List qaa) (last:Int),S.okGo b last=true->x.1<=last->S.changed (x::a) b=x::S.changed a b
 | [],a,_,_,_=>rfl
 | c::b,a,last,h,hx=>by
  obtain⟨h1,h2,h3,h4,h5⟩:=qbo.1 h;show S.changed (S.ins1 c (x::a)) b=x::S.changed (S.ins1 c a) b;rw[znn x c (by omega)];exact q9x x b _ c.1 h5 (by omega)
theorem zy4{c:qaa}{b:List qaa}{last:Int}(h:S.okGo (c::b) last=true):S.changed [] (c::b)=cond c.2.2 (S.changed [] b) (c::S.changed [] b):=by
 obtain⟨h1,h2,h3,h4,h5⟩:=qbo.1 h;show S.changed (cond c.2.2 [] [c]) b=_;cases c.2.2 with
 | true=>rfl
 | false=>exact q9x c b [] c.1 h5 (Int.le_refl _)
theorem zjh(a b:Nat):(!iltI (Int.ofNat a) (Int.ofNat b))=Nat.ble b a:=by
 rw[qbt,Bool.eq_iff_iff,Bool.not_eq_true',decide_eq_false_iff_not,Nat.ble_eq];omega
theorem q6d(a b:Nat):iltI (Int.ofNat a) (Int.ofNat b)=Nat.blt a b:=by
 rw[qbt,Bool.eq_iff_iff,decide_eq_true_iff,Nat.blt_eq]
theorem zfn(a b:Nat):(!Nat.blt a b)=Nat.ble b a:=by rw[<- q6d,zjh]
theorem zrl(lf:Nat)(d:qab):Fz2 lf d=some (S.few d,()):=by
 simp only[Fz2,q0k,q6d,zfn];unfold S.few;cases Nat.ble d.1.length 40<;>cases Nat.blt 1000 d.1.length<;>cases Nat.ble d.1.length 1100<;>cases Nat.ble d.2.length 80<;>cases Nat.blt 4000 d.2.length<;>cases Nat.ble d.2.length 4100<;>rfl
theorem zsx:Con Tryz.prog idz2 spz2:=mkz2 trivial fun x y hx h=>⟨0,(zrl 0 x.1).trans h⟩
theorem zsp:(S.newDisk 8).2=0/\(S.format (S.newDisk 8).1).2=0/\(S.doD (S.newDisk 8).1 (S.format (S.newDisk 8).1).1).2=0/\(S.open_ S.madeD).2=0:=by
 refine⟨?_,?_,?_,?_⟩<;>kernel_rfl
theorem zib(lf:Nat):Fz3 lf 8=some (S.madeJ,true,()):=by
 obtain⟨h1,h2,h3,h4⟩:=zsp;simp only[Fz3,qtj];show cond (ieqI (S.newDisk 8).2 _) (cond (ieqI (S.format (S.newDisk 8).1).2 _) (cond (ieqI (S.doD (S.newDisk 8).1 (S.format (S.newDisk 8).1).1).2 _) (some ((S.open_ S.madeD).1,ieqI (S.open_ S.madeD).2 _,())) _) _) _=_;rw[h1,h2,h3,h4];rfl
theorem zzo(lf:Nat)(d:qab)(n:Int)(l:List DAct)(k:List Int):Fz4 lf d n l k=some (true,()):=by
 have e1:∀a:qab,S.sameD (a.1,a.2) (a.1,a.2)=true:=fun a=>decide_eq_true rfl;have e2:∀a:ByteArray,keqS a a=true:=fun a=>decide_eq_true rfl;simp only[Fz4,q1s,e1,e2,zxm,cond_true];cases (!S.few (d.1,d.2))<;>cases iltI (Int.ofNat 80) (Int.ofNat l.length)<;>cases iltI (Int.ofNat 100) (Int.ofNat k.length)<;>rfl
def qkm:Nat->Option Nm:=fun k=>none
def qq2:Nat->Bool:=fun k=>false
def qv5:=qq2
abbrev qhd:Type:=ByteArray × Unit
def qt6:List (Nat × Sm):=[(90,q4r)]
def qvd:List (Nat × Hx):=[]
def q72(R:Type)(lf:Nat):ClK R:=qao Tryz.prog ttT.get ftT.get (nm1 54 qkm) (smL qt6) (hxL qvd) lf 20 R
abbrev zq2:Nat:=54
def q3j(lf:Nat):Option qhd:=(match (cond (S.oneN (S.lit [0]) (Int.ofNat 64)) (some (S.blank,())) none) with|.none  => none|.some v0=>(some (v0.1,())))
abbrev gz34:Type:=ElA []->Option qhd
abbrev sz34(g:gz34):Sm:=⟨[],[(false,.str)],g⟩
abbrev Ez34(g:gz34)(J:JT qhd)(lf:Nat):=qax Tryz.prog ttT.get qkm fi54.nt (q72 _ lf) lf qq2 J fi54.body [] (qam (argV [] (())) 0 .leaf) S0 [] (qal ttT.get fi54 (sz34 g))
theorem zst(g:gz34)(J:JT qhd)(lf:Nat):Ez34 g J lf=q3j lf:=by kernel_rfl
theorem zpw:(regs fi54.body).Nodup:=by decide +kernel
theorem zhn:okC qkm qq2 qv5 fi54.body none=true:=by kernel_rfl
def Az34(g:gz34)(lf:Nat):JT qhd:=atN Tryz.prog ttT.get qkm fi54 (sz34 g) (q72 _ lf) lf qv5
def Fz34(lf:Nat):Option qhd:=q3j lf
theorem zyu(g:gz34)(lf:Nat):Ez34 g (Az34 g lf) lf=Fz34 lf:=by
  refine(zst g (Az34 g lf) lf).trans ?_;rfl
theorem zqy:qat Tryz.prog qvd:=trivial
theorem zpr{g:gz34}(hsm:SmOK Tryz.prog qt6)(hg:∀(x:ElA []) (y:qhd),WfA [] x->g x=some y->∃lf,Fz34 lf=some y):Con Tryz.prog 54 ⟨[],[(false,.str)],g⟩ :=
 conT (nmf:=qkm) (sml:=qt6) (hxl:=qvd) (st:=qq2) (hd:=qv5) 20 mixed ttOK ftOK hsm zqy zmp rfl rfl (by kernel_rfl) (fun x=>by kernel_rfl) zpw zhn fun x y hx hy=>by
  obtain⟨lf,h⟩:=hg x y hx hy;exact⟨lf,(zyu g lf).trans h⟩
def qjf:Nat->Option Nm:=fun k=>cond (Nat.beq k 4) (some ⟨[0,1,12,13],[],[],[],[],0,0,false⟩) (none)
def qlm:Nat->Bool:=fun k=>cond (Nat.beq k 4) true (false)
def qvg:=qlm
abbrev qdk:Type:=Bool × Unit
def q07:List (Nat × Sm):=[]
def qwc:List (Nat × Hx):=[]
def qu6(R:Type)(lf:Nat):ClK R:=qao Tryz.prog ttT.get ftT.get (nm1 100 qjf) (smL q07) (hxL qwc) lf 20 R
abbrev zu8:Nat:=100
def qit(x1:(List qaa))(x2:(List qaa))(p:Int):NRes:=(NRes.mk (.node (some (IV.lst qae x1)) (.node (some (IV.lst qae x2)) .leaf (.node none .leaf (.node (some (IV.int .i64 p)) .leaf .leaf))) (.node none (.node none .leaf (.node (some (IV.int .i64 (Int.ofNat (List.length x1)))) .leaf .leaf)) .leaf)) (IS.mk .leaf 0) [] 0)
def qtu(lf:Nat)(x1:(List qaa))(x2:(List qaa))(L4:Int->Option qdk):Option qdk:=(cond (Bool.not (ieqI (Int.ofNat (List.length x1)) (Int.ofNat (List.length x2)))) (some (Bool.false,())) (L4 (Int.ofNat 0)))
def qo6(lf:Nat)(x1:(List qaa))(x2:(List qaa))(L4:Int->Option qdk)(p:Int):Option qdk:=(cond (iltI p (Int.ofNat (List.length x1))) (match (jget x1 p) with|.none  => none|.some v0=>(match (jget x2 p) with|.none  => none|.some v1=>(cond (Bool.not (Bool.and (keqI v0.1 v1.1) (Bool.and (keqS v0.2.1 v1.2.1) (Bool.and (keqB v0.2.2 v1.2.2) Bool.true)))) (some (Bool.false,())) (L4 (IntKind.i64.wrap (Int.add p (Int.ofNat 1))))))) (some (Bool.true,())))
abbrev gz35:Type:=ElA [(.list qae),(.list qae)]->Option qdk
abbrev sz35(g:gz35):Sm:=⟨[(.list qae),(.list qae)],[(false,.bool)],g⟩
abbrev Ez35(g:gz35)(J:JT qdk)(lf:Nat)(x1:(List qaa))(x2:(List qaa)):=qax Tryz.prog ttT.get qjf qdv.nt (qu6 _ lf) lf qlm J qdv.body [] (qam (argV [(.list qae),(.list qae)] (x1,x2,())) 0 .leaf) S0 [] (qal ttT.get qdv (sz35 g))
abbrev Bz35(g:gz35)(J:JT qdk)(lf k:Nat)(ms:List Nat)(q:NRes):=qbr Tryz.prog ttT.get qjf qdv.nt (qu6 _ lf) lf qlm J k qdv.body [] ms q (qal ttT.get qdv (sz35 g))
theorem zk3(g:gz35)(J:JT qdk)(lf:Nat)(x1:(List qaa))(x2:(List qaa)):Ez35 g J lf x1 x2=qtu lf x1 x2 (fun q=>J 4 [lf] (qit x1 x2 q)):=by kernel_rfl
theorem zjo(g:gz35)(J:JT qdk)(lf:Nat)(x1:(List qaa))(x2:(List qaa))(m1:Nat)(p:Int):Bz35 g J lf 4 [m1] (qit x1 x2 p)=qo6 lf x1 x2 (fun q=>J 4 [m1] (qit x1 x2 q)) p:=by kernel_rfl
theorem q6j:(regs qdv.body).Nodup:=by decide +kernel
theorem q5f:okC qjf qlm qvg qdv.body none=true:=by kernel_rfl
def Az35(g:gz35)(lf:Nat):JT qdk:=atN Tryz.prog ttT.get qjf qdv (sz35 g) (qu6 _ lf) lf qvg
def qpv(lf:Nat)(x1:(List qaa))(x2:(List qaa)):Nat->(Int)->Option qdk:=qa2 fun K p=>qo6 lf x1 x2 K p
theorem q62(g:gz35)(lf:Nat)(x1:(List qaa))(x2:(List qaa)):∀(n:Nat) (p:Int),Az35 g lf 4 [n] (qit x1 x2 p)=qpv lf x1 x2 n p
 | 0,p=>qbl 4 [0] rfl _
 | n+1,p=>by
  have ih:=q62 g lf x1 x2 n;refine(qbm (qa5 20 _) q6j q5f 4 [n+1] [n] rfl _).trans ((zjo g (Az35 g lf) lf x1 x2 n p).trans ?_);rw[(show (fun q=>Az35 g lf 4 [n] (qit x1 x2 q))=(fun q=>qpv lf x1 x2 n q) from funext ih)];rfl
def Fz35(lf:Nat)(x1:(List qaa))(x2:(List qaa)):Option qdk:=qtu lf x1 x2 (fun q=>qpv lf x1 x2 lf q)
theorem zfg(g:gz35)(lf:Nat)(x1:(List qaa))(x2:(List qaa)):Ez35 g (Az35 g lf) lf x1 x2=Fz35 lf x1 x2:=by
  refine(zk3 g (Az35 g lf) lf x1 x2).trans ?_;rw[(show (fun q=>Az35 g lf 4 [lf] (qit x1 x2 q))=(fun q=>qpv lf x1 x2 lf q) from funext fun q=>q62 g lf x1 x2 lf q)];rfl
theorem zkr:qat Tryz.prog qwc:=trivial
theorem zyz{g:gz35}(hsm:SmOK Tryz.prog q07)(hg:∀(x:ElA [(.list qae),(.list qae)]) (y:qdk),WfA [(.list qae),(.list qae)] x->g x=some y->∃lf,Fz35 lf x.1 x.2.1=some y):Con Tryz.prog 100 ⟨[(.list qae),(.list qae)],[(false,.bool)],g⟩ :=
 conT (nmf:=qjf) (sml:=q07) (hxl:=qwc) (st:=qlm) (hd:=qvg) 20 mixed ttOK ftOK hsm zkr zz5 rfl rfl (by kernel_rfl) (fun x=>by kernel_rfl) q6j q5f fun x y hx hy=>by
  obtain⟨lf,h⟩:=hg x y hx hy;exact⟨lf,(zfg g lf x.1 x.2.1).trans h⟩
end Go.Proofs.YtnhmanoiolfapaaGreat
end

section
namespace Go.Proofs.YtnhmanoiolfapaaGreat
open Go Go.RowKit Go.Shelf
def qvr:Go.Shelf.Ren:=⟨fun|105=>90|212=>102|99=>106|165=>107|166=>108|170=>109|169=>110|263=>116|264=>117|206=>118|240=>119|241=>120|276=>126|277=>127|n=>n,fun|9=>9|3=>3|4=>4|20=>20|0=>0|46=>141|109=>158|5=>5|72=>166|76=>170|51=>178|146=>179|53=>181|148=>182|70=>164|37=>78|75=>169|127=>184|164=>191|80=>100|n=>n,fun|n=>n⟩
theorem q2y:Go.Proofs.Lays.n105 Tryz.prog qvr:={
 mixed:=by kernel_rfl
 f99:=Tryz.func106.trans (congrArg some (by kernel_rfl))
 f105:=Tryz.func90.trans (congrArg some (by kernel_rfl))
 f165:=Tryz.func107.trans (congrArg some (by kernel_rfl))
 f166:=Tryz.func108.trans (congrArg some (by kernel_rfl))
 f169:=Tryz.func110.trans (congrArg some (by kernel_rfl))
 f170:=Tryz.func109.trans (congrArg some (by kernel_rfl))
 f206:=Tryz.func118.trans (congrArg some (by kernel_rfl))
 f212:=Tryz.func102.trans (congrArg some (by kernel_rfl))
 f240:=Tryz.func119.trans (congrArg some (by kernel_rfl))
 f241:=Tryz.func120.trans (congrArg some (by kernel_rfl))
 f263:=Tryz.func116.trans (congrArg some (by kernel_rfl))
 f264:=Tryz.func117.trans (congrArg some (by kernel_rfl))
 f276:=Tryz.func126.trans (congrArg some (by kernel_rfl))
 f277:=Tryz.func127.trans (congrArg some (by kernel_rfl))
 t0:=Tryz.underlying0
 a0:=Tryz.isAgg0
 z0:=Tryz.sizeOf0
 v0:=Tryz.zeroValue0
 t3:=Tryz.underlying3
 a3:=Tryz.isAgg3
 z3:=Tryz.sizeOf3
 v3:=Tryz.zeroValue3
 t4:=Tryz.underlying4
 a4:=Tryz.isAgg4
 z4:=Tryz.sizeOf4
 v4:=Tryz.zeroValue4
 t5:=Tryz.underlying5
 a5:=Tryz.isAgg5
 z5:=Tryz.sizeOf5
 v5:=Tryz.zeroValue5
 t9:=Tryz.underlying9
 a9:=Tryz.isAgg9
 z9:=Tryz.sizeOf9
 v9:=Tryz.zeroValue9
 t20:=Tryz.underlying20
 a20:=Tryz.isAgg20
 z20:=Tryz.sizeOf20
 v20:=Tryz.zeroValue20
 t37:=Tryz.underlying78
 a37:=Tryz.isAgg78
 z37:=Tryz.sizeOf78
 v37:=Tryz.zeroValue78
 t46:=Tryz.underlying141
 a46:=Tryz.isAgg141
 z46:=Tryz.sizeOf141
 v46:=Tryz.zeroValue141
 t51:=Tryz.underlying178
 a51:=Tryz.isAgg178
 z51:=Tryz.sizeOf178
 v51:=Tryz.zeroValue178
 t53:=Tryz.underlying181
 a53:=Tryz.isAgg181
 z53:=Tryz.sizeOf181
 v53:=Tryz.zeroValue181
 t70:=Tryz.underlying164
 a70:=Tryz.isAgg164
 z70:=Tryz.sizeOf164
 v70:=Tryz.zeroValue164
 t72:=Tryz.underlying166
 a72:=Tryz.isAgg166
 z72:=Tryz.sizeOf166
 v72:=Tryz.zeroValue166
 t75:=Tryz.underlying169
 a75:=Tryz.isAgg169
 z75:=Tryz.sizeOf169
 v75:=Tryz.zeroValue169
 t76:=Tryz.underlying170
 a76:=Tryz.isAgg170
 z76:=Tryz.sizeOf170
 v76:=Tryz.zeroValue170
 t109:=Tryz.underlying158
 a109:=Tryz.isAgg158
 z109:=Tryz.sizeOf158
 v109:=Tryz.zeroValue158
 t127:=Tryz.underlying184
 a127:=Tryz.isAgg184
 z127:=Tryz.sizeOf184
 v127:=Tryz.zeroValue184
 t146:=Tryz.underlying179
 a146:=Tryz.isAgg179
 z146:=Tryz.sizeOf179
 v146:=Tryz.zeroValue179
 t148:=Tryz.underlying182
 a148:=Tryz.isAgg182
 z148:=Tryz.sizeOf182
 v148:=Tryz.zeroValue182
 t164:=Tryz.underlying191
 a164:=Tryz.isAgg191
 z164:=Tryz.sizeOf191
 v164:=Tryz.zeroValue191 }
theorem ztv:Builder.Extra Tryz.prog qvr:={
 sizeBuilder:=by kernel_rfl
 liesBuilder:=by kernel_rfl
 t5:=Tryz.underlying5
 a5:=Tryz.isAgg5
 z5:=Tryz.sizeOf5
 v5:=Tryz.zeroValue5
 infoByte:=by kernel_rfl
 cellsByte:=by kernel_rfl
 sizeByte:=by kernel_rfl
 neB5:=by decide }
theorem zu1(s:ByteArray)(c:Nat)(w:World)(hc:c<=9223372036854775807)(hlen:s.size*c<=140737488355328) :
  Calls Tryz.prog 90 #[.string s,.int .i64 c] w fun e w'=>e=.returned (.string ⟨(Lib.repeatL s.data.toList c).toArray⟩)/\Below w.heap.size w w':=Any.strings_Repeat q2y ztv s c w hc hlen
end Go.Proofs.YtnhmanoiolfapaaGreat
end

noncomputable section
set_option maxRecDepth 100000
namespace Go.Proofs.YtnhmanoiolfapaaGreat
open Go Go.Sx Go.RowKit Go.Jx
theorem znz:qai Tryz.prog 90:=⟨_,Tryz.func90,by kernel_rfl,by kernel_rfl⟩
theorem z0f{f:Nat}{s:Sm}(hC:qai Tryz.prog f)(hr:∀y,resO s.rts y=[])
  (h:∀(M:List Nat) (w:World) (x:ElA s.pts) (us:List Value) (y:ElR s.rts),s.f x=some y->VRs (EM M w) (argV s.pts x) us->∃v,(∀E':Env,VR E' (tupI (resV s.rts 0 y)) v)/\Calls Tryz.prog f us.toArray w fun e w'=>e=.returned v/\Below w.heap.size w w'):Con Tryz.prog f s :=
 ⟨hC,fun M w x us y hy hM hg hv=>by
  obtain⟨v,h1,h2⟩:=h M w x us y hy hv;refine(callsIn_wide.2 h2).mono fun e w' hR=>?_;obtain⟨rfl,hb⟩:=hR;rw[hr y];obtain⟨q1,q2⟩:=Post.idle (preM hM hg) (Upd.of_below hb);exact⟨v,(EM M w).at_ w',rfl,rfl,h1 _,q1,q2⟩⟩
theorem zle{s:ByteArray}{n:Int}(h:S.oneN s n=true):s=S.lit [0]/\n=64:=by
 unfold S.oneN at h;rw[Bool.and_eq_true] at h;exact⟨of_decide_eq_true h.1,of_decide_eq_true h.2⟩
theorem zui:S.blank.size=64:=by kernel_rfl
theorem zyk{E:Env}(s:ByteArray)(n:Int){us:List Value}{y:ByteArray × Unit}(hy:cond (S.oneN s n) (some (S.blank,())) none=some y)(hv:VRs E [.str s,.int .i64 n] us) :
  ∃v,(∀E':Env,VR E' (.str y.1) v)/\Calls Tryz.prog 90 us.toArray E.w fun e w'=>e=.returned v/\Below E.w.heap.size E.w w':=by
 obtain⟨hk,rfl⟩:=qba hy;obtain⟨rfl,rfl⟩:=zle hk;obtain⟨u1,us1,rfl,a1,a2⟩:=hv.inv;obtain⟨u2,us2,rfl,a3,a4⟩:=a2.inv;have e:us2=[]:=by have:=a4.1;simpa using this.symm
 subst e;cases a1;cases a3;refine⟨.string S.blank,fun E'=>.str _ (by rw[zui];omega),?_⟩;refine(zu1 (S.lit [0]) 64 E.w (by omega) (by show 1*64<=_;omega)).mono fun e w' h=>?_;rw[show (⟨(Lib.repeatL (S.lit [0]).data.toList 64).toArray⟩:ByteArray)=S.blank by kernel_rfl] at h;exact h
theorem zz3:Con Tryz.prog 90 q4r :=
 z0f znz (fun y=>rfl) fun M w x us y hy hv=>zyk x.1 x.2.1 hy hv
def qlg:Nat->Option Nm:=fun k=>none
def qpn:Nat->Bool:=fun k=>false
def qyr:=qpn
abbrev qgd:Type:=Int × Unit
def qvn:List (Nat × Sm):=[(93,qmt)]
def q01:List (Nat × Hx):=[]
def q94(R:Type)(lf:Nat):ClK R:=qao Tryz.prog ttT.get ftT.get (nm1 69 qlg) (smL qvn) (hxL q01) lf 20 R
abbrev zm0:Nat:=69
def qyc(lf:Nat)(x1:qad):Option qgd:=(match (cond (S.inI (Int.ofNat (List.length x1.1.1)) (Int.ofNat 0) (Int.ofNat 1000)) (some ((S.half (Int.toNat (Int.ofNat (List.length x1.1.1))) x1.2.1),())) none) with|.none  => none|.some v0=>(some ((IntKind.i64.wrap (Int.sub (IntKind.i64.wrap (Int.sub v0.1.2 v0.1.1)) x1.2.2.1)),())))
abbrev gz36:Type:=ElA [qaf]->Option qgd
abbrev sz36(g:gz36):Sm:=⟨[qaf],[(false,(.int .i64))],g⟩
abbrev Ez36(g:gz36)(J:JT qgd)(lf:Nat)(x1:qad):=qax Tryz.prog ttT.get qlg fi69.nt (q94 _ lf) lf qpn J fi69.body [] (qam (argV [qaf] (x1,())) 0 .leaf) S0 [] (qal ttT.get fi69 (sz36 g))
theorem zf6(g:gz36)(J:JT qgd)(lf:Nat)(x1:qad):Ez36 g J lf x1=qyc lf x1:=by kernel_rfl
theorem zy3:(regs fi69.body).Nodup:=by decide +kernel
theorem ze7:okC qlg qpn qyr fi69.body none=true:=by kernel_rfl
def Az36(g:gz36)(lf:Nat):JT qgd:=atN Tryz.prog ttT.get qlg fi69 (sz36 g) (q94 _ lf) lf qyr
def Fz36(lf:Nat)(x1:qad):Option qgd:=qyc lf x1
theorem zwt(g:gz36)(lf:Nat)(x1:qad):Ez36 g (Az36 g lf) lf x1=Fz36 lf x1:=by
  refine(zf6 g (Az36 g lf) lf x1).trans ?_;rfl
theorem zuq:qat Tryz.prog q01:=trivial
theorem zoa{g:gz36}(hsm:SmOK Tryz.prog qvn)(hg:∀(x:ElA [qaf]) (y:qgd),WfA [qaf] x->g x=some y->∃lf,Fz36 lf x.1=some y):Con Tryz.prog 69 ⟨[qaf],[(false,(.int .i64))],g⟩ :=
 conT (nmf:=qlg) (sml:=qvn) (hxl:=q01) (st:=qpn) (hd:=qyr) 20 mixed ttOK ftOK hsm zuq zh1 rfl rfl (by kernel_rfl) (fun x=>by kernel_rfl) zy3 ze7 fun x y hx hy=>by
  obtain⟨lf,h⟩:=hg x y hx hy;exact⟨lf,(zwt g lf x.1).trans h⟩
def qjo:Nat->Option Nm:=fun k=>cond (Nat.beq k 6) (some ⟨[0,12,13,14],[],[],[],[],0,0,false⟩) (none)
def qmw:Nat->Bool:=fun k=>cond (Nat.beq k 6) true (false)
def qv8:=qmw
abbrev qco:Type:=Int × Int × Unit
def q1q:List (Nat × Sm):=[(66,qgo),(56,qk6)]
def q09:List (Nat × Hx):=[]
def qyd(R:Type)(lf:Nat):ClK R:=qao Tryz.prog ttT.get ftT.get (nm1 22 qjo) (smL q1q) (hxL q09) lf 20 R
abbrev zpn:Nat:=22
def qjb(x1:(List qaa))(p:Int):NRes:=(NRes.mk (.node (some (IV.lst qae x1)) (.node none .leaf (.node none .leaf (.node (some (IV.int .i64 (Int.ofNat (List.length x1)))) .leaf .leaf))) (.node none (.node none .leaf (.node (some (IV.lst qae x1)) .leaf .leaf)) (.node none .leaf (.node (some (IV.int .i64 p)) .leaf .leaf)))) (IS.mk .leaf 0) [] 0)
def qtv(lf:Nat)(x1:(List qaa))(L6:Int->Option qco):Option qco:=(cond (iltI (Int.ofNat 60) (Int.ofNat (List.length x1))) (some ((Int.ofNat 0),((Int.ofNat 3),()))) (cond (ieqI (Int.ofNat (List.length x1)) (Int.ofNat 0)) (some ((Int.ofNat 0),((Int.ofNat 1),()))) (L6 (Int.ofNat 0))))
def qmc(lf:Nat)(x1:(List qaa))(L6:Int->Option qco)(p:Int):Option qco:=(cond (iltI p (Int.ofNat (List.length x1))) (match (jget x1 p) with|.none  => none|.some v0=>(cond (Bool.not (S.inI v0.1 (Int.ofNat 0) (Int.ofNat 199))) (some ((Int.ofNat 0),((Int.ofNat 1),()))) (cond (iltI (Int.ofNat 4000) (Int.ofNat (ByteArray.size v0.2.1))) (some ((Int.ofNat 0),((Int.ofNat 1),()))) (cond v0.2.2 (cond (Bool.not (keqS v0.2.1 (S.lit []))) (some ((Int.ofNat 0),((Int.ofNat 1),()))) (cond (iltI (Int.ofNat 0) p) (match (jget x1 (IntKind.i64.wrap (Int.sub p (Int.ofNat 1)))) with|.none  => none|.some v1=>(cond (Bool.not (iltI v1.1 v0.1)) (some ((Int.ofNat 0),((Int.ofNat 1),()))) (L6 (IntKind.i64.wrap (Int.add p (Int.ofNat 1)))))) (L6 (IntKind.i64.wrap (Int.add p (Int.ofNat 1)))))) (cond (iltI (Int.ofNat 0) p) (match (jget x1 (IntKind.i64.wrap (Int.sub p (Int.ofNat 1)))) with|.none  => none|.some v25=>(cond (Bool.not (iltI v25.1 v0.1)) (some ((Int.ofNat 0),((Int.ofNat 1),()))) (L6 (IntKind.i64.wrap (Int.add p (Int.ofNat 1)))))) (L6 (IntKind.i64.wrap (Int.add p (Int.ofNat 1))))))))) (match (cond (S.pk x1) (some ((S.packed x1 (Int.ofNat 1)),())) none) with|.none  => none|.some v26=>(some ((Int.ofNat (List.length v26.1)),((Int.ofNat 0),())))))
abbrev gz37:Type:=ElA [(.list qae)]->Option qco
abbrev sz37(g:gz37):Sm:=⟨[(.list qae)],[(false,(.int .i64)),(false,(.int .i64))],g⟩
abbrev Ez37(g:gz37)(J:JT qco)(lf:Nat)(x1:(List qaa)):=qax Tryz.prog ttT.get qjo fi22.nt (qyd _ lf) lf qmw J fi22.body [] (qam (argV [(.list qae)] (x1,())) 0 .leaf) S0 [] (qal ttT.get fi22 (sz37 g))
abbrev Bz37(g:gz37)(J:JT qco)(lf k:Nat)(ms:List Nat)(q:NRes):=qbr Tryz.prog ttT.get qjo fi22.nt (qyd _ lf) lf qmw J k fi22.body [] ms q (qal ttT.get fi22 (sz37 g))
theorem zgs(g:gz37)(J:JT qco)(lf:Nat)(x1:(List qaa)):Ez37 g J lf x1=qtv lf x1 (fun q=>J 6 [lf] (qjb x1 q)):=by kernel_rfl
theorem zmd(g:gz37)(J:JT qco)(lf:Nat)(x1:(List qaa))(m1:Nat)(p:Int):Bz37 g J lf 6 [m1] (qjb x1 p)=qmc lf x1 (fun q=>J 6 [m1] (qjb x1 q)) p:=by kernel_rfl
theorem zcd:(regs fi22.body).Nodup:=by decide +kernel
theorem q8e:okC qjo qmw qv8 fi22.body none=true:=by kernel_rfl
def Az37(g:gz37)(lf:Nat):JT qco:=atN Tryz.prog ttT.get qjo fi22 (sz37 g) (qyd _ lf) lf qv8
def qpx(lf:Nat)(x1:(List qaa)):Nat->(Int)->Option qco:=qa2 fun K p=>qmc lf x1 K p
theorem za5(g:gz37)(lf:Nat)(x1:(List qaa)):∀(n:Nat) (p:Int),Az37 g lf 6 [n] (qjb x1 p)=qpx lf x1 n p
 | 0,p=>qbl 6 [0] rfl _
 | n+1,p=>by
  have ih:=za5 g lf x1 n;refine(qbm (qa5 20 _) zcd q8e 6 [n+1] [n] rfl _).trans ((zmd g (Az37 g lf) lf x1 n p).trans ?_);rw[(show (fun q=>Az37 g lf 6 [n] (qjb x1 q))=(fun q=>qpx lf x1 n q) from funext ih)];rfl
def Fz37(lf:Nat)(x1:(List qaa)):Option qco:=qtv lf x1 (fun q=>qpx lf x1 lf q)
theorem ziv(g:gz37)(lf:Nat)(x1:(List qaa)):Ez37 g (Az37 g lf) lf x1=Fz37 lf x1:=by
  refine(zgs g (Az37 g lf) lf x1).trans ?_;rw[(show (fun q=>Az37 g lf 6 [lf] (qjb x1 q))=(fun q=>qpx lf x1 lf q) from funext fun q=>za5 g lf x1 lf q)];rfl
theorem zvd:qat Tryz.prog q09:=trivial
theorem zjv{g:gz37}(hsm:SmOK Tryz.prog q1q)(hg:∀(x:ElA [(.list qae)]) (y:qco),WfA [(.list qae)] x->g x=some y->∃lf,Fz37 lf x.1=some y):Con Tryz.prog 22 ⟨[(.list qae)],[(false,(.int .i64)),(false,(.int .i64))],g⟩ :=
 conT (nmf:=qjo) (sml:=q1q) (hxl:=q09) (st:=qmw) (hd:=qv8) 20 mixed ttOK ftOK hsm zvd zdu rfl rfl (by kernel_rfl) (fun x=>by kernel_rfl) zcd q8e fun x y hx hy=>by
  obtain⟨lf,h⟩:=hg x y hx hy;exact⟨lf,(ziv g lf x.1).trans h⟩
def qkc:Nat->Option Nm:=fun k=>none
def qp1:Nat->Bool:=fun k=>false
def q1l:=qp1
abbrev qf5:Type:=Int × Unit
def q2f:List (Nat × Sm):=[(37,qfv),(61,qgc),(100,q76)]
def qye:List (Nat × Hx):=[]
def q6e(R:Type)(lf:Nat):ClK R:=qao Tryz.prog ttT.get ftT.get (nm1 65 qkc) (smL q2f) (hxL qye) lf 20 R
abbrev zjj:Nat:=65
def qvu(lf:Nat)(x1:qad):Option qf5:=(cond (Bool.not (ieqI (S.checkDisk (x1.1.1,x1.1.2)) (Int.ofNat 0))) (some ((Int.ofNat 1),())) (cond (iltI (Int.ofNat 0) (Int.ofNat (List.length x1.1.2))) (some ((Int.ofNat 1),())) (match (cond (S.okL (x1.1.1,x1.1.2)) (some ((S.openedJ (x1.1.1,x1.1.2)).1,((S.openedJ (x1.1.1,x1.1.2)).2,()))) none) with|.none  => none|.some v0=>(cond (Bool.not v0.2.1) (some ((Int.ofNat 1),())) (cond (Bool.not (ieqI v0.1.2.1 x1.2.1)) (some ((Int.ofNat 1),())) (cond (Bool.not (ieqI v0.1.2.2.1 x1.2.2.1)) (some ((Int.ofNat 1),())) (cond (Bool.not (S.sameC v0.1.2.2.2 x1.2.2.2)) (some ((Int.ofNat 1),())) (some ((Int.ofNat 0),())))))))))
abbrev gz38:Type:=ElA [qaf]->Option qf5
abbrev sz38(g:gz38):Sm:=⟨[qaf],[(false,(.int .i64))],g⟩
abbrev Ez38(g:gz38)(J:JT qf5)(lf:Nat)(x1:qad):=qax Tryz.prog ttT.get qkc fi65.nt (q6e _ lf) lf qp1 J fi65.body [] (qam (argV [qaf] (x1,())) 0 .leaf) S0 [] (qal ttT.get fi65 (sz38 g))
theorem zri(g:gz38)(J:JT qf5)(lf:Nat)(x1:qad):Ez38 g J lf x1=qvu lf x1:=by kernel_rfl
theorem zq3:(regs fi65.body).Nodup:=by decide +kernel
theorem zdh:okC qkc qp1 q1l fi65.body none=true:=by kernel_rfl
def Az38(g:gz38)(lf:Nat):JT qf5:=atN Tryz.prog ttT.get qkc fi65 (sz38 g) (q6e _ lf) lf q1l
def Fz38(lf:Nat)(x1:qad):Option qf5:=qvu lf x1
theorem zj0(g:gz38)(lf:Nat)(x1:qad):Ez38 g (Az38 g lf) lf x1=Fz38 lf x1:=by
  refine(zri g (Az38 g lf) lf x1).trans ?_;rfl
theorem zuc:qat Tryz.prog qye:=trivial
theorem zve{g:gz38}(hsm:SmOK Tryz.prog q2f)(hg:∀(x:ElA [qaf]) (y:qf5),WfA [qaf] x->g x=some y->∃lf,Fz38 lf x.1=some y):Con Tryz.prog 65 ⟨[qaf],[(false,(.int .i64))],g⟩ :=
 conT (nmf:=qkc) (sml:=q2f) (hxl:=qye) (st:=qp1) (hd:=q1l) 20 mixed ttOK ftOK hsm zuc zjw rfl rfl (by kernel_rfl) (fun x=>by kernel_rfl) zq3 zdh fun x y hx hy=>by
  obtain⟨lf,h⟩:=hg x y hx hy;exact⟨lf,(zj0 g lf x.1).trans h⟩
def ql5:Nat->Option Nm:=fun k=>none
def qqt:Nat->Bool:=fun k=>false
def q12:=qqt
abbrev qhi:Type:=Int × Int × Unit
def q2e:List (Nat × Sm):=[(65,qqd),(69,qsj)]
def qwe:List (Nat × Hx):=[]
def zbd(R:Type)(lf:Nat):ClK R:=qao Tryz.prog ttT.get ftT.get (nm1 20 ql5) (smL q2e) (hxL qwe) lf 20 R
abbrev zpz:Nat:=20
def qtk(lf:Nat)(x1:qad):Option qhi:=(cond (Bool.not (ieqI (S.errR ((x1.1.1,x1.1.2),(x1.2.1,(x1.2.2.1,x1.2.2.2)))) (Int.ofNat 0))) (some ((Int.ofNat 0),((S.errR ((x1.1.1,x1.1.2),(x1.2.1,(x1.2.2.1,x1.2.2.2)))),()))) (match (cond (S.smallJ ((x1.1.1,x1.1.2),(x1.2.1,(x1.2.2.1,x1.2.2.2)))) (some ((S.roomOf ((x1.1.1,x1.1.2),(x1.2.1,(x1.2.2.1,x1.2.2.2)))),())) none) with|.none  => none|.some v0=>(some (v0.1,((Int.ofNat 0),())))))
abbrev gz39:Type:=ElA [qaf]->Option qhi
abbrev sz39(g:gz39):Sm:=⟨[qaf],[(false,(.int .i64)),(false,(.int .i64))],g⟩
abbrev Ez39(g:gz39)(J:JT qhi)(lf:Nat)(x1:qad):=qax Tryz.prog ttT.get ql5 fi20.nt (zbd _ lf) lf qqt J fi20.body [] (qam (argV [qaf] (x1,())) 0 .leaf) S0 [] (qal ttT.get fi20 (sz39 g))
theorem zic(g:gz39)(J:JT qhi)(lf:Nat)(x1:qad):Ez39 g J lf x1=qtk lf x1:=by kernel_rfl
theorem zn7:(regs fi20.body).Nodup:=by decide +kernel
theorem zza:okC ql5 qqt q12 fi20.body none=true:=by kernel_rfl
def Az39(g:gz39)(lf:Nat):JT qhi:=atN Tryz.prog ttT.get ql5 fi20 (sz39 g) (zbd _ lf) lf q12
def Fz39(lf:Nat)(x1:qad):Option qhi:=qtk lf x1
theorem zhq(g:gz39)(lf:Nat)(x1:qad):Ez39 g (Az39 g lf) lf x1=Fz39 lf x1:=by
  refine(zic g (Az39 g lf) lf x1).trans ?_;rfl
theorem zqo:qat Tryz.prog qwe:=trivial
theorem zk9{g:gz39}(hsm:SmOK Tryz.prog q2e)(hg:∀(x:ElA [qaf]) (y:qhi),WfA [qaf] x->g x=some y->∃lf,Fz39 lf x.1=some y):Con Tryz.prog 20 ⟨[qaf],[(false,(.int .i64)),(false,(.int .i64))],g⟩ :=
 conT (nmf:=ql5) (sml:=q2e) (hxl:=qwe) (st:=qqt) (hd:=q12) 20 mixed ttOK ftOK hsm zqo zxo rfl rfl (by kernel_rfl) (fun x=>by kernel_rfl) zn7 zza fun x y hx hy=>by
  obtain⟨lf,h⟩:=hg x y hx hy;exact⟨lf,(zhq g lf x.1).trans h⟩
def qmh:Nat->Option Nm:=fun k=>none
def qof:Nat->Bool:=fun k=>false
def q0i:=qof
abbrev qf9:Type:=Int × Unit
def qzg:List (Nat × Sm):=[(65,qqd),(22,qxk)]
def qtb:List (Nat × Hx):=[]
def q5m(R:Type)(lf:Nat):ClK R:=qao Tryz.prog ttT.get ftT.get (nm1 71 qmh) (smL qzg) (hxL qtb) lf 20 R
abbrev zno:Nat:=71
def qvi(lf:Nat)(x1:qad)(x2:(List qaa)):Option qf9:=(cond (Bool.not (ieqI (S.errR ((x1.1.1,x1.1.2),(x1.2.1,(x1.2.2.1,x1.2.2.2)))) (Int.ofNat 0))) (some ((S.errR ((x1.1.1,x1.1.2),(x1.2.1,(x1.2.2.1,x1.2.2.2)))),())) (some ((S.size x2).2,())))
abbrev gz40:Type:=ElA [qaf,(.list qae)]->Option qf9
abbrev sz40(g:gz40):Sm:=⟨[qaf,(.list qae)],[(false,(.int .i64))],g⟩
abbrev Ez40(g:gz40)(J:JT qf9)(lf:Nat)(x1:qad)(x2:(List qaa)):=qax Tryz.prog ttT.get qmh fi71.nt (q5m _ lf) lf qof J fi71.body [] (qam (argV [qaf,(.list qae)] (x1,x2,())) 0 .leaf) S0 [] (qal ttT.get fi71 (sz40 g))
theorem zps(g:gz40)(J:JT qf9)(lf:Nat)(x1:qad)(x2:(List qaa)):Ez40 g J lf x1 x2=qvi lf x1 x2:=by kernel_rfl
theorem zry:(regs fi71.body).Nodup:=by decide +kernel
theorem zyp:okC qmh qof q0i fi71.body none=true:=by kernel_rfl
def Az40(g:gz40)(lf:Nat):JT qf9:=atN Tryz.prog ttT.get qmh fi71 (sz40 g) (q5m _ lf) lf q0i
def Fz40(lf:Nat)(x1:qad)(x2:(List qaa)):Option qf9:=qvi lf x1 x2
theorem zs1(g:gz40)(lf:Nat)(x1:qad)(x2:(List qaa)):Ez40 g (Az40 g lf) lf x1 x2=Fz40 lf x1 x2:=by
  refine(zps g (Az40 g lf) lf x1 x2).trans ?_;rfl
theorem zqf:qat Tryz.prog qtb:=trivial
theorem zou{g:gz40}(hsm:SmOK Tryz.prog qzg)(hg:∀(x:ElA [qaf,(.list qae)]) (y:qf9),WfA [qaf,(.list qae)] x->g x=some y->∃lf,Fz40 lf x.1 x.2.1=some y):Con Tryz.prog 71 ⟨[qaf,(.list qae)],[(false,(.int .i64))],g⟩ :=
 conT (nmf:=qmh) (sml:=qzg) (hxl:=qtb) (st:=qof) (hd:=q0i) 20 mixed ttOK ftOK hsm zqf zll rfl rfl (by kernel_rfl) (fun x=>by kernel_rfl) zry zyp fun x y hx hy=>by
  obtain⟨lf,h⟩:=hg x y hx hy;exact⟨lf,(zs1 g lf x.1 x.2.1).trans h⟩
def qm0:Nat->Option Nm:=fun k=>none
def qpg:Nat->Bool:=fun k=>false
def qx3:=qpg
abbrev qha:Type:=(List DAct) × Bool × Unit
def q16:List (Nat × Sm):=[(56,qk6),(69,qsj),(93,qmt),(101,qve),(54,qpu)]
def qtp:List (Nat × Hx):=[(53,hxR spz7),(55,hxR spz8)]
def q9q(R:Type)(lf:Nat):ClK R:=qao Tryz.prog ttT.get ftT.get (nm1 72 qm0) (smL q16) (hxL qtp) lf 20 R
abbrev zj9:Nat:=72
def qtn(lf:Nat)(x1:qad)(x2:(List qaa)):Option qha:=(match (cond (S.pk x2) (some ((S.packed x2 (Int.ofNat 1)),())) none) with|.none  => none|.some v0=>(match (cond (S.smallJ ((x1.1.1,x1.1.2),(x1.2.1,(x1.2.2.1,x1.2.2.2)))) (some ((S.roomOf ((x1.1.1,x1.1.2),(x1.2.1,(x1.2.2.1,x1.2.2.2)))),())) none) with|.none  => none|.some v1=>(cond (iltI v1.1 (Int.ofNat (List.length v0.1))) (some ([],(Bool.false,()))) (match (cond (S.inI (Int.ofNat (List.length x1.1.1)) (Int.ofNat 0) (Int.ofNat 1000)) (some ((S.half (Int.toNat (Int.ofNat (List.length x1.1.1))) x1.2.1),())) none) with|.none  => none|.some v2=>(match (jget v0.1 (Int.ofNat 0)) with|.none  => none|.some v3=>(match (GetElem?.getElem? v0.1 0) with|.none  => none|.some v4=>(match (cond (Decidable.decide (Eq (ByteArray.size v4) 64)) (some ((qag (List.cons (Int.ofNat 0) (List.drop 1 (qac v4)))),())) none) with|.none  => none|.some v5=>(match (cond (Bool.and (S.inI (IntKind.i64.wrap (Int.add v2.1.1 x1.2.2.1)) (Int.ofNat 0) (Int.ofNat 1000000)) Bool.true) (some ((),(((S.app [] (S.puts (IntKind.i64.wrap (Int.add v2.1.1 x1.2.2.1)) (List.cons v5.1 []))),()),()))) none) with|.none  => none|.some v6=>(cond (lchk (Int.ofNat 1) (Int.ofNat (List.length v0.1)) (Int.ofNat (List.length v0.1)) (Int.ofNat (List.length v0.1))) (match (cond (Bool.and (S.inI (IntKind.i64.wrap (Int.add (IntKind.i64.wrap (Int.add v2.1.1 x1.2.2.1)) (Int.ofNat 1))) (Int.ofNat 0) (Int.ofNat 1000000)) (Bool.and (Nat.ble (List.length (lsub v0.1 (Int.ofNat 1) (Int.ofNat (List.length v0.1)))) 1000000) (Nat.ble (S.lenA v6.2.1.1) 1000000))) (some ((),(((S.app v6.2.1.1 (S.puts (IntKind.i64.wrap (Int.add (IntKind.i64.wrap (Int.add v2.1.1 x1.2.2.1)) (Int.ofNat 1))) (lsub v0.1 (Int.ofNat 1) (Int.ofNat (List.length v0.1))))),()),()))) none) with|.none  => none|.some v7=>(cond (iltI (IntKind.i64.wrap (Int.add (IntKind.i64.wrap (Int.add v2.1.1 x1.2.2.1)) (Int.ofNat (List.length v0.1)))) v2.1.2) (match (cond (Bool.and (S.inI (IntKind.i64.wrap (Int.add (IntKind.i64.wrap (Int.add v2.1.1 x1.2.2.1)) (Int.ofNat (List.length v0.1)))) (Int.ofNat 0) (Int.ofNat 1000000)) (Nat.ble (S.lenA v7.2.1.1) 1000000)) (some ((),(((S.app v7.2.1.1 (S.puts (IntKind.i64.wrap (Int.add (IntKind.i64.wrap (Int.add v2.1.1 x1.2.2.1)) (Int.ofNat (List.length v0.1)))) (List.cons S.blank []))),()),()))) none) with|.none  => none|.some v8=>(match (cond (Nat.ble (S.lenA v8.2.1.1) 4000000) (some ((),(((S.app v8.2.1.1 (List.cons S.sync [])),()),()))) none) with|.none  => none|.some v9=>(match (jget v0.1 (Int.ofNat 0)) with|.none  => none|.some v10=>(match (cond (Bool.and (S.inI (IntKind.i64.wrap (Int.add v2.1.1 x1.2.2.1)) (Int.ofNat 0) (Int.ofNat 1000000)) (Nat.ble (S.lenA v9.2.1.1) 1000000)) (some ((),(((S.app v9.2.1.1 (S.puts (IntKind.i64.wrap (Int.add v2.1.1 x1.2.2.1)) (List.cons v10 []))),()),()))) none) with|.none  => none|.some v11=>(match (cond (Nat.ble (S.lenA v11.2.1.1) 4000000) (some ((),(((S.app v11.2.1.1 (List.cons S.sync [])),()),()))) none) with|.none  => none|.some v12=>(some (v12.2.1.1,(Bool.true,())))))))) (match (cond (Nat.ble (S.lenA v7.2.1.1) 4000000) (some ((),(((S.app v7.2.1.1 (List.cons S.sync [])),()),()))) none) with|.none  => none|.some v13=>(match (jget v0.1 (Int.ofNat 0)) with|.none  => none|.some v14=>(match (cond (Bool.and (S.inI (IntKind.i64.wrap (Int.add v2.1.1 x1.2.2.1)) (Int.ofNat 0) (Int.ofNat 1000000)) (Nat.ble (S.lenA v13.2.1.1) 1000000)) (some ((),(((S.app v13.2.1.1 (S.puts (IntKind.i64.wrap (Int.add v2.1.1 x1.2.2.1)) (List.cons v14 []))),()),()))) none) with|.none  => none|.some v15=>(match (cond (Nat.ble (S.lenA v15.2.1.1) 4000000) (some ((),(((S.app v15.2.1.1 (List.cons S.sync [])),()),()))) none) with|.none  => none|.some v16=>(some (v16.2.1.1,(Bool.true,()))))))))) none)))))))))
abbrev gz41:Type:=ElA [qaf,(.list qae)]->Option qha
abbrev sz41(g:gz41):Sm:=⟨[qaf,(.list qae)],[(true,cAct),(false,.bool)],g⟩
abbrev Ez41(g:gz41)(J:JT qha)(lf:Nat)(x1:qad)(x2:(List qaa)):=qax Tryz.prog ttT.get qm0 fi72.nt (q9q _ lf) lf qpg J fi72.body [] (qam (argV [qaf,(.list qae)] (x1,x2,())) 0 .leaf) S0 [] (qal ttT.get fi72 (sz41 g))
theorem zdr(g:gz41)(J:JT qha)(lf:Nat)(x1:qad)(x2:(List qaa)):Ez41 g J lf x1 x2=qtn lf x1 x2:=by kernel_rfl
theorem zu3:(regs fi72.body).Nodup:=by decide +kernel
theorem zq5:okC qm0 qpg qx3 fi72.body none=true:=by kernel_rfl
def Az41(g:gz41)(lf:Nat):JT qha:=atN Tryz.prog ttT.get qm0 fi72 (sz41 g) (q9q _ lf) lf qx3
def Fz41(lf:Nat)(x1:qad)(x2:(List qaa)):Option qha:=qtn lf x1 x2
theorem zto(g:gz41)(lf:Nat)(x1:qad)(x2:(List qaa)):Ez41 g (Az41 g lf) lf x1 x2=Fz41 lf x1 x2:=by
  refine(zdr g (Az41 g lf) lf x1 x2).trans ?_;rfl
theorem zlb(hrz7:ConR Tryz.prog 53 spz7)(hrz8:ConR Tryz.prog 55 spz8):qat Tryz.prog qtp:=⟨qfh hrz7,⟨qfh hrz8,trivial⟩⟩
theorem zit{g:gz41}(hsm:SmOK Tryz.prog q16)(hrz7:ConR Tryz.prog 53 spz7)(hrz8:ConR Tryz.prog 55 spz8)(hg:∀(x:ElA [qaf,(.list qae)]) (y:qha),WfA [qaf,(.list qae)] x->g x=some y->∃lf,Fz41 lf x.1 x.2.1=some y):Con Tryz.prog 72 ⟨[qaf,(.list qae)],[(true,cAct),(false,.bool)],g⟩ :=
 conT (nmf:=qm0) (sml:=q16) (hxl:=qtp) (st:=qpg) (hd:=qx3) 20 mixed ttOK ftOK hsm (zlb hrz7 hrz8) zd6 rfl rfl (by kernel_rfl) (fun x=>by kernel_rfl) zu3 zq5 fun x y hx hy=>by
  obtain⟨lf,h⟩:=hg x y hx hy;exact⟨lf,(zto g lf x.1 x.2.1).trans h⟩
def qmb:Nat->Option Nm:=fun k=>none
def qqy:Nat->Bool:=fun k=>false
def qzb:=qqy
abbrev qfx:Type:=qad × Unit
def qy6:List (Nat × Sm):=[(32,qpw),(61,qgc)]
def qxq:List (Nat × Hx):=[]
def q53(R:Type)(lf:Nat):ClK R:=qao Tryz.prog ttT.get ftT.get (nm1 74 qmb) (smL qy6) (hxL qxq) lf 20 R
abbrev zga:Nat:=74
def qy1(lf:Nat)(x1:qad)(x2:(List DAct)):Option qfx:=(match (cond (S.okL ((S.doD (x1.1.1,x1.1.2) x2).1.1,(S.doD (x1.1.1,x1.1.2) x2).1.2)) (some ((S.openedJ ((S.doD (x1.1.1,x1.1.2) x2).1.1,(S.doD (x1.1.1,x1.1.2) x2).1.2)).1,((S.openedJ ((S.doD (x1.1.1,x1.1.2) x2).1.1,(S.doD (x1.1.1,x1.1.2) x2).1.2)).2,()))) none) with|.none  => none|.some v0=>(some (((v0.1.1.1,v0.1.1.2),(v0.1.2.1,(v0.1.2.2.1,v0.1.2.2.2))),())))
abbrev gz42:Type:=ElA [qaf,(.list cAct)]->Option qfx
abbrev sz42(g:gz42):Sm:=⟨[qaf,(.list cAct)],[(false,qaf)],g⟩
abbrev Ez42(g:gz42)(J:JT qfx)(lf:Nat)(x1:qad)(x2:(List DAct)):=qax Tryz.prog ttT.get qmb fi74.nt (q53 _ lf) lf qqy J fi74.body [] (qam (argV [qaf,(.list cAct)] (x1,x2,())) 0 .leaf) S0 [] (qal ttT.get fi74 (sz42 g))
theorem zfu(g:gz42)(J:JT qfx)(lf:Nat)(x1:qad)(x2:(List DAct)):Ez42 g J lf x1 x2=qy1 lf x1 x2:=by kernel_rfl
theorem zhs:(regs fi74.body).Nodup:=by decide +kernel
theorem zws:okC qmb qqy qzb fi74.body none=true:=by kernel_rfl
def Az42(g:gz42)(lf:Nat):JT qfx:=atN Tryz.prog ttT.get qmb fi74 (sz42 g) (q53 _ lf) lf qzb
def Fz42(lf:Nat)(x1:qad)(x2:(List DAct)):Option qfx:=qy1 lf x1 x2
theorem znf(g:gz42)(lf:Nat)(x1:qad)(x2:(List DAct)):Ez42 g (Az42 g lf) lf x1 x2=Fz42 lf x1 x2:=by
  refine(zfu g (Az42 g lf) lf x1 x2).trans ?_;rfl
theorem zf5:qat Tryz.prog qxq:=trivial
theorem zid{g:gz42}(hsm:SmOK Tryz.prog qy6)(hg:∀(x:ElA [qaf,(.list cAct)]) (y:qfx),WfA [qaf,(.list cAct)] x->g x=some y->∃lf,Fz42 lf x.1 x.2.1=some y):Con Tryz.prog 74 ⟨[qaf,(.list cAct)],[(false,qaf)],g⟩ :=
 conT (nmf:=qmb) (sml:=qy6) (hxl:=qxq) (st:=qqy) (hd:=qzb) 20 mixed ttOK ftOK hsm zf5 zhz rfl rfl (by kernel_rfl) (fun x=>by kernel_rfl) zhs zws fun x y hx hy=>by
  obtain⟨lf,h⟩:=hg x y hx hy;exact⟨lf,(znf g lf x.1 x.2.1).trans h⟩
def ql1:Nat->Option Nm:=fun k=>none
def qnx:Nat->Bool:=fun k=>false
def qze:=qnx
abbrev qhg:Type:=(List DAct) × Int × Unit
def quh:List (Nat × Sm):=[(71,zb8),(72,q4v)]
def qsw:List (Nat × Hx):=[]
def q9u(R:Type)(lf:Nat):ClK R:=qao Tryz.prog ttT.get ftT.get (nm1 24 ql1) (smL quh) (hxL qsw) lf 20 R
abbrev zr2:Nat:=24
def qxw(lf:Nat)(x1:qad)(x2:(List qaa)):Option qhg:=(cond (Bool.not (ieqI (S.asked ((x1.1.1,x1.1.2),(x1.2.1,(x1.2.2.1,x1.2.2.2))) x2) (Int.ofNat 0))) (some ([],((S.asked ((x1.1.1,x1.1.2),(x1.2.1,(x1.2.2.1,x1.2.2.2))) x2),()))) (match (cond (S.comG ((x1.1.1,x1.1.2),(x1.2.1,(x1.2.2.1,x1.2.2.2))) x2) (some ((S.actsB (S.commit ((x1.1.1,x1.1.2),(x1.2.1,(x1.2.2.1,x1.2.2.2))) x2)).1,((S.actsB (S.commit ((x1.1.1,x1.1.2),(x1.2.1,(x1.2.2.1,x1.2.2.2))) x2)).2,()))) none) with|.none  => none|.some v0=>(cond (Bool.not v0.2.1) (some ([],((Int.ofNat 14),()))) (some (v0.1,((Int.ofNat 0),()))))))
abbrev gz43:Type:=ElA [qaf,(.list qae)]->Option qhg
abbrev sz43(g:gz43):Sm:=⟨[qaf,(.list qae)],[(true,cAct),(false,(.int .i64))],g⟩
abbrev Ez43(g:gz43)(J:JT qhg)(lf:Nat)(x1:qad)(x2:(List qaa)):=qax Tryz.prog ttT.get ql1 fi24.nt (q9u _ lf) lf qnx J fi24.body [] (qam (argV [qaf,(.list qae)] (x1,x2,())) 0 .leaf) S0 [] (qal ttT.get fi24 (sz43 g))
theorem zyx(g:gz43)(J:JT qhg)(lf:Nat)(x1:qad)(x2:(List qaa)):Ez43 g J lf x1 x2=qxw lf x1 x2:=by kernel_rfl
theorem zuk:(regs fi24.body).Nodup:=by decide +kernel
theorem zqz:okC ql1 qnx qze fi24.body none=true:=by kernel_rfl
def Az43(g:gz43)(lf:Nat):JT qhg:=atN Tryz.prog ttT.get ql1 fi24 (sz43 g) (q9u _ lf) lf qze
def Fz43(lf:Nat)(x1:qad)(x2:(List qaa)):Option qhg:=qxw lf x1 x2
theorem zq8(g:gz43)(lf:Nat)(x1:qad)(x2:(List qaa)):Ez43 g (Az43 g lf) lf x1 x2=Fz43 lf x1 x2:=by
  refine(zyx g (Az43 g lf) lf x1 x2).trans ?_;rfl
theorem zxz:qat Tryz.prog qsw:=trivial
theorem zy9{g:gz43}(hsm:SmOK Tryz.prog quh)(hg:∀(x:ElA [qaf,(.list qae)]) (y:qhg),WfA [qaf,(.list qae)] x->g x=some y->∃lf,Fz43 lf x.1 x.2.1=some y):Con Tryz.prog 24 ⟨[qaf,(.list qae)],[(true,cAct),(false,(.int .i64))],g⟩ :=
 conT (nmf:=ql1) (sml:=quh) (hxl:=qsw) (st:=qnx) (hd:=qze) 20 mixed ttOK ftOK hsm zxz zi5 rfl rfl (by kernel_rfl) (fun x=>by kernel_rfl) zuk zqz fun x y hx hy=>by
  obtain⟨lf,h⟩:=hg x y hx hy;exact⟨lf,(zq8 g lf x.1 x.2.1).trans h⟩
def qk2:Nat->Option Nm:=fun k=>none
def qrd:Nat->Bool:=fun k=>false
def qy9:=qrd
abbrev qgr:Type:=qad × Int × Unit
def qww:List (Nat × Sm):=[(24,zdg),(74,qtf)]
def qun:List (Nat × Hx):=[]
def q97(R:Type)(lf:Nat):ClK R:=qao Tryz.prog ttT.get ftT.get (nm1 26 qk2) (smL qww) (hxL qun) lf 20 R
abbrev zxe:Nat:=26
def q05(lf:Nat)(x1:qad)(x2:(List qaa)):Option qgr:=(cond (Bool.not (ieqI (S.plan ((x1.1.1,x1.1.2),(x1.2.1,(x1.2.2.1,x1.2.2.2))) x2).2 (Int.ofNat 0))) (some ((([],[]),((Int.ofNat 0),((Int.ofNat 0),[]))),((S.plan ((x1.1.1,x1.1.2),(x1.2.1,(x1.2.2.1,x1.2.2.2))) x2).2,()))) (match (cond (S.behG ((x1.1.1,x1.1.2),(x1.2.1,(x1.2.2.1,x1.2.2.2))) (S.plan ((x1.1.1,x1.1.2),(x1.2.1,(x1.2.2.1,x1.2.2.2))) x2).1) (some ((S.behind ((x1.1.1,x1.1.2),(x1.2.1,(x1.2.2.1,x1.2.2.2))) (S.plan ((x1.1.1,x1.1.2),(x1.2.1,(x1.2.2.1,x1.2.2.2))) x2).1).1,())) none) with|.none  => none|.some v0=>(some (((v0.1.1.1,v0.1.1.2),(v0.1.2.1,(v0.1.2.2.1,v0.1.2.2.2))),((Int.ofNat 0),())))))
abbrev gz44:Type:=ElA [qaf,(.list qae)]->Option qgr
abbrev sz44(g:gz44):Sm:=⟨[qaf,(.list qae)],[(false,qaf),(false,(.int .i64))],g⟩
abbrev Ez44(g:gz44)(J:JT qgr)(lf:Nat)(x1:qad)(x2:(List qaa)):=qax Tryz.prog ttT.get qk2 fi26.nt (q97 _ lf) lf qrd J fi26.body [] (qam (argV [qaf,(.list qae)] (x1,x2,())) 0 .leaf) S0 [] (qal ttT.get fi26 (sz44 g))
theorem zuu(g:gz44)(J:JT qgr)(lf:Nat)(x1:qad)(x2:(List qaa)):Ez44 g J lf x1 x2=q05 lf x1 x2:=by kernel_rfl
theorem zus:(regs fi26.body).Nodup:=by decide +kernel
theorem ziu:okC qk2 qrd qy9 fi26.body none=true:=by kernel_rfl
def Az44(g:gz44)(lf:Nat):JT qgr:=atN Tryz.prog ttT.get qk2 fi26 (sz44 g) (q97 _ lf) lf qy9
def Fz44(lf:Nat)(x1:qad)(x2:(List qaa)):Option qgr:=q05 lf x1 x2
theorem zil(g:gz44)(lf:Nat)(x1:qad)(x2:(List qaa)):Ez44 g (Az44 g lf) lf x1 x2=Fz44 lf x1 x2:=by
  refine(zuu g (Az44 g lf) lf x1 x2).trans ?_;rfl
theorem zgv:qat Tryz.prog qun:=trivial
theorem zvf{g:gz44}(hsm:SmOK Tryz.prog qww)(hg:∀(x:ElA [qaf,(.list qae)]) (y:qgr),WfA [qaf,(.list qae)] x->g x=some y->∃lf,Fz44 lf x.1 x.2.1=some y):Con Tryz.prog 26 ⟨[qaf,(.list qae)],[(false,qaf),(false,(.int .i64))],g⟩ :=
 conT (nmf:=qk2) (sml:=qww) (hxl:=qun) (st:=qrd) (hd:=qy9) 20 mixed ttOK ftOK hsm zgv zh6 rfl rfl (by kernel_rfl) (fun x=>by kernel_rfl) zus ziu fun x y hx hy=>by
  obtain⟨lf,h⟩:=hg x y hx hy;exact⟨lf,(zil g lf x.1 x.2.1).trans h⟩
def qj8:Nat->Option Nm:=fun k=>none
def qqn:Nat->Bool:=fun k=>false
def qtg:=qqn
abbrev qhk:Type:=(List DAct) × Int × Unit
def que:List (Nat × Sm):=[(65,qqd),(88,q86)]
def q2c:List (Nat × Hx):=[]
def q5o(R:Type)(lf:Nat):ClK R:=qao Tryz.prog ttT.get ftT.get (nm1 39 qj8) (smL que) (hxL q2c) lf 20 R
abbrev zgk:Nat:=39
def q2h(lf:Nat)(x1:qad):Option qhk:=(cond (Bool.not (ieqI (S.errR ((x1.1.1,x1.1.2),(x1.2.1,(x1.2.2.1,x1.2.2.2)))) (Int.ofNat 0))) (some ([],((S.errR ((x1.1.1,x1.1.2),(x1.2.1,(x1.2.2.1,x1.2.2.2)))),()))) (match (cond (S.turG ((x1.1.1,x1.1.2),(x1.2.1,(x1.2.2.1,x1.2.2.2)))) (some ((S.actsB (S.turn ((x1.1.1,x1.1.2),(x1.2.1,(x1.2.2.1,x1.2.2.2))))).1,((S.actsB (S.turn ((x1.1.1,x1.1.2),(x1.2.1,(x1.2.2.1,x1.2.2.2))))).2,()))) none) with|.none  => none|.some v0=>(cond (Bool.not v0.2.1) (some ([],((Int.ofNat 14),()))) (some (v0.1,((Int.ofNat 0),()))))))
abbrev gz45:Type:=ElA [qaf]->Option qhk
abbrev sz45(g:gz45):Sm:=⟨[qaf],[(true,cAct),(false,(.int .i64))],g⟩
abbrev Ez45(g:gz45)(J:JT qhk)(lf:Nat)(x1:qad):=qax Tryz.prog ttT.get qj8 fi39.nt (q5o _ lf) lf qqn J fi39.body [] (qam (argV [qaf] (x1,())) 0 .leaf) S0 [] (qal ttT.get fi39 (sz45 g))
theorem zp2(g:gz45)(J:JT qhk)(lf:Nat)(x1:qad):Ez45 g J lf x1=q2h lf x1:=by kernel_rfl
theorem zwz:(regs fi39.body).Nodup:=by decide +kernel
theorem zxu:okC qj8 qqn qtg fi39.body none=true:=by kernel_rfl
def Az45(g:gz45)(lf:Nat):JT qhk:=atN Tryz.prog ttT.get qj8 fi39 (sz45 g) (q5o _ lf) lf qtg
def Fz45(lf:Nat)(x1:qad):Option qhk:=q2h lf x1
theorem zi0(g:gz45)(lf:Nat)(x1:qad):Ez45 g (Az45 g lf) lf x1=Fz45 lf x1:=by
  refine(zp2 g (Az45 g lf) lf x1).trans ?_;rfl
theorem zwy:qat Tryz.prog q2c:=trivial
theorem zhw{g:gz45}(hsm:SmOK Tryz.prog que)(hg:∀(x:ElA [qaf]) (y:qhk),WfA [qaf] x->g x=some y->∃lf,Fz45 lf x.1=some y):Con Tryz.prog 39 ⟨[qaf],[(true,cAct),(false,(.int .i64))],g⟩ :=
 conT (nmf:=qj8) (sml:=que) (hxl:=q2c) (st:=qqn) (hd:=qtg) 20 mixed ttOK ftOK hsm zwy zd9 rfl rfl (by kernel_rfl) (fun x=>by kernel_rfl) zwz zxu fun x y hx hy=>by
  obtain⟨lf,h⟩:=hg x y hx hy;exact⟨lf,(zi0 g lf x.1).trans h⟩
def qlw:Nat->Option Nm:=fun k=>none
def qow:Nat->Bool:=fun k=>false
def qu1:=qow
abbrev qgq:Type:=qad × Int × Unit
def qr8:List (Nat × Sm):=[(39,q71),(74,qtf)]
def qwz:List (Nat × Hx):=[]
def q80(R:Type)(lf:Nat):ClK R:=qao Tryz.prog ttT.get ftT.get (nm1 41 qlw) (smL qr8) (hxL qwz) lf 20 R
abbrev zm6:Nat:=41
def qv3(lf:Nat)(x1:qad):Option qgq:=(cond (Bool.not (ieqI (S.planTurn ((x1.1.1,x1.1.2),(x1.2.1,(x1.2.2.1,x1.2.2.2)))).2 (Int.ofNat 0))) (some ((([],[]),((Int.ofNat 0),((Int.ofNat 0),[]))),((S.planTurn ((x1.1.1,x1.1.2),(x1.2.1,(x1.2.2.1,x1.2.2.2)))).2,()))) (match (cond (S.behG ((x1.1.1,x1.1.2),(x1.2.1,(x1.2.2.1,x1.2.2.2))) (S.planTurn ((x1.1.1,x1.1.2),(x1.2.1,(x1.2.2.1,x1.2.2.2)))).1) (some ((S.behind ((x1.1.1,x1.1.2),(x1.2.1,(x1.2.2.1,x1.2.2.2))) (S.planTurn ((x1.1.1,x1.1.2),(x1.2.1,(x1.2.2.1,x1.2.2.2)))).1).1,())) none) with|.none  => none|.some v0=>(some (((v0.1.1.1,v0.1.1.2),(v0.1.2.1,(v0.1.2.2.1,v0.1.2.2.2))),((Int.ofNat 0),())))))
abbrev gz46:Type:=ElA [qaf]->Option qgq
abbrev sz46(g:gz46):Sm:=⟨[qaf],[(false,qaf),(false,(.int .i64))],g⟩
abbrev Ez46(g:gz46)(J:JT qgq)(lf:Nat)(x1:qad):=qax Tryz.prog ttT.get qlw fi41.nt (q80 _ lf) lf qow J fi41.body [] (qam (argV [qaf] (x1,())) 0 .leaf) S0 [] (qal ttT.get fi41 (sz46 g))
theorem zkb(g:gz46)(J:JT qgq)(lf:Nat)(x1:qad):Ez46 g J lf x1=qv3 lf x1:=by kernel_rfl
theorem zom:(regs fi41.body).Nodup:=by decide +kernel
theorem zmn:okC qlw qow qu1 fi41.body none=true:=by kernel_rfl
def Az46(g:gz46)(lf:Nat):JT qgq:=atN Tryz.prog ttT.get qlw fi41 (sz46 g) (q80 _ lf) lf qu1
def Fz46(lf:Nat)(x1:qad):Option qgq:=qv3 lf x1
theorem zei(g:gz46)(lf:Nat)(x1:qad):Ez46 g (Az46 g lf) lf x1=Fz46 lf x1:=by
  refine(zkb g (Az46 g lf) lf x1).trans ?_;rfl
theorem zu9:qat Tryz.prog qwz:=trivial
theorem zjc{g:gz46}(hsm:SmOK Tryz.prog qr8)(hg:∀(x:ElA [qaf]) (y:qgq),WfA [qaf] x->g x=some y->∃lf,Fz46 lf x.1=some y):Con Tryz.prog 41 ⟨[qaf],[(false,qaf),(false,(.int .i64))],g⟩ :=
 conT (nmf:=qlw) (sml:=qr8) (hxl:=qwz) (st:=qow) (hd:=qu1) 20 mixed ttOK ftOK hsm zu9 zr0 rfl rfl (by kernel_rfl) (fun x=>by kernel_rfl) zom zmn fun x y hx hy=>by
  obtain⟨lf,h⟩:=hg x y hx hy;exact⟨lf,(zei g lf x.1).trans h⟩
def qnt:Nat->Option Nm:=fun k=>none
def qre:Nat->Bool:=fun k=>false
def qzm:=qre
abbrev qgs:Type:=qad × Int × Unit
def qt1:List (Nat × Sm):=[(37,qfv),(61,qgc)]
def q0t:List (Nat × Hx):=[]
def q9e(R:Type)(lf:Nat):ClK R:=qao Tryz.prog ttT.get ftT.get (nm1 13 qnt) (smL qt1) (hxL q0t) lf 20 R
abbrev zfk:Nat:=13
def qyz(lf:Nat)(x1:qab):Option qgs:=(cond (Bool.not (ieqI (S.checkDisk (x1.1,x1.2)) (Int.ofNat 0))) (some ((([],[]),((Int.ofNat 0),((Int.ofNat 0),[]))),((S.checkDisk (x1.1,x1.2)),()))) (cond (iltI (Int.ofNat 0) (Int.ofNat (List.length x1.2))) (some ((([],[]),((Int.ofNat 0),((Int.ofNat 0),[]))),((Int.ofNat 12),()))) (match (cond (S.okL (x1.1,x1.2)) (some ((S.openedJ (x1.1,x1.2)).1,((S.openedJ (x1.1,x1.2)).2,()))) none) with|.none  => none|.some v0=>(cond (Bool.not v0.2.1) (some ((([],[]),((Int.ofNat 0),((Int.ofNat 0),[]))),((Int.ofNat 15),()))) (some (((v0.1.1.1,v0.1.1.2),(v0.1.2.1,(v0.1.2.2.1,v0.1.2.2.2))),((Int.ofNat 0),())))))))
abbrev gz47:Type:=ElA [cDisk]->Option qgs
abbrev sz47(g:gz47):Sm:=⟨[cDisk],[(false,qaf),(false,(.int .i64))],g⟩
abbrev Ez47(g:gz47)(J:JT qgs)(lf:Nat)(x1:qab):=qax Tryz.prog ttT.get qnt fi13.nt (q9e _ lf) lf qre J fi13.body [] (qam (argV [cDisk] (x1,())) 0 .leaf) S0 [] (qal ttT.get fi13 (sz47 g))
theorem zh0(g:gz47)(J:JT qgs)(lf:Nat)(x1:qab):Ez47 g J lf x1=qyz lf x1:=by kernel_rfl
theorem zgy:(regs fi13.body).Nodup:=by decide +kernel
theorem zpk:okC qnt qre qzm fi13.body none=true:=by kernel_rfl
def Az47(g:gz47)(lf:Nat):JT qgs:=atN Tryz.prog ttT.get qnt fi13 (sz47 g) (q9e _ lf) lf qzm
def Fz47(lf:Nat)(x1:qab):Option qgs:=qyz lf x1
theorem zli(g:gz47)(lf:Nat)(x1:qab):Ez47 g (Az47 g lf) lf x1=Fz47 lf x1:=by
  refine(zh0 g (Az47 g lf) lf x1).trans ?_;rfl
theorem z0j:qat Tryz.prog q0t:=trivial
theorem zin{g:gz47}(hsm:SmOK Tryz.prog qt1)(hg:∀(x:ElA [cDisk]) (y:qgs),WfA [cDisk] x->g x=some y->∃lf,Fz47 lf x.1=some y):Con Tryz.prog 13 ⟨[cDisk],[(false,qaf),(false,(.int .i64))],g⟩ :=
 conT (nmf:=qnt) (sml:=qt1) (hxl:=q0t) (st:=qre) (hd:=qzm) 20 mixed ttOK ftOK hsm z0j zm4 rfl rfl (by kernel_rfl) (fun x=>by kernel_rfl) zgy zpk fun x y hx hy=>by
  obtain⟨lf,h⟩:=hg x y hx hy;exact⟨lf,(zli g lf x.1).trans h⟩
end Go.Proofs.YtnhmanoiolfapaaGreat
end

section
namespace Go.Jx
open Go Go.Sx Go.RowKit
end Go.Jx
end

section
namespace Go.Jx
open Go Go.Sx Go.RowKit
def omap{α β:Type}(f:α->β):Option α->Option β
 | none=>none
 | some a=>some (f a)
def hxG(a:Hx):Hx:=⟨fun cl vs S=>omap (igc S) (a.f cl vs S),fun clP R vs S kk=>a.k clP R vs S fun r=>kk (igc S r),fun cl clP h R vs S kk=>by
 rw[a.eq cl clP h R vs S];cases a.f cl vs S<;>rfl⟩
theorem zg6{P:Program}{f:Nat}{a:Hx}(ha:HxOK P f a.f):HxOK P f (hxG a).f:=by
 have inv:∀{cl vs S r},(hxG a).f cl vs S=some r->∃q,a.f cl vs S=some q/\r=igc S q:=by
  intro cl vs S r hr;have hr:omap (igc S) (a.f cl vs S)=some r:=hr;cases hq:a.f cl vs S with
  | none=>rw[hq] at hr;cases hr
  | some q=>rw[hq] at hr;cases hr;exact⟨q,rfl,rfl⟩
 refine⟨fun cl h1 h2 h3 vs S r hr T E us p hrd hwr hv=>?_,fun cl h1 vs S r hr=>?_,fun cl h1 vs S r hr hw hl=>?_⟩
 ·obtain⟨q,hq,rfl⟩:=inv hr;obtain⟨T',p',t1,t2,hback⟩:=za9 p hrd hwr;obtain⟨c1,c2⟩:=ha.fn cl h1 h2 h3 vs S q hq T' E us p' t1 t2 hv;exact⟨c1,c2.mono fun e w h=>hback e w h⟩
 ·obtain⟨q,hq,rfl⟩:=inv hr;exact q25 (ha.fr cl h1 vs S q hq)
 ·obtain⟨q,hq,rfl⟩:=inv hr;exact zcp hw hl
end Go.Jx
end

noncomputable section
set_option maxRecDepth 100000
namespace Go.Proofs.YtnhmanoiolfapaaGreat
open Go Go.Sx Go.RowKit Go.Jx
def ql8:Nat->Option Nm:=fun k=>none
def qqm:Nat->Bool:=fun k=>false
def qzi:=qqm
abbrev qg9:Type:=(List DAct) × Bool × Unit
def qsu:List (Nat × Sm):=[(56,qk6),(93,qmt),(101,qve),(54,q8o),(76,qip)]
def q0e:List (Nat × Hx):=[(55,hxR spz8),(53,hxG (hxR spz7))]
def zbs(R:Type)(lf:Nat):ClK R:=qao Tryz.prog ttT.get ftT.get (nm1 88 ql8) (smL qsu) (hxL q0e) lf 20 R
abbrev zpj:Nat:=88
def qt0(lf:Nat)(x1:qad):Option qg9:=(match (cond (S.pk x1.2.2.2) (some ((S.packed x1.2.2.2 (Int.ofNat 1)),())) none) with|.none  => none|.some v0=>(match (cond (S.inI (Int.ofNat (List.length x1.1.1)) (Int.ofNat 0) (Int.ofNat 1000)) (some ((S.half (Int.toNat (Int.ofNat (List.length x1.1.1))) (IntKind.i64.wrap (Int.sub (Int.ofNat 1) x1.2.1))),())) none) with|.none  => none|.some v1=>(cond (iltI (IntKind.i64.wrap (Int.sub v1.1.2 v1.1.1)) (Int.ofNat (List.length v0.1))) (some ([],(Bool.false,()))) (match (cond (S.inI (IntKind.i64.wrap (Int.sub v1.1.2 v1.1.1)) (Int.ofNat 0) (Int.ofNat 1000)) (some ((List.replicate (Int.toNat (IntKind.i64.wrap (Int.sub v1.1.2 v1.1.1))) (S.lit [0,0,0,0,0,0,0,0,0,0,0,0,0,0,0,0,0,0,0,0,0,0,0,0,0,0,0,0,0,0,0,0,0,0,0,0,0,0,0,0,0,0,0,0,0,0,0,0,0,0,0,0,0,0,0,0,0,0,0,0,0,0,0,0])),())) none) with|.none  => none|.some v2=>(match (cond (Bool.and (S.inI v1.1.1 (Int.ofNat 0) (Int.ofNat 1000000)) (Bool.and (Nat.ble (List.length v2.1) 1000000) Bool.true)) (some ((),(((S.app [] (S.puts v1.1.1 v2.1)),()),()))) none) with|.none  => none|.some v3=>(match (cond (Nat.ble (S.lenA v3.2.1.1) 4000000) (some ((),(((S.app v3.2.1.1 (List.cons S.sync [])),()),()))) none) with|.none  => none|.some v4=>(match (jget v0.1 (Int.ofNat 0)) with|.none  => none|.some v5=>(match (GetElem?.getElem? v0.1 0) with|.none  => none|.some v6=>(match (cond (Decidable.decide (Eq (ByteArray.size v6) 64)) (some ((qag (List.cons (Int.ofNat 0) (List.drop 1 (qac v6)))),())) none) with|.none  => none|.some v7=>(match (cond (Bool.and (S.inI v1.1.1 (Int.ofNat 0) (Int.ofNat 1000000)) (Nat.ble (S.lenA v4.2.1.1) 1000000)) (some ((),(((S.app v4.2.1.1 (S.puts v1.1.1 (List.cons v7.1 []))),()),()))) none) with|.none  => none|.some v8=>(cond (lchk (Int.ofNat 1) (Int.ofNat (List.length v0.1)) (Int.ofNat (List.length v0.1)) (Int.ofNat (List.length v0.1))) (match (cond (Bool.and (S.inI (IntKind.i64.wrap (Int.add v1.1.1 (Int.ofNat 1))) (Int.ofNat 0) (Int.ofNat 1000000)) (Bool.and (Nat.ble (List.length (lsub v0.1 (Int.ofNat 1) (Int.ofNat (List.length v0.1)))) 1000000) (Nat.ble (S.lenA v8.2.1.1) 1000000))) (some ((),(((S.app v8.2.1.1 (S.puts (IntKind.i64.wrap (Int.add v1.1.1 (Int.ofNat 1))) (lsub v0.1 (Int.ofNat 1) (Int.ofNat (List.length v0.1))))),()),()))) none) with|.none  => none|.some v9=>(match (cond (Nat.ble (S.lenA v9.2.1.1) 4000000) (some ((),(((S.app v9.2.1.1 (List.cons S.sync [])),()),()))) none) with|.none  => none|.some v10=>(match (jget v0.1 (Int.ofNat 0)) with|.none  => none|.some v11=>(match (cond (Bool.and (S.inI v1.1.1 (Int.ofNat 0) (Int.ofNat 1000000)) (Nat.ble (S.lenA v10.2.1.1) 1000000)) (some ((),(((S.app v10.2.1.1 (S.puts v1.1.1 (List.cons v11 []))),()),()))) none) with|.none  => none|.some v12=>(match (cond (Nat.ble (S.lenA v12.2.1.1) 4000000) (some ((),(((S.app v12.2.1.1 (List.cons S.sync [])),()),()))) none) with|.none  => none|.some v13=>(match (cond (Bool.and (S.inI (Int.ofNat 0) (Int.ofNat 0) (Int.ofNat 1000000)) (Nat.ble (S.lenA v13.2.1.1) 1000000)) (some ((),(((S.app v13.2.1.1 (S.puts (Int.ofNat 0) (List.cons (ByteArray.append (ByteArray.mk (Array.mk (List.cons (UInt8.ofBitVec (BitVec.ofFin (Fin.mk (Nat.mod (Int.toNat (IntKind.u8.wrap (IntKind.i64.wrap (Int.sub (Int.ofNat 1) x1.2.1)))) 256) (Nat.mod_lt (Int.toNat (IntKind.u8.wrap (IntKind.i64.wrap (HSub.hSub (OfNat.ofNat 1) (x1,()).1.2.1)))) (BitVec.ofNat._proof_1 (OfNat.ofNat 8)))))) []))) (S.lit [0,0,0,0,0,0,0,0,0,0,0,0,0,0,0,0,0,0,0,0,0,0,0,0,0,0,0,0,0,0,0,0,0,0,0,0,0,0,0,0,0,0,0,0,0,0,0,0,0,0,0,0,0,0,0,0,0,0,0,0,0,0,0])) []))),()),()))) none) with|.none  => none|.some v14=>(match (cond (Nat.ble (S.lenA v14.2.1.1) 4000000) (some ((),(((S.app v14.2.1.1 (List.cons S.sync [])),()),()))) none) with|.none  => none|.some v15=>(some (v15.2.1.1,(Bool.true,())))))))))) none)))))))))))
abbrev gz48:Type:=ElA [qaf]->Option qg9
abbrev sz48(g:gz48):Sm:=⟨[qaf],[(true,cAct),(false,.bool)],g⟩
abbrev Ez48(g:gz48)(J:JT qg9)(lf:Nat)(x1:qad):=qax Tryz.prog ttT.get ql8 fi88.nt (zbs _ lf) lf qqm J fi88.body [] (qam (argV [qaf] (x1,())) 0 .leaf) S0 [] (qal ttT.get fi88 (sz48 g))
theorem zl8(g:gz48)(J:JT qg9)(lf:Nat)(x1:qad):Ez48 g J lf x1=qt0 lf x1:=by kernel_rfl
theorem zd2:(regs fi88.body).Nodup:=by decide +kernel
theorem zzj:okC ql8 qqm qzi fi88.body none=true:=by kernel_rfl
def Az48(g:gz48)(lf:Nat):JT qg9:=atN Tryz.prog ttT.get ql8 fi88 (sz48 g) (zbs _ lf) lf qzi
def Fz48(lf:Nat)(x1:qad):Option qg9:=qt0 lf x1
theorem zyf(g:gz48)(lf:Nat)(x1:qad):Ez48 g (Az48 g lf) lf x1=Fz48 lf x1:=by
  refine(zl8 g (Az48 g lf) lf x1).trans ?_;rfl
theorem z0i(hrz8:ConR Tryz.prog 55 spz8):qat Tryz.prog q0e:=⟨qfh hrz8,⟨zg6 (qfh qui),trivial⟩⟩
theorem zul{g:gz48}(hsm:SmOK Tryz.prog qsu)(hrz8:ConR Tryz.prog 55 spz8)(hg:∀(x:ElA [qaf]) (y:qg9),WfA [qaf] x->g x=some y->∃lf,Fz48 lf x.1=some y):Con Tryz.prog 88 ⟨[qaf],[(true,cAct),(false,.bool)],g⟩ :=
 conT (nmf:=ql8) (sml:=qsu) (hxl:=q0e) (st:=qqm) (hd:=qzi) 20 mixed ttOK ftOK hsm (z0i hrz8) zff rfl rfl (by kernel_rfl) (fun x=>by kernel_rfl) zd2 zzj fun x y hx hy=>by
  obtain⟨lf,h⟩:=hg x y hx hy;exact⟨lf,(zyf g lf x.1).trans h⟩
def qjj:Nat->Option Nm:=fun k=>cond (Nat.beq k 4) (some ⟨[2,3,5],[],[],[],[],0,0,false⟩) (cond (Nat.beq k 9) (some ⟨[2,3,6],[],[],[],[],0,0,false⟩) (none))
def qlt:Nat->Bool:=fun k=>cond (Nat.beq k 4) true (cond (Nat.beq k 9) true (false))
def qsr:=qlt
abbrev qb3:Type:=Bool × Unit
def qtq:List (Nat × Sm):=[]
def qv6:List (Nat × Hx):=[]
def qvv(R:Type)(lf:Nat):ClK R:=qao Tryz.prog ttT.get ftT.get (nm1 36 qjj) (smL qtq) (hxL qv6) lf 20 R
abbrev zra:Nat:=36
def qiu(x1:qab)(x2:qab)(p:Int):NRes:=(NRes.mk (.node none (.node none (.node (some (IV.ptr 1 0)) .leaf .leaf) (.node (some (IV.int .i64 p)) .leaf .leaf)) (.node (some (IV.ptr 0 0)) .leaf .leaf)) (IS.mk (.node (some (IObj.row (List.cons (IV.lst TC.str x1.1) (List.cons (IV.lst cPut x1.2) [])))) (.node (some (IObj.row (List.cons (IV.lst TC.str x2.1) (List.cons (IV.lst cPut x2.2) [])))) .leaf .leaf) .leaf) 2) [] 0)
def qj2(x1:qab)(x2:qab)(p:Int):NRes:=(NRes.mk (.node none (.node none (.node (some (IV.ptr 1 0)) .leaf .leaf) .leaf) (.node (some (IV.ptr 0 0)) .leaf (.node (some (IV.int .i64 p)) .leaf .leaf))) (IS.mk (.node (some (IObj.row (List.cons (IV.lst TC.str x1.1) (List.cons (IV.lst cPut x1.2) [])))) (.node (some (IObj.row (List.cons (IV.lst TC.str x2.1) (List.cons (IV.lst cPut x2.2) [])))) .leaf .leaf) .leaf) 2) [] 0)
def qv9(lf:Nat)(x1:qab)(x2:qab)(L4:Int->Option qb3):Option qb3:=(cond (Bool.not (ieqI (Int.ofNat (List.length x1.1)) (Int.ofNat (List.length x2.1)))) (some (Bool.false,())) (cond (Bool.not (ieqI (Int.ofNat (List.length x1.2)) (Int.ofNat (List.length x2.2)))) (some (Bool.false,())) (L4 (Int.ofNat 0))))
def qrw(lf:Nat)(x1:qab)(x2:qab)(L4:Int->Option qb3)(L9:Int->Option qb3)(p:Int):Option qb3:=(cond (iltI p (Int.ofNat (List.length x1.1))) (match (jget x1.1 p) with|.none  => none|.some v0=>(match (jget x2.1 p) with|.none  => none|.some v1=>(cond (Bool.not (keqS v0 v1)) (some (Bool.false,())) (L4 (IntKind.i64.wrap (Int.add p (Int.ofNat 1))))))) (L9 (Int.ofNat 0)))
def qp2(lf:Nat)(x1:qab)(x2:qab)(L9:Int->Option qb3)(p:Int):Option qb3:=(cond (iltI p (Int.ofNat (List.length x1.2))) (match (jget x1.2 p) with|.none  => none|.some v0=>(match (jget x2.2 p) with|.none  => none|.some v1=>(cond (Bool.not (Bool.and (keqI v0.1 v1.1) (Bool.and (keqS v0.2 v1.2) Bool.true))) (some (Bool.false,())) (L9 (IntKind.i64.wrap (Int.add p (Int.ofNat 1))))))) (some (Bool.true,())))
abbrev gz49:Type:=ElA [cDisk,cDisk]->Option qb3
abbrev sz49(g:gz49):Sm:=⟨[cDisk,cDisk],[(false,.bool)],g⟩
abbrev Ez49(g:gz49)(J:JT qb3)(lf:Nat)(x1:qab)(x2:qab):=qax Tryz.prog ttT.get qjj fi36.nt (qvv _ lf) lf qlt J fi36.body [] (qam (argV [cDisk,cDisk] (x1,x2,())) 0 .leaf) S0 [] (qal ttT.get fi36 (sz49 g))
abbrev Bz49(g:gz49)(J:JT qb3)(lf k:Nat)(ms:List Nat)(q:NRes):=qbr Tryz.prog ttT.get qjj fi36.nt (qvv _ lf) lf qlt J k fi36.body [] ms q (qal ttT.get fi36 (sz49 g))
theorem zf4(g:gz49)(J:JT qb3)(lf:Nat)(x1:qab)(x2:qab):Ez49 g J lf x1 x2=qv9 lf x1 x2 (fun q=>J 4 [lf] (qiu x1 x2 q)):=by kernel_rfl
theorem zr1(g:gz49)(J:JT qb3)(lf:Nat)(x1:qab)(x2:qab)(m1:Nat)(p:Int):Bz49 g J lf 4 [m1] (qiu x1 x2 p)=qrw lf x1 x2 (fun q=>J 4 [m1] (qiu x1 x2 q)) (fun q=>J 9 [lf] (qj2 x1 x2 q)) p:=by kernel_rfl
theorem zf0(g:gz49)(J:JT qb3)(lf:Nat)(x1:qab)(x2:qab)(m1:Nat)(p:Int):Bz49 g J lf 9 [m1] (qj2 x1 x2 p)=qp2 lf x1 x2 (fun q=>J 9 [m1] (qj2 x1 x2 q)) p:=by kernel_rfl
theorem q1b:(regs fi36.body).Nodup:=by decide +kernel
theorem qy7:okC qjj qlt qsr fi36.body none=true:=by kernel_rfl
def Az49(g:gz49)(lf:Nat):JT qb3:=atN Tryz.prog ttT.get qjj fi36 (sz49 g) (qvv _ lf) lf qsr
def qki(lf:Nat)(x1:qab)(x2:qab):Nat->(Int)->Option qb3:=qa2 fun K p=>qp2 lf x1 x2 K p
theorem q2u(g:gz49)(lf:Nat)(x1:qab)(x2:qab):∀(n:Nat) (p:Int),Az49 g lf 9 [n] (qj2 x1 x2 p)=qki lf x1 x2 n p
 | 0,p=>qbl 9 [0] rfl _
 | n+1,p=>by
  have ih:=q2u g lf x1 x2 n;refine(qbm (qa5 20 _) q1b qy7 9 [n+1] [n] rfl _).trans ((zf0 g (Az49 g lf) lf x1 x2 n p).trans ?_);rw[(show (fun q=>Az49 g lf 9 [n] (qj2 x1 x2 q))=(fun q=>qki lf x1 x2 n q) from funext ih)];rfl
def qq7(lf:Nat)(x1:qab)(x2:qab):Nat->(Int)->Option qb3:=qa2 fun K p=>qrw lf x1 x2 K (fun q=>qki lf x1 x2 lf q) p
theorem zcn(g:gz49)(lf:Nat)(x1:qab)(x2:qab):∀(n:Nat) (p:Int),Az49 g lf 4 [n] (qiu x1 x2 p)=qq7 lf x1 x2 n p
 | 0,p=>qbl 4 [0] rfl _
 | n+1,p=>by
  have ih:=zcn g lf x1 x2 n;refine(qbm (qa5 20 _) q1b qy7 4 [n+1] [n] rfl _).trans ((zr1 g (Az49 g lf) lf x1 x2 n p).trans ?_);rw[(show (fun q=>Az49 g lf 9 [lf] (qj2 x1 x2 q))=(fun q=>qki lf x1 x2 lf q) from funext fun q=>q2u g lf x1 x2 lf q),(show (fun q=>Az49 g lf 4 [n] (qiu x1 x2 q))=(fun q=>qq7 lf x1 x2 n q) from funext ih)];rfl
def Fz49(lf:Nat)(x1:qab)(x2:qab):Option qb3:=qv9 lf x1 x2 (fun q=>qq7 lf x1 x2 lf q)
theorem zro(g:gz49)(lf:Nat)(x1:qab)(x2:qab):Ez49 g (Az49 g lf) lf x1 x2=Fz49 lf x1 x2:=by
  refine(zf4 g (Az49 g lf) lf x1 x2).trans ?_;rw[(show (fun q=>Az49 g lf 4 [lf] (qiu x1 x2 q))=(fun q=>qq7 lf x1 x2 lf q) from funext fun q=>zcn g lf x1 x2 lf q)];rfl
theorem zrn:qat Tryz.prog qv6:=trivial
theorem zpo{g:gz49}(hsm:SmOK Tryz.prog qtq)(hg:∀(x:ElA [cDisk,cDisk]) (y:qb3),WfA [cDisk,cDisk] x->g x=some y->∃lf,Fz49 lf x.1 x.2.1=some y):Con Tryz.prog 36 ⟨[cDisk,cDisk],[(false,.bool)],g⟩ :=
 conT (nmf:=qjj) (sml:=qtq) (hxl:=qv6) (st:=qlt) (hd:=qsr) 20 mixed ttOK ftOK hsm zrn zp4 rfl rfl (by kernel_rfl) (fun x=>by kernel_rfl) q1b qy7 fun x y hx hy=>by
  obtain⟨lf,h⟩:=hg x y hx hy;exact⟨lf,(zro g lf x.1 x.2.1).trans h⟩
theorem q7n{l:List qaa}(h:S.pk l=true)(m:Int):(S.packed l m).length<=20000:=by
 have:=qry h;rw[qdm];omega
theorem qpz{α:Type}{l:List α}{d:α}(h:1<=l.length):jget l (Int.ofNat 0)=some (l.getD 0 d):=qmz (i:=Int.ofNat 0) (d:=d) (Int.le_refl _) (by show (0:Int)<(l.length:Int);omega)
theorem get0{α:Type}{l:List α}{d:α}(h:1<=l.length):l[0]?=some (l.getD 0 d):=by
 cases l with
 | nil=>exact absurd h (Nat.not_succ_le_zero 0)
 | cons a l=>rfl
theorem zgo:S.packed [] 1=[qag (1::List.replicate 63 0)]:=by kernel_rfl
theorem zys(lf:Nat)(d:qab):Fz9 lf d=some ((S.format d).1,(S.format d).2,()):=by
 simp only[Fz9,qwq];unfold S.format;show cond (!ieqI (S.checkDisk d) _) _ _=_;by_cases h0:S.checkDisk d=0
 ·rw[qbd (show S.checkDisk d=Int.ofNat 0 from h0),Bool.not_true,cond_false,if_pos h0,qbt];by_cases h1:d.2.length=0
  ·rw[decide_eq_false (by omega),cond_false,if_pos h1,cond_true,show S.pk []=true from rfl,cond_true];simp only[show S.packed [] (Int.ofNat 1)=S.packed [] 1 from rfl,zgo];rfl
  ·rw[decide_eq_true (by omega),cond_true,if_neg h1];rfl
 ·rw[qbc (show ¬S.checkDisk d=Int.ofNat 0 from h0),if_neg h0,Bool.not_false,cond_true]
theorem qmk{l:List ByteArray}(h:S.secs l=true):l.length<=1000/\∀s∈l,s.size=64:=by
 unfold S.secs at h;rw[Bool.and_eq_true,Bool.not_eq_true'] at h;refine⟨Nat.le_of_ble_eq_true h.1,fun s hs=>?_⟩;have:=List.any_eq_false.1 h.2 s hs;unfold S.short at this;simpa using this
theorem q3v{l:List ByteArray}(h:S.secs1 l=true):1<=l.length/\l.length<=1000/\∀s∈l,s.size=64:=by
 unfold S.secs1 at h;rw[Bool.and_eq_true] at h;exact⟨Nat.le_of_ble_eq_true h.1,qmk h.2⟩
theorem qjg{l:List ByteArray}{i:Nat}(h:i<l.length):l.getD i S.none_∈l:=by
 rw[List.getD_eq_getElem?_getD,List.getElem?_eq_getElem h];exact List.getElem_mem h
theorem zbx{s:ByteArray}(h:s.size=64):∃b0 b1 b2 b3 r,qac s=b0::b1::b2::b3::r:=by
 have:=qcl s;rcases hs:qac s with _|⟨b0,_|⟨b1,_|⟨b2,_|⟨b3,r⟩⟩⟩⟩
 case cons.cons.cons.cons=>exact⟨_,_,_,_,_,rfl⟩
 all_goals rw[hs] at this;simp only[List.length_cons,List.length_nil] at this;omega
theorem zol(l:List ByteArray)(v:ByteArray):(l++[v]).flatMap qac=l.flatMap qac++qac v:=by simp
theorem zlw(l:List ByteArray)(v:ByteArray):ByteArray.append (qag (l.flatMap qac)) v=qag ((l++[v]).flatMap qac):=by
 rw[zol,<- qfi,qfl]
theorem zt8{N:Nat}(h:N<100000000):IntKind.i64.wrap (Int.tdiv (Int.ofNat (N+63)) (Int.ofNat 64))=Int.ofNat ((N+63) / 64):=qb7 (n:=(N+63) / 64) (by omega)
theorem qzy{N:Nat}(h:N<100000000):IntKind.i64.wrap (Int.tdiv (IntKind.i64.wrap (Int.sub (IntKind.i64.wrap (Int.add (Int.ofNat N) (Int.ofNat 64))) (Int.ofNat 1))) (Int.ofNat 64))=Int.ofNat ((N+63) / 64):=by
 rw[show IntKind.i64.wrap (Int.add (Int.ofNat N) (Int.ofNat 64))=Int.ofNat (N+64) from qb7 (n:=N+64) (by omega)];have:Int.sub (Int.ofNat (N+64)) (Int.ofNat 1)=Int.ofNat (N+63):=by
  show ((N+64:Nat):Int)-1=((N+63:Nat):Int);omega
 rw[this,qb7 (n:=N+63) (by omega)];exact zt8 h
theorem zzz{b0 b1 b2 b3:Int}{r:List Int}(h:rng (b0::b1::b2::b3::r)):b1*65536+b2*256+b3=((S.recN (b0::b1::b2::b3::r):Nat):Int)/\S.recN (b0::b1::b2::b3::r)<16777216:=by
 have h1:=h b1 (by simp);have h2:=h b2 (by simp);have h3:=h b3 (by simp);have e:S.recN (b0::b1::b2::b3::r)=(b1*65536+b2*256+b3).toNat:=rfl;rw[e];omega
def q6h(l:List Int):Bool:=l.all fun b=>decide (b=0)
theorem qu8(l:List ByteArray)(cells:List qaa)(M:Int)(f:List Int)(hr:rng f)(hf:f.length<=1000000):∀(k F i:Nat) (is:Bool),i+k=f.length->k<F->qfe LF l F (cells,is,Int.ofNat i,M,qag f)=some ((cells,M,!(is&&q6h (f.drop i))),())
 | 0,F+1,i,is,hi,hF=>by
  show qh2 LF l (qfe LF l F) _=_;simp only[qh2];rw[qbj,qbt,decide_eq_false (by omega),cond_false,List.drop_eq_nil_of_le (by omega)];cases is<;>rfl
 | k+1,F+1,i,is,hi,hF=>by
  show qh2 LF l (qfe LF l F) _=_;simp only[qh2];have hlt:i<f.length:=by omega
  rw[qbj,qbt,decide_eq_true hlt,cond_true,qb2 hr,qdg,List.getElem?_eq_getElem hlt,List.drop_eq_getElem_cons hlt,show IntKind.i64.wrap (Int.add (Int.ofNat i) (Int.ofNat 1))=Int.ofNat (i+1) from qb7 (n:=i+1) (by omega)];simp only;rw[qu8 l cells M f hr hf k F (i+1) _ (by omega) (by omega),qu8 l cells M f hr hf k F (i+1) _ (by omega) (by omega)];show _=some ((cells,M,!(is&&(decide (f[i]=0)&&q6h (f.drop (i+1))))),());cases is with
  | false=>rfl
  | true =>
   rw[cond_true,qd1];rfl
theorem zv3(l:List ByteArray)(h:S.secs1 l=true):Fz6 LF l=some (S.readK l,()):=by
 obtain⟨h1,h2,h3⟩:=q3v h;have hs:=h3 _ (qjg (i:=0) (by omega));obtain⟨b0,b1,b2,b3,r,hb⟩:=zbx hs;have hrb:rng (b0::b1::b2::b3::r):=hb▸qd5 _;obtain⟨n1,n2⟩:=zzz hrb;have hM:S.recM (b0::b1::b2::b3::r)=(S.recN (b0::b1::b2::b3::r)+4+63) / 64:=rfl;have r1:=hrb b1 (by simp);have r2:=hrb b2 (by simp);have r3:=hrb b3 (by simp);unfold S.readK;simp only[Fz6,qzq,qpz (d:=S.none_) h1,hb];rw[hM];generalize S.recN (b0::b1::b2::b3::r)=N at n1 n2;have wn:IntKind.i64.wrap (Int.add (IntKind.i64.wrap (Int.add (IntKind.i64.wrap (Int.mul (IntKind.i64.wrap b1) (Int.ofNat 65536))) (IntKind.i64.wrap (Int.mul (IntKind.i64.wrap b2) (Int.ofNat 256))))) (IntKind.i64.wrap b3))=Int.ofNat N:=by
  rw[wrap_in (n:=b1) (by omega),wrap_in (n:=b2) (by omega),wrap_in (n:=b3) (by omega),wrap_in (n:=Int.mul b1 (Int.ofNat 65536)) (by show -_<=b1*65536/\b1*65536<_;omega),wrap_in (n:=Int.mul b2 (Int.ofNat 256)) (by show -_<=b2*256/\b2*256<_;omega),
   wrap_in (n:=Int.add (Int.mul b1 (Int.ofNat 65536)) (Int.mul b2 (Int.ofNat 256))) (by show -_<=b1*65536+b2*256/\b1*65536+b2*256<_;omega)]
  rw[show Int.add (Int.add (Int.mul b1 (Int.ofNat 65536)) (Int.mul b2 (Int.ofNat 256))) b3=Int.ofNat N from n1];exact qb7 (by omega)
 have w4:IntKind.i64.wrap (Int.add (Int.ofNat N) (Int.ofNat 4))=Int.ofNat (N+4):=qb7 (n:=N+4) (by omega);simp only[qdg,List.getElem?_cons_zero,List.getElem?_cons_succ,wn,w4,qzy (N:=N+4) (by omega)];by_cases c0:b0=1
 ·have e0:ieqI b0 (Int.ofNat 1)=true:=qbd c0;rw[e0,Bool.not_true,cond_false];by_cases c1:l.length<(N+4+63) / 64
  ·rw[qd3 (show Int.ofNat l.length<Int.ofNat ((N+4+63) / 64) from Int.ofNat_lt.2 c1),cond_true,if_pos (.inr c1)];rfl
  ·rw[qem (show ¬Int.ofNat l.length<Int.ofNat ((N+4+63) / 64) from fun h=>c1 (Int.ofNat_lt.1 h)),cond_false,if_neg (show ¬(¬(b0::b1::b2::b3::r).getD 0 0=1\/l.length<(N+4+63) / 64) from fun h=>h.elim (fun h=>h c0) c1)];obtain⟨M,hMe⟩:∃M,(N+4+63) / 64=M:=⟨_,rfl⟩;rw[hMe] at c1 ⊢;have l1:lchk (Int.ofNat 0) (Int.ofNat M) (Int.ofNat M) (Int.ofNat l.length)=true:=qb4.2 ⟨Int.le_refl _,Int.natCast_nonneg _,Int.le_refl _,by show (M:Int)<=(l.length:Int);omega⟩;rw[l1,cond_true];have hL:(l.take M).length=M:=by rw[List.length_take,Nat.min_eq_left (by omega)]
   have hfl:∀i,((((l.take M).take i).flatMap qac).length)=64*min i M:=fun i=>by
    rw[q2b _ fun s hs=>h3 s (List.mem_of_mem_take (List.mem_of_mem_take hs)),List.length_take,hL]
   refine(range0 (σ:=ByteArray) (R:=Rtz6) (T:=fun K p=>qkk LF l K (fun q=>qfe LF l LF q) p) (l.take M) (fun i s=>(Int.ofNat N,i,s)) (fun i s=>s=qag (((l.take M).take i).flatMap qac)) (fun _ _ _=>some ((match S.changes (N+1) ((((l.take M).flatMap qac).drop 4).take N) (-1) with
     | some c=>(c,(M:Int),!((((l.take M).flatMap qac).drop (4+N)).all fun b=>decide (b=0)))
     | none=>([],(M:Int),true)),())) (by rw[hL];unfold LF;omega) (fun K s hs=>?_) (fun K i v rest s hs r hk=>?_) (S.lit []) rfl).trans rfl
   ·rw[hL,List.take_of_length_le (by rw[hL];exact Nat.le_refl _)] at hs;have hf:=hfl M;rw[Nat.min_self,List.take_of_length_le (by rw[hL];exact Nat.le_refl _)] at hf;have hrf:=za1 (l.take M);simp only[qkk,w4,qzy (N:=N+4) (by omega),hMe];rw[show lsub l (Int.ofNat 0) (Int.ofNat M)=l.take M from rfl,qbv,cond_false,hs];generalize (l.take M).flatMap qac=f at hf hrf;have w4':IntKind.i64.wrap (Int.add (Int.ofNat 4) (Int.ofNat N))=Int.ofNat (4+N):=qb7 (n:=4+N) (by omega);have l2:lchk (Int.ofNat 4) (Int.ofNat (4+N)) (Int.ofNat f.length) (Int.ofNat f.length)=true:=qb4.2 ⟨by decide,by show (4:Int)<=((4+N:Nat):Int);omega,by show ((4+N:Nat):Int)<=((f.length:Nat):Int);omega,Int.le_refl _⟩;have hext:ByteArray.extract (qag f) 4 (Int.toNat (Int.ofNat (4+N)))=qag ((f.drop 4).take N):=by
     refine qe6 ?_;rw[qxx,qb2 hrf,qb2 (qeo (qeh hrf 4) N),List.extract_eq_take_drop];show (f.drop 4).take (4+N-4)=_;rw[Nat.add_sub_cancel_left]
    have hszN:((f.drop 4).take N).length=N:=by rw[List.length_take,List.length_drop,Nat.min_eq_left (by omega)]
    rw[w4',qbj,l2,cond_true,hext,qbj,Nat.ble_eq_true_of_le (by rw[hszN];omega),cond_true];simp only;rw[qu8 l _ _ f hrf (by omega) (f.length-(4+N)) LF (4+N) _ (by omega) (by unfold LF;omega)];unfold S.chg;rw[qbj,hszN,qb2 (qeo (qeh hrf 4) N)];cases S.changes (N+1) ((f.drop 4).take N) (-1)<;>rfl
   ·have hi:=r.lt;rw[hL] at hi;subst hs;have hfi:=hfl i;rw[Nat.min_eq_left (by omega)] at hfi;have hvs:=h3 v (List.mem_of_mem_take r.mem);simp only[qkk,w4,qzy (N:=N+4) (by omega),hMe];rw[show lsub l (Int.ofNat 0) (Int.ofNat M)=l.take M from rfl,r.ilt,cond_true,r.get];simp only;rw[qbj,hfi,hvs,qez (by show 64*i+64<_;omega),cond_true,r.next,zlw,<- r.take];exact hk _ rfl
 ·have e0:ieqI b0 (Int.ofNat 1)=false:=qbc c0;rw[e0,Bool.not_false,cond_true,if_pos (.inl (show ¬(b0::b1::b2::b3::r).getD 0 0=1 from c0))];rfl
theorem zla:Con Tryz.prog idz6 spz6:=mkz6 ⟨zx6,trivial⟩ fun x y hx h=>⟨LF,by
 obtain⟨h1,h2⟩:=qba (show cond (S.secs1 x.1) (some (S.readK x.1,())) none=some y from h);exact(zv3 x.1 h1).trans (congrArg some h2)⟩

theorem q4x:S.lit [0,0,0,0,0,0,0,0,0,0,0,0,0,0,0,0,0,0,0,0,0,0,0,0,0,0,0,0,0,0,0,0,0,0,0,0,0,0,0,0,0,0,0,0,0,0,0,0,0,0,0,0,0,0,0,0,0,0,0,0,0,0,0]=qag (List.replicate 63 0):=by kernel_rfl
theorem za8{d:qab}(h:S.checkDisk d=0):Dk d.1:=by
 obtain⟨ok,h8,h2⟩:=qig h;exact⟨ok.sz,h8,ok.le,h2⟩
theorem Jn.opened_{L:List ByteArray}{h:Int}{a u:Nat}{c:List qaa}(j:Jn L h a u c):S.open_ (L,[])=(((L,[]),h,(u:Int),c),0):=by
 unfold S.open_;rw[if_pos j.dk.check,if_pos (show (L,([]:List DPut)).2.length=0 from rfl)]
 show (match S.opened L with
  | some (h,u,c)=>(((L,([]:List DPut)),h,(u:Int),c),(0:Int))
  | none=>(S.noJ,15))=_
 rw[j.open_]
theorem q6r{d:qab}(h:(S.open_ d).2=0):∃hf a u c,Jn d.1 hf a u c/\d.2=[]/\S.open_ d=(((d.1,[]),hf,(u:Int),c),0):=by
 unfold S.open_ at h ⊢;by_cases h0:S.checkDisk d=0
 ·rw[if_pos h0] at h ⊢;by_cases h1:d.2.length=0
  ·rw[if_pos h1] at h ⊢;cases ho:S.opened d.1 with
   | none=>rw[ho] at h;cases h
   | some x =>
    obtain⟨hf,u,c⟩:=x;obtain⟨a,j⟩:=zgj (za8 h0) ho;exact⟨hf,a,u,c,j,List.length_eq_zero_iff.1 h1,rfl⟩
  ·rw[if_neg h1] at h;cases h
 ·rw[if_neg h0] at h;exact absurd h h0
theorem qzn{j:qad}(h:S.right j=true):∃a u,Jn j.1.1 j.2.1 a u j.2.2.2/\j.1.2=[]/\j.2.2.1=((u:Nat):Int):=by
 unfold S.right at h;rw[Bool.and_eq_true] at h;obtain⟨hf,a,u,c,k,h1,h2⟩:=q6r (of_decide_eq_true h.1);have h3:=of_decide_eq_true h.2;rw[h2] at h3;obtain⟨⟨l,q⟩,hh,uu,cc⟩:=j;cases h3;exact⟨a,u,k,rfl,rfl⟩
theorem Jn.right{L:List ByteArray}{h:Int}{a u:Nat}{c:List qaa}(j:Jn L h a u c):S.right ((L,[]),h,(u:Int),c)=true:=by
 unfold S.right;rw[Bool.and_eq_true];show decide ((S.open_ (L,[])).2=0)=true/\decide ((S.open_ (L,[])).1=_)=true;rw[j.opened_];exact⟨decide_eq_true rfl,decide_eq_true rfl⟩
theorem qk7{l:List qaa}(h:S.okC l=true):S.pk l=true:=by
 unfold S.pk;rw[h,Nat.ble_eq_true_of_le (by have:=zgx h;omega)];rfl
theorem zs8(l:List qaa)(m m':Int):(S.packed l m).drop 1=(S.packed l m').drop 1:=by
 have e:∀x:Int,S.packed l x=qag ((S.recB l x).take 64++List.replicate (64-(S.recB l x).length) 0)::S.chunks ((S.body l).length+3) ((S.recB l x).drop 64):=fun x=>qgn ((S.body l).length+3) (b:=S.recB l x) (by rw[qel];omega);rw[e m,e m'];rfl
theorem qwv(l:List qaa)(m:Int):S.packed l m=(S.packed l m).getD 0 S.none_::(S.packed l 1).drop 1:=by
 have hp:=qfp l m;rw[<- zs8 l m 1];cases h:S.packed l m with
 | nil=>rw[h] at hp;cases hp
 | cons s r=>rfl
theorem qj4(l:List qaa)(m:Int):szS (S.packed l m):=zag _ _
theorem zcv:S.blank.size=64:=by kernel_rfl
theorem q8a:(qac S.blank).getD 0 0=0:=by kernel_rfl
theorem zjg{L:List ByteArray}{a:Nat}{x y:ByteArray}{r:List ByteArray}(h:a+(r.length+1)<=L.length):over (over L a (x::r)) a [y]=over L a (y::r):=by
 have h':a+(x::r).length<=L.length:=h;have h1:=q4j h';have h2:=qpl h';show (over L a (x::r)).take a++([y]++(over L a (x::r)).drop (a+1))=L.take a++((y::r)++L.drop (a+(r.length+1)));rw[h1,<- List.drop_drop,h2];rfl
theorem zzi(X:List ByteArray)(t:ByteArray):∀{b:Nat},1<=b->(over X 0 [t]).drop b=X.drop b
 | 0,h=>by omega
 | b+1,_=>by
  show (t::X.drop (0+1)).drop (b+1)=_;rw[List.drop_succ_cons,List.drop_drop,show 0+1+b=b+1 by omega]
theorem Dk.over{L:List ByteArray}(d:Dk L){a:Nat}{ss:List ByteArray}(h:a+ss.length<=L.length)(hs:szS ss):Dk (over L a ss):=by
 refine⟨zk2 d.sz hs,?_,?_,?_⟩<;>rw[qgb h]
 ·exact d.ge
 ·exact d.le
 ·exact d.ev
theorem zbh{L:List ByteArray}{a:Nat}{l:List qaa}{tail:List ByteArray}{r:List DAct}(ht:szS tail)(h:a+((S.packed l 1).length+tail.length)<=L.length)(hL:L.length<=1000) :
  S.doGo (S.puts (a:Int) (S.packed l 0++tail)++(S.sync::S.put (a:Int) ((S.packed l 1).getD 0 S.none_)::S.sync::r)) L []=S.doGo r (over L a (S.packed l 1++tail)) []:=by
 have e1:(S.packed l 0).length=(S.packed l 1).length:=by rw[qdm,qdm]
 have hp:=qfp l 1;have h':a+(S.packed l 0++tail).length<=L.length:=by rw[List.length_append,e1];exact h
 have hs:szS (S.packed l 0++tail):=fun s hs=>(List.mem_append.1 hs).elim (qj4 l 0 s) (ht s);have hol:(over L a (S.packed l 0++tail)).length=L.length:=qgb h';rw[qte _ _ _ _ _ hs h' (by rw[List.length_nil];omega),List.nil_append,qrh,qlo _ _ _ h',qxu (qj4 l 1 _ (qjg (by omega))) (by omega) (by rw[List.length_nil];omega),qrh];have:S.settled (over L a (S.packed l 0++tail)) ([]++[(((a:Nat):Int),(S.packed l 1).getD 0 S.none_)])=over L a (S.packed l 1++tail):=by
  refine(qlo [(S.packed l 1).getD 0 S.none_] a _ (by rw[hol];simp only[List.length_cons,List.length_nil];omega)).trans ?_;have hlen:a+(((S.packed l 1).drop 1++tail).length+1)<=L.length:=by rw[List.length_append,List.length_drop];omega
  have s1:=qwv l 1;rw[qwv l 0,List.cons_append];refine(zjg hlen).trans (congrArg (over L a) ?_);rw[<- List.cons_append,<- s1]
 rw[this]
def qep(b:Bool):List ByteArray:=cond b [S.blank] []
theorem q7z(b:Bool):szS (qep b):=fun s h=>by
 cases b with
 | true=>rw[List.mem_singleton.1 h];exact zcv
 | false=>cases h
theorem zn2(l:List qaa)(a:Nat)(e:Int)(b:Bool):S.laid l (a:Int) e b=S.puts (a:Int) (S.packed l 0++qep (b&&decide ((a:Int)+(S.packed l 1).length<e)))++[S.sync,S.put (a:Int) ((S.packed l 1).getD 0 S.none_),S.sync]:=by
 have e1:(S.packed l 0).length=(S.packed l 1).length:=by rw[qdm,qdm]
 unfold S.laid;rw[q10,e1,List.append_assoc];cases (b&&decide ((a:Int)+(S.packed l 1).length<e))<;>rfl
theorem q6x{j:qad}{l:List qaa}(h:¬S.roomOf j<(S.packed l 1).length):S.commit j l=some (S.laid l ((S.half j.1.1.length j.2.1).1+j.2.2.1) (S.half j.1.1.length j.2.1).2 true):=by
 unfold S.commit S.laid;rw[if_neg h,Bool.true_and,List.append_assoc]
theorem q9v{L:List ByteArray}{h:Int}{a u:Nat}{c:List qaa}(j:Jn L h a u c):S.roomOf ((L,[]),h,(u:Int),c)=((L.length / 2-1-u:Nat):Int):=by
 have:=j.le.1;unfold S.roomOf;show (S.half L.length h).2-(S.half L.length h).1-(u:Int)=_;rw[j.fr];show ((a+(L.length / 2-1):Nat):Int)-(a:Int)-(u:Int)=_;omega
def comL(L:List ByteArray)(a u:Nat)(l:List qaa):List ByteArray:=over L (a+u) (S.packed l 1++qep (decide (u+(S.packed l 1).length<L.length / 2-1)))
theorem zw5{L:List ByteArray}{h:Int}{a u:Nat}{c l:List qaa}(j:Jn L h a u c)(hl:S.okC l=true)(hr:u+(S.packed l 1).length<=L.length / 2-1) :
  S.commit ((L,[]),h,(u:Int),c) l=some (S.laid l ((a+u:Nat):Int) ((a+(L.length / 2-1):Nat):Int) true) /\
  S.doD (L,[]) (S.laid l ((a+u:Nat):Int) ((a+(L.length / 2-1):Nat):Int) true)=((comL L a u l,[]),0) /\
  Jn (comL L a u l) h a (u+(S.packed l 1).length) (S.changed c l)/\(comL L a u l).length=L.length:=by
 have hto:=j.to_;have hle:=j.dk.le;have hb:=qry (qk7 hl);have hd:decide (((a+u:Nat):Int)+(S.packed l 1).length<((a+(L.length / 2-1):Nat):Int))=decide (u+(S.packed l 1).length<L.length / 2-1):=decide_eq_decide.2 (by omega);have htl:(qep (decide (u+(S.packed l 1).length<L.length / 2-1))).length=if u+(S.packed l 1).length<L.length / 2-1 then 1 else 0:=by
  by_cases e:u+(S.packed l 1).length<L.length / 2-1
  ·rw[if_pos e,decide_eq_true e];rfl
  ·rw[if_neg e,decide_eq_false e];rfl
 have hfit:a+u+((S.packed l 1).length+(qep (decide (u+(S.packed l 1).length<L.length / 2-1))).length)<=L.length:=by
  rw[htl];split<;>omega
 have hfit':a+u+(S.packed l 1++qep (decide (u+(S.packed l 1).length<L.length / 2-1))).length<=L.length:=by rw[List.length_append];exact hfit
 have hsz:szS (S.packed l 1++qep (decide (u+(S.packed l 1).length<L.length / 2-1))):=fun s hs=>(List.mem_append.1 hs).elim (qj4 l 1 s) (q7z _ s);refine⟨?_,?_,?_,qgb hfit'⟩
 ·rw[q6x (by rw[q9v j];omega)];show some (S.laid l ((S.half L.length h).1+(u:Int)) (S.half L.length h).2 true)=_;rw[j.fr];rfl
 ·unfold S.doD;rw[if_pos j.dk.check,zn2,Bool.true_and,hd];exact(zbh (r:=[]) (q7z _) hfit hle).trans (zbt _ _)
 ·refine j.more (j.dk.over hfit' hsz) (qgb hfit') (q4j hfit') hl (by omega) hr (rest:=qep (decide (u+(S.packed l 1).length<L.length / 2-1))++L.drop (a+u+(S.packed l 1++qep (decide (u+(S.packed l 1).length<L.length / 2-1))).length)) ?_ ?_
  ·show (over L (a+u) _).drop (a+u)=_;rw[qpl hfit',List.append_assoc]
  ·by_cases e:u+(S.packed l 1).length<L.length / 2-1
   ·right;rw[decide_eq_true e];exact q8a
   ·left;omega
theorem q45:∀{c:List qaa} {last:Int},okS c last->S.changed [] c=c
 | [],_,_=>rfl
 | x::c,last,h=>by
  have hx:=h.2 x (by simp);have h5:=(qbo.1 h.1).2.2.2.2;rw[zy4 h.1,hx,cond_false,q45 (c:=c) ⟨h5,fun y hy=>h.2 y (by simp[hy])⟩]
theorem q6b{j:qad}(h:¬(S.half j.1.1.length (1-j.2.1)).2-(S.half j.1.1.length (1-j.2.1)).1<(S.packed j.2.2.2 1).length):S.turn j=some (S.puts (S.half j.1.1.length (1-j.2.1)).1 (List.replicate ((S.half j.1.1.length (1-j.2.1)).2-(S.half j.1.1.length (1-j.2.1)).1).toNat S.blank)++[S.sync]++S.puts (S.half j.1.1.length (1-j.2.1)).1 (S.packed j.2.2.2 0) ++
  [S.sync,S.put (S.half j.1.1.length (1-j.2.1)).1 ((S.packed j.2.2.2 1).getD 0 S.none_),S.sync,S.put 0 (qag ((1-j.2.1)::List.replicate 63 0)),S.sync]):=by
 unfold S.turn;rw[if_neg h]
def topS(h:Int):ByteArray:=qag (h::List.replicate 63 0)
def turL(L:List ByteArray)(h:Int)(b:Nat)(c:List qaa):List ByteArray:=over (over (over L b (List.replicate (L.length / 2-1) S.blank)) b (S.packed c 1)) 0 [topS h]
def turA(L:List ByteArray)(h:Int)(b:Nat)(c:List qaa):List DAct:=S.puts (b:Int) (List.replicate (L.length / 2-1) S.blank)++[S.sync]++S.puts (b:Int) (S.packed c 0)++[S.sync,S.put (b:Int) ((S.packed c 1).getD 0 S.none_),S.sync,S.put 0 (topS h),S.sync]
theorem q68{h:Int}:(topS h).size=64:=by
 unfold topS;rw[qbj,List.length_cons,List.length_replicate]
theorem zuf{h:Int}(hh:h=0\/h=1):qac (topS h)=topB h:=qb2 fun x hx=>by
 rcases List.mem_cons.1 hx with rfl|hx
 ·omega
 ·exact qga 63 x hx
theorem zkt{L:List ByteArray}{h:Int}{a u:Nat}{c:List qaa}(j:Jn L h a u c)(hr:(S.packed c 1).length<=L.length / 2-1):∃b:Nat,S.half L.length (1-h)=((b:Int),((b+(L.length / 2-1):Nat):Int)) /\
  S.turn ((L,[]),h,(u:Int),c)=some (turA L (1-h) b c)/\S.doD (L,[]) (turA L (1-h) b c)=((turL L (1-h) b c,[]),0)/\Jn (turL L (1-h) b c) (1-h) b (S.packed c 1).length c/\(turL L (1-h) b c).length=L.length:=by
 have hh:=j.hh;have hle:=j.dk.le;have hge:=j.dk.ge;have hok:=j.le.2.1;have hb:=qry (qk7 hok.1);obtain⟨b,e1,e2,e3,_,_⟩:=qkw j.dk.ev hge (h:=1-h) (by omega);have hK:(List.replicate (L.length / 2-1) S.blank).length=L.length / 2-1:=List.length_replicate;have hf1:b+(List.replicate (L.length / 2-1) S.blank).length<=L.length:=by rw[hK];omega
 have hs1:szS (List.replicate (L.length / 2-1) S.blank):=fun s hs=>by rw[(List.mem_replicate.1 hs).2];exact zcv
 have d1:=j.dk.over hf1 hs1;have l1:(over L b (List.replicate (L.length / 2-1) S.blank)).length=L.length:=qgb hf1;have hf2:b+(S.packed c 1).length<=(over L b (List.replicate (L.length / 2-1) S.blank)).length:=by rw[l1];omega
 have d2:=d1.over hf2 (qj4 c 1);have l2:=(qgb hf2).trans l1;have hf3:0+[topS (1-h)].length<=(over (over L b (List.replicate (L.length / 2-1) S.blank)) b (S.packed c 1)).length:=by rw[l2];show 0+1<=_;omega
 have hs3:szS [topS (1-h)]:=fun s hs=>by rw[List.mem_singleton.1 hs];exact q68
 have d3:=d2.over hf3 hs3;have l3:(turL L (1-h) b c).length=L.length:=(qgb hf3).trans l2;have hmem:(S.packed c 1).getD 0 S.none_∈S.packed c 1:=qjg (qfp c 1);refine⟨b,e1,?_,?_,?_,l3⟩
 ·rw[q6b]
  ·show some (S.puts (S.half L.length (1-h)).1 (List.replicate ((S.half L.length (1-h)).2-(S.half L.length (1-h)).1).toNat S.blank)++[S.sync]++S.puts (S.half L.length (1-h)).1 (S.packed c 0)++_)=_;rw[e1];have:(((b+(L.length / 2-1):Nat):Int)-(b:Int)).toNat=L.length / 2-1:=by omega
   simp only[this];rfl
  ·show ¬(S.half L.length (1-h)).2-(S.half L.length (1-h)).1<_;rw[e1];show ¬((b+(L.length / 2-1):Nat):Int)-(b:Int)<((S.packed c 1).length:Int);omega
 ·unfold S.doD;rw[if_pos j.dk.check];show S.doGo (turA L (1-h) b c) L []=_;unfold turA;rw[List.append_assoc,List.append_assoc,qte _ _ _ _ _ hs1 hf1 (by rw[List.length_nil,hK];omega),List.nil_append];show S.doGo (S.sync::_) _ _=_;rw[qrh,qlo _ _ _ hf1];have:=zbh (L:=over L b (List.replicate (L.length / 2-1) S.blank)) (a:=b) (l:=c) (tail:=[]) (r:=[S.put ((0:Nat):Int) (topS (1-h)),S.sync]) (fun s hs=>by cases hs) (by rw[l1,List.length_nil];omega) (by rw[l1];exact hle);rw[List.append_nil,List.append_nil] at this;refine this.trans ?_;rw[qxu q68 (by rw[l2];omega) (by rw[List.length_nil];omega),qrh,zbt];refine congrArg (fun z=>((z,[]),0)) ?_;exact qlo [topS (1-h)] 0 _ hf3
 ·have hh':1-h=0\/1-h=1:=by omega
  have htop:(turL L (1-h) b c).getD 0 S.none_=topS (1-h):=rfl;refine⟨d3,hh',by rw[htop];exact zuf hh',by rw[l3];exact e1,e2,by rw[l3];exact e3,⟨2,?_⟩,qfp c 1⟩;rw[l3];have hdr:(turL L (1-h) b c).drop b=S.packed c 1++(over L b (List.replicate (L.length / 2-1) S.blank)).drop (b+(S.packed c 1).length):=by
   rw[<- qpl hf2];show (over _ 0 [topS (1-h)]).drop b=_;exact zzi _ _ e2
  rw[hdr,List.take_append,List.take_of_length_le hr,q3t 1 c _ [] 0 hok.1 (by omega)];have hng:c.any (·.2.2)=false:=List.any_eq_false.2 fun x hx=>by rw[hok.2 x hx];decide
  rw[hng,Bool.and_false,cond_false,q45 hok,Nat.zero_add];have hrest:((over L b (List.replicate (L.length / 2-1) S.blank)).drop (b+(S.packed c 1).length)).take (L.length / 2-1-(S.packed c 1).length)=List.replicate (L.length / 2-1-(S.packed c 1).length) S.blank:=by
   rw[<- List.drop_drop,qpl hf1,List.drop_append_of_le_length (by rw[hK];exact hr),List.drop_replicate,List.take_append_of_le_length (by rw[List.length_replicate];exact Nat.le_refl _),List.take_of_length_le (by rw[List.length_replicate];exact Nat.le_refl _)]
  rw[hrest];cases L.length / 2-1-(S.packed c 1).length with
  | zero=>rfl
  | succ n=>rw[List.replicate_succ,qe5,if_pos q8a]
theorem zzn(a b:qaa):(keqI a.1 b.1&&(keqS a.2.1 b.2.1&&(keqB a.2.2 b.2.2&&true)))=decide (a=b):=by
 obtain⟨a1,a2,a3⟩:=a;obtain⟨b1,b2,b3⟩:=b;rw[Bool.eq_iff_iff];simp[keqI,keqS,keqB]
theorem zqc(a b:DPut):(keqI a.1 b.1&&(keqS a.2 b.2&&true))=decide (a=b):=by
 obtain⟨a1,a2⟩:=a;obtain⟨b1,b2⟩:=b;rw[Bool.eq_iff_iff];simp[keqI,keqS]
theorem qu3{α R:Type}[DecidableEq α]{T:(Int->Option R)->Int->Option R}(a b:List α)(hl:a.length=b.length)(ha:a.length<LF)(Y N:Option R)
  (h0:∀K,T K (Int.ofNat a.length)=Y)
  (h1:∀K i v w,iltI (Int.ofNat i) (Int.ofNat a.length)=true->jget a (Int.ofNat i)=some v->jget b (Int.ofNat i)=some w->IntKind.i64.wrap (Int.add (Int.ofNat i) (Int.ofNat 1))=Int.ofNat (i+1)->T K (Int.ofNat i)=cond (decide (v=w)) (K (Int.ofNat (i+1))) N) :
  qa2 T LF (Int.ofNat 0)=cond (decide (a=b)) Y N:=by
 refine(q1n (T:=T) a (fun rest i=>cond (decide (rest=b.drop i)) Y N) ha (fun K=>?_) (fun K i v rest r h=>?_)).trans ?_
 ·rw[h0,hl,List.drop_eq_nil_of_le (Nat.le_refl _)];rfl
 ·have hi:=r.lt;obtain⟨w,w1,w2⟩:∃w,b[i]?=some w/\b.drop i=w::b.drop (i+1):=⟨b[i],List.getElem?_eq_getElem (by omega),List.drop_eq_getElem_cons (by omega)⟩;rw[h1 K i v w r.ilt r.get (by rw[qdg];exact w1) r.next,h,w2];by_cases e:v=w
  ·rw[decide_eq_true e,cond_true];have:decide (rest=b.drop (i+1))=decide (v::rest=w::b.drop (i+1)):=decide_eq_decide.2 (by rw[e];simp);rw[this]
  ·rw[decide_eq_false e,cond_false,decide_eq_false (fun h=>e (List.cons.inj h).1),cond_false]
 ·rfl
theorem zia(a b:qab)(ha:a.1.length<LF)(ha2:a.2.length<LF):Fz49 LF a b=some (S.sameD a b,()):=by
 simp only[Fz49,qv9];unfold S.sameD;by_cases e:a.1.length=b.1.length
 ·rw[qbd (show Int.ofNat a.1.length=Int.ofNat b.1.length from congrArg Int.ofNat e),Bool.not_true,cond_false];by_cases e2:a.2.length=b.2.length
  ·rw[qbd (show Int.ofNat a.2.length=Int.ofNat b.2.length from congrArg Int.ofNat e2),Bool.not_true,cond_false];have g9:qki LF a b LF (Int.ofNat 0)=cond (decide (a.2=b.2)) (some (true,())) (some (false,())):=by
    refine qu3 a.2 b.2 e2 ha2 (some (true,())) (some (false,())) (fun K=>?_) (fun K i v w h1 h2 h3 h4=>?_)
    ·simp only[qp2,qbv,cond_false]
    ·simp only[qp2,h1,h2,h3,h4,cond_true,zqc];cases decide (v=w)<;>rfl
   refine(qu3 a.1 b.1 e ha (cond (decide (a.2=b.2)) (some (true,())) (some (false,()))) (some (false,())) (fun K=>?_) (fun K i v w h1 h2 h3 h4=>?_)).trans ?_
   ·simp only[qrw,qbv,cond_false,g9]
   ·simp only[qrw,h1,h2,h3,h4,cond_true,keqS];cases decide (v=w)<;>rfl
   ·have:decide (a=b)=(decide (a.1=b.1)&&decide (a.2=b.2)):=by
     rw[Bool.eq_iff_iff];obtain⟨a1,a2⟩:=a;obtain⟨b1,b2⟩:=b;simp
    rw[this];cases decide (a.1=b.1)<;>cases decide (a.2=b.2)<;>rfl
  ·rw[qbc (show ¬Int.ofNat a.2.length=Int.ofNat b.2.length from fun h=>e2 (Int.ofNat.inj h)),Bool.not_false,cond_true,decide_eq_false (fun h=>e2 (congrArg (fun z:qab=>z.2.length) h))]
 ·rw[qbc (show ¬Int.ofNat a.1.length=Int.ofNat b.1.length from fun h=>e (Int.ofNat.inj h)),Bool.not_false,cond_true,decide_eq_false (fun h=>e (congrArg (fun z:qab=>z.1.length) h))]
theorem ztd:Con Tryz.prog zra q3b:=zpo trivial fun x y hx h=>⟨LF,(zia x.1 x.2.1 (qbu (c:=.str) hx.1.1) (qbu (c:=cPut) hx.1.2)).trans h⟩
def qc2(l:List qaa)(i:Nat):Int:=if i=0 then -1 else ((l.getD (i-1) (0,S.none_,false)).1)
theorem q4h{R:Type}{l:List qaa}{i:Nat}{k:Int}(hk:0<=k)(hi:i<=l.length)(hl:l.length<1000000)(N T:Option R) :
  cond (iltI (Int.ofNat 0) (Int.ofNat i)) (match jget l (IntKind.i64.wrap (Int.sub (Int.ofNat i) (Int.ofNat 1))) with
   | none=>none
   | some v=>cond (!iltI v.1 k) N T) T=cond (decide (qc2 l i<k)) T N:=by
 unfold qc2;cases i with
 | zero =>
  rw[if_pos rfl,decide_eq_true (show (-1:Int)<k by omega)];rfl
 | succ i =>
  rw[if_neg (by omega),qbt,decide_eq_true (by omega),cond_true];have e:IntKind.i64.wrap (Int.sub (Int.ofNat (i+1)) (Int.ofNat 1))=Int.ofNat i:=by
   have:Int.sub (Int.ofNat (i+1)) (Int.ofNat 1)=Int.ofNat i:=by
    show ((i+1:Nat):Int)-1=(i:Int);omega
   rw[this];exact qb7 (by omega)
  rw[e,qmz (i:=Int.ofNat i) (d:=(0,S.none_,false)) (Int.natCast_nonneg _) (by show (i:Int)<(l.length:Int);omega)];show cond (!iltI (l.getD i (0,S.none_,false)).1 k) N T=cond (decide ((l.getD i (0,S.none_,false)).1<k)) T N;rw[qbn];cases decide ((l.getD i (0,S.none_,false)).1<k)<;>rfl
theorem ztg{l:List qaa}{i:Nat}{v:qaa}(h:l[i]?=some v):qc2 l (i+1)=v.1:=by
 unfold qc2;rw[if_neg (by omega),List.getD_eq_getElem?_getD,Nat.add_sub_cancel,h];rfl
theorem zm8(s:ByteArray):keqS s (S.lit [])=decide (s.size=0):=by
 unfold keqS;exact decide_eq_decide.2 qrb.symm
theorem q02{j:qad}(h:S.smallJ j=true):j.1.1.length<=1000/\j.1.1.length % 2=0/\-1000<=j.2.2.1/\j.2.2.1<=1000:=by
 unfold S.smallJ at h;rw[Bool.and_eq_true,Bool.and_eq_true,qa8] at h;exact⟨Nat.le_of_ble_eq_true h.1,of_decide_eq_true h.2.1,h.2.2.1,h.2.2.2⟩
structure RJ (j:qad) (a u:Nat):Prop where
 jn:Jn j.1.1 j.2.1 a u j.2.2.2
 eq:j=((j.1.1,[]),j.2.1,(u:Int),j.2.2.2)
 small:S.smallJ j=true
 room:S.roomR j=((j.1.1.length / 2-1-u:Nat):Int)
 room2:S.roomOf j=((j.1.1.length / 2-1-u:Nat):Int)
 halfG:(Nat.ble j.1.1.length 1000&&decide (j.1.1.length % 2=0))=true
 used:j.2.2.1=(u:Int)
theorem qh9{j:qad}(h:S.right j=true):∃a u,RJ j a u:=by
 obtain⟨a,u,jn,h1,h2⟩:=qzn h;have hle:=jn.dk.le;have hge:=jn.dk.ge;have hev:=jn.dk.ev;have hu:=jn.le.1;refine⟨a,u,jn,?_,?_,?_,?_,?_,h2⟩
 ·obtain⟨⟨l,q⟩,hh,uu,cc⟩:=j;simp only at h1 h2;rw[h1,h2]
 ·unfold S.smallJ;rw[Nat.ble_eq_true_of_le hle,decide_eq_true hev,Bool.true_and,Bool.true_and,qa8,h2];omega
 ·unfold S.roomR;rw[h2];omega
 ·have:=q9v jn;obtain⟨⟨l,q⟩,hh,uu,cc⟩:=j;simp only at h1 h2;subst h1 h2;exact this
 ·rw[Nat.ble_eq_true_of_le hle,decide_eq_true hev];rfl
theorem zab{l:List qaa}(h:(S.size l).2=0):S.okC l=true/\(S.size l).1=((S.packed l 1).length:Int)/\1<=l.length:=by
 unfold S.size at h ⊢;by_cases h1:60<l.length
 ·rw[if_pos h1] at h;cases h
 rw[if_neg h1] at h ⊢;by_cases h2:l.length=0
 ·rw[if_pos h2] at h;cases h
 rw[if_neg h2] at h ⊢;cases hc:S.okC l with
 | false=>rw[hc] at h;cases h
 | true=>exact⟨rfl,rfl,by omega⟩
theorem q20{j:qad}{l:List qaa}(h:S.roomOf j<(S.packed l 1).length):S.commit j l=none:=by
 unfold S.commit;rw[if_pos h]
theorem q7c{j:qad}(h:(S.half j.1.1.length (1-j.2.1)).2-(S.half j.1.1.length (1-j.2.1)).1<(S.packed j.2.2.2 1).length):S.turn j=none:=by
 unfold S.turn;rw[if_pos h]
theorem zeq:S.lit [0,0,0,0,0,0,0,0,0,0,0,0,0,0,0,0,0,0,0,0,0,0,0,0,0,0,0,0,0,0,0,0,0,0,0,0,0,0,0,0,0,0,0,0,0,0,0,0,0,0,0,0,0,0,0,0,0,0,0,0,0,0,0]=qag (List.replicate 63 0):=q4x
theorem zr3{j:qad}{a u:Nat}(r:RJ j a u)(h1:S.right j=true):(S.turn j=none/\S.turnJ j=(S.noJ,14)/\S.planTurn j=([],14)/\j.1.1.length / 2-1<(S.packed j.2.2.2 1).length) \/
  ∃b:Nat,S.half j.1.1.length (1-j.2.1)=((b:Int),((b+(j.1.1.length / 2-1):Nat):Int))/\S.turn j=some (turA j.1.1 (1-j.2.1) b j.2.2.2)/\S.planTurn j=(turA j.1.1 (1-j.2.1) b j.2.2.2,0)/\S.doD j.1 (turA j.1.1 (1-j.2.1) b j.2.2.2)=((turL j.1.1 (1-j.2.1) b j.2.2.2,[]),0) /\
   S.turnJ j=(((turL j.1.1 (1-j.2.1) b j.2.2.2,[]),1-j.2.1,((S.packed j.2.2.2 1).length:Int),j.2.2.2),0)/\Jn (turL j.1.1 (1-j.2.1) b j.2.2.2) (1-j.2.1) b (S.packed j.2.2.2 1).length j.2.2.2:=by
 by_cases h3:j.1.1.length / 2-1<(S.packed j.2.2.2 1).length
 ·left;have hh:=r.jn.hh;obtain⟨b,e1,e2,e3,_,_⟩:=qkw r.jn.dk.ev r.jn.dk.ge (h:=1-j.2.1) (by omega);have hn:S.turn j=none:=q7c (by rw[e1];show ((b+(j.1.1.length / 2-1):Nat):Int)-(b:Int)<_;omega);have hp:S.planTurn j=([],14):=by
   unfold S.planTurn;rw[if_pos h1,hn]
  refine⟨hn,?_,hp,h3⟩;unfold S.turnJ;rw[hp];rfl
 ·right;obtain⟨b,f1,f2,f3,f4,f5⟩:=zkt r.jn (by omega);rw[<- r.eq] at f2;have hq:j.1=(j.1.1,[]):=congrArg (·.1) r.eq;rw[<- hq] at f3;have hp:S.planTurn j=(turA j.1.1 (1-j.2.1) b j.2.2.2,0):=by
   unfold S.planTurn;rw[if_pos h1,f2]
  refine⟨b,f1,f2,hp,f3,?_,f4⟩;unfold S.turnJ;rw[hp];show S.open_ (S.doD j.1 (turA j.1.1 (1-j.2.1) b j.2.2.2)).1=_;rw[f3];exact f4.opened_
theorem zg1{j:qad}{a u:Nat}(r:RJ j a u){l:List qaa}(hl:S.okC l=true):(S.commit j l=none/\j.1.1.length / 2-1<u+(S.packed l 1).length) \/
  ∃A,S.commit j l=some A/\A=S.laid l ((a+u:Nat):Int) ((a+(j.1.1.length / 2-1):Nat):Int) true/\u+(S.packed l 1).length<=j.1.1.length / 2-1/\S.doD j.1 A=((comL j.1.1 a u l,[]),0) /\
   S.behind j A=(((comL j.1.1 a u l,[]),j.2.1,((u+(S.packed l 1).length:Nat):Int),S.changed j.2.2.2 l),0)/\Jn (comL j.1.1 a u l) j.2.1 a (u+(S.packed l 1).length) (S.changed j.2.2.2 l):=by
 have hu:=r.jn.le.1;by_cases h3:j.1.1.length / 2-1<u+(S.packed l 1).length
 ·exact .inl ⟨q20 (by rw[r.room2];omega),h3⟩
 ·right;obtain⟨c1,c2,c3,_⟩:=zw5 r.jn hl (by omega);rw[<- r.eq] at c1;have hq:j.1=(j.1.1,[]):=congrArg (·.1) r.eq;rw[<- hq] at c2;refine⟨_,c1,rfl,by omega,c2,?_,c3⟩;unfold S.behind;rw[c2];exact c3.opened_
theorem zgp(lf:Nat)(j:qad)(h:S.smallJ j=true):Fz36 lf j=some (S.roomOf j,()):=by
 obtain⟨h1,h2,h3,h4⟩:=q02 h;simp only[Fz36,qyc];rw[show S.inI (Int.ofNat j.1.1.length) (Int.ofNat 0) (Int.ofNat 1000)=true from qa8.2 ⟨Int.natCast_nonneg _,by show (j.1.1.length:Int)<=1000;omega⟩,cond_true];simp only;unfold S.roomOf;show some (IntKind.i64.wrap (Int.sub (IntKind.i64.wrap ((S.half j.1.1.length j.2.1).2-(S.half j.1.1.length j.2.1).1)) j.2.2.1),())=_;have hb:-1000<=(S.half j.1.1.length j.2.1).2-(S.half j.1.1.length j.2.1).1/\(S.half j.1.1.length j.2.1).2-(S.half j.1.1.length j.2.1).1<=1000:=by
  unfold S.half;split
  ·show -1000<=((j.1.1.length / 2:Nat):Int)-1/\((j.1.1.length / 2:Nat):Int)-1<=1000;omega
  ·show -1000<=(j.1.1.length:Int)-1-((j.1.1.length / 2:Nat):Int)/\(j.1.1.length:Int)-1-((j.1.1.length / 2:Nat):Int)<=1000;omega
 rw[wrap_in (n:=(S.half j.1.1.length j.2.1).2-(S.half j.1.1.length j.2.1).1) (by omega)];refine congrArg (fun z=>some (z,())) (wrap_in ?_);show -_<=(S.half j.1.1.length j.2.1).2-(S.half j.1.1.length j.2.1).1-j.2.2.1/\(S.half j.1.1.length j.2.1).2-(S.half j.1.1.length j.2.1).1-j.2.2.1<_;omega
theorem zaw:Con Tryz.prog zm0 qsj:=zoa ⟨qoc,trivial⟩ fun x y hx h=>⟨0,by
 obtain⟨h1,h2⟩:=qba (show cond (S.smallJ x.1) (some (S.roomOf x.1,())) none=some y from h);exact(zgp 0 x.1 h1).trans (congrArg some h2)⟩
theorem zxn(l:List qaa):Fz37 LF l=some ((S.size l).1,(S.size l).2,()):=by
 simp only[Fz37,qtv];unfold S.size;rw[qbt,q4m];by_cases h1:60<l.length
 ·rw[decide_eq_true h1,cond_true,if_pos h1];rfl
 rw[decide_eq_false h1,cond_false,if_neg h1];by_cases h2:l.length=0
 ·rw[decide_eq_true h2,cond_true,if_pos h2];rfl
 rw[decide_eq_false h2,cond_false,if_neg h2];have hfin:∀b:Bool,b=S.okC l->(cond b (some (((S.packed l 1).length:Int),(0:Int),())) (some ((0:Int),(1:Int),())))=some ((cond (S.okC l) (((S.packed l 1).length:Int),(0:Int)) ((0:Int),(1:Int))).1,(cond (S.okC l) (((S.packed l 1).length:Int),(0:Int)) ((0:Int),(1:Int))).2,()):=fun b hb=>by
  subst hb;cases S.okC l<;>rfl
 refine(range0 (σ:=Unit) (R:=qco) (T:=fun K p=>qmc LF l K p) l (fun i _=>i) (fun i _=>S.okGo (l.drop i) (qc2 l i)=S.okC l\/S.okC l=S.okGo (l.drop i) (qc2 l i)) (fun rest i _=>cond (S.okGo rest (qc2 l i)) (some (((S.packed l 1).length:Int),(0:Int),())) (some ((0:Int),(1:Int),()))) (by unfold LF;omega) (fun K s hs=>?_) (fun K i v rest s hs r hk=>?_) () (.inl rfl)).trans (hfin _ rfl)
 ·rw[List.drop_eq_nil_of_le (Nat.le_refl _)] at hs;have hok:S.okC l=true:=hs.elim (fun h=>h.symm) id;simp only[qmc,qbv,cond_false];rw[qk7 hok,cond_true];rfl
 ·have hd:=r.drop;have hi:=r.lt;have hgi:l[i]?=some v:=by
   have:=r.get
   rwa [qdg] at this
  have hst:S.okGo (v::rest) (qc2 l i)=(S.inI v.1 0 199&&(decide (v.2.1.size<=4000)&&(!(v.2.2&&!decide (v.2.1.size=0))&&(decide (qc2 l i<v.1)&&S.okGo rest v.1)))):=rfl;have hs':S.okC l=S.okGo (v::rest) (qc2 l i):=by rw[hd] at hs;exact hs.elim (fun h=>h.symm) id
  have hnext:qc2 l (i+1)=v.1:=ztg hgi;rw[hnext] at hk;simp only[qmc,r.ilt,r.get,r.next,cond_true];rw[hst];by_cases c1:S.inI v.1 0 199=true
  ·rw[show S.inI v.1 (Int.ofNat 0) (Int.ofNat 199)=true from c1,Bool.not_true,cond_false,c1,Bool.true_and,qbt];by_cases c2:v.2.1.size<=4000
   ·rw[decide_eq_false (show ¬4000<v.2.1.size by omega),cond_false,decide_eq_true c2,Bool.true_and,zm8];have hv0:0<=v.1:=(qa8.1 c1).1;have hfinal:cond (decide (qc2 l i<v.1)) (K (Int.ofNat (i+1))) (some (Int.ofNat 0,Int.ofNat 1,()))=cond (decide (qc2 l i<v.1)&&S.okGo rest v.1) (some (((S.packed l 1).length:Int),(0:Int),())) (some ((0:Int),(1:Int),()))\/¬(v.2.2&&!decide (v.2.1.size=0))=false:=by
     by_cases cg:(v.2.2&&!decide (v.2.1.size=0))=false
     ·left;by_cases c4:qc2 l i<v.1
      ·rw[decide_eq_true c4,cond_true,Bool.true_and];refine hk () ?_;rw[r.tail];left;rw[hs',hst,c1,decide_eq_true c2,cg,decide_eq_true c4];rfl
      ·rw[decide_eq_false c4,cond_false,Bool.false_and,cond_false];rfl
     ·exact .inr cg
    cases hg:v.2.2 with
    | true =>
     rw[cond_true,Bool.true_and];by_cases c3:v.2.1.size=0
     ·rw[decide_eq_true c3,Bool.not_true,cond_false,Bool.not_false,Bool.true_and];refine(q4h (l:=l) hv0 (by omega) (by omega) _ _).trans ?_;refine hfinal.resolve_right ?_;rw[decide_eq_true c3,Bool.not_true,Bool.and_false];decide
     ·rw[decide_eq_false c3,Bool.not_false,cond_true,Bool.not_true,Bool.false_and,cond_false];rfl
    | false =>
     rw[cond_false,Bool.false_and,Bool.not_false,Bool.true_and];refine(q4h (l:=l) hv0 (by omega) (by omega) _ _).trans ?_;refine hfinal.resolve_right ?_;rw[hg,Bool.false_and];decide
   ·rw[decide_eq_true (show 4000<v.2.1.size by omega),cond_true,decide_eq_false c2,Bool.false_and,cond_false];rfl
  ·have c1:=Bool.eq_false_iff.2 c1;rw[show S.inI v.1 (Int.ofNat 0) (Int.ofNat 199)=false from c1,Bool.not_false,cond_true,c1,Bool.false_and,cond_false];rfl
theorem q70:Con Tryz.prog zpn qxk:=zjv ⟨qin,qps,trivial⟩ fun x y hx h=>⟨LF,(zxn x.1).trans h⟩
theorem qtc{j:qad}(h:S.right j=true):S.errR j=0:=by unfold S.errR;rw[if_pos h]
theorem qer{j:qad}(h:¬S.right j=true):S.errR j=1:=by unfold S.errR;rw[if_neg h]
theorem qsc{d:qab}(h:S.checkDisk d=0):S.okL d=true:=by
 have k:=za8 h;unfold S.okL S.secs;rw[Bool.and_eq_true,Bool.and_eq_true,Bool.and_eq_true,Bool.not_eq_true'];refine⟨⟨Nat.ble_eq_true_of_le k.le,List.any_eq_false.2 fun s q=>?_⟩,Nat.ble_eq_true_of_le k.ge,decide_eq_true k.ev⟩;unfold S.short;rw[k.sz s q];decide
theorem zo9(lf:Nat)(j:qad):Fz38 lf j=some (S.errR j,()):=by
 simp only[Fz38,qvu];show cond (!ieqI (S.checkDisk j.1) _) _ (cond (iltI (Int.ofNat 0) (Int.ofNat j.1.2.length)) _ (match (cond (S.okL j.1) (some ((S.openedJ j.1).1,((S.openedJ j.1).2,()))) none) with|none=>none|some v=>_))=_;by_cases h0:S.checkDisk j.1=0
 ·rw[qbd (show _=Int.ofNat 0 from h0),Bool.not_true,cond_false,qbt];by_cases h1:j.1.2.length=0
  ·have hq:j.1.2=[]:=List.length_eq_zero_iff.1 h1;rw[decide_eq_false (by omega),cond_false,qsc h0,cond_true];simp only;unfold S.openedJ;cases ho:S.opened j.1.1 with
   | none =>
    have hr:¬S.right j=true:=fun h=>by
     obtain⟨a,u,r⟩:=qh9 h;rw[r.jn.open_] at ho;cases ho
    rw[qer hr];rfl
   | some x =>
    obtain⟨hf,u,c⟩:=x;simp only;rw[Bool.not_true,cond_false,qd1,qd1];have hop:S.open_ j.1=(((j.1.1,[]),hf,(u:Int),c),0):=by
     unfold S.open_;rw[if_pos h0,if_pos h1,ho]
    have hre:S.right j=decide ((((j.1.1,[]),hf,(u:Int),c):qad)=j):=by
     unfold S.right;rw[hop];rfl
    obtain⟨⟨L,q⟩,h',u',c'⟩:=j;simp only at hq;subst hq;show cond (!decide (hf=h')) _ (cond (!decide ((u:Int)=u')) _ (cond (!decide (c=c')) _ _))=_;by_cases e1:hf=h'
    ·by_cases e2:(u:Int)=u'
     ·by_cases e3:c=c'
      ·rw[decide_eq_true e1,decide_eq_true e2,decide_eq_true e3,qtc (by rw[hre,e1,e2,e3];exact decide_eq_true rfl)];rfl
      ·rw[decide_eq_true e1,decide_eq_true e2,decide_eq_false e3,qer (fun h=>by rw[hre] at h;exact e3 (congrArg (fun z:qad=>z.2.2.2) (of_decide_eq_true h)))];rfl
     ·rw[decide_eq_true e1,decide_eq_false e2,qer (fun h=>by rw[hre] at h;exact e2 (congrArg (fun z:qad=>z.2.2.1) (of_decide_eq_true h)))];rfl
    ·rw[decide_eq_false e1,qer (fun h=>by rw[hre] at h;exact e1 (congrArg (fun z:qad=>z.2.1) (of_decide_eq_true h)))];rfl
  ·have hr:¬S.right j=true:=fun h=>by
    obtain⟨a,u,jn,h2,_⟩:=qzn h;rw[h2] at h1;exact h1 rfl
   rw[decide_eq_true (by omega),cond_true,qer hr];rfl
 ·have hr:¬S.right j=true:=fun h=>by
   obtain⟨a,u,jn,h2,_⟩:=qzn h;have:=jn.dk.check;rw[show j.1=(j.1.1,[]) from Prod.ext rfl h2] at h0;exact h0 this
  rw[qbc (show ¬_=Int.ofNat 0 from h0),Bool.not_false,cond_true,qer hr];rfl
theorem zvg(lf:Nat)(d:qab):Fz47 lf d=some ((S.open_ d).1,(S.open_ d).2,()):=by
 simp only[Fz47,qyz];unfold S.open_;show cond (!ieqI (S.checkDisk d) _) _ (cond (iltI (Int.ofNat 0) (Int.ofNat d.2.length)) _ (match (cond (S.okL d) (some ((S.openedJ d).1,((S.openedJ d).2,()))) none) with|none=>none|some v=>_))=_;by_cases h0:S.checkDisk d=0
 ·rw[qbd (show _=Int.ofNat 0 from h0),Bool.not_true,cond_false,qbt,if_pos h0];by_cases h1:d.2.length=0
  ·rw[decide_eq_false (by omega),cond_false,qsc h0,cond_true,if_pos h1];simp only;unfold S.openedJ;cases S.opened d.1<;>rfl
  ·rw[decide_eq_true (by omega),cond_true,if_neg h1];rfl
 ·rw[qbc (show ¬_=Int.ofNat 0 from h0),Bool.not_false,cond_true,if_neg h0];rfl
theorem ziq(lf:Nat)(j:qad):Fz39 lf j=some ((S.room j).1,(S.room j).2,()):=by
 simp only[Fz39,qtk];unfold S.room;show cond (!ieqI (S.errR j) _) (some (_,S.errR j,())) (match (cond (S.smallJ j) (some (S.roomOf j,())) none) with|none=>none|some v=>_)=_;by_cases h1:S.right j=true
 ·obtain⟨a,u,r⟩:=qh9 h1;rw[qtc h1,show ieqI 0 (Int.ofNat 0)=true from rfl,Bool.not_true,cond_false,r.small,cond_true,if_pos h1];rfl
 ·rw[qer h1,show ieqI 1 (Int.ofNat 0)=false from rfl,Bool.not_false,cond_true,if_neg h1];rfl
theorem zir(lf:Nat)(j:qad)(l:List qaa):Fz40 lf j l=some (S.asked j l,()):=by
 simp only[Fz40,qvi];unfold S.asked;show cond (!ieqI (S.errR j) _) (some (S.errR j,())) _=_;by_cases h1:S.right j=true
 ·rw[qtc h1,show ieqI 0 (Int.ofNat 0)=true from rfl,Bool.not_true,cond_false,if_pos h1]
 ·rw[qer h1,show ieqI 1 (Int.ofNat 0)=false from rfl,Bool.not_false,cond_true,if_neg h1]
theorem q7w(a b:List DAct):S.app a b=a++b:=rfl
theorem qch{a:List DAct}{n:Nat}(h:a.length<=n):Nat.ble (S.lenA a) n=true:=Nat.ble_eq_true_of_le h
theorem qs5(a:Int)(s:ByteArray):S.puts a [s]=[S.put a s]:=rfl
theorem unm(l:List qaa):qag (0::(qac ((S.packed l 1).getD 0 S.none_)).drop 1)=(S.packed l 0).getD 0 S.none_:=by
 have e:∀m:Int,0<=m/\m<256->qac ((S.packed l m).getD 0 S.none_)=m::((S.recB l 0).drop 1).take 63++List.replicate (64-(S.recB l 0).length) 0:=fun m hm=>by
  have h:=qgn ((S.body l).length+3) (b:=S.recB l m) (by rw[qel];omega);have:S.packed l m=qag ((S.recB l m).take 64++List.replicate (64-(S.recB l m).length) 0)::S.chunks ((S.body l).length+3) ((S.recB l m).drop 64):=h;rw[this];exact qb2 (qfs (qeo (qmf l hm) 64) (qga _))
 refine qe6 ?_;rw[e 1 (by omega),e 0 (by omega)];have hr:rng ((0:Int)::(((S.recB l 0).drop 1).take 63++List.replicate (64-(S.recB l 0).length) 0)):=fun x hx=>by
  rcases List.mem_cons.1 hx with rfl|hx
  ·decide
  ·exact qfs (qeo (qeh (qmf l (by decide)) 1) 63) (qga _) x hx
 exact qb2 hr
theorem unm2(l:List qaa):qag (Int.ofNat 0::(qac ((S.packed l 1).getD 0 S.none_)).drop 1)=(S.packed l 0).getD 0 S.none_:=unm l
theorem q5x(l:List ByteArray):lsub l (Int.ofNat 1) (Int.ofNat l.length)=l.drop 1:=by
 unfold lsub;show (l.take l.length).drop 1=_;rw[List.take_length]
theorem q7l(l:List qaa)(a:Nat):S.puts (a:Int) [(S.packed l 0).getD 0 S.none_]++S.puts ((a+1:Nat):Int) ((S.packed l 1).drop 1)=S.puts (a:Int) (S.packed l 0):=by
 rw[qwv l 0];exact(q10 a [(S.packed l 0).getD 0 S.none_] ((S.packed l 1).drop 1)).symm
theorem in0{n:Nat}(h:n<=1000000):S.inI ((n:Nat):Int) (Int.ofNat 0) (Int.ofNat 1000000)=true:=qa8.2 ⟨Int.natCast_nonneg _,by show (n:Int)<=1000000;omega⟩
theorem zgz{j:qad}{l:List qaa}(h:S.comG j l=true):S.smallJ j=true/\S.pk l=true/\0<=j.2.2.1/\j.2.2.1<=1000:=by
 unfold S.comG at h;rw[Bool.and_eq_true,Bool.and_eq_true,qa8] at h;exact⟨h.1,h.2.1,h.2.2⟩
theorem zuv(n:Nat)(hn:n<=1000)(h:Int)(h1:0<n\/h=0):∃a b:Nat,(S.half n h).1=(a:Int)/\(S.half n h).2=(b:Int)/\a<=1000/\b<=1000:=by
 unfold S.half;by_cases e:h=0
 ·rw[if_pos e];exact⟨1,n / 2,rfl,rfl,by omega,by omega⟩
 ·rw[if_neg e];have:0<n:=h1.resolve_right e;exact⟨n / 2,n-1,rfl,by show (n:Int)-1=((n-1:Nat):Int);omega,by omega,by omega⟩
theorem zk4(lf:Nat)(j:qad)(l:List qaa)(h:S.comG j l=true):Fz41 lf j l=some ((S.actsB (S.commit j l)).1,(S.actsB (S.commit j l)).2,()):=by
 obtain⟨hs,hp,hu0,hu1⟩:=zgz h;obtain⟨h1,h2,_,_⟩:=q02 hs;have hpl:=q7n hp 1;have hpos:=qfp l 1;have hp0:(S.packed l 0).length=(S.packed l 1).length:=by rw[qdm,qdm]
 simp only[Fz41,qtn];show (match (cond (S.pk l) (some ((S.packed l 1),())) none) with|none=>none|some v0=>(match (cond (S.smallJ j) (some (S.roomOf j,())) none) with|none=>none|some v1=>_))=_;rw[hp,cond_true,hs,cond_true];simp only;by_cases c0:S.roomOf j<((S.packed l 1).length:Int)
 ·rw[qd3 (show S.roomOf j<Int.ofNat (S.packed l 1).length from c0),cond_true,q20 c0];rfl
 rw[qem (show ¬S.roomOf j<Int.ofNat (S.packed l 1).length from c0),cond_false,q6x c0,show S.inI (Int.ofNat j.1.1.length) (Int.ofNat 0) (Int.ofNat 1000)=true from qa8.2 ⟨Int.natCast_nonneg _,by show (j.1.1.length:Int)<=1000;omega⟩,cond_true];simp only;obtain⟨a,b,ea,eb,ha,hb⟩:=zuv j.1.1.length h1 j.2.1 (by
  refine Nat.eq_zero_or_pos j.1.1.length |>.elim (fun e=>?_) (fun e=>.inl e);refine Classical.byContradiction fun hc=>?_;have hc:¬j.2.1=0:=fun h=>hc (.inr h);have:S.roomOf j=-1-j.2.2.1:=by
   unfold S.roomOf S.half;rw[e,if_neg hc];show ((0:Nat):Int)-1-((0 / 2:Nat):Int)-j.2.2.1=_;omega
  rw[this] at c0;omega)
 obtain⟨u,hu⟩:∃u:Nat,j.2.2.1=(u:Int):=⟨j.2.2.1.toNat,by omega⟩;have huu:u<=1000:=by omega
 rw[show Int.toNat (Int.ofNat j.1.1.length)=j.1.1.length from rfl,ea,eb,hu];have w1:IntKind.i64.wrap (Int.add (a:Int) (u:Int))=((a+u:Nat):Int):=qb7 (n:=a+u) (by omega);have w2:IntKind.i64.wrap (Int.add ((a+u:Nat):Int) (Int.ofNat 1))=((a+u+1:Nat):Int):=qb7 (n:=a+u+1) (by omega);have w3:IntKind.i64.wrap (Int.add ((a+u:Nat):Int) (Int.ofNat (S.packed l 1).length))=((a+u+(S.packed l 1).length:Nat):Int):=qb7 (n:=a+u+(S.packed l 1).length) (by omega);have hsz:=qj4 l 1 _ (qjg (i:=0) (show 0<(S.packed l 1).length by omega));have l1:lchk (Int.ofNat 1) (Int.ofNat (S.packed l 1).length) (Int.ofNat (S.packed l 1).length) (Int.ofNat (S.packed l 1).length)=true:=qb4.2 ⟨by decide,by show (1:Int)<=((S.packed l 1).length:Int);omega,Int.le_refl _,Int.le_refl _⟩;have hdl:Nat.ble ((S.packed l 1).drop 1).length 1000000=true:=Nat.ble_eq_true_of_le (by rw[List.length_drop];omega);have hpl0:(S.puts ((a+u:Nat):Int) (S.packed l 0)).length<=20000:=by rw[qly];omega
 rw[w1,w3];simp only[qpz (d:=S.none_) hpos,get0 (d:=S.none_) hpos,hsz,decide_true,cond_true,unm2,w2,in0 (show a+u<=1000000 by omega),in0 (show a+u+1<=1000000 by omega),in0 (show a+u+(S.packed l 1).length<=1000000 by omega),l1,q5x,hdl,Bool.and_true,Bool.true_and,q7w,List.nil_append];rw[qch (show (S.puts ((a+u:Nat):Int) [(S.packed l 0).getD 0 S.none_]).length<=1000000 by rw[qly];show 1<=_;omega),cond_true];simp only;rw[q7l l (a+u),qch (show (S.puts ((a+u:Nat):Int) (S.packed l 0)).length<=1000000 by omega),cond_true];simp only;rw[qch (show (S.puts ((a+u:Nat):Int) (S.packed l 0)).length<=4000000 by omega),cond_true];simp only;rw[qch (show (S.puts ((a+u:Nat):Int) (S.packed l 0)++[S.sync]).length<=1000000 by rw[List.length_append];show _+1<=_;omega),cond_true];simp only;rw[qch (show (S.puts ((a+u:Nat):Int) (S.packed l 0)++[S.sync]++S.puts ((a+u:Nat):Int) [(S.packed l 1).getD 0 S.none_]).length<=4000000 by rw[List.length_append,List.length_append];show _+1+1<=_;omega),cond_true];simp only;rw[qch (show (S.puts ((a+u:Nat):Int) (S.packed l 0)++S.puts ((a+u+(S.packed l 1).length:Nat):Int) [S.blank]).length<=4000000 by rw[List.length_append];show _+1<=_;omega),cond_true];simp only;rw[qch (show (S.puts ((a+u:Nat):Int) (S.packed l 0)++S.puts ((a+u+(S.packed l 1).length:Nat):Int) [S.blank]++[S.sync]).length<=1000000 by rw[List.length_append,List.length_append];show _+1+1<=_;omega),cond_true];simp only;rw[qch (show (S.puts ((a+u:Nat):Int) (S.packed l 0)++S.puts ((a+u+(S.packed l 1).length:Nat):Int) [S.blank]++[S.sync]++S.puts ((a+u:Nat):Int) [(S.packed l 1).getD 0 S.none_]).length<=4000000 by rw[List.length_append,List.length_append,List.length_append];show _+1+1+1<=_;omega),cond_true,qbn];unfold S.laid;rw[Bool.true_and];have hc2:(a:Int)+(u:Int)=((a+u:Nat):Int):=by omega
 have hc3:((a+u:Nat):Int)+((S.packed l 1).length:Int)=((a+u+(S.packed l 1).length:Nat):Int):=by omega
 rw[hc2,hc3];cases decide (((a+u+(S.packed l 1).length:Nat):Int)<(b:Int)) with
 | true =>
  simp only[cond_true,qs5,List.append_assoc];rfl
 | false =>
  simp only[cond_false,qs5,List.append_assoc,List.nil_append];rfl
theorem zjn{d:qab}(h:(S.open_ d).2=0):S.okL d=true/\S.openedJ d=((S.open_ d).1,true):=by
 obtain⟨hf,a,u,c,jn,h1,h2⟩:=q6r h;have hd:d=(d.1,[]):=Prod.ext rfl h1;refine⟨qsc (by rw[hd];exact jn.dk.check),?_⟩;unfold S.openedJ;rw[jn.open_,h2]
theorem zut(lf:Nat)(j:qad)(a:List DAct)(h:S.behG j a=true):Fz42 lf j a=some ((S.behind j a).1,()):=by
 unfold S.behG at h;rw[Bool.and_eq_true] at h;have h1:=of_decide_eq_true h.1;simp only[Fz42,qy1];unfold S.behind at h1 ⊢;obtain⟨h2,h3⟩:=zjn h1;show (match (cond (S.okL (S.doD j.1 a).1) (some ((S.openedJ (S.doD j.1 a).1).1,((S.openedJ (S.doD j.1 a).1).2,()))) none) with|none=>none|some v=>_)=_;rw[h2,cond_true,h3]
theorem zoz{j:qad}(h:S.turG j=true):S.smallJ j=true/\S.pk j.2.2.2=true/\(j.2.1=0\/j.2.1=1)/\8<=j.1.1.length:=by
 unfold S.turG at h;rw[Bool.and_eq_true,Bool.and_eq_true,Bool.and_eq_true,qa8] at h;exact⟨h.1,h.2.1,by omega,Nat.le_of_ble_eq_true h.2.2.2⟩
theorem ze4(lf:Nat)(j:qad)(h:S.turG j=true):Fz48 lf j=some ((S.actsB (S.turn j)).1,(S.actsB (S.turn j)).2,()):=by
 obtain⟨hs,hp,hh,hge⟩:=zoz h;obtain⟨h1,h2,_,_⟩:=q02 hs;have hpl:=q7n hp 1;have hpos:=qfp j.2.2.2 1;have hp0:(S.packed j.2.2.2 0).length=(S.packed j.2.2.2 1).length:=by rw[qdm,qdm]
 obtain⟨b,e1,e2,e3,_,_⟩:=qkw h2 hge (h:=1-j.2.1) (by omega);have hw:IntKind.i64.wrap (Int.sub (Int.ofNat 1) j.2.1)=1-j.2.1:=wrap_in (by show -_<=(1:Int)-j.2.1/\(1:Int)-j.2.1<_;omega);have hw2:IntKind.i64.wrap (Int.sub ((b+(j.1.1.length / 2-1):Nat):Int) (b:Int))=Int.ofNat (j.1.1.length / 2-1):=by
  have:Int.sub ((b+(j.1.1.length / 2-1):Nat):Int) (b:Int)=Int.ofNat (j.1.1.length / 2-1):=by
   show ((b+(j.1.1.length / 2-1):Nat):Int)-(b:Int)=((j.1.1.length / 2-1:Nat):Int);omega
  rw[this];exact qb7 (by omega)
 simp only[Fz48,qt0,hw];rw[hp,cond_true];simp only;rw[show S.inI (Int.ofNat j.1.1.length) (Int.ofNat 0) (Int.ofNat 1000)=true from qa8.2 ⟨Int.natCast_nonneg _,by show (j.1.1.length:Int)<=1000;omega⟩,cond_true];simp only;rw[show Int.toNat (Int.ofNat j.1.1.length)=j.1.1.length from rfl,e1];simp only[hw2];by_cases c0:j.1.1.length / 2-1<(S.packed j.2.2.2 1).length
 ·have hn:S.turn j=none:=q7c (by rw[e1];show ((b+(j.1.1.length / 2-1):Nat):Int)-(b:Int)<((S.packed j.2.2.2 1).length:Int);omega);rw[qd3 (show Int.ofNat (j.1.1.length / 2-1)<Int.ofNat (S.packed j.2.2.2 (Int.ofNat 1)).length from Int.ofNat_lt.2 c0),cond_true,hn];rfl
 have hsome:S.turn j=some (turA j.1.1 (1-j.2.1) b j.2.2.2):=by
  rw[q6b (by rw[e1];show ¬((b+(j.1.1.length / 2-1):Nat):Int)-(b:Int)<((S.packed j.2.2.2 1).length:Int);omega),e1];have:(((b+(j.1.1.length / 2-1):Nat):Int)-(b:Int)).toNat=j.1.1.length / 2-1:=by omega
  simp only[this];rfl
 rw[qem (show ¬Int.ofNat (j.1.1.length / 2-1)<Int.ofNat (S.packed j.2.2.2 (Int.ofNat 1)).length from fun h=>c0 (Int.ofNat_lt.1 h)),cond_false,hsome];unfold turA;have hR:(S.puts (b:Int) (List.replicate (j.1.1.length / 2-1) S.blank)).length<=1000:=by rw[qly,List.length_replicate];omega
 have w2:IntKind.i64.wrap (Int.add (b:Int) (Int.ofNat 1))=((b+1:Nat):Int):=qb7 (n:=b+1) (by omega);have hsz:=qj4 j.2.2.2 1 _ (qjg (i:=0) (show 0<(S.packed j.2.2.2 1).length by omega));have l1:lchk (Int.ofNat 1) (Int.ofNat (S.packed j.2.2.2 1).length) (Int.ofNat (S.packed j.2.2.2 1).length) (Int.ofNat (S.packed j.2.2.2 1).length)=true:=qb4.2 ⟨by decide,by show (1:Int)<=((S.packed j.2.2.2 1).length:Int);omega,Int.le_refl _,Int.le_refl _⟩;have hdl:Nat.ble ((S.packed j.2.2.2 1).drop 1).length 1000000=true:=Nat.ble_eq_true_of_le (by rw[List.length_drop];omega);have hpl0:(S.puts (b:Int) (S.packed j.2.2.2 0)).length<=20000:=by rw[qly];omega
 have hj0:jget (S.packed j.2.2.2 (Int.ofNat 1)) (Int.ofNat 0)=some ((S.packed j.2.2.2 1).getD 0 S.none_):=qpz hpos;have hg0:(S.packed j.2.2.2 (Int.ofNat 1))[0]?=some ((S.packed j.2.2.2 1).getD 0 S.none_):=get0 hpos;have htop:ByteArray.append (qag [IntKind.u8.wrap (1-j.2.1)]) (qag (List.replicate 63 0))=topS (1-j.2.1):=by
  rw[qfi,qm3,show (1-j.2.1) % 256=1-j.2.1 by omega];rfl
 rw[show S.inI (Int.ofNat (j.1.1.length / 2-1)) (Int.ofNat 0) (Int.ofNat 1000)=true from qa8.2 ⟨Int.natCast_nonneg _,by show ((j.1.1.length / 2-1:Nat):Int)<=1000;omega⟩,cond_true];simp only[show Int.toNat (Int.ofNat (j.1.1.length / 2-1))=j.1.1.length / 2-1 from rfl,in0 (show b<=1000000 by omega),w2,in0 (show b+1<=1000000 by omega),Bool.true_and,Bool.and_true,q7w,List.nil_append,hj0,hg0,hsz,decide_true,cond_true,unm2,q8y];rw[Nat.ble_eq_true_of_le (show (List.replicate (j.1.1.length / 2-1) S.blank).length<=1000000 by rw[List.length_replicate];omega),cond_true];simp only;generalize S.puts (b:Int) (List.replicate (j.1.1.length / 2-1) S.blank)=X at hR;rw[qch (show X.length<=4000000 by omega),cond_true];simp only;rw[qch (show (X++[S.sync]).length<=1000000 by rw[List.length_append];show _+1<=_;omega),cond_true];simp only
 rw[show lchk (Int.ofNat 1) (Int.ofNat (S.packed j.2.2.2 (Int.ofNat 1)).length) (Int.ofNat (S.packed j.2.2.2 (Int.ofNat 1)).length) (Int.ofNat (S.packed j.2.2.2 (Int.ofNat 1)).length)=true from l1,cond_true,
  show lsub (S.packed j.2.2.2 (Int.ofNat 1)) (Int.ofNat 1) (Int.ofNat (S.packed j.2.2.2 (Int.ofNat 1)).length)=(S.packed j.2.2.2 1).drop 1 from q5x _,hdl,Bool.true_and,qch (show (X++[S.sync]++S.puts (b:Int) [(S.packed j.2.2.2 0).getD 0 S.none_]).length<=1000000 by rw[List.length_append,List.length_append];show _+1+1<=_;omega),cond_true]
 simp only;rw[List.append_assoc (X++[S.sync]),q7l j.2.2.2 b];generalize S.puts (b:Int) (S.packed j.2.2.2 0)=Y at hpl0;rw[qch (show (X++[S.sync]++Y).length<=4000000 by rw[List.length_append,List.length_append];show _+1+_<=_;omega),cond_true];simp only;rw[qch (show (X++[S.sync]++Y++[S.sync]).length<=1000000 by rw[List.length_append,List.length_append,List.length_append];show _+1+_+1<=_;omega),cond_true];simp only;rw[qch (show (X++[S.sync]++Y++[S.sync]++S.puts (b:Int) [(S.packed j.2.2.2 1).getD 0 S.none_]).length<=4000000 by rw[List.length_append,List.length_append,List.length_append,List.length_append];show _+1+_+1+1<=_;omega),cond_true];simp only;rw[show S.inI (Int.ofNat 0) (Int.ofNat 0) (Int.ofNat 1000000)=true from rfl,Bool.true_and,qch (show (X++[S.sync]++Y++[S.sync]++S.puts (b:Int) [(S.packed j.2.2.2 1).getD 0 S.none_]++[S.sync]).length<=1000000 by rw[List.length_append,List.length_append,List.length_append,List.length_append,List.length_append];show _+1+_+1+1+1<=_;omega),cond_true];simp only[zde,zeq,htop];rw[qch (show (X++[S.sync]++Y++[S.sync]++S.puts (b:Int) [(S.packed j.2.2.2 1).getD 0 S.none_]++[S.sync]++S.puts (Int.ofNat 0) [topS (1-j.2.1)]).length<=4000000 by rw[List.length_append,List.length_append,List.length_append,List.length_append,List.length_append,List.length_append];show _+1+_+1+1+1+1<=_;omega),cond_true];simp only[qs5,List.append_assoc];rfl
theorem zfb{j:qad}{a u:Nat}(r:RJ j a u){l:List qaa}(hok:S.okC l=true):S.comG j l=true:=by
 have:=r.jn.le.1;have:=r.jn.dk.le;unfold S.comG;rw[Bool.and_eq_true,Bool.and_eq_true,qa8,r.used];exact⟨r.small,qk7 hok,by omega⟩
theorem zxa{j:qad}{a u:Nat}(r:RJ j a u):S.turG j=true:=by
 have h:=r.jn.hh;unfold S.turG;rw[Bool.and_eq_true,Bool.and_eq_true,Bool.and_eq_true,qa8];exact⟨r.small,qk7 r.jn.le.2.1.1,by omega,Nat.ble_eq_true_of_le r.jn.dk.ge⟩
theorem q33{j:qad}{A:List DAct}{x:qad}{y:qab}(h:S.behind j A=(x,0))(k:S.doD j.1 A=(y,0)):S.behG j A=true:=by
 unfold S.behG;rw[h,k];rfl
theorem q91{j:qad}{l:List qaa}:S.plan j l=if S.asked j l=0 then (match S.commit j l with
  | some a=>(a,0)
  | none=>([],14)) else ([],S.asked j l):=by
 unfold S.plan S.asked;by_cases h1:S.right j=true
 ·rw[if_pos h1,if_pos h1];by_cases h2:(S.size l).2=0
  ·rw[if_pos h2,if_pos h2];cases S.commit j l<;>rfl
  ·rw[if_neg h2,if_neg h2]
 ·rw[if_neg h1,if_neg h1,if_neg (by decide)]
theorem q8h{j:qad}{l:List qaa}(h:S.asked j l=0):S.right j=true/\(S.size l).2=0:=by
 unfold S.asked at h;by_cases h1:S.right j=true
 ·rw[if_pos h1] at h;exact⟨h1,h⟩
 ·rw[if_neg h1] at h;cases h
theorem zf2(lf:Nat)(j:qad)(l:List qaa):Fz43 lf j l=some ((S.plan j l).1,(S.plan j l).2,()):=by
 simp only[Fz43,qxw];show cond (!ieqI (S.asked j l) _) (some (_,S.asked j l,())) (match (cond (S.comG j l) (some ((S.actsB (S.commit j l)).1,((S.actsB (S.commit j l)).2,()))) none) with|none=>none|some v=>_)=_;rw[q91];by_cases h0:S.asked j l=0
 ·obtain⟨h1,h2⟩:=q8h h0;obtain⟨a,u,r⟩:=qh9 h1;rw[qbd (show S.asked j l=Int.ofNat 0 from h0),Bool.not_true,cond_false,zfb r (zab h2).1,cond_true,if_pos h0];simp only;cases S.commit j l<;>rfl
 ·rw[qbc (show ¬S.asked j l=Int.ofNat 0 from h0),Bool.not_false,cond_true,if_neg h0]
theorem zte{j:qad}{l:List qaa}(h:(S.plan j l).2=0):S.right j=true/\(S.size l).2=0/\∃A,S.commit j l=some A/\S.plan j l=(A,0):=by
 rw[q91] at h ⊢;by_cases h0:S.asked j l=0
 ·obtain⟨h1,h2⟩:=q8h h0;rw[if_pos h0] at h ⊢;cases hc:S.commit j l with
  | none=>rw[hc] at h;cases h
  | some A=>exact⟨h1,h2,A,rfl,rfl⟩
 ·rw[if_neg h0] at h;exact absurd h h0
theorem zxb(lf:Nat)(j:qad)(l:List qaa):Fz44 lf j l=some ((S.commitJ j l).1,(S.commitJ j l).2,()):=by
 simp only[Fz44,q05];show cond (!ieqI (S.plan j l).2 _) (some (S.noJ,(S.plan j l).2,())) (match (cond (S.behG j (S.plan j l).1) (some ((S.behind j (S.plan j l).1).1,())) none) with|none=>none|some v=>_)=_;unfold S.commitJ;by_cases h0:(S.plan j l).2=0
 ·obtain⟨h1,h2,A,h3,h4⟩:=zte h0;obtain⟨a,u,r⟩:=qh9 h1;rcases zg1 r (zab h2).1 with ⟨c1,_⟩|⟨A',c1,_,_,c4,c5,_⟩
  ·rw[h3] at c1;cases c1
  ·have:A'=A:=by rw[h3] at c1;cases c1;rfl
   subst this;rw[if_pos h0,h4,show ieqI (A',(0:Int)).2 (Int.ofNat 0)=true from rfl,Bool.not_true,cond_false,q33 c5 c4,cond_true,c5];rfl
 ·rw[qbc (show ¬(S.plan j l).2=Int.ofNat 0 from h0),Bool.not_false,cond_true,if_neg h0]
theorem zld{j:qad}:S.planTurn j=if S.errR j=0 then (match S.turn j with
  | some a=>(a,0)
  | none=>([],14)) else ([],S.errR j):=by
 unfold S.planTurn S.errR;by_cases h1:S.right j=true
 ·rw[if_pos h1,if_pos h1,if_pos rfl];cases S.turn j<;>rfl
 ·rw[if_neg h1,if_neg h1,if_neg (by decide)]
theorem zug{j:qad}(h:S.errR j=0):S.right j=true:=Classical.byContradiction fun e=>by rw[qer e] at h;cases h
theorem zgm(lf:Nat)(j:qad):Fz45 lf j=some ((S.planTurn j).1,(S.planTurn j).2,()):=by
 simp only[Fz45,q2h];show cond (!ieqI (S.errR j) _) (some (_,S.errR j,())) (match (cond (S.turG j) (some ((S.actsB (S.turn j)).1,((S.actsB (S.turn j)).2,()))) none) with|none=>none|some v=>_)=_;rw[zld];by_cases h0:S.errR j=0
 ·obtain⟨a,u,r⟩:=qh9 (zug h0);rw[qbd (show S.errR j=Int.ofNat 0 from h0),Bool.not_true,cond_false,zxa r,cond_true,if_pos h0];simp only;cases S.turn j<;>rfl
 ·rw[qbc (show ¬S.errR j=Int.ofNat 0 from h0),Bool.not_false,cond_true,if_neg h0]
theorem zrm(lf:Nat)(j:qad):Fz46 lf j=some ((S.turnJ j).1,(S.turnJ j).2,()):=by
 simp only[Fz46,qv3];show cond (!ieqI (S.planTurn j).2 _) (some (S.noJ,(S.planTurn j).2,())) (match (cond (S.behG j (S.planTurn j).1) (some ((S.behind j (S.planTurn j).1).1,())) none) with|none=>none|some v=>_)=_;by_cases h0:(S.planTurn j).2=0
 ·have h1:S.right j=true:=by
   unfold S.planTurn at h0;by_cases h1:S.right j=true
   ·exact h1
   ·rw[if_neg h1] at h0;cases h0
  obtain⟨a,u,r⟩:=qh9 h1;rcases zr3 r h1 with ⟨_,_,t3,_⟩|⟨b,t1,t2,t3,t4,t5,_⟩
  ·rw[t3] at h0;cases h0
  ·have hb:S.behind j (turA j.1.1 (1-j.2.1) b j.2.2.2)=S.turnJ j:=by
    unfold S.turnJ;rw[t3];rfl
   rw[t3,show ieqI (turA j.1.1 (1-j.2.1) b j.2.2.2,(0:Int)).2 (Int.ofNat 0)=true from rfl,Bool.not_true,cond_false,q33 (hb.trans t5) t4,cond_true,hb,t5];rfl
 ·rw[qbc (show ¬(S.planTurn j).2=Int.ofNat 0 from h0),Bool.not_false,cond_true];unfold S.turnJ;rw[if_neg h0]
theorem qmu:Con Tryz.prog zq2 qpu:=zpr ⟨zz3,trivial⟩ fun x y hx h=>⟨0,h⟩
theorem zqb(a b:List qaa)(ha:a.length<LF):Fz35 LF a b=some (S.sameC a b,()):=by
 simp only[Fz35,qtu];unfold S.sameC;by_cases e:a.length=b.length
 ·rw[qbd (show Int.ofNat a.length=Int.ofNat b.length from congrArg Int.ofNat e),Bool.not_true,cond_false];refine(qu3 a b e ha (some (true,())) (some (false,())) (fun K=>?_) (fun K i v w h1 h2 h3 h4=>?_)).trans ?_
  ·simp only[qo6,qbv,cond_false]
  ·simp only[qo6,h1,h2,h3,h4,cond_true,zzn];cases decide (v=w)<;>rfl
  ·cases decide (a=b)<;>rfl
 ·rw[qbc (show ¬Int.ofNat a.length=Int.ofNat b.length from fun h=>e (Int.ofNat.inj h)),Bool.not_false,cond_true,decide_eq_false (fun h=>e (congrArg List.length h))]
theorem zns:Con Tryz.prog zu8 q76:=zyz trivial fun x y hx h=>⟨LF,(zqb x.1 x.2.1 (qbu (c:=qae) hx.1)).trans h⟩
theorem zw4:Con Tryz.prog idz9 spz9:=mkz9 ⟨qgt,qmu,qps,trivial⟩ qui qs2 fun x y hx h=>⟨0,(zys 0 x.1).trans h⟩
theorem zwh:Con Tryz.prog zj9 q4v:=zit ⟨qps,zaw,qoc,q3f,qmu,trivial⟩ qui qs2 fun x y hx h=>⟨0,by
 obtain⟨h1,h2⟩:=qba (show cond (S.comG x.1 x.2.1) (some ((S.actsB (S.commit x.1 x.2.1)).1,(S.actsB (S.commit x.1 x.2.1)).2,())) none=some y from h);exact(zk4 0 x.1 x.2.1 h1).trans (congrArg some h2)⟩
theorem qhf{P:Program}{f:Nat}{p:List TC}{r:List (Bool × TC)}{g g':ElA p->Option (ElR r)}(h:Con P f ⟨p,r,g⟩)(hg:∀x y,g' x=some y->g x=some y):Con P f ⟨p,r,g'⟩ :=
 ⟨h.callable,fun M w x us y hy hM hgl hv=>h.calls M w x us y (hg x y hy) hM hgl hv⟩
section
variable (hR : Con Tryz.prog 76 qip) (hO : Con Tryz.prog 61 qgc)
include hR in
theorem zax:Con Tryz.prog zg9 q1m:=zo1 ⟨qin,qmu,hR,trivial⟩ fun x y hx h=>⟨0,(zkw 0 x.1).trans h⟩
include hO in
theorem qyn:Con Tryz.prog zjj qqd:=zve ⟨qgt,hO,zns,trivial⟩ fun x y hx h=>⟨0,(zo9 0 x.1).trans h⟩
include hO in
theorem zaq:Con Tryz.prog zfk q8u:=zin ⟨qgt,hO,trivial⟩ fun x y hx h=>⟨0,(zvg 0 x.1).trans h⟩
include hO in
include hO in
theorem zxp:Con Tryz.prog zpz zye:=zk9 ⟨qyn hO,zaw,trivial⟩ fun x y hx h=>⟨0,(ziq 0 x.1).trans h⟩
include hO in
theorem zwd:Con Tryz.prog zno zb8:=zou ⟨qyn hO,q70,trivial⟩ fun x y hx h=>⟨0,(zir 0 x.1 x.2.1).trans h⟩
include hR in
theorem zz0:Con Tryz.prog zpj q86:=zul ⟨qps,qoc,q3f,qmu,hR,trivial⟩ qs2 fun x y hx h=>⟨0,by
 obtain⟨h1,h2⟩:=qba (show cond (S.turG x.1) (some ((S.actsB (S.turn x.1)).1,(S.actsB (S.turn x.1)).2,())) none=some y from h);exact(ze4 0 x.1 h1).trans (congrArg some h2)⟩
include hO in
theorem q8q:Con Tryz.prog zga qtf:=zid ⟨qri,hO,trivial⟩ fun x y hx h=>⟨0,by
 obtain⟨h1,h2⟩:=qba (show cond (S.behG x.1 x.2.1) (some ((S.behind x.1 x.2.1).1,())) none=some y from h);exact(zut 0 x.1 x.2.1 h1).trans (congrArg some h2)⟩
include hO in
theorem zdf:Con Tryz.prog zr2 zdg:=zy9 ⟨zwd hO,zwh,trivial⟩ fun x y hx h=>⟨0,(zf2 0 x.1 x.2.1).trans h⟩
include hO in
theorem zdi:Con Tryz.prog zxe zja:=zvf ⟨zdf hO,q8q hO,trivial⟩ fun x y hx h=>⟨0,(zxb 0 x.1 x.2.1).trans h⟩
include hR hO in
theorem zl5:Con Tryz.prog zgk q71:=zhw ⟨qyn hO,zz0 hR,trivial⟩ fun x y hx h=>⟨0,(zgm 0 x.1).trans h⟩
include hR hO in
theorem zmw:Con Tryz.prog zm6 zqi:=zjc ⟨zl5 hR hO,q8q hO,trivial⟩ fun x y hx h=>⟨0,(zrm 0 x.1).trans h⟩
include hR hO in
end
theorem zup(lf:Nat):Fz1 lf=some (true,()):=by kernel_rfl
theorem zac{a b:List qaa}(h:S.sameC a b=true):a=b:=of_decide_eq_true h
theorem qph{a b:qab}(h:S.sameD a b=true):a=b:=of_decide_eq_true h
theorem qok{a b:qad}(h:S.sameJ a b=true):a=b:=of_decide_eq_true h
theorem zyg{a b:List DAct}(h:S.sameA a b=true):a=b:=of_decide_eq_true h
theorem ziw:(S.plan S.madeJ S.hC).2=0:=by kernel_rfl
theorem hDo:(S.doD S.madeJ.1 (S.hL.take 4)).2=0:=by kernel_rfl
theorem hCr0:(S.crash S.hD [0]).2=0:=by kernel_rfl
theorem hCr1:(S.crash S.hD [1]).2=0:=by kernel_rfl
theorem hOp0:(S.open_ S.hLost).2=0:=by kernel_rfl
theorem hOp1:(S.open_ S.hKept).2=0:=by kernel_rfl
theorem hOpE:S.sameD S.hKept S.hLost=false:=by kernel_rfl
theorem hOpF:S.sameD S.hLost S.hLost=true:=by kernel_rfl
theorem hCom:(S.commitJ S.hY S.hG).2=0:=by kernel_rfl
theorem zh8:S.room S.hZ=(0,0):=by kernel_rfl
theorem zni:(S.turnJ S.hZ).2=0:=by kernel_rfl
theorem zos{d:qab}{k:List Int}(h:S.gCrash d k=true):some ((S.crash d k).1,(S.crash d k).2,())=some (S.hCr k,(0:Int),()):=by
 unfold S.gCrash at h;rw[Bool.and_eq_true,Bool.or_eq_true] at h;have e1:=qph h.1;subst e1;rcases h.2 with e2|e2
 ·have e2:=of_decide_eq_true e2;subst e2;rw[hCr0];rfl
 ·have e2:=of_decide_eq_true e2;subst e2;rw[hCr1];rfl
section
variable (hR : Con Tryz.prog 76 qip) (hO : Con Tryz.prog 61 qgc)
include hO in
theorem ztk:Con Tryz.prog 24 q5n:=qhf (zdf hO) fun x y h=>by
 obtain⟨h1,rfl⟩:=qba (show cond (S.gPlan x.1 x.2.1) (some (S.hL,(0:Int),())) none=some y from h);obtain⟨a,b,_⟩:=x;unfold S.gPlan at h1;rw[Bool.and_eq_true] at h1;have e1:=qok h1.1;have e2:=zac h1.2;show some ((S.plan a b).1,(S.plan a b).2,())=_;rw[show a=S.madeJ from e1,show b=S.hC from e2,ziw];rfl
theorem zj7:Con Tryz.prog 32 zay:=qhf qri fun x y h=>by
 obtain⟨h1,rfl⟩:=qba (show cond (S.gDo x.1 x.2.1) (some (S.hD,(0:Int),())) none=some y from h);obtain⟨a,b,_⟩:=x;unfold S.gDo at h1;rw[Bool.and_eq_true] at h1;have e1:=qph h1.1;have e2:=zyg h1.2;show some ((S.doD a b).1,(S.doD a b).2,())=_;rw[show a=S.madeJ.1 from e1,show b=S.hL.take 4 from e2,hDo];rfl
theorem zue:Con Tryz.prog 34 q4t:=qhf q42 fun x y h=>by
 obtain⟨h1,rfl⟩:=qba (show cond (S.gCrash x.1 x.2.1) (some (S.hCr x.2.1,(0:Int),())) none=some y from h);exact zos h1
include hO in
theorem z0e:Con Tryz.prog 13 q8x:=qhf (zaq hO) fun x y h=>by
 obtain⟨h1,rfl⟩:=qba (show cond (S.gOpen x.1) (some (S.hOp x.1,(0:Int),())) none=some y from h);obtain⟨a,_⟩:=x;unfold S.gOpen at h1;rw[Bool.or_eq_true] at h1;show some ((S.open_ a).1,(S.open_ a).2,())=some (cond (S.sameD a S.hLost) S.hX S.hY,0,());rcases h1 with e|e
 ·rw[show a=S.hLost from qph e,hOp0,hOpF];rfl
 ·rw[show a=S.hKept from qph e,hOp1,hOpE];rfl
include hO in
theorem zx9:Con Tryz.prog 26 q9j:=qhf (zdi hO) fun x y h=>by
 obtain⟨h1,rfl⟩:=qba (show cond (S.gCom x.1 x.2.1) (some (S.hZ,(0:Int),())) none=some y from h);obtain⟨a,b,_⟩:=x;unfold S.gCom at h1;rw[Bool.and_eq_true] at h1;have e1:=qok h1.1;have e2:=zac h1.2;show some ((S.commitJ a b).1,(S.commitJ a b).2,())=_;rw[show a=S.hY from e1,show b=S.hG from e2,hCom];rfl
include hO in
theorem zd7:Con Tryz.prog 20 zcx:=qhf (zxp hO) fun x y h=>by
 obtain⟨h1,rfl⟩:=qba (show cond (S.gZ x.1) (some ((0:Int),(0:Int),())) none=some y from h);obtain⟨a,_⟩:=x;show some ((S.room a).1,(S.room a).2,())=_;rw[show a=S.hZ from qok h1,zh8];rfl
include hR hO in
theorem zy8:Con Tryz.prog 41 q9n:=qhf (zmw hR hO) fun x y h=>by
 obtain⟨h1,rfl⟩:=qba (show cond (S.gZ x.1) (some (S.hT,(0:Int),())) none=some y from h);obtain⟨a,_⟩:=x;show some ((S.turnJ a).1,(S.turnJ a).2,())=_;rw[show a=S.hZ from qok h1,zni];rfl
include hR hO in
theorem z0k:Con Tryz.prog idz3 spz3:=mkz3 ⟨zax hR,zw4,qri,zaq hO,trivial⟩ fun x y hx h=>⟨0,by
 obtain⟨h1,rfl⟩:=qba (show cond (S.inI x.1 8 8) (some (S.madeJ,true,())) none=some y from h);obtain⟨h2,h3⟩:=qa8.1 h1;rw[show x.1=(8:Int) from Int.le_antisymm h3 h2];exact zib 0⟩
include hR hO in
theorem zqu:Con Tryz.prog idz1 spz1:=mkz1 ⟨z0k hR hO,q70,ztk hO,zj7,zue,z0e hO,zx9 hO,zd7 hO,zy8 hR hO,trivial⟩ fun x y hx h=>⟨0,(zup 0).trans h⟩
end
def spz4:Sm:=⟨[cDisk,.int .i64,.list cAct,.list (.int .i64)],[(false,.bool)],fun _=>some (true,())⟩
section
variable (hR : Con Tryz.prog 76 qip) (hO : Con Tryz.prog 61 qgc)
include hR hO in
theorem zgh:Con Tryz.prog idz4 spz4:=mkz4 ⟨zqu hR hO,zsx,zax hR,zyj,zpf,zq9,qri,zqp,q42,zr6,ztd,qgt,qom,trivial⟩ fun x y hx h=>⟨0,(zzo 0 x.1 x.2.1 x.2.2.1 x.2.2.2.1).trans h⟩
include hR hO in
include hR hO in
include hR hO in
end
end Go.Proofs.YtnhmanoiolfapaaGreat
end

section
namespace Go.Sx
open Go Go.RowKit
section
variable {P : Program} {n : Nat} {σ : Nat -> Value} {w : World} {Q : Exit -> Act -> World -> Prop} {ops : Array Oper} {rest : List Oper} {d : Nat} {ty : TypeId} {pos : String} {aft : Array Edge} {g : Option (Nat × Bool)}
theorem q4s{x y:Operand}{u v:Value}{T T':TypeId}{m:Nat}{w':World}(hg:qar ops σ n g=true)(hx:okO n x=true)(ex:ev σ x=u)(hy:okO n y=true)(ey:ev σ y=v)
  (hr:(Builtin.copy_ #[T,T'] ty #[u,v]).run P w=.ok (goInt m) w') (k:wpList P ops Q rest (Fr n (upd σ d (.int .i64 m))) w'):wpList P ops Q (⟨some d,.call ⟨.builtin .copy,#[x,y],#[T,T']⟩,ty,pos,aft,g⟩::rest) (Fr n σ) w :=
 qa6 hg (by
  have h1:(#[x,y].map (Fr n σ).eval)=#[u,v]:=by simp[qaw hx,qaw hy,ex,ey]
  simp only[execOp,resolve,h1,invoke,builtin,Sem.run_bind,Sem.run_pure,Result.andThen_ok,hr,goInt]) k
theorem zwr{x y:Operand}{u v r:Value}{T:TypeId}{w':World}(hg:qar ops σ n g=true)(hx:okO n x=true)(ex:ev σ x=u)(hy:okO n y=true)(ey:ev σ y=v)
  (hr:(Instr.makeSlice T u v).run P w=.ok r w') (k:wpList P ops Q rest (Fr n (upd σ d r)) w'):wpList P ops Q (⟨some d,.makeSlice T x y,ty,pos,aft,g⟩::rest) (Fr n σ) w :=
 qa6 hg (by
  simp only[execOp,qaw hx,qaw hy,ex,ey,Sem.run_bind,Sem.run_pure,Result.andThen_ok,hr]) k
end
end Go.Sx
end

section
namespace Go.Sx
open Go Go.RowKit
section
variable {P : Program} {ops : Array Oper} {md : Region.Mode} {Q : Exit -> Act -> World -> Prop}
def KOne(K:Act->World->Prop):Exit->Act->World->Prop:=fun e a w=>e=.normal/\K a w
theorem zo0{o:Oper}{a:Act}{K K':Act->World->Prop}{r:Result Next}(hK:∀a w,K' a w->K a w)(h:o.upon P a K' (KOne K) r):o.upon P a K Q r:=by
 cases r with
 | ok v w' =>
  cases v with
  | value v=>exact hK _ _ h
  | skip=>exact hK _ _ h
  | defer d=>exact hK _ _ h
  | enter f args =>
   refine Calls.mono h fun e w'' he=>?_;cases e with
   | returned v=>exact hK _ _ he
   | panicked c=>cases he.1
   | outgrown=>obtain⟨_,_,h1,_⟩:=he;cases h1
  | row row args=>exact Rows.mono h fun v w'' he=>hK _ _ he
  | _=>exact h
 | halt x w'=>cases x<;>first|exact h|exact absurd h.1 (by simp)
theorem zhm{i:Nat}{o:Oper}{a:Act}{w:World}{K:Act->World->Prop}(hi:ops[i]?=some o)(h:wpList P ops (KOne K) [o] a w):wpOp P ops Q i K a w:=by
 unfold wpOp;simp only[hi];unfold wpList at h;split at h
 ·rename_i hw;rw[if_pos hw];rcases h with h|⟨_,_,_,h,_⟩
  ·exact .inl (zo0 (fun a w h=>h.2) h)
  ·cases h
 ·rename_i hw;rw[if_neg hw];exact h.2
end
end Go.Sx
end

section
set_option maxRecDepth 100000
namespace Go.Sx
open Go Go.RowKit
section
variable {P : Program} {n : Nat} {σ : Nat -> Value} {w : World} {ops : Array Oper} {rest : List Oper} {d : Nat} {ty : TypeId} {pos : String} {aft : Array Edge} {g : Option (Nat × Bool)}
theorem zbp{T E:TypeId}{size bytes s2 b2:Nat}{zero z2:Value}{E':TypeDesc}{a:Addr}{len cap k:Nat}{kk:IntKind}(hT:Ty P T (.slice E) size bytes zero)(hE:Ty P E E' s2 b2 z2)(hk:k<cap)(hl:k<=len)(hc:len<=cap) :
  (Instr.sliceAt T (.slice (some a) len cap) (some (.int kk (k:Nat))) none none).run P w=.ok (.slice (some (a.add (k*s2))) (len-k) (cap-k)) w:=by
 have h1:(0:Int)<=(k:Nat)/\((k:Nat):Int)<=len:=⟨by omega,by omega⟩;have h2:¬cap-k=0:=by omega
 have h3:¬cap=k:=by omega
 simp only[Instr.sliceAt,Sem.run_bind,run_underlying hT.und,Result.andThen_ok,Instr.slice,Instr.sliceBounds,Instr.sliceBound,asIntOf,Sem.run_pure,h1,and_self,if_true,run_sizeOf hE];simp[h3]
theorem zjt{Q:Exit->Act->World->Prop}{T E:TypeId}{size bytes s2 b2:Nat}{zero z2:Value}{E':TypeDesc}{x y:Operand}{a:Addr}{len cap k:Nat}{kk:IntKind}(hT:Ty P T (.slice E) size bytes zero)(hE:Ty P E E' s2 b2 z2)
  (hg:qar ops σ n g=true) (hx:(okO n x&&okO n y)=true) (ex:ev σ x=.slice (some a) len cap) (ey:ev σ y=.int kk (k:Nat)) (hk:k<cap) (hl:k<=len) (hc:len<=cap)
  (kt:wpList P ops Q rest (Fr n (upd σ d (.slice (some (a.add (k*s2))) (len-k) (cap-k)))) w):wpList P ops Q (⟨some d,.slice T x (some y) none none,ty,pos,aft,g⟩::rest) (Fr n σ) w:=by
 simp only[Bool.and_eq_true] at hx;exact qa6 hg (by simp only[execOp,qaw hx.1,ex,Option.map_none,Option.map_some,qaw hx.2,ey,zbp hT hE hk hl hc,Sem.run_bind,Sem.run_pure,Result.andThen_ok]) kt
theorem zg0{Q:Exit->Act->World->Prop}{T E:TypeId}{size bytes s2 b2:Nat}{zero z2:Value}{E':TypeDesc}{x y:Operand}{a:Option Addr}{len cap k:Nat}{kk:IntKind}(hT:Ty P T (.slice E) size bytes zero)(hE:Ty P E E' s2 b2 z2)
  (hg:qar ops σ n g=true) (hx:(okO n x&&okO n y)=true) (ex:ev σ x=.slice a len cap) (ey:ev σ y=.int kk (k:Nat)) (hk:k<=cap)
  (kt:wpList P ops Q rest (Fr n (upd σ d (.slice a k cap))) w):wpList P ops Q (⟨some d,.slice T x none (some y) none,ty,pos,aft,g⟩::rest) (Fr n σ) w:=by
 simp only[Bool.and_eq_true] at hx;exact qa6 hg (by simp only[execOp,qaw hx.1,ex,Option.map_none,Option.map_some,qaw hx.2,ey,zjd hT hE hk,Sem.run_bind,Sem.run_pure,Result.andThen_ok]) kt
theorem qhb{md:Region.Mode}{Q:Exit->Act->World->Prop}{op:Op}{v:Value}{i fuel:Nat}{listed:Array Bool}(hi:ops[i]?=some ⟨some d,op,ty,pos,aft,g⟩)(hp:qio op=true)(hd:Nat.blt d n=true)(hg:qar ops σ n g=true)
  (hb:(Region.noSelect ops&&(Region.free md ops listed i&&(Region.ready md ops listed).contains i))=true) (hQ:∀c a w,¬Q (.panic c) a w)
  (h:∀w1,wpList P ops (QOne n σ d v w1) [⟨some d,op,ty,pos,aft,g⟩] (Fr n σ) w1)
  (k:wpAny P md ops Q fuel (listed.setIfInBounds i true) (Fr n (upd σ d v)) w):wpAny P md ops Q (fuel+1) listed (Fr n σ) w:=by
 simp only[Bool.and_eq_true] at hb;have hd':d<n:=by simpa using hd
 refine wpAny_take (v:=v) hi hb.1 hb.2.1 hb.2.2 (fun c a w h=>absurd h (hQ c _ w)) (.inl ⟨qfj hg,fun w1=>?_⟩) (by show wpAny P md ops Q fuel _ ((Fr n σ).put (some d) v) w;rw[qd4];exact k);have h1:=h w1;unfold wpList at h1;rw[qfj (o:=⟨some d,op,ty,pos,aft,g⟩) hg,if_pos rfl] at h1;rcases h1 with h1|⟨_,a,w',h1,_⟩
 ·unfold Oper.wp at h1;cases hr:(execOp (Fr n σ).eval ⟨some d,op,ty,pos,aft,g⟩).run P w1 with
  | ok x w' =>
   rw[hr] at h1;cases x with
   | value u =>
    rw[Oper.upon_value,qd4] at h1;obtain⟨_,h2,h3⟩:=h1;rw[h3,qym hd' h2]
   | skip =>
    obtain⟨u,hu⟩:=qvp hp hr;cases hu
   | _=>obtain⟨u,hu⟩:=qvp hp hr;cases hu
  | halt x w'=>rw[hr] at h1;cases x<;>first|exact h1.elim|(obtain⟨h2,_⟩:=h1;cases h2)
 ·cases h1
theorem qwn{md:Region.Mode}{Q:Exit->Act->World->Prop}{o:Oper}{i fuel:Nat}{listed:Array Bool}{a:Act}(hi:ops[i]?=some o)(hr:Region.ready md ops listed=[i])
  (h:wpList P ops (KOne fun a' w'=>wpAny P md ops Q fuel (listed.setIfInBounds i true) a' w') [o] a w):wpAny P md ops Q (fuel+1) listed a w :=
 wpAny_all hr (by simp) fun j hj=>by
  have:j=i:=by simpa using hj
  subst this;exact zhm hi h
theorem qvc{V Z:Value}:∀(k n m:Nat),k<=m->putL (List.replicate n V++List.replicate m Z) n (List.replicate k V)=List.replicate (n+k) V++List.replicate (m-k) Z
 | 0,n,m,h=>by simp[putL]
 | k+1,n,m,h=>by
  obtain⟨m',rfl⟩:∃m',m=m'+1:=⟨m-1,by omega⟩;have e:(List.replicate n V++List.replicate (m'+1) Z).set n V=List.replicate (n+1) V++List.replicate m' Z:=by
   rw[List.set_append_right (h:=by simp)];rw[List.replicate_succ' (n:=n),List.append_assoc];simp only[List.length_replicate,Nat.sub_self,List.replicate_succ (n:=m'),List.set_cons_zero];rfl
  show putL ((List.replicate n V++List.replicate (m'+1) Z).set n V) (n+1) (List.replicate k V)=_;rw[e,qvc k (n+1) m' (by omega)];rw[show n+1+k=n+(k+1) by omega,show m'+1-(k+1)=m'-k by omega]
theorem q8c{dT sT ty elem:TypeId}{β o dLen dCap sLen sCap:Nat}{a:Addr}{cs xs:List Value}(hu:P.underlying dT=some (.slice elem))(hs:(P.info? elem).map (·.size)=some 1)(hb:Box w β cs)(hn:xs.length=Nat.min sLen dLen)
  (hsrc:∀j v,xs[j]?=some v->w.cell? (a.add j)=some v) (hl:o+xs.length<=cs.length) (h1:xs.all one=true) :
  ∃w',(Builtin.copy_ #[dT,sT] ty #[.slice (some ⟨β,o,none⟩) dLen dCap,.slice (some a) sLen sCap]).run P w=.ok (goInt xs.length) w'/\Box w' β (putL cs o xs)/\Upd [β] w w'/\w'.heap.size=w.heap.size:=by
 have hld:=run_loadCells_list (P:=P) w a xs hsrc;obtain⟨w',q1,q2,q3,q4⟩:=run_store (P:=P) xs o 0 hb (by simpa using hl) h1;refine⟨w',?_,by simpa using q2,q3,q4⟩;cases hq:P.info? elem with
 | none=>simp [hq] at hs
 | some i =>
  have hi:i.size=1:=by simpa [hq] using hs
  simp[Builtin.copy_,run_underlying hu,Builtin.lenOf,Builtin.firstCells,sizeOf,typeInfo,hq,hi,<- hn,hld,q1]
end
end Go.Sx
namespace Go.Proofs.YtnhmanoiolfapaaGreat
open Go Go.Sx Go.RowKit Go.Jx
theorem z0h:qai Tryz.prog 102:=⟨_,Tryz.func102,by kernel_rfl,by kernel_rfl⟩
theorem zz8(x y:Nat)(hx:x<18446744073709551616)(hy:y<18446744073709551616)(w:World) :
  Calls Tryz.prog 102 #[.int .u64 x,.int .u64 y] w (Ret fun v w'=>v=.tuple #[.int .u64 ((x*y / 18446744073709551616:Nat):Int),.int .u64 ((x*y % 18446744073709551616:Nat):Int)]/\w'=w) :=
 (Any.bits_Mul (P:=Tryz.prog) (ρ:=qvr) { q2y with } x y hx hy w).mono fun e w' h=>by
  obtain⟨rfl,rfl⟩:=h;exact⟨rfl,rfl⟩
theorem zqv(c:Nat)(hc:c<=1000)(w:World):(Instr.makeSlice 22 (.int .i64 (c:Int)) (.int .i64 (c:Int))).run Tryz.prog w=.ok (.slice (some ⟨w.heap.size,0,none⟩) c c) (w.alloc (.cells (madeCells #[.string ⟨#[]⟩] (c*1)) 9)):=by
 obtain⟨i,h1,h2,h3,h4⟩:=ty9.inf;have h2:i.size=1:=h2;have h3:i.bytes=16:=h3;have:=run_makeSlice (P:=Tryz.prog) w 22 9 i (.string ⟨#[]⟩) ty22.und h1 h4 .i64 .i64 c c (by omega) (Int.le_refl _) (by rw[h2];omega) (by rw[h3];omega) (by omega);rw[h2] at this;exact this
theorem zwj(c:Nat)(w:World):Box (w.alloc (.cells (madeCells #[.string ⟨#[]⟩] (c*1)) 9)) w.heap.size (List.replicate c (.string ⟨#[]⟩)):=by
 refine⟨9,?_⟩;rw[World.alloc_heap_new];have:madeCells #[.string ⟨#[]⟩] (c*1)=(List.replicate c (Value.string ⟨#[]⟩)).toArray:=by
  unfold madeCells;apply Array.ext
  ·simp
  ·intro i h1 h2;simp[Nat.mod_one]
 rw[this]
theorem zhr(c:Nat)(w:World):Upd [] w (w.alloc (.cells (madeCells #[.string ⟨#[]⟩] (c*1)) 9)):=Upd.alloc _ _
theorem nmin(a b:Nat):Nat.min a b<=a/\Nat.min a b<=b/\(Nat.min a b=a\/Nat.min a b=b):=by
 have e:Nat.min a b=min a b:=rfl;rw[e];omega
theorem si9:(Tryz.prog.info? 9).map (·.size)=some 1:=by
 obtain⟨i,h1,h2,_⟩:=ty9.inf;have h2:i.size=1:=h2;rw[h1,Option.map_some,h2]
theorem q5j(s:ByteArray)(k:Nat):(List.replicate k (Value.string s)).all Go.Sx.one=true:=by
 rw[List.all_eq_true];intro x hx;rw[List.eq_of_mem_replicate hx];rfl
theorem zyd{c cap ty:Nat}{w:World}{a:Addr}{s:ByteArray}{β:Nat}(hs:w.cell? a=some (.string s))(hb:Box w β (List.replicate c (.string ⟨#[]⟩))) :
  ∃w',(Builtin.copy_ #[22,22] ty #[.slice (some ⟨β,0,none⟩) c c,.slice (some a) 1 cap]).run Tryz.prog w=.ok (goInt (Nat.min 1 c)) w'/\Box w' β (List.replicate (Nat.min 1 c) (.string s)++List.replicate (c-Nat.min 1 c) (.string ⟨#[]⟩))/\Upd [β] w w'/\w'.heap.size=w.heap.size:=by
 have hnm:=nmin 1 c;have ha:a.spot=none:=by
  unfold World.cell? at hs;split at hs
  ·cases h:a.spot with
   | none=>rfl
   | some x=>rw[h] at hs;cases hs
  ·cases hs
 obtain⟨w',q1,q2,q3,q4⟩:=q8c (P:=Tryz.prog) (dT:=22) (sT:=22) (ty:=ty) (elem:=9) (β:=β) (o:=0) (dLen:=c) (dCap:=c) (sLen:=1) (sCap:=cap) (a:=a) (xs:=List.replicate (Nat.min 1 c) (.string s)) ty22.und si9 hb (by rw[List.length_replicate]) (fun j v hj=>by
  have hj1:j<Nat.min 1 c:=by
   have:=(List.getElem?_eq_some_iff.1 hj).1;simpa using this
  have:j=0:=by omega
  subst this;rw[List.getElem?_eq_getElem (by simpa using hj1)] at hj;simp at hj;rw[qbf _ ha,<- hj];show w.cell? ⟨a.block,a.off+0,none⟩=_;rw[Nat.add_zero,<- ha];exact hs) (by rw[List.length_replicate,List.length_replicate];omega) (q5j _ _)
 rw[List.length_replicate] at q1;refine⟨w',q1,?_,q3,q4⟩;have:=qvc (V:=.string s) (Z:=.string ⟨#[]⟩) (Nat.min 1 c) 0 c (Nat.min_le_right _ _);rw[Nat.zero_add] at this;rw[<- this];exact q2
theorem zfm{dT sT ty c n:Nat}{w:World}{s:ByteArray}{β:Nat}(hlt:n<c)(hn:1<=n)(hb:Box w β (List.replicate n (.string s)++List.replicate (c-n) (.string ⟨#[]⟩)))(hd:dT=22:=by rfl) :
  ∃w',(Builtin.copy_ #[dT,sT] ty #[.slice (some ((⟨β,0,none⟩:Addr).add (n*1))) (c-n) (c-n),.slice (some ⟨β,0,none⟩) n c]).run Tryz.prog w=.ok (goInt (Nat.min n (c-n))) w'/\Box w' β (List.replicate (n+Nat.min n (c-n)) (.string s)++List.replicate (c-n-Nat.min n (c-n)) (.string ⟨#[]⟩))/\Upd [β] w w'/\w'.heap.size=w.heap.size:=by
 subst hd;have hnm:=nmin n (c-n);have e:(⟨β,0,none⟩:Addr).add (n*1)=⟨β,n,none⟩:=by rw[qbf _ rfl];simp
 rw[e];obtain⟨w',q1,q2,q3,q4⟩:=q8c (P:=Tryz.prog) (dT:=22) (sT:=sT) (ty:=ty) (elem:=9) (β:=β) (o:=n) (dLen:=c-n) (dCap:=c-n) (sLen:=n) (sCap:=c) (a:=⟨β,0,none⟩) (xs:=List.replicate (Nat.min n (c-n)) (.string s)) ty22.und si9 hb (by rw[List.length_replicate]) (fun j v hj=>by
  have hj1:j<Nat.min n (c-n):=by
   have:=(List.getElem?_eq_some_iff.1 hj).1;simpa using this
  rw[List.getElem?_eq_getElem (by simpa using hj1)] at hj;simp at hj;rw[qbf _ rfl,hb.cell,<- hj,List.getElem?_append_left (by rw[List.length_replicate];show 0+j<n;omega)];rw[List.getElem?_replicate,if_pos (show 0+j<n by omega)]) (by rw[List.length_append,List.length_replicate,List.length_replicate,List.length_replicate];omega) (q5j _ _)
 rw[List.length_replicate] at q1;exact⟨w',q1,by rw[<- qvc _ _ _ (Nat.min_le_right n (c-n))];exact q2,q3,q4⟩
section
attribute [local irreducible] Go.wpList Go.wpQuiet Go.Code.wp
theorem ztm(s:ByteArray)(c:Nat)(hc:c<=1000){a:Addr}{cap:Nat}{w:World}(hcell:w.cell? a=some (.string s)) :
  Calls Tryz.prog 76 #[.slice (some a) 1 cap,.int .i64 c] w (Ret fun v w'=>∃β,w.heap.size<=β/\v=.slice (some ⟨β,0,none⟩) c c/\Box w' β (List.replicate c (.string s))/\Upd [] w w'):=by
 refine(enter (l:=[.slice (some a) 1 cap,.int .i64 c]) Tryz.func76 rfl Tryz.ntmps76 rfl ?_);refine qan fun K1 hK1=>?_;refine qay ?_;refine qa1 (v:=.slice none 0 0) rfl rfl rfl ?_;refine wpList_nil ?_;refine hK1 _ _ ?_;refine qan fun K2 hK2=>?_;refine qan fun K3 hK3=>?_;refine qay ?_;refine qaz (v:=.int .i64 (c:Int)) rfl rfl rfl ?_;refine qyg rfl rfl rfl rfl ?_;refine wpList_nil ?_;refine hK3 _ _ ?_;refine c_if rfl rfl (fun hb=>absurd hb (by omega)) (fun _=>?_);refine wp_skip ?_;refine hK2 _ _ ?_;refine qan fun K4 hK4=>?_;refine qay ?_;refine qaz (v:=.slice (some a) 1 cap) rfl rfl rfl ?_;refine q1r ty22 rfl rfl rfl ?_;refine q9y ty3.und qq0.und rfl rfl rfl (by decide) (by decide) ?_;refine qaz (v:=.int .i64 (c:Int)) rfl rfl rfl ?_;refine q9y ty3.und qq0.und rfl rfl rfl (by omega) (by omega) ?_;refine qhn (l:=[.tmp 15,.tmp 17]) (args:=[.int .u64 ((1:Nat):Int),.int .u64 (c:Int)]) z0h rfl rfl rfl (zz8 1 c (by omega) (by omega) w) ?_;rintro _ w2 ⟨rfl,hw2⟩;subst w2;have e1:1*c / 18446744073709551616=0:=by omega
 have e2:1*c % 18446744073709551616=c:=by omega
 rw[e1,e2];refine qaz (v:=.tuple #[.int .u64 ((0:Nat):Int),.int .u64 (c:Int)]) rfl rfl rfl ?_;refine qiz (v:=.int .u64 ((0:Nat):Int)) rfl rfl rfl rfl ?_;refine qiz (v:=.int .u64 (c:Int)) rfl rfl rfl rfl ?_;refine qa1 (v:=.int .u64 ((0:Nat):Int)) rfl rfl rfl ?_;refine qa1 (v:=.int .u64 (c:Int)) rfl rfl rfl ?_;refine wpList_nil ?_;refine hK4 _ _ ?_;refine qan fun K5 hK5=>?_;refine qan fun K6 hK6=>?_;refine qay ?_;refine qaz (v:=.int .u64 ((0:Nat):Int)) rfl rfl rfl ?_;refine qqa rfl rfl rfl rfl ?_;refine qaz (v:=.bool false) rfl rfl rfl ?_;refine qaz (v:=.int .u64 (c:Int)) rfl rfl rfl ?_;refine qqa rfl rfl rfl rfl ?_;refine q18 (v:=.bool false) rfl rfl rfl (congrArg Value.bool (decide_eq_false (by omega))) ?_;refine wpList_nil ?_;refine hK6 _ _ ?_;refine qmj rfl rfl ?_;refine wp_skip ?_;refine hK5 _ _ ?_;refine qan fun K7 hK7=>?_;refine qay ?_;refine qaz (v:=.int .u64 (c:Int)) rfl rfl rfl ?_;refine zwe qq0.und ty3.und rfl rfl rfl (by omega) ?_;refine zwr (u:=.int .i64 (c:Int)) (v:=.int .i64 (c:Int)) rfl rfl rfl rfl rfl (zqv c hc w) ?_;have hw1:=zwj c w;have hu1:=zhr c w;generalize w.alloc (.cells (madeCells #[.string ⟨#[]⟩] (c*1)) 9)=w1 at hw1 hu1;generalize hβ:w.heap.size=β at hw1;refine qa1 (v:=.slice (some ⟨β,0,none⟩) c c) rfl rfl (by rw[<- hβ];rfl) ?_;refine wpList_nil ?_;refine hK7 _ _ ?_;refine qan fun K8 hK8=>?_;refine qay ?_;refine qaz (v:=.slice (some ⟨β,0,none⟩) c c) rfl rfl rfl ?_;refine qaz (v:=.slice (some a) 1 cap) rfl rfl rfl ?_;have hsrc1:w1.cell? a=some (.string s):=by
  have:a.block<w.heap.size:=by
   unfold World.cell? at hcell;split at hcell
   ·rename_i h;exact qav h
   ·cases hcell
  unfold World.cell? at hcell ⊢;rw[hu1.same _ this (by simp)];exact hcell
 obtain⟨w3,g1,g2,g3,g4⟩:=zyd (cap:=cap) hsrc1 hw1;refine q4s rfl rfl rfl rfl rfl g1 ?_;refine qa1 (v:=.int .i64 ((Nat.min 1 c:Nat):Int)) rfl rfl rfl ?_;refine wpList_nil ?_;refine hK8 _ _ ?_;have hext:∀{w4:World},Upd [β] w1 w4->Upd [] w w4:=fun u4=>⟨u4.os.trans hu1.os,u4.tape.trans hu1.tape,u4.output.trans hu1.output,Nat.le_trans hu1.size u4.size,fun x hx hn=>(u4.same x (Nat.lt_of_lt_of_le hx hu1.size) (by simp;omega)).trans (hu1.same x hx (by simp))⟩;have hnm:=nmin 1 c;refine qan fun K9 hK9=>?_;refine wp_block ?_;refine qxc (X:=Nat) (8::(List.range 47).drop 34) (fun n=>[(8,.int .i64 (n:Int))]) (fun n w4=>(n<=c/\(c=0\/1<=n))/\Box w4 β (List.replicate n (.string s)++List.replicate (c-n) (.string ⟨#[]⟩))/\Upd [β] w1 w4) (fun n=>c-n) (Nat.min 1 c) ⟨rfl,trivial⟩ ⟨⟨Nat.min_le_right _ _,by omega⟩,g2,g3⟩ ?_;rintro n τ w4 ⟨⟨hn1,hn2⟩,hx4,hu4⟩;refine qan fun K10 hK10=>?_;refine qan fun K11 hK11=>?_;refine qay ?_;refine qaz (v:=.int .i64 (n:Int)) rfl rfl rfl ?_;refine qaz (v:=.slice (some ⟨β,0,none⟩) c c) rfl rfl rfl ?_;refine q1r ty22 rfl rfl rfl ?_;refine qyg rfl rfl rfl rfl ?_;refine wpList_nil ?_;refine hK11 _ _ ?_;refine c_if rfl rfl (fun hb=>?_) (fun hb=>?_)
 ·refine wp_skip ?_;refine hK10 _ _ ?_;have hlt:n<c:=by omega
  have hn:1<=n:=by omega
  have hnn:=nmin n (c-n);refine wp_block ?_;refine wp_region_any mixed ?_;refine qhb (i:=0) (v:=.int .i64 (n:Int)) rfl rfl rfl rfl (by kernel_rfl) (fun c a w h=>(show _/\False from h).2) (fun w1=>qaz (v:=.int .i64 (n:Int)) rfl rfl rfl q1) ?_;refine qhb (i:=1) (v:=.slice (some ⟨β,0,none⟩) c c) rfl rfl rfl rfl (by kernel_rfl) (fun c a w h=>(show _/\False from h).2) (fun w1=>qaz (v:=.slice (some ⟨β,0,none⟩) c c) rfl rfl rfl q1) ?_;refine qhb (i:=2) (v:=.int .i64 (n:Int)) rfl rfl rfl rfl (by kernel_rfl) (fun c a w h=>(show _/\False from h).2) (fun w1=>qaz (v:=.int .i64 (n:Int)) rfl rfl rfl q1) ?_;refine qhb (i:=3) (v:=.slice (some ((⟨β,0,none⟩:Addr).add (n*1))) (c-n) (c-n)) rfl rfl rfl rfl (by kernel_rfl) (fun c a w h=>(show _/\False from h).2) (fun w1=>zjt ty22 ty9 rfl rfl rfl rfl hlt hn1 (Nat.le_refl _) q1) ?_;refine qhb (i:=4) (v:=.slice (some ⟨β,0,none⟩) c c) rfl rfl rfl rfl (by kernel_rfl) (fun c a w h=>(show _/\False from h).2) (fun w1=>qaz (v:=.slice (some ⟨β,0,none⟩) c c) rfl rfl rfl q1) ?_;refine qhb (i:=5) (v:=.int .i64 (n:Int)) rfl rfl rfl rfl (by kernel_rfl) (fun c a w h=>(show _/\False from h).2) (fun w1=>qaz (v:=.int .i64 (n:Int)) rfl rfl rfl q1) ?_;refine qhb (i:=6) (v:=.slice (some ⟨β,0,none⟩) n c) rfl rfl rfl rfl (by kernel_rfl) (fun c a w h=>(show _/\False from h).2) (fun w1=>zg0 ty22 ty9 rfl rfl rfl rfl hn1 q1) ?_;have hx5:=hx4.mono0 (Upd.drew [] w4);have u5:=Upd.drew [] w4;generalize ({ w4 with drawn:=w4.drawn+1 }:World)=w5 at hx5 u5;obtain⟨w6,r1,r2,r3,r4⟩:=zfm (dT:=22) (sT:=22) (c:=c) hlt hn hx5;refine qwn (i:=7) rfl (by kernel_rfl) ?_;refine q4s rfl rfl rfl rfl rfl r1 ?_;refine wpList_nil ⟨rfl,?_⟩;refine qwn (i:=8) rfl (by kernel_rfl) ?_;refine zoj rfl rfl rfl rfl (by omega) ?_;refine wpList_nil ⟨rfl,?_⟩;refine qwn (i:=9) rfl (by kernel_rfl) ?_;refine qa1 (v:=.int .i64 ((n+Nat.min n (c-n):Nat):Int)) rfl rfl (congrArg (Value.int .i64) (by omega)) ?_;refine wpList_nil ⟨rfl,?_⟩;refine wpAny_done (by kernel_rfl) ?_ _;refine⟨n+Nat.min n (c-n),by show c-(n+Nat.min n (c-n))<c-n;omega,⟨⟨by omega,by omega⟩,by rw[show c-(n+Nat.min n (c-n))=c-n-Nat.min n (c-n) by omega];exact r2,(hu4.trans (u5.mono (by simp))).trans r3⟩,_,rfl,(by repeat first|exact qa9.refl _ _|refine qa9.upd rfl ?_|refine qa9.upds rfl ?_|refine qa9.mix rfl ?_),rfl,trivial⟩
 ·refine wp_exit ?_;have hnc:n=c:=by omega
  subst hnc;refine hK9 _ _ ?_;refine qan fun K12 hK12=>?_;refine qay ?_;refine qaz (v:=.slice (some ⟨β,0,none⟩) n n) rfl rfl rfl ?_;refine qa1 (v:=.slice (some ⟨β,0,none⟩) n n) rfl rfl rfl ?_;refine wpList_nil ?_;refine hK12 _ _ ?_;refine wp_ret ?_;refine ret1 Tryz.results76 rfl ⟨β,by omega,rfl,?_,hext hu4⟩;rw[Nat.sub_self,List.replicate_zero,List.append_nil] at hx4;exact hx4
end
theorem zjf:Con Tryz.prog 76 qip :=
 ⟨zj2,fun M w x us y hy hM hg hv=>by
  obtain⟨l,n,_⟩:=x;obtain⟨hk,rfl⟩:=qba (show cond (decide (l.length=1)&&S.inI n 0 1000) (some (List.replicate n.toNat (l.getD 0 S.none_),())) none=some y from hy);simp only[Bool.and_eq_true,decide_eq_true_eq,S.inI] at hk;obtain⟨h1,h2,h3⟩:=hk;obtain⟨s,rfl⟩:∃s,l=[s]:=by
   cases l with
   | nil=>cases h1
   | cons s r=>cases r with
    | nil=>exact⟨s,rfl⟩
    | cons _ _=>simp at h1
  have hni:∃c:Nat,(show Int from n)=(c:Int):=⟨Int.toNat n,(Int.toNat_of_nonneg h2).symm⟩;obtain⟨c,hc0⟩:=hni;have hc0:n=Int.ofNat c:=hc0;subst hc0;have h3:(c:Int)<=1000:=h3;obtain⟨u1,us1,rfl,a1,a2⟩:=hv.inv;obtain⟨u2,us2,rfl,a3,a4⟩:=a2.inv;obtain rfl:us2=[]:=List.length_eq_zero_iff.1 a4.1.symm;cases a3;cases a1 with
  | lst us q1 q2 q3 hb hh hc hu =>
  have hcell:=hc 0 (by simp) 0 (by decide);have hus:=hu 0 (by simp) 0 Nat.zero_lt_one;rename_i b off cap cells t fz;have hsz:s.size<9223372036854775808/\us 0 0=.string s:=by
   have hus:VR (EM M w) (.str s) (us 0 0):=hus;generalize us 0 0=u at hus;cases hus with
   | str _ h=>exact⟨h,rfl⟩
  rw[hsz.2] at hcell;have hcw:w.cell? ⟨b,off,none⟩=some (.string s):=by
   have hh:w.heap[b]?=some (.cells cells t fz):=hh;unfold World.cell?;rw[hh];simpa using hcell
  refine(callsIn_wide.2 (ztm s c (by omega) (cap:=cap) hcw)).mono fun e w' hR=>?_;cases e with
  | returned v =>
   obtain⟨β,hβ,rfl,hx,hu'⟩:=hR;obtain⟨p1,p2⟩:=Post.idle (preM hM hg) hu';refine⟨_,(EM M w).at_ w',rfl,rfl,?_,p1,p2⟩;show VR _ (.lst .str (List.replicate c s)) _;obtain⟨t',ht'⟩:=hx;cases c with
   | zero=>exact .lst0 (by omega)
   | succ c =>
    have hl:(List.replicate (c+1) s).length=c+1:=List.length_replicate;have:=VR.lst (E:=(EM M w).at_ w') (c:=.str) (l:=List.replicate (c+1) s) (cap:=c+1) (off:=0) (fun _ _=>.string s) (by rw[hl];exact Nat.le_refl _) (by omega) (by rw[hl];show (c+1)*16<=_;omega)
     (fun h=>by have:=hM _ h;omega) ht' (fun i hi j hj=>by
      have hj:j<1:=hj;have:j=0:=by omega
      subst this;rw[hl] at hi;show (List.replicate (c+1) (Value.string s)).toArray[0+i*1+0]?=_;simp only[List.getElem?_toArray,List.getElem?_replicate];rw[if_pos (by omega)]) (fun i hi j hj=>by
      have hj:j<1:=hj;have:j=0:=by omega
      subst this;show VR _ (.str (List.replicate (c+1) s)[i]) _;rw[List.getElem_replicate];exact .str _ hsz.1)
    rw[hl] at this;exact this
  | _=>exact hR.elim⟩
end Go.Proofs.YtnhmanoiolfapaaGreat
end

section
namespace Go.Jx
open Go Go.Sx Go.RowKit
universe u

def qdc{D α:Type}(g:D->α->Option (D × Bool)):List α->D->Option (D × Bool)
 | [],d=>some (d,false)
 | x::xs,d=>match g d x with
  | none=>none
  | some (d',b)=>cond b (some (d',true)) (qdc g xs d')
section
variable (P : Program) (tt : Nat -> Option TI)
end
section
variable {P : Program} {tt : Nat -> Option TI}
end
end Go.Jx
end

section
namespace Go.Jx
open Go Go.Sx Go.RowKit
universe u

theorem zw6{b:Nat}{A B:World}{o:Obj}(u:Upd [b] A B)(hA:A.heap[b]?=some o):∃B',Upd [] A B'/\Beside b B' B:=by
 have hlt:b<A.heap.size:=qav hA;refine⟨B.putObj b o,⟨u.os,u.tape,u.output,by rw[(Beside.put B b o).size];exact u.size,fun x hx _=>?_⟩,(Beside.put B b o).symm⟩;by_cases e:x=b
 ·subst e;rw[World.putObj_heap_same (Nat.lt_of_lt_of_le hx u.size),hA]
 ·rw[World.putObj_heap_other e];exact u.same x hx (by simpa using e)
def q5b(P:Program)(gf:Nat)(us:List Value)(bx:Nat)(m0:List Nat)(W0:World)(Rd:World->Prop){α:Type}(V:α->Value->Env->Prop)(xs:List α):Prop :=
 ∀(l:Nat) (J:List α->World->Prop) (K:World->Prop),(∀s A B,J s A->Upd [bx] A B->J s B)->(∀A B,K A->Upd [bx] A B->K B)->(∀s A,J s A->Rd A) ->
  (∀pre x post A0 A u,xs=pre++x::post->J pre A0->Upd [bx] A0 A->(∀E:Env,E.w=A->(∀b∈E.m,b<A0.heap.size/\(b<W0.heap.size->b∈m0))->V x u E) ->
   YieldAt Fence.wide 0 P l #[u] A fun e B=>(∀b,(b=bx\/A0.heap.size<=b)->b<A.heap.size->B.heap[b]?=A.heap[b]?)/\((e=.returned (.bool true)/\J (pre++[x]) B)\/(e=.returned (.bool false)/\K B))) ->
  J [] W0->CallsIn Fence.wide 0 P gf (#[.func (.yield l) #[] #[]]++us.toArray) W0 fun e B=>e=.returned (.tuple #[])/\(J xs B\/K B)
structure ConW (P:Program) (f:Nat) (s:SmI):Prop where
 callable:qai P f
 ns:nP s.ips=0
 it:∀(E:Env) (x:ElP s.ips) (us:List Value) (i:Nat) (l:List (El s.c)),s.xs x=some l->Gl E.m E.w->qxt E s x us [i]->E.ρ i∈E.m->(∀b∈E.m,b<E.w.heap.size) ->
  q5b P f us (E.ρ i) E.m E.w (fun W=>E.Le (E.at_ W)) (fun x u E=>VR E (asIV s.c x) u) l
def endX(k:Nat):IEx->Option Bool
 | .normal=>some false
 | .exit i=>cond (Nat.beq i k) (some true) none
 | _=>none
def retX{D:Type}(k:Nat):Option (D × Option Code)->Option (D × Bool)
 | some (d,none)=>some (d,false)
 | some (d,some (.exit i))=>cond (Nat.beq i k) (some (d,true)) none
 | _=>none
def qz1(k:Nat)(b:Bool):Option Code:=cond b (some (.exit k)) none
theorem zee{D:Type}{k:Nat}{o:Option (D × Option Code)}{d:D}{b:Bool}(h:retX k o=some (d,b)):o=some (d,qz1 k b):=by
 unfold retX at h;split at h
 ·cases h;rfl
 ·rename_i i;cases hb:Nat.beq i k with
  | false=>rw[hb] at h;cases h
  | true =>
   rw[hb] at h;have:=Nat.eq_of_beq_eq_true hb;subst this;cases h;rfl
 ·cases h
theorem zce{D α:Type}{k:Nat}(g:D->α->Option (D × Option Code)):∀(xs:List α) (d d':D) (b:Bool),qdc (fun d x=>retX k (g d x)) xs d=some (d',b)->foldB g xs d=some (d',qz1 k b)
 | [],d,d',b,h=>by cases h;rfl
 | x::xs,d,d',b,h=>by
  simp only[qdc,foldB] at h ⊢;cases hg:retX k (g d x) with
  | none=>rw[hg] at h;cases h
  | some q =>
   obtain⟨z,e⟩:=q;rw[hg] at h;rw[zee hg];cases e with
   | false=>exact zce g xs z d' b h
   | true=>cases h;rfl
section
variable (P : Program) (tt : Nat -> Option TI)
def qro(k:Nat)(cfg:LpC)(c:TC)(nt lf:Nat)(clP:ClP)(pr:Nat)(assign body:Code)(d:ElP cfg.lp)(z:ElP (refs cfg.lp))(x:El c):Option (ElP (refs cfg.lp) × Bool) :=
 qa0 P tt cfg.nm (mP cfg.lp) nt (clP (ElP (refs cfg.lp) × Bool)) lf none assign (qdq [pr] [asIV c x] (putL cfg.ls (qas cfg.lp idN 0 d) .leaf)) (Sc cfg.lp (updP cfg.lp d z)) [] fun r1=>match r1.e with
  | .normal=>match r1.ds with
   | []=>qa0 P tt cfg.nm (mP cfg.lp) nt (clP (ElP (refs cfg.lp) × Bool)) lf none body r1.fr r1.S [] fun r2=>match r2.ds with
     | []=>match endX k r2.e with
      | none=>none
      | some b=>match runQ (sQ cfg.lp) ⟨.tup [],r2.S,0,0⟩ with
       | none=>none
       | some y=>some (y.2,b)
     | _=>none
   | _=>none
  | _=>none
theorem ze3{k:Nat}{cfg:LpC}{c:TC}{nt lf:Nat}{cl:Cl}{clP:ClP}(hcl:∀R,ClEq cl (clP R))(pr:Nat)(assign body:Code)(d:ElP cfg.lp)(z:ElP (refs cfg.lp))(x:El c) :
  qro P tt k cfg c nt lf clP pr assign body d z x=retX k (qey P tt cfg c nt lf cl pr assign body d z x):=by
 unfold qro qey;rw[qeu (hcl _)];cases qak P tt cfg.nm (mP cfg.lp) nt cl lf none assign (qdq [pr] [asIV c x] (putL cfg.ls (qas cfg.lp idN 0 d) .leaf)) (Sc cfg.lp (updP cfg.lp d z)) [] with
 | none=>rfl
 | some r1 =>
  simp only[bd];cases r1.e<;>try rfl
  simp only;cases r1.ds with
  | cons _ _=>rfl
  | nil =>
   simp only;rw[qeu (hcl _)];cases qak P tt cfg.nm (mP cfg.lp) nt cl lf none body r1.fr r1.S [] with
   | none=>rfl
   | some r2 =>
    simp only[bd];cases r2.ds with
    | cons _ _=>rfl
    | nil =>
     simp only;cases r2.e with
     | exit i =>
      simp only[endX,qdr];cases hk:Nat.beq i k<;>cases runQ (sQ cfg.lp) ⟨.tup [],r2.S,0,0⟩<;>simp [retX,hk]
     | _=>cases runQ (sQ cfg.lp) ⟨.tup [],r2.S,0,0⟩<;>rfl
def qj7(S2:IS)(cfg:LpC)(id nt:Nat)(fr:PT IV)(pr D:Nat)(assign body:Code)(i:Nat)(rows subs:List Nat)(w:Nat)(q:ElP (refs cfg.lp) × Option Code):Res :=
 ⟨.tup [],(qbs (sQ cfg.lp) S2.next rows subs () q.1 (S2.set i .dead)).set id (.loop (cond q.2.isNone .ready .done) q.2 nt fr [pr] assign body D),2 ^ id,2 ^ id ||| (w ||| qbx ([i]++(rows++subs)))⟩
def itW(k:Nat)(s:SmI)(cfg:LpC)(lf:Nat)(cl:Cl)(vs:List IV)(S:IS):Option Res:=match vs with
 | .yield id::caps=>match rdP s.ips S caps with
  | some (xi,[i],_,S1,w1)=>match S1.heap.get id with
   | some (.loop .ready none nt fr [pr] assign body D)=>match rdP cfg.lp S1 (cfg.ls.map (slot fr)) with
    | none=>none
    | some (d0,rows,subs,S2,w2)=>cond (itB S2 cfg id nt [i] rows subs w2 assign body) (match fiP cfg.lp rows subs S2 d0 with
     | none=>none
     | some d=>match s.xs xi with
      | none=>none
      | some l=>match qdc (fun z x=>retX k (qey P tt cfg s.c nt lf cl pr assign body d z x)) l (qc8 cfg.lp d) with
       | none=>none
       | some z=>some (qj7 S2 cfg id nt fr pr D assign body i rows subs (w1 ||| w2) (z.1,qz1 k z.2))) none
   | _=>none
  | _=>none
 | _=>none
def itWK(k:Nat)(s:SmI)(cfg:LpC)(lf:Nat)(clP:ClP)(R:Type)(vs:List IV)(S:IS)(kk:Res->Option R):Option R:=match vs with
 | .yield id::caps=>match rdP s.ips S caps with
  | some (xi,[i],_,S1,w1)=>match S1.heap.get id with
   | some (.loop .ready none nt fr [pr] assign body D)=>match rdP cfg.lp S1 (cfg.ls.map (slot fr)) with
    | none=>none
    | some (d0,rows,subs,S2,w2)=>cond (itB S2 cfg id nt [i] rows subs w2 assign body) (match fiP cfg.lp rows subs S2 d0 with
     | none=>none
     | some d=>match s.xs xi with
      | none=>none
      | some l=>match qdc (qro P tt k cfg s.c nt lf clP pr assign body d) l (qc8 cfg.lp d) with
       | none=>none
       | some z=>cond z.2 (kk (qj7 S2 cfg id nt fr pr D assign body i rows subs (w1 ||| w2) (z.1,some (.exit k)))) (kk (qj7 S2 cfg id nt fr pr D assign body i rows subs (w1 ||| w2) (z.1,none)))) none
   | _=>none
  | _=>none
 | _=>none
end
section
variable {P : Program} {tt : Nat -> Option TI}
theorem zy5(k:Nat)(s:SmI)(cfg:LpC)(lf:Nat)(cl:Cl)(clP:ClP)(hcl:∀R,ClEq cl (clP R))(R:Type)(vs:List IV)(S:IS)(kk:Res->Option R):itWK P tt k s cfg lf clP R vs S kk=ob (itW P tt k s cfg lf cl vs S) kk:=by
 unfold itWK itW;cases vs with
 | nil=>rfl
 | cons v caps =>
 cases v<;>try rfl
 rename_i id;simp only;cases rdP s.ips S caps with
 | none=>rfl
 | some a =>
 obtain⟨xi,irows,_,S1,w1⟩:=a;cases irows with
 | nil=>rfl
 | cons i irows =>
 cases irows with
 | cons _ _=>rfl
 | nil =>
 simp only;cases S1.heap.get id with
 | none=>rfl
 | some o =>
 cases o<;>try rfl
 rename_i st pe nt fr ps assign body D;cases st<;>try rfl
 cases pe<;>try rfl
 cases ps with
 | nil=>rfl
 | cons pr ps =>
 cases ps with
 | cons _ _=>rfl
 | nil =>
 simp only;cases rdP cfg.lp S1 (cfg.ls.map (slot fr)) with
 | none=>rfl
 | some b =>
 obtain⟨d0,rows,subs,S2,w2⟩:=b;simp only[qbg];cases fiP cfg.lp rows subs S2 d0 with
 | none=>rfl
 | some d =>
 simp only;cases s.xs xi with
 | none=>rfl
 | some l =>
 have e:qro P tt k cfg s.c nt lf clP pr assign body d=fun z x=>retX k (qey P tt cfg s.c nt lf cl pr assign body d z x):=by
  funext z x;exact ze3 P tt hcl pr assign body d z x
 simp only[e];cases qdc (fun z x=>retX k (qey P tt cfg s.c nt lf cl pr assign body d z x)) l (qc8 cfg.lp d) with
 | none=>rfl
 | some q=>obtain⟨z,b⟩:=q;cases b<;>rfl
theorem qxo{k:Nat}{s:SmI}{cfg:LpC}{lf:Nat}{cl:Cl}{vs:List IV}{S:IS}{r:Res}(h:itW P tt k s cfg lf cl vs S=some r) :
  ∃id caps xi i isubs S1 w1 nt fr pr assign body D d0 rows subs S2 w2 d l q,vs=.yield id::caps/\rdP s.ips S caps=some (xi,[i],isubs,S1,w1)/\S1.heap.get id=some (.loop .ready none nt fr [pr] assign body D) /\
   rdP cfg.lp S1 (cfg.ls.map (slot fr))=some (d0,rows,subs,S2,w2)/\itB S2 cfg id nt [i] rows subs w2 assign body=true/\fiP cfg.lp rows subs S2 d0=some d/\s.xs xi=some l /\
   foldB (qey P tt cfg s.c nt lf cl pr assign body d) l (qc8 cfg.lp d)=some q/\r=qj7 S2 cfg id nt fr pr D assign body i rows subs (w1 ||| w2) q:=by
 unfold itW at h;split at h<;>try cases h
 rename_i id caps;split at h<;>try cases h
 rename_i xi i isubs S1 w1 h1;split at h<;>try cases h
 rename_i nt fr pr assign body D ho;split at h
 ·cases h
 rename_i d0 rows subs S2 w2 h2;cases hb:itB S2 cfg id nt [i] rows subs w2 assign body with
 | false=>rw[hb] at h;cases h
 | true =>
 rw[hb,cond_true] at h;split at h
 ·cases h
 rename_i d h3;split at h
 ·cases h
 rename_i l h4;split at h<;>cases h;rename_i q h5;exact⟨id,caps,xi,i,isubs,S1,w1,nt,fr,pr,assign,body,D,d0,rows,subs,S2,w2,d,l,_,rfl,h1,ho,h2,hb,h3,h4,zce _ _ _ _ _ h5,rfl⟩
theorem zz7{k:Nat}{s:SmI}{cfg:LpC}{lf:Nat}{cl:Cl}{vs:List IV}{S:IS}:FrO S (itW P tt k s cfg lf cl vs S):=fun r h=>by
 obtain⟨id,caps,xi,i,isubs,S1,w1,nt,fr,pr,assign,body,D,d0,rows,subs,S2,w2,d,l,q,rfl,h1,ho,h2,hb,h3,h4,h5,rfl⟩:=qxo h;have k1:=qe1 _ h1;have k2:=qe1 _ h2;have k0:=FrX.set S2 i .dead;have k3:=k0.trans ((q2g subs (S2.set i .dead)).trans ((q1d rows (qau (refs cfg.lp) (fun k=>S2.next+(k-mP cfg.lp)) (mP cfg.lp) q.1) _).trans (qr0 (newO (sQ cfg.lp) () q.1) _ 0)));have k4:=(k1.trans k2).trans (k3.trans (FrX.set _ id (.loop (cond q.2.isNone .ready .done) q.2 nt fr [pr] assign body D)));refine⟨k4.1,fun j hj hbit=>k4.2 j hj ?_⟩;have hbit:(2 ^ id ||| ((w1 ||| w2) ||| qbx ([i]++(rows++subs)))).testBit j=false:=hbit;have e0:qbx [i]=2 ^ i:=by simp[qbx]
 simp only[q0z,e0,Nat.testBit_or,Bool.or_eq_false_iff,Nat.zero_testBit] at hbit ⊢;obtain⟨a,⟨b,c⟩,g,e,f⟩:=hbit;exact⟨⟨b,c⟩,⟨g,f,e,trivial⟩,a⟩
theorem zzc{k:Nat}{s:SmI}{cfg:LpC}{lf:Nat}{cl:Cl}{vs:List IV}{S:IS}{r:Res}(h:itW P tt k s cfg lf cl vs S=some r)(hw:r.wr=0):False:=by
 obtain⟨id,caps,xi,i,isubs,S1,w1,nt,fr,pr,assign,body,D,d0,rows,subs,S2,w2,d,l,q,rfl,h1,ho,h2,hb,h3,h4,h5,rfl⟩:=qxo h;have:2 ^ id=0:=(or_zero hw).1;have:=Nat.one_le_two_pow (n:=id);omega
def itWx(P:Program)(tt:Nat->Option TI)(k:Nat)(s:SmI)(cfg:LpC)(lf:Nat):Hx:=⟨itW P tt k s cfg lf,fun clP R vs S kk=>itWK P tt k s cfg lf clP R vs S kk,fun cl clP hcl R vs S kk=>zy5 k s cfg lf cl clP hcl R vs S kk⟩
theorem Held.dead{T:TW}{E:Env}{S:IS}{l:List PK}{x:ElP l}{rows subs:List Nat}(h:Held T E S l x rows subs)(p:Pre T E S){i:Nat}{w:World}(hT:T.w i)(hA:E.A i)(hL:Live E S.H i)(hi:i ∉ rows++subs)(hb:Beside (E.ρ i) E.w w) :
  Held T (E.at_ w) (S.set i .dead) l x rows subs:=by
 have hle:=Env.at_le p.st hT hA hL hb.upd;refine⟨h.l1,h.l2,h.nd,h.w,h.A,fun ι hι j o hj=>?_,fun id hid=>?_,fun j=>?_⟩
 ·obtain⟨id,g1,g2,g3,g4⟩:=h.at_ ι hι j o hj;have hm:id∈rows:=List.mem_of_getElem? g1;refine⟨id,g1,g2,g3,g4.mono hle g2 g3 fun hl hh=>hb.same _ fun e=>?_⟩;obtain⟨cs,hcs⟩:=h.row id hm;have:=p.st.inj _ _ (T.sub _ (h.w id (List.mem_append_left _ hm))) (T.sub _ hT) g2 hA ⟨hh,_,hcs,rfl⟩ hL e;exact hi (this▸List.mem_append_left _ hm)
 ·obtain⟨cs,hcs⟩:=h.row id hid;exact⟨cs,by rw[IS.H_set,up_ne _ _ (fun e:id=i=>hi (e▸List.mem_append_left _ hid))];exact hcs⟩
 ·rw[h.sub];cases hs:subs[j]? with
  | none=>rfl
  | some id =>
   have hm:id∈subs:=List.mem_of_getElem? hs;show S.H id=(S.set i .dead).H id;rw[IS.H_set,up_ne _ _ (fun e:id=i=>hi (e▸List.mem_append_right _ hm))]
end
end Go.Jx
end

noncomputable section
set_option maxRecDepth 100000
namespace Go.Proofs.YtnhmanoiolfapaaGreat
open Go Go.Sx Go.RowKit Go.Jx
def S.listed(m:List (Int × ByteArray)):List qaa:=m.foldl (fun c p=>S.ins1 (p.1,p.2,false) c) []
def S.mapG(m:List (Int × ByteArray)):Bool:=decide (m.map (·.1)).Nodup&&m.all fun p=>S.inI p.1 0 199&&Nat.ble p.2.size 4000
def qc6:SmR:=⟨[.ref (.mp (.int .i64) .str)],[(false,.list qae)],fun x=>match x.1 with
 | some m=>cond (S.mapG m) (some ((S.listed m,()),(some m,()))) none
 | none=>none⟩
def S.recsGo:Nat->List ByteArray->List qe7
 | 0,_=>[]
 | f+1,l=>match l with
  | []=>[]
  | s::r=>if (qac s).getD 0 0=0 then [] else S.readK (s::r)::cond (S.readK (s::r)).2.2 [] (S.recsGo f ((s::r).drop (S.readK (s::r)).2.1.toNat))
def S.recsK(l:List ByteArray):List qe7:=S.recsGo (l.length+1) l
def q9b:SmI:=⟨[.ref (.box [.dat (.list .str)])],cKeepRecord,fun x=>cond (S.secs x.1.1) (some (S.recsK x.1.1)) none⟩
end Go.Proofs.YtnhmanoiolfapaaGreat
end

section
set_option maxRecDepth 100000
namespace Go.Proofs.YtnhmanoiolfapaaGreat
open Go Go.RowKit Go.Shelf Go.Sort Go.Lib
def zkj:Go.Shelf.Ren:=⟨fun|6=>123|15=>129|14=>128|28=>139|29=>140|20=>131|21=>132|22=>133|23=>134|24=>135|25=>136|26=>137|27=>138|46=>141|47=>142|48=>143|49=>144|50=>145|57=>146|n=>n,fun|22=>35|24=>92|25=>190|3=>3|39=>141|0=>0|53=>178|55=>181|4=>4|46=>198|45=>197|50=>202|5=>5|9=>9|66=>206|70=>210|76=>212|77=>107|n=>n,fun|n=>n⟩
theorem q6k:Go.Proofs.SlLaysF0.n6 Tryz.prog zkj:={
 mixed:=by kernel_rfl
 f6:=⟨Tryz.f123.name,by decide,Tryz.func123.trans (congrArg some (by kernel_rfl))⟩
 f14:=⟨Tryz.f128.name,by decide,Tryz.func128.trans (congrArg some (by kernel_rfl))⟩
 f15:=Tryz.func129.trans (congrArg some (by kernel_rfl))
 f20:=⟨Tryz.f131.name,by decide,Tryz.func131.trans (congrArg some (by kernel_rfl))⟩
 f21:=⟨Tryz.f132.name,by decide,Tryz.func132.trans (congrArg some (by kernel_rfl))⟩
 f22:=⟨Tryz.f133.name,by decide,Tryz.func133.trans (congrArg some (by kernel_rfl))⟩
 f23:=⟨Tryz.f134.name,by decide,Tryz.func134.trans (congrArg some (by kernel_rfl))⟩
 f24:=⟨Tryz.f135.name,by decide,Tryz.func135.trans (congrArg some (by kernel_rfl))⟩
 f25:=⟨Tryz.f136.name,by decide,Tryz.func136.trans (congrArg some (by kernel_rfl))⟩
 f26:=⟨Tryz.f137.name,by decide,Tryz.func137.trans (congrArg some (by kernel_rfl))⟩
 f27:=⟨Tryz.f138.name,by decide,Tryz.func138.trans (congrArg some (by kernel_rfl))⟩
 f28:=Tryz.func139.trans (congrArg some (by kernel_rfl))
 f29:=Tryz.func140.trans (congrArg some (by kernel_rfl))
 f46:=⟨Tryz.f141.name,by decide,Tryz.func141.trans (congrArg some (by kernel_rfl))⟩
 f47:=Tryz.func142.trans (congrArg some (by kernel_rfl))
 f48:=Tryz.func143.trans (congrArg some (by kernel_rfl))
 f49:=⟨Tryz.f144.name,by decide,Tryz.func144.trans (congrArg some (by kernel_rfl))⟩
 f50:=⟨Tryz.f145.name,by decide,Tryz.func145.trans (congrArg some (by kernel_rfl))⟩
 f57:=⟨Tryz.f146.name,by decide,Tryz.func146.trans (congrArg some (by kernel_rfl))⟩
 t0:=Tryz.underlying0
 a0:=Tryz.isAgg0
 z0:=Tryz.sizeOf0
 v0:=Tryz.zeroValue0
 t3:=Tryz.underlying3
 a3:=Tryz.isAgg3
 z3:=Tryz.sizeOf3
 v3:=Tryz.zeroValue3
 t4:=Tryz.underlying4
 a4:=Tryz.isAgg4
 z4:=Tryz.sizeOf4
 v4:=Tryz.zeroValue4
 t5:=Tryz.underlying5
 a5:=Tryz.isAgg5
 z5:=Tryz.sizeOf5
 v5:=Tryz.zeroValue5
 t9:=Tryz.underlying9
 a9:=Tryz.isAgg9
 z9:=Tryz.sizeOf9
 v9:=Tryz.zeroValue9
 t22:=Tryz.underlying35
 a22:=Tryz.isAgg35
 z22:=Tryz.sizeOf35
 v22:=Tryz.zeroValue35
 t25:=Tryz.underlying190
 a25:=Tryz.isAgg190
 z25:=Tryz.sizeOf190
 v25:=Tryz.zeroValue190
 t39:=Tryz.underlying141
 a39:=Tryz.isAgg141
 z39:=Tryz.sizeOf141
 v39:=Tryz.zeroValue141
 t45:=Tryz.underlying197
 a45:=Tryz.isAgg197
 z45:=Tryz.sizeOf197
 v45:=Tryz.zeroValue197
 t46:=Tryz.underlying198
 a46:=Tryz.isAgg198
 z46:=Tryz.sizeOf198
 v46:=Tryz.zeroValue198
 t50:=Tryz.underlying202
 a50:=Tryz.isAgg202
 z50:=Tryz.sizeOf202
 v50:=Tryz.zeroValue202
 t53:=Tryz.underlying178
 a53:=Tryz.isAgg178
 z53:=Tryz.sizeOf178
 v53:=Tryz.zeroValue178
 t55:=Tryz.underlying181
 a55:=Tryz.isAgg181
 z55:=Tryz.sizeOf181
 v55:=Tryz.zeroValue181
 t66:=Tryz.underlying206
 a66:=Tryz.isAgg206
 z66:=Tryz.sizeOf206
 v66:=Tryz.zeroValue206
 t70:=Tryz.underlying210
 a70:=Tryz.isAgg210
 z70:=Tryz.sizeOf210
 v70:=Tryz.zeroValue210
 t76:=Tryz.underlying212
 a76:=Tryz.isAgg212
 z76:=Tryz.sizeOf212
 v76:=Tryz.zeroValue212
 t77:=Tryz.underlying107
 a77:=Tryz.isAgg107
 z77:=Tryz.sizeOf107
 v77:=Tryz.zeroValue107 }
def encC(x:Int × ByteArray × Bool):List Value:=[.int .i64 x.1,.string x.2.1,.bool x.2.2]
theorem zt5(cf:(Int × ByteArray × Bool)->(Int × ByteArray × Bool)->Int)(hO:SWO (ltOf cf))(g:Nat)(cb:Array Value)(blk off cap:Nat)(d:Array (Int × ByteArray × Bool))(w:World)
  (eg:∀args w,(callFunc g args).run Tryz.prog w=.ok (.enter g args) w) (hcmp:CmpLays Tryz.prog g cb encC 3 cf blk off d.size w) (hH:HoldsK encC 3 w blk off d) (hblk:blk<w.heap.size) (hsz:d.size<4611686018427387904) :
  Calls Tryz.prog 123 #[.slice (some ⟨blk,off,none⟩) d.size cap,.func (.func g) #[] cb] w fun e w' =>
   e=.returned (.tuple #[])/\∃d' n os,PermIn 0 d.size d d'/\SortedIn (ltOf cf) 0 d.size d'/\w'=sortWorldK encC 3 w blk off n d' os :=
 AnyQ.slices_SortFunc q6k 3 Tryz.isAgg92 Tryz.sizeOf92 encC (fun _=>rfl) (fun x v hv=>by simp[encC] at hv;rcases hv with rfl|rfl|rfl<;>rfl) cf hO g cb blk off cap d w eg hcmp hH hblk hsz
theorem zgq(p:Option Addr)(cap:Nat)(fv:Value)(w:World):Calls Tryz.prog 123 #[.slice p 0 cap,fv] w fun e w'=>e=.returned (.tuple #[])/\w'=w :=
 AnyF.slices_SortFunc_none (P:=Tryz.prog) q6k p cap fv w
end Go.Proofs.YtnhmanoiolfapaaGreat
end

section
set_option maxRecDepth 100000
namespace Go.Sx
open Go Go.RowKit
def Gr(w w':World):Prop:=∃q os',w'=Sort.grow (w.drewN q) os'
theorem Gr.refl(w:World):Gr w w:=⟨0,#[],by simp[World.drewN]⟩
theorem Gr.trans{a b c:World}(h:Gr a b)(k:Gr b c):Gr a c:=by
 obtain⟨q,os,rfl⟩:=h;obtain⟨q',os',rfl⟩:=k;exact⟨q+q',os++os',by simp[Sort.grow,World.drewN,Array.append_assoc,Nat.add_assoc]⟩
theorem Gr.push(w:World)(o:Obj):Gr w { w with heap:=w.heap.push o }:=⟨0,#[o],by simp[Sort.grow,World.drewN]⟩
theorem Gr.drew(w:World):Gr w { w with drawn:=w.drawn+1 }:=⟨1,#[],by
 unfold Sort.grow World.drewN;simp only[Array.append_empty]⟩
theorem Gr.upd{w w':World}(h:Gr w w'):Upd [] w w':=by
 obtain⟨q,os,rfl⟩:=h;refine⟨rfl,rfl,rfl,by simp[Sort.grow,World.drewN],fun b hb _=>?_⟩;show (w.heap++os)[b]?=_;rw[Array.getElem?_append_left hb]
theorem Upd.old_upd{w w2 w3:World}{g:Nat}(h:Upd [] w w2)(k:Upd [g] w2 w3)(hg:w.heap.size<=g):Upd [] w w3 :=
 ⟨k.os.trans h.os,k.tape.trans h.tape,k.output.trans h.output,Nat.le_trans h.size k.size,fun x hx hn=>(k.same x (Nat.lt_of_lt_of_le hx h.size) (by simp;omega)).trans (h.same x hx hn)⟩
theorem Upd.tr0{w w':World}(h:Upd [] w w'):Tr [] w [] w':=⟨fun b hb _=>⟨by simp,h.same b hb (by simp)⟩⟩
theorem Upd.cell{w w':World}(u:Upd [] w w'){a:Addr}{v:Value}(h:w.cell? a=some v):w'.cell? a=some v:=by
 have:a.block<w.heap.size:=by
  unfold World.cell? at h;split at h
  ·rename_i h';exact qav h'
  ·cases h
 unfold World.cell? at h ⊢;rw[u.same _ this (by simp)];exact h
section
variable {P : Program} {n : Nat} {σ : Nat -> Value} {w : World} {ops : Array Oper} {rest : List Oper} {d : Nat} {op : Op} {ty : TypeId} {pos : String} {aft : Array Edge} {g : Option (Nat × Bool)} {T : TypeId} {x : Operand} {C : World -> Prop} {Qp : Act -> Prop}
theorem q1c{Q:Exit->Act->World->Prop}{v:Value}{zs:List Value}(hg:qar ops σ n g=true)(hx:okO n x=true)(ex:ev σ x=v)(hz:v.cells.toList=zs)
  (k:∀β w',w.heap.size=β->Gr w w'->w'.heap.size=β+1->Box w' β zs->wpList P ops Q rest (Fr n (upd σ d (.pointer (some ⟨β,0,none⟩)))) w'):wpList P ops Q (⟨some d,.box T x,ty,pos,aft,g⟩::rest) (Fr n σ) w:=by
 subst hz;refine qa6 (w':={ w with heap:=w.heap.push (.cells v.cells T) }) hg ?_ (k _ _ rfl (Gr.push _ _) (by simp) (by simpa using Box.push w v.cells.toList T));simp only[execOp,qaw hx,ex,Instr.box,Sem.run_bind,Result.andThen_ok,Sem.run_pure,newVar,newRow];rfl
theorem qne{v:Value}(hp:qio op=true)(hd:Nat.blt d n=true)(hg:qar ops σ n g=true)
  (h:∀w1,C w1->wpList P ops (QOne n σ d v w1) [⟨some d,op,ty,pos,aft,g⟩] (Fr n σ) w1)
  (k:wpQuiet P ops C Qp rest (Fr n (upd σ d v))):wpQuiet P ops C Qp (⟨some d,op,ty,pos,aft,g⟩::rest) (Fr n σ):=by
 have hd':d<n:=by simpa using hd
 refine wpQuiet_step fun K hK=>?_;rw[qfj (o:=⟨some d,op,ty,pos,aft,g⟩) hg,if_pos rfl];refine⟨v,fun w1 hw1=>?_,by show K ((Fr n σ).put (some d) v);rw[qd4];exact hK _ k⟩;have h1:=h w1 hw1;unfold wpList at h1;rw[qfj (o:=⟨some d,op,ty,pos,aft,g⟩) hg,if_pos rfl] at h1;rcases h1 with h1|⟨_,a,w',h1,_⟩
 ·unfold Oper.quietAt;unfold Oper.wp at h1;cases hr:(execOp (Fr n σ).eval ⟨some d,op,ty,pos,aft,g⟩).run P w1 with
  | ok x w' =>
   rw[hr] at h1;cases x with
   | value u =>
    rw[Oper.upon_value,qd4] at h1;obtain⟨_,h2,h3⟩:=h1;exact⟨h3,qym hd' h2⟩
   | skip =>
    rw[Oper.upon_skip,qd4] at h1;obtain⟨_,h2,h3⟩:=h1;exact⟨h3,(qym hd' h2).symm⟩
   | _=>obtain⟨u,hu⟩:=qvp hp hr;cases hu
  | halt x w'=>rw[hr] at h1;cases x<;>first|exact h1.elim|(obtain⟨h2,_⟩:=h1;cases h2)
 ·cases h1
theorem zki{f:Nat}{l:List Operand}{args:List Value}{ts:Array TypeId}{v:Value}(hF:qai P f)(hg:qar ops σ n g=true)(hx:okOs n l=true)(ea:evs σ l=args)
  (hc:∀w1,C w1->Calls P f args.toArray w1 (Ret fun v' w'=>v'=v/\C w'))
  (k:wpQuiet P ops C Qp rest (Fr n (upd σ d v))):wpQuiet P ops C Qp (⟨some d,.call ⟨.value (.func f),l.toArray,ts⟩,ty,pos,aft,g⟩::rest) (Fr n σ):=by
 refine wpQuiet_step fun K hK=>?_;rw[qfj (o:=⟨some d,_,ty,pos,aft,g⟩) hg,if_pos rfl];refine⟨v,fun w1 hw1=>?_,by show K ((Fr n σ).put (some d) v);rw[qd4];exact hK _ k⟩;have hr:(execOp (Fr n σ).eval ⟨some d,.call ⟨.value (.func f),l.toArray,ts⟩,ty,pos,aft,g⟩).run P w1=.ok (.enter f args.toArray) w1:=by
  obtain⟨fn,hf,hb,hn⟩:=hF;have hb':fn.body.isNone=false:=by cases h:fn.body<;>simp [h] at hb ⊢
  simp only[execOp,resolve,Act.eval,Deferred.ofValue,invoke,callFunc,qqr hx,ea,Sem.run_bind,Sem.run_pure,Result.andThen_ok,run_program,hf,hb',hn,Bool.false_eq_true,if_false];simp
 unfold Oper.quietAt;rw[hr];refine⟨rfl,(hc w1 hw1).mono fun e w' he=>?_⟩;cases e with
 | returned v'=>obtain⟨h1,h2⟩:=he;exact⟨by rw[h1],h2⟩
 | _=>exact he.elim
theorem q5h{f:Nat}{xo:Operand}{caps:Array Value}{l:List Operand}{args:List Value}{ts:Array TypeId}{v:Value}(hF:qai P f)(hg:qar ops σ n g=true)(hx:(okO n xo&&okOs n l)=true)(ef:ev σ xo=.func (.func f) #[] caps)(ea:evs σ l++caps.toList=args)
  (hc:∀w1,C w1->Calls P f args.toArray w1 (Ret fun v' w'=>v'=v/\C w'))
  (k:wpQuiet P ops C Qp rest (Fr n (upd σ d v))):wpQuiet P ops C Qp (⟨some d,.call ⟨.value xo,l.toArray,ts⟩,ty,pos,aft,g⟩::rest) (Fr n σ):=by
 simp only[Bool.and_eq_true] at hx;refine wpQuiet_step fun K hK=>?_;rw[qfj (o:=⟨some d,_,ty,pos,aft,g⟩) hg,if_pos rfl];refine⟨v,fun w1 hw1=>?_,by show K ((Fr n σ).put (some d) v);rw[qd4];exact hK _ k⟩;have hr:(execOp (Fr n σ).eval ⟨some d,.call ⟨.value xo,l.toArray,ts⟩,ty,pos,aft,g⟩).run P w1=.ok (.enter f args.toArray) w1:=by
  obtain⟨fn,hf,hb,hn⟩:=hF;have hb':fn.body.isNone=false:=by cases h:fn.body<;>simp [h] at hb ⊢
  simp only[execOp,resolve,qaw hx.1,ef,Deferred.ofValue,invoke,callFunc,qqr hx.2,<- ea,Sem.run_bind,Sem.run_pure,Result.andThen_ok,run_program,hf,hb',hn,Bool.false_eq_true,if_false];simp
 unfold Oper.quietAt;rw[hr];refine⟨rfl,(hc w1 hw1).mono fun e w' he=>?_⟩;cases e with
 | returned v'=>obtain⟨h1,h2⟩:=he;exact⟨by rw[h1],h2⟩
 | _=>exact he.elim
end
end Go.Sx
namespace Go.Proofs.YtnhmanoiolfapaaGreat
open Go Go.Sx Go.RowKit Go.Sort Go.Shelf
theorem q2r:qai Tryz.prog 130:=⟨_,Tryz.func130,by kernel_rfl,by kernel_rfl⟩
theorem zvw:Fld Tryz.prog 92 0 0:=Fld.mk (F := ⟨"Key", 3,0, false, "", "", 0⟩) ty92 rfl ty3
def cmpI(a b:Int):Int:=if a<b then -1 else if b<a then 1 else 0
section
attribute [local irreducible] Go.wpList Go.wpQuiet Go.Code.wp
theorem zcz(a:Int)(w:World):Calls Tryz.prog 130 #[.int .i64 a] w (Ret fun v w'=>v=.bool false/\Gr w w'):=by
 refine(enter (l:=[.int .i64 a]) Tryz.func130 rfl Tryz.ntmps130 rfl ?_);refine qan fun K1 hK1=>?_;refine qay ?_;refine qa1 (v:=.bool false) rfl rfl rfl ?_;refine wpList_nil ?_;refine hK1 _ _ ?_;refine qan fun K2 hK2=>?_;refine qay ?_;refine qaz (v:=.int .i64 a) rfl rfl rfl ?_;refine qaz (v:=.int .i64 a) rfl rfl rfl ?_;refine zcc rfl rfl rfl rfl ?_;refine qa1 (v:=.bool false) rfl rfl (congrArg Value.bool (decide_eq_false (fun h=>h rfl))) ?_;refine wpList_nil ?_;refine hK2 _ _ ?_;refine wp_ret ?_;exact ret1 Tryz.results130 rfl ⟨rfl,Gr.refl w⟩
theorem zec(a b:Int)(w:World):Calls Tryz.prog 125 #[.int .i64 a,.int .i64 b] w (Ret fun v w'=>v=.int .i64 (cmpI a b)/\Gr w w'):=by
 refine(enter (l:=[.int .i64 a,.int .i64 b]) Tryz.func125 rfl Tryz.ntmps125 rfl ?_);refine qan fun K1 hK1=>?_;refine qay ?_;refine qa1 (v:=.int .i64 0) rfl rfl rfl ?_;refine wpList_nil ?_;refine hK1 _ _ ?_;refine qan fun K2 hK2=>?_;refine qay ?_;refine qaz (v:=.int .i64 a) rfl rfl rfl ?_;refine qhn (l:=[.tmp 7]) (args:=[.int .i64 a]) q2r rfl rfl rfl (zcz a w) ?_;rintro _ w1 ⟨rfl,g1⟩;refine qa1 (v:=.bool false) rfl rfl rfl ?_;refine wpList_nil ?_;refine hK2 _ _ ?_;refine qan fun K3 hK3=>?_;refine qay ?_;refine qaz (v:=.int .i64 b) rfl rfl rfl ?_;refine qhn (l:=[.tmp 9]) (args:=[.int .i64 b]) q2r rfl rfl rfl (zcz b w1) ?_;rintro _ w2 ⟨rfl,g2⟩;refine qa1 (v:=.bool false) rfl rfl rfl ?_;refine wpList_nil ?_;refine hK3 _ _ ?_;refine qan fun K4 hK4=>?_;refine qan fun K5 hK5=>?_;refine qay ?_;refine qaz (v:=.bool false) rfl rfl rfl ?_;refine wpList_nil ?_;refine hK5 _ _ ?_;refine qmj rfl rfl ?_;refine wp_skip ?_;refine hK4 _ _ ?_;refine qan fun K6 hK6=>?_;refine qan fun K7 hK7=>?_;refine qay ?_;refine qaz (v:=.bool false) rfl rfl rfl ?_;refine wpList_nil ?_;refine hK7 _ _ ?_;refine qmj rfl rfl ?_;refine wp_skip ?_;refine hK6 _ _ ?_;refine qan fun K8 hK8=>?_;refine qan fun K9 hK9=>?_;refine qay ?_;refine qaz (v:=.int .i64 a) rfl rfl rfl ?_;refine qaz (v:=.int .i64 b) rfl rfl rfl ?_;refine qyg rfl rfl rfl rfl ?_;refine wpList_nil ?_;refine hK9 _ _ ?_;refine c_if rfl rfl (fun h=>?_) (fun h=>?_)
 ·refine qan fun KA hKA=>?_;refine qay ?_;refine qa1 (v:=.int .i64 (-1)) rfl rfl rfl ?_;refine wpList_nil ?_;refine hKA _ _ ?_;refine wp_ret ?_;exact ret1 Tryz.results125 rfl ⟨by unfold cmpI;rw[if_pos h];rfl,g1.trans g2⟩
 refine wp_skip ?_;refine hK8 _ _ ?_;refine qan fun KB hKB=>?_;refine qan fun KC hKC=>?_;refine qay ?_;refine qaz (v:=.int .i64 a) rfl rfl rfl ?_;refine qaz (v:=.int .i64 b) rfl rfl rfl ?_;refine qqa rfl rfl rfl rfl ?_;refine wpList_nil ?_;refine hKC _ _ ?_;refine c_if rfl rfl (fun h2=>?_) (fun h2=>?_)
 ·refine qan fun KA hKA=>?_;refine qay ?_;refine qa1 (v:=.int .i64 1) rfl rfl rfl ?_;refine wpList_nil ?_;refine hKA _ _ ?_;refine wp_ret ?_;exact ret1 Tryz.results125 rfl ⟨by unfold cmpI;rw[if_neg h,if_pos h2];rfl,g1.trans g2⟩
 refine wp_skip ?_;refine hKB _ _ ?_;refine qan fun KD hKD=>?_;refine qay ?_;refine qa1 (v:=.int .i64 0) rfl rfl rfl ?_;refine wpList_nil ?_;refine hKD _ _ ?_;refine wp_ret ?_;exact ret1 Tryz.results125 rfl ⟨by unfold cmpI;rw[if_neg h,if_neg h2];rfl,g1.trans g2⟩
theorem q6o(x:Int × ByteArray × Bool)(w:World):Calls Tryz.prog 115 #[.agg (encC x).toArray] w (Ret fun v w'=>v=.int .i64 x.1/\Gr w w'):=by
 refine(enter (l:=[.agg (encC x).toArray]) Tryz.func115 rfl Tryz.ntmps115 rfl ?_);refine qan fun K1 hK1=>?_;refine qay ?_;refine q1c (v:=.agg (encC x).toArray) (zs:=encC x) rfl rfl rfl rfl fun β w1 hβ g1 hz1 hx1=>?_;refine qa1 (v:=.int .i64 0) rfl rfl rfl ?_;refine wpList_nil ?_;refine hK1 _ _ ?_;refine qan fun K2 hK2=>?_;refine qay ?_;refine qw5 zvw rfl rfl rfl ?_;refine qgv (v:=.int .i64 x.1) ty3 rfl rfl rfl rfl hx1 rfl ?_;refine qa1 (v:=.int .i64 x.1) rfl rfl rfl ?_;refine wpList_nil ?_;refine hK2 _ _ ?_;refine wp_ret ?_;exact ret1 Tryz.results115 rfl ⟨rfl,g1⟩
theorem zrp(x y:Int × ByteArray × Bool){b:Nat}{w:World}(hb:w.cell? ⟨b,0,none⟩=some (.func (.func 115) #[] #[])) :
  Calls Tryz.prog 124 #[.agg (encC x).toArray,.agg (encC y).toArray,.pointer (some ⟨b,0,none⟩)] w (Ret fun v w'=>v=.int .i64 (cmpI x.1 y.1)/\Gr w w'):=by
 refine(enter (l:=[.agg (encC x).toArray,.agg (encC y).toArray,.pointer (some ⟨b,0,none⟩)]) Tryz.func124 rfl Tryz.ntmps124 rfl ?_);refine qan fun K1 hK1=>?_;refine qay ?_;refine q1c (v:=.agg (encC x).toArray) (zs:=encC x) rfl rfl rfl rfl fun β1 w1 hβ1 g1 hz1 hx1=>?_;refine q1c (v:=.agg (encC y).toArray) (zs:=encC y) rfl rfl rfl rfl fun β2 w2 hβ2 g2 hz2 hx2=>?_;refine qa1 (v:=.int .i64 0) rfl rfl rfl ?_;refine wpList_nil ?_;refine hK1 _ _ ?_;have hx1':=hx1.mono0 g2.upd;have hb2:=(g1.trans g2).upd.cell hb;refine qan fun K2 hK2=>?_;refine wp_region_quiet (C:=Gr w2) mixed (by kernel_rfl) (Gr.drew w2) ?_;refine qne (v:=.func (.func 115) #[] #[]) rfl rfl rfl (fun wq gq=>qp5 qz5 rfl rfl rfl rfl (gq.upd.cell hb2) q1) ?_;refine qne (v:=.agg (encC x).toArray) rfl rfl rfl (fun wq gq=>q0m (ds:=encC x) ty92 rfl rfl rfl rfl (hx1'.mono0 gq.upd) rfl rfl q1) ?_;refine q5h (f:=115) (l:=[.tmp 7]) (args:=[.agg (encC x).toArray]) (v:=.int .i64 x.1) q6u rfl rfl rfl rfl (fun wq gq=>(q6o x wq).mono fun e w' h=>by
  cases e with
  | returned v=>exact⟨h.1,gq.trans h.2⟩
  | _=>exact h.elim) ?_
 refine qne (v:=.func (.func 115) #[] #[]) rfl rfl rfl (fun wq gq=>qp5 qz5 rfl rfl rfl rfl (gq.upd.cell hb2) q1) ?_;refine qne (v:=.agg (encC y).toArray) rfl rfl rfl (fun wq gq=>q0m (ds:=encC y) ty92 rfl rfl rfl rfl (hx2.mono0 gq.upd) rfl rfl q1) ?_;refine q5h (f:=115) (l:=[.tmp 10]) (args:=[.agg (encC y).toArray]) (v:=.int .i64 y.1) q6u rfl rfl rfl rfl (fun wq gq=>(q6o y wq).mono fun e w' h=>by
  cases e with
  | returned v=>exact⟨h.1,gq.trans h.2⟩
  | _=>exact h.elim) ?_
 refine zki (f:=125) (l:=[.tmp 8,.tmp 11]) (args:=[.int .i64 x.1,.int .i64 y.1]) (v:=.int .i64 (cmpI x.1 y.1)) zm5 rfl rfl rfl (fun wq gq=>(zec x.1 y.1 wq).mono fun e w' h=>by
  cases e with
  | returned v=>exact⟨h.1,gq.trans h.2⟩
  | _=>exact h.elim) ?_
 refine qne (v:=.int .i64 (cmpI x.1 y.1)) rfl rfl rfl (fun wq gq=>qa1 (v:=.int .i64 (cmpI x.1 y.1)) rfl rfl rfl q1) ?_;refine wpQuiet_nil fun w3 g3=>?_;refine hK2 _ _ ?_;refine wp_ret ?_;exact ret1 Tryz.results124 rfl ⟨rfl,(g1.trans g2).trans g3⟩
end
end Go.Proofs.YtnhmanoiolfapaaGreat
end

section
set_option maxRecDepth 100000
namespace Go.Proofs.YtnhmanoiolfapaaGreat
open Go Go.Sx Go.RowKit Go.Sort Go.Shelf
abbrev DC:Type:=Int × ByteArray × Bool
instance:Dat DC where
 sz:=3
 enc _ _ cs x:=cs=encC x
 len h:=by rw[h];rfl
 mono h _:=h
 ones h:=by rw[h];rfl
theorem zxr{w:World}{a:Option Addr}{cap:Nat}{l:List DC}(hS:SL [] w a cap l)(hl:l.length<=1000):Calls Tryz.prog 122 #[.slice a l.length cap] w (Ret fun v w'=>∃a' c' m',v=.slice a' l.length c'/\Go.Sx.Own m' [] w' a' c' l/\Evo [] w m' w'):=by
 have hM:Lo [] w:=fun b hb=>by cases hb
 refine enter (l:=[.slice a l.length cap]) Tryz.func122 rfl Tryz.ntmps122 rfl ?_;refine qan fun KhK1 hK1=>?_;refine qay ?_;refine qa1 (v:=.slice none 0 0) rfl rfl rfl ?_;refine wpList_nil ?_;refine hK1 _ _ ?_;refine qan fun KhK2 hK2=>?_;refine qan fun KhK3 hK3=>?_;refine qay ?_;refine qaz (v:=.slice a l.length cap) rfl rfl rfl ?_;refine qum ty35 rfl rfl rfl rfl ?_;refine wpList_nil ?_;refine hK3 _ _ ?_;refine qqq rfl rfl (fun hb4=>?_) (fun hb4=>?_)
 ·obtain rfl:=hS.isNone hb4;refine qan fun KhK5 hK5=>?_;refine qay ?_;refine qa1 (v:=.slice none 0 0) rfl rfl rfl ?_;refine wpList_nil ?_;refine hK5 _ _ ?_;refine wp_ret ?_;exact ret1 Tryz.results122 rfl ⟨none,0,[],rfl,Go.Sx.Own.nil,Evo.refl [] w⟩
 ·refine wp_skip ?_;refine hK2 _ _ ?_;refine qan fun KhK7 hK7=>?_;refine qay ?_;refine q1a (α:=DC) (m:=[]) (M:=[]) ty35 ty92 rfl (hM.mono (Evo.refl [] w).size) fun β14 w15 hβ16 u17 hz18 ho19=>?_;have e20:=u17.evoN (m:=[]) hβ16 hz18;refine qaz (v:=.slice a l.length cap) rfl rfl rfl ?_;refine qo0 (l:=([]:List DC)) ty35 ty35 ty92 rfl rfl rfl rfl rfl rfl rfl ho19 (hS.mono (e20.tr [])) (hM.mono e20.size) (by show (0+l.length)*32<=140737488355328;omega) fun a22 c23 w24 m25 ho26 e27 u28 hbk29 hsub30=>?_;refine qa1 (v:=.slice a22 (([]:List DC)++l).length c23) rfl rfl rfl ?_;refine wpList_nil ?_;refine hK7 _ _ ?_;refine wp_ret ?_;exact ret1 Tryz.results122 rfl ⟨a22,c23,m25,rfl,ho26,e20.trans e27⟩
theorem zj8{w:World}{g off n:Nat}{d:Array DC}{os:Array Obj}:Upd [g] w (sortWorldK encC 3 w g off n d os):=by
 refine⟨rfl,rfl,rfl,?_,fun b hb hn=>?_⟩
 ·show w.heap.size<=((w.heap.modify g _)++os).size;simp
 ·show ((w.heap.modify g _)++os)[b]?=_;rw[Array.getElem?_append_left (by simpa using hb),Array.getElem?_modify,if_neg (by simp at hn;omega)]
theorem zss:SWO (ltOf fun x y:DC=>cmpI x.1 y.1):=by
 have e:∀x y:DC,ltOf (fun x y:DC=>cmpI x.1 y.1) x y=decide (x.1<y.1):=fun x y=>by
  unfold ltOf cmpI;by_cases h1:x.1<y.1
  ·simp[h1]
  ·by_cases h2:y.1<x.1<;>simp [h1,h2]
 refine⟨fun x=>?_,fun x y z h1 h2=>?_,fun x y z h1 h2=>?_⟩
 ·rw[e];simp
 ·rw[e] at *;simp only[decide_eq_true_eq] at *;omega
 ·rw[e] at *;simp only[decide_eq_false_iff_not] at *;omega
def RowC(b0:Nat)(w:World)(a:Option Addr)(cap:Nat)(l:List DC):Prop :=
 (l.length<=cap/\cap<9223372036854775808)/\(l=[]\/∃g,a=some ⟨g,0,none⟩/\b0<=g/\∀i (h:i<l.length) j,j<3->w.cell? ⟨g,i*3+j,none⟩=(encC l[i])[j]?)
def qq9(l:List DC):Prop:=∀(i j:Nat) (hi:i<l.length) (hj:j<l.length),i<j->¬(l[j]).1<(l[i]).1
section
attribute [local irreducible] Go.wpList Go.wpQuiet Go.Code.wp
theorem zp7{w:World}{a:Option Addr}{cap:Nat}{l:List DC}(hS:SL [] w a cap l)(hl:l.length<=1000) :
  Calls Tryz.prog 114 #[.slice a l.length cap,.func (.func 115) #[] #[]] w (Ret fun v w'=>∃a' c' l',v=.slice a' l'.length c'/\(List.Perm l' l/\qq9 l')/\RowC w.heap.size w' a' c' l'/\Upd [] w w'):=by
 refine enter (l:=[.slice a l.length cap,.func (.func 115) #[] #[]]) Tryz.func114 rfl Tryz.ntmps114 rfl ?_;refine qan fun K1 hK1=>?_;refine qay ?_;refine zv8 (v:=.func (.func 115) #[] #[]) (zs:=[.func (.func 115) #[] #[]]) rfl rfl rfl rfl fun βt w1 hβ1 u1 hz1 hx1=>?_;refine qa1 (v:=.slice none 0 0) rfl rfl rfl ?_;refine wpList_nil ?_;refine hK1 _ _ ?_;refine qan fun K2 hK2=>?_;refine qay ?_;refine qaz (v:=.slice a l.length cap) rfl rfl rfl ?_;refine qhn (l:=[.tmp 6]) (args:=[.slice a l.length cap]) zw0 rfl rfl rfl (zxr (hS.mono u1.tr0) hl) ?_;rintro _ w2 ⟨a2,c2,m2,rfl,ho2,e2⟩;refine qa1 (v:=.slice a2 l.length c2) rfl rfl rfl ?_;refine wpList_nil ?_;refine hK2 _ _ ?_;have u2:=e2.old;have hx2:=hx1.mono0 u2;have hold:Upd [] w w2:=u1.trans u2;refine qan fun K3 hK3=>?_;refine qay ?_;refine qaz (v:=.slice a2 l.length c2) rfl rfl rfl ?_;refine zo7 (vs:=[.pointer (some ⟨βt,0,none⟩)]) rfl rfl rfl ?_;have hsort:Calls Tryz.prog 123 #[.slice a2 l.length c2,.func (.func 124) #[] #[.pointer (some ⟨βt,0,none⟩)]] w2 (Ret fun v w'=>∃l',l'.length=l.length/\(List.Perm l' l/\qq9 l')/\RowC w.heap.size w' a2 c2 l'/\Upd [] w w'):=by
  rcases ho2 with ⟨rfl,rfl,rfl⟩|⟨g,cells,rfl,hgm,_,hbx,hcl,hcap,hel⟩
  ·refine(zgq none 0 _ w2).mono fun e w' h=>?_;obtain⟨rfl,rfl⟩:=h;exact⟨[],rfl,⟨List.Perm.refl _,fun i j hi=>by simp at hi⟩,⟨⟨Nat.le_refl _,by omega⟩,.inl rfl⟩,hold⟩
  ·have hgw:w1.heap.size<=g:=by
    rcases e2.own g hgm with h|h
    ·cases h
    ·exact h
   have hne:βt≠g:=by have:=hx1.lt;omega
   have hcl2:l.length*3<=cells.length:=by rw[hcl];show _<=c2*3;omega
   have hcell:∀i (h:i<l.length) j,j<3->cells[i*3+j]?=(encC l[i])[j]?:=fun i h j hj=>by
    obtain⟨cs,h1,h2⟩:=hel i h;have h1:cs=encC l[i]:=h1;rw[<- h1];exact h2 j hj
   have hfz:∀o,w2.frozen? ⟨g,o,none⟩=false:=fun o=>by
    obtain⟨t,ht⟩:=hbx;simp[World.frozen?,ht]
   have hH:HoldsK encC 3 w2 g 0 l.toArray:=fun t ht=>by
    rw[size_flatK] at ht;refine⟨?_,by rw[hfz]⟩;have ht3:t<l.length*3:=by simpa using ht
    rw[Nat.zero_add,hbx.cell,get_flatK encC 3 l.toArray t (by simpa using ht3)];have h1:t / 3<l.length:=by omega
    have h2:=hcell (t / 3) h1 (t % 3) (by omega);rw[show t / 3*3+t % 3=t by omega] at h2;rw[h2];have e3:(l.toArray)[t / 3]! = l[t / 3]:=by simp[h1]
    rw[e3];have h4:t % 3<(encC l[t / 3]).length:=by show t % 3<3;omega
    rw[List.getElem?_eq_getElem h4];show _=some ((encC l[t / 3])[t % 3]!);rw[getElem!_pos (encC l[t / 3]) (t % 3) h4]
   have hbt:w2.cell? ⟨βt,0,none⟩=some (.func (.func 115) #[] #[]):=by rw[hx2.cell];rfl
   have eg:∀args w,(callFunc 124 args).run Tryz.prog w=.ok (.enter 124 args) w:=enters_of Tryz.func124 (by kernel_rfl) rfl;have hcmp:CmpLays Tryz.prog 124 #[.pointer (some ⟨βt,0,none⟩)] encC 3 (fun x y:DC=>cmpI x.1 y.1) g 0 l.toArray.size w2:=fun m os dk hs x y=>by
    refine(zrp x y (b:=βt) ?_).mono fun e w' h=>?_
    ·rw[cell?_sortWorldK_other encC 3 w2 g 0 m dk os ⟨βt,0,none⟩ hne hx2.lt];exact hbt
    ·cases e with
     | returned v=>obtain⟨rfl,q,os',h2⟩:=h;exact⟨rfl,q,os',h2⟩
     | _=>exact h.elim
   have hcon:=zt5 (fun x y:DC=>cmpI x.1 y.1) zss 124 #[.pointer (some ⟨βt,0,none⟩)] g 0 c2 l.toArray w2 eg hcmp hH hbx.lt (by simp;omega);have el:l.toArray.size=l.length:=by simp
   rw[el] at hcon;refine hcon.mono fun e w' h=>?_;obtain⟨rfl,d',n,os,hp,hs,rfl⟩:=h;obtain⟨hp1,_,hp3⟩:=hp;have hd:d'.toList.length=l.length:=by rw[Array.length_toList,hp1,el]
   have hd2:d'.size=l.length:=by rw[hp1,el]
   have hperm:List.Perm d'.toList l:=by
    have e1:d'.extract 0 l.length=d':=by rw[<- hd2];exact Array.extract_size
    have e2:l.toArray.extract 0 l.length=l.toArray:=by rw[<- el];exact Array.extract_size
    rw[e1,e2] at hp3;exact hp3
   have hH2:=holdsK_sortWorldK_c encC 3 w2 g 0 l.toArray d' n os hH hbx.lt hp1;refine⟨d'.toList,hd,⟨hperm,fun i j hi hj hij=>?_⟩,⟨⟨by rw[hd];exact hcap.1,hcap.2⟩,.inr ⟨g,rfl,Nat.le_trans u1.size hgw,fun i hi j hj=>?_⟩⟩,hold.old_upd zj8 (Nat.le_trans u1.size hgw)⟩
   ·have:=hs i j (Nat.zero_le _) hij (by rw[<- hd];exact hj);have hi':i<d'.size:=by simpa using hi
    have hj':j<d'.size:=by simpa using hj
    rw[getElem!_pos d' i hi',getElem!_pos d' j hj'] at this;unfold ltOf cmpI at this;simp only[decide_eq_false_iff_not] at this;show ¬(d'.toList[j]).1<(d'.toList[i]).1;rw[Array.getElem_toList,Array.getElem_toList];intro hlt;rw[if_pos hlt] at this;omega
   ·have hi':i<d'.size:=by simpa using hi
    have ht:i*3+j<(flatK encC 3 d').size:=by rw[size_flatK];omega
    have:=(hH2 (i*3+j) ht).1;rw[Nat.zero_add] at this;rw[this,get_flatK encC 3 d' (i*3+j) (by omega)];have e1:(i*3+j) / 3=i:=by omega
    have e2:(i*3+j) % 3=j:=by omega
    rw[e1,e2,getElem!_pos d' i hi',Array.getElem_toList];have h4:j<(encC d'[i]).length:=hj;rw[List.getElem?_eq_getElem h4];show some ((encC d'[i])[j]!)=_;rw[getElem!_pos (encC d'[i]) j h4]
 refine qhn (l:=[.tmp 8,.tmp 9]) (args:=[.slice a2 l.length c2,.func (.func 124) #[] #[.pointer (some ⟨βt,0,none⟩)]]) zvr rfl rfl rfl hsort ?_;rintro _ w3 ⟨l',hl',hps,hrow,hu⟩;refine wpList_nil ?_;refine hK3 _ _ ?_;refine qan fun K4 hK4=>?_;refine qay ?_;refine qaz (v:=.slice a2 l.length c2) rfl rfl rfl ?_;refine qa1 (v:=.slice a2 l.length c2) rfl rfl rfl ?_;refine wpList_nil ?_;refine hK4 _ _ ?_;refine wp_ret ?_;exact ret1 Tryz.results114 rfl ⟨a2,c2,l',by rw[hl'];rfl,hps,hrow,hu⟩
end
end Go.Proofs.YtnhmanoiolfapaaGreat
end

section
set_option maxRecDepth 100000
namespace Go.Sx
open Go Go.RowKit
section
variable {P : Program} {w : World}
theorem zfc{ty:TypeId}{β bm since c0:Nat}{seen:Array Nat}{es:Array MapEntry}{clock:Nat}(hi:w.heap[β]?=some (.mapIter (some bm) since seen c0))(hb:w.heap[bm]?=some (.map es clock))(hold:∀x∈es.toList,x.born<since)(hsc:since<=c0) :
  ((leftOf es seen).size=0/\(Instr.next (.pointer (some ⟨β,0,none⟩)) false ty).run P w=.ok (.tuple #[.bool false]) w) \/
  ∃e∈(leftOf es seen).toList,∃w1:World,Upd [β] w w1/\w1.heap[β]?=some (.mapIter (some bm) since (seen.push e.born) clock)/\(Instr.next (.pointer (some ⟨β,0,none⟩)) false ty).run P w=.ok (.tuple #[.bool true,e.key,e.val]) w1:=by
 have hlt:=qav hi;simp only[Instr.next,getObj,Sem.run_bind,Sem.run,hi,hb,Result.andThen,next_test_false seen es since c0 hold hsc,Bool.false_eq_true,if_false];unfold leftOf;have hmem:∀x∈(Array.filter (fun e=>!seen.contains e.born) es).toList,x.born<since:=fun x hx=>hold x (by simp at hx ⊢;exact hx.1);generalize Array.filter (fun e=>!seen.contains e.born) es=L at hmem ⊢;have e1:L.filter (fun x=>decide (x.born<since))=L:=Array.filter_eq_self.2 (fun x hx=>by simpa using hmem x (by simpa using hx));have e2:L.filter (fun x=>decide (x.born ≥ since))=#[]:=by
  rw[Array.filter_eq_empty_iff];intro x hx;have:=hmem x (by simpa using hx);simp;omega
 simp only[e1,e2,Array.append_empty];by_cases h0:L.size=0
 ·left;have:L=#[]:=Array.eq_empty_of_size_eq_zero h0;subst this;refine⟨rfl,?_⟩;simp[choose,Sem.run,Question.forced]
 ·right;have hne:L.isEmpty=false:=by simp[Array.isEmpty,h0]
  simp only[hne,Bool.false_eq_true,if_false,Array.empty_append,Array.size_map];have hch:∃(j:Nat) (w1:World),j<L.size/\w1.Alike w/\w1.tape=w.tape/\(choose (Question.mapNext L.size)).run P w=.ok j w1:=by
   by_cases hf:L.size<=1
   ·exact⟨0,w,by omega,⟨rfl,rfl,rfl⟩,rfl,by simp[choose,Sem.run,Question.forced,hf]⟩
   ·exact⟨_,{ w with drawn:=w.drawn+1 },Nat.mod_lt _ (by omega),⟨rfl,rfl,rfl⟩,rfl,by
     simp only[choose,Sem.run,Question.forced,decide_eq_true_eq,hf,if_false,Question.cut];rfl⟩
  obtain⟨j,w1,hj,hal,htp,hrun⟩:=hch;have hi1:w1.heap[β]?=some (.mapIter (some bm) since seen c0):=by rw[hal.1];exact hi
  refine⟨L[j],by simp,{ w1 with heap:=w1.heap.setIfInBounds β (.mapIter (some bm) since (seen.push L[j].born) clock) },⟨hal.2.1,htp,hal.2.2,?_,fun b hb hn=>?_⟩,?_,?_⟩
  ·show w.heap.size<=(w1.heap.setIfInBounds β _).size;rw[Array.size_setIfInBounds,hal.1];exact Nat.le_refl _
  ·show (w1.heap.setIfInBounds β _)[b]?=_;rw[Array.getElem?_setIfInBounds,if_neg (by simp at hn;omega),hal.1]
  ·show (w1.heap.setIfInBounds β _)[β]?=_;rw[Array.getElem?_setIfInBounds,if_pos rfl,if_pos (by rw[hal.1];exact hlt)]
  ·simp only[hrun,Array.getElem?_map,Array.getElem?_eq_getElem hj,Option.map_some,Sem.run_bind,setObj,Sem.run,hi1,Result.andThen];rfl
theorem zp9{β bm since:Nat}{seen:Array Nat}{es:Array MapEntry}{clock:Nat}{e:MapEntry}(hi:w.heap[β]?=some (.mapIter (some bm) since (seen.push e.born) clock))(hb:w.heap[bm]?=some (.map es clock))(he:e∈es.toList)(hn:(es.toList.map (·.born)).Nodup) :
  (Instr.entry (.pointer (some ⟨β,0,none⟩))).run P w=.ok (.tuple #[e.key,e.val]) w:=by
 have hf:es.find? (·.born==e.born)=some e:=by rw[<- Array.find?_toList];exact find_born e es.toList hn he
 simp only[Instr.entry,getObj,Sem.run_bind,Sem.run,hi,hb,Result.andThen,Array.back?_push,bne_self_eq_false,Bool.false_eq_true,if_false,hf];rfl
end
section
variable {P : Program} {n : Nat} {σ : Nat -> Value} {w : World} {Q : Exit -> Act -> World -> Prop} {ops : Array Oper} {rest : List Oper} {d : Nat} {ty : TypeId} {pos : String} {aft : Array Edge} {g : Option (Nat × Bool)} {T : TypeId} {x : Operand}
theorem zw8{K E:TypeId}{bm:Nat}{es:Array MapEntry}{clock:Nat}(hT:P.underlying T=some (.map K E))(hb:w.heap[bm]?=some (.map es clock))(hg:qar ops σ n g=true)(hx:okO n x=true)(ex:ev σ x=.map (some bm))
  (k:∀β w',w.heap.size=β->Upd [] w w'->w'.heap[β]?=some (.mapIter (some bm) clock #[] clock)->wpList P ops Q rest (Fr n (upd σ d (.pointer (some ⟨β,0,none⟩)))) w'):wpList P ops Q (⟨some d,.range T x,ty,pos,aft,g⟩::rest) (Fr n σ) w :=
 qa6 hg (by simp only[execOp,qaw hx,ex,run_range_map w T K E bm es clock hT hb,Sem.run_bind,Sem.run_pure,Result.andThen_ok]) (k _ _ rfl (Upd.alloc _ _) (World.alloc_heap_new _ _))
theorem zel{β bm since c0:Nat}{seen:Array Nat}{es:Array MapEntry}{clock:Nat}(hi:w.heap[β]?=some (.mapIter (some bm) since seen c0))(hb:w.heap[bm]?=some (.map es clock))(hold:∀x∈es.toList,x.born<since)(hsc:since<=c0)
  (hg:qar ops σ n g=true) (hx:okO n x=true) (ex:ev σ x=.pointer (some ⟨β,0,none⟩))
  (k0:(leftOf es seen).size=0->wpList P ops Q rest (Fr n (upd σ d (.tuple #[.bool false]))) w)
  (k1:∀e w1,e∈(leftOf es seen).toList->Upd [β] w w1->w1.heap[β]?=some (.mapIter (some bm) since (seen.push e.born) clock)->wpList P ops Q rest (Fr n (upd σ d (.tuple #[.bool true,e.key,e.val]))) w1) :
  wpList P ops Q (⟨some d,.next x false,ty,pos,aft,g⟩::rest) (Fr n σ) w:=by
 rcases zfc (P:=P) (ty:=ty) hi hb hold hsc with ⟨h1,h2⟩|⟨e,he,w1,h1,h2,h3⟩
 ·exact qa6 hg (by simp only[execOp,qaw hx,ex,h2,Sem.run_bind,Sem.run_pure,Result.andThen_ok]) (k0 h1)
 ·exact qa6 hg (by simp only[execOp,qaw hx,ex,h3,Sem.run_bind,Sem.run_pure,Result.andThen_ok]) (k1 e w1 he h1 h2)
theorem zzh{β bm since:Nat}{seen:Array Nat}{es:Array MapEntry}{clock:Nat}{e:MapEntry}(hi:w.heap[β]?=some (.mapIter (some bm) since (seen.push e.born) clock))(hb:w.heap[bm]?=some (.map es clock))(he:e∈es.toList)(hn:(es.toList.map (·.born)).Nodup)
  (hg:qar ops σ n g=true) (hx:okO n x=true) (ex:ev σ x=.pointer (some ⟨β,0,none⟩)) (k:wpList P ops Q rest (Fr n (upd σ d (.tuple #[e.key,e.val]))) w) :
  wpList P ops Q (⟨some d,.entry x,ty,pos,aft,g⟩::rest) (Fr n σ) w :=
 qa6 hg (by simp only[execOp,qaw hx,ex,zp9 (P:=P) hi hb he hn,Sem.run_bind,Sem.run_pure,Result.andThen_ok]) k
end
theorem zg5{es:Array MapEntry}{seen:Array Nat}{e:MapEntry}(hn:(es.toList.map (·.born)).Nodup)(he:e∈(leftOf es seen).toList):List.Perm (leftOf es seen).toList (e::(leftOf es (seen.push e.born)).toList):=by
 have h1:(leftOf es (seen.push e.born)).toList=(leftOf es seen).toList.filter fun x=>!(x.born==e.born):=by
  unfold leftOf;rw[Array.toList_filter,Array.toList_filter,List.filter_filter];congr 1;funext x;rw[Array.contains_push];cases seen.contains x.born<;>cases hx:(e.born==x.born)<;>simp_all [BEq.comm]
 rw[h1];have hn2:((leftOf es seen).toList.map (·.born)).Nodup:=by
  unfold leftOf;rw[Array.toList_filter];exact hn.sublist (List.filter_sublist.map _)
 generalize (leftOf es seen).toList=L at he hn2;induction L with
 | nil=>cases he
 | cons x L ih =>
  obtain⟨n1,n2⟩:=List.nodup_cons.1 hn2;rcases List.mem_cons.1 he with rfl|he
  ·have:(e::L).filter (fun x=>!(x.born==e.born))=L:=by
    rw[List.filter_cons_of_neg (by simp)];refine List.filter_eq_self.2 fun y hy=>?_;have:y.born≠e.born:=fun e'=>n1 (List.mem_map.2 ⟨y,hy,e'⟩);simpa using this
   rw[this]
  ·have hne:x.born≠e.born:=fun e'=>n1 (List.mem_map.2 ⟨e,he,e'.symm⟩);rw[List.filter_cons_of_pos (by simpa using hne)];exact((ih he n2).cons x).trans (List.Perm.swap e x _)
end Go.Sx
namespace Go.Proofs.YtnhmanoiolfapaaGreat
open Go Go.Sx Go.RowKit Go.Sort Go.Shelf
def qbi(e:MapEntry):DC:=(match e.key with|.int _ k=>k|_=>0,match e.val with|.string s=>s|_=>⟨#[]⟩,false)
theorem zww:Szs Tryz.prog 92 [(0,1),(1,1),(2,1)]:=Go.Jx.szs_of ttOK (ty:=92) rfl rfl rfl
section
attribute [local irreducible] Go.wpList Go.wpQuiet Go.Code.wp
theorem zor{w:World}{bm:Nat}{es:Array MapEntry}{clock:Nat}(hb:w.heap[bm]?=some (.map es clock))(hn:(es.toList.map (·.born)).Nodup)(hold:∀x∈es.toList,x.born<clock)(hkv:∀e∈es.toList,e.key=.int .i64 (qbi e).1/\e.val=.string (qbi e).2.1)(hl:es.size<=1000) :
  Calls Tryz.prog 98 #[.map (some bm)] w (Ret fun v w'=>∃a' c' l',v=.slice a' l'.length c'/\(List.Perm l' (es.toList.map qbi)/\qq9 l')/\RowC w.heap.size w' a' c' l'/\Upd [] w w'):=by
 have hltm:=qav hb;refine enter (l:=[.map (some bm)]) Tryz.func98 rfl Tryz.ntmps98 rfl ?_;refine qan fun K1 hK1=>?_;refine qay ?_;refine qa1 (v:=.slice none 0 0) rfl rfl rfl ?_;refine wpList_nil ?_;refine hK1 _ _ ?_;refine qan fun K2 hK2=>?_;refine qay ?_;refine qa1 (v:=.slice none 0 0) rfl rfl rfl ?_;refine wpList_nil ?_;refine hK2 _ _ ?_;refine qan fun K3 hK3=>?_;refine qan fun K4 hK4=>?_;refine qay ?_;refine qaz (v:=.map (some bm)) rfl rfl rfl ?_;refine zw8 q3h.und hb rfl rfl rfl fun β w1 hβ u1 hi1=>?_;refine wpList_nil ?_;refine hK4 _ _ ?_;have hb1:w1.heap[bm]?=some (.map es clock):=(u1.same bm hltm (by simp)).trans hb;have hM0:Lo ([]:List Nat) w1:=fun b hb=>by cases hb
 have hperm0:(leftOf es #[]).toList=es.toList:=by
  unfold leftOf;rw[Array.toList_filter];exact List.filter_eq_self.2 fun x _=>by simp
 refine wp_block ?_;refine qxc (X:=(Array Nat × List DC) × (Option Addr × Nat × List Nat)) (3::4::5::(List.range 19).drop 8) (fun x=>[(3,.slice x.2.1 x.1.2.length x.2.2.1)])
  (fun x wi=>(wi.heap[β]?=some (.mapIter (some bm) clock x.1.1 clock)/\wi.heap[bm]?=some (.map es clock))/\List.Perm (x.1.2++(leftOf es x.1.1).toList.map qbi) (es.toList.map qbi)/\Go.Sx.Own x.2.2.2 [] wi x.2.1 x.2.2.1 x.1.2/\(β∈x.2.2.2/\(∀b∈blk x.2.1,β<b)/\∀b∈x.2.2.2,b<wi.heap.size)/\Upd [] w wi)
  (fun x=>(leftOf es x.1.1).size) ((#[],[]),(none,0,[β])) ⟨rfl,trivial⟩ ⟨⟨hi1,hb1⟩,by rw[hperm0];exact List.Perm.refl _,Go.Sx.Own.nil,⟨by simp,fun b hb=>(by cases hb),fun b hb=>by rw[List.mem_singleton.1 hb];exact qav hi1⟩,u1⟩ ?_
 rintro⟨⟨seen,out⟩,ao,co,mo⟩ τ w2 ⟨⟨hi2,hb2⟩,hp2,ho2,hm2,hu2⟩;have hlo:out.length<=es.size:=by
  have:=hp2.length_eq;simp only[List.length_append,List.length_map,Array.length_toList] at this;omega
 refine qan fun K5 hK5=>?_;refine qay ?_;refine zel hi2 hb2 hold (Nat.le_refl _) rfl rfl rfl (fun h0=>?_) (fun e w3 he hu3 hi3=>?_)
 ·refine qiz (v:=.bool false) rfl rfl rfl rfl ?_;refine wpList_nil ?_;refine hK5 _ _ ?_;refine qan fun K6 hK6=>?_;refine qmj rfl rfl ?_;refine wp_exit ?_;refine hK3 _ _ ?_;have hnil:(leftOf es seen).toList=[]:=by
   have:leftOf es seen=#[]:=Array.eq_empty_of_size_eq_zero h0;rw[this]
  rw[hnil,List.map_nil,List.append_nil] at hp2;have hold2:Upd [] w w2:=hu2;refine qan fun K7 hK7=>?_;refine qay ?_;refine qaz (v:=.slice ao out.length co) rfl rfl rfl ?_;refine qhn (l:=[.tmp 19,.func 115]) (args:=[.slice ao out.length co,.func (.func 115) #[] #[]]) zvl rfl rfl rfl (zp7 (ho2.shut (N:=[]) (fun b hb=>by cases hb) (fun b _=>by simp)) (by omega)) ?_;rintro _ w4 ⟨a',c',l',rfl,⟨hps,hso⟩,hrow,hu4⟩;refine qa1 (v:=.slice a' l'.length c') rfl rfl rfl ?_;refine wpList_nil ?_;refine hK7 _ _ ?_;refine wp_ret ?_;refine ret1 Tryz.results98 rfl ⟨a',c',l',rfl,⟨hps.trans hp2,hso⟩,⟨hrow.1,?_⟩,hold2.trans hu4⟩;rcases hrow.2 with h|⟨g,h1,h2,h3⟩
  ·exact .inl h
  ·exact .inr ⟨g,h1,Nat.le_trans hold2.size h2,h3⟩
 ·refine qiz (v:=.bool true) rfl rfl rfl rfl ?_;refine wpList_nil ?_;refine hK5 _ _ ?_;refine qan fun K6 hK6=>?_;refine q8l rfl rfl ?_;refine wp_skip ?_;refine hK6 _ _ ?_;have hein:e∈es.toList:=by
   unfold leftOf at he;rw[Array.toList_filter] at he;exact(List.mem_filter.1 he).1
  obtain⟨hk,hv⟩:=hkv e hein;have hbm3:bm≠β:=by omega
  have hb3:w3.heap[bm]?=some (.map es clock):=(hu3.same bm (qav hb2) (by simpa using hbm3)).trans hb2;refine wp_block ?_;refine qan fun K7 hK7=>?_;refine qay ?_;refine zzh hi3 hb3 hein hn rfl rfl rfl ?_;rw[hk,hv];refine qiz (v:=.int .i64 (qbi e).1) rfl rfl rfl rfl ?_;refine qiz (v:=.string (qbi e).2.1) rfl rfl rfl rfl ?_;refine qa1 (v:=.int .i64 (qbi e).1) rfl rfl rfl ?_;refine qa1 (v:=.string (qbi e).2.1) rfl rfl rfl ?_;refine wpList_nil ?_;refine hK7 _ _ ?_;have hlp:=zg5 hn he;have hsz:(leftOf es seen).size=(leftOf es (seen.push e.born)).size+1:=by
   have:=hlp.length_eq;simpa using this
  have hu03:Upd [] w w3:=Upd.old_upd hu2 hu3 (by omega);have hM3:Lo ([]:List Nat) w3:=fun b hb=>by cases hb
  have hev3:Evo mo w2 mo w3:=hu3.evo (by intro b hb;simp at hb;rw[hb];exact hm2.1);have ho3:Go.Sx.Own mo [] w3 ao co out:=ho2.mono hu3 (fun b hb=>by have:=hm2.2.1 b hb;simp;omega) hev3 (ho2.mem);refine qay ?_;refine qaz (v:=.slice ao out.length co) rfl rfl rfl ?_;refine qaz (v:=.int .i64 (qbi e).1) rfl rfl rfl ?_;refine qaz (v:=.string (qbi e).2.1) rfl rfl rfl ?_;refine zrv (r:=encC (qbi e)) ty92 zww rfl rfl rfl rfl rfl ?_;refine zk1 (r:=encC (qbi e)) ty35 ty92 rfl rfl rfl rfl rfl rfl fun β4 w4 hβ4 hu4 hz4 hx4=>?_;have hβ4':β4 ∉ mo++[]:=fun h=>by
   rw[List.append_nil] at h;have h1:=hm2.2.2 β4 h;have h2:=hu3.size;omega
  have ev4:Evo mo w3 mo w4:=hu4.evo0;have ho4:Go.Sx.Own mo [] w4 ao co out:=ho3.mono hu4 (fun b hb=>by simp) ev4 ho2.mem;have hs4:SL (mo++[]) w4 (some ⟨β4,0,none⟩) 1 [qbi e]:=SL.of_box1 hx4 hβ4' rfl;have hM4:Lo ([]:List Nat) w4:=fun b hb=>by cases hb
  refine qo0 ty35 ty35 ty92 rfl rfl rfl rfl rfl rfl rfl ho4 hs4 hM4 (by show (out.length+1)*32<=140737488355328;omega) fun a5 c5 w5 m5 ho5 ev5 hu5 hbk5 hsub5=>?_;refine qa1 (v:=.slice a5 (out++[qbi e]).length c5) rfl rfl rfl ?_;refine wpList_nil ?_;have hu04:Upd [] w w4:=hu03.trans hu4;have hi4:w4.heap[β]?=some (.mapIter (some bm) clock (seen.push e.born) clock):=(hu4.same β (qav hi3) (by simp)).trans hi3;have hb4:w4.heap[bm]?=some (.map es clock):=(hu4.same bm (qav hb3) (by simp)).trans hb3;have hnb:∀b∈blk ao,β<b:=hm2.2.1;have hi5:w5.heap[β]?=some (.mapIter (some bm) clock (seen.push e.born) clock):=(hu5.same β (qav hi4) (fun h=>by have:=hnb β h;omega)).trans hi4;have hb5:w5.heap[bm]?=some (.map es clock):=(hu5.same bm (qav hb4) (fun h=>by have:=hnb bm h;omega)).trans hb4;have hlt4:β<w4.heap.size:=qav hi4;refine⟨((seen.push e.born,out++[qbi e]),(a5,c5,m5)),by show (leftOf es (seen.push e.born)).size<(leftOf es seen).size;omega,⟨⟨hi5,hb5⟩,?_,ho5,⟨hsub5 β hm2.1,fun b hb=>?_,?_⟩,⟨hu5.os.trans hu04.os,hu5.tape.trans hu04.tape,hu5.output.trans hu04.output,Nat.le_trans hu04.size hu5.size,fun x hx hn=>(hu5.same x (Nat.lt_of_lt_of_le hx hu04.size) (fun h=>by have:=hnb x h;omega)).trans (hu04.same x hx hn)⟩⟩,_,rfl,(by repeat first|exact qa9.refl _ _|refine qa9.upd rfl ?_|refine qa9.upds rfl ?_|refine qa9.mix rfl ?_),rfl,trivial⟩
  ·refine List.Perm.trans ?_ hp2;show List.Perm ((out++[qbi e])++(leftOf es (seen.push e.born)).toList.map qbi) (out++(leftOf es seen).toList.map qbi);rw[List.append_assoc];exact List.Perm.append_left out (hlp.map qbi).symm
  ·rcases hbk5 b hb with h|h
   ·exact hnb b h
   ·omega
  ·exact ev5.lo fun b hb=>Nat.lt_of_lt_of_le (hm2.2.2 b hb) (Nat.le_trans hu3.size hu4.size)
end
end Go.Proofs.YtnhmanoiolfapaaGreat
end

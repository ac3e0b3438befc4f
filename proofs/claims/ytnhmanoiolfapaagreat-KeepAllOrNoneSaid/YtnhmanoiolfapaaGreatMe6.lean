/- Texts: Kl7. -/
import Derived.Test.YtnhmanoiolfapaaGreatMe5
set_option linter.unusedVariables false
noncomputable section
set_option maxRecDepth 100000
namespace Go.Proofs.YtnhmanoiolfapaaGreat
open Go Go.Sx Go.RowKit Go.Jx
theorem q07(j:qad)(l:List qaa):S.planO j l=some ((S.plan j l).1,(S.plan j l).2,()):=by unfold S.planO;rw[quf,jab]
theorem q0g(d:qah):S.openO d=some ((S.open_ d).1,(S.open_ d).2,()):=by unfold S.openO;rw[qzh,jab]
theorem zgr{was l:List qaa}(hw:okS was (-1))(hl:S.okC l=true):S.afterO was l=some (S.changed was l,()):=by
 unfold S.afterO;rw[zgo hw hl,jab,zqz hw hl]
theorem modN{x:Int}{k:Nat}(hx:0<=x/\x<=65535)(hk:k<=100000):Int.tmod (IntKind.i64.wrap x) (IntKind.i64.wrap (Int.ofNat (Nat.add k 1)))=((x.toNat % (k+1):Nat):Int)/\ieqI (IntKind.i64.wrap (Int.ofNat (Nat.add k 1))) (Int.ofNat 0)=false:=by
 have h1:IntKind.i64.wrap (Int.ofNat (Nat.add k 1))=((k+1:Nat):Int):=qbv (by show k+1<_;omega);rw[h1,wrap_in (by omega)];refine⟨?_,qbj (by intro e;have:k+1=0:=jdo e;omega)⟩;have h2:x=((x.toNat:Nat):Int):=by omega
 rw[h2];exact(jdg (by omega)).trans (by rw[<- h2];exact(jav (fun z:Int=>z % ((k+1:Nat):Int)) h2).trans (Int.natCast_emod _ _).symm)
theorem zsd{m l:List qaa}(hm:okS m (-1))(hl:S.okC l=true):S.changed (S.changed m l) l=S.changed m l:=by
 have h1:=qkh hm hl;refine qs5 (qkh h1 hl) h1 fun x=>?_;rw[qnn h1 hl (by omega),qnn hm hl (by omega)];constructor
 ·rintro(h|⟨h|h,_⟩)
  ·exact .inl h
  ·exact .inl h
  ·exact .inr h
 ·rintro(h|h)
  ·exact .inl h
  ·exact .inr ⟨.inr h,h.2⟩
theorem zai{L:List ByteArray}{h:Int}{a u:Nat}{c l:List qaa}(j:Jn L h a u c)(hr:u+(S.packed l 1).length<=L.length / 2-1):(S.laid l ((a+u:Nat):Int) ((a+(L.length / 2-1):Nat):Int) true).length<=100000:=by
 obtain⟨t,_,_,h2,_,h4⟩:=q8x j hr;have:=j.dk.le;rw[h4];omega
theorem qyu{L:List ByteArray}{h:Int}{a u:Nat}{c l:List qaa}(j:Jn L h a u c)(hl:S.okC l=true)(hr:u+(S.packed l 1).length<=L.length / 2-1){x:Int}(hx:0<=x/\x<=65535){kept:List Int}(hk:kept.length<=200){A:List DAct}(hA:A=S.laid l ((a+u:Nat):Int) ((a+(L.length / 2-1):Nat):Int) true) :
  ∃L1,S.cutO (L,[]) A (Int.tmod (IntKind.i64.wrap x) (IntKind.i64.wrap (Int.ofNat (Nat.add A.length 1)))) kept=some ((L1,[]),true,())/\ieqI (IntKind.i64.wrap (Int.ofNat (Nat.add A.length 1))) (Int.ofNat 0)=false/\L1.length=L.length /\
   (Jn L1 h a (u+(S.packed l 1).length) (S.changed c l)\/ieqI (Int.tmod (IntKind.i64.wrap x) (IntKind.i64.wrap (Int.ofNat (Nat.add A.length 1)))) (Int.ofNat A.length)=false/\Jn L1 h a u c):=by
 have hA2:A.length<=100000:=by rw[hA];exact zai j hr
 obtain⟨m1,m2⟩:=modN hx hA2;have hn:x.toNat % (A.length+1)<=A.length:=by have:=jc1 x.toNat (show 0<A.length+1 by omega);omega
 obtain⟨L1,c1,c2,c3,c4⟩:=zpm j hl hr hA hn kept;rw[m1];refine⟨L1,?_,m2,c3,?_⟩
 ·unfold S.cutO;rw[c2,jax hk,c1];rfl
 ·rcases c4 with c4|⟨c4,c5⟩
  ·exact .inl c4
  ·exact .inr ⟨qbj (by intro e;exact c4 (jdo e)),c5⟩
theorem q15{L:List ByteArray}{h:Int}{a u:Nat}{c l b:List qaa}(j:Jn L h a u c)(hl:S.okC l=true)(h0:l.length≠0)(h60:l.length<=60)(hb:S.changed c l=b)(hf:u+(S.packed l 1).length<=L.length / 2-1\/c=b){x:Int}(hx:0<=x/\x<=65535){kept:List Int}(hk:kept.length<=200) :
  (match S.planO ((L,[]),h,(u:Int),c) l with
   | none=>none
   | some v5=>cond (!ieqI v5.2.1 (Int.ofNat 0)) (cond (ieqI v5.2.1 (Int.ofNat 14)) (some (S.sameC c b,())) (some (false,()))) (cond (ieqI (IntKind.i64.wrap (Int.ofNat (Nat.add v5.1.length 1))) (Int.ofNat 0)) none
    (match S.cutO (L,[]) v5.1 (Int.tmod (IntKind.i64.wrap x) (IntKind.i64.wrap (Int.ofNat (Nat.add v5.1.length 1)))) kept with
     | none=>none
     | some v6=>match S.openO (v6.1.1,v6.1.2) with
      | none=>none
      | some v7=>cond v6.2.1 (cond (ieqI v7.2.1 (Int.ofNat 0)) (cond (S.sameC v7.1.2.2.2 c) (some (true,())) (some (S.sameC v7.1.2.2.2 b,()))) (some (false,()))) (some (false,())))))=(some (true,()):Option (Bool × Unit)):=by
 have sc:∀z:List qaa,S.sameC z z=true:=fun z=>jal rfl;rw[q07,q8m j hl h0 h60];by_cases hr:u+(S.packed l 1).length<=L.length / 2-1
 ·rw[jan hr];obtain⟨L1,c1,c2,c3,c4⟩:=qyu j hl hr hx hk rfl;dsimp only;rw[qbh (show (0:Int)=Int.ofNat 0 from rfl),ja1,jah,c2,jah,c1];dsimp only;rw[q0g];dsimp only;rcases c4 with c4|⟨_,c4⟩
  ·rw[c4.opened_];dsimp only;rw[jab,qbh (show (0:Int)=Int.ofNat 0 from rfl),jab,hb,sc];cases S.sameC b c<;>rfl
  ·rw[c4.opened_];dsimp only;rw[jab,qbh (show (0:Int)=Int.ofNat 0 from rfl),jab,sc];rfl
 ·rcases hf with hf|hf
  ·exact absurd hf hr
  ·rw[jao hr,hf,sc];rfl
theorem zhb{s:Int}{l:List (List DChg)}(hb:S.brief l=true):S.playedO s l=some (S.played s l,true,()):=by
 unfold S.playedO;rw[hb,jab]
theorem q04{n:Nat}{l:Nat}(h:iltI (Int.ofNat n) (Int.ofNat l)=false):l<=n:=by
 rw[qba] at h;have:=jdv h;simp at this;omega
theorem zhq(lf:Nat)(s:Int)(l:List (List DChg))(cs:List DChg)(many:Int)(kept:List Int)(again:Int)(more:List Int)(hs:0<=s/\s<=255)(hl:∀x∈l,chgB x)(hc:chgB cs)(hm:0<=many/\many<=65535)(ha:0<=again/\again<=65535) :
  qob lf s l cs many kept again more=some (true,()):=by
 have sc:∀z:List qaa,S.sameC z z=true:=fun z=>jal rfl;have i0:ieqI (0:Int) (Int.ofNat 0)=true:=rfl;unfold qob q4o;cases hb:S.brief l with
 | false=>rfl
 | true =>
  rw[ja1,jah];cases h1:iltI (Int.ofNat 10) (Int.ofNat cs.length) with
  | true=>rfl
  | false =>
   rw[jah];cases h2:iltI (Int.ofNat 200) (Int.ofNat kept.length) with
   | true=>rfl
   | false =>
    rw[jah];cases h3:iltI (Int.ofNat 200) (Int.ofNat more.length) with
    | true=>rfl
    | false =>
     have hk:=q04 h2;have hk2:=q04 h3;obtain⟨L,h,a,u,c,hj,j⟩:=zch hs fun x hx=>qwa (hl x hx);obtain⟨ok,hle⟩:=q7g (qwa hc);rw[jah,zhb hb,hj];dsimp only;rw[ja1,jah,q07];dsimp only;generalize S.cells cs=l at ok hle;by_cases h0:l.length=0
     ·have:(S.plan ((L,[]),h,(u:Int),c) l).2=1:=by
       have hz:S.size l=(0,1):=by unfold S.size;rw[jao (by omega),jan h0]
       unfold S.plan;rw[jan j.right,hz,jao (by show ¬(1:Int)=0;decide)]
      rw[this,h0];rfl
     ·have hp:=q8m j ok h0 (by omega);by_cases hr:u+(S.packed l 1).length<=L.length / 2-1
      ·rw[jan hr] at hp;rw[hp];dsimp only;rw[i0,ja1,jah,zgr j.le.2.1 ok];dsimp only;obtain⟨L1,c1,c2,c3,c4⟩:=qyu j ok hr hm hk rfl;rw[c2,jah,c1];dsimp only;rw[q0g];dsimp only;have hid:=zsd j.le.2.1 ok;rcases c4 with c4|⟨c5,c4⟩
       ·have hA:=q15 c4 ok h0 (by omega) hid (.inr rfl) ha hk2;rw[sc] at hA;rw[c4.opened_];dsimp only;rw[ja1,jah,i0,ja1,jah,sc];cases S.sameC (S.changed c l) c<;>cases ieqI (Int.tmod _ _) _<;>exact hA
       ·have hA:=q15 c4 ok h0 (by omega) rfl (.inl (by rw[c3];exact hr)) ha hk2;rw[c4.opened_];dsimp only;rw[ja1,jah,i0,ja1,jah,sc,c5];exact hA
      ·rw[jao hr] at hp;rw[hp];rfl
theorem cont_l_KeepAllOrNone:Con Tryz.prog zes zh7:=by
 have hR:=zi5;have hO:=zpi;exact zdp ⟨zm3 hR hO,zfp,zca hR hO,q7y,zpb hO,zmu,zmm,zob hO,zjh,trivial⟩ fun x y hx h=>⟨0,(zhq 0 x.1 x.2.1 x.2.2.1 x.2.2.2.1 x.2.2.2.2.1 x.2.2.2.2.2.1 x.2.2.2.2.2.2.1 (qfu (k:=.u8) hx.1) (fun z hz=>qn6 (hx.2.1.2 z hz)) (qn6 hx.2.2.1) (qfu (k:=.u16) hx.2.2.2.1) (qfu (k:=.u16) hx.2.2.2.2.2.1)).trans h⟩
end Go.Proofs.YtnhmanoiolfapaaGreat
end

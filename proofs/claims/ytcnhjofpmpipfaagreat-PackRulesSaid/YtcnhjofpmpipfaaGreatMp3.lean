/- Texts: Jn, Jo, Jp, Jq, Jr, Js, Jt, Jrd, Jrw, Jtab, Rrd, Ju, Jw, Jv, Jy. -/
import Derived.Test.YtcnhjofpmpipfaaGreatMp2
import Derived.RangeFuncLeaves
import Derived.RangeFuncNested
import Derived.Scope
import Derived.SizedLaws
import Derived.ProofKit
import Derived.Deep.Slices
import Derived.Lib.SmallJoins
import Derived.Carry
import Derived.Test.YtcnhjofpmpipfaaGreatProg
import Derived.KernelRfl
set_option linter.unusedVariables false
section
namespace Go.Jx
open Go Go.Sx Go.RowKit
universe u

section
variable {F : Fence} {n : Nat} {P : Program} {Q : Exit -> Act -> World -> Prop} {a : Act} {w : World}
theorem qh1{b:Frame}{k:List Item}{cs:List Frame}{c:Code}:step P (lone (b.atR a (.code (.scope c)::k)) cs w)=.next (lone (b.atR a (.code c::.inScope c::k)) cs w) :=
 step_lone_go (by simp[stepG,stepG.exec,Frame.atR])
theorem zd4{b:Frame}{k:List Item}{cs:List Frame}{c:Code}:step P (lone (b.atR a (.inScope c::k)) cs w)=.next (lone (b.atR a k) cs w) :=
 step_lone_go (by simp[stepG,stepG.exec,Frame.atR])
theorem zfg{c:Code}(h:c.wpIn F n P (Exit.noGoto Q) a w):(Code.scope c).wpIn F n P Q a w:=by
 intro b k cs hro hb hr;have h0:(lone (b.atR a (.code (.scope c)::k)) cs w).fenced P F:=fenced_calm hb hr rfl;obtain⟨e,a₁,w₁,hq,harr⟩:=h b (.inScope c::k) cs hro hb hr;cases e with
 | normal=>exact⟨.normal,a₁,w₁,hq,.head h0 qh1 (StepsIn.trans harr (.one (fenced_calm hb hr rfl) zd4))⟩
 | exit id' =>
  have hx:exitTo id' (.inScope c::k)=exitTo id' k:=by simp[exitTo]
  exact⟨.exit id',a₁,w₁,hq,fun k' hk=>.head h0 qh1 (harr.1 k' (by rw[hx];exact hk)),
   fun hr' hk=>let ⟨k₁,h1,h2⟩:=harr.2 hr' (by rw[hx];exact hk);⟨k₁,h1,.head h0 qh1 h2⟩⟩
 | goto l=>exact hq.elim
 | ret=>exact⟨_,a₁,w₁,hq,.of_steps (.one h0 qh1) harr⟩
 | panic ch=>exact⟨_,a₁,w₁,hq,.of_steps (.one h0 qh1) harr⟩
 | outgrown=>exact⟨_,a₁,w₁,hq,.of_steps (.one h0 qh1) harr⟩
theorem qzl{c:Code}(I:Nat->Act->World->Prop)(round:∀j a w,I (j+1) a w->c.wpIn F n P (Exit.then (fun a' w'=>I j a' w') Q) a w)(h0:∀a w,¬I 0 a w) :
  ∀j a w,I j a w->(Code.loop c).wpIn F n P Q a w:=by
 intro j a w hI b k cs hro hb hr;have key:∀j a w,I j a w->∃e a' w',Q e a' w'/\ArrivesIn (Machine.fenced P F) P (lone (b.atR a (.code c::.inLoop c::k)) cs w) b k cs e a' w':=by
  intro j;induction j with
  | zero=>intro a w hI;exact absurd hI (h0 a w)
  | succ j ih =>
   intro a w hI;obtain⟨e,a₁,w₁,hq,harr⟩:=round j a w hI b (.inLoop c::k) cs hro hb hr;cases e with
   | normal =>
    obtain⟨e₂,a₂,w₂,hq₂,harr₂⟩:=ih a₁ w₁ hq;exact⟨e₂,a₂,w₂,hq₂,.of_steps (StepsIn.trans harr (.one (fenced_calm hb hr rfl) stepR_inLoop)) harr₂⟩
   | exit id=>exact⟨_,a₁,w₁,hq,.pass (x:=.inLoop c) rfl (fun _ _=>.inl (by simp)) harr⟩
   | goto l=>exact⟨_,a₁,w₁,hq,.pass (x:=.inLoop c) rfl (fun _ _=>.inl (by simp)) harr⟩
   | ret=>exact⟨_,a₁,w₁,hq,.pass (x:=.inLoop c) rfl (fun _ _=>.inl (by simp)) harr⟩
   | panic ch=>exact⟨_,a₁,w₁,hq,.pass (x:=.inLoop c) rfl (fun _ _=>.inl (by simp)) harr⟩
   | outgrown=>exact⟨_,a₁,w₁,hq,.pass (x:=.inLoop c) rfl (fun _ _=>.inl (by simp)) harr⟩
 obtain⟨e,a',w',hq,harr⟩:=key j a w hI;exact⟨e,a',w',hq,.of_steps (.one (fenced_calm hb hr rfl) stepR_loop) harr⟩
end

inductive IEx
 | normal
 | exit (id:Nat)
 | goto (l:Nat)
 | ret
 | pan (p:IV)
def exOf:IEx->Exit
 | .normal=>.normal
 | .exit id=>.exit id
 | .goto l=>.goto l
 | .ret=>.ret
 | .pan _=>.normal
def ExR(E:Env):IEx->Exit->Prop
 | .pan p,x=>∃u,x=.panic [{ v:=u,recovered:=false }]/\VR E p u
 | e,x=>x=exOf e
def exP:Option IV->IEx
 | none=>.normal
 | some p=>.pan p
theorem PanR.ex{E:Env}{p:Option IV}{x:Exit}(h:PanR E p x):ExR E (exP p) x:=by
 cases p<;>exact h
structure CRes:Type where
 e:IEx
 fr:PT IV
 S:IS
 ds:List Nat
 rd:Nat
 wr:Nat
def CRes.or(r:CRes)(rd wr:Nat):CRes:=⟨r.e,r.fr,r.S,r.ds,rd ||| r.rd,wr ||| r.wr⟩
def qcx(f:PT IV->IS->List Nat->Option CRes):Nat->PT IV->IS->List Nat->Option CRes
 | 0,_,_,_=>none
 | n+1,fr,S,ds=>match f fr S ds with
  | none=>none
  | some r=>match r.e with
   | .normal=>match qcx f n r.fr r.S r.ds with
    | none=>none
    | some q=>some (q.or r.rd r.wr)
   | _=>some r
def subm(a b:Nat):Bool:=Nat.beq (a ||| b) b
theorem qtp{T:Nat->Prop}{a b:Nat}(h:subm a b=true)(ht:tin T b):tin T a:=fun j hj=>ht j (by
 have e:a ||| b=b:=jah h;rw[<- e,jbv,hj];rfl)
def qbs(f:PT IV->IS->List Nat->Option CRes)(mr mw:Nat):Nat->PT IV->IS->List Nat->Option CRes
 | 0,_,_,_=>none
 | n+1,fr,S,ds=>match f fr S ds with
  | none=>none
  | some r=>cond (subm r.rd mr&&subm r.wr mw) (match r.e with
   | .normal=>qbs f mr mw n r.fr r.S r.ds
   | e=>some ⟨e,r.fr,r.S,r.ds,mr,mw⟩) none
def fk:Code->Option Nat
 | .region id _ _=>some id
 | .seq x y=>match fk x with|some k=>some k|none=>fk y
 | .cond _ x _=>fk x
 | .block _ c=>fk c
 | .scope c=>fk c
 | .loop c=>fk c
 | _=>none
def qc3(nm:Nat->Option Nm)(c:Code):Option (Nat × Nat):=match fk c with
 | some k=>match nm k with
  | some m=>some (m.lr,m.lw)
  | none=>none
 | none=>none
def qgt:Code->Option IEx
 | .ret=>some .ret
 | .exit id=>some (.exit id)
 | .goto l=>some (.goto l)
 | _=>none
def ifin(cl:Cl)(f:Nat)(caps:List IV)(S:IS)(id:Nat)(fr:PT IV)(ds:List Nat)(rd:Nat):Option CRes :=
 match cl (.fn f) (.yield id::caps) S with
 | none=>none
 | some r=>match qbi r.v with
  | some _=>none
  | none=>match r.S.heap.get id with
   | some (.loop st pend nt fr2 ps assign body D)=>match st with
    | .busy=>none
    | _=>match pend with
     | none=>some ⟨.normal,fr,r.S.set id (.loop .exhausted pend nt fr2 ps assign body D),ds,rd ||| (r.rd ||| 2 ^ id),r.wr ||| 2 ^ id⟩
     | some c=>match qgt c with
      | none=>none
      | some e=>some ⟨e,fr,r.S.set id (.loop .exhausted pend nt fr2 ps assign body D),ds,rd ||| (r.rd ||| 2 ^ id),r.wr ||| 2 ^ id⟩
   | _=>none
def mb(B a:Nat):Nat:=cond (Nat.beq B 0) 0 a
def mbR(B:Nat)(r:CRes):CRes:=⟨r.e,r.fr,r.S,r.ds,mb B r.rd,mb B r.wr⟩
def mbO(B:Nat):Option CRes->Option CRes
 | none=>none
 | some r=>some (mbR B r)
theorem qea{B:Nat}{x:Option CRes}{r:CRes}(h:mbO B x=some r):∃r0,x=some r0/\r=mbR B r0:=by
 cases x with
 | none=>cases h
 | some r0=>cases h;exact⟨r0,rfl,rfl⟩
theorem q02{B a:Nat}{T:Nat->Prop}(hT:∀id,B<=id->T id)(h:tin T (mb B a)):tin T a:=by
 unfold mb at h;cases hb:Nat.beq B 0 with
 | true =>
  have:B=0:=jah hb;subst this;exact fun j _=>hT j (jbj _)
 | false=>rw[hb] at h;exact h
def frzF(nm:Nat->Option Nm):Bool:=match nm 999999 with
 | some _=>true
 | none=>false
def mB(nm:Nat->Option Nm)(B:Nat):Nat:=cond (frzF nm) 0 B
theorem qh0{nm:Nat->Option Nm}{B a:Nat}{T:Nat->Prop}(hT:∀id,B<=id->T id)(hz:frzF nm=true->∀id,T id)(h:tin T (mb (mB nm B) a)):tin T a:=by
 unfold mB at h;cases hf:frzF nm with
 | true=>rw[hf,jab] at h;exact q02 (B:=0) (fun id _=>hz hf id) h
 | false=>rw[hf,jae] at h;exact q02 hT h
def qae(P:Program)(tt:Nat->Option TI)(nm:Nat->Option Nm)(B:Nat)(nt:Nat)(cl:Cl)(lf:Nat)(round:Option Nat):Code->PT IV->IS->List Nat->Option CRes
 | .skip,fr,S,ds=>some ⟨.normal,fr,S,ds,0,0⟩
 | .label _,fr,S,ds=>some ⟨.normal,fr,S,ds,0,0⟩
 | .exit id,fr,S,ds=>some ⟨.exit id,fr,S,ds,0,0⟩
 | .goto l,fr,S,ds=>some ⟨.goto l,fr,S,ds,0,0⟩
 | .ret,fr,S,ds=>some ⟨.ret,fr,S,ds,0,0⟩
 | .refuse _,_,_,_=>none
 | .region id ops draw,fr,S,ds=>mbO (mB nm B) (match qbz nt (nm id) B fr S ds with
  | none=>none
  | some x=>match cond draw (iany P tt nt cl ops.toList x.fr x.S) (iseq P tt nt cl ops.toList ops.toList x.fr x.S) with
   | none=>none
   | some q=>some ⟨exP q.p,q.fr,q.S,x.ds,q.rd,x.wr ||| q.wr⟩)
 | .seq x y,fr,S,ds=>match qae P tt nm B nt cl lf round x fr S ds with
  | none=>none
  | some r=>match r.e with
   | .normal=>match qae P tt nm B nt cl lf round y r.fr r.S r.ds with
    | none=>none
    | some q=>some (q.or r.rd r.wr)
   | _=>some r
 | .cond c x y,fr,S,ds=>match evo nt fr c with
  | some (.bool b)=>cond b (qae P tt nm B nt cl lf round x fr S ds) (qae P tt nm B nt cl lf round y fr S ds)
  | _=>none
 | .block id c,fr,S,ds=>match qae P tt nm B nt cl lf round c fr S ds with
  | none=>none
  | some r=>match r.e with
   | .exit id'=>cond (Nat.beq id' id) (some ⟨.normal,r.fr,r.S,r.ds,r.rd,r.wr⟩) (some r)
   | _=>some r
 | .scope c,fr,S,ds=>match qae P tt nm B nt cl lf round c fr S ds with
  | none=>none
  | some r=>match r.e with
   | .goto _=>none
   | _=>some r
 | .loop c,fr,S,ds=>match qc3 nm c with
  | some m=>mbO (mB nm B) (qbs (qae P tt nm B nt cl lf round c) m.1 m.2 lf fr S ds)
  | none=>qcx (qae P tt nm B nt cl lf round c) lf fr S ds
 | .rangeFunc g ps assign body,fr,S,ds=>mbO (mB nm B) (match evo nt fr g with
  | some (.fn f caps)=>match round with
   | none=>ifin cl f caps ((S.new (.defs true)).new (.loop .ready none nt fr ps.toList assign body S.next)) (S.next+1) fr (S.next::ds) 0
   | some l=>match S.heap.get l with
    | some (.loop _ _ _ _ _ _ _ D)=>ifin cl f caps (S.new (.loop .ready none nt fr ps.toList assign body D)) S.next fr ds (2 ^ l)
    | _=>none
  | _=>none)
def qba:Code->Bool
 | .region _ ops draw=>!draw||qp0 ops.toList
 | .seq x y=>qba x&&qba y
 | .cond _ x y=>qba x&&qba y
 | .block _ c=>qba c
 | .scope c=>qba c
 | .loop c=>qba c
 | .rangeFunc _ _ x y=>qba x&&qba y
 | _=>true
def RD(B:Nat)(E:Env)(F:Fence):Option Nat->Prop
 | none=>F.round=none
 | some l=>F.round=some (E.ρ l)/\E.A l/\l<B
def qca:Code->Bool
 | .rangeFunc ..=>true
 | .seq x y=>qca x||qca y
 | .cond _ x y=>qca x||qca y
 | .block _ c=>qca c
 | .scope c=>qca c
 | .loop c=>qca c
 | _=>false
theorem RD.monoB{B:Nat}{T:TW}{E E':Env}{S S':IS}(k:PostB B T E S E' S'){F:Fence}{r:Option Nat}(h:RD B E F r):RD B E' F r:=by
 cases r with
 | none=>exact h
 | some l=>obtain⟨a,b,_⟩:=k.alw l h.2.2 h.2.1;exact⟨by rw[h.1,b],a,h.2.2⟩
section
variable {P : Program} {tt : Nat -> Option TI} {T : TW} {nt lf : Nat} {cl : Cl} {F : Fence} {round : Option Nat} {nm : Nat -> Option Nm} {B : Nat}

theorem ziv{E:Env}{c:Code}{e:IEx}{a:Act}{w:World}{Q:Exit->Act->World->Prop}(h:qgt c=some e)(hQ:Q (exOf e) a w):c.wpIn F 0 P Q a w:=by
 cases c<;>try cases h
 ·exact wpIn_exit hQ
 ·exact wpIn_goto hQ
 ·exact wpIn_ret hQ
theorem q4r{f:Nat}{caps:List IV}{S:IS}{id:Nat}{fr:PT IV}{ds:List Nat}{rd:Nat}{r:CRes}(h:ifin cl f caps S id fr ds rd=some r)(q:IV):r.e≠.pan q:=by
 unfold ifin at h;split at h
 ·cases h
 split at h
 ·cases h
 split at h<;>try cases h
 split at h
 ·cases h
 ·split at h
  ·cases h;intro e;cases e
  ·split at h
   ·cases h
   ·rename_i e he;cases h;intro e';simp only at e';rw[e'] at he;unfold qgt at he;split at he<;>cases he
theorem ExR.of{E:Env}{e:IEx}(h:∀q,e≠.pan q):ExR E e (exOf e):=by
 cases e<;>first|rfl|skip
 rename_i p;exact absurd rfl (h p)
theorem q5u{Q:Exit->Act->World->Prop}{f:Nat}{caps:List IV}{S S0:IS}{id:Nat}{fr:PT IV}{ds:List Nat}{rd:Nat}{r:CRes}{E E0:Env}{us:List Value}{a:Act}{l:Nat}(hF:F.plain=Fence.wide)(hcl:ClOK P cl)(p0:Pre T E0 S0)(p:Pre T E S)(hp:Post T E0 S0 E S)(hfr:Fresh E0 S0 E)
   (h:ifin cl f caps S id fr ds rd=some r) (hrd:tin T.r r.rd) (hwr:tin T.w r.wr) (hA:E.A id) (hl:E.ρ id=l) (hv:VRs E caps us)
   (hfn:qai P f->True) (hQ:∀E',E.Le E'->Post T E0 S0 E' r.S->Fresh E0 S0 E'->Q (exOf r.e) a E'.w) (he:r.fr=fr/\r.ds=ds->True) :
   qai P f/\CallsIn F 0 P f (#[.func (.yield l) #[] #[]]++us.toArray) E.w (rangePost F 0 P l Q a):=by
 unfold ifin at h;split at h
 · cases h
 rename_i r1 hr1;split at h
 · cases h
 rename_i hnp;split at h<;>try cases h
 rename_i st pend nt2 fr2 ps assign body D hobj
 -- the common part
 have main:∀(r:CRes),st≠.busy->r.S=r1.S.set id (.loop .exhausted pend nt2 fr2 ps assign body D)->tin T.r (r1.rd ||| 2 ^ id)->tin T.w (r1.wr ||| 2 ^ id)->(∀E',E.Le E'->Post T E0 S0 E' r.S->Fresh E0 S0 E'->(match pend with|none=>Q .normal a E'.w|some c=>c.wpIn F 0 P Q a E'.w)) ->
     qai P f/\CallsIn F 0 P f (#[.func (.yield l) #[] #[]]++us.toArray) E.w (rangePost F 0 P l Q a):=by
   intro r hst hrS hrd hwr hQ;obtain⟨t1,t2⟩:=qat hrd;obtain⟨t3,t4⟩:=qat hwr;obtain⟨hC,hcall⟩:=hcl.fn f _ S r1 hr1 T E (.func (.yield (E.ρ id)) #[] #[]::us) p t1 t3 (VRs.cons (.yield hA) hv);refine⟨hC,?_⟩;have e1:(Value.func (.yield (E.ρ id)) #[] #[]::us).toArray=#[.func (.yield l) #[] #[]]++us.toArray:=by rw[hl];simp
   rw[e1] at hcall;refine(qsh (m:=0) hF (jdm.1 hcall)).mono fun e w' hq=>?_;obtain⟨u,E1,rfl,rfl,k1,k2,k3⟩:=hq.val hnp;have p1:=k2.pre p;have hle:=k2.env p;obtain⟨a1,a2,a3⟩:=hle.alw id hA;obtain⟨fn,tmps,g1,g2,g3⟩:=p1.st.objs id (qaf t2) a1 _ hobj;rw[a2,hl] at g1;have hend:=run_endLoop (P:=P) g1 (by simpa using hst);have hlt:=qbd g1;have hL:Live E1 r1.S.H id:=⟨p1.st.blk id (qaf t2) a1 _ hobj rfl,_,hobj,rfl⟩;obtain⟨q1,q2⟩:=Post.write p1 (o':=.loop .exhausted pend nt2 fr2 ps assign body D) (qaf t4) a1 hL (w':=E1.w.putObj l (.loop { state:=.exhausted,pending:=pend,fn,tmps,params:=ps.toArray,assign,body,defers:=E1.ρ D })) (by rw[a2,hl];exact Upd.putObj _ _ _)
     ⟨fn,tmps,by
       show _=_;rw[show (E1.at_ (E1.w.putObj l (.loop { state:=.exhausted,pending:=pend,fn,tmps,params:=ps.toArray,assign,body,defers:=E1.ρ D }))).ρ id=l from a2.trans hl];exact jb2 hlt,FR.mono (Env.at_le p1.st (qaf t4) a1 hL (by rw[a2,hl];exact Upd.putObj _ _ _)) g2,g3⟩
   have hall:=Post.trans p0 hp hfr (Post.trans p k2 k3 q1);have hfall:=hfr.trans (k3.trans q2 k2.le) hp.le;have hleall:E.Le _:=hle.trans (q1.env p1);refine⟨pend,_,hend,?_⟩;have:=hQ _ hleall (by rw[hrS];exact hall) hfall;cases pend with
   | none=>exact this
   | some c=>exact this
 split at h
 · cases h
 · rename_i hst;cases pend with
   | none =>
     simp only at h;cases h;obtain⟨_,t2⟩:=qat hrd;exact main ⟨.normal,fr,r1.S.set id (.loop .exhausted none nt2 fr2 ps assign body D),ds,0,0⟩ (fun e=>hst e) rfl t2 hwr hQ
   | some c =>
     simp only at h;cases he2:qgt c with
     | none=>rw[he2] at h;cases h
     | some e =>
     rw[he2] at h;cases h;obtain⟨_,t2⟩:=qat hrd;exact main ⟨e,fr,r1.S.set id (.loop .exhausted (some c) nt2 fr2 ps assign body D),ds,0,0⟩ (fun e=>hst e) rfl t2 hwr (fun E' k1 k2 k3=>ziv (E:=E') he2 (hQ E' k1 k2 k3))
theorem zhd{f:Nat}(h:qai P f)(args:Array Value)(w:World):(callFunc f args).run P w=.ok (.enter f args) w:=by
 obtain⟨fn,hf,hb,hn⟩:=h;have hb':fn.body.isNone=false:=by cases h:fn.body<;>simp [h] at hb ⊢
 simp only[callFunc,jag,jev,jaa,hf,hb',hn,ja3,jbl,jad]
theorem qn6{N:Nat}(hz:frzF nm=true->∀id,T.w id)(hm:P.follows .mixedOrders=true)(hF:F.plain=Fence.wide)(hcl:ClOK P cl)(hfr:ClFr cl)(htt:TT P tt):∀(c:Code),qba c=true->∀{fr:PT IV} {S:IS} {ds:List Nat} {E:Env} {a:Act} {r:CRes} {Q:Exit->Act->World->Prop},
   Pre T E S->B<=S.next->(∀id,B<=id->T.w id)->FR E nt fr a.tmps->DS N E ds a.defers->(qca c=true->RD B E F round)->qae P tt nm B nt cl lf round c fr S ds=some r->tin T.r r.rd->tin T.w r.wr ->
   (∀E' a' x,ExR E' r.e x->FR E' nt r.fr a'.tmps->DS N E' r.ds a'.defers->PostB B T E S E' r.S->Q x a' E'.w)->c.wpIn F 0 P Q a E.w:=by
 intro c;induction c with
 | skip=>intro hok fr S ds E a r Q p hB hT hf hd hrd h t1 t2 hQ;cases h;exact wpIn_skip (hQ E a _ rfl hf hd (PostB.refl hB hT p))
 | label l=>intro hok fr S ds E a r Q p hB hT hf hd hrd h t1 t2 hQ;cases h;exact wpIn_label (hQ E a _ rfl hf hd (PostB.refl hB hT p))
 | exit id=>intro hok fr S ds E a r Q p hB hT hf hd hrd h t1 t2 hQ;cases h;exact wpIn_exit (hQ E a _ rfl hf hd (PostB.refl hB hT p))
 | goto l=>intro hok fr S ds E a r Q p hB hT hf hd hrd h t1 t2 hQ;cases h;exact wpIn_goto (hQ E a _ rfl hf hd (PostB.refl hB hT p))
 | ret=>intro hok fr S ds E a r Q p hB hT hf hd hrd h t1 t2 hQ;cases h;exact wpIn_ret (hQ E a _ rfl hf hd (PostB.refl hB hT p))
 | refuse _=>intro hok fr S ds E a r Q p hB hT hf hd hrd h t1 t2 hQ;cases h
 | region id ops draw =>
   intro hok fr S ds E a r Q p hB hT hf hd hrd h t1 t2 hQ;simp only[qae] at h;have h0:=qea h;clear h;obtain⟨r,h,rfl⟩:=h0
   replace t1:tin T.r r.rd:=qh0 (fun id hi=>T.sub _ (hT id hi)) (fun hf id=>T.sub _ (hz hf id)) t1
   replace t2:tin T.w r.wr:=qh0 hT hz t2
   replace hQ:∀E' a' x,ExR E' r.e x->FR E' nt r.fr a'.tmps->DS N E' r.ds a'.defers->PostB B T E S E' r.S->Q x a' E'.w:=hQ
   split at h
   · cases h
   rename_i x hx;split at h<;>cases h;rename_i q hq;obtain⟨u1,u2⟩:=qat t2;obtain⟨E1,e1,n1,n2,n3⟩:=zku (a:=a) p hB hT hf hd hx u1;have p1:=n1.pre hT p;have hcont:∀E' a' z,PanR E' q.p z->FR E' nt q.fr a'.tmps->a'.defers=a.defers->Post T E1 x.S E' q.S->Fresh E1 x.S E'->Q z a' E'.w:=by
     intro E' a' z k0 k1 k2 k3 k4;exact hQ E' a' z k0.ex k1 (by rw[k2];exact n3.mono (k3.env p1) k3.stp.size) (n1.trans (PostB.of n1.le hT k3 k4))
   rw[<- e1];cases draw with
   | true =>
     rw[jab] at hq;have:=zlr (rid:=id) (Q:=Q) hm hF hcl hfr htt (by simpa [qba] using hok) p1 n2 hq t1 u2 hcont;simpa using this
   | false =>
     rw[jae] at hq;refine wpIn_region_list ?_;have:=qvc (Q:=Q) (ops:=ops.toList) hF hcl htt ops.toList x.fr x.S E1 a q p1 n2 hq t1 u2 hcont;simpa using this
 | seq x y ihx ihy =>
   intro hok fr S ds E a r Q p hB hT hf hd hrd h t1 t2 hQ;simp only[qba,jaf] at hok;simp only[qae] at h;split at h
   · cases h
   rename_i r1 hr1;split at h
   · rename_i he;split at h<;>cases h;rename_i q hq;obtain⟨u1,u2⟩:=qat t1;obtain⟨u3,u4⟩:=qat t2;refine wpIn_seq (ihx hok.1 p hB hT hf hd (fun h=>hrd (by simp[qca,h])) hr1 u1 u3 fun E' a' x k0 k1 k2 k3=>?_);rw[he] at k0;cases k0;exact ihy hok.2 (k3.pre hT p) k3.le hT k1 k2 (fun h=>(hrd (by simp[qca,h])).monoB k3) hq u2 u4 fun E'' a'' x m0 m1 m2 m3=>hQ E'' a'' x m0 m1 m2 (k3.trans m3)
   · rename_i hne;cases h;refine wpIn_seq (ihx hok.1 p hB hT hf hd (fun h=>hrd (by simp[qca,h])) hr1 t1 t2 fun E' a' x k0 k1 k2 k3=>?_);have:=hQ E' a' x k0 k1 k2 k3;cases he:r.e with
     | normal=>exact absurd he hne
     | pan p=>rw[he] at k0;obtain⟨u,rfl,_⟩:=k0;exact this
     | _=>rw[he] at k0;cases k0;exact this
 | cond c x y ihx ihy =>
   intro hok fr S ds E a r Q p hB hT hf hd hrd h t1 t2 hQ;simp only[qba,jaf] at hok;simp only[qae] at h;split at h<;>try cases h
   rename_i b hb;have hv:=qru hf hb;generalize he:a.eval c=e at hv;cases hv;cases b with
   | true=>exact wpIn_cond_true he (ihx hok.1 p hB hT hf hd (fun h=>hrd (by simp[qca,h])) h t1 t2 hQ)
   | false=>exact wpIn_cond_false he (ihy hok.2 p hB hT hf hd (fun h=>hrd (by simp[qca,h])) h t1 t2 hQ)
 | block id c ih =>
   intro hok fr S ds E a r Q p hB hT hf hd hrd h t1 t2 hQ;simp only[qae] at h;split at h
   · cases h
   rename_i r1 hr1;split at h
   · rename_i id' he;cases hid:Nat.beq id' id with
     | true =>
       rw[hid,jab] at h;cases h;have hid:=jah hid;refine wpIn_block (ih hok p hB hT hf hd hrd hr1 t1 t2 fun E' a' x k0 k1 k2 k3=>?_);rw[he] at k0;cases k0;simp only[exOf,Exit.inBlock,hid,jb4];exact hQ E' a' _ rfl k1 k2 k3
     | false =>
       rw[hid,jae] at h;cases h;have hid:¬id'=id:=fun e=>by rw[qcp e] at hid;cases hid
       refine wpIn_block (ih hok p hB hT hf hd hrd hr1 t1 t2 fun E' a' x k0 k1 k2 k3=>?_);have:=hQ E' a' x k0 k1 k2 k3;rw[he] at k0;cases k0;simp only[exOf,Exit.inBlock,hid,jbl];exact this
   · rename_i hne;cases h;refine wpIn_block (ih hok p hB hT hf hd hrd hr1 t1 t2 fun E' a' x k0 k1 k2 k3=>?_);have:=hQ E' a' x k0 k1 k2 k3;cases he:r.e with
     | exit id'=>exact absurd he (hne id')
     | pan p=>rw[he] at k0;obtain⟨u,rfl,_⟩:=k0;exact this
     | _=>rw[he] at k0;cases k0;exact this
 | scope c ih =>
   intro hok fr S ds E a r Q p hB hT hf hd hrd h t1 t2 hQ;simp only[qae] at h;split at h
   · cases h
   rename_i r1 hr1;split at h
   · cases h
   · rename_i hne;cases h;refine zfg (ih hok p hB hT hf hd hrd hr1 t1 t2 fun E' a' x k0 k1 k2 k3=>?_);have:=hQ E' a' x k0 k1 k2 k3;cases he:r.e with
     | goto l=>exact absurd he (hne l)
     | pan p=>rw[he] at k0;obtain⟨u,rfl,_⟩:=k0;exact this
     | _=>rw[he] at k0;cases k0;exact this
 | loop c ih =>
   intro hok fr S ds E a r Q p hB hT hf hd hrd h t1 t2 hQ;simp only[qae] at h;split at h
   · rename_i m hm';have h0:=qea h;clear h;obtain⟨r,h,rfl⟩:=h0
     replace t1:tin T.r r.rd:=qh0 (fun id hi=>T.sub _ (hT id hi)) (fun hf id=>T.sub _ (hz hf id)) t1
     replace t2:tin T.w r.wr:=qh0 hT hz t2
     replace hQ:∀E' a' x,ExR E' r.e x->FR E' nt r.fr a'.tmps->DS N E' r.ds a'.defers->PostB B T E S E' r.S->Q x a' E'.w:=hQ
     refine qzl (fun j a w=>∃(fr:PT IV) (S1:IS) (ds:List Nat) (E1:Env) (r:CRes),qbs (qae P tt nm B nt cl lf round c) m.1 m.2 j fr S1 ds=some r/\Pre T E1 S1/\B<=S1.next/\FR E1 nt fr a.tmps/\DS N E1 ds a.defers/\(qca c=true->RD B E1 F round)/\tin T.r r.rd/\tin T.w r.wr/\E1.w=w /\
       (∀E' a' x,ExR E' r.e x->FR E' nt r.fr a'.tmps->DS N E' r.ds a'.defers->PostB B T E1 S1 E' r.S->Q x a' E'.w)) ?_ (fun a w hI=>by obtain⟨_,_,_,_,_,h,_⟩:=hI;cases h) lf a E.w ⟨fr,S,ds,E,r,h,p,hB,hf,hd,hrd,t1,t2,rfl,hQ⟩
     rintro j a w ⟨fr,S1,ds,E1,r,h,p,hB,hf,hd,hrd,t1,t2,rfl,hQ⟩;have hmask:∀(j:Nat) (fr:PT IV) (S1:IS) (ds:List Nat) (r:CRes),qbs (qae P tt nm B nt cl lf round c) m.1 m.2 j fr S1 ds=some r->r.rd=m.1/\r.wr=m.2:=by
       intro j;induction j with
       | zero=>intro fr S1 ds r h;cases h
       | succ j ihj =>
         intro fr S1 ds r h;unfold qbs at h;split at h
         · cases h
         rename_i r1 hr1;cases hb:(subm r1.rd m.1&&subm r1.wr m.2) with
         | false=>rw[hb] at h;cases h
         | true =>
         rw[hb,jab] at h;split at h
         · exact ihj _ _ _ _ h
         · cases h;exact⟨rfl,rfl⟩
     obtain⟨g1,g2⟩:=hmask _ _ _ _ _ h;unfold qbs at h;split at h
     · cases h
     rename_i r1 hr1;cases hb:(subm r1.rd m.1&&subm r1.wr m.2) with
     | false=>rw[hb] at h;cases h
     | true =>
     rw[hb,jab] at h;simp only[jaf] at hb;rw[g1] at t1;rw[g2] at t2;have u1:=qtp hb.1 t1;have u3:=qtp hb.2 t2;split at h
     · rename_i he;refine ih hok p hB hT hf hd hrd hr1 u1 u3 fun E' a' x k0 k1 k2 k3=>?_;rw[he] at k0;cases k0;exact⟨_,_,_,E',r,h,k3.pre hT p,k3.le,k1,k2,fun h=>(hrd h).monoB k3,by rw[g1];exact t1,by rw[g2];exact t2,rfl,fun E'' a'' x m0 m1 m2 m3=>hQ E'' a'' x m0 m1 m2 (k3.trans m3)⟩
     · rename_i hne;cases h;refine ih hok p hB hT hf hd hrd hr1 u1 u3 fun E' a' x k0 k1 k2 k3=>?_;have:=hQ E' a' x k0 k1 k2 k3;cases he:r1.e with
       | normal=>exact absurd he hne
       | pan p=>rw[he] at k0;obtain⟨u,rfl,_⟩:=k0;exact this
       | _=>rw[he] at k0;cases k0;exact this
   refine qzl (fun j a w=>∃(fr:PT IV) (S1:IS) (ds:List Nat) (E1:Env) (r:CRes),qcx (qae P tt nm B nt cl lf round c) j fr S1 ds=some r/\Pre T E1 S1/\B<=S1.next/\FR E1 nt fr a.tmps/\DS N E1 ds a.defers/\(qca c=true->RD B E1 F round)/\tin T.r r.rd/\tin T.w r.wr/\E1.w=w /\
     (∀E' a' x,ExR E' r.e x->FR E' nt r.fr a'.tmps->DS N E' r.ds a'.defers->PostB B T E1 S1 E' r.S->Q x a' E'.w)) ?_ (fun a w hI=>by obtain⟨_,_,_,_,_,h,_⟩:=hI;cases h) lf a E.w ⟨fr,S,ds,E,r,h,p,hB,hf,hd,hrd,t1,t2,rfl,hQ⟩
   rintro j a w ⟨fr,S1,ds,E1,r,h,p,hB,hf,hd,hrd,t1,t2,rfl,hQ⟩;unfold qcx at h;split at h
   · cases h
   rename_i r1 hr1;split at h
   · rename_i he;split at h<;>cases h;rename_i q hq;obtain⟨u1,u2⟩:=qat t1;obtain⟨u3,u4⟩:=qat t2;refine ih hok p hB hT hf hd hrd hr1 u1 u3 fun E' a' x k0 k1 k2 k3=>?_;rw[he] at k0;cases k0;exact⟨_,_,_,E',q,hq,k3.pre hT p,k3.le,k1,k2,fun h=>(hrd h).monoB k3,u2,u4,rfl,fun E'' a'' x m0 m1 m2 m3=>hQ E'' a'' x m0 m1 m2 (k3.trans m3)⟩
   · rename_i hne;cases h;refine ih hok p hB hT hf hd hrd hr1 t1 t2 fun E' a' x k0 k1 k2 k3=>?_;have:=hQ E' a' x k0 k1 k2 k3;cases he:r.e with
     | normal=>exact absurd he hne
     | pan p=>rw[he] at k0;obtain⟨u,rfl,_⟩:=k0;exact this
     | _=>rw[he] at k0;cases k0;exact this
 | rangeFunc g ps assign body ih1 ih2 =>
   intro hok fr S ds E a r Q p hB hT hf hd hrd h t1 t2 hQ;simp only[qae] at h;have h0:=qea h;clear h;obtain⟨r,h,rfl⟩:=h0
   replace t1:tin T.r r.rd:=qh0 (fun id hi=>T.sub _ (hT id hi)) (fun hf id=>T.sub _ (hz hf id)) t1
   replace t2:tin T.w r.wr:=qh0 hT hz t2
   replace hQ:∀E' a' x,ExR E' r.e x->FR E' nt r.fr a'.tmps->DS N E' r.ds a'.defers->PostB B T E S E' r.S->Q x a' E'.w:=hQ
   split at h<;>try cases h
   rename_i f caps hg;have hv:=qru hf hg;generalize he:a.eval g=eg at hv;cases hv with
   | fn hl hh =>
   rename_i us;have hcaps:VRs E caps us:=⟨hl,hh⟩;have hres:∀(l:Nat) (w:World),(resolve a.eval (rangeCall g l) 0).run P w=.ok { target:=.fn (.func f) us.toArray,args:=#[.func (.yield l) #[] #[]] } w:=fun l w=>by
     simp only[resolve,he];simp[go_sem,Deferred.ofValue,Act.eval]
   have hinv:qai P f->∀(l:Nat) (w:World),(invoke (.fn (.func f) us.toArray) #[.func (.yield l) #[] #[]]).run P w=.ok (.enter f (#[.func (.yield l) #[] #[]]++us.toArray)) w:=fun hC l w=>by
     simp only[invoke];exact zhd hC _ w
   have hdep:∀{x},F.depth.isSome=true->x:=fun h0=>by rw[qok hF] at h0;cases h0
   split at h
   · -- an outermost loop
     have hround:F.round=none:=hrd rfl;refine wpIn_rangeFunc fun fn hfn=>?_;obtain⟨q1,q2⟩:=Post.new p (k:=0) (hd:=.tuple #[]) (o:=.defs true) (w':=E.w.alloc (.deferred (some []))) (Upd.alloc _ _) (by simp) (by
       show _=_;simp only[Env.with_,qah];exact jct E.w _)
     have p1:=q1.pre p;have hρ1:(E.with_ S.next 0 (.tuple #[]) (E.w.alloc (.deferred (some [])))).ρ S.next=E.w.heap.size:=qah _ _ _
     have hA1:(E.with_ S.next 0 (.tuple #[]) (E.w.alloc (.deferred (some [])))).A S.next:=Or.inr rfl
     obtain⟨E1,hE1⟩:∃E1,E.with_ S.next 0 (.tuple #[]) (E.w.alloc (.deferred (some [])))=E1:=⟨_,rfl⟩
     rw[hE1] at q1 q2 p1 hρ1 hA1;have hw1:E1.w=E.w.alloc (.deferred (some [])):=by rw[<- hE1];rfl
     have hne:¬E1.A (S.next+1):=fun h=>jck _ (p1.bnd _ h);obtain⟨W2,hW2⟩:∃W2,E1.w.alloc (.loop { state:=.ready,pending:=none,fn,tmps:=a.tmps,params:=ps,assign,body,defers:=E.w.heap.size })=W2:=⟨_,rfl⟩;have u2:Upd [] E1.w W2:=by rw[<- hW2];exact Upd.alloc _ _
     have hle2:=Env.with_le (k:=0) (hd:=.tuple #[]) hne u2;obtain⟨q3,q4⟩:=Post.new p1 (k:=0) (hd:=.tuple #[]) (o:=.loop .ready none nt fr ps.toList assign body S.next) (w':=W2) u2 (by rw[<- hW2];simp) ⟨fn,a.tmps,by
         rw[show (E1.with_ (S.new (.defs true)).next 0 (.tuple #[]) W2).ρ (S.new (.defs true)).next=E1.w.heap.size from qah _ _ _];show W2.heap[E1.w.heap.size]?=_;rw[show W2.heap[E1.w.heap.size]?=some (.loop { state:=.ready,pending:=none,fn,tmps:=a.tmps,params:=ps,assign,body,defers:=E.w.heap.size }) from by rw[<- hW2];exact jct _ _];rw[show (E1.with_ (S.new (.defs true)).next 0 (.tuple #[]) W2).ρ S.next=E.w.heap.size from ((hle2.alw _ hA1).2.1).trans hρ1],(hf.mono (q1.env p)).mono hle2,(hle2.alw _ hA1).1⟩
     have p2:=q3.pre p1;have q5:=Post.trans p q1 q2 q3;have q6:=q2.trans q4 q1.le;obtain⟨E2,hE2⟩:∃E2,E1.with_ (S.new (.defs true)).next 0 (.tuple #[]) W2=E2:=⟨_,rfl⟩
     have hρ2:E2.ρ (S.next+1)=E.w.heap.size+1:=by
       rw[<- hE2];have:(E1.with_ (S.new (.defs true)).next 0 (.tuple #[]) W2).ρ (S.next+1)=E1.w.heap.size:=qah _ _ _;rw[this,hw1];simp
     have hA2:E2.A (S.next+1):=by rw[<- hE2];exact Or.inr rfl
     have hρD:E2.ρ S.next=E.w.heap.size:=by rw[<- hE2];exact((hle2.alw _ hA1).2.1).trans hρ1
     have hAD:E2.A S.next:=by rw[<- hE2];exact(hle2.alw _ hA1).1
     rw[hE2] at q3 q4 p2 q5 q6;have hw2:E2.w=W2:=by rw[<- hE2];rfl
     have hc2:VRs E2 caps us:=hcaps.mono (q5.env p);have hnp:∀q,r.e≠.pan q:=q4r h;have hfin:=q5u (Q:=Q) (a:={ a with defers:=[({ target:=.collected E.w.heap.size,args:=#[] }:Deferred)]++a.defers }) (l:=E.w.heap.size+1) hF hcl p p2 q5 q6 h t1 t2 hA2 hρ2 hc2 (fun _=>trivial) (fun E' k1 k2 k3=>by
       have hrf:r.fr=fr/\r.ds=S.next::ds:=by
         unfold ifin at h;split at h
         · cases h
         split at h
         · cases h
         split at h<;>try cases h
         split at h
         · cases h
         · split at h
           · cases h;exact⟨rfl,rfl⟩
           · split at h<;>cases h;exact⟨rfl,rfl⟩
       refine hQ E' _ _ (ExR.of hnp) (by rw[hrf.1];exact hf.mono (k2.env p)) ?_ (PostB.of hB hT k2 k3);rw[hrf.2];have hsz:=k2.stp.size;obtain⟨d1,d2,hid,d3,d4,d5⟩:=hd.mono (k2.env p) k2.stp.size;obtain⟨b1,b2,_⟩:=k1.alw _ hAD;refine⟨d1,fun D hD=>?_,hid,?_,d4,d5⟩
       · rcases ja1.1 hD with h|h
         · rw[h,b2,hρD];exact⟨b1,hd.le⟩
         · exact d2 D h
       · simp only[jcc,List.cons_append,List.nil_append,b2,hρD,d3]) (fun _=>trivial)
     refine⟨E.w.heap.size+1,[{ target:=.collected E.w.heap.size,args:=#[] }],W2,_,W2,f,_,W2,?_,hres _ _,fun _ _=>qlt hF _,hinv hfin.1 _ _,hdep,?_⟩
     · rw[hround];have:=run_enterLoop_outer (P:=P) (w:=E.w) fn a.tmps ps assign body;rw[this,<- hW2,hw1]
     · have:=hfin.2;rw[hw2] at this;exact this
   · -- within a round
     rename_i l0;split at h<;>try cases h
     rename_i st0 pd0 nt0 fr0 ps0 as0 bd0 D hobj;have hround:F.round=some (E.ρ l0):=(hrd rfl).1;have hA0:=(hrd rfl).2.1;have hrd0:tin T.r (2 ^ l0):=by
       unfold ifin at h;split at h
       · cases h
       split at h
       · cases h
       split at h<;>try cases h
       split at h
       · cases h
       · split at h
         · cases h;exact(qat t1).1
         · split at h<;>cases h;exact(qat t1).1
     obtain⟨fn0,tmps0,g1,g2,g3⟩:=p.st.objs l0 (qaf hrd0) hA0 _ hobj;refine wpIn_rangeFunc fun fn hfn=>?_;have hne:¬E.A S.next:=fun h=>jck _ (p.bnd _ h)
     obtain⟨W2,hW2⟩:∃W2,E.w.alloc (.loop { state:=.ready,pending:=none,fn,tmps:=a.tmps,params:=ps,assign,body,defers:=E.ρ D })=W2:=⟨_,rfl⟩;have u2:Upd [] E.w W2:=by rw[<- hW2];exact Upd.alloc _ _
     have hle2:=Env.with_le (k:=0) (hd:=.tuple #[]) hne u2;obtain⟨q3,q4⟩:=Post.new p (k:=0) (hd:=.tuple #[]) (o:=.loop .ready none nt fr ps.toList assign body D) (w':=W2) u2 (by rw[<- hW2];simp) ⟨fn,a.tmps,by
         rw[show (E.with_ S.next 0 (.tuple #[]) W2).ρ S.next=E.w.heap.size from qah _ _ _];show W2.heap[E.w.heap.size]?=_;rw[show W2.heap[E.w.heap.size]?=some (.loop { state:=.ready,pending:=none,fn,tmps:=a.tmps,params:=ps,assign,body,defers:=E.ρ D }) from by rw[<- hW2];exact jct _ _];rw[show (E.with_ S.next 0 (.tuple #[]) W2).ρ D=E.ρ D from (hle2.alw _ g3).2.1],hf.mono hle2,(hle2.alw _ g3).1⟩
     have p2:=q3.pre p;obtain⟨E2,hE2⟩:∃E2,E.with_ S.next 0 (.tuple #[]) W2=E2:=⟨_,rfl⟩
     have hρ2:E2.ρ S.next=E.w.heap.size:=by rw[<- hE2];exact qah _ _ _
     have hA2:E2.A S.next:=by rw[<- hE2];exact Or.inr rfl
     rw[hE2] at q3 q4 p2;have hw2:E2.w=W2:=by rw[<- hE2];rfl
     have hc2:VRs E2 caps us:=hcaps.mono (q3.env p);have hnp:∀q,r.e≠.pan q:=q4r h;have hfin:=q5u (Q:=Q) (a:={ a with defers:=[]++a.defers }) (l:=E.w.heap.size) hF hcl p p2 q3 q4 h t1 t2 hA2 hρ2 hc2 (fun _=>trivial) (fun E' k1 k2 k3=>by
       have hrf:r.fr=fr/\r.ds=ds:=by
         unfold ifin at h;split at h
         · cases h
         split at h
         · cases h
         split at h<;>try cases h
         split at h
         · cases h
         · split at h
           · cases h;exact⟨rfl,rfl⟩
           · split at h<;>cases h;exact⟨rfl,rfl⟩
       refine hQ E' _ _ (ExR.of hnp) (by rw[hrf.1];exact hf.mono (k2.env p)) ?_ (PostB.of hB hT k2 k3);rw[hrf.2];exact hd.mono (k2.env p) k2.stp.size) (fun _=>trivial)
     refine⟨E.w.heap.size,[],W2,_,W2,f,_,W2,?_,hres _ _,fun _ _=>qlt hF _,hinv hfin.1 _ _,hdep,?_⟩
     · rw[hround];have:=run_enterLoop_inner (P:=P) g1 fn a.tmps ps assign body;rw[this,<- hW2]
     · have:=hfin.2;rw[hw2] at this;exact this
end
end Go.Jx
end

section
namespace Go.Jx
open Go Go.Sx Go.RowKit
universe u

structure FI where
 nt:Nat
 res:List ResultVar
 body:Code
def FT (P:Program) (ft:Nat->Option FI):Prop:=∀f fi,ft f=some fi->∃fn,P.funcs[f]?=some fn/\fn.body=some fi.body/\fn.ntmps=fi.nt/\fn.results=fi.res.toArray/\(fn.name == "runtime.NumGoroutine") = false/\qba fi.body=true

def qay:List IV->Nat->PT IV->PT IV
 | [],_,fr=>fr
 | v::vs,i,fr=>qay vs (i+1) (fr.set v i)
theorem q4x:∀(vs:List IV) (i:Nat) (fr:PT IV) (t:Nat),slot (qay vs i fr) t=if t<i then slot fr t else if t<i+vs.length then vs.getD (t-i) .unk else slot fr t
 | [],i,fr,t=>by
  simp only[qay,jce,jby];by_cases h:t<i
  ·rw[jam h]
  ·rw[jak h,jak h]
 | v::vs,i,fr,t=>by
  unfold qay;rw[q4x vs (i+1)];simp only[jbk];by_cases h1:t<i
  ·rw[jam (by omega),jam h1,qdh,jak (by omega)]
  ·rw[jak h1];by_cases h2:t=i
   ·subst h2;rw[jam (by omega),jam (by omega),qdh,jam rfl];simp
   ·rw[jak (by omega)];by_cases h3:t<i+1+vs.length
    ·rw[jam h3,jam (by omega)];have:t-i=(t-(i+1))+1:=by omega
     rw[this];simp
    ·rw[jak h3,jak (by omega),qdh,jak h2]
theorem FR.enter{E:Env}{nt:Nat}{vs:List IV}{us:List Value}(h:VRs E vs us)(hl:vs.length<=nt):FR E nt (qay vs 0 .leaf) (us.toArray++Array.replicate (nt-us.toArray.size) undef):=by
 have hl2:=h.1;refine⟨by simp;omega,fun t ht=>?_⟩;rw[q4x,jak (by omega),ja9,jeo];by_cases hv:t<vs.length
 ·rw[jam hv];have:=h.2 t hv (by omega);have e1:vs.getD t .unk=vs[t]:=by simp[jar,hv]
  have e2:(us.toArray++Array.replicate (nt-us.toArray.size) undef).getD t undef=us[t]'(by omega):=by
   rw[jcr,Array.getElem?_append_left (by simp;omega)];simp[show t<us.length by omega]
  rw[e1,e2];exact this
 ·rw[jak hv];have e2:(us.toArray++Array.replicate (nt-us.toArray.size) undef).getD t undef=undef:=by
   rw[jcr,Array.getElem?_append_right (by simp;omega)];rw[Array.getElem?_replicate];split<;>rfl
  rw[e2];exact .unk _

section
variable {P : Program} {tt : Nat -> Option TI} {T : TW} {E : Env} {S : IS} {nt : Nat} {fr : PT IV}
theorem zit{ty:TypeId}{id off:Nat}{ux:Value}{r:Res}(htt:TT P tt)(p:Pre T E S)(h:qc9 tt S ty (.ptr id off)=some r)(hr:tin T.r r.rd)(hx:VR E (.ptr id off) ux):∃u,(do loadVar ty (<- asAddr ux)).run P E.w=.ok u E.w/\VR E r.v u:=by
 simp only[qc9] at h;cases hx with
 | ptr hA =>
 have hconv:∀u,(Instr.loadAt ty (.pointer (some ⟨E.ρ id,off,none⟩))).run P E.w=.ok u E.w->(do loadVar ty (<- asAddr (.pointer (some ⟨E.ρ id,off,none⟩)))).run P E.w=.ok u E.w:=fun u hu=>by
  simp only[Instr.loadAt,Instr.sureAddr,jag,jad,jaa] at hu;simp only[asAddr,jag,jad,jaa,hu]
 split at h
 ·cases h
 rename_i ti hti;have hty:=htt _ _ hti;split at h<;>try cases h
 rotate_left
 ·rename_i jj hcs;cases hb:(Nat.beq off 1&&qa7 ti.und) with
  | false=>rw[hb] at h;cases h
  | true =>
   rw[hb,jab] at h;cases h;simp only[jaf] at hb;have h1:=jah hb.1;subst h1;obtain⟨q,v,k1,k2,k3⟩:=p.st.objs id (qaf hr) hA _ hcs;exact⟨v,hconv v (qga hty hb.2 ((qn0 k1 1).trans rfl)),k3⟩
 rename_i cs hcs;cases hag:qa7 ti.und with
 | true =>
  rw[hag,jab] at h;split at h<;>cases h;rename_i v hv;obtain⟨cells,t,h1,h2,h3,h4⟩:=qdu p (qaf hr) hA hcs;obtain⟨u,h5,h6⟩:=qwj h1 h4 hv;exact⟨u,hconv u (qga hty hag h5),h6⟩
 | false =>
  rw[hag,jae] at h;cases hb:Nat.ble (off+ti.sz) cs.length with
  | false=>rw[hb] at h;cases h
  | true =>
   rw[hb,jab] at h;cases h;have hle:=jao hb;obtain⟨cells,t,h1,h2,h3,h4⟩:=qdu p (qaf hr) hA hcs;have h5:=(h4.drop off).take ti.sz;have hlen:(((cells.toList.take cs.length).drop off).take ti.sz).length=ti.sz:=by simp;omega
   refine⟨.agg (((cells.toList.take cs.length).drop off).take ti.sz).toArray,hconv _ (qg9 hty hag rfl hlen fun j hj=>?_),.agg h5.1 h5.2⟩;have hc:E.w.cell? ⟨E.ρ id,off+j,none⟩=cells.toList[off+j]?:=by simp[World.cell?,h1]
   rw[hc,jas,jam hj,jbt,jas,jam (show off+j<cs.length by omega)]
def ires(tt:Nat->Option TI)(nt:Nat)(fr:PT IV)(S:IS):List ResultVar->Option (List IV × Nat)
 | []=>some ([],0)
 | .tmp t::l=>cond (Nat.blt t nt) (match ires tt nt fr S l with
  | some (vs,rd)=>some (slot fr t::vs,rd)
  | none=>none) none
 | .cell t ty::l=>cond (Nat.blt t nt) (match (match slot fr t with|.ptr id off=>qc9 tt S ty (.ptr id off)|_=>none) with
  | some r=>match ires tt nt fr S l with
   | some (vs,rd)=>some (r.v::vs,r.rd ||| rd)
   | none=>none
  | none=>none) none
theorem qtf(htt:TT P tt)(p:Pre T E S){tmps:Array Value}(hf:FR E nt fr tmps):∀{l:List ResultVar} {vs:List IV} {rd:Nat},ires tt nt fr S l=some (vs,rd)->tin T.r rd->∃us,(l.mapM (qc2 tmps)).run P E.w=.ok us E.w/\VRs E vs us
 | [],vs,rd,h,hr=>by cases h;exact⟨[],rfl,VRs.nil⟩
 | .tmp t::l,vs,rd,h,hr=>by
  unfold ires at h;cases hb:Nat.blt t nt with
  | false=>rw[hb] at h;cases h
  | true =>
  rw[hb,jab] at h;split at h<;>cases h;rename_i vs rd hvs;obtain⟨us,h1,h2⟩:=qtf htt p hf hvs hr;refine⟨tmps.getD t undef::us,?_,VRs.cons (hf.get t (by simpa using hb)) h2⟩;simp only[je7,jag,qc2,jad,jaa,h1]
 | .cell t ty::l,vs,rd,h,hr=>by
  unfold ires at h;cases hb:Nat.blt t nt with
  | false=>rw[hb] at h;cases h
  | true =>
  rw[hb,jab] at h;split at h<;>try cases h
  rename_i r hl;split at h<;>cases h;rename_i vs rd hvs;obtain⟨t1,t2⟩:=qat hr;obtain⟨us,h1,h2⟩:=qtf htt p hf hvs t2;split at hl<;>try cases hl
  rename_i id off hsl;have hft:=hf.get t (by simpa using hb);rw[hsl] at hft;obtain⟨u,k1,k2⟩:=zit htt p hl t1 hft;refine⟨u::us,?_,VRs.cons k2 h2⟩;have k1':(qc2 tmps (.cell t ty)).run P E.w=.ok u E.w:=k1;simp only[je7,jag,k1',jaa,h1,jad]
def tupI:List IV->IV
 | [v]=>v
 | vs=>.tup vs
theorem zck{fn:Func}{rs:List ResultVar}{tmps:Array Value}{us:List Value}{w:World}(hr:fn.results=rs.toArray)(h:(rs.mapM (qc2 tmps)).run P w=.ok us w):(results fn tmps).run P w=.ok (qdz us) w:=by
 have e:results fn tmps=(do
   let vs <- rs.toArray.mapM (qc2 tmps)
   pure (if h:vs.size=1 then vs[0] else .tuple vs)):=by
  unfold results;rw[hr];rfl
 rw[e,jfa];simp only[jag,qry,h,jaa,jad];cases us with
 | nil=>simp [qdz]
 | cons v vs=>cases vs<;>simp [qdz]
theorem zam{vs:List IV}{us:List Value}(h:VRs E vs us):VR E (tupI vs) (qdz us):=by
 cases vs with
 | nil=>have:=h.1;cases us<;>simp at this;exact .tup (us:=[]) rfl (fun i h=>by simp at h)
 | cons v vs =>
  obtain⟨u,us,rfl,h1,h2⟩:=h.inv;cases vs with
  | nil=>have:=h2.1;cases us<;>simp at this;exact h1
  | cons v2 vs =>
   obtain⟨u2,us,rfl,h3,h4⟩:=h2.inv;exact .tup h.1 h.2

def qe6:List Nat->IS->Option (IS × Nat)
 | [],S=>some (S,0)
 | D::ds,S=>match S.heap.get D with
  | some (.defs true)=>match qe6 ds (S.set D (.defs false)) with
   | some (S',wr)=>some (S',2 ^ D ||| wr)
   | none=>none
  | _=>none
structure Env.Lc (E E':Env):Prop where
 alw:∀id,E.A id->E'.A id/\E'.ρ id=E.ρ id/\E'.κ id=E.κ id/\E'.hd id=E.hd id/\E'.hb id=E.hb id
 kc:∀(b:Nat) (cells:Array Value) (t:TypeId) (fz:Nat × Nat),b ∉ E.m->E.w.heap[b]?=some (.cells cells t fz)->b ∉ E'.m/\E'.w.heap[b]?=some (.cells cells t fz)
theorem VR.lc{E E':Env}(e:E.Lc E'){v:IV}{u:Value}(h:VR E v u):VR E' v u:=by
 induction h with
 | unk u=>exact .unk u
 | bool b=>exact .bool b
 | int k n h=>exact .int k n h
 | str s h=>exact .str s h
 | lst0 h=>exact .lst0 h
 | lst us h1 h2 h3 hb hh hc _ ih =>
  obtain⟨k1,k2⟩:=e.kc _ _ _ _ hb hh;exact .lst us h1 h2 h3 k1 k2 hc ih
 | eptr us hb hh hc _ ih =>
  obtain⟨k1,k2⟩:=e.kc _ _ _ _ hb hh;exact .eptr us k1 k2 hc ih
 | arr hA hh=>obtain⟨a1,a2,a3,a4,a5⟩:=e.alw _ hA;exact .arr a1 (a4.trans hh)
 | aptr hA=>obtain⟨a1,a2,_⟩:=e.alw _ hA;rw[<- a2];exact .aptr a1
 | nilsl=>exact .nilsl
 | sl cap hA h1 h2 h3 h4 h5 =>
  obtain⟨a1,a2,a3,_⟩:=e.alw _ hA;rw[<- a2];exact .sl cap a1 h1 h2 (by rw[a3];exact h3) h4 (by rw[a3];exact h5)
 | nilptr=>exact .nilptr
 | gp hg=>exact .gp hg
 | ptr hA=>obtain⟨a1,a2,_⟩:=e.alw _ hA;rw[<- a2];exact .ptr a1
 | nilmap=>exact .nilmap
 | map hA=>obtain⟨a1,a2,_⟩:=e.alw _ hA;rw[<- a2];exact .map a1
 | nilfn=>exact .nilfn
 | fn hl _ ih=>exact .fn hl ih
 | bfn hl _ ih=>exact .bfn hl ih
 | yield hA=>obtain⟨a1,a2,_⟩:=e.alw _ hA;rw[<- a2];exact .yield a1
 | nili=>exact .nili
 | iface _ ih=>exact .iface ih
 | agg hl _ ih=>exact .agg hl ih
 | tup hl _ ih=>exact .tup hl ih
theorem VRs.lc{E E':Env}(e:E.Lc E'){cs:List IV}{us:List Value}(h:VRs E cs us):VRs E' cs us:=⟨h.1,fun i a b=>(h.2 i a b).lc e⟩
theorem FR.lc{E E':Env}(e:E.Lc E'){n:Nat}{fr:PT IV}{tmps:Array Value}(h:FR E n fr tmps):FR E' n fr tmps:=⟨h.size,fun t ht=>(h.get t ht).lc e⟩
theorem ARel.lc{E E':Env}(e:E.Lc E'){c:TC}{l:List (El c)}{cells:Array Value}(h:ARel E c l cells):ARel E' c l cells:=by
 obtain⟨us,h1,h2⟩:=h;exact⟨us,h1,fun i a j b=>(h2 i a j b).lc e⟩
theorem OR.lc{E E':Env}(e:E.Lc E'){id:Nat}{o:IObj}(hA:E.A id)(hB:o.blk=true->E.hb id=true)(hs:o.live=true->E.hb id=true->E'.w.heap[E.ρ id]?=E.w.heap[E.ρ id]?)(h:OR E id o):OR E' id o:=by
 obtain⟨a1,a2,a3,a4,a5⟩:=e.alw id hA;cases o with
 | dead=>trivial
 | frz c l=>show VR E' (.lst c l) (E'.hd id);rw[a4];exact VR.lc e h
 | row cs=>obtain⟨cells,t,h1,h2,h3,h4⟩:=h;exact⟨cells,t,by rw[a2,hs rfl (hB rfl),h1],by rw[a3,h2],h3,h4.lc e⟩
 | arr c l =>
  obtain⟨a,cap,h1,h2,h3,h4,h5⟩:=h;refine⟨a,cap,by rw[a4,h1],h2,h3,h4,?_⟩;rcases h5 with ⟨h5,h6⟩|⟨h5,h6,cells,t,h7,h8,h9⟩
  ·exact .inl ⟨by rw[a5,h5],h6⟩
  ·exact .inr ⟨by rw[a5,h5],by rw[a2,h6],cells,t,by rw[a2,hs rfl h5,h7],h8,h9.lc e⟩
 | map es=>obtain⟨ents,c,h1,h2,h3,h4⟩:=h;exact⟨ents,c,by rw[a2,hs rfl (hB rfl),h1],h2.lc e,h3.lc e,h4⟩
 | tmap k v es=>obtain⟨ents,c,h1,h2,h3,h4⟩:=h;exact⟨ents,c,by rw[a2,hs rfl (hB rfl),h1],h2.lc e,h3.lc e,h4⟩
 | iter s p=>show _/\_;rw[a2,hs rfl (hB rfl)];exact h
 | defs on=>show _=_;rw[a2,hs rfl (hB rfl)];exact h
 | bld j=>obtain⟨p,v,h1,h2,h3⟩:=h;exact⟨p,v,by rw[a2,hs rfl (hB rfl),h1],by rw[a2];exact h2,h3.lc e⟩
 | loop st pend nt fr ps assign body D =>
  obtain⟨fn,tmps,h1,h2,h3⟩:=h;obtain⟨b1,b2,_⟩:=e.alw D h3;exact⟨fn,tmps,by rw[a2,hs rfl (hB rfl),h1,b2],h2.lc e,b1⟩
theorem zpv{B:Nat}{E0:Env}{S0':IS}{b:Nat}(p:Pre T E S)(hB:E0.w.heap.size<=b)(hm:b ∉ E.m)(hh:E.w.heap[b]?=some (.deferred (some [])))(k:PostB B T E0 S0' E S) :
  PostB B T E0 S0' (E.at_ (E.w.putObj b (.deferred none))) S/\Pre T (E.at_ (E.w.putObj b (.deferred none))) S/\E.Lc (E.at_ (E.w.putObj b (.deferred none))):=by
 have hlc:E.Lc (E.at_ (E.w.putObj b (.deferred none))):=⟨fun id h=>⟨h,rfl,rfl,rfl,rfl⟩,fun b' cells t fz h1 h2=>⟨h1,by
  show (E.w.putObj b (.deferred none)).heap[b']?=_;rw[jcg (fun e=>by rw[e] at h2;rw[hh] at h2;cases h2)];exact h2⟩⟩
 have hst:St T.r (E.at_ (E.w.putObj b (.deferred none))) S.H:=by
  refine⟨fun j ht ha o hj=>?_,p.st.blk,p.st.own,p.st.inj,fun b' hb'=>?_⟩
  ·refine(p.st.objs j ht ha o hj).lc hlc ha (p.st.blk j ht ha o hj) fun hl hb=>?_;have:=p.st.own j ht ha ⟨hb,o,hj,hl⟩;exact jcg (fun e=>hm (by rw[<- e];exact this))
  ·show b'<(E.w.putObj b (.deferred none)).heap.size;have:=p.st.lo b' hb';simpa using this
 refine⟨⟨hst,k.os,k.tape,k.output,?_,fun b' hb' hn=>?_,k.alw,k.new,k.old,k.memo,k.mem,k.bnd,k.le,k.fr⟩,⟨hst,p.bnd,p.nw,⟨fun b' hb'=>?_⟩⟩,hlc⟩
 ·show _<=(E.w.putObj b (.deferred none)).heap.size;have:=k.size;simpa using this
 ·show (E.w.putObj b (.deferred none)).heap[b']?=_;rw[jcg (by omega)];exact k.same b' hb' hn
 ·obtain⟨h1,o,h2,h3⟩:=p.gl.h b' hb';refine⟨h1,o,?_,h3⟩;show (E.w.putObj b (.deferred none)).heap[b']?=_;rw[jcg (fun e=>by
   rw[e,hh] at h2;obtain⟨cells,t,fz,h4,_⟩:=h3;rw[h4] at h2;cases h2)]
  exact h2
theorem qw7{fn:Func}{tmps:Array Value}{R:Ending->World->Prop}{B:Nat}{E0:Env}{S0':IS}{md:FrameMode}(hmd:md≠.run):∀{hid:List Nat} {E:Env},Pre T E S->PostB B T E0 S0' E S->hid.Nodup->(∀b∈hid,E0.w.heap.size<=b/\b ∉ E.m/\E.w.heap[b]?=some (.deferred (some []))) ->
  (∀E',PostB B T E0 S0' E' S->Pre T E' S->(∀v u,VR E v u->VR E' v u)->LeavesInM Fence.wide 0 P fn tmps R [] md E'.w)->LeavesInM Fence.wide 0 P fn tmps R (hidL hid) md E.w
 | [],E,p,k,_,_,hk=>hk E k p fun _ _ h=>h
 | b::hid,E,p,k,hn,hh,hk=>by
  obtain⟨h1,h2,h3⟩:=hh b jbq;obtain⟨g1,g2,g3⟩:=zpv p h1 h2 h3 k;obtain⟨n1,n2⟩:=jdg.1 hn;refine⟨hmd,.inl ⟨b,_,rfl,run_takeDeferred h3,?_⟩⟩;refine qw7 hmd (E:=E.at_ (E.w.putObj b (.deferred none))) g2 g1 n2 (fun b' hb'=>?_) fun E' k1 k2 k3=>hk E' k1 k2 fun v u hv=>k3 v u (hv.lc g3);obtain⟨c1,c2,c3⟩:=hh b' (jbc _ hb');refine⟨c1,c2,?_⟩;show (E.w.putObj b (.deferred none)).heap[b']?=_;rw[jcg (fun e=>n1 (by rw[<- e];exact hb'))];exact c3
theorem qs9{fn:Func}{tmps:Array Value}{R:Ending->World->Prop}{B N:Nat}{E0:Env}{S0':IS}{md:FrameMode}(hmd:md≠.run)(hN:E0.w.heap.size<=N)(hT:∀id,B<=id->T.w id):∀{ds:List Nat} {S S':IS} {E:Env} {dl:List Deferred} {wr:Nat},Pre T E S->DS N E ds dl->PostB B T E0 S0' E S->qe6 ds S=some (S',wr)->tin T.w wr ->
  (∀E',PostB B T E0 S0' E' S'->Pre T E' S'->(∀v u,VR E v u->VR E' v u)->LeavesInM Fence.wide 0 P fn tmps R [] md E'.w)->LeavesInM Fence.wide 0 P fn tmps R dl md E.w
 | [],S,S',E,dl,wr,p,hd,k,h,hw,hk=>by
  cases h;obtain⟨_,_,hid,h3,h4,h5⟩:=hd;rw[h3];exact qw7 hmd p k h4 (fun b hb=>⟨ja5 hN (h5 b hb).1,(h5 b hb).2⟩) hk
 | D::ds,S,S',E,dl,wr,p,hd,k,h,hw,hk=>by
  unfold qe6 at h;split at h<;>try cases h
  rename_i hobj;split at h<;>cases h;rename_i S' wr hm;obtain⟨t1,t2⟩:=qat hw;obtain⟨d1,d2,hid,d3,d4,d5⟩:=hd;have hA:=(d2 D jbq).1;have g1:E.w.heap[E.ρ D]?=some (.deferred (some [])):=p.st.objs D (T.sub _ (qaf t1)) hA _ hobj;have hL:Live E S.H D:=⟨p.st.blk D (T.sub _ (qaf t1)) hA _ hobj rfl,_,hobj,rfl⟩;obtain⟨q1,q2⟩:=Post.write p (o':=.defs false) (qaf t1) hA hL (Upd.putObj E.w (E.ρ D) (.deferred none)) (jb2 (qbd g1));have hme:=p.st.own D (T.sub _ (qaf t1)) hA hL;rw[d3];refine⟨hmd,.inl ⟨E.ρ D,_,rfl,run_takeDeferred g1,?_⟩⟩;refine qs9 hmd hN hT (E:=E.at_ (E.w.putObj (E.ρ D) (.deferred none))) (q1.pre p) ⟨ja5 d1 q1.stp.size,fun D' hD'=>d2 D' (jbc _ hD'),hid,rfl,d4,fun b hb=>?_⟩ (k.trans (PostB.of k.le hT q1 q2)) hm t2 fun E' k1 k2 k3=>hk E' k1 k2 fun v u hv=>k3 v u (hv.mono (q1.env p));obtain⟨c1,c2,c3⟩:=d5 b hb;refine⟨c1,c2,?_⟩;show (E.w.putObj (E.ρ D) (.deferred none)).heap[b]?=_;rw[jcg (fun e=>c2 (by rw[e];exact hme))];exact c3

def igc(S:IS)(q:Res):Res :=
 cond (Nat.beq (q.wr % 2 ^ S.next) 0&&low2 S.next q.v) ⟨q.v,S,q.rd % 2 ^ S.next,0⟩ ⟨q.v,q.S,q.rd % 2 ^ S.next,q.wr % 2 ^ S.next⟩
def Tgc(T:TW)(N:Nat)(h:∀id,N<=id->T.w id):TW:=⟨T.r,fun id=>N<=id,fun id hi=>T.sub _ (h id hi)⟩
theorem qlk{T:Nat->Prop}{a N:Nat}(h:tin T (a % 2 ^ N))(hn:∀id,N<=id->T id):tin T a:=fun j hj=>by
 rcases jbm j N with h'|h'
 ·exact h j (by rw[jdh];simp [h',hj])
 ·exact hn j h'
theorem zl3{a N:Nat}(h:a % 2 ^ N=0):tin (fun id=>N<=id) a:=fun j hj=>by
 rcases jbm j N with h'|h'
 ·have:(a % 2 ^ N).testBit j=true:=by rw[jdh];simp [h',hj]
  rw[h] at this;simp at this
 ·exact h'
theorem zdz{q:Res}(p:Pre T E S)(hrd:tin T.r (igc S q).rd)(hwr:tin T.w (igc S q).wr):∃T':TW,Pre T' E S/\tin T'.r q.rd/\tin T'.w q.wr/\∀e w',RetE T' E S q e w'->RetE T E S (igc S q) e w':=by
 cases hb:(Nat.beq (q.wr % 2 ^ S.next) 0&&low2 S.next q.v) with
 | true =>
  have e:igc S q=⟨q.v,S,q.rd % 2 ^ S.next,0⟩:=by unfold igc;rw[hb];rfl
  rw[e] at hrd ⊢;simp only[jaf] at hb;have hz:=jah hb.1;refine⟨Tgc T S.next p.nw,⟨p.st,p.bnd,fun id h=>h,p.gl⟩,qlk hrd (fun id h=>T.sub _ (p.nw id h)),zl3 hz,fun e w' hR=>?_⟩;obtain⟨u,E',rfl,rfl,k1,k2,k3⟩:=hR;have hu:Upd [] E.w E'.w:=⟨k2.stp.os,k2.stp.tape,k2.stp.output,k2.stp.size,fun b hb _=>k2.stp.same b hb fun id ht ha _=>absurd (p.bnd id ha) (Nat.not_lt.2 ht)⟩;obtain⟨q1,q2⟩:=Post.idle p hu;have hlow:LowOK E' (E.at_ E'.w) S.next:=by
   refine⟨fun id hlt ha=>?_,fun b hb=>?_,rfl⟩
   ·have hA:E.A id:=jdx fun hn=>absurd (k3.fr id ha hn) (by omega);obtain⟨a,b,c,d,e⟩:=k2.stp.alw id hA;exact⟨hA,b.symm,c.symm,d.symm,e.symm⟩
   ·rcases k2.stp.mem b hb (p.st.lo b hb) with h|⟨id,c1,c2,_⟩
    ·exact h
    ·exact absurd (p.bnd id c2) (Nat.not_lt.2 c1)
  exact⟨u,E.at_ E'.w,rfl,rfl,qfo hlow hb.2 k1,q1,q2⟩
 | false =>
  have e:igc S q=⟨q.v,q.S,q.rd % 2 ^ S.next,q.wr % 2 ^ S.next⟩:=by unfold igc;rw[hb];rfl
  rw[e] at hrd hwr ⊢;exact⟨T,p,qlk hrd (fun id h=>T.sub _ (p.nw id h)),qlk hwr p.nw,fun e w' hR=>hR⟩
theorem q9o{q:Res}(h:FrR S q):FrR S (igc S q):=by
 unfold igc;cases (Nat.beq (q.wr % 2 ^ S.next) 0&&low2 S.next q.v) with
 | true=>exact⟨jap _,fun _ _ _=>rfl⟩
 | false =>
  refine⟨h.1,fun id hid hw=>h.2 id hid ?_⟩;have hw:(q.wr % 2 ^ S.next).testBit id=false:=hw;rw[jdh] at hw;simpa [hid] using hw
end
end Go.Jx
end

section
namespace Go.Jx
open Go Go.Sx Go.RowKit
universe u

def FrX(S S':IS)(wr:Nat):Prop:=S.next<=S'.next/\∀id,id<S.next->wr.testBit id=false->S'.H id=S.H id
theorem FrX.refl(S:IS)(wr:Nat):FrX S S wr:=⟨jap _,fun _ _ _=>rfl⟩
theorem FrX.trans{S S1 S2:IS}{w1 w2:Nat}(h:FrX S S1 w1)(k:FrX S1 S2 w2):FrX S S2 (w1 ||| w2) :=
 ⟨ja5 h.1 k.1,fun id hid hb=>by
  simp only[jbv,jcb] at hb;rw[k.2 id (jaz hid h.1) hb.2,h.2 id hid hb.1]⟩
theorem FrX.set(S:IS)(id:Nat)(o:IObj):FrX S (S.set id o) (2 ^ id) :=
 ⟨jap _,fun k hk hb=>by rw[IS.H_set,up_ne _ _ (qgp hb)]⟩
theorem FrX.new(S:IS)(o:IObj)(wr:Nat):FrX S (S.new o) wr :=
 ⟨Nat.le_succ _,fun k hk hb=>by rw[IS.H_new,up_ne _ _ (by omega)]⟩
theorem FrX.newTrans{S S':IS}{o:IObj}{wr:Nat}(k:FrX (S.new o) S' wr):FrX S S' wr:=by
 have:=(FrX.new S o 0).trans k
 rwa [jdi] at this
def FrXB(B:Nat)(S S':IS)(wr:Nat):Prop:=B<=S'.next/\∀id,id<B->wr.testBit id=false->S'.H id=S.H id
theorem FrX.toB{B:Nat}{S S':IS}{wr:Nat}(hB:B<=S.next)(h:FrX S S' wr):FrXB B S S' wr:=⟨ja5 hB h.1,fun id hid hb=>h.2 id (jaz hid hB) hb⟩
theorem FrXB.trans{B:Nat}{S S1 S2:IS}{w1 w2:Nat}(h:FrXB B S S1 w1)(k:FrXB B S1 S2 w2):FrXB B S S2 (w1 ||| w2) :=
 ⟨k.1,fun id hid hb=>by
  simp only[jbv,jcb] at hb;rw[k.2 id hid hb.2,h.2 id hid hb.1]⟩
theorem FrXB.full{S S':IS}{wr:Nat}(h:FrXB S.next S S' wr):FrX S S' wr:=h
theorem qz3{S S':IS}{c:TC}{v v':IV}{w:Nat}(h:coeV S c v=some (v',S',w)):FrX S S' w:=by
 unfold coeV at h;split at h<;>try cases h
 ·exact FrX.new _ _ _
 ·split at h<;>try cases h
  rename_i c' l ho;cases hb:TC.beq c' c<;>rw[hb] at h<;>cases h;exact FrX.refl _ _
 ·rename_i id off len s cap0;split at h<;>try cases h
  rename_i cs ho;cases hb:(Nat.beq off 0&&Nat.beq s (csz c)&&Nat.ble (len*s) cs.length&&Nat.ble (len*bsz c) 140737488355328&&qne c) with
  | false=>rw[hb] at h;cases h
  | true =>
  rw[hb,jab] at h;split at h<;>cases h;rename_i l _ _;have:=(FrX.set S id .dead).trans (FrX.new (S.set id .dead) (.arr c l) 0)
  rwa [je1] at this
theorem q34{nt:Nat}:∀(l:List (Nat × TC)) {fr fr':PT IV} {S S':IS} {w:Nat},coeS nt l fr S=some (fr',S',w)->FrX S S' w
 | [],fr,fr',S,S',w,h=>by cases h;exact FrX.refl _ _
 | (t,c)::l,fr,fr',S,S',w,h=>by
  simp only[coeS] at h;cases hb:Nat.blt t nt with
  | false=>rw[hb] at h;cases h
  | true =>
  rw[hb,jab] at h;split at h
  ·cases h
  rename_i h1;split at h<;>cases h;rename_i h2;exact(qz3 h1).trans (q34 l h2)
theorem zcp{fr:PT IV}{S S':IS}{t off:Nat}{c:TC}{w:Nat}(h:qj8 fr S t off c=some (S',w)):FrX S S' w:=by
 unfold qj8 at h;split at h<;>try cases h
 split at h<;>try cases h
 split at h<;>try cases h
 split at h
 ·cases h
 rename_i h1;split at h<;>try cases h
 rename_i cs1 ho1;cases hb:Nat.blt _ cs1.length with
 | false=>rw[hb] at h;cases h
 | true =>
 rw[hb,jab] at h;cases h;exact(qz3 h1).trans (FrX.set _ _ _)
theorem qy6{nt:Nat}{fr:PT IV}:∀(l:List (Nat × Nat × TC)) {S S':IS} {w:Nat},coeC nt fr l S=some (S',w)->FrX S S' w
 | [],S,S',w,h=>by cases h;exact FrX.refl _ _
 | (t,off,c)::l,S,S',w,h=>by
  simp only[coeC] at h;cases hb:Nat.blt t nt with
  | false=>rw[hb] at h;cases h
  | true =>
  rw[hb,jab] at h;split at h
  ·cases h
  rename_i h1;split at h<;>cases h;rename_i h2;exact(zcp h1).trans (qy6 l h2)
theorem qwk{kc vc:TC}{v:IV}{S S':IS}{w:Nat}(h:qif S kc vc v=some (S',w)):FrX S S' w:=by
 unfold qif at h;split at h<;>try cases h
 split at h<;>try cases h
 ·cases hb:(qdf kc&&qdf vc) with
  | false=>rw[hb] at h;cases h
  | true =>
  rw[hb,jab] at h;split at h<;>cases h;exact FrX.set _ _ _
 ·exact FrX.refl _ _
theorem qxm{nt:Nat}{fr:PT IV}:∀(l:List (Nat × TC × TC)) {S S':IS} {w:Nat},coeM nt fr l S=some (S',w)->FrX S S' w
 | [],S,S',w,h=>by cases h;exact FrX.refl _ _
 | (t,kc,vc)::l,S,S',w,h=>by
  simp only[coeM] at h;cases hb:Nat.blt t nt with
  | false=>rw[hb] at h;cases h
  | true =>
  rw[hb,jab] at h;split at h
  ·cases h
  rename_i h1;split at h<;>cases h;rename_i h2;exact(qwk h1).trans (qxm l h2)
theorem q33{nt:Nat}{fr:PT IV}:∀(l:List (Nat × Nat × TC × TC)) {S S':IS} {w:Nat},coeD nt fr l S=some (S',w)->FrX S S' w
 | [],S,S',w,h=>by cases h;exact FrX.refl _ _
 | (t,off,kc,vc)::l,S,S',w,h=>by
  simp only[coeD] at h;cases hb:Nat.blt t nt with
  | false=>rw[hb] at h;cases h
  | true =>
  rw[hb,jab] at h;split at h
  ·cases h
  split at h
  ·cases h
  rename_i h1;split at h<;>cases h;rename_i h2;exact(FrX.refl S _).trans ((qwk h1).trans (q33 l h2))
theorem qxp{S:IS}{B:Nat}:∀{k id:Nat},id<k->(qqj S B k).testBit id=false->∀o,S.heap.get id=some o->lowO B o=true
 | 0,id,h,_,o,_=>absurd h (by omega)
 | k+1,id,h,hb,o,ho=>by
  unfold qqj at hb;rw[jbv,jcb] at hb;by_cases e:id=k
  ·subst e;have h2:=hb.2;rw[ho] at h2;cases hl:lowO B o with
   | true=>rfl
   | false=>simp only[hl,jae,jd6] at h2;cases h2
  ·exact qxp (by omega) hb.1 o ho
theorem q6r:∀{ds:List Nat} {S S':IS} {w:Nat},qgz ds S=some (S',w)->FrX S S' w
 | [],S,S',w,h=>by cases h;exact FrX.refl _ _
 | D::ds,S,S',w,h=>by
  unfold qgz at h;split at h<;>try cases h
  split at h<;>cases h;rename_i h1;exact(FrX.set _ _ _).trans (q6r h1)
theorem zlt{nt B:Nat}{m:Option Nm}{fr:PT IV}{S:IS}{ds:List Nat}{x:NRes}(hB:B<=S.next)(h:qbz nt m B fr S ds=some x):FrXB B S x.S x.wr:=by
 unfold qbz at h;split at h
 ·cases h;exact(FrX.refl _ _).toB hB
 rename_i m;cases hfo:m.fo with
 | true=>rw[hfo,jab] at h;cases h;exact(FrX.refl _ _).toB hB
 | false =>
 rw[hfo,jae] at h;split at h
 ·cases h
 rename_i fr1 S1 w1 h1;split at h
 ·cases h
 rename_i S2 w2 h2;split at h
 ·cases h
 rename_i S3 w3 h3;split at h
 ·cases h
 rename_i S4 w4 h4;split at h
 ·cases h
 rename_i S5 w5 h5;simp only at h;generalize clos S5 B 1000 (m.keep.flatMap (fun t=>ids2 (slot fr1 t))++qno S5 B) []=q at h;cases hb:(ndB q&&q.all (fun id=>Nat.ble B id)) with
 | false=>rw[hb] at h;cases h
 | true =>
 rw[hb,jab] at h;cases h;have f4:=((q34 _ h1).trans ((qy6 _ h2).trans ((qxm _ h3).trans ((q33 _ h4).trans (q6r h5))))).toB hB;refine f4.trans ⟨jd0 _ _,fun id hid hbit=>?_⟩;rw[qtv,jam hid];unfold IS.H;cases ho:S5.heap.get id with
 | none=>rfl
 | some o=>simp only[qfp,qxp hid hbit o ho,jab]
section
variable {P : Program} {tt : Nat -> Option TI} {T : TW} {nt lf : Nat} {cl : Cl} {F : Fence} {round : Option Nat} {nm : Nat -> Option Nm} {B : Nat}
theorem qum(hcl:ClFr cl){ops:List Oper}:∀{l:List Oper} {fr:PT IV} {S:IS} {q:FRes},iseq P tt nt cl ops l fr S=some q->FrX S q.S q.wr
 | [],fr,S,q,h=>by cases h;exact FrX.refl _ _
 | o::l,fr,S,q,h=>by
  unfold iseq at h;cases hgk:gOK ops fr o.guard with
  | false=>rw[hgk] at h;cases h
  | true =>
  rw[hgk,jab] at h;cases hw:qbv ops nt fr o.guard with
  | true =>
   rw[hw,jab] at h;split at h
   ·cases h
   rename_i r hr;split at h
   ·cases h;exact qi2 hcl _ hr
   split at h<;>cases h;rename_i q hq;exact FrX.trans (qi2 hcl _ hr) (qum hcl hq)
  | false=>rw[hw,jae] at h;exact qum hcl h
theorem qkj(hcl:ClFr cl){ops:List Oper}{bs:List Nat}:∀{l:List Oper} {k:Nat} {pn:Option (Nat × IV)} {fr:PT IV} {S:IS} {q:Recs},qa8 P tt nt cl ops bs l k pn fr S=some q->FrX S q.S (orWr q.l)
 | [],k,pn,fr,S,q,h=>by cases h;exact FrX.refl _ _
 | o::l,k,pn,fr,S,q,h=>by
  have z:∀{q:Recs},FrX S q.S (orWr q.l)->FrX S q.S (0 ||| orWr q.l):=fun h=>by rw[jdi];exact h
  unfold qa8 at h;cases hsk:qdt bs k pn with
  | true =>
   rw[hsk,jab] at h;split at h<;>cases h;rename_i q hq;exact z (qkj hcl hq)
  | false =>
  rw[hsk,jae] at h;cases hgk:gOK ops fr o.guard with
  | false=>rw[hgk] at h;cases h
  | true =>
  rw[hgk,jab] at h;cases hw:qbv ops nt fr o.guard with
  | true =>
   rw[hw,jab] at h;split at h
   ·cases h
   rename_i r hr;split at h
   ·split at h
    ·cases h
    cases hf:qb0 _ with
    | false=>rw[hf] at h;cases h
    | true =>
    rw[hf,jab] at h;split at h<;>cases h;rename_i q hq;exact FrX.trans (qi2 hcl _ hr) (qkj hcl hq)
   split at h<;>cases h;rename_i q hq;exact FrX.trans (qi2 hcl _ hr) (qkj hcl hq)
  | false =>
   rw[hw,jae] at h;split at h<;>cases h;rename_i q hq;exact z (qkj hcl hq)
theorem ze4(hcl:ClFr cl){ops:List Oper}{fr:PT IV}{S:IS}{q:FRes}(h:iany P tt nt cl ops fr S=some q):FrX S q.S q.wr:=by
 unfold iany at h;split at h
 ·cases h
 rename_i q0 hq;cases hc:ichk q0.l q0.S (befs ops []) [] with
 | true =>
  rw[hc,jab] at h;split at h<;>cases h
  ·exact qkj hcl hq
  ·exact⟨by rw[qqs];exact jap _,fun id hid hw=>by rw[qfe,jak (fun h=>by rw[hw] at h;cases h.2)]⟩
 | false=>rw[hc] at h;cases h
theorem qzm(hcl:ClFr cl){f:Nat}{caps:List IV}{S:IS}{id:Nat}{fr:PT IV}{ds:List Nat}{rd:Nat}{r:CRes}(h:ifin cl f caps S id fr ds rd=some r):FrX S r.S r.wr:=by
 unfold ifin at h;split at h
 ·cases h
 rename_i r1 hr1;have h1:FrX S r1.S r1.wr:=hcl _ _ _ _ hr1;split at h
 ·cases h
 split at h<;>try cases h
 split at h
 ·cases h
 ·split at h
  ·cases h;exact FrX.trans h1 (FrX.set _ _ _)
  ·split at h<;>cases h;exact FrX.trans h1 (FrX.set _ _ _)
theorem qt8{B:Nat}{S:IS}{r:CRes}(h:FrXB B S r.S r.wr):FrXB B S (mbR B r).S (mbR B r).wr:=by
 refine⟨h.1,fun id hid hb=>?_⟩;have hb:(mb B r.wr).testBit id=false:=hb;unfold mb at hb;cases h0:Nat.beq B 0 with
 | true =>
  have:B=0:=jah h0;omega
 | false=>rw[h0] at hb;exact h.2 id hid hb
theorem quz(hz:frzF nm=false)(hcl:ClFr cl):∀(c:Code) {fr:PT IV} {S:IS} {ds:List Nat} {r:CRes},B<=S.next->qae P tt nm B nt cl lf round c fr S ds=some r->FrXB B S r.S r.wr:=by
 have eB:mB nm B=B:=by unfold mB;rw[hz];rfl
 intro c;induction c with
 | skip=>intro fr S ds r hB h;cases h;exact(FrX.refl _ _).toB hB
 | label l=>intro fr S ds r hB h;cases h;exact(FrX.refl _ _).toB hB
 | exit id=>intro fr S ds r hB h;cases h;exact(FrX.refl _ _).toB hB
 | goto l=>intro fr S ds r hB h;cases h;exact(FrX.refl _ _).toB hB
 | ret=>intro fr S ds r hB h;cases h;exact(FrX.refl _ _).toB hB
 | refuse _=>intro fr S ds r hB h;cases h
 | region id ops draw =>
  intro fr S ds r hB h;simp only[qae] at h;have h0:=qea h;clear h;obtain⟨r,h,rfl⟩:=h0;rw[eB];refine qt8 ?_;split at h
  ·cases h
  rename_i x hx;split at h<;>cases h;rename_i q hq;have h0:=zlt hB hx;cases draw with
  | true=>rw[jab] at hq;exact h0.trans ((ze4 hcl hq).toB h0.1)
  | false=>rw[jae] at hq;exact h0.trans ((qum hcl hq).toB h0.1)
 | seq x y ihx ihy =>
  intro fr S ds r hB h;simp only[qae] at h;split at h
  ·cases h
  rename_i r1 hr1;split at h
  ·split at h<;>cases h;rename_i q hq;exact FrXB.trans (ihx hB hr1) (ihy (ihx hB hr1).1 hq)
  ·cases h;exact ihx hB hr1
 | cond c x y ihx ihy =>
  intro fr S ds r hB h;simp only[qae] at h;split at h<;>try cases h
  rename_i b hb;cases b with
  | true=>exact ihx hB h
  | false=>exact ihy hB h
 | block id c ih =>
  intro fr S ds r hB h;simp only[qae] at h;split at h
  ·cases h
  rename_i r1 hr1;split at h
  ·rename_i id' he;cases hid:Nat.beq id' id with
   | true=>rw[hid,jab] at h;cases h;exact(ih hB hr1:FrXB B S r1.S r1.wr)
   | false=>rw[hid,jae] at h;cases h;exact ih hB hr1
  ·cases h;exact ih hB hr1
 | scope c ih =>
  intro fr S ds r hB h;simp only[qae] at h;split at h
  ·cases h
  rename_i r1 hr1;split at h
  ·cases h
  ·cases h;exact ih hB hr1
 | loop c ih =>
  intro fr S ds r hB h;simp only[qae] at h;split at h
  ·rename_i m hm;have h0:=qea h;clear h;obtain⟨r,h,rfl⟩:=h0;rw[eB];refine qt8 ?_;have key:∀(j:Nat) (fr:PT IV) (S:IS) (ds:List Nat) (r:CRes),B<=S.next->qbs (qae P tt nm B nt cl lf round c) m.1 m.2 j fr S ds=some r->FrXB B S r.S m.2/\r.wr=m.2:=by
    intro j;induction j with
    | zero=>intro fr S ds r hB h;cases h
    | succ j ihj =>
     intro fr S ds r hB h;unfold qbs at h;split at h
     ·cases h
     rename_i r1 hr1;cases hb:(subm r1.rd m.1&&subm r1.wr m.2) with
     | false=>rw[hb] at h;cases h
     | true =>
     rw[hb,jab] at h;simp only[jaf] at hb;have f1:=ih hB hr1;have e:r1.wr ||| m.2=m.2:=jah hb.2;split at h
     ·obtain⟨f2,e2⟩:=ihj _ _ _ _ f1.1 h;have:=f1.trans f2;rw[e] at this;exact⟨this,e2⟩
     ·cases h;have:=f1.trans (FrX.refl r1.S m.2 |>.toB f1.1);rw[e] at this;exact⟨this,rfl⟩
   obtain⟨k1,k2⟩:=key _ _ _ _ _ hB h;rw[k2];exact k1
  have key:∀(j:Nat) (fr:PT IV) (S:IS) (ds:List Nat) (r:CRes),B<=S.next->qcx (qae P tt nm B nt cl lf round c) j fr S ds=some r->FrXB B S r.S r.wr:=by
   intro j;induction j with
   | zero=>intro fr S ds r hB h;cases h
   | succ j ihj =>
    intro fr S ds r hB h;unfold qcx at h;split at h
    ·cases h
    rename_i r1 hr1;split at h
    ·split at h<;>cases h;rename_i q hq;exact FrXB.trans (ih hB hr1) (ihj _ _ _ _ (ih hB hr1).1 hq)
    ·cases h;exact ih hB hr1
  exact key _ _ _ _ _ hB h
 | rangeFunc g ps assign body ih1 ih2 =>
  intro fr S ds r hB h;simp only[qae] at h;have h0:=qea h;clear h;obtain⟨r,h,rfl⟩:=h0;rw[eB];refine qt8 ?_;split at h<;>try cases h
  split at h
  ·exact(FrX.newTrans (FrX.newTrans (qzm hcl h))).toB hB
  ·split at h<;>try cases h
   exact(FrX.newTrans (qzm hcl h)).toB hB

def qe1:List Nat->List IV->PT IV->PT IV
 | t::ts,v::vs,fr=>qe1 ts vs (fr.set v t)
 | _,_,fr=>fr
theorem q7z{E:Env}:∀{ps:List Nat} {vs:List IV} {us:List Value} {fr:PT IV} {tmps:Array Value},VRs E vs us->FR E nt fr tmps->FR E nt (qe1 ps vs fr) ((ps.zip us).foldl (fun tmps (t,a)=>tmps.setIfInBounds t a) tmps)
 | [],vs,us,fr,tmps,hv,hf=>by simpa [qe1] using hf
 | t::ps,[],us,fr,tmps,hv,hf=>by
  have:=hv.1;cases us with
  | nil=>simpa [qe1] using hf
  | cons u us=>simp at this
 | t::ps,v::vs,us,fr,tmps,hv,hf=>by
  obtain⟨u,us,rfl,h1,h2⟩:=hv.inv;simp only[qe1,List.zip_cons_cons,List.foldl_cons];exact q7z h2 (hf.put h1)
def qdr:IEx->Option Code
 | .normal=>none
 | .ret=>some .ret
 | .exit id=>some (.exit id)
 | .goto l=>some (.goto l)
 | .pan _=>none
def IEx.isPan:IEx->Bool
 | .pan _=>true
 | _=>false
def qed(P:Program)(tt:Nat->Option TI)(cl:Cl)(lf:Nat)(id:Nat)(vs:List IV)(S:IS):Option Res :=
 match S.heap.get id with
 | some (.loop .ready _ nt fr ps assign body _)=>cond (Nat.beq vs.length ps.length&&qba assign&&qba body)
  (match qae P tt (fun _=>none) S.next nt cl lf (some id) assign (qe1 ps vs fr) S [] with
  | none=>none
  | some r1=>match r1.e with
   | .normal=>match r1.S.heap.get id with
    | some (.loop .ready pend nt2 fr2 ps2 as2 bd2 D2)=>match qae P tt (fun _=>none) S.next nt cl lf (some id) body r1.fr (r1.S.set id (.loop .busy pend nt2 fr2 ps2 as2 bd2 D2)) r1.ds with
     | none=>none
     | some r2=>cond r2.e.isPan none <| match r2.S.heap.get id with
      | some (.loop _ _ nt3 fr3 ps3 as3 bd3 D3)=>some ⟨.bool (qdr r2.e).isNone,r2.S.set id (.loop (if (qdr r2.e).isNone then .ready else .done) (qdr r2.e) nt3 fr3 ps3 as3 bd3 D3),2 ^ id ||| (r1.rd ||| r2.rd),(r1.wr ||| 2 ^ id) ||| (r2.wr ||| 2 ^ id)⟩
      | _=>none
    | _=>none
   | _=>none) none
 | _=>none
theorem zmt(hcl:ClFr cl){id:Nat}{vs:List IV}{S:IS}:FrO S (qed P tt cl lf id vs S):=by
 intro r h;unfold qed at h;split at h<;>try cases h
 rename_i x nt fr ps assign body y hobj;cases hb:(Nat.beq vs.length ps.length&&qba assign&&qba body) with
 | false=>rw[hb] at h;cases h
 | true =>
 rw[hb,jab] at h;split at h
 ·cases h
 rename_i r1 hr1;split at h<;>try cases h
 split at h<;>try cases h
 split at h
 ·cases h
 rename_i r2 hr2;cases hpn:r2.e.isPan with
 | true=>rw[hpn] at h;cases h
 | false =>
 rw[hpn,jae] at h;split at h<;>cases h;have a1:=quz rfl hcl _ (jap _) hr1;have a3:=quz (S:=r1.S.set id _) rfl hcl _ a1.1 hr2;exact(a1.trans ((FrX.set r1.S id _).toB a1.1)).trans (a3.trans ((FrX.set r2.S id _).toB a3.1))
theorem zj8(hm:P.follows .mixedOrders=true)(hcl:ClOK P cl)(hfr:ClFr cl)(htt:TT P tt){id:Nat}{vs:List IV}{S:IS}{r:Res}(h:qed P tt cl lf id vs S=some r)
  (T:TW) (E:Env) (us:List Value) (p:Pre T E S) (hrd:tin T.r r.rd) (hwr:tin T.w r.wr) (hv:VRs E vs us) (hA:E.A id):YieldAt Fence.wide 0 P (E.ρ id) us.toArray E.w (RetX T E S r):=by
 unfold qed at h;split at h<;>try cases h
 rename_i pd nt fr ps assign body D hobj;cases hb:(Nat.beq vs.length ps.length&&qba assign&&qba body) with
 | false=>rw[hb] at h;cases h
 | true =>
 rw[hb,jab] at h;simp only[jaf] at hb;obtain⟨⟨hb1,hb2⟩,hb3⟩:=hb;have hlen:=jah hb1;split at h
 ·cases h
 rename_i r1 hr1;split at h<;>try cases h
 rename_i he1;split at h<;>try cases h
 rename_i pend nt2 fr2 ps2 as2 bd2 D2 hobj1;split at h
 ·cases h
 rename_i r2 hr2;cases hpn:r2.e.isPan with
 | true=>rw[hpn] at h;cases h
 | false =>
 rw[hpn,jae] at h;split at h<;>cases h;rename_i st3 pd3 nt3 fr3 ps3 as3 bd3 D3 hobj2;obtain⟨t1,t2⟩:=qat hrd;obtain⟨t3,t4⟩:=qat t2;obtain⟨v1,v2⟩:=qat hwr;obtain⟨v3,v4⟩:=qat v1;obtain⟨v5,_⟩:=qat v2;obtain⟨fn,tmps,g1,g2,g3⟩:=p.st.objs id (qaf t1) hA _ hobj;have hy:=run_yield (P:=P) (args:=us.toArray) g1 (by simp only[List.size_toArray];rw[<- hv.1,hlen]);have hz:(ps.toArray.zip us.toArray).foldl (fun tmps (t,a)=>tmps.setIfInBounds t a) tmps=(ps.zip us).foldl (fun tmps (t,a)=>tmps.setIfInBounds t a) tmps:=by
  simp[List.zip_toArray]
 refine⟨fn,_,assign,body,hy,roundIn_of_wpIn trivial ?_⟩;have hFp:(Fence.wide.inRound (E.ρ id)).plain=Fence.wide:=rfl;refine qn6 (T:=T) (E:=E) (a:={ tmps:=_,defers:=[] }) (S:=S) (ds:=[]) (round:=some id) (B:=S.next) (fun h=>(by cases h)) hm hFp hcl hfr htt assign hb2 p (jap _) p.nw ?_ (DS.nil (N:=0) (jbj _)) (fun _=>⟨rfl,hA,p.bnd id hA⟩) hr1 t3 v3 ?_
 ·have:=q7z (ps:=ps) hv g2;rw[<- hz] at this;exact this
 intro E1 a1 x1 k0 k1 k2 kB;obtain⟨k3,k4⟩:=kB.full p;rw[he1] at k0;cases k0;have p1:=k3.pre p;have hle1:=k3.env p;obtain⟨a1',a2',a3'⟩:=hle1.alw id hA;obtain⟨fn1,tmps1,g1',g2',g3'⟩:=p1.st.objs id (qaf t1) a1' _ hobj1;rw[a2'] at g1';have hbg:=run_beginRound (P:=P) g1' rfl;have hL:Live E1 r1.S.H id:=⟨p1.st.blk id (qaf t1) a1' _ hobj1 rfl,_,hobj1,rfl⟩;have hu1:Upd [E1.ρ id] E1.w (E1.w.putObj (E.ρ id) (.loop { state:=.busy,pending:=pend,fn:=fn1,tmps:=tmps1,params:=ps2.toArray,assign:=as2,body:=bd2,defers:=E1.ρ D2 })):=by rw[a2'];exact Upd.putObj _ _ _
 obtain⟨q1,q2⟩:=Post.write p1 (o':=.loop .busy pend nt2 fr2 ps2 as2 bd2 D2) (qaf v4) a1' hL hu1
  ⟨fn1,tmps1,by
   rw[show (E1.at_ (E1.w.putObj (E.ρ id) (.loop { state:=.busy,pending:=pend,fn:=fn1,tmps:=tmps1,params:=ps2.toArray,assign:=as2,body:=bd2,defers:=E1.ρ D2 }))).ρ id=E.ρ id from a2'];exact jb2 (qbd g1'),FR.mono (Env.at_le p1.st (qaf v4) a1' hL hu1) g2',g3'⟩
 have p2:=q1.pre p1;have hle2:=q1.env p1;have q3:=Post.trans p k3 k4 q1;have q4:=k4.trans q2 k3.le;refine⟨_,hbg,?_⟩;obtain⟨E2,hE2⟩:∃E2,E1.at_ (E1.w.putObj (E.ρ id) (.loop { state:=.busy,pending:=pend,fn:=fn1,tmps:=tmps1,params:=ps2.toArray,assign:=as2,body:=bd2,defers:=E1.ρ D2 }))=E2:=⟨_,rfl⟩;have hw2:E1.w.putObj (E.ρ id) (.loop { state:=.busy,pending:=pend,fn:=fn1,tmps:=tmps1,params:=ps2.toArray,assign:=as2,body:=bd2,defers:=E1.ρ D2 })=E2.w:=by rw[<- hE2];rfl
 have hleE2:E.Le E2:=by rw[<- hE2];exact hle1.trans hle2
 rw[hE2] at p2 hle2 q3 q4;show body.wpIn _ 0 P _ a1 (E1.w.putObj (E.ρ id) (.loop { state:=.busy,pending:=pend,fn:=fn1,tmps:=tmps1,params:=ps2.toArray,assign:=as2,body:=bd2,defers:=E1.ρ D2 }));rw[hw2];obtain⟨b1,b2,b3⟩:=hleE2.alw id hA;refine qn6 (T:=T) (E:=E2) (a:=a1) (round:=some id) (B:=S.next) (fun h=>(by cases h)) hm hFp hcl hfr htt body hb3 p2 q3.le p.nw (k1.mono hle2) (k2.mono hle2 (by rw[<- hE2];exact q1.stp.size)) (fun _=>⟨by show some (E.ρ id)=some (E2.ρ id);rw[b2],b1,p.bnd id hA⟩) hr2 t4 v5 ?_;intro E3 a3 x3 m0 m1 m2 mB;obtain⟨q5,q6⟩:=PostB.full p ((PostB.of (jap _) p.nw q3 q4).trans mB);have p3:=q5.pre p;have hle3:=q5.env p;obtain⟨c1,c2,c3⟩:=hle3.alw id hA;obtain⟨fn3,tmps3,g13,g23,g33⟩:=p3.st.objs id (qaf t1) c1 _ hobj2;rw[c2] at g13;have hend:=fun j=>run_endRound (P:=P) j g13;have hL3:Live E3 r2.S.H id:=⟨p3.st.blk id (qaf t1) c1 _ hobj2 rfl,_,hobj2,rfl⟩;have fin:∀(st:LoopState) (pe:Option Code),RetX T E S ⟨.bool pe.isNone,r2.S.set id (.loop st pe nt3 fr3 ps3 as3 bd3 D3),2 ^ id ||| (r1.rd ||| r2.rd),(r1.wr ||| 2 ^ id) ||| (r2.wr ||| 2 ^ id)⟩ (.returned (.bool pe.isNone)) (E3.w.putObj (E.ρ id) (.loop { state:=st,pending:=pe,fn:=fn3,tmps:=tmps3,params:=ps3.toArray,assign:=as3,body:=bd3,defers:=E3.ρ D3 })):=fun st pe=>by
  have hu3:Upd [E3.ρ id] E3.w (E3.w.putObj (E.ρ id) (.loop { state:=st,pending:=pe,fn:=fn3,tmps:=tmps3,params:=ps3.toArray,assign:=as3,body:=bd3,defers:=E3.ρ D3 })):=by rw[c2];exact Upd.putObj _ _ _
  obtain⟨z1,z2⟩:=Post.write p3 (o':=.loop st pe nt3 fr3 ps3 as3 bd3 D3) (qaf v4) c1 hL3 hu3
   ⟨fn3,tmps3,by
    rw[show (E3.at_ (E3.w.putObj (E.ρ id) (.loop { state:=st,pending:=pe,fn:=fn3,tmps:=tmps3,params:=ps3.toArray,assign:=as3,body:=bd3,defers:=E3.ρ D3 }))).ρ id=E.ρ id from c2];exact jb2 (qbd g13),FR.mono (Env.at_le p3.st (qaf v4) c1 hL3 hu3) g23,g33⟩
  exact RetX.of ⟨_,_,rfl,rfl,.bool _,Post.trans p q5 q6 z1,q6.trans z2 q5.le⟩
 cases he:r2.e with
 | normal=>rw[he] at m0;cases m0;exact⟨_,_,hend none,by simpa [he,qdr] using fin .ready none⟩
 | ret=>rw[he] at m0;cases m0;exact⟨_,_,hend (some .ret),by simpa [he,qdr] using fin .done (some .ret)⟩
 | exit i=>rw[he] at m0;cases m0;exact⟨_,_,hend (some (.exit i)),by simpa [he,qdr] using fin .done (some (.exit i))⟩
 | goto l=>rw[he] at m0;cases m0;exact⟨_,_,hend (some (.goto l)),by simpa [he,qdr] using fin .done (some (.goto l))⟩
 | pan p=>rw[he] at hpn;cases hpn

def qdg(tt:Nat->Option TI)(nt:Nat)(res:List ResultVar)(S0:IS)(r:CRes):Option Res :=
 match qe6 r.ds r.S with
 | none=>none
 | some (S',wr)=>match r.e with
  | .pan p=>cond (qb0 p) (some ⟨.pan p,kill ((r.wr ||| wr) % 2 ^ S0.next) S0,r.rd % 2 ^ S0.next,(r.wr ||| wr) % 2 ^ S0.next⟩) none
  | _=>match ires tt nt r.fr S' res with
   | none=>none
   | some (vs,rd)=>some (igc S0 ⟨tupI vs,S',r.rd ||| rd,r.wr ||| wr⟩)
def IEx.leaves:IEx->Bool
 | .normal=>true
 | .ret=>true
 | .pan _=>true
 | _=>false
def Calm(cl:Cl):Prop:=∀tgt vs S r,cl tgt vs S=some r->r.wr=0->low2 S.next r.v=true->r.S=S
abbrev Ex:=Nat->Option (Cl->List IV->IS->Option Res)
structure ExOK (P:Program) (ex:Ex):Prop where
 fn:∀f g,ex f=some g->∀cl,ClOK P cl->ClFr cl->Calm cl->∀vs S r,g cl vs S=some r->∀(T:TW) (E:Env) (us:List Value),Pre T E S->tin T.r r.rd->tin T.w r.wr->VRs E vs us->qai P f/\CallsIn Fence.wide 0 P f us.toArray E.w (RetX T E S r)
 fr:∀f g,ex f=some g->∀cl,ClFr cl->∀vs S,FrO S (g cl vs S)
 calm:∀f g,ex f=some g->∀cl,Calm cl->∀vs S r,g cl vs S=some r->r.wr=0->low2 S.next r.v=true->r.S=S
def qby(P:Program)(tt:Nat->Option TI)(ft:Nat->Option FI)(nm:Nat->Nat->Option Nm)(ex:Ex)(lf:Nat):Nat->Cl
 | 0,_,_,_=>none
 | n+1,tgt,vs,S=>match tgt with
  | .yield id=>qed P tt (qby P tt ft nm ex lf n) lf id vs S
  | .fn f=>match ex f with
   | some g=>g (qby P tt ft nm ex lf n) vs S
   | none=>match ft f with
    | none=>none
    | some fi=>cond (frzF (nm f)) none (cond (Nat.ble vs.length fi.nt) (match qae P tt (nm f) S.next fi.nt (qby P tt ft nm ex lf n) lf none fi.body (qay vs 0 .leaf) S [] with
    | none=>none
    | some r=>cond r.e.leaves (qdg tt fi.nt fi.res S r) none) none)
theorem qwz:∀{ds:List Nat} {S S':IS} {wr:Nat},qe6 ds S=some (S',wr)->FrX S S' wr
 | [],S,S',wr,h=>by cases h;exact FrX.refl _ _
 | D::ds,S,S',wr,h=>by
  unfold qe6 at h;split at h<;>try cases h
  split at h<;>cases h;rename_i S' wr hm;exact FrX.trans (FrX.set _ _ _) (qwz hm)
theorem zdo{res:List ResultVar}{S0:IS}{r:CRes}(h0:FrX S0 r.S r.wr):FrO S0 (qdg tt nt res S0 r):=by
 intro q h;unfold qdg at h;split at h
 ·cases h
 rename_i S' wr hm;split at h
 ·cases hf:qb0 _ with
  | false=>rw[hf] at h;cases h
  | true =>
   rw[hf,jab] at h;cases h;exact⟨by rw[qqs];exact jap _,fun id hid hw=>by rw[qfe,jak (fun h=>by rw[hw] at h;cases h.2)]⟩
 ·split at h<;>cases h;exact q9o (FrX.trans h0 (qwz hm))
variable {ft : Nat -> Option FI} {nmt : Nat -> Nat -> Option Nm} {ex : Ex}
theorem qgd(hex:ExOK P ex):∀n,ClFr (qby P tt ft nmt ex lf n)
 | 0=>fun tgt vs S=>FrO.none
 | n+1=>fun tgt vs S=>by
  unfold qby
  cases tgt with
  | yield id=>exact zmt (qgd hex n)
  | fn f =>
   simp only;split
   ·rename_i g hg;exact hex.fr f g hg _ (qgd hex n) vs S
   split
   ·exact FrO.none
   rename_i fi hfi;cases hz:frzF (nmt f) with
   | true=>exact FrO.none
   | false =>
   simp only[jae];apply FrO.cond
   ·split
    ·exact FrO.none
    rename_i r hr;apply FrO.cond
    ·exact zdo (quz hz (qgd hex n) _ (jap _) hr).full
    ·exact FrO.none
   ·exact FrO.none
theorem zc8{id:Nat}{vs:List IV}{S:IS}{r:Res}(h:qed P tt cl lf id vs S=some r)(hw:r.wr=0):False:=by
 unfold qed at h;split at h<;>try cases h
 rename_i pe nt fr ps assign body D ho;cases hb:(Nat.beq vs.length ps.length&&qba assign&&qba body) with
 | false=>rw[hb] at h;cases h
 | true =>
 rw[hb,jab] at h;split at h
 ·cases h
 split at h<;>try cases h
 split at h<;>try cases h
 split at h
 ·cases h
 rename_i r2 _;cases hpn:r2.e.isPan with
 | true=>rw[hpn] at h;cases h
 | false =>
 rw[hpn,jae] at h;split at h<;>cases h;have h1:=(or_zero hw).1;have h2:=(or_zero h1).2;have:=Nat.one_le_two_pow (n:=id);omega
theorem zce{S:IS}{q:Res}(hw:(igc S q).wr=0)(hv:low2 S.next (igc S q).v=true):(igc S q).S=S:=by
 unfold igc at hw hv ⊢;cases hb:(Nat.beq (q.wr % 2 ^ S.next) 0&&low2 S.next q.v) with
 | true=>rfl
 | false =>
  rw[hb,jae] at hw hv;rw[jep] at hb;rcases hb with hb|hb
  ·rw[show q.wr % 2 ^ S.next=0 from hw] at hb;cases hb
  ·rw[show low2 S.next q.v=true from hv] at hb;cases hb
theorem q5q(hex:ExOK P ex):∀n,Calm (qby P tt ft nmt ex lf n)
 | 0=>fun tgt vs S r h=>by cases h
 | n+1=>fun tgt vs S r h hw hv=>by
  unfold qby at h;cases tgt with
  | yield id=>exact(zc8 h hw).elim
  | fn f =>
   simp only at h;split at h
   ·rename_i g hg;exact hex.calm f g hg _ (q5q hex n) vs S r h hw hv
   split at h
   ·cases h
   rename_i fi hfi;cases hz:frzF (nmt f) with
   | true=>rw[hz] at h;cases h
   | false =>
   rw[hz,jae] at h;cases hb:Nat.ble vs.length fi.nt with
   | false=>rw[hb] at h;cases h
   | true =>
   rw[hb,jab] at h;split at h
   ·cases h
   rename_i r1 hr1;cases hl:r1.e.leaves with
   | false=>rw[hl] at h;cases h
   | true =>
   rw[hl,jab] at h;unfold qdg at h;split at h
   ·cases h
   split at h
   ·cases hf:qb0 _ with
    | false=>rw[hf] at h;cases h
    | true =>
     rw[hf,jab] at h;cases h;simp only at hw ⊢;rw[hw];exact zfe S
   ·split at h<;>cases h;exact zce hw hv
theorem qsa{fi:FI}{f:Nat}{nm:Nat->Option Nm}{vs:List IV}{S:IS}{r1:CRes}{r:Res}(hz:frzF nm=false)(hm:P.follows .mixedOrders=true)(htt:TT P tt)
  (hfi:∃fn,P.funcs[f]?=some fn/\fn.body=some fi.body/\fn.ntmps=fi.nt/\fn.results=fi.res.toArray/\(fn.name == "runtime.NumGoroutine") = false/\qba fi.body=true) (hcl:ClOK P cl) (hfr:ClFr cl)
  (hb:Nat.ble vs.length fi.nt=true) (hr1:qae P tt nm S.next fi.nt cl lf none fi.body (qay vs 0 .leaf) S []=some r1) (hl:r1.e.leaves=true) (h:qdg tt fi.nt fi.res S r1=some r)
  {T:TW} {E:Env} {us:List Value} (p:Pre T E S) (hrd:tin T.r r.rd) (hwr:tin T.w r.wr) (hv:VRs E vs us):qai P f/\CallsIn Fence.wide 0 P f us.toArray E.w (RetX T E S r):=by
 unfold qdg at h;split at h
 ·cases h
 rename_i S' wr hmk;obtain⟨fn,f1,f2,f3,f4,f5,f6⟩:=hfi;refine⟨⟨fn,f1,by rw[f2];rfl,f5⟩,?_⟩;split at h
 ·rename_i pv he;have hf:qb0 pv=true:=by
   cases hf:qb0 pv with
   | false=>rw[hf] at h;cases h
   | true=>rfl
  rw[hf,jab] at h;cases h;obtain⟨T',hT'⟩:∃T':TW,T'=⟨T.r,fun id=>((r1.wr ||| wr) % 2 ^ S.next).testBit id=true\/S.next<=id,fun id h=>by
   rcases h with h|h
   ·exact T.sub _ (hwr id h)
   ·exact T.sub _ (p.nw id h)⟩:=⟨_,rfl⟩
  have hTr:T'.r=T.r:=by rw[hT']
  have hTw:∀id,T'.w id↔(((r1.wr ||| wr) % 2 ^ S.next).testBit id=true\/S.next<=id):=fun id=>by rw[hT']
  have hTs:∀id,T'.w id->T.w id:=fun id h=>by
   rcases(hTw id).1 h with h|h
   ·exact hwr id h
   ·exact p.nw id h
  have p':Pre T' E S:=⟨by rw[hTr];exact p.st,p.bnd,fun id h=>(hTw id).2 (.inr h),p.gl⟩;have u1:tin T'.r r1.rd:=by rw[hTr];exact qlk hrd (fun id h=>T.sub _ (p.nw id h))
  obtain⟨u3,u4⟩:=qat (qlk (T:=T'.w) (a:=r1.wr ||| wr) (N:=S.next) (fun id h=>(hTw id).2 (.inl h)) (fun id h=>(hTw id).2 (.inr h)));refine callsIn_of_wp_marks f1 f2 trivial ?_;refine qn6 (T:=T') (E:=E) (S:=S) (ds:=[]) (round:=none) (B:=S.next) (fun h=>by rw[hz] at h;cases h) hm rfl hcl hfr htt fi.body f6 p' (jap _) p'.nw ?_ (DS.nil (N:=E.w.heap.size) (jap _)) (fun _=>rfl) hr1 u1 u3 ?_
  ·have:=FR.enter (nt:=fi.nt) hv (jao hb);rw[f3];exact this
  intro E1 a1 x1 k0 k1 k2 kB;rw[he] at k0;obtain⟨u,rfl,k0⟩:=k0;obtain⟨k3,k4⟩:=kB.full p';have hlv:LeavesInM Fence.wide 0 P fn a1.tmps (RetX T E S ⟨.pan pv,kill ((r1.wr ||| wr) % 2 ^ S.next) S,r1.rd % 2 ^ S.next,(r1.wr ||| wr) % 2 ^ S.next⟩) a1.defers (.panicking [{ v:=u,recovered:=false }]) E1.w:=by
   refine qs9 (E0:=E) (S0':=S) (B:=S.next) (by simp) (jap _) p'.nw (k3.pre p') k2 kB hmk u4 fun E2 hq p2 hv=>?_;obtain⟨q1,q2⟩:=hq.full p';obtain⟨z1,z2⟩:=q78 (T:=T) (W:=T'.w) (m:=(r1.wr ||| wr) % 2 ^ S.next) p hTs (fun id hw ha=>by
    rcases(hTw id).1 hw with h|h
    ·exact h
    ·exact absurd (p.bnd id ha) (Nat.not_lt.2 h)) q1.stp
   exact⟨u,E.at_ E2.w,rfl,rfl,qt0 hf (hv _ _ k0),z1,z2⟩
  exact hlv
 rename_i hne;split at h<;>cases h;rename_i vs' rd' hres;obtain⟨T',p',t1,t2,hback⟩:=zdz p hrd hwr;obtain⟨u1,u2⟩:=qat t1;obtain⟨u3,u4⟩:=qat t2;refine callsIn_of_wp_marks f1 f2 trivial ?_;refine qn6 (T:=T') (E:=E) (S:=S) (ds:=[]) (round:=none) (B:=S.next) (fun h=>by rw[hz] at h;cases h) hm rfl hcl hfr htt fi.body f6 p' (jap _) p'.nw ?_ (DS.nil (N:=E.w.heap.size) (jap _)) (fun _=>rfl) hr1 u1 u3 ?_
 ·have:=FR.enter (nt:=fi.nt) hv (jao hb);rw[f3];exact this
 intro E1 a1 x1 k0 k1 k2 kB;obtain⟨k3,k4⟩:=kB.full p';have hlv:LeavesInM Fence.wide 0 P fn a1.tmps (RetX T E S (igc S ⟨tupI vs',S',r1.rd ||| rd',r1.wr ||| wr⟩)) a1.defers .returning E1.w:=by
  refine qs9 (E0:=E) (S0':=S) (B:=S.next) (by simp) (jap _) p'.nw (k3.pre p') k2 kB hmk u4 fun E2 hq p2 hv=>?_;obtain⟨us',h1,h2⟩:=qtf htt p2 ⟨k1.size,fun t ht=>hv _ _ (k1.get t ht)⟩ hres u2;have h3:=zck (P:=P) (w:=E2.w) f4 h1;refine⟨qdz us',h3,?_⟩;exact RetX.of (hback _ _ ⟨_,E2,rfl,rfl,zam h2,hq.full p'⟩)
 cases he:r1.e with
 | normal=>rw[he] at k0;cases k0;exact hlv
 | ret=>rw[he] at k0;cases k0;exact hlv
 | exit i=>rw[he] at hl;cases hl
 | goto l=>rw[he] at hl;cases hl
 | pan pv=>exact absurd he (hne pv)
theorem qjy(hm:P.follows .mixedOrders=true)(htt:TT P tt)(hft:FT P ft)(hex:ExOK P ex):∀n,ClOK P (qby P tt ft nmt ex lf n)
 | 0=>⟨fun _ _ _ _ h=>(by cases h),fun _ _ _ _ h=>(by cases h)⟩
 | n+1=>by
  refine⟨fun f vs S r h T E us p hrd hwr hv=>?_,fun id vs S r h T E us p hrd hwr hv hA=>?_⟩
  ·unfold qby at h;simp only at h;split at h
   ·rename_i g hg;exact hex.fn f g hg _ (qjy hm htt hft hex n) (qgd hex n) (q5q hex n) vs S r h T E us p hrd hwr hv
   split at h
   ·cases h
   rename_i fi hfi;cases hz:frzF (nmt f) with
   | true=>rw[hz] at h;cases h
   | false =>
   rw[hz,jae] at h;cases hb:Nat.ble vs.length fi.nt with
   | false=>rw[hb] at h;cases h
   | true =>
   rw[hb,jab] at h;split at h
   ·cases h
   rename_i r1 hr1;cases hl:r1.e.leaves with
   | false=>rw[hl] at h;cases h
   | true =>
   rw[hl,jab] at h;exact qsa hz hm htt (hft f fi hfi) (qjy hm htt hft hex n) (qgd hex n) hb hr1 hl h p hrd hwr hv
  ·unfold qby at h;simp only at h;exact zj8 hm (qjy hm htt hft hex n) (qgd hex n) htt h T E us p hrd hwr hv hA

end
end Go.Jx
end

section
namespace Go.Jx
open Go Go.Sx Go.RowKit
universe u

def ElA:List TC->Type
 | []=>Unit
 | c::cs=>El c × ElA cs
def argV:(cs:List TC)->ElA cs->List IV
 | [],_=>[]
 | c::cs,x=>asIV c x.1::argV cs x.2
def ElR:List (Bool × TC)->Type
 | []=>Unit
 | (true,c)::cs=>List (El c) × ElR cs
 | (false,c)::cs=>El c × ElR cs
def resV:(cs:List (Bool × TC))->Nat->ElR cs->List IV
 | [],_,_=>[]
 | (true,c)::cs,n,x=>.arr n::resV cs (n+1) x.2
 | (false,c)::cs,n,x=>asIV c x.1::resV cs n x.2
def resO:(cs:List (Bool × TC))->ElR cs->List IObj
 | [],_=>[]
 | (true,c)::cs,x=>.arr c x.1::resO cs x.2
 | (false,c)::cs,x=>resO cs x.2
def addO:List IObj->IS->IS
 | [],S=>S
 | o::l,S=>addO l (S.new o)
theorem qgb:∀(l:List IObj) (S:IS),(addO l S).next=S.next+l.length
 | [],S=>rfl
 | o::l,S=>by unfold addO;rw[qgb l];simp [IS.new];omega
theorem qf8:∀(l:List IObj) (S:IS) (k:Nat),(addO l S).H k=if k<S.next then S.H k else if k<S.next+l.length then l[k-S.next]? else S.H k
 | [],S,k=>by
  simp only[addO,jce,jby];by_cases h:k<S.next
  ·rw[jam h]
  ·rw[jak h,jak h]
 | o::l,S,k=>by
  unfold addO;rw[qf8 l];have e:(S.new o).next=S.next+1:=rfl
  rw[e,IS.H_new];by_cases h1:k<S.next
  ·rw[jam (by omega),jam h1,up_ne _ _ (by omega)]
  ·rw[jak h1];by_cases h2:k=S.next
   ·subst h2;rw[jam (by omega),qah,jam (by simp)];simp
   ·rw[jak (by omega),up_ne _ _ h2];simp only[jbk];by_cases h3:k<S.next+(l.length+1)
    ·rw[jam (by omega),jam h3,show k-S.next=(k-(S.next+1))+1 by omega,jbn]
    ·rw[jak (by omega),jak h3]
def scal:TC->Bool
 | .list _=>false
 | .two a b=>scal a&&scal b
 | _=>true
structure Sm where
 pts:List TC
 rts:List (Bool × TC)
 f:ElA pts->Option (ElR rts)
def Sm.flat(s:Sm):Bool:=s.rts.all fun r=>scal r.2
def EM(M:List Nat)(w:World):Env:=⟨fun _=>0,fun _=>0,fun _=>.nilFunc,fun _=>false,fun _=>False,M,w⟩
def S0:IS:=⟨.leaf,0⟩
def T0:TW:=⟨fun _=>True,fun _=>True,fun _ h=>h⟩
theorem preM{M:List Nat}{w:World}(h:∀b∈M,b<w.heap.size)(g:Gl M w):Pre T0 (EM M w) S0 :=
 ⟨⟨fun id _ h=>h.elim,fun id _ h=>h.elim,fun id _ h=>h.elim,fun i j _ _ h=>h.elim,h⟩,fun id h=>h.elim,fun id _=>trivial,g⟩
structure Con (P:Program) (f:Nat) (s:Sm):Prop where
 callable:qai P f
 calls:∀(M:List Nat) (w:World) (x:ElA s.pts) (us:List Value) (y:ElR s.rts),s.f x=some y->(∀b∈M,b<w.heap.size)->Gl M w->VRs (EM M w) (argV s.pts x) us ->
  CallsIn Fence.wide 0 P f us.toArray w (RetE T0 (EM M w) S0 ⟨tupI (resV s.rts 0 y),addO (resO s.rts y) S0,0,0⟩)

def fitV:TC->IV->Bool
 | .two _ _,.agg _=>true
 | .two _ _,_=>false
 | _,.agg _=>false
 | _,.unk=>false
 | _,.tup _=>false
 | _,_=>true
def qdm:(cs:List TC)->IS->List IV->Option (ElA cs × IS × Nat)
 | [],S,vs=>match vs with
  | []=>some ((),S,0)
  | _=>none
 | c::cs,S,vs=>match vs with
  | v::vs=>cond (fitV c v) (match icl c S (cellsOf v) with
   | some (x,[],S1,w1)=>match qdm cs S1 vs with
    | some (xs,S2,w2)=>some ((x,xs),S2,w1 ||| w2)
    | none=>none
   | _=>none) none
  | _=>none
def exf(s:Sm)(vs:List IV)(S:IS):Option Res :=
 match qdm s.pts S vs with
 | none=>none
 | some (x,S1,w)=>match s.f x with
  | none=>none
  | some y=>cond s.flat (some ⟨tupI (resV s.rts S.next y),addO (resO s.rts y) S,w,0⟩) (some ⟨tupI (resV s.rts S1.next y),addO (resO s.rts y) S1,0,w⟩)
section
variable {P : Program} {E : Env} {S : IS} {T : TW}
theorem q26{E0 E:Env}{c:TC}{x:El c}{v:IV}{u:Value}(hf:fitV c v=true)(hv:VR E0 v u)(h:VRs E (cel c x) u.cells.toList):VR E (asIV c x) u:=by
 have hone:(∀a b,c≠.two a b)->u.cells.toList=[u]:=fun hc=>by
  cases c with
  | two a b=>exact absurd rfl (hc a b)
  | int k=>cases hv<;>first|rfl|cases hf
  | bool=>cases hv<;>first|rfl|cases hf
  | str=>cases hv<;>first|rfl|cases hf
  | list c=>cases hv<;>first|rfl|cases hf
 cases c with
 | two a b =>
  cases hv<;>try cases hf
  exact .agg h.1 h.2
 | int k=>rw[hone (by simp)] at h;exact h.2 0 (by simp[cel]) (by simp)
 | bool=>rw[hone (by simp)] at h;exact h.2 0 (by simp[cel]) (by simp)
 | str=>rw[hone (by simp)] at h;exact h.2 0 (by simp[cel]) (by simp)
 | list c=>rw[hone (by simp)] at h;exact h.2 0 (by simp[cel]) (by simp)
theorem q2f{c:TC}{v:IV}(h:fitV c v=true):qcy v=true:=by cases c<;>cases v<;>first|rfl|cases h
theorem qtb{E E':Env}(hm:∀b,b∈E'.m->b∈E.m)(hw:E'.w=E.w){c:TC}{x:El c}{u:Value}(h:VR E (asIV c x) u):VR E' (asIV c x) u:=by
 have hno:∀{v:IV} {u:Value},VR E v u->_:=fun h=>VR.noid hm hw h;cases c with
 | two a b =>
  cases h with
  | agg hl hh=>exact .agg hl fun i a b=>(hno (hh i a b)).2.2 _ _ (ja0 a)
 | int k=>exact(hno h).2.2 (.int k) x (by simp[cel,asIV])
 | bool=>exact(hno h).2.2 .bool x (by simp[cel,asIV])
 | str=>exact(hno h).2.2 .str x (by simp[cel,asIV])
 | list c=>exact(hno h).2.2 (.list c) x (by simp[cel,asIV])
theorem qq6:∀(cs:List TC) {E:Env} {S:IS} {vs:List IV} {us:List Value} {x:ElA cs} {S':IS} {w:Nat},qdm cs S vs=some (x,S',w)->Pre T E S->tin T.w w->VRs E vs us ->
  ∃E',E'.w=E.w/\Post T E S E' S'/\Fresh E S E'/\VRs E' (argV cs x) us
 | [],E,S,vs,us,x,S',w,h,p,hw,hv=>by
  cases vs with
  | cons v vs=>cases h
  | nil=>cases h;exact⟨E,rfl,Post.refl p,Fresh.refl E S,hv⟩
 | c::cs,E,S,vs,us,x,S',w,h,p,hw,hv=>by
  cases vs with
  | nil=>cases h
  | cons v vs =>
  simp only[qdm] at h;cases hb:fitV c v with
  | false=>rw[hb] at h;cases h
  | true =>
  rw[hb,jab] at h;split at h<;>try cases h
  rename_i x1 S1 w1 h1;split at h<;>cases h;rename_i xs S2 w2 h2;obtain⟨g1,g2⟩:=qat hw;obtain⟨u,us,rfl,a1,a2⟩:=hv.inv;obtain⟨E1,e1,q1,f1,us1,us2,e2,v1,v2⟩:=qfs c h1 p g1 (a1.cells (q2f hb));have:us2=[]:=by have:=v2.1;simpa using this.symm
  subst this;rw[jdn] at e2;rw[<- e2] at v1;have b1:=q26 hb a1 v1;obtain⟨E2,e3,q2,f2,b2⟩:=qq6 cs h2 (q1.pre p) g2 (a2.mono (q1.env p));exact⟨E2,e3.trans e1,Post.trans p q1 f1 q2,f1.trans f2 q1.le,VRs.cons (b1.mono (q2.env (q1.pre p))) b2⟩
theorem qsl{E E':Env}(hm:∀b,b∈E'.m->b∈E.m)(hw:E'.w=E.w):∀(cs:List TC) {x:ElA cs} {us:List Value},VRs E (argV cs x) us->VRs E' (argV cs x) us
 | [],x,us,h=>by have:=h.1;cases us with|nil=>exact VRs.nil|cons _ _=>simp [argV] at this
 | c::cs,x,us,h=>by
  obtain⟨u,us,rfl,a1,a2⟩:=VRs.inv (v:=asIV c x.1) (cs:=argV cs x.2) h;exact VRs.cons (qtb hm hw a1) (qsl hm hw cs a2)
theorem qn3:∀(cs:List (Bool × TC)) (y:ElR cs) (o:IObj),o∈resO cs y->∃c l,o=.arr c l
 | [],y,o,h=>by cases h
 | (true,c)::cs,y,o,h=>by
  rcases ja1.1 h with h|h
  ·exact⟨c,y.1,h⟩
  ·exact qn3 cs y.2 o h
 | (false,c)::cs,y,o,h=>qn3 cs y.2 o h
theorem qfz{E E':Env}:∀{c:TC} {v:IV} {x:El c} {u:Value},scal c=true->v∈cel c x->VR E v u->VR E' v u
 | .int k,v,x,u,_,hm,h=>by
  have:v=.int k x:=by simpa [cel] using hm
  subst this;cases h;exact .int _ _ (by assumption)
 | .bool,v,x,u,_,hm,h=>by
  have:v=.bool x:=by simpa [cel] using hm
  subst this;cases h;exact .bool _
 | .str,v,x,u,_,hm,h=>by
  have:v=.str x:=by simpa [cel] using hm
  subst this;cases h;exact .str _ (by assumption)
 | .list c,v,x,u,hs,_,_=>by cases hs
 | .two a b,v,x,u,hs,hm,h=>by
  simp only[scal,jaf] at hs;simp only[cel,jbi] at hm;rcases hm with hm|hm
  ·exact qfz hs.1 hm h
  ·exact qfz hs.2 hm h
theorem zbq{E E':Env}{c:TC}{x:El c}{u:Value}(hs:scal c=true)(h:VR E (asIV c x) u):VR E' (asIV c x) u:=by
 cases c with
 | two a b =>
  cases h with
  | agg hl hh=>exact .agg hl fun i a b=>qfz hs (ja0 a) (hh i a b)
 | int k=>exact qfz (c:=.int k) (x:=x) hs (by simp[cel,asIV]) h
 | bool=>exact qfz (c:=.bool) (x:=x) hs (by simp[cel,asIV]) h
 | str=>exact qfz (c:=.str) (x:=x) hs (by simp[cel,asIV]) h
 | list c=>cases hs
def mrgC(Eb Er:Env)(n:Nat):Env :=
 ⟨fun id=>if id<n then Eb.ρ id else Er.ρ (id-n),fun id=>if id<n then Eb.κ id else Er.κ (id-n),fun id=>if id<n then Eb.hd id else Er.hd (id-n),fun id=>if id<n then Eb.hb id else Er.hb (id-n),
  fun id=>(id<n/\Eb.A id)\/(n<=id/\Er.A (id-n)),Eb.m++Er.m,Er.w⟩
theorem qdk{Eb Er:Env}{n k:Nat}:(mrgC Eb Er n).ρ (n+k)=Er.ρ k/\(mrgC Eb Er n).κ (n+k)=Er.κ k/\(mrgC Eb Er n).hd (n+k)=Er.hd k/\(mrgC Eb Er n).hb (n+k)=Er.hb k:=by
 have h:¬n+k<n:=by omega
 refine⟨?_,?_,?_,?_⟩<;>simp only[mrgC,jak h,jbe]
theorem qes{Eb Er:Env}{n id:Nat}(h:id<n):(mrgC Eb Er n).ρ id=Eb.ρ id/\(mrgC Eb Er n).κ id=Eb.κ id/\(mrgC Eb Er n).hd id=Eb.hd id/\(mrgC Eb Er n).hb id=Eb.hb id:=by
 refine⟨?_,?_,?_,?_⟩<;>simp only[mrgC,jam h]
theorem quc{Eb Er:Env}{n:Nat}(hd:∀{c:TC} {x:El c} {u:Value},VR Er (asIV c x) u->scal c=true\/True->(scal c=true->VR (mrgC Eb Er n) (asIV c x) u)/\((∀b,b∈Eb.m->b∈Er.m)->VR (mrgC Eb Er n) (asIV c x) u)) :
  ∀(cs:List (Bool × TC)) (k:Nat) {y:ElR cs} {us:List Value},((cs.all fun r=>scal r.2)=true\/∀b,b∈Eb.m->b∈Er.m)->VRs Er (resV cs k y) us->VRs (mrgC Eb Er n) (resV cs (n+k) y) us
 | [],k,y,us,hs,h=>by have:=h.1;cases us with|nil=>exact VRs.nil|cons _ _=>simp [resV] at this
 | (true,c)::cs,k,y,us,hs,h=>by
  obtain⟨u,us,rfl,a1,a2⟩:=VRs.inv (v:=.arr k) (cs:=resV cs (k+1) y.2) h;have:=quc hd cs (k+1) (hs.imp (fun h=>by simp only[jcp,jaf] at h;exact h.2) fun h=>h) a2;cases a1 with
  | arr hA hh =>
  obtain⟨m1,m2,m3,m4⟩:=qdk (Eb:=Eb) (Er:=Er) (n:=n) (k:=k);exact VRs.cons (.arr (.inr ⟨by omega,by rw[jbe];exact hA⟩) (m3.trans hh)) this
 | (false,c)::cs,k,y,us,hs,h=>by
  obtain⟨u,us,rfl,a1,a2⟩:=VRs.inv (v:=asIV c y.1) (cs:=resV cs k y.2) h;have:=quc hd cs k (hs.imp (fun h=>by simp only[jcp,jaf] at h;exact h.2) fun h=>h) a2;refine VRs.cons ?_ this;rcases hs with hs|hs
  ·simp only[jcp,jaf] at hs;exact(hd a1 (.inr trivial)).1 hs.1
  ·exact(hd a1 (.inr trivial)).2 hs
theorem qzc{s:Sm}{y:ElR s.rts}{M:List Nat}{Eb:Env}{Sb:IS}{e:Ending}{w':World}{rd wr:Nat}(pb:Pre T Eb Sb)(hM:∀b∈M,b∈Eb.m)(hflat:s.flat=true\/∀b∈Eb.m,b∈M)
   (hR:RetE T0 (EM M Eb.w) S0 ⟨tupI (resV s.rts 0 y),addO (resO s.rts y) S0,0,0⟩ e w'):RetE T Eb Sb ⟨tupI (resV s.rts Sb.next y),addO (resO s.rts y) Sb,rd,wr⟩ e w':=by
 obtain⟨u,Er,rfl,rfl,k1,k2,k3⟩:=hR;have hsame:∀b,b<Eb.w.heap.size->Er.w.heap[b]?=Eb.w.heap[b]?:=fun b hb=>k2.stp.same b hb fun id _ hA _=>hA.elim;have hMr:∀b∈M,b∈Er.m:=fun b hb=>by
   rcases k2.stp.mem b hb (pb.st.lo b (hM b hb)) with h|⟨id,_,hA,_⟩
   · exact h
   · exact hA.elim
 have hrM:∀b∈Er.m,b∈M\/Eb.w.heap.size<=b:=k2.stp.memo;have hnew:∀id,Er.A id->Live Er (addO (resO s.rts y) S0).H id->Eb.w.heap.size<=Er.ρ id:=fun id hA hL=>by
   rcases k2.stp.new id hA (fun h=>h) hL with h|⟨j,_,hA,_⟩
   · exact h
   · exact hA.elim
 generalize hn:Sb.next=n
 have hle:Eb.Le (mrgC Eb Er n):=⟨fun id hA=>by
   have hlt:id<n:=by rw[<- hn];exact pb.bnd id hA
   obtain⟨m1,m2,m3,m4⟩:=qes (Eb:=Eb) (Er:=Er) hlt;exact⟨.inl ⟨hlt,hA⟩,m1,m2,m3,m4⟩,⟨fun b hb hm=>⟨fun h=>by
     rcases jbi.1 h with h|h
     · exact hm h
     · rcases hrM b h with h|h
       · exact hm (hM b h)
       · omega,hsame b hb⟩⟩⟩
 have hdat:(∀b,b∈Eb.m->b∈Er.m)->∀b,b∈(mrgC Eb Er n).m->b∈Er.m:=fun h b hb=>by
   rcases jbi.1 hb with hb|hb
   · exact h b hb
   · exact hb
 have hflat2:(s.rts.all fun r=>scal r.2)=true\/∀b,b∈Eb.m->b∈Er.m:=hflat.imp (fun h=>h) fun h b hb=>hMr b (h b hb);have hv:∀us,VRs Er (resV s.rts 0 y) us->VRs (mrgC Eb Er n) (resV s.rts (n+0) y) us:=fun us=>quc (Eb:=Eb) (Er:=Er) (n:=n) (fun {c x u} h _=>⟨fun hs=>zbq hs h,fun hm=>qtb (hdat hm) rfl h⟩) s.rts 0 hflat2;have hHn:∀k,(addO (resO s.rts y) Sb).H (n+k)=if k<(resO s.rts y).length then (resO s.rts y)[k]? else Sb.H (n+k):=fun k=>by
   rw[qf8,jak (by omega),hn];by_cases h:k<(resO s.rts y).length
   · rw[jam h,jam (by omega),jbe]
   · rw[jak h,jak (by omega)]
 have hHo:∀id,id<n->(addO (resO s.rts y) Sb).H id=Sb.H id:=fun id h=>by rw[qf8,jam (by omega)]
 have hH0:∀k,(addO (resO s.rts y) S0).H k=(resO s.rts y)[k]?:=fun k=>by
   rw[qf8];have e:S0.next=0:=rfl
   rw[e,jak (by omega),ja9,jeo];by_cases h:k<(resO s.rts y).length
   · rw[jam h]
   · rw[jak h,jbp (by omega)];rfl
 have hbndr:∀k,Er.A k->k<(resO s.rts y).length:=fun k hA=>by
   have:=k2.bnd k hA;rw[qgb] at this;have e:S0.next=0:=rfl
   omega
 have hobj:∀{k:Nat} {o:IObj},Er.A k->(addO (resO s.rts y) Sb).H (n+k)=some o->(addO (resO s.rts y) S0).H k=some o:=fun {k o} hA h=>by
   rw[hHn,jam (hbndr k hA)] at h;rw[hH0];exact h
 have hlv:∀{k:Nat},Er.A k->Live (mrgC Eb Er n) (addO (resO s.rts y) Sb).H (n+k)->Live Er (addO (resO s.rts y) S0).H k:=fun {k} hA ⟨h0,o,h1,h2⟩=>⟨by rw[qdk.2.2.2] at h0;exact h0,o,hobj hA h1,h2⟩;have hlo:∀{id:Nat},id<n->Live (mrgC Eb Er n) (addO (resO s.rts y) Sb).H id->Live Eb Sb.H id:=fun {id} hlt ⟨h0,o,h1,h2⟩=>⟨by rw[(qes hlt).2.2.2] at h0;exact h0,o,by rw[hHo id hlt] at h1;exact h1,h2⟩;refine⟨u,mrgC Eb Er n,rfl,rfl,?_,⟨⟨?_,?_,?_,?_,?_⟩,⟨k2.stp.os,k2.stp.tape,k2.stp.output,k2.stp.size,fun b hb _=>hsame b hb,hle.alw,?_,?_,?_,fun b hb _=>.inl (jdd _ hb)⟩,?_,?_⟩,⟨?_⟩⟩
 · -- the value
   have key:∀(vs ws:List IV),(∀us,VRs Er vs us->VRs (mrgC Eb Er n) ws us)->vs.length=ws.length->VR Er (tupI vs) u->VR (mrgC Eb Er n) (tupI ws) u:=by
     intro vs ws h hl hu;match vs,ws,hl with
     | [],[],_ =>
       cases hu with
       | tup hl hh=>have:=h _ ⟨hl,hh⟩;exact .tup this.1 this.2
     | [v],[w],_ =>
       have:=h [u] (VRs.cons hu VRs.nil);exact this.2 0 (by simp) (by simp)
     | v1::v2::vs,w1::w2::ws,_ =>
       cases hu with
       | tup hl hh=>have:=h _ ⟨hl,hh⟩;exact .tup this.1 this.2
   refine key _ _ (fun us h=>?_) ?_ k1
   · have:=hv us h
     rwa [jby] at this
   · have:∀(cs:List (Bool × TC)) (i j:Nat) (y:ElR cs),(resV cs i y).length=(resV cs j y).length:=by
       intro cs;induction cs with
       | nil=>intro i j y;rfl
       | cons c cs ih=>intro i j y;obtain⟨b,c⟩:=c;cases b<;>simp [resV]<;>exact ih _ _ y.2
     exact this _ _ _ _
 · -- objects
   intro id ht hA o ho;rcases hA with ⟨hlt,hA⟩|⟨hge,hA⟩
   · rw[hHo id hlt] at ho;exact(pb.st.objs id ht hA o ho).mono hle hA (pb.st.blk id ht hA o ho) fun hl hb=>hsame _ ((pb.st.objs id ht hA o ho).lt hl hb)
   · obtain⟨k,rfl⟩:∃k,id=n+k:=⟨id-n,by omega⟩;rw[jbe] at hA;have ho':=hobj hA ho;obtain⟨m1,m2,m3,m4⟩:=qdk (Eb:=Eb) (Er:=Er) (n:=n) (k:=k);have hor:=k2.st.objs k trivial hA o ho';have hmem:o∈resO s.rts y:=by rw[hH0] at ho';exact jbr ho'
     obtain⟨c,l,rfl⟩:=qn3 _ _ _ hmem;have hsc:scal c=true\/∀b,b∈Eb.m->b∈Er.m:=by
       rcases hflat2 with h|h
       · left;have:∀(cs:List (Bool × TC)) (y:ElR cs),(cs.all fun r=>scal r.2)=true->.arr c l∈resO cs y->scal c=true:=by
           intro cs;induction cs with
           | nil=>intro y _ h;cases h
           | cons r cs ih =>
             intro y hs h;obtain⟨b,c'⟩:=r;simp only[jcp,jaf] at hs;cases b with
             | false=>exact ih y.2 hs.2 h
             | true =>
               rcases ja1.1 h with h|h
               · cases h;exact hs.1
               · exact ih y.2 hs.2 h
         exact this _ _ h hmem
       · exact .inr h
     obtain⟨a,cap,g1,g2,g3,g4,g5⟩:=hor;refine⟨a,cap,m3.trans g1,g2,g3,g4,g5.imp (fun⟨x,y⟩=>⟨m4.trans x,y⟩) fun⟨b1,b2,cells,t,b3,b4,us,b5,b6⟩=>⟨m4.trans b1,by rw[m1];exact b2,cells,t,by rw[m1];exact b3,b4,us,b5,fun i hi j hj=>?_⟩⟩;rcases hsc with h|h
     · exact qfz h (ja0 hj) (b6 i hi j hj)
     · exact(VR.noid (hdat h) rfl (b6 i hi j hj)).2.2 _ _ (ja0 hj)
 · intro id ht hA o ho hb;rcases hA with ⟨hlt,hA⟩|⟨hge,hA⟩
   · rw[hHo id hlt] at ho;rw[(qes hlt).2.2.2];exact pb.st.blk id ht hA o ho hb
   · obtain⟨k,rfl⟩:∃k,id=n+k:=⟨id-n,by omega⟩;rw[jbe] at hA;have ho':=hobj hA ho;rw[qdk.2.2.2];exact k2.st.blk k trivial hA o ho' hb
 · intro id ht hA hL;rcases hA with ⟨hlt,hA⟩|⟨hge,hA⟩
   · rw[(qes hlt).1];exact jdd _ (pb.st.own id ht hA (hlo hlt hL))
   · obtain⟨k,rfl⟩:∃k,id=n+k:=⟨id-n,by omega⟩;rw[jbe] at hA;rw[qdk.1];exact jdb _ (k2.st.own k trivial hA (hlv hA hL))
 · intro i j ti tj hAi hAj hLi hLj he;rcases hAi with ⟨hi,hAi⟩|⟨hi,hAi⟩<;>rcases hAj with ⟨hj,hAj⟩|⟨hj,hAj⟩
   · rw[(qes hi).1,(qes hj).1] at he;exact pb.st.inj i j ti tj hAi hAj (hlo hi hLi) (hlo hj hLj) he
   · obtain⟨k,rfl⟩:∃k,j=n+k:=⟨j-n,by omega⟩;rw[jbe] at hAj;rw[(qes hi).1,qdk.1] at he;have h1:=hnew k hAj (hlv hAj hLj);have h2:=pb.st.lo _ (pb.st.own i ti hAi (hlo hi hLi));omega
   · obtain⟨k,rfl⟩:∃k,i=n+k:=⟨i-n,by omega⟩;rw[jbe] at hAi;rw[(qes hj).1,qdk.1] at he;have h1:=hnew k hAi (hlv hAi hLi);have h2:=pb.st.lo _ (pb.st.own j tj hAj (hlo hj hLj));omega
   · obtain⟨k,rfl⟩:∃k,i=n+k:=⟨i-n,by omega⟩;obtain⟨k',rfl⟩:∃k,j=n+k:=⟨j-n,by omega⟩;rw[jbe] at hAi hAj;rw[qdk.1,qdk.1] at he;rw[k2.st.inj k k' trivial trivial hAi hAj (hlv hAi hLi) (hlv hAj hLj) he]
 · intro b hb;rcases jbi.1 hb with hb|hb
   · exact jaz (pb.st.lo b hb) k2.stp.size
   · exact k2.st.lo b hb
 · intro id hA hn' hL;rcases hA with ⟨hlt,hA⟩|⟨hge,hA⟩
   · exact absurd hA hn'
   · obtain⟨k,rfl⟩:∃k,id=n+k:=⟨id-n,by omega⟩;rw[jbe] at hA;rw[qdk.1];exact .inl (hnew k hA (hlv hA hL))
 · intro id ht hA hL;exact hlo (by rw[<- hn];exact pb.bnd id hA) hL
 · intro b hb;rcases jbi.1 hb with hb|hb
   · exact .inl hb
   · rcases hrM b hb with h|h
     · exact .inl (hM b h)
     · exact .inr h
 · intro id hA;show id<(addO (resO s.rts y) Sb).next
   rw[qgb,hn];rcases hA with ⟨hlt,hA⟩|⟨hge,hA⟩
   · omega
   · have:=hbndr _ hA;omega
 · show Sb.next<=(addO (resO s.rts y) Sb).next
   rw[qgb];omega
 · intro id hA hn';rcases hA with ⟨hlt,hA⟩|⟨hge,hA⟩
   · exact absurd hA hn'
   · show Sb.next<=id
     omega
theorem zcj{f:Nat}{s:Sm}(hc:Con P f s){vs:List IV}{r:Res}(h:exf s vs S=some r){us:List Value}(p:Pre T E S)(hrd:tin T.r r.rd)(hwr:tin T.w r.wr)(hv:VRs E vs us) :
  qai P f/\CallsIn Fence.wide 0 P f us.toArray E.w (RetE T E S r):=by
 refine⟨hc.callable,?_⟩;unfold exf at h;split at h
 ·cases h
 rename_i x S1 w hx;split at h
 ·cases h
 rename_i y hy;cases hb:s.flat with
 | true =>
  rw[hb,jab] at h;cases h;have p':Pre ⟨T.r,T.r,fun _ h=>h⟩ E S:=⟨p.st,p.bnd,fun id h=>T.sub _ (p.nw id h),p.gl⟩;obtain⟨E1,e1,q1,f1,b1⟩:=qq6 s.pts (T:=⟨T.r,T.r,fun _ h=>h⟩) hx p' hrd hv;have hm:∀b∈E1.m,b∈E.m:=fun b hb=>by
   rcases q1.stp.memo b hb with h|h
   ·exact h
   ·have:=q1.st.lo b hb;rw[e1] at this;omega
  have hcall:=hc.calls E1.m E.w x us y hy (fun b hb=>p.st.lo b (hm b hb)) (p.gl.sub hm) (qsl (E:=E1) (E':=EM E1.m E.w) (fun _ h=>h) e1.symm s.pts b1);exact hcall.mono fun e w' hR=>qzc (Eb:=E) (Sb:=S) (T:=T) p hm (.inl hb) hR
 | false =>
  rw[hb,jae] at h;cases h;obtain⟨E1,e1,q1,f1,b1⟩:=qq6 s.pts hx p hwr hv;have p1:=q1.pre p;have hcall:=hc.calls E1.m E1.w x us y hy p1.st.lo p1.gl (qsl (E:=E1) (E':=EM E1.m E1.w) (fun _ h=>h) rfl s.pts b1);rw[<- e1];refine hcall.mono fun e w' hR=>?_;obtain⟨u,E2,g1,g2,g3,g4,g5⟩:=qzc (Eb:=E1) (Sb:=S1) (rd:=0) (wr:=w) p1 (fun _ h=>h) (.inr fun _ h=>h) hR;exact⟨u,E2,g1,g2,g3,Post.trans p q1 f1 g4,f1.trans g5 q1.le⟩
theorem q3g(l:List IObj)(S:IS)(w:Nat):FrX S (addO l S) w:=⟨by rw[qgb];omega,fun id hid _=>by rw[qf8,jam hid]⟩
theorem qzi:∀(cs:List TC) {S:IS} {vs:List IV} {x:ElA cs} {S':IS} {w:Nat},qdm cs S vs=some (x,S',w)->FrX S S' w
 | [],S,vs,x,S',w,h=>by
  cases vs with
  | cons v vs=>cases h
  | nil=>cases h;exact FrX.refl _ _
 | c::cs,S,vs,x,S',w,h=>by
  cases vs with
  | nil=>cases h
  | cons v vs =>
  simp only[qdm] at h;cases hb:fitV c v with
  | false=>rw[hb] at h;cases h
  | true =>
  rw[hb,jab] at h;split at h<;>try cases h
  rename_i h1;split at h<;>cases h;rename_i h2;obtain⟨a1,a2⟩:=qe9 c _ _ _ _ _ _ h1;exact FrX.trans ⟨jd9 a1.symm,fun id _ hb=>a2 id hb⟩ (qzi cs h2)
theorem zj9{s:Sm}{vs:List IV}:FrO S (exf s vs S):=fun r h=>by
 unfold exf at h;split at h
 ·cases h
 rename_i x S1 w hx;split at h
 ·cases h
 rename_i y hy;cases hb:s.flat with
 | true=>rw[hb,jab] at h;cases h;exact q3g _ _ _
 | false =>
  rw[hb,jae] at h;cases h;have:=(qzi s.pts hx).trans (q3g (resO s.rts y) S1 0);rw[je1] at this;exact this
theorem qwe(n:Nat):Nat.blt n n=false:=by
 cases h:Nat.blt n n with
 | false=>rfl
 | true=>exact absurd (show n<n from jao h) (jck n)
theorem qyy:∀(cs:List (Bool × TC)) (n:Nat) (y:ElR cs),(resV cs n y).all (low1 n)=true->resO cs y=[]
 | [],_,_,_=>rfl
 | (true,c)::cs,n,y,h=>by
  have h:(low1 n (.arr n)&&(resV cs (n+1) y.2).all (low1 n))=true:=h;have e:low1 n (.arr n)=Nat.blt n n:=rfl;rw[e,qwe] at h;cases h
 | (false,c)::cs,n,y,h=>by
  have h:(low1 n (asIV c y.1)&&(resV cs n y.2).all (low1 n))=true:=h;rw[jaf] at h;exact qyy cs n y.2 h.2
theorem qzu(cs:List (Bool × TC))(n:Nat)(y:ElR cs)(h:low2 n (tupI (resV cs n y))=true):resO cs y=[]:=by
 match cs,y,h with
 | [],y,h=>rfl
 | [(true,c)],y,h =>
  have e:low2 n (tupI (resV [(true,c)] n y))=Nat.blt n n:=rfl;rw[e,qwe] at h;cases h
 | [(false,c)],y,h=>rfl
 | (ba,a)::(bb,b)::cs,y,h =>
  refine qyy _ n y ?_;cases ba<;>cases bb<;>exact h
theorem q06:∀(cs:List TC) {S:IS} {vs:List IV} {x:ElA cs} {S':IS},qdm cs S vs=some (x,S',0)->S'=S
 | [],S,vs,x,S',h=>by
  cases vs with
  | nil=>cases h;rfl
  | cons v vs=>cases h
 | c::cs,S,vs,x,S',h=>by
  cases vs with
  | nil=>cases h
  | cons v vs =>
  simp only[qdm] at h;cases hb:fitV c v with
  | false=>rw[hb] at h;cases h
  | true =>
  rw[hb,jab] at h;split at h
  ·rename_i x1 S1 w1 h1;split at h
   ·rename_i xs S2 w2 h2;have hS:S2=S':=jcd (fun o:Option (ElA (c::cs) × IS × Nat)=>match o with|some q=>q.2.1|none=>S') h;have hw:w1 ||| w2=0:=jcd (fun o:Option (ElA (c::cs) × IS × Nat)=>match o with|some q=>q.2.2|none=>0) h;obtain⟨e1,e2⟩:=or_zero hw;rw[e1] at h1;rw[e2] at h2;rw[<- hS,q06 cs h2,(qjt c h1).1]
   ·cases h
  ·cases h
theorem q8h{s:Sm}{vs:List IV}{S:IS}{r:Res}(h:exf s vs S=some r)(hw:r.wr=0)(hv:low2 S.next r.v=true):r.S=S:=by
 unfold exf at h;split at h
 ·cases h
 rename_i x S1 w hx;split at h
 ·cases h
 rename_i y hy;cases hb:s.flat with
 | true =>
  rw[hb,jab] at h;cases h;show addO (resO s.rts y) S=S;rw[qzu _ _ _ hv];rfl
 | false =>
  rw[hb,jae] at h;cases h;have hw:w=0:=hw;subst hw;have e:=q06 _ hx;subst e;show addO (resO s.rts y) S1=S1;rw[qzu _ _ _ hv];rfl
structure HxOK (P:Program) (f:Nat) (g:Cl->List IV->IS->Option Res):Prop where
 fn:∀cl,ClOK P cl->ClFr cl->Calm cl->∀vs S r,g cl vs S=some r->∀(T:TW) (E:Env) (us:List Value),Pre T E S->tin T.r r.rd->tin T.w r.wr->VRs E vs us->qai P f/\CallsIn Fence.wide 0 P f us.toArray E.w (RetX T E S r)
 fr:∀cl,ClFr cl->∀vs S,FrO S (g cl vs S)
 calm:∀cl,Calm cl->∀vs S r,g cl vs S=some r->r.wr=0->low2 S.next r.v=true->r.S=S
theorem HxOK.of{f:Nat}{g:Cl->List IV->IS->Option Res}(fn:∀cl,ClOK P cl->ClFr cl->Calm cl->∀vs S r,g cl vs S=some r->∀(T:TW) (E:Env) (us:List Value),Pre T E S->tin T.r r.rd->tin T.w r.wr->VRs E vs us->qai P f/\CallsIn Fence.wide 0 P f us.toArray E.w (RetE T E S r))
  (fr:∀cl,ClFr cl->∀vs S,FrO S (g cl vs S)) (calm:∀cl,Calm cl->∀vs S r,g cl vs S=some r->r.wr=0->low2 S.next r.v=true->r.S=S):HxOK P f g :=
 ⟨fun cl a b c vs S r h T E us p h1 h2 h3=>let ⟨x,y⟩:=fn cl a b c vs S r h T E us p h1 h2 h3;⟨x,y.mono fun _ _=>RetX.of⟩,fr,calm⟩
def ElQ:List (Bool × TC)->Type
 | []=>Unit
 | (true,_)::cs=>Nat × ElQ cs
 | (false,c)::cs=>El c × ElQ cs
def valQ:(cs:List (Bool × TC))->ElQ cs->List IV
 | [],_=>[]
 | (true,c)::cs,x=>.arr x.1::valQ cs x.2
 | (false,c)::cs,x=>asIV c x.1::valQ cs x.2
def idsQ:(cs:List (Bool × TC))->ElQ cs->List Nat
 | [],_=>[]
 | (true,c)::cs,x=>x.1::idsQ cs x.2
 | (false,c)::cs,x=>idsQ cs x.2
def clR:(cs:List (Bool × TC))->IS->List IV->Option (ElQ cs × IS × Nat)
 | [],S,vs=>match vs with
  | []=>some ((),S,0)
  | _=>none
 | (true,c)::cs,S,vs=>match vs with
  | v::vs=>match coeV S c v with
   | some (.arr id,S1,w1)=>match clR cs S1 vs with
    | some (q,S2,w2)=>some ((id,q),S2,w1 ||| w2)
    | none=>none
   | _=>none
  | _=>none
 | (false,c)::cs,S,vs=>match vs with
  | v::vs=>cond (fitV c v) (match icl c S (cellsOf v) with
   | some (x,[],S1,w1)=>match clR cs S1 vs with
    | some (q,S2,w2)=>some ((x,q),S2,w1 ||| w2)
    | none=>none
   | _=>none) none
  | _=>none
def qd8:(cs:List (Bool × TC))->ElQ cs->IS->Option (ElR cs)
 | [],_,_=>some ()
 | (true,c)::cs,x,S=>match S.heap.get x.1 with
  | some (.arr c' l)=>match qbt c' c l with
   | some l'=>match qd8 cs x.2 S with
    | some y=>some (l',y)
    | none=>none
   | none=>none
  | _=>none
 | (false,c)::cs,x,S=>match qd8 cs x.2 S with
  | some y=>some (x.1,y)
  | none=>none
theorem qvi:∀(cs:List (Bool × TC)) {E:Env} {S:IS} {vs:List IV} {us:List Value} {x:ElQ cs} {S':IS} {w:Nat},clR cs S vs=some (x,S',w)->Pre T E S->tin T.w w->VRs E vs us ->
  ∃E',E'.w=E.w/\Post T E S E' S'/\Fresh E S E'/\VRs E' (valQ cs x) us
 | [],E,S,vs,us,x,S',w,h,p,hw,hv=>by
  cases vs with
  | cons v vs=>cases h
  | nil=>cases h;exact⟨E,rfl,Post.refl p,Fresh.refl E S,hv⟩
 | (true,c)::cs,E,S,vs,us,x,S',w,h,p,hw,hv=>by
  cases vs with
  | nil=>cases h
  | cons v vs =>
  simp only[clR] at h;split at h<;>try cases h
  rename_i id S1 w1 h1;split at h<;>cases h;rename_i q S2 w2 h2;obtain⟨g1,g2⟩:=qat hw;obtain⟨u,us,rfl,a1,a2⟩:=hv.inv;obtain⟨E1,e1,q1,f1,v1⟩:=qty p h1 g1 a1;obtain⟨E2,e3,q2,f2,b2⟩:=qvi cs h2 (q1.pre p) g2 (a2.mono (q1.env p));exact⟨E2,e3.trans e1,Post.trans p q1 f1 q2,f1.trans f2 q1.le,VRs.cons (v1.mono (q2.env (q1.pre p))) b2⟩
 | (false,c)::cs,E,S,vs,us,x,S',w,h,p,hw,hv=>by
  cases vs with
  | nil=>cases h
  | cons v vs =>
  simp only[clR] at h;cases hb:fitV c v with
  | false=>rw[hb] at h;cases h
  | true =>
  rw[hb,jab] at h;split at h<;>try cases h
  rename_i x1 S1 w1 h1;split at h<;>cases h;rename_i xs S2 w2 h2;obtain⟨g1,g2⟩:=qat hw;obtain⟨u,us,rfl,a1,a2⟩:=hv.inv;obtain⟨E1,e1,q1,f1,us1,us2,e2,v1,v2⟩:=qfs c h1 p g1 (a1.cells (q2f hb));have:us2=[]:=by have:=v2.1;simpa using this.symm
  subst this;rw[jdn] at e2;rw[<- e2] at v1;have b1:=q26 hb a1 v1;obtain⟨E2,e3,q2,f2,b2⟩:=qvi cs h2 (q1.pre p) g2 (a2.mono (q1.env p));exact⟨E2,e3.trans e1,Post.trans p q1 f1 q2,f1.trans f2 q1.le,VRs.cons (b1.mono (q2.env (q1.pre p))) b2⟩
theorem qvp:∀(cs:List (Bool × TC)) {x:ElQ cs} {S:IS} {y:ElR cs},qd8 cs x S=some y->(resO cs y).length=(idsQ cs x).length/\∀k:Nat,(resO cs y)[k]?=((idsQ cs x)[k]?).bind fun id=>S.heap.get id
 | [],x,S,y,h=>⟨rfl,fun k=>by simp[resO,idsQ]⟩
 | (true,c)::cs,x,S,y,h=>by
  simp only[qd8] at h;split at h<;>try cases h
  rename_i c' l ho;split at h<;>try cases h
  rename_i l' hl;obtain⟨rfl,rfl⟩:=qcj hl;split at h<;>cases h;rename_i y' hy;obtain⟨a1,a2⟩:=qvp cs hy;refine⟨by simp[resO,idsQ,a1],fun k=>?_⟩;cases k with
  | zero=>simp [resO,idsQ,ho]
  | succ k=>simpa [resO,idsQ] using a2 k
 | (false,c)::cs,x,S,y,h=>by
  simp only[qd8] at h;split at h<;>cases h;rename_i y' hy;exact qvp cs hy
theorem qsi{q:List Nat}(hnd:ndB q=true):∀(cs:List (Bool × TC)) {x:ElQ cs} {S:IS} {y:ElR cs} {pre:List Nat} {us:List Value},q=pre++idsQ cs x->qd8 cs x S=some y->VRs E (valQ cs x) us->VRs (renE 0 q E) (resV cs pre.length y) us
 | [],x,S,y,pre,us,hq,h,hv=>by have:=hv.1;cases us with|nil=>exact VRs.nil|cons _ _=>simp [valQ] at this
 | (true,c)::cs,x,S,y,pre,us,hq,h,hv=>by
  obtain⟨u,us,rfl,a1,a2⟩:=VRs.inv (v:=.arr x.1) (cs:=valQ cs x.2) hv;simp only[qd8] at h;split at h<;>try cases h
  split at h<;>try cases h
  split at h<;>cases h;rename_i y' hy;have h2:=qsi hnd cs (pre:=pre++[x.1]) (by rw[hq];simp [idsQ]) hy a2;rw[ja4] at h2;refine VRs.cons ?_ h2;have e:ol 0 q pre.length=x.1:=by
   unfold ol;rw[jak (by omega),jeo,hq];simp[idsQ,jar]
  cases a1 with
  | arr hA hh=>exact .arr ⟨by rw[hq];simp [idsQ],by rw[e];exact hA⟩ (by simp only[renE,e];exact hh)
 | (false,c)::cs,x,S,y,pre,us,hq,h,hv=>by
  obtain⟨u,us,rfl,a1,a2⟩:=VRs.inv (v:=asIV c x.1) (cs:=valQ cs x.2) hv;simp only[qd8] at h;split at h<;>cases h;rename_i y' hy;exact VRs.cons (qtb (E:=E) (E':=renE 0 q E) (fun _ h=>h) rfl a1) (qsi hnd cs hq hy a2)
theorem Post.congr{E':Env}{S' S'':IS}(hH:S'.H=S''.H)(hn:S'.next=S''.next)(h:Post T E S E' S'):Post T E S E' S'' :=
 ⟨hH▸h.st,hH▸h.stp,fun id ha=>hn▸h.bnd id ha,hn▸h.le⟩
def qs7(n:Nat)(v:IV):Option (List IV) :=
 cond (Nat.beq n 1) (some [v]) (match v with
  | .tup vs=>cond (Nat.beq vs.length n) (some vs) none
  | _=>none)
def qrp(n:Nat)(v:IV):Option (List IV):=cond (qbi v).isSome none (qs7 n v)
theorem qyi{n:Nat}{v:IV}{vs:List IV}(h:qrp n v=some vs):qbi v=none/\qs7 n v=some vs:=by
 unfold qrp at h;cases hp:qbi v with
 | some p=>rw[hp] at h;cases h
 | none=>rw[hp] at h;exact⟨rfl,h⟩
def runR(s:Sm)(r:Res):Option (ElR s.rts) :=
 match qrp s.rts.length r.v with
 | none=>none
 | some vs=>match clR s.rts r.S vs with
  | none=>none
  | some (x,S2,_)=>cond (ndB (idsQ s.rts x)) (qd8 s.rts x S2) none
theorem zgz{s:Sm}{r:Res}{y:ElR s.rts}{M:List Nat}{w w':World}{e:Ending}(hM:∀b∈M,b<w.heap.size)(hg:Gl M w)(h:runR s r=some y)(hR:RetE T0 (EM M w) S0 r e w') :
   RetE T0 (EM M w) S0 ⟨tupI (resV s.rts 0 y),addO (resO s.rts y) S0,0,0⟩ e w':=by
 obtain⟨u,E1,rfl,rfl,k1,k2,k3⟩:=hR;have p0:=preM hM hg;have p1:=k2.pre p0;unfold runR at h;split at h
 · cases h
 rename_i vs hvs;split at h
 · cases h
 rename_i x S2 w2 hx;cases hnd:ndB (idsQ s.rts x) with
 | false=>rw[hnd] at h;cases h
 | true =>
 rw[hnd,jab] at h
 -- the results one by one
 have hlist:∃us:List Value,VRs E1 vs us/\∀(E':Env) (ws:List IV),ws.length=s.rts.length->VRs E' ws us->VR E' (tupI ws) u:=by
   replace hvs:=(qyi hvs).2
   unfold qs7 at hvs;cases hone:Nat.beq s.rts.length 1 with
   | true =>
     rw[hone,jab] at hvs;cases hvs;have hlen:=jah hone;exact⟨[u],VRs.cons k1 VRs.nil,fun E' ws hl hw=>by
       rw[hlen] at hl;match ws,hl with
       | [a],_=>exact hw.2 0 (by simp) (by simp)⟩
   | false =>
     rw[hone,jae] at hvs;split at hvs<;>try cases hvs
     rename_i ws0 hv;cases hb:Nat.beq ws0.length s.rts.length with
     | false=>rw[hb] at hvs;cases hvs
     | true =>
     rw[hb,jab] at hvs;cases hvs;rw[hv] at k1;cases k1 with
     | tup hl hh =>
     refine⟨_,⟨hl,hh⟩,fun E' ws hl' hw=>?_⟩;match ws,hl' with
     | [],_=>exact .tup hw.1 hw.2
     | [a],hl'=>rw[<- hl'] at hone;cases hone
     | a::b::ws,_=>exact .tup hw.1 hw.2
 obtain⟨us,hus,hfin⟩:=hlist;obtain⟨E2,e2,q2,f2,hv2⟩:=qvi s.rts hx p1 (fun _ _=>trivial) hus;have p2:=q2.pre p1;have hq:=Post.trans p0 k2 k3 q2;have hf:=k3.trans f2 k2.le;have b1:=PostB.of (B:=0) (jbj _) (fun _ _=>trivial) hq hf;have b2:=q73 (z:=fun _=>none) (B:=0) (q:=idsQ s.rts x) p2 (jbj _) (fun _ _=>trivial) (fun _ _ h=>by cases h) hnd (by rw[ja6];intro _ _;rfl);obtain⟨z1,z2⟩:=PostB.full p0 (show PostB S0.next T0 (EM M w) S0 _ _ from b1.trans b2);obtain⟨g1,g2⟩:=qvp s.rts h;have hval:=qsi hnd s.rts (pre:=[]) rfl h hv2;refine⟨u,renE 0 (idsQ s.rts x) E2,rfl,e2,hfin _ _ ?_ hval,Post.congr ?_ ?_ z1,⟨fun id ha hn=>z2.fr id ha hn⟩⟩
 · have:∀(cs:List (Bool × TC)) (i:Nat) (y:ElR cs),(resV cs i y).length=cs.length:=by
     intro cs;induction cs with
     | nil=>intro i y;rfl
     | cons c cs ih=>intro i y;obtain⟨b,c⟩:=c;cases b<;>simp [resV]<;>exact ih _ y.2
   exact this _ _ _
 · funext k;rw[qtv,jak (show ¬k<0 by omega),qf8];have e0:S0.next=0:=rfl
   rw[e0,jak (show ¬k<0 by omega),ja9,ja9,jeo,g1];by_cases hk:k<(idsQ s.rts x).length
   · rw[jam hk,jam hk,g2 k,jac hk];have e:ol 0 (idsQ s.rts x) k=(idsQ s.rts x)[k]:=by unfold ol;rw[jak (by omega),jeo,jar,jac hk];rfl
     rw[e];simp only[jfi];cases ho:S2.heap.get (idsQ s.rts x)[k] with
     | none=>rfl
     | some o =>
       have:o∈resO s.rts y:=by
         have:=g2 k;rw[jac hk,jfi,ho] at this;exact jbr this
       obtain⟨c,l,rfl⟩:=qn3 _ _ _ this;rfl
   · rw[jak hk,jak hk];rfl
 · show 0+(idsQ s.rts x).length=(addO (resO s.rts y) S0).next
   rw[qgb,g1];rfl
theorem q58{s:Sm}{r:Res}{y:ElR s.rts}{M:List Nat}{w w':World}{e:Ending}(hM:∀b∈M,b<w.heap.size)(hg:Gl M w)(h:runR s r=some y)(hR:RetX T0 (EM M w) S0 r e w') :
  RetE T0 (EM M w) S0 ⟨tupI (resV s.rts 0 y),addO (resO s.rts y) S0,0,0⟩ e w':=by
 refine zgz hM hg h (hR.val ?_);unfold runR at h;split at h
 ·cases h
 ·rename_i hu;exact(qyi hu).1
theorem zhh{tt:Nat->Option TI}{ft:Nat->Option FI}{nm:Nat->Nat->Option Nm}{ex:Ex}{lf f:Nat}{s:Sm}(hm:P.follows .mixedOrders=true)(htt:TT P tt)(hft:FT P ft)(hex:ExOK P ex)(hC:qai P f)
  (hrun:∀(x:ElA s.pts) (y:ElR s.rts),s.f x=some y->∃n lf r,qby P tt ft nm ex lf n (.fn f) (argV s.pts x) S0=some r/\runR s r=some y):Con P f s:=by
 refine⟨hC,fun M w x us y hy hM hg hv=>?_⟩;obtain⟨n,lf,r,h1,h2⟩:=hrun x y hy;obtain⟨_,hcall⟩:=(qjy (lf:=lf) hm htt hft hex n).fn f _ S0 r h1 T0 (EM M w) us (preM hM hg) (fun _ _=>trivial) (fun _ _=>trivial) hv;exact hcall.mono fun e w' hR=>q58 hM hg h2 hR
end
end Go.Jx
end

section
namespace Go.Jx
open Go Go.Sx Go.RowKit
universe u

def ob{R:Type}(x:Option Res)(k:Res->Option R):Option R:=match x with|some r=>k r|none=>none
theorem qbg{R:Type}(k:Res->Option R)(b:Bool)(x y:Option Res):ob (cond b x y) k=cond b (ob x k) (ob y k):=by cases b<;>rfl
def slEl(tt:Nat->Option TI)(ty:Nat):Option TI:=match tt ty with
 | none=>none
 | some ti=>match ti.und with
  | .slice e=>tt e
  | _=>none
section
variable {R : Type}
def qt6(tt:Nat->Option TI)(S:IS)(ty:TypeId)(v:IV)(kk:Res->Option R):Option R:=match v with
 | .aptr id s i off=>match tt ty with
  | none=>none
  | some ti=>match S.heap.get id with
   | some (.arr c l)=>cond (Nat.beq s (csz c)) (match l[i]? with
    | none=>none
    | some x=>ob (cond (qa7 ti.und) (match (cel c x)[off]? with|some v=>some ⟨v,S,2 ^ id,0⟩|none=>none)
     (cond (Nat.ble (off+ti.sz) (csz c)) (some ⟨.agg (((cel c x).drop off).take ti.sz),S,2 ^ id,0⟩) none)) kk) none
   | _=>none
 | v=>ob (qc9 tt S ty v) kk
theorem zd2(tt:Nat->Option TI)(S:IS)(ty:TypeId)(v:IV)(kk:Res->Option R):qt6 tt S ty v kk=ob (qc9 tt S ty v) kk:=by
 cases v<;>try rfl
 rename_i id s i off;simp only[qt6,qc9];cases tt ty with
 | none=>rfl
 | some ti =>
  simp only;cases S.heap.get id with
  | none=>rfl
  | some o =>
   cases o<;>try rfl
   simp only[qbg];rename_i c l;cases Nat.beq s (csz c)
   ·rfl
   ·simp only[jab];cases l[i]? with
    | none=>rfl
    | some x=>simp only[qbg];rfl
def qqq(tt:Nat->Option TI)(S:IS)(ty:Nat)(n m:Int)(kk:Res->Option R):Option R:=match tt ty with
 | none=>none
 | some ti=>match ti.und with
  | .slice e=>match tt e with
   | none=>none
   | some te=>match tcOf tt 8 e with
    | none=>none
    | some c=>match zC c te.zero.cells.toList with
     | some []=>cond (Nat.beq te.sz (csz c)&&(Nat.blt 0 te.bytes&&(Nat.ble (bsz c) te.bytes&&u8ok c e)))
      (cond (iltI n 0) none (cond (Nat.ble (Nat.mul m.toNat te.bytes) 140737488355328) (kk ⟨.arr S.next,S.new (.arr c (Go.Jx.S.rep n (zEl c))),0,0⟩) none)) none
     | _=>none
  | _=>none
theorem qxr(tt:Nat->Option TI)(S:IS)(ty:Nat)(n m:Int)(kk:Res->Option R):qqq tt S ty n m kk=ob (imkC tt S ty n m) kk:=by
 unfold qqq imkC;cases tt ty with
 | none=>rfl
 | some ti =>
  simp only;cases ti.und<;>try rfl
  rename_i e;simp only;cases tt e with
  | none=>rfl
  | some te =>
   simp only;cases tcOf tt 8 e with
   | none=>rfl
   | some c =>
    simp only;cases zC c te.zero.cells.toList with
    | none=>rfl
    | some l =>
     cases l with
     | cons _ _=>rfl
     | nil=>simp only[qbg];rfl
def qwv(tt:Nat->Option TI)(S:IS)(ty:Nat)(v:IV)(kk:Res->Option R):Option R:=match v with
 | .int _ n=>qqq tt S ty n n kk
 | _=>none
def qsk(tt:Nat->Option TI)(S:IS)(ty:Nat)(v u:IV)(kk:Res->Option R):Option R:=match v,u with
 | .int _ n,.int _ m=>cond (iltI m n) none (qqq tt S ty n m kk)
 | _,_=>none
theorem zdh(tt:Nat->Option TI)(S:IS)(ty:Nat)(v:IV)(kk:Res->Option R):qwv tt S ty v kk=ob (qhi tt S ty v) kk:=by
 cases v<;>first|rfl|exact qxr ..
theorem zpw(tt:Nat->Option TI)(S:IS)(ty:Nat)(v u:IV)(kk:Res->Option R):qsk tt S ty v u kk=ob (qf4 tt S ty v u) kk:=by
 cases v<;>cases u<;>try rfl
 simp only[qsk,qf4,qbg,qxr];rfl
def qti(tt:Nat->Option TI)(S:IS)(ty:TypeId)(v u:IV)(kk:Res->Option R):Option R:=match v with
 | .aptr id s i off=>match tt ty with
  | none=>none
  | some ti=>match S.heap.get id with
   | some (.arr c l)=>cond (Nat.beq s (csz c)&&Nat.beq (cellsOf u).length ti.sz&&Nat.ble (off+ti.sz) (csz c)&&(cellsOf u).all one1)
    (match l[i]? with
    | none=>none
    | some x=>match icl c S (putI (cel c x) off (cellsOf u)) with
     | some (x2,[],S2,w)=>cond (Nat.testBit w id) none (kk ⟨.tup [],S2.set id (.arr c (l.set i x2)),0,w ||| 2 ^ id⟩)
     | _=>none) none
   | _=>none
 | v=>ob (qep tt S ty v u) kk
theorem zlq(tt:Nat->Option TI)(S:IS)(ty:TypeId)(v u:IV)(kk:Res->Option R):qti tt S ty v u kk=ob (qep tt S ty v u) kk:=by
 cases v<;>try rfl
 rename_i id s i off;simp only[qti,qep];cases tt ty with
 | none=>rfl
 | some ti =>
  simp only;cases S.heap.get id with
  | none=>rfl
  | some o =>
   cases o<;>try rfl
   rename_i c l;simp only[qbg];cases (Nat.beq s (csz c)&&Nat.beq (cellsOf u).length ti.sz&&Nat.ble (off+ti.sz) (csz c)&&(cellsOf u).all one1)
   ·rfl
   ·simp only[jab];cases l[i]? with
    | none=>rfl
    | some x =>
     simp only;cases icl c S (putI (cel c x) off (cellsOf u)) with
     | none=>rfl
     | some q =>
      obtain⟨x2,r,S2,w⟩:=q;cases r with
      | nil =>
       simp only;rw[qbg];rfl
      | cons a r=>rfl
def qp3(tt:Nat->Option TI)(S:IS)(ty:Nat)(v u:IV)(kk:Res->Option R):Option R:=match v,u with
 | .lst c l,.int _ i=>match slEl tt ty with
  | none=>none
  | some te=>cond (Nat.beq te.sz (csz c)) (match jget l i with
   | none=>none
   | some x=>kk ⟨.eptr c x 0,S,0,0⟩) none
 | .arr id,.int _ i=>match slEl tt ty with
  | none=>none
  | some te=>match S.heap.get id with
   | some (.arr c l)=>cond (Nat.beq te.sz (csz c)) (match jget l i with
    | none=>none
    | some x=>kk ⟨.aptr id (csz c) i.toNat 0,S,2 ^ id,0⟩) none
   | some (.frz c l)=>cond (Nat.beq te.sz (csz c)) (match jget l i with
    | none=>none
    | some x=>kk ⟨.eptr c x 0,S,2 ^ id,0⟩) none
   | _=>none
 | v,u=>ob (qd2 tt S ty v u) kk
theorem zmq(tt:Nat->Option TI)(S:IS)(ty:Nat)(v u:IV)(kk:Res->Option R):qp3 tt S ty v u kk=ob (qd2 tt S ty v u) kk:=by
 cases v<;>try rfl
 ·cases u<;>try rfl
  rename_i c l k i;simp only[qp3,qd2,slEl];cases tt ty with
  | none=>rfl
  | some ti =>
   simp only;cases ti.und<;>try rfl
   rename_i e;simp only;cases tt e with
   | none=>rfl
   | some te =>
    simp only[qbg];cases Nat.beq te.sz (csz c)
    ·rfl
    ·simp only[jab];cases jget l i<;>rfl
 ·cases u<;>try rfl
  rename_i id k i;simp only[qp3,qd2,slEl];cases tt ty with
  | none=>rfl
  | some ti =>
   simp only;cases ti.und<;>try rfl
   rename_i e;simp only;cases tt e with
   | none=>rfl
   | some te =>
    simp only;cases S.heap.get id with
    | none=>rfl
    | some o =>
     cases o<;>try rfl
     all_goals
      rename_i c l;simp only[qbg];cases Nat.beq te.sz (csz c)
      ·rfl
      ·simp only[jab];cases jget l i<;>rfl
def qs2(tt:Nat->Option TI)(S:IS)(ty:Nat)(lo hi mx:Option IV)(v:IV)(kk:Res->Option R):Option R:=match v with
 | .lst c l=>match slEl tt ty with
  | none=>none
  | some te=>match bndI lo 0,bndI hi l.length with
   | some a,some b=>match mx with
    | none=>cond (Nat.beq te.sz (csz c)) (cond (lchk a b l.length l.length) (kk ⟨.lst c (lsub l a b),S,0,0⟩) none) none
    | some mx=>match hi,bndI (some mx) 0 with
     | some _,some m=>cond (Nat.beq te.sz (csz c)) (cond (lchk a b m l.length) (kk ⟨.lst c (lsub l a b),S,0,0⟩) none) none
     | _,_=>none
   | _,_=>none
 | v=>ob (qd3 tt S ty lo hi mx v) kk
theorem zei(tt:Nat->Option TI)(S:IS)(ty:Nat)(lo hi mx:Option IV)(v:IV)(kk:Res->Option R):qs2 tt S ty lo hi mx v kk=ob (qd3 tt S ty lo hi mx v) kk:=by
 cases v<;>try rfl
 rename_i c l;simp only[qs2,qd3,slEl];cases tt ty with
 | none=>rfl
 | some ti =>
  simp only;cases ti.und<;>try rfl
  rename_i e;simp only;cases tt e with
  | none=>rfl
  | some te =>
   simp only;cases bndI lo 0<;>cases bndI hi l.length<;>try rfl
   simp only;cases mx with
   | none=>simp only[qbg];rfl
   | some mx =>
    simp only;cases hi<;>cases bndI (some mx) 0<;>try rfl
    simp only[qbg];rfl
def qvu(tt:Nat->Option TI)(S:IS)(ty:Nat)(lo hi mx:Option IV)(s:ByteArray)(kk:Res->Option R):Option R :=
 match tt ty,mx with
 | some ti,none=>match ti.und with
  | .string=>match bndI lo 0,bndI hi s.size with
   | some a,some b=>cond (lchk a b s.size s.size) (kk ⟨.str (s.extract a.toNat b.toNat),S,0,0⟩) none
   | _,_=>none
  | _=>none
 | _,_=>none
theorem zcx(tt:Nat->Option TI)(S:IS)(ty:Nat)(lo hi mx:Option IV)(s:ByteArray)(kk:Res->Option R):qvu tt S ty lo hi mx s kk=ob (qfk tt S ty lo hi mx s) kk:=by
 simp only[qvu,qfk];cases tt ty<;>cases mx<;>try rfl
 rename_i ti;simp only;cases ti.und<;>try rfl
 simp only;cases bndI lo 0<;>cases bndI hi s.size<;>try rfl
 simp only[qbg];rfl
def qrh(tt:Nat->Option TI)(S:IS)(ty:Nat)(lo hi mx:Option IV)(id:Nat)(wh:Bool)(kk:Res->Option R):Option R :=
 match tt ty,mx with
 | some ti,none=>match ti.und with
  | .slice e=>match tt e with
   | none=>none
   | some te=>match S.heap.get id with
    | some (.arr c l)=>match bndI lo 0,bndI hi l.length with
     | some a,some b=>cond wh (cond (ieqI a 0&&ieqI b l.length) (kk ⟨.arr id,S,2 ^ id,0⟩) none)
      (cond (Nat.beq te.sz (csz c)&&lchk a b l.length l.length) (kk ⟨.lst c (lsub l a b),S.set id (.frz c l),0,2 ^ id⟩) none)
     | _,_=>none
    | some (.frz c l)=>match bndI lo 0,bndI hi l.length with
     | some a,some b=>cond (Nat.beq te.sz (csz c)&&lchk a b l.length l.length) (kk ⟨.lst c (lsub l a b),S,2 ^ id,0⟩) none
     | _,_=>none
    | _=>none
  | _=>none
 | _,_=>none
theorem zfo(tt:Nat->Option TI)(S:IS)(ty:Nat)(lo hi mx:Option IV)(id:Nat)(wh:Bool)(kk:Res->Option R):qrh tt S ty lo hi mx id wh kk=ob (qfu tt S ty lo hi mx id wh) kk:=by
 simp only[qrh,qfu];cases tt ty<;>cases mx<;>try rfl
 rename_i ti;simp only;cases ti.und<;>try rfl
 rename_i e;simp only;cases tt e<;>try rfl
 simp only;cases S.heap.get id<;>try rfl
 rename_i o;cases o<;>try rfl
 all_goals simp only
 ·rename_i c l;cases bndI lo 0<;>cases bndI hi l.length<;>try rfl
  simp only[qbg];rfl
 ·rename_i c l;cases bndI lo 0<;>cases bndI hi l.length<;>try rfl
  simp only[qbg];rfl
def qrx(tt:Nat->Option TI)(S:IS)(ty:Nat)(s:ByteArray)(i:Int)(kk:Res->Option R):Option R :=
 match tt ty with
 | some ti=>match ti.und with
  | .string=>match jget (qad s) i with
   | some x=>kk ⟨.int .u8 x,S,0,0⟩
   | none=>none
  | _=>none
 | none=>none
theorem znm(tt:Nat->Option TI)(S:IS)(ty:Nat)(s:ByteArray)(i:Int)(kk:Res->Option R):qrx tt S ty s i kk=ob (qe8 tt S ty s i) kk:=by
 simp only[qrx,qe8];cases tt ty<;>try rfl
 rename_i ti;simp only;cases ti.und<;>try rfl
 simp only;cases jget (qad s) i<;>rfl
def qsv(S:IS)(v:IV)(b:Bool)(kk:Res->Option R):Option R:=match v,b with
 | .ptr id 0,true=>match S.heap.get id with
  | some (.iter s p)=>cond (Nat.blt p s.size) (kk ⟨.tup [.bool true,.int .i64 p,.int .i32 (Utf8.decode s p).1],S.set id (.iter s (p+(Utf8.decode s p).2)),0,2 ^ id⟩)
   (kk ⟨.tup [.bool false],S,2 ^ id,0⟩)
  | _=>none
 | _,_=>none
theorem zg7(S:IS)(v:IV)(b:Bool)(kk:Res->Option R):qsv S v b kk=ob (qex S v b) kk:=by
 have e:∀id,qex S (.ptr id 0) true=(match S.heap.get id with
  | some (.iter s p)=>cond (Nat.blt p s.size) (some ⟨.tup [.bool true,.int .i64 p,.int .i32 (Utf8.decode s p).1],S.set id (.iter s (p+(Utf8.decode s p).2)),0,2 ^ id⟩) (some ⟨.tup [.bool false],S,2 ^ id,0⟩)
  | _=>none):=fun id=>rfl
 unfold qsv;split
 ·rename_i id;rw[e];cases S.heap.get id with
  | none=>rfl
  | some o =>
   cases o<;>first|rfl|(simp only[qbg];rfl)
 ·rename_i h;unfold qex;split
  ·rename_i id;exact absurd rfl (h id rfl)
  ·rfl
def qri(tt:Nat->Option TI)(S:IS)(ty ty2 id:Nat)(y:IV)(kk:Res->Option R):Option R :=
 match S.heap.get id with
 | some (.arr c _)=>match qe2 tt ty ty2 c with
  | none=>none
  | some b=>match tsrc S c y with
   | none=>none
   | some (ly,S1,rd,wr)=>match S1.heap.get id with
    | some (.arr c2 lx)=>match qbt c c2 ly with
     | none=>none
     | some ly2=>cond (Nat.ble ((lx.length+ly2.length)*b) 140737488355328) (kk ⟨.arr S1.next,(S1.set id .dead).new (.arr c2 (lx++ly2)),rd,wr ||| 2 ^ id⟩) none
    | _=>none
 | _=>none
theorem zev(tt:Nat->Option TI)(S:IS)(ty ty2 id:Nat)(y:IV)(kk:Res->Option R):qri tt S ty ty2 id y kk=ob (qf3 tt S ty ty2 id y) kk:=by
 simp only[qri,qf3];cases S.heap.get id with
 | none=>rfl
 | some o =>
  cases o<;>try rfl
  rename_i c l;simp only;cases qe2 tt ty ty2 c with
  | none=>rfl
  | some b =>
   simp only;cases tsrc S c y with
   | none=>rfl
   | some q =>
    obtain⟨ly,S1,rd,wr⟩:=q;simp only;cases S1.heap.get id with
    | none=>rfl
    | some o =>
     cases o<;>try rfl
     rename_i c2 lx;simp only;cases qbt c c2 ly with
     | none=>rfl
     | some ly2=>simp only[qbg];rfl
def qer(tt:Nat->Option TI)(S:IS)(ty ty2:Nat)(c:TC)(l:List (El c))(rd:Nat)(kk:Res->Option R):Option R :=
 match qe2 tt ty ty2 c with
 | none=>none
 | some b=>cond (Nat.ble ((0+l.length)*b) 140737488355328) (kk ⟨.arr (S.next+1),((S.new (.arr c [])).set S.next .dead).new (.arr c l),rd,0⟩) none
theorem q7o(tt:Nat->Option TI)(S:IS)(ty ty2:Nat)(c:TC)(l:List (El c))(rd:Nat)(kk:Res->Option R):qer tt S ty ty2 c l rd kk=ob (qcr tt S ty ty2 c l rd) kk:=by
 simp only[qer,qcr];cases qe2 tt ty ty2 c with
 | none=>rfl
 | some b=>simp only[qbg];rfl
def qpb(tt:Nat->Option TI)(S:IS)(ty ty2:Nat)(x y:IV)(kk:Res->Option R):Option R :=
 match x with
 | .arr id=>qri tt S ty ty2 id y kk
 | x=>match y with
  | .lst c l=>cond (empS c x) (qer tt S ty ty2 c l 0 kk) none
  | .arr id=>match S.heap.get id with
   | some (.arr c l)=>cond (empS c x) (qer tt S ty ty2 c l (2 ^ id) kk) none
   | some (.frz c l)=>cond (empS c x) (qer tt S ty ty2 c l (2 ^ id) kk) none
   | _=>none
  | y=>ob (qhm tt S ty ty2 x y) kk
theorem zat(tt:Nat->Option TI)(S:IS)(ty ty2:Nat)(x y:IV)(kk:Res->Option R):qpb tt S ty ty2 x y kk=ob (iapp tt S ty ty2 x y) kk:=by
 have hz:∀(z:Option IObj) (b:TC->Bool) (id:Nat),(match z with
   | some (.arr c l)=>cond (b c) (qer tt S ty ty2 c l (2 ^ id) kk) none
   | some (.frz c l)=>cond (b c) (qer tt S ty ty2 c l (2 ^ id) kk) none
   | _=>none)=ob (match z with
   | some (.arr c l)=>cond (b c) (qcr tt S ty ty2 c l (2 ^ id)) none
   | some (.frz c l)=>cond (b c) (qcr tt S ty ty2 c l (2 ^ id)) none
   | _=>none) kk:=fun z b id=>by
  cases z with
  | none=>rfl
  | some o =>
   cases o<;>try rfl
   all_goals (simp only[qbg,q7o];rfl)
 have hl:∀(b:Bool) (c:TC) (l:List (El c)),cond b (qer tt S ty ty2 c l 0 kk) none=ob (cond b (qcr tt S ty ty2 c l 0) none) kk:=fun b c l=>by simp only[qbg,q7o];rfl
 cases x<;>first|exact zev _ _ _ _ _ _ _|(cases y<;>first|rfl|(simp only[qpb,iapp];exact hl _ _ _)|(simp only[qpb,iapp];exact hz _ (fun c=>empS c _) _))
def qiu(P:Program)(tt:Nat->Option TI)(nt:Nat)(fr:PT IV)(S:IS)(o:Oper)(op:BinOp)(T:TypeId)(ti:TI)(v u:IV)(kk:Res->Option R):Option R:=match v,u with
 | .str a,.str b=>match op with
  | .add=>cond (Nat.blt (a.size+b.size) 9223372036854775808) (kk ⟨.str (a++b),S,0,0⟩) none
  | op=>ob (qc4 P tt nt fr S o op T ti (.str a) (.str b)) kk
 | .int k a,.int k' b=>match op with
  | .shl=>cond (iltI b 0) none (kk ⟨.int k (ishl k a b),S,0,0⟩)
  | .shr=>cond (iltI b 0) none (kk ⟨.int k (a.fdiv (2 ^ (min b.toNat k.bits))),S,0,0⟩)
  | .quo=>cond (decide (k=k')) (cond (ieqI b 0) none (kk ⟨.int k (k.wrap (a.tdiv b)),S,0,0⟩)) (ob (qa9 P nt fr S o) kk)
  | .rem=>cond (decide (k=k')) (cond (ieqI b 0) none (kk ⟨.int k (a.tmod b),S,0,0⟩)) (ob (qa9 P nt fr S o) kk)
  | op=>ob (qc4 P tt nt fr S o op T ti (.int k a) (.int k' b)) kk
 | .lst _ l,.nilsl=>cond (isSl ti.und) (match l with
  | []=>none
  | _::_=>match op with
   | .eql=>kk ⟨.bool false,S,0,0⟩
   | .neq=>kk ⟨.bool true,S,0,0⟩
   | _=>none) none
 | v,u=>ob (qc4 P tt nt fr S o op T ti v u) kk
theorem zai(P:Program)(tt:Nat->Option TI)(nt:Nat)(fr:PT IV)(S:IS)(o:Oper)(op:BinOp)(T:TypeId)(ti:TI)(v u:IV)(kk:Res->Option R):qiu P tt nt fr S o op T ti v u kk=ob (qc4 P tt nt fr S o op T ti v u) kk:=by
 cases v<;>cases u<;>try rfl
 ·cases op<;>try rfl
  all_goals
   rename_i k a k' b;simp only[qiu,qc4,qm7,ibin];first
   | (cases iltI b 0<;>rfl)
   | (cases decide (k=k') with
    | false=>rfl
    | true =>
     simp only[jab];cases ieqI b 0<;>rfl)
 ·cases op<;>try rfl
  simp only[qiu,qc4,qbg];rfl
 ·simp only[qiu,qc4,qbg];rename_i c l;cases l<;>cases op<;>rfl
def exfK(s:Sm)(vs:List IV)(S:IS)(kk:Res->Option R):Option R :=
 match qdm s.pts S vs with
 | none=>none
 | some (x,S1,w)=>match s.f x with
  | none=>none
  | some y=>cond s.flat (kk ⟨tupI (resV s.rts S.next y),addO (resO s.rts y) S,w,0⟩) (kk ⟨tupI (resV s.rts S1.next y),addO (resO s.rts y) S1,0,w⟩)
theorem zmx(s:Sm)(vs:List IV)(S:IS)(kk:Res->Option R):exfK s vs S kk=ob (exf s vs S) kk:=by
 simp only[exfK,exf];cases qdm s.pts S vs with
 | none=>rfl
 | some q =>
  obtain⟨x,S1,w⟩:=q;simp only;cases s.f x with
  | none=>rfl
  | some y=>simp only[qbg];rfl
def qu6(tt:Nat->Option TI)(S:IS)(ty:Nat)(v:IV)(kk:Res->Option R):Option R:=match v with
 | .map id=>match tt ty with
  | some ti=>match ti.und with
   | .map _ _=>match S.heap.get id with
    | some (.tmap _ _ es)=>cond (Nat.blt es.length 9223372036854775808) (kk ⟨.int .i64 es.length,S,2 ^ id,0⟩) none
    | _=>ob (ilen tt S ty (.map id)) kk
   | _=>none
  | none=>none
 | v=>ob (ilen tt S ty v) kk
theorem zhm(tt:Nat->Option TI)(S:IS)(ty:Nat)(v:IV)(kk:Res->Option R):qu6 tt S ty v kk=ob (ilen tt S ty v) kk:=by
 cases v<;>try rfl
 rename_i id;simp only[qu6];cases h1:tt ty with
 | none=>simp only[ilen,h1];rfl
 | some ti =>
  simp only;cases h2:ti.und<;>try (simp only[ilen,h1,h2];rfl)
  simp only;cases h3:S.heap.get id with
  | none=>rfl
  | some o =>
   cases o<;>try rfl
   simp only[ilen,h1,h2,h3,qbg];rfl
end
end Go.Jx
end

section
namespace Go.Jx
open Go Go.Sx Go.RowKit
universe u

def bd{α R:Type}(x:Option α)(k:α->Option R):Option R:=match x with|some a=>k a|none=>none
theorem qiy{α R:Type}(k:α->Option R)(b:Bool)(x y:Option α):bd (cond b x y) k=cond b (bd x k) (bd y k):=by cases b<;>rfl
theorem qd6{α R:Type}(x:Option α)(f:α->Option Res)(k:Res->Option R):ob (oget x f) k=bd x fun a=>ob (f a) k:=by cases x<;>rfl
section
variable {R : Type}
def iopK(P:Program)(tt:Nat->Option TI)(nt:Nat)(fr:PT IV)(S:IS)(o:Oper)(kk:Res->Option R):Option R :=
 match o.op with
 | .load T x=>bd (evo nt fr x) fun v=>qt6 tt S T v kk
 | .store T x y=>bd (evo nt fr x) fun v=>bd (evo nt fr y) fun u=>qti tt S T v u kk
 | .binOp op T x y _=>bd (evo nt fr x) fun v=>bd (evo nt fr y) fun u=>match tt T with
  | some ti=>qiu P tt nt fr S o op T ti v u kk
  | none=>none
 | .slice T x lo hi mx=>bd (evo nt fr x) fun v=>match v with
  | .lst c l=>bd (evM nt fr lo) fun lo=>bd (evM nt fr hi) fun hi=>bd (evM nt fr mx) fun mx=>qs2 tt S T lo hi mx (.lst c l) kk
  | .str s=>bd (evM nt fr lo) fun lo=>bd (evM nt fr hi) fun hi=>bd (evM nt fr mx) fun mx=>qvu tt S T lo hi mx s kk
  | .arr id=>bd (evM nt fr lo) fun lo=>bd (evM nt fr hi) fun hi=>bd (evM nt fr mx) fun mx=>qrh tt S T lo hi mx id (q49 o.pos) kk
  | _=>ob (iop P tt nt fr S o) kk
 | .indexAddr T x y=>bd (evo nt fr x) fun v=>bd (evo nt fr y) fun u=>qp3 tt S T v u kk
 | .makeSlice T x y=>bd (evo nt fr x) fun v=>cond (qoh x y) (qwv tt S T v kk) (bd (evo nt fr y) fun u=>qsk tt S T v u kk)
 | .next x b=>bd (evo nt fr x) fun v=>qsv S v b kk
 | .index T x y=>bd (evo nt fr x) fun v=>bd (evo nt fr y) fun u=>match v,u with
  | .str s,.int _ i=>qrx tt S T s i kk
  | _,_=>ob (iop P tt nt fr S o) kk
 | .call ⟨.builtin .append,args,ts⟩=>match args.toList,ts.toList with
  | [x,y],[t1,t2]=>bd (evo nt fr x) fun v=>bd (evo nt fr y) fun u=>qpb tt S t1 t2 v u kk
  | _,_=>none
 | .call ⟨.builtin .len,args,ts⟩=>match args.toList,ts.toList with
  | [x],[t1]=>bd (evo nt fr x) fun v=>match v with
   | .map id=>qu6 tt S t1 (.map id) kk
   | _=>ob (iop P tt nt fr S o) kk
  | _,_=>none
 | _=>ob (iop P tt nt fr S o) kk
theorem q13(P:Program)(tt:Nat->Option TI)(nt:Nat)(fr:PT IV)(S:IS)(o:Oper)(kk:Res->Option R):iopK P tt nt fr S o kk=ob (iop P tt nt fr S o) kk:=by
 obtain⟨dst,op,ty,pos,aft,g⟩:=o;cases op<;>try rfl
 case load T x=>simp only[iopK,iop,qd6,zd2]
 case store T x y=>simp only[iopK,iop,qd6,zlq]
 case binOp op T x y t2 =>
  simp only[iopK,iop,qd6];cases evo nt fr x<;>try rfl
  cases evo nt fr y<;>try rfl
  simp only[bd];cases tt T<;>first|rfl|exact zai ..
 case slice T x lo hi mx =>
  simp only[iopK];cases he:evo nt fr x with
  | none=>simp only[iop,he];rfl
  | some v =>
   simp only[bd];cases v<;>try rfl
   ·simp only[iop,he,oget];cases evM nt fr lo<;>try rfl
    cases evM nt fr hi<;>try rfl
    cases evM nt fr mx<;>try rfl
    exact zcx ..
   ·simp only[iop,he,oget];cases evM nt fr lo<;>try rfl
    cases evM nt fr hi<;>try rfl
    cases evM nt fr mx<;>try rfl
    exact zei ..
   ·simp only[iop,he,oget];cases evM nt fr lo<;>try rfl
    cases evM nt fr hi<;>try rfl
    cases evM nt fr mx<;>try rfl
    exact zfo ..
 case indexAddr T x y=>simp only[iopK,iop,qd6,zmq]
 case makeSlice T x y=>simp only[iopK,iop,qd6,qbg,zdh,zpw]
 case next x b=>simp only[iopK,iop,qd6,zg7]
 case index T x y =>
  simp only[iopK];cases he:evo nt fr x with
  | none=>simp only[iop,he];rfl
  | some v =>
   simp only[bd];cases he2:evo nt fr y with
   | none=>simp only[iop,he,he2,oget];rfl
   | some u =>
    simp only;cases v<;>cases u<;>try rfl
    simp only[iop,he,he2,oget];exact znm ..
 case call c =>
  obtain⟨callee,args,ts⟩:=c;cases callee<;>try rfl
  rename_i b;cases b<;>try rfl
  case append =>
   simp only[iopK,iop];generalize args.toList=la;generalize ts.toList=lt;cases la with
   | nil=>rfl
   | cons x la=>cases la with
    | nil=>rfl
    | cons y la=>cases la with
     | cons z la=>rfl
     | nil=>cases lt with
      | nil=>rfl
      | cons t1 lt=>cases lt with
       | nil=>rfl
       | cons t2 lt=>cases lt with
        | cons t3 lt=>rfl
        | nil=>simp only[qd6,zat]
  case len =>
   simp only[iopK,iop];generalize args.toList=la;generalize ts.toList=lt;cases la with
   | nil=>rfl
   | cons x la=>cases la with
    | cons y la=>rfl
    | nil=>cases lt with
     | nil=>rfl
     | cons t1 lt=>cases lt with
      | cons t2 lt=>rfl
      | nil =>
       simp only;cases he:evo nt fr x with
       | none=>rfl
       | some v =>
        simp only[bd,oget];cases v<;>try rfl
        exact zhm ..
abbrev ClK(R:Type):=Tgt->List IV->IS->(Res->Option R)->Option R
def qfn(P:Program)(tt:Nat->Option TI)(nt:Nat)(cl:ClK R)(fr:PT IV)(S:IS)(o:Oper)(kk:Res->Option R):Option R :=
 match o.op with
 | .call ⟨.value x,args,_⟩=>bd (evo nt fr x) fun v=>bd (evL nt fr args.toList) fun vs=>match v with
  | .fn f caps=>cl (.fn f) (vs++caps) S kk
  | .bfn f bs=>cl (.fn f) (bs++vs) S kk
  | .yield id=>cl (.yield id) vs S kk
  | _=>none
 | .panic x=>bd (evo nt fr x) fun v=>match v with
  | .iface t u=>kk ⟨.pan (.iface t u),S,0,0⟩
  | _=>none
 | _=>iopK P tt nt fr S o kk
def ClEq(cl:Cl)(clK:ClK R):Prop:=∀tgt vs S kk,clK tgt vs S kk=ob (cl tgt vs S) kk
variable {P : Program} {tt : Nat -> Option TI} {nt : Nat} {cl : Cl} {clK : ClK R}
theorem qwp(h:ClEq cl clK)(fr:PT IV)(S:IS)(o:Oper)(kk:Res->Option R):qfn P tt nt clK fr S o kk=ob (qbl P tt nt cl fr S o) kk:=by
 obtain⟨dst,op,ty,pos,aft,g⟩:=o;cases op
 case call c =>
  obtain⟨callee,args,ts⟩:=c;cases callee
  case value x =>
   simp only[qfn,qbl,qd6];cases evo nt fr x<;>try rfl
   rename_i v;cases evL nt fr args.toList<;>try rfl
   rename_i vs;cases v<;>try rfl
   ·exact h ..
   ·exact h ..
   ·exact h ..
  all_goals (simp only[qfn,qbl];exact q13 ..)
 case panic x =>
  simp only[qfn,qbl,qd6];cases evo nt fr x<;>try rfl
  rename_i v;cases v<;>rfl
 all_goals (simp only[qfn,qbl];exact q13 ..)
theorem PT.set_same{α:Type u}{x:α}:∀{t:PT α} {n:Nat},t.get n=some x->t.set x n=t
 | .leaf,n,h=>by cases h
 | .node v l r,n,h=>by
  unfold PT.get at h;unfold PT.set;cases h0:Nat.beq n 0 with
  | true=>rw[h0,jab] at h;subst h;rfl
  | false =>
   rw[h0,jae] at h;simp only[jae];cases h1:Nat.beq (n % 2) 1 with
   | true=>rw[h1,jab] at h;simp only[jab];rw[PT.set_same h]
   | false=>rw[h1,jae] at h;simp only[jae];rw[PT.set_same h]
theorem q95{fr:PT IV}{t:Nat}{v:IV}(h:slot fr t=v)(hv:v≠.unk):fr.set v t=fr:=by
 unfold slot at h;cases hg:fr.get t with
 | none=>rw[hg] at h;exact absurd h.symm hv
 | some x=>rw[hg] at h;subst h;exact PT.set_same hg
def guK(ops:List Oper)(nt:Nat)(fr:PT IV)(g:Option (Nat × Bool))(yes no:PT IV->Option R):Option R :=
 match g with
 | none=>yes fr
 | some (j,want)=>match qb1 ops j with
  | none=>no fr
  | some t=>match slot fr t with
   | .bool b=>cond (Nat.blt t nt) (cond b (cond want yes no (fr.set (.bool true) t)) (cond want no yes (fr.set (.bool false) t))) (no fr)
   | v=>cond (qcy v) (no fr) none
theorem q5g(ops:List Oper)(nt:Nat)(fr:PT IV)(g:Option (Nat × Bool))(yes no:PT IV->Option R):guK ops nt fr g yes no=cond (gOK ops fr g) (cond (qbv ops nt fr g) (yes fr) (no fr)) none:=by
 unfold guK gOK qbv qp8;cases g with
 | none=>rfl
 | some q =>
  obtain⟨j,want⟩:=q;simp only;cases qb1 ops j with
  | none=>rfl
  | some t =>
   simp only;cases hs:slot fr t
   case bool b =>
    have hf:fr.set (.bool b) t=fr:=q95 hs (by simp);simp only[qcy,jab];cases Nat.blt t nt
    ·rfl
    ·cases b<;>cases want<;>simp only[jab,jae,hf,jbh,jba]
   all_goals (cases Nat.blt t nt<;>rfl)
def qh9(P:Program)(tt:Nat->Option TI)(nt:Nat)(cl:ClK R)(ops:List Oper):List Oper->PT IV->IS->(FRes->Option R)->Option R
 | [],fr,S,kk=>kk ⟨fr,S,0,0,none⟩
 | o::l,fr,S,kk=>guK ops nt fr o.guard
  (fun fr=>qfn P tt nt cl fr S o fun r=>match qbi r.v with
   | some p=>kk ⟨fr,r.S,r.rd,r.wr,some p⟩
   | none=>qh9 P tt nt cl ops l (putD o.dst r.v fr) r.S fun q=>kk ⟨q.fr,q.S,r.rd ||| q.rd,r.wr ||| q.wr,q.p⟩)
  (fun fr=>qh9 P tt nt cl ops l (putD o.dst (.tup []) fr) S kk)
theorem quf(h:ClEq cl clK)(ops:List Oper):∀(l:List Oper) (fr:PT IV) (S:IS) (kk:FRes->Option R),qh9 P tt nt clK ops l fr S kk=bd (iseq P tt nt cl ops l fr S) kk
 | [],fr,S,kk=>rfl
 | o::l,fr,S,kk=>by
  simp only[qh9,iseq,q5g,qiy,qwp h,quf h ops l];refine cond_congr' ?_;refine cond_congr' ?_;cases qbl P tt nt cl fr S o with
  | none=>rfl
  | some r =>
   simp only[ob];cases qbi r.v with
   | some p=>rfl
   | none=>simp only;cases iseq P tt nt cl ops l (putD o.dst r.v fr) r.S<;>rfl
where cond_congr' {b:Bool} {x x' y:Option R} (h:x=x'):cond b x y=cond b x' y:=by rw[h]
def qf5(P:Program)(tt:Nat->Option TI)(nt:Nat)(cl:ClK R)(ops:List Oper)(bs:List Nat):List Oper->Nat->Option (Nat × IV)->PT IV->IS->(Recs->Option R)->Option R
 | [],_,pn,fr,S,kk=>kk ⟨[],fr,S,pn⟩
 | o::l,k,pn,fr,S,kk=>cond (qdt bs k pn)
  (qf5 P tt nt cl ops bs l (k+1) pn (putD o.dst .unk fr) S fun q=>kk ⟨⟨fr,S,.unk,0,0,false⟩::q.l,q.fr,q.S,q.pn⟩)
  (guK ops nt fr o.guard
  (fun fr=>qfn P tt nt cl fr S o fun r=>match qbi r.v with
   | some p=>match pn with
    | some _=>none
    | none=>cond (qb0 p) (qf5 P tt nt cl ops bs l (k+1) (some (k,p)) (putD o.dst .unk fr) r.S fun q=>kk ⟨⟨fr,S,.unk,r.rd,r.wr,true⟩::q.l,q.fr,q.S,q.pn⟩) none
   | none=>qf5 P tt nt cl ops bs l (k+1) pn (putD o.dst r.v fr) r.S fun q=>kk ⟨⟨fr,S,r.v,r.rd,r.wr,true⟩::q.l,q.fr,q.S,q.pn⟩)
  (fun fr=>qf5 P tt nt cl ops bs l (k+1) pn (putD o.dst (.tup []) fr) S fun q=>kk ⟨⟨fr,S,.tup [],0,0,false⟩::q.l,q.fr,q.S,q.pn⟩))
theorem qzo(h:ClEq cl clK)(ops:List Oper)(bs:List Nat):∀(l:List Oper) (k:Nat) (pn:Option (Nat × IV)) (fr:PT IV) (S:IS) (kk:Recs->Option R),qf5 P tt nt clK ops bs l k pn fr S kk=bd (qa8 P tt nt cl ops bs l k pn fr S) kk
 | [],k,pn,fr,S,kk=>rfl
 | o::l,k,pn,fr,S,kk=>by
  simp only[qf5,qa8,q5g,qiy,qwp h,qzo h ops bs l];cases qdt bs k pn
  case true =>
   simp only[jab];cases qa8 P tt nt cl ops bs l (k+1) pn (putD o.dst .unk fr) S<;>rfl
  simp only[jae];cases gOK ops fr o.guard
  ·rfl
  cases qbv ops nt fr o.guard
  ·simp only[jab,jae];cases qa8 P tt nt cl ops bs l (k+1) pn (putD o.dst (.tup []) fr) S<;>rfl
  ·simp only[jab];cases qbl P tt nt cl fr S o with
   | none=>rfl
   | some r =>
    simp only[ob];cases qbi r.v with
    | some p =>
     cases pn with
     | some x=>rfl
     | none =>
      simp only;cases qb0 p
      ·rfl
      ·simp only[jab];cases qa8 P tt nt cl ops bs l (k+1) (some (k,p)) (putD o.dst .unk fr) r.S<;>rfl
    | none=>simp only;cases qa8 P tt nt cl ops bs l (k+1) pn (putD o.dst r.v fr) r.S<;>rfl
def qmm(P:Program)(tt:Nat->Option TI)(nt:Nat)(cl:ClK R)(ops:List Oper)(fr:PT IV)(S:IS)(kk:FRes->Option R):Option R :=
 qf5 P tt nt cl ops (befs ops []) ops 0 none fr S fun q=>cond (ichk q.l q.S (befs ops []) []) (match q.pn with
  | none=>kk ⟨q.fr,q.S,orRd q.l,orWr q.l,none⟩
  | some x=>kk ⟨.leaf,kill (orWr q.l) S,orRd q.l,orWr q.l,some x.2⟩) none
theorem q55(h:ClEq cl clK)(ops:List Oper)(fr:PT IV)(S:IS)(kk:FRes->Option R):qmm P tt nt clK ops fr S kk=bd (iany P tt nt cl ops fr S) kk:=by
 simp only[qmm,iany,qzo h];cases qa8 P tt nt cl ops (befs ops []) ops 0 none fr S with
 | none=>rfl
 | some q =>
  simp only[qiy];obtain⟨l,f,s,pn⟩:=q;cases pn<;>rfl

abbrev CdK(R:Type):=PT IV->IS->List Nat->(CRes->Option R)->Option R
def qqy(f:CdK R):Nat->CdK R
 | 0,_,_,_,_=>none
 | n+1,fr,S,ds,kk=>f fr S ds fun r=>match r.e with
  | .normal=>qqy f n r.fr r.S r.ds fun q=>kk (q.or r.rd r.wr)
  | _=>kk r
def qec(f:CdK R)(mr mw:Nat):Nat->CdK R
 | 0,_,_,_,_=>none
 | n+1,fr,S,ds,kk=>f fr S ds fun r=>cond (subm r.rd mr&&subm r.wr mw) (match r.e with
  | .normal=>qec f mr mw n r.fr r.S r.ds kk
  | e=>kk ⟨e,r.fr,r.S,r.ds,mr,mw⟩) none
def qoq(cl:ClK R)(f:Nat)(caps:List IV)(S:IS)(id:Nat)(fr:PT IV)(ds:List Nat)(rd:Nat)(kk:CRes->Option R):Option R :=
 cl (.fn f) (.yield id::caps) S fun r=>match qbi r.v with
  | some _=>none
  | none=>match r.S.heap.get id with
   | some (.loop st pend nt fr2 ps assign body D)=>match st with
    | .busy=>none
    | _=>match pend with
     | none=>kk ⟨.normal,fr,r.S.set id (.loop .exhausted pend nt fr2 ps assign body D),ds,rd ||| (r.rd ||| 2 ^ id),r.wr ||| 2 ^ id⟩
     | some c=>match qgt c with
      | none=>none
      | some e=>kk ⟨e,fr,r.S.set id (.loop .exhausted pend nt fr2 ps assign body D),ds,rd ||| (r.rd ||| 2 ^ id),r.wr ||| 2 ^ id⟩
   | _=>none
theorem q57(h:ClEq cl clK)(f:Nat)(caps:List IV)(S:IS)(id:Nat)(fr:PT IV)(ds:List Nat)(rd:Nat)(kk:CRes->Option R):qoq clK f caps S id fr ds rd kk=bd (ifin cl f caps S id fr ds rd) kk:=by
 simp only[qoq,ifin,h (.fn f)];cases cl (.fn f) (.yield id::caps) S with
 | none=>rfl
 | some r =>
  simp only[ob];cases qbi r.v with
  | some p=>rfl
  | none =>
  simp only;cases r.S.heap.get id with
  | none=>rfl
  | some o =>
   cases o<;>try rfl
   rename_i st pend nt fr2 ps assign body D;cases st<;>try rfl
   all_goals
    cases pend with
    | none=>rfl
    | some c =>
     simp only;cases qgt c<;>rfl
theorem qvw{B:Nat}(x:Option CRes)(kk:CRes->Option R):bd (mbO B x) kk=bd x fun r=>kk (mbR B r):=by cases x<;>rfl
def qav(P:Program)(tt:Nat->Option TI)(nm:Nat->Option Nm)(B:Nat)(nt:Nat)(cl:ClK R)(lf:Nat)(round:Option Nat):Code->CdK R
 | .skip,fr,S,ds,kk=>kk ⟨.normal,fr,S,ds,0,0⟩
 | .label _,fr,S,ds,kk=>kk ⟨.normal,fr,S,ds,0,0⟩
 | .exit id,fr,S,ds,kk=>kk ⟨.exit id,fr,S,ds,0,0⟩
 | .goto l,fr,S,ds,kk=>kk ⟨.goto l,fr,S,ds,0,0⟩
 | .ret,fr,S,ds,kk=>kk ⟨.ret,fr,S,ds,0,0⟩
 | .refuse _,_,_,_,_=>none
 | .region id ops draw,fr,S,ds,kk=>bd (qbz nt (nm id) B fr S ds) fun x =>
  cond draw (qmm P tt nt cl ops.toList x.fr x.S fun q=>kk (mbR (mB nm B) ⟨exP q.p,q.fr,q.S,x.ds,q.rd,x.wr ||| q.wr⟩))
   (qh9 P tt nt cl ops.toList ops.toList x.fr x.S fun q=>kk (mbR (mB nm B) ⟨exP q.p,q.fr,q.S,x.ds,q.rd,x.wr ||| q.wr⟩))
 | .seq x y,fr,S,ds,kk=>qav P tt nm B nt cl lf round x fr S ds fun r=>match r.e with
  | .normal=>qav P tt nm B nt cl lf round y r.fr r.S r.ds fun q=>kk (q.or r.rd r.wr)
  | _=>kk r
 | .cond c x y,fr,S,ds,kk=>match evo nt fr c with
  | some (.bool b)=>cond b (qav P tt nm B nt cl lf round x fr S ds kk) (qav P tt nm B nt cl lf round y fr S ds kk)
  | _=>none
 | .block id c,fr,S,ds,kk=>qav P tt nm B nt cl lf round c fr S ds fun r=>match r.e with
  | .exit id'=>cond (Nat.beq id' id) (kk ⟨.normal,r.fr,r.S,r.ds,r.rd,r.wr⟩) (kk r)
  | _=>kk r
 | .scope c,fr,S,ds,kk=>qav P tt nm B nt cl lf round c fr S ds fun r=>match r.e with
  | .goto _=>none
  | _=>kk r
 | .loop c,fr,S,ds,kk=>match qc3 nm c with
  | some m=>qec (qav P tt nm B nt cl lf round c) m.1 m.2 lf fr S ds fun r=>kk (mbR (mB nm B) r)
  | none=>qqy (qav P tt nm B nt cl lf round c) lf fr S ds kk
 | .rangeFunc g ps assign body,fr,S,ds,kk=>match evo nt fr g with
  | some (.fn f caps)=>match round with
   | none=>qoq cl f caps ((S.new (.defs true)).new (.loop .ready none nt fr ps.toList assign body S.next)) (S.next+1) fr (S.next::ds) 0 fun r=>kk (mbR (mB nm B) r)
   | some l=>match S.heap.get l with
    | some (.loop _ _ _ _ _ _ _ D)=>qoq cl f caps (S.new (.loop .ready none nt fr ps.toList assign body D)) S.next fr ds (2 ^ l) fun r=>kk (mbR (mB nm B) r)
    | _=>none
  | _=>none
variable {nm : Nat -> Option Nm} {B lf : Nat} {round : Option Nat}
theorem q0t{g:PT IV->IS->List Nat->Option CRes}{f:CdK R}(h:∀fr S ds kk,f fr S ds kk=bd (g fr S ds) kk):∀n fr S ds kk,qqy f n fr S ds kk=bd (qcx g n fr S ds) kk
 | 0,_,_,_,_=>rfl
 | n+1,fr,S,ds,kk=>by
  simp only[qqy,qcx,h,q0t h n];cases g fr S ds with
  | none=>rfl
  | some r =>
   simp only[bd];cases r.e<;>try rfl
   simp only;cases qcx g n r.fr r.S r.ds<;>rfl
theorem q7e{g:PT IV->IS->List Nat->Option CRes}{f:CdK R}{mr mw:Nat}(h:∀fr S ds kk,f fr S ds kk=bd (g fr S ds) kk):∀n fr S ds kk,qec f mr mw n fr S ds kk=bd (qbs g mr mw n fr S ds) kk
 | 0,_,_,_,_=>rfl
 | n+1,fr,S,ds,kk=>by
  simp only[qec,qbs,h,q7e h n];cases g fr S ds with
  | none=>rfl
  | some r =>
   simp only[qiy];simp only[bd];cases subm r.rd mr&&subm r.wr mw
   ·rfl
   ·simp only[jab];cases r.e<;>rfl
theorem qgy(hcl:ClEq cl clK):∀(c:Code) (fr:PT IV) (S:IS) (ds:List Nat) (kk:CRes->Option R),qav P tt nm B nt clK lf round c fr S ds kk=bd (qae P tt nm B nt cl lf round c fr S ds) kk:=by
 intro c;induction c with
 | skip=>intros;rfl
 | label l=>intros;rfl
 | exit id=>intros;rfl
 | goto l=>intros;rfl
 | ret=>intros;rfl
 | refuse _=>intros;rfl
 | region id ops draw =>
  intro fr S ds kk;simp only[qav,qae,qvw];cases qbz nt (nm id) B fr S ds with
  | none=>rfl
  | some x =>
   simp only[bd,q55 hcl,quf hcl];cases draw with
   | true=>simp only[jab];cases iany P tt nt cl ops.toList x.fr x.S<;>rfl
   | false=>simp only[jae];cases iseq P tt nt cl ops.toList ops.toList x.fr x.S<;>rfl
 | seq x y ihx ihy =>
  intro fr S ds kk;simp only[qav,qae,ihx,ihy];cases qae P tt nm B nt cl lf round x fr S ds with
  | none=>rfl
  | some r =>
   simp only[bd];cases r.e<;>try rfl
   simp only;cases qae P tt nm B nt cl lf round y r.fr r.S r.ds<;>rfl
 | cond c x y ihx ihy =>
  intro fr S ds kk;simp only[qav,qae];cases evo nt fr c with
  | none=>rfl
  | some v =>
   cases v<;>try rfl
   simp only[ihx,ihy,qiy]
 | block id c ih =>
  intro fr S ds kk;simp only[qav,qae,ih];cases qae P tt nm B nt cl lf round c fr S ds with
  | none=>rfl
  | some r =>
   simp only[bd];cases r.e<;>try rfl
   simp only;rename_i id';cases Nat.beq id' id<;>rfl
 | scope c ih =>
  intro fr S ds kk;simp only[qav,qae,ih];cases qae P tt nm B nt cl lf round c fr S ds with
  | none=>rfl
  | some r =>
   simp only[bd];cases r.e<;>rfl
 | loop c ih =>
  intro fr S ds kk;simp only[qav,qae];cases qc3 nm c with
  | none=>exact q0t ih _ _ _ _ _
  | some m=>exact(q7e ih _ _ _ _ _).trans (qvw _ _).symm
 | rangeFunc g ps assign body ih1 ih2 =>
  intro fr S ds kk;simp only[qav,qae,qvw];cases evo nt fr g with
  | none=>rfl
  | some v =>
   cases v<;>try rfl
   simp only;cases round with
   | none=>exact q57 hcl ..
   | some l =>
    simp only;cases S.heap.get l with
    | none=>rfl
    | some o =>
     cases o<;>try rfl
     exact q57 hcl ..
def qsn(P:Program)(tt:Nat->Option TI)(cl:ClK R)(lf:Nat)(id:Nat)(vs:List IV)(S:IS)(kk:Res->Option R):Option R :=
 match S.heap.get id with
 | some (.loop .ready _ nt fr ps assign body _)=>cond (Nat.beq vs.length ps.length&&qba assign&&qba body)
  (qav P tt (fun _=>none) S.next nt cl lf (some id) assign (qe1 ps vs fr) S [] fun r1=>match r1.e with
   | .normal=>match r1.S.heap.get id with
    | some (.loop .ready pend nt2 fr2 ps2 as2 bd2 D2)=>qav P tt (fun _=>none) S.next nt cl lf (some id) body r1.fr (r1.S.set id (.loop .busy pend nt2 fr2 ps2 as2 bd2 D2)) r1.ds fun r2 =>
     cond r2.e.isPan none <| match r2.S.heap.get id with
     | some (.loop _ _ nt3 fr3 ps3 as3 bd3 D3)=>kk ⟨.bool (qdr r2.e).isNone,r2.S.set id (.loop (if (qdr r2.e).isNone then .ready else .done) (qdr r2.e) nt3 fr3 ps3 as3 bd3 D3),2 ^ id ||| (r1.rd ||| r2.rd),(r1.wr ||| 2 ^ id) ||| (r2.wr ||| 2 ^ id)⟩
     | _=>none
    | _=>none
   | _=>none) none
 | _=>none
theorem zio(hcl:ClEq cl clK)(id:Nat)(vs:List IV)(S:IS)(kk:Res->Option R):qsn P tt clK lf id vs S kk=ob (qed P tt cl lf id vs S) kk:=by
 simp only[qsn,qed];cases S.heap.get id with
 | none=>rfl
 | some o =>
  cases o<;>try rfl
  rename_i st pend nt fr ps assign body D;cases st<;>try rfl
  simp only[qbg,qgy hcl];cases (Nat.beq vs.length ps.length&&qba assign&&qba body)
  ·rfl
  ·simp only[jab];cases qae P tt (fun _=>none) S.next nt cl lf (some id) assign (qe1 ps vs fr) S [] with
   | none=>rfl
   | some r1 =>
    simp only[bd];cases r1.e<;>try rfl
    simp only;cases r1.S.heap.get id with
    | none=>rfl
    | some o =>
     cases o<;>try rfl
     rename_i st pend2 nt2 fr2 ps2 as2 bd2 D2;cases st<;>try rfl
     simp only;cases qae P tt (fun _=>none) S.next nt cl lf (some id) body r1.fr (r1.S.set id (.loop .busy pend2 nt2 fr2 ps2 as2 bd2 D2)) r1.ds with
     | none=>rfl
     | some r2 =>
      simp only;cases r2.e.isPan with
      | true=>rfl
      | false =>
      simp only[jae];cases r2.S.heap.get id with
      | none=>rfl
      | some o=>cases o<;>rfl
abbrev ClP:=(R:Type)->ClK R
structure Hx where
 f:Cl->List IV->IS->Option Res
 k:ClP->(R:Type)->List IV->IS->(Res->Option R)->Option R
 eq:∀(cl:Cl) (clP:ClP),(∀R,ClEq cl (clP R))->∀R vs S kk,k clP R vs S kk=ob (f cl vs S) kk
def exH(sm:Nat->Option Sm)(hx:Nat->Option Hx):Ex:=fun f=>match sm f with
 | some s=>some (fun _=>exf s)
 | none=>match hx f with
  | some h=>some h.f
  | none=>none
def qa3(P:Program)(tt:Nat->Option TI)(ft:Nat->Option FI)(nm:Nat->Nat->Option Nm)(sm:Nat->Option Sm)(hx:Nat->Option Hx)(lf:Nat):Nat->ClP
 | 0,_,_,_,_,_=>none
 | n+1,R,tgt,vs,S,kk=>match tgt with
  | .yield id=>qsn P tt (qa3 P tt ft nm sm hx lf n R) lf id vs S kk
  | .fn f=>match sm f with
   | some s=>exfK s vs S kk
   | none=>match hx f with
    | some h=>h.k (qa3 P tt ft nm sm hx lf n) R vs S kk
    | none=>match ft f with
     | none=>none
     | some fi=>cond (frzF (nm f)) none (cond (Nat.ble vs.length fi.nt) (qav P tt (nm f) S.next fi.nt (qa3 P tt ft nm sm hx lf n R) lf none fi.body (qay vs 0 .leaf) S [] fun r=>cond r.e.leaves (bd (qdg tt fi.nt fi.res S r) kk) none) none)
theorem qaq{ft:Nat->Option FI}{nm:Nat->Nat->Option Nm}{sm:Nat->Option Sm}{hx:Nat->Option Hx}:∀n R,ClEq (qby P tt ft nm (exH sm hx) lf n) (qa3 P tt ft nm sm hx lf n R)
 | 0,_=>fun _ _ _ _=>rfl
 | n+1,R=>fun tgt vs S kk=>by
  unfold qa3 qby
  cases tgt with
  | yield id=>exact zio (qaq n R) ..
  | fn f =>
   simp only[exH];cases sm f with
   | some s=>exact zmx ..
   | none =>
    simp only;cases hx f with
    | some h=>exact h.eq _ _ (qaq n) R vs S kk
    | none =>
     simp only;cases ft f with
     | none=>rfl
     | some fi =>
      simp only[qbg,qgy (qaq n R)];cases frzF (nm f)
      case true=>rfl
      simp only[jae];cases Nat.ble vs.length fi.nt
      ·rfl
      ·simp only[jab];cases qae P tt (nm f) S.next fi.nt (qby P tt ft nm (exH sm hx) lf n) lf none fi.body (qay vs 0 .leaf) S [] with
       | none=>rfl
       | some r =>
        simp only[bd,qbg];cases r.e.leaves
        ·rfl
        ·cases qdg tt fi.nt fi.res S r<;>rfl
end
end Go.Jx
end

section
namespace Go.Jx
open Go Go.Sx Go.RowKit
universe u

def PT.Fa{α:Type u}:PT α->(Nat->α->Prop)->Prop
 | .leaf,_=>True
 | .node v l r,p=>(match v with|none=>True|some x=>p 0 x)/\l.Fa (fun k=>p (2*k+1))/\r.Fa (fun k=>p (2*k+2))
theorem PT.fa{α:Type u}:∀{t:PT α} {p:Nat->α->Prop},t.Fa p->∀k v,t.get k=some v->p k v
 | .leaf,p,h,k,v,hk=>by cases hk
 | .node x l r,p,h,k,v,hk=>by
  obtain⟨h1,h2,h3⟩:=h;unfold PT.get at hk;by_cases h0:k=0
  ·subst h0;rw[qcp rfl,jab] at hk;subst hk;exact h1
  ·rw[qa5 h0,jae] at hk;by_cases h4:k % 2=1
   ·rw[qcp h4,jab] at hk;have:=PT.fa h2 _ _ hk
    rwa [show 2*(k / 2)+1=k by omega] at this
   ·rw[qa5 h4,jae] at hk;have:=PT.fa h3 _ _ hk
    rwa [show 2*((k-1) / 2)+2=k by omega] at this
def FIok (P:Program) (f:Nat) (fi:FI):Prop:=∃fn,P.funcs[f]?=some fn/\fn.body=some fi.body/\fn.ntmps=fi.nt/\fn.results=fi.res.toArray/\(fn.name == "runtime.NumGoroutine") = false/\qba fi.body=true

def WfE:(c:TC)->El c->Prop
 | .int k=>fun(n:Int)=>k.wrap n=n
 | .bool=>fun _=>True
 | .str=>fun(s:ByteArray)=>s.size<9223372036854775808
 | .list c=>fun(l:List (El c))=>l.length*bsz c<=140737488355328/\∀x∈l,WfE c x
 | .two a b=>fun(x:El a × El b)=>WfE a x.1/\WfE b x.2
def WfA:(cs:List TC)->ElA cs->Prop
 | [],_=>True
 | c::cs,x=>WfE c x.1/\WfA cs x.2
theorem wf_cells{E:Env}:∀(c:TC) (x:El c) (us:Nat->Value),(∀j (h:j<(cel c x).length),VR E (cel c x)[j] (us j))->WfE c x
 | .int k,x,us,h=>by
  have:=h 0 (by simp[cel]);have h0:VR E (.int k x) (us 0):=this;generalize us 0=u at h0;cases h0;assumption
 | .bool,x,us,h=>trivial
 | .str,x,us,h=>by
  have:=h 0 (by simp[cel]);have h0:VR E (.str x) (us 0):=this;generalize us 0=u at h0;cases h0;assumption
 | .list c,l,us,h=>by
  have:=h 0 (by simp[cel]);have h0:VR E (.lst c l) (us 0):=this;generalize us 0=u at h0;cases h0 with
  | lst0 hc=>exact⟨by simp,fun x hx=>by cases hx⟩
  | lst us2 h1 h2 h3 hb hh hc hu =>
   refine⟨h3,fun x hx=>?_⟩;obtain⟨i,hi,rfl⟩:=jay.1 hx;exact wf_cells c _ (us2 i) (hu i hi)
 | .two a b,x,us,h=>by
  have e:cel (.two a b) x=cel a x.1++cel b x.2:=rfl;refine⟨wf_cells (E:=E) a x.1 us fun j hj=>?_,wf_cells (E:=E) b x.2 (fun j=>us ((cel a x.1).length+j)) fun j hj=>?_⟩
  ·have:=h j (by rw[e,ja4];omega);simp only[e] at this
   rwa [jb5 hj] at this
  ·have:=h ((cel a x.1).length+j) (by rw[e,ja4];omega);simp only[e] at this;rw[jb1 (by omega)] at this;simpa only [jbe] using this
theorem qu0{E:Env}{c:TC}{x:El c}{u:Value}(hc:cel c x=[asIV c x])(h:VR E (asIV c x) u):WfE c x :=
 wf_cells (E:=E) c x (fun _=>u) fun j hj=>by
  have:j=0:=by rw[hc] at hj;simp at hj;omega
  subst this;simp only[hc];exact h
theorem zhk{E:Env}{c:TC}{x:El c}{u:Value}(h:VR E (asIV c x) u):WfE c x:=by
 cases c with
 | two a b =>
  cases h with
  | agg hl hh =>
   rename_i us;refine wf_cells (E:=E) (.two a b) x (fun j=>us.getD j .nilFunc) fun j hj=>?_;have hj2:j<us.length:=by rw[<- hl];exact hj
   show VR E _ (us.getD j .nilFunc);rw[jar,jac hj2];exact hh j hj hj2
 | int k=>exact qu0 rfl h
 | bool=>trivial
 | str=>exact qu0 rfl h
 | list c=>exact qu0 rfl h
theorem qzn{E:Env}:∀{cs:List TC} {x:ElA cs} {us:List Value},VRs E (argV cs x) us->WfA cs x
 | [],x,us,h=>trivial
 | c::cs,x,us,h=>by
  obtain⟨u,us,rfl,a1,a2⟩:=VRs.inv (v:=asIV c x.1) (cs:=argV cs x.2) h;exact⟨zhk a1,qzn a2⟩
theorem conW{P:Program}{tt:Nat->Option TI}{ft:Nat->Option FI}{nm:Nat->Nat->Option Nm}{ex:Ex}{f:Nat}{s:Sm}(hm:P.follows .mixedOrders=true)(htt:TT P tt)(hft:FT P ft)(hex:ExOK P ex)(hC:qai P f)
  (hrun:∀(x:ElA s.pts) (y:ElR s.rts),WfA s.pts x->s.f x=some y->∃n lf r,qby P tt ft nm ex lf n (.fn f) (argV s.pts x) S0=some r/\runR s r=some y):Con P f s:=by
 refine⟨hC,fun M w x us y hy hM hg hv=>?_⟩;obtain⟨n,lf,r,h1,h2⟩:=hrun x y (qzn hv) hy;obtain⟨_,hcall⟩:=(qjy (lf:=lf) hm htt hft hex n).fn f _ S0 r h1 T0 (EM M w) us (preM hM hg) (fun _ _=>trivial) (fun _ _=>trivial) hv;exact hcall.mono fun e w' hR=>q58 hM hg h2 hR
theorem zcg{P:Program}{sm:Nat->Option Sm}{hx:Nat->Option Hx}(h:∀f s,sm f=some s->Con P f s)(h2:∀f g,hx f=some g->HxOK P f g.f):ExOK P (exH sm hx):=by
 have key:∀f g,exH sm hx f=some g->(∃s,sm f=some s/\g=fun _=>exf s)\/∃q,hx f=some q/\g=q.f:=fun f g hg=>by
  unfold exH at hg;split at hg
  ·rename_i s hs;cases hg;exact .inl ⟨s,hs,rfl⟩
  split at hg<;>cases hg;rename_i q hq;exact .inr ⟨q,hq,rfl⟩
 refine⟨fun f g hg cl a b c vs S r hr T E us p hrd hwr hv=>?_,fun f g hg cl a vs S=>?_,fun f g hg cl a vs S r hr hw hv=>?_⟩
 ·rcases key f g hg with ⟨s,hs,rfl⟩|⟨q,hq,rfl⟩
  ·exact(fun x=>⟨x.1,x.2.mono fun _ _=>RetX.of⟩) (zcj (h f s hs) hr p hrd hwr hv)
  ·exact(h2 f q hq).fn cl a b c vs S r hr T E us p hrd hwr hv
 ·rcases key f g hg with ⟨s,hs,rfl⟩|⟨q,hq,rfl⟩
  ·exact zj9
  ·exact(h2 f q hq).fr cl a vs S
 ·rcases key f g hg with ⟨s,hs,rfl⟩|⟨q,hq,rfl⟩
  ·exact q8h hr hw hv
  ·exact(h2 f q hq).calm cl a vs S r hr hw hv
theorem conK{P:Program}{tt:Nat->Option TI}{ft:Nat->Option FI}{nm:Nat->Nat->Option Nm}{sm:Nat->Option Sm}{hx:Nat->Option Hx}{f:Nat}{s:Sm}(hm:P.follows .mixedOrders=true)(htt:TT P tt)(hft:FT P ft)(hsm:∀f s,sm f=some s->Con P f s)
  (hhx:∀f g,hx f=some g->HxOK P f g.f) (hC:qai P f)
  (hrun:∀(x:ElA s.pts) (y:ElR s.rts),WfA s.pts x->s.f x=some y->∃n lf,qa3 P tt ft nm sm hx lf n _ (.fn f) (argV s.pts x) S0 (runR s)=some y):Con P f s:=by
 refine conW (nm:=nm) hm htt hft (zcg hsm hhx) hC fun x y hx2 hy=>?_;obtain⟨n,lf,h⟩:=hrun x y hx2 hy;rw[qaq n] at h;cases hr:qby P tt ft nm (exH sm hx) lf n (.fn f) (argV s.pts x) S0 with
 | none=>rw[hr] at h;cases h
 | some r=>rw[hr] at h;exact⟨n,lf,r,hr,h⟩
end Go.Jx
end

section
namespace Go.Jx
open Go Go.Sx Go.ChangeShapes Go.RowKit
def TRW(P:Program)(W:World)(T:TypeId)(cs:List Value):Prop :=
 ∃(H:Type) (en:TypeId × Value->H) (fuel:Nat) (x:DataW H × List MemPlace),DataW.trod en P W 0 (fun _=>true) true fuel T cs=some x/\∀n∈x.1.weights P T,n<=reachBytes
structure RdT (P:Program) (c:TC) (T:TypeId):Prop where
 sz:P.cellsOf T=csz c
 by_:bsz c<=P.bytesOf T
 rd:∀W cs,TRW P W T cs->∃x:El c,VRs (EM [] W) (cel c x) cs
theorem q9v{k:IntKind}{n:Int}(h:(Lit.int k n).wf=true):k.wrap n=n:=by
 have h':k.min<=n/\n<=k.max:=by simpa [Lit.wf] using h
 cases k<;>simp only[IntKind.min,IntKind.max,IntKind.wrap,IntKind.bits,IntKind.signed] at *<;>simp at *<;>omega
section
variable {P : Program} {W : World} {T : TypeId} {cs : List Value}
theorem VRs.one{E:Env}{v:IV}{u:Value}(h:VR E v u):VRs E [v] [u]:=VRs.cons h VRs.nil
theorem zjj(hT:P.underlying T=some .string)(hs:P.cellsOf T=1)(hb:P.bytesOf T=16):RdT P .str T:=⟨hs,jd9 hb.symm,fun W cs h=>by
 obtain⟨H,en,fuel,x,h,hw⟩:=h;obtain⟨s,h1,_,h2⟩:=DataW.trod_string hT h;exact⟨s,h1▸VRs.one (.str s (by unfold maxLen at h2;omega))⟩⟩
theorem zpk{k:IntKind}(hT:P.underlying T=some (.int k))(hs:P.cellsOf T=1)(hb:P.bytesOf T=bsz (.int k)):RdT P (.int k) T:=⟨hs,jd9 hb.symm,fun W cs h=>by
 obtain⟨H,en,fuel,x,h,hw⟩:=h;obtain⟨n,h1,_,h2⟩:=DataW.trod_int hT h;exact⟨n,h1▸VRs.one (.int k n (q9v h2))⟩⟩
theorem TRW.fields{fs:Array Field}(hT:P.underlying T=some (.struct fs))(h:TRW P W T cs):cs.length=P.cellsOf T/\∀(i:Nat) (f:Field),fs[i]?=some f->TRW P W f.type ((cs.drop f.offset).take (P.cellsOf f.type)):=by
 obtain⟨H,en,fuel,x,h,hw⟩:=h;obtain⟨xs,n,rfl,rfl,h1,h2,h3⟩:=DataW.trod_struct hT h;refine⟨h1,fun i f hf=>?_⟩;have hi:i<xs.length:=by rw[h2];exact(jdt.1 hf).1
 refine⟨H,en,n,xs[i],by rw[h3 i f hf,jac hi],fun m hm=>hw m ?_⟩;simp only[DataW.weights,hT];refine DataW.weights_mem_each (j:=i) (t:=f.type) (d:=xs[i].1) ?_ ?_ m hm
 ·rw[jbw,Array.getElem?_toList,hf];rfl
 ·rw[jbw,jac hi];rfl
theorem q1c{H:Type}{e:TypeId}:∀{l:List (DataW H)} {d:DataW H},d∈l->∀n∈d.weights P e,n∈DataW.weightsAll P e l
 | [],d,h,_,_=>absurd h (by simp)
 | a::l,d,h,n,hn=>by
  rw[DataW.weightsAll,jbi];rcases ja1.1 h with e|e
  ·exact .inl (e▸hn)
  ·exact .inr (q1c e n hn)
theorem qni{c:TC}{e:TypeId}(hT:P.underlying T=some (.slice e))(he:RdT P c e)(hpos:0<csz c)(hs:P.cellsOf T=1)(hb:P.bytesOf T=24):RdT P (.list c) T:=⟨hs,jd9 hb.symm,fun W cs h=>by
 obtain⟨H,en,fuel,x,h,hw⟩:=h;rcases Go.Deep.open_slice hT h with ⟨rfl,_⟩|⟨a,len,cap,m,n,D,Pl,rfl,_,hl,hm,hmm,rfl,hi⟩
 ·exact⟨([]:List (El c)),VRs.one (.lst0 (by decide))⟩
 have hlm:len<=m:=by rw[hmm];simp;exact hl
 have hx:∀i,i<len->∃(x:El c) (cs':List Value),VRs (EM [] W) (cel c x) cs'/\W.cells? 0 (a.add (i*P.cellsOf e)) (P.cellsOf e)=some cs':=fun i hil=>by
  obtain⟨cs',h1,h2⟩:=hi i (by omega);obtain⟨x,hx⟩:=he.rd W cs' ⟨H,en,n,_,h2,fun k hk=>hw k (by
   simp only[DataW.weights,hT,ja1,jbi];exact .inr (.inl (q1c (jbu.2 ⟨i,jej.2 hil,rfl⟩) k hk)))⟩
  exact⟨x,cs',hx,h1⟩
 have hbytes:len*bsz c<=140737488355328:=by
  have h1:=hw ((((List.range len).map D).length+((List.range (m-len)).map fun j=>D (len+j)).length)*P.bytesOf e) (by simp only[DataW.weights,hT,ja1,true_or]);rw[jbd,jds,jbb] at h1;have h2:=jcm len he.by_;unfold reachBytes at h1;omega
 have hlist:∀k,k<=len->∃l:List (El c),l.length=k/\∀i (h:i<l.length),∃cs',VRs (EM [] W) (cel c l[i]) cs'/\W.cells? 0 (a.add (i*P.cellsOf e)) (P.cellsOf e)=some cs':=fun k=>by
  induction k with
  | zero=>intro _;exact⟨[],rfl,fun i h=>by simp at h⟩
  | succ k ih =>
   intro hk;obtain⟨l,h1,h2⟩:=ih (by omega);obtain⟨x,cs',h3,h4⟩:=hx k (by omega);refine⟨l++[x],by simp[h1],fun i hi=>?_⟩;by_cases hlt:i<l.length
   ·rw[jb5 hlt];exact h2 i hlt
   ·have:i=l.length:=by simp at hi;omega
    subst this;rw[jb1 (jap _)];simp only[Nat.sub_self,jcu];exact⟨cs',h3,by rw[h1];exact h4⟩
 obtain⟨l,hlen,hall⟩:=hlist len (jap _);subst hlen;have hcap:cap<9223372036854775808:=by unfold maxLen at hm;omega
 refine⟨l,VRs.one ?_⟩;cases l with
 | nil=>exact .lst0 hcap
 | cons x0 l =>
 obtain⟨cs0,_,k1⟩:=hall 0 (by simp);obtain⟨_,_,k3⟩:=jfc k1;have k4:=k3 0 (by rw[he.sz];exact hpos);have hlen0:0<cs0.length:=by
  obtain⟨_,k2,_⟩:=jfc k1;rw[k2,he.sz];exact hpos
 rw[jac hlen0] at k4;have ha0:a.add (0*P.cellsOf e)=a:=by simp[Addr.add]
 rw[ha0] at k4;have ha1:a.add 0=a:=by simp[Addr.add]
 rw[ha1] at k4;unfold World.cell? at k4;split at k4<;>try cases k4
 rename_i cells t fz hc;obtain⟨ab,ao,asp⟩:=a;cases asp with
 | some p=>simp at k4
 | none =>
 have hcell:∀i (h:i<(x0::l).length),∃cs',VRs (EM [] W) (cel c (x0::l)[i]) cs'/\∀j,j<csz c->cells[ao+i*csz c+j]?=cs'[j]?:=fun i hi=>by
  obtain⟨cs',h1,h2⟩:=hall i hi;refine⟨cs',h1,fun j hj=>?_⟩;obtain⟨_,_,h3⟩:=jfc h2;have h4:=h3 j (by rw[he.sz];exact hj);rw[<- h4];have e1:(Addr.add ⟨ab,ao,none⟩ (i*P.cellsOf e)).add j=⟨ab,ao+i*csz c+j,none⟩:=by
   rw[he.sz];unfold Addr.add;by_cases hz:i*csz c=0
   ·rw[jam hz];by_cases hj0:j=0
    ·rw[jam hj0];simp
    ·rw[jak hj0];simp [hz]
   ·rw[jak hz];by_cases hj0:j=0
    ·rw[jam hj0];simp [hj0]
    ·rw[jak hj0]
  rw[e1];simp[World.cell?,hc]
 refine .lst (fun i j=>(cells[ao+i*csz c+j]?).getD .nilIface) hl hcap hbytes (by simp[EM]) hc (fun i hi j hj=>?_) (fun i hi j hj=>?_)
 ·obtain⟨cs',g1,g2⟩:=hcell i hi;have hj':j<cs'.length:=by have:=g1.1;rw[qbn] at this;omega
  rw[g2 j hj,jac hj'];rfl
 ·obtain⟨cs',g1,g2⟩:=hcell i hi;have hj1:j<csz c:=by rw[qbn] at hj;exact hj
  have hj':j<cs'.length:=by have:=g1.1;rw[qbn] at this;omega
  have:=g1.2 j hj hj';rw[g2 j hj1,jac hj'];exact this⟩
theorem q8u{a b:TC}{f0 f1:Field}(hT:P.underlying T=some (.struct #[f0,f1]))(h0:RdT P a f0.type)(h1:RdT P b f1.type)(o0:f0.offset=0)(o1:f1.offset=csz a)(hs:P.cellsOf T=csz a+csz b)(hb:Nat.ble (bsz (.two a b)) (P.bytesOf T)=true):RdT P (.two a b) T:=⟨hs,jao hb,fun W cs h=>by
 obtain⟨hl,hf⟩:=TRW.fields hT h;obtain⟨x,hx⟩:=h0.rd W _ (hf 0 f0 rfl);obtain⟨y,hy⟩:=h1.rd W _ (hf 1 f1 rfl);refine⟨(x,y),?_⟩;rw[o0,jdy,h0.sz] at hx;rw[o1,h1.sz,jc7 (by rw[jfg];omega)] at hy;have:=VRs.append hx hy;rw[jeq] at this;exact this⟩
theorem qug{a b c:TC}{f0 f1 f2:Field}(hT:P.underlying T=some (.struct #[f0,f1,f2]))(h0:RdT P a f0.type)(h1:RdT P b f1.type)(h2:RdT P c f2.type)(o0:f0.offset=0)(o1:f1.offset=csz a)(o2:f2.offset=csz a+csz b)(hs:P.cellsOf T=csz a+(csz b+csz c))(hb:Nat.ble (bsz (.two a (.two b c))) (P.bytesOf T)=true):RdT P (.two a (.two b c)) T:=⟨hs,jao hb,fun W cs h=>by
 obtain⟨hl,hf⟩:=TRW.fields hT h;obtain⟨x,hx⟩:=h0.rd W _ (hf 0 f0 rfl);obtain⟨y,hy⟩:=h1.rd W _ (hf 1 f1 rfl);obtain⟨z,hz⟩:=h2.rd W _ (hf 2 f2 rfl);refine⟨(x,(y,z)),?_⟩;rw[o0,jdy,h0.sz] at hx;rw[o1,h1.sz] at hy;rw[o2,h2.sz,jc7 (by rw[jfg];omega),<- List.drop_drop] at hz;have h12:=VRs.append hy hz;rw[jeq] at h12;have:=VRs.append hx h12;rw[jeq] at this;exact this⟩
end
end Go.Jx
end

section
namespace Go.Jx
open Go Go.Sx Go.RowKit
theorem con_true{P:Program}{f:Nat}{pts:List TC}(h:Con P f ⟨pts,[(false,.bool)],fun _=>some (true,())⟩)(w:World)(hg:Gl [] w)(x:ElA pts)(us:List Value)(hv:VRs (EM [] w) (argV pts x) us) :
  Calls P f us.toArray w (Ret fun v w'=>v=.bool true/\Upd [] w w') :=
 (jdm.1 (h.calls [] w x us (true,()) rfl (fun b hb=>by cases hb) hg hv)).mono fun e w' hR=>by
  obtain⟨v,E',rfl,rfl,k1,k2,k3⟩:=hR;exact⟨by cases k1;rfl,k2.stp.os,k2.stp.tape,k2.stp.output,k2.stp.size,fun b hb _=>k2.stp.same b hb fun id _ hA _=>hA.elim⟩
theorem vr_list{c:TC}{E:Env}{a:Option Addr}{len cap:Nat}{x:El (.list c)}(h:VRs E (cel (.list c) x) (Value.slice a len cap).cells.toList):VR E (asIV (.list c) x) (.slice a len cap) :=
 h.2 0 (by simp[cel]) (by simp[Value.cells])
section
open Go.ChangeShapes
variable {H : Type} {enc : TypeId × Value -> H} {P : Program} {w : World} {base : Nat} {spare : Nat -> Bool} {held : Bool}
end
end Go.Jx
end

noncomputable section
set_option maxRecDepth 100000
namespace Go.Proofs.YtcnhjofpmpipfaaGreat
open Go Go.Sx Go.RowKit Go.Jx
abbrev qar:TC:=(.two .str (.two (.int .i64) (.int .i64)))
abbrev cRule:TC:=(.two .str (.two .str (.list qar)))
abbrev qpk:TC:=(.two (.list cRule) (.two .bool (.int .i64)))
abbrev cCol:TC:=(.two .str (.two (.int .i64) .str))
abbrev cForm:TC:=(.two .str (.list cCol))
abbrev qi3:TC:=(.two (.int .i64) (.int .i64))
abbrev qtz:TC:=(.two (.int .i64) (.int .i64))
noncomputable def ti1:TI:=⟨1,8,(.func #[] #[] false),(.nilFunc)⟩
noncomputable def ti2:TI:=⟨1,8,(.int .i64),(.int .i64 0)⟩
noncomputable def ti3:TI:=⟨1,8,(.int .i64),(.int .i64 0)⟩
noncomputable def ti4:TI:=⟨1,1,(.bool),(.bool false)⟩
noncomputable def ti5:TI:=⟨1,1,(.int .u8),(.int .u8 0)⟩
noncomputable def ti6:TI:=⟨1,1,(.int .u8),(.int .u8 0)⟩
noncomputable def ti9:TI:=⟨1,16,(.string),(.string ⟨#[]⟩)⟩
noncomputable def ti21:TI:=⟨1,4,(.int .i32),(.int .i32 0)⟩
noncomputable def ti22:TI:=⟨1,24,(.slice 66),(.slice none 0 0)⟩
noncomputable def ti23:TI:=⟨1,24,(.slice 71),(.slice none 0 0)⟩
noncomputable def ti24:TI:=⟨1,24,(.slice 73),(.slice none 0 0)⟩
noncomputable def ti25:TI:=⟨1,24,(.slice 84),(.slice none 0 0)⟩
noncomputable def ti27:TI:=⟨2,48,(.struct #[⟨"Nodes", 24,0, false, "", "", 0⟩, ⟨"Roots", 25,1, false, "", "", 24⟩]),(.agg #[.slice none 0 0,.slice none 0 0])⟩
noncomputable def ti33:TI:=⟨2,24,(.struct #[⟨"Node", 3,0, false, "", "", 0⟩, ⟨"Col", 9,1, false, "", "", 8⟩]),(.agg #[.int .i64 0,.string ⟨#[]⟩])⟩
noncomputable def ti34:TI:=⟨1,8,(.int .i64),(.int .i64 0)⟩
noncomputable def ti37:TI:=⟨5,80,(.struct #[⟨"G", 27,0, false, "", "", 0⟩, ⟨"R", 33,2, false, "", "", 48⟩, ⟨"E", 34,4, false, "", "", 72⟩]),(.agg #[.slice none 0 0,.slice none 0 0,.int .i64 0,.string ⟨#[]⟩,.int .i64 0])⟩
noncomputable def ti38:TI:=⟨5,80,(.struct #[⟨"G", 27,0, false, "", "", 0⟩, ⟨"R", 33,2, false, "", "", 48⟩, ⟨"E", 34,4, false, "", "", 72⟩]),(.agg #[.slice none 0 0,.slice none 0 0,.int .i64 0,.string ⟨#[]⟩,.int .i64 0])⟩
noncomputable def ti45:TI:=⟨3,40,(.struct #[⟨"L", 23,0, false, "", "", 0⟩, ⟨"Is", 4,1, false, "", "", 24⟩, ⟨"E", 34,2, false, "", "", 32⟩]),(.agg #[.slice none 0 0,.bool false,.int .i64 0])⟩
noncomputable def ti56:TI:=⟨1,24,(.slice 5),(.slice none 0 0)⟩
noncomputable def ti61:TI:=⟨4,64,(.struct #[⟨"G", 27,0, false, "", "", 0⟩, ⟨"At", 3,2, false, "", "", 48⟩, ⟨"E", 34,3, false, "", "", 56⟩]),(.agg #[.slice none 0 0,.slice none 0 0,.int .i64 0,.int .i64 0])⟩
noncomputable def ti64:TI:=⟨1,24,(.slice 68),(.slice none 0 0)⟩
noncomputable def ti66:TI:=⟨2,40,(.struct #[⟨"Name", 9,0, false, "", "", 0⟩, ⟨"Cols", 64,1, false, "", "", 16⟩]),(.agg #[.string ⟨#[]⟩,.slice none 0 0])⟩
noncomputable def ti68:TI:=⟨3,40,(.struct #[⟨"Name", 9,0, false, "", "", 0⟩, ⟨"Kind", 3,1, false, "", "", 16⟩, ⟨"Class", 9,2, false, "", "", 24⟩]),(.agg #[.string ⟨#[]⟩,.int .i64 0,.string ⟨#[]⟩])⟩
noncomputable def ti69:TI:=⟨1,24,(.slice 82),(.slice none 0 0)⟩
noncomputable def ti71:TI:=⟨3,56,(.struct #[⟨"Class", 9,0, false, "", "", 0⟩, ⟨"To", 9,1, false, "", "", 16⟩, ⟨"Gives", 69,2, false, "", "", 32⟩]),(.agg #[.string ⟨#[]⟩,.string ⟨#[]⟩,.slice none 0 0])⟩
noncomputable def ti73:TI:=⟨2,40,(.struct #[⟨"Class", 9,0, false, "", "", 0⟩, ⟨"Vals", 25,1, false, "", "", 16⟩]),(.agg #[.string ⟨#[]⟩,.slice none 0 0])⟩
noncomputable def ti74:TI:=⟨1,24,(.slice 3),(.slice none 0 0)⟩
noncomputable def ti82:TI:=⟨3,32,(.struct #[⟨"From", 9,0, false, "", "", 0⟩, ⟨"How", 3,1, false, "", "", 16⟩, ⟨"N", 3,2, false, "", "", 24⟩]),(.agg #[.string ⟨#[]⟩,.int .i64 0,.int .i64 0])⟩
noncomputable def ti84:TI:=⟨2,16,(.struct #[⟨"Kind", 3,0, false, "", "", 0⟩, ⟨"N", 3,1, false, "", "", 8⟩]),(.agg #[.int .i64 0,.int .i64 0])⟩
noncomputable def ti96:TI:=⟨3,24,(.struct #[⟨"V", 84,0, false, "", "", 0⟩, ⟨"Is", 4,2, false, "", "", 16⟩]),(.agg #[.int .i64 0,.int .i64 0,.bool false])⟩
noncomputable def qkd:TI:=⟨1,8,(.func #[3] #[4] false),(.nilFunc)⟩
noncomputable def ql9:TI:=⟨4,40,(.struct #[⟨"G", 82,0, false, "", "", 0⟩, ⟨"Is", 4,3, false, "", "", 32⟩]),(.agg #[.string ⟨#[]⟩,.int .i64 0,.int .i64 0,.bool false])⟩
noncomputable def qkq:TI:=⟨1,8,(.func #[71] #[9] false),(.nilFunc)⟩
noncomputable def qj3:TI:=⟨3,24,(.struct #[⟨"N", 3,0, false, "", "", 0⟩, ⟨"To", 3,1, false, "", "", 8⟩, ⟨"Is", 4,2, false, "", "", 16⟩]),(.agg #[.int .i64 0,.int .i64 0,.bool false])⟩
noncomputable def qit:TI:=⟨4,80,(.struct #[⟨"G", 27,0, false, "", "", 0⟩, ⟨"At", 74,2, false, "", "", 48⟩, ⟨"E", 34,3, false, "", "", 72⟩]),(.agg #[.slice none 0 0,.slice none 0 0,.slice none 0 0,.int .i64 0])⟩
noncomputable def qlr:TI:=⟨1,24,(.slice 34),(.slice none 0 0)⟩
noncomputable def qk7:TI:=⟨1,8,(.func #[73] #[4] false),(.nilFunc)⟩
noncomputable def qlx:TI:=⟨1,8,(.func #[66] #[9] false),(.nilFunc)⟩
noncomputable def qj5:TI:=⟨1,8,(.map 9 4),(.map none)⟩
noncomputable def qi6:TI:=⟨1,8,(.func #[71] #[4] false),(.nilFunc)⟩
noncomputable def qjb:TI:=⟨1,8,(.int .u64),(.int .u64 0)⟩
noncomputable def qkg:TI:=⟨1,8,(.struct #[⟨"at", 3,0, false, "", "cosigner/pack", 0⟩]),(.agg #[.int .i64 0])⟩
noncomputable def qlz:TI:=⟨1,8,(.map 3 3),(.map none)⟩
noncomputable def ql7:TI:=⟨1,8,(.func #[103] #[] false),(.nilFunc)⟩
noncomputable def ql2:TI:=⟨1,8,(.func #[73,73] #[4] false),(.nilFunc)⟩
noncomputable def qla:TI:=⟨1,8,(.func #[84] #[4] false),(.nilFunc)⟩
noncomputable def qi1:TI:=⟨1,8,(.int .u64),(.int .u64 0)⟩
noncomputable def qjo:TI:=⟨1,8,(.func #[66] #[4] false),(.nilFunc)⟩
noncomputable def qk4:TI:=⟨1,8,(.func #[68] #[9] false),(.nilFunc)⟩
noncomputable def qkl:TI:=⟨1,24,(.slice 9),(.slice none 0 0)⟩
noncomputable def qiz:TI:=⟨2,16,(.struct #[⟨"K", 3,0, false, "", "", 0⟩, ⟨"E", 34,1, false, "", "", 8⟩]),(.agg #[.int .i64 0,.int .i64 0])⟩
noncomputable def qlp:TI:=⟨1,8,(.func #[4] #[] false),(.nilFunc)⟩
noncomputable def qjm:TI:=⟨1,8,(.func #[3,3] #[3] false),(.nilFunc)⟩
noncomputable def qis:TI:=⟨1,8,(.func #[68] #[4] false),(.nilFunc)⟩
noncomputable def qlw:TI:=⟨1,8,(.func #[21] #[4] false),(.nilFunc)⟩
noncomputable def qle:TI:=⟨2,16,(.struct #[⟨"N", 3,0, false, "", "", 0⟩, ⟨"E", 34,1, false, "", "", 8⟩]),(.agg #[.int .i64 0,.int .i64 0])⟩
theorem ty1:Ty Tryz.prog 1 ti1.und ti1.sz ti1.bytes ti1.zero:=Ty.mk' (by kernel_rfl) (by kernel_rfl)
theorem ty2:Ty Tryz.prog 2 ti2.und ti2.sz ti2.bytes ti2.zero:=Ty.mk' (by kernel_rfl) (by kernel_rfl)
theorem ty3:Ty Tryz.prog 3 ti3.und ti3.sz ti3.bytes ti3.zero:=Ty.mk' (by kernel_rfl) (by kernel_rfl)
theorem ty4:Ty Tryz.prog 4 ti4.und ti4.sz ti4.bytes ti4.zero:=Ty.mk' (by kernel_rfl) (by kernel_rfl)
theorem ty5:Ty Tryz.prog 5 ti5.und ti5.sz ti5.bytes ti5.zero:=Ty.mk' (by kernel_rfl) (by kernel_rfl)
theorem ty6:Ty Tryz.prog 6 ti6.und ti6.sz ti6.bytes ti6.zero:=Ty.mk' (by kernel_rfl) (by kernel_rfl)
theorem ty9:Ty Tryz.prog 9 ti9.und ti9.sz ti9.bytes ti9.zero:=Ty.mk' (by kernel_rfl) (by kernel_rfl)
theorem ty21:Ty Tryz.prog 21 ti21.und ti21.sz ti21.bytes ti21.zero:=Ty.mk' (by kernel_rfl) (by kernel_rfl)
theorem ty22:Ty Tryz.prog 22 ti22.und ti22.sz ti22.bytes ti22.zero:=Ty.mk' (by kernel_rfl) (by kernel_rfl)
theorem ty23:Ty Tryz.prog 23 ti23.und ti23.sz ti23.bytes ti23.zero:=Ty.mk' (by kernel_rfl) (by kernel_rfl)
theorem ty24:Ty Tryz.prog 24 ti24.und ti24.sz ti24.bytes ti24.zero:=Ty.mk' (by kernel_rfl) (by kernel_rfl)
theorem ty25:Ty Tryz.prog 25 ti25.und ti25.sz ti25.bytes ti25.zero:=Ty.mk' (by kernel_rfl) (by kernel_rfl)
theorem ty27:Ty Tryz.prog 27 ti27.und ti27.sz ti27.bytes ti27.zero:=Ty.mk' (by kernel_rfl) (by kernel_rfl)
theorem ty33:Ty Tryz.prog 33 ti33.und ti33.sz ti33.bytes ti33.zero:=Ty.mk' (by kernel_rfl) (by kernel_rfl)
theorem ty34:Ty Tryz.prog 34 ti34.und ti34.sz ti34.bytes ti34.zero:=Ty.mk' (by kernel_rfl) (by kernel_rfl)
theorem ty37:Ty Tryz.prog 37 ti37.und ti37.sz ti37.bytes ti37.zero:=Ty.mk' (by kernel_rfl) (by kernel_rfl)
theorem ty38:Ty Tryz.prog 38 ti38.und ti38.sz ti38.bytes ti38.zero:=Ty.mk' (by kernel_rfl) (by kernel_rfl)
theorem ty45:Ty Tryz.prog 45 ti45.und ti45.sz ti45.bytes ti45.zero:=Ty.mk' (by kernel_rfl) (by kernel_rfl)
theorem ty56:Ty Tryz.prog 56 ti56.und ti56.sz ti56.bytes ti56.zero:=Ty.mk' (by kernel_rfl) (by kernel_rfl)
theorem ty61:Ty Tryz.prog 61 ti61.und ti61.sz ti61.bytes ti61.zero:=Ty.mk' (by kernel_rfl) (by kernel_rfl)
theorem ty64:Ty Tryz.prog 64 ti64.und ti64.sz ti64.bytes ti64.zero:=Ty.mk' (by kernel_rfl) (by kernel_rfl)
theorem ty66:Ty Tryz.prog 66 ti66.und ti66.sz ti66.bytes ti66.zero:=Ty.mk' (by kernel_rfl) (by kernel_rfl)
theorem ty68:Ty Tryz.prog 68 ti68.und ti68.sz ti68.bytes ti68.zero:=Ty.mk' (by kernel_rfl) (by kernel_rfl)
theorem ty69:Ty Tryz.prog 69 ti69.und ti69.sz ti69.bytes ti69.zero:=Ty.mk' (by kernel_rfl) (by kernel_rfl)
theorem ty71:Ty Tryz.prog 71 ti71.und ti71.sz ti71.bytes ti71.zero:=Ty.mk' (by kernel_rfl) (by kernel_rfl)
theorem ty73:Ty Tryz.prog 73 ti73.und ti73.sz ti73.bytes ti73.zero:=Ty.mk' (by kernel_rfl) (by kernel_rfl)
theorem ty74:Ty Tryz.prog 74 ti74.und ti74.sz ti74.bytes ti74.zero:=Ty.mk' (by kernel_rfl) (by kernel_rfl)
theorem ty82:Ty Tryz.prog 82 ti82.und ti82.sz ti82.bytes ti82.zero:=Ty.mk' (by kernel_rfl) (by kernel_rfl)
theorem ty84:Ty Tryz.prog 84 ti84.und ti84.sz ti84.bytes ti84.zero:=Ty.mk' (by kernel_rfl) (by kernel_rfl)
theorem ty96:Ty Tryz.prog 96 ti96.und ti96.sz ti96.bytes ti96.zero:=Ty.mk' (by kernel_rfl) (by kernel_rfl)
theorem zb5:Ty Tryz.prog 103 qkd.und qkd.sz qkd.bytes qkd.zero:=Ty.mk' (by kernel_rfl) (by kernel_rfl)
theorem zet:Ty Tryz.prog 105 ql9.und ql9.sz ql9.bytes ql9.zero:=Ty.mk' (by kernel_rfl) (by kernel_rfl)
theorem zl0:Ty Tryz.prog 111 qkq.und qkq.sz qkq.bytes qkq.zero:=Ty.mk' (by kernel_rfl) (by kernel_rfl)
theorem q8k:Ty Tryz.prog 122 qj3.und qj3.sz qj3.bytes qj3.zero:=Ty.mk' (by kernel_rfl) (by kernel_rfl)
theorem zhn:Ty Tryz.prog 129 qit.und qit.sz qit.bytes qit.zero:=Ty.mk' (by kernel_rfl) (by kernel_rfl)
theorem q4s:Ty Tryz.prog 135 qlr.und qlr.sz qlr.bytes qlr.zero:=Ty.mk' (by kernel_rfl) (by kernel_rfl)
theorem zkf:Ty Tryz.prog 137 qk7.und qk7.sz qk7.bytes qk7.zero:=Ty.mk' (by kernel_rfl) (by kernel_rfl)
theorem zk3:Ty Tryz.prog 140 qlx.und qlx.sz qlx.bytes qlx.zero:=Ty.mk' (by kernel_rfl) (by kernel_rfl)
theorem zba:Ty Tryz.prog 145 qj5.und qj5.sz qj5.bytes qj5.zero:=Ty.mk' (by kernel_rfl) (by kernel_rfl)
theorem zmh:Ty Tryz.prog 152 qi6.und qi6.sz qi6.bytes qi6.zero:=Ty.mk' (by kernel_rfl) (by kernel_rfl)
theorem zqe:Ty Tryz.prog 154 qjb.und qjb.sz qjb.bytes qjb.zero:=Ty.mk' (by kernel_rfl) (by kernel_rfl)
theorem zis:Ty Tryz.prog 156 qkg.und qkg.sz qkg.bytes qkg.zero:=Ty.mk' (by kernel_rfl) (by kernel_rfl)
theorem zed:Ty Tryz.prog 160 qlz.und qlz.sz qlz.bytes qlz.zero:=Ty.mk' (by kernel_rfl) (by kernel_rfl)
theorem q89:Ty Tryz.prog 162 ql7.und ql7.sz ql7.bytes ql7.zero:=Ty.mk' (by kernel_rfl) (by kernel_rfl)
theorem q8b:Ty Tryz.prog 167 ql2.und ql2.sz ql2.bytes ql2.zero:=Ty.mk' (by kernel_rfl) (by kernel_rfl)
theorem zhs:Ty Tryz.prog 170 qla.und qla.sz qla.bytes qla.zero:=Ty.mk' (by kernel_rfl) (by kernel_rfl)
theorem zpq:Ty Tryz.prog 172 qi1.und qi1.sz qi1.bytes qi1.zero:=Ty.mk' (by kernel_rfl) (by kernel_rfl)
theorem q9u:Ty Tryz.prog 175 qjo.und qjo.sz qjo.bytes qjo.zero:=Ty.mk' (by kernel_rfl) (by kernel_rfl)
theorem zh9:Ty Tryz.prog 177 qk4.und qk4.sz qk4.bytes qk4.zero:=Ty.mk' (by kernel_rfl) (by kernel_rfl)
theorem q96:Ty Tryz.prog 180 qkl.und qkl.sz qkl.bytes qkl.zero:=Ty.mk' (by kernel_rfl) (by kernel_rfl)
theorem zpc:Ty Tryz.prog 182 qiz.und qiz.sz qiz.bytes qiz.zero:=Ty.mk' (by kernel_rfl) (by kernel_rfl)
theorem zep:Ty Tryz.prog 185 qlp.und qlp.sz qlp.bytes qlp.zero:=Ty.mk' (by kernel_rfl) (by kernel_rfl)
theorem zhp:Ty Tryz.prog 186 qjm.und qjm.sz qjm.bytes qjm.zero:=Ty.mk' (by kernel_rfl) (by kernel_rfl)
theorem zid:Ty Tryz.prog 189 qis.und qis.sz qis.bytes qis.zero:=Ty.mk' (by kernel_rfl) (by kernel_rfl)
theorem zen:Ty Tryz.prog 191 qlw.und qlw.sz qlw.bytes qlw.zero:=Ty.mk' (by kernel_rfl) (by kernel_rfl)
theorem zjt:Ty Tryz.prog 197 qle.und qle.sz qle.bytes qle.zero:=Ty.mk' (by kernel_rfl) (by kernel_rfl)
def fbO(f:Func):Code:=match f.body with|some c=>c|none=>.skip
noncomputable def ttT:PT TI:=(.node none (.node (some ti1) (.node (some ti3) (.node none (.node none (.node none (.node none .leaf (.node (some qlw) .leaf .leaf)) .leaf) (.node none .leaf (.node (some qkq) (.node (some qjo) .leaf .leaf) .leaf))) (.node (some ti23) (.node none (.node (some ti71) (.node (some qlr) .leaf .leaf) .leaf) (.node (some qkd) (.node (some ql2) .leaf .leaf) .leaf)) .leaf)) (.node none .leaf (.node (some ti27) .leaf .leaf))) (.node (some ti5) (.node (some ti9) (.node none (.node (some ti33) (.node none (.node (some qit) .leaf .leaf) .leaf) .leaf) (.node none (.node none (.node (some qj5) .leaf .leaf) .leaf) (.node none (.node (some qk4) .leaf .leaf) .leaf))) (.node (some ti25) (.node none (.node (some ti73) (.node (some qk7) .leaf .leaf) .leaf) (.node (some ql9) .leaf .leaf)) (.node none .leaf (.node none (.node (some qlp) .leaf .leaf) .leaf)))) (.node none (.node (some ti21) (.node (some ti37) (.node (some ti69) .leaf (.node (some qle) .leaf .leaf)) .leaf) .leaf) (.node none (.node (some ti45) .leaf .leaf) (.node (some ti61) .leaf (.node none (.node (some qis) .leaf .leaf) .leaf)))))) (.node (some ti2) (.node (some ti4) (.node none (.node none (.node none (.node (some ti64) .leaf .leaf) (.node (some ti96) (.node (some qlz) .leaf .leaf) .leaf)) .leaf) (.node (some ti24) .leaf (.node (some ti56) (.node none (.node (some qi6) .leaf .leaf) .leaf) .leaf))) (.node none (.node none (.node none (.node (some ti68) .leaf .leaf) .leaf) (.node none (.node (some ti84) .leaf .leaf) (.node none (.node (some qkl) .leaf .leaf) .leaf))) (.node none (.node none (.node none (.node (some qlx) .leaf .leaf) .leaf) (.node none (.node (some qi1) .leaf .leaf) .leaf)) (.node none (.node none (.node (some qkg) .leaf .leaf) .leaf) .leaf)))) (.node (some ti6) (.node none (.node none (.node (some ti34) (.node (some ti66) .leaf .leaf) (.node none (.node (some ql7) .leaf .leaf) .leaf)) (.node none (.node (some ti82) .leaf .leaf) .leaf)) (.node none (.node none (.node (some ti74) .leaf .leaf) (.node none (.node (some qla) .leaf .leaf) .leaf)) (.node none (.node none (.node (some qjb) .leaf .leaf) .leaf) (.node (some qj3) (.node (some qjm) .leaf .leaf) .leaf)))) (.node none (.node (some ti22) (.node (some ti38) .leaf .leaf) (.node none .leaf (.node none (.node (some qiz) .leaf .leaf) .leaf))) .leaf))))
theorem ttFa:ttT.Fa (fun T ti=>Ty Tryz.prog T ti.und ti.sz ti.bytes ti.zero):=⟨trivial,⟨ty1,⟨ty3,⟨trivial,⟨trivial,⟨trivial,⟨trivial,trivial,⟨zen,trivial,trivial⟩⟩,trivial⟩,⟨trivial,trivial,⟨zl0,⟨q9u,trivial,trivial⟩,trivial⟩⟩⟩,⟨ty23,⟨trivial,⟨ty71,⟨q4s,trivial,trivial⟩,trivial⟩,⟨zb5,⟨q8b,trivial,trivial⟩,trivial⟩⟩,trivial⟩⟩,⟨trivial,trivial,⟨ty27,trivial,trivial⟩⟩⟩,⟨ty5,⟨ty9,⟨trivial,⟨ty33,⟨trivial,⟨zhn,trivial,trivial⟩,trivial⟩,trivial⟩,⟨trivial,⟨trivial,⟨zba,trivial,trivial⟩,trivial⟩,⟨trivial,⟨zh9,trivial,trivial⟩,trivial⟩⟩⟩,⟨ty25,⟨trivial,⟨ty73,⟨zkf,trivial,trivial⟩,trivial⟩,⟨zet,trivial,trivial⟩⟩,⟨trivial,trivial,⟨trivial,⟨zep,trivial,trivial⟩,trivial⟩⟩⟩⟩,⟨trivial,⟨ty21,⟨ty37,⟨ty69,trivial,⟨zjt,trivial,trivial⟩⟩,trivial⟩,trivial⟩,⟨trivial,⟨ty45,trivial,trivial⟩,⟨ty61,trivial,⟨trivial,⟨zid,trivial,trivial⟩,trivial⟩⟩⟩⟩⟩⟩,⟨ty2,⟨ty4,⟨trivial,⟨trivial,⟨trivial,⟨ty64,trivial,trivial⟩,⟨ty96,⟨zed,trivial,trivial⟩,trivial⟩⟩,trivial⟩,⟨ty24,trivial,⟨ty56,⟨trivial,⟨zmh,trivial,trivial⟩,trivial⟩,trivial⟩⟩⟩,⟨trivial,⟨trivial,⟨trivial,⟨ty68,trivial,trivial⟩,trivial⟩,⟨trivial,⟨ty84,trivial,trivial⟩,⟨trivial,⟨q96,trivial,trivial⟩,trivial⟩⟩⟩,⟨trivial,⟨trivial,⟨trivial,⟨zk3,trivial,trivial⟩,trivial⟩,⟨trivial,⟨zpq,trivial,trivial⟩,trivial⟩⟩,⟨trivial,⟨trivial,⟨zis,trivial,trivial⟩,trivial⟩,trivial⟩⟩⟩⟩,⟨ty6,⟨trivial,⟨trivial,⟨ty34,⟨ty66,trivial,trivial⟩,⟨trivial,⟨q89,trivial,trivial⟩,trivial⟩⟩,⟨trivial,⟨ty82,trivial,trivial⟩,trivial⟩⟩,⟨trivial,⟨trivial,⟨ty74,trivial,trivial⟩,⟨trivial,⟨zhs,trivial,trivial⟩,trivial⟩⟩,⟨trivial,⟨trivial,⟨zqe,trivial,trivial⟩,trivial⟩,⟨q8k,⟨zhp,trivial,trivial⟩,trivial⟩⟩⟩⟩,⟨trivial,⟨ty22,⟨ty38,trivial,trivial⟩,⟨trivial,trivial,⟨trivial,⟨zpc,trivial,trivial⟩,trivial⟩⟩⟩,trivial⟩⟩⟩⟩
theorem ttOK:TT Tryz.prog ttT.get:=fun T ti h=>PT.fa ttFa T ti h
noncomputable def fb3:Code:=fbO Tryz.f3
noncomputable def fi3:FI:=⟨67,[ResultVar.tmp 8],fb3⟩
theorem fo3:FIok Tryz.prog 3 fi3:=⟨_,Tryz.func3,by kernel_rfl,Tryz.ntmps3,Tryz.results3,by kernel_rfl,by kernel_rfl⟩
noncomputable def fb4:Code:=fbO Tryz.f4
noncomputable def fi4:FI:=⟨68,[ResultVar.tmp 10],fb4⟩
theorem fo4:FIok Tryz.prog 4 fi4:=⟨_,Tryz.func4,by kernel_rfl,Tryz.ntmps4,Tryz.results4,by kernel_rfl,by kernel_rfl⟩
noncomputable def fb5:Code:=fbO Tryz.f5
noncomputable def fi5:FI:=⟨95,[ResultVar.tmp 6],fb5⟩
theorem fo5:FIok Tryz.prog 5 fi5:=⟨_,Tryz.func5,by kernel_rfl,Tryz.ntmps5,Tryz.results5,by kernel_rfl,by kernel_rfl⟩
theorem cal5:qai Tryz.prog 5:=⟨_,Tryz.func5,by kernel_rfl,by kernel_rfl⟩
noncomputable def fb6:Code:=fbO Tryz.f6
noncomputable def fi6:FI:=⟨69,[ResultVar.tmp 4],fb6⟩
theorem fo6:FIok Tryz.prog 6 fi6:=⟨_,Tryz.func6,by kernel_rfl,Tryz.ntmps6,Tryz.results6,by kernel_rfl,by kernel_rfl⟩
noncomputable def fb7:Code:=fbO Tryz.f7
noncomputable def fi7:FI:=⟨79,[ResultVar.tmp 2],fb7⟩
theorem fo7:FIok Tryz.prog 7 fi7:=⟨_,Tryz.func7,by kernel_rfl,Tryz.ntmps7,Tryz.results7,by kernel_rfl,by kernel_rfl⟩
theorem cal7:qai Tryz.prog 7:=⟨_,Tryz.func7,by kernel_rfl,by kernel_rfl⟩
noncomputable def fb8:Code:=fbO Tryz.f8
noncomputable def fi8:FI:=⟨30,[ResultVar.tmp 2],fb8⟩
theorem fo8:FIok Tryz.prog 8 fi8:=⟨_,Tryz.func8,by kernel_rfl,Tryz.ntmps8,Tryz.results8,by kernel_rfl,by kernel_rfl⟩
theorem cal8:qai Tryz.prog 8:=⟨_,Tryz.func8,by kernel_rfl,by kernel_rfl⟩
noncomputable def fb9:Code:=fbO Tryz.f9
noncomputable def fi9:FI:=⟨57,[ResultVar.tmp 2],fb9⟩
theorem fo9:FIok Tryz.prog 9 fi9:=⟨_,Tryz.func9,by kernel_rfl,Tryz.ntmps9,Tryz.results9,by kernel_rfl,by kernel_rfl⟩
noncomputable def fb10:Code:=fbO Tryz.f10
noncomputable def fi10:FI:=⟨176,[ResultVar.tmp 0],fb10⟩
theorem fo10:FIok Tryz.prog 10 fi10:=⟨_,Tryz.func10,by kernel_rfl,Tryz.ntmps10,Tryz.results10,by kernel_rfl,by kernel_rfl⟩
theorem znj:qai Tryz.prog 10:=⟨_,Tryz.func10,by kernel_rfl,by kernel_rfl⟩
noncomputable def fb11:Code:=fbO Tryz.f11
noncomputable def fi11:FI:=⟨123,[ResultVar.cell 8 27,ResultVar.cell 9 33,ResultVar.tmp 10],fb11⟩
theorem fo11:FIok Tryz.prog 11 fi11:=⟨_,Tryz.func11,by kernel_rfl,Tryz.ntmps11,Tryz.results11,by kernel_rfl,by kernel_rfl⟩
noncomputable def fb12:Code:=fbO Tryz.f12
noncomputable def fi12:FI:=⟨131,[ResultVar.cell 8 38],fb12⟩
theorem fo12:FIok Tryz.prog 12 fi12:=⟨_,Tryz.func12,by kernel_rfl,Tryz.ntmps12,Tryz.results12,by kernel_rfl,by kernel_rfl⟩
noncomputable def fb13:Code:=fbO Tryz.f13
noncomputable def fi13:FI:=⟨61,[ResultVar.tmp 4],fb13⟩
theorem fo13:FIok Tryz.prog 13 fi13:=⟨_,Tryz.func13,by kernel_rfl,Tryz.ntmps13,Tryz.results13,by kernel_rfl,by kernel_rfl⟩
noncomputable def fb14:Code:=fbO Tryz.f14
noncomputable def fi14:FI:=⟨89,[ResultVar.tmp 10,ResultVar.tmp 11],fb14⟩
theorem fo14:FIok Tryz.prog 14 fi14:=⟨_,Tryz.func14,by kernel_rfl,Tryz.ntmps14,Tryz.results14,by kernel_rfl,by kernel_rfl⟩
noncomputable def fb15:Code:=fbO Tryz.f15
noncomputable def fi15:FI:=⟨161,[ResultVar.cell 10 45],fb15⟩
theorem fo15:FIok Tryz.prog 15 fi15:=⟨_,Tryz.func15,by kernel_rfl,Tryz.ntmps15,Tryz.results15,by kernel_rfl,by kernel_rfl⟩
noncomputable def fb16:Code:=fbO Tryz.f16
noncomputable def fi16:FI:=⟨84,[ResultVar.tmp 4],fb16⟩
theorem fo16:FIok Tryz.prog 16 fi16:=⟨_,Tryz.func16,by kernel_rfl,Tryz.ntmps16,Tryz.results16,by kernel_rfl,by kernel_rfl⟩
theorem zlf:qai Tryz.prog 16:=⟨_,Tryz.func16,by kernel_rfl,by kernel_rfl⟩
noncomputable def fb17:Code:=fbO Tryz.f17
noncomputable def fi17:FI:=⟨93,[ResultVar.tmp 4,ResultVar.tmp 5],fb17⟩
theorem fo17:FIok Tryz.prog 17 fi17:=⟨_,Tryz.func17,by kernel_rfl,Tryz.ntmps17,Tryz.results17,by kernel_rfl,by kernel_rfl⟩
noncomputable def fb18:Code:=fbO Tryz.f18
noncomputable def fi18:FI:=⟨122,[ResultVar.cell 4 45],fb18⟩
theorem fo18:FIok Tryz.prog 18 fi18:=⟨_,Tryz.func18,by kernel_rfl,Tryz.ntmps18,Tryz.results18,by kernel_rfl,by kernel_rfl⟩
noncomputable def fb19:Code:=fbO Tryz.f19
noncomputable def fi19:FI:=⟨70,[ResultVar.tmp 6,ResultVar.tmp 7,ResultVar.tmp 8],fb19⟩
theorem fo19:FIok Tryz.prog 19 fi19:=⟨_,Tryz.func19,by kernel_rfl,Tryz.ntmps19,Tryz.results19,by kernel_rfl,by kernel_rfl⟩
theorem zkg:qai Tryz.prog 19:=⟨_,Tryz.func19,by kernel_rfl,by kernel_rfl⟩
noncomputable def fb20:Code:=fbO Tryz.f20
noncomputable def fi20:FI:=⟨188,[ResultVar.cell 6 45],fb20⟩
theorem fo20:FIok Tryz.prog 20 fi20:=⟨_,Tryz.func20,by kernel_rfl,Tryz.ntmps20,Tryz.results20,by kernel_rfl,by kernel_rfl⟩
theorem zaw:qai Tryz.prog 20:=⟨_,Tryz.func20,by kernel_rfl,by kernel_rfl⟩
noncomputable def fb21:Code:=fbO Tryz.f21
noncomputable def fi21:FI:=⟨21,[ResultVar.tmp 6],fb21⟩
theorem fo21:FIok Tryz.prog 21 fi21:=⟨_,Tryz.func21,by kernel_rfl,Tryz.ntmps21,Tryz.results21,by kernel_rfl,by kernel_rfl⟩
theorem zh1:qai Tryz.prog 21:=⟨_,Tryz.func21,by kernel_rfl,by kernel_rfl⟩
noncomputable def fb22:Code:=fbO Tryz.f22
noncomputable def fi22:FI:=⟨21,[ResultVar.tmp 6],fb22⟩
theorem fo22:FIok Tryz.prog 22 fi22:=⟨_,Tryz.func22,by kernel_rfl,Tryz.ntmps22,Tryz.results22,by kernel_rfl,by kernel_rfl⟩
theorem q8s:qai Tryz.prog 22:=⟨_,Tryz.func22,by kernel_rfl,by kernel_rfl⟩
noncomputable def fb23:Code:=fbO Tryz.f23
noncomputable def fi23:FI:=⟨25,[ResultVar.tmp 2],fb23⟩
theorem fo23:FIok Tryz.prog 23 fi23:=⟨_,Tryz.func23,by kernel_rfl,Tryz.ntmps23,Tryz.results23,by kernel_rfl,by kernel_rfl⟩
noncomputable def fb24:Code:=fbO Tryz.f24
noncomputable def fi24:FI:=⟨70,[ResultVar.cell 4 27,ResultVar.tmp 5,ResultVar.tmp 6],fb24⟩
theorem fo24:FIok Tryz.prog 24 fi24:=⟨_,Tryz.func24,by kernel_rfl,Tryz.ntmps24,Tryz.results24,by kernel_rfl,by kernel_rfl⟩
noncomputable def fb25:Code:=fbO Tryz.f25
noncomputable def fi25:FI:=⟨239,[ResultVar.cell 4 61],fb25⟩
theorem fo25:FIok Tryz.prog 25 fi25:=⟨_,Tryz.func25,by kernel_rfl,Tryz.ntmps25,Tryz.results25,by kernel_rfl,by kernel_rfl⟩
noncomputable def fb26:Code:=fbO Tryz.f26
noncomputable def fi26:FI:=⟨21,[ResultVar.cell 2 27,ResultVar.tmp 3,ResultVar.tmp 4],fb26⟩
theorem fo26:FIok Tryz.prog 26 fi26:=⟨_,Tryz.func26,by kernel_rfl,Tryz.ntmps26,Tryz.results26,by kernel_rfl,by kernel_rfl⟩
noncomputable def fb27:Code:=fbO Tryz.f27
noncomputable def fi27:FI:=⟨16,[ResultVar.cell 0 27],fb27⟩
theorem fo27:FIok Tryz.prog 27 fi27:=⟨_,Tryz.func27,by kernel_rfl,Tryz.ntmps27,Tryz.results27,by kernel_rfl,by kernel_rfl⟩
noncomputable def fb28:Code:=fbO Tryz.f28
noncomputable def fi28:FI:=⟨83,[ResultVar.tmp 4,ResultVar.tmp 5],fb28⟩
theorem fo28:FIok Tryz.prog 28 fi28:=⟨_,Tryz.func28,by kernel_rfl,Tryz.ntmps28,Tryz.results28,by kernel_rfl,by kernel_rfl⟩
noncomputable def fb29:Code:=fbO Tryz.f29
noncomputable def fi29:FI:=⟨9,[ResultVar.tmp 0],fb29⟩
theorem fo29:FIok Tryz.prog 29 fi29:=⟨_,Tryz.func29,by kernel_rfl,Tryz.ntmps29,Tryz.results29,by kernel_rfl,by kernel_rfl⟩
noncomputable def fb30:Code:=fbO Tryz.f30
noncomputable def fi30:FI:=⟨5,[ResultVar.cell 2 84],fb30⟩
theorem fo30:FIok Tryz.prog 30 fi30:=⟨_,Tryz.func30,by kernel_rfl,Tryz.ntmps30,Tryz.results30,by kernel_rfl,by kernel_rfl⟩
noncomputable def fb31:Code:=fbO Tryz.f31
noncomputable def fi31:FI:=⟨5,[ResultVar.cell 2 84],fb31⟩
theorem fo31:FIok Tryz.prog 31 fi31:=⟨_,Tryz.func31,by kernel_rfl,Tryz.ntmps31,Tryz.results31,by kernel_rfl,by kernel_rfl⟩
noncomputable def fb32:Code:=fbO Tryz.f32
noncomputable def fi32:FI:=⟨5,[ResultVar.cell 2 84],fb32⟩
theorem fo32:FIok Tryz.prog 32 fi32:=⟨_,Tryz.func32,by kernel_rfl,Tryz.ntmps32,Tryz.results32,by kernel_rfl,by kernel_rfl⟩
noncomputable def fb33:Code:=fbO Tryz.f33
noncomputable def fi33:FI:=⟨15,[ResultVar.tmp 2],fb33⟩
theorem fo33:FIok Tryz.prog 33 fi33:=⟨_,Tryz.func33,by kernel_rfl,Tryz.ntmps33,Tryz.results33,by kernel_rfl,by kernel_rfl⟩
theorem zdv:qai Tryz.prog 33:=⟨_,Tryz.func33,by kernel_rfl,by kernel_rfl⟩
noncomputable def fb34:Code:=fbO Tryz.f34
noncomputable def fi34:FI:=⟨19,[ResultVar.tmp 4],fb34⟩
theorem fo34:FIok Tryz.prog 34 fi34:=⟨_,Tryz.func34,by kernel_rfl,Tryz.ntmps34,Tryz.results34,by kernel_rfl,by kernel_rfl⟩
noncomputable def fb35:Code:=fbO Tryz.f35
noncomputable def fi35:FI:=⟨8,[ResultVar.tmp 2],fb35⟩
theorem fo35:FIok Tryz.prog 35 fi35:=⟨_,Tryz.func35,by kernel_rfl,Tryz.ntmps35,Tryz.results35,by kernel_rfl,by kernel_rfl⟩
noncomputable def fb36:Code:=fbO Tryz.f36
noncomputable def fi36:FI:=⟨17,[ResultVar.cell 4 71,ResultVar.tmp 5],fb36⟩
theorem fo36:FIok Tryz.prog 36 fi36:=⟨_,Tryz.func36,by kernel_rfl,Tryz.ntmps36,Tryz.results36,by kernel_rfl,by kernel_rfl⟩
theorem zag:qai Tryz.prog 36:=⟨_,Tryz.func36,by kernel_rfl,by kernel_rfl⟩
noncomputable def fb37:Code:=fbO Tryz.f37
noncomputable def fi37:FI:=⟨8,[ResultVar.tmp 4],fb37⟩
theorem fo37:FIok Tryz.prog 37 fi37:=⟨_,Tryz.func37,by kernel_rfl,Tryz.ntmps37,Tryz.results37,by kernel_rfl,by kernel_rfl⟩
theorem zpp:qai Tryz.prog 37:=⟨_,Tryz.func37,by kernel_rfl,by kernel_rfl⟩
noncomputable def fb38:Code:=fbO Tryz.f38
noncomputable def fi38:FI:=⟨64,[ResultVar.cell 8 84,ResultVar.tmp 9],fb38⟩
theorem fo38:FIok Tryz.prog 38 fi38:=⟨_,Tryz.func38,by kernel_rfl,Tryz.ntmps38,Tryz.results38,by kernel_rfl,by kernel_rfl⟩
noncomputable def fb39:Code:=fbO Tryz.f39
noncomputable def fi39:FI:=⟨91,[ResultVar.tmp 4],fb39⟩
theorem fo39:FIok Tryz.prog 39 fi39:=⟨_,Tryz.func39,by kernel_rfl,Tryz.ntmps39,Tryz.results39,by kernel_rfl,by kernel_rfl⟩
noncomputable def fb40:Code:=fbO Tryz.f40
noncomputable def fi40:FI:=⟨20,[ResultVar.tmp 4],fb40⟩
theorem fo40:FIok Tryz.prog 40 fi40:=⟨_,Tryz.func40,by kernel_rfl,Tryz.ntmps40,Tryz.results40,by kernel_rfl,by kernel_rfl⟩
theorem zk9:qai Tryz.prog 40:=⟨_,Tryz.func40,by kernel_rfl,by kernel_rfl⟩
noncomputable def fb41:Code:=fbO Tryz.f41
noncomputable def fi41:FI:=⟨20,[ResultVar.tmp 4],fb41⟩
theorem fo41:FIok Tryz.prog 41 fi41:=⟨_,Tryz.func41,by kernel_rfl,Tryz.ntmps41,Tryz.results41,by kernel_rfl,by kernel_rfl⟩
theorem zi1:qai Tryz.prog 41:=⟨_,Tryz.func41,by kernel_rfl,by kernel_rfl⟩
noncomputable def fb42:Code:=fbO Tryz.f42
noncomputable def fi42:FI:=⟨74,[ResultVar.cell 8 96],fb42⟩
theorem fo42:FIok Tryz.prog 42 fi42:=⟨_,Tryz.func42,by kernel_rfl,Tryz.ntmps42,Tryz.results42,by kernel_rfl,by kernel_rfl⟩
noncomputable def fb43:Code:=fbO Tryz.f43
noncomputable def fi43:FI:=⟨26,[ResultVar.tmp 4],fb43⟩
theorem fo43:FIok Tryz.prog 43 fi43:=⟨_,Tryz.func43,by kernel_rfl,Tryz.ntmps43,Tryz.results43,by kernel_rfl,by kernel_rfl⟩
noncomputable def fb44:Code:=fbO Tryz.f44
noncomputable def fi44:FI:=⟨71,[ResultVar.tmp 2],fb44⟩
theorem fo44:FIok Tryz.prog 44 fi44:=⟨_,Tryz.func44,by kernel_rfl,Tryz.ntmps44,Tryz.results44,by kernel_rfl,by kernel_rfl⟩
theorem zmp:qai Tryz.prog 44:=⟨_,Tryz.func44,by kernel_rfl,by kernel_rfl⟩
noncomputable def fb45:Code:=fbO Tryz.f45
noncomputable def fi45:FI:=⟨120,[ResultVar.tmp 6],fb45⟩
theorem fo45:FIok Tryz.prog 45 fi45:=⟨_,Tryz.func45,by kernel_rfl,Tryz.ntmps45,Tryz.results45,by kernel_rfl,by kernel_rfl⟩
theorem zcs:qai Tryz.prog 45:=⟨_,Tryz.func45,by kernel_rfl,by kernel_rfl⟩
noncomputable def fb46:Code:=fbO Tryz.f46
noncomputable def fi46:FI:=⟨103,[ResultVar.cell 6 71,ResultVar.tmp 7],fb46⟩
theorem fo46:FIok Tryz.prog 46 fi46:=⟨_,Tryz.func46,by kernel_rfl,Tryz.ntmps46,Tryz.results46,by kernel_rfl,by kernel_rfl⟩
noncomputable def fb47:Code:=fbO Tryz.f47
noncomputable def fi47:FI:=⟨129,[ResultVar.tmp 2],fb47⟩
theorem fo47:FIok Tryz.prog 47 fi47:=⟨_,Tryz.func47,by kernel_rfl,Tryz.ntmps47,Tryz.results47,by kernel_rfl,by kernel_rfl⟩
theorem zo7:qai Tryz.prog 47:=⟨_,Tryz.func47,by kernel_rfl,by kernel_rfl⟩
noncomputable def fb48:Code:=fbO Tryz.f48
noncomputable def fi48:FI:=⟨126,[ResultVar.tmp 6],fb48⟩
theorem fo48:FIok Tryz.prog 48 fi48:=⟨_,Tryz.func48,by kernel_rfl,Tryz.ntmps48,Tryz.results48,by kernel_rfl,by kernel_rfl⟩
theorem zax:qai Tryz.prog 48:=⟨_,Tryz.func48,by kernel_rfl,by kernel_rfl⟩
noncomputable def fb49:Code:=fbO Tryz.f49
noncomputable def fi49:FI:=⟨16,[ResultVar.tmp 2],fb49⟩
theorem fo49:FIok Tryz.prog 49 fi49:=⟨_,Tryz.func49,by kernel_rfl,Tryz.ntmps49,Tryz.results49,by kernel_rfl,by kernel_rfl⟩
noncomputable def fb50:Code:=fbO Tryz.f50
noncomputable def fi50:FI:=⟨27,[ResultVar.tmp 4],fb50⟩
theorem fo50:FIok Tryz.prog 50 fi50:=⟨_,Tryz.func50,by kernel_rfl,Tryz.ntmps50,Tryz.results50,by kernel_rfl,by kernel_rfl⟩
noncomputable def fb51:Code:=fbO Tryz.f51
noncomputable def fi51:FI:=⟨5,[ResultVar.tmp 2],fb51⟩
theorem fo51:FIok Tryz.prog 51 fi51:=⟨_,Tryz.func51,by kernel_rfl,Tryz.ntmps51,Tryz.results51,by kernel_rfl,by kernel_rfl⟩
noncomputable def fb52:Code:=fbO Tryz.f52
noncomputable def fi52:FI:=⟨88,[ResultVar.cell 4 105],fb52⟩
theorem fo52:FIok Tryz.prog 52 fi52:=⟨_,Tryz.func52,by kernel_rfl,Tryz.ntmps52,Tryz.results52,by kernel_rfl,by kernel_rfl⟩
noncomputable def fb53:Code:=fbO Tryz.f53
noncomputable def fi53:FI:=⟨22,[ResultVar.tmp 4],fb53⟩
theorem fo53:FIok Tryz.prog 53 fi53:=⟨_,Tryz.func53,by kernel_rfl,Tryz.ntmps53,Tryz.results53,by kernel_rfl,by kernel_rfl⟩
theorem zd9:qai Tryz.prog 53:=⟨_,Tryz.func53,by kernel_rfl,by kernel_rfl⟩
noncomputable def fb54:Code:=fbO Tryz.f54
noncomputable def fi54:FI:=⟨82,[ResultVar.tmp 8],fb54⟩
theorem fo54:FIok Tryz.prog 54 fi54:=⟨_,Tryz.func54,by kernel_rfl,Tryz.ntmps54,Tryz.results54,by kernel_rfl,by kernel_rfl⟩
theorem zoc:qai Tryz.prog 54:=⟨_,Tryz.func54,by kernel_rfl,by kernel_rfl⟩
noncomputable def fb55:Code:=fbO Tryz.f55
noncomputable def fi55:FI:=⟨39,[ResultVar.tmp 8],fb55⟩
theorem fo55:FIok Tryz.prog 55 fi55:=⟨_,Tryz.func55,by kernel_rfl,Tryz.ntmps55,Tryz.results55,by kernel_rfl,by kernel_rfl⟩
theorem zdm:qai Tryz.prog 55:=⟨_,Tryz.func55,by kernel_rfl,by kernel_rfl⟩
noncomputable def fb56:Code:=fbO Tryz.f56
noncomputable def fi56:FI:=⟨10,[ResultVar.tmp 6],fb56⟩
theorem fo56:FIok Tryz.prog 56 fi56:=⟨_,Tryz.func56,by kernel_rfl,Tryz.ntmps56,Tryz.results56,by kernel_rfl,by kernel_rfl⟩
noncomputable def fb57:Code:=fbO Tryz.f57
noncomputable def fi57:FI:=⟨5,[ResultVar.tmp 2],fb57⟩
theorem fo57:FIok Tryz.prog 57 fi57:=⟨_,Tryz.func57,by kernel_rfl,Tryz.ntmps57,Tryz.results57,by kernel_rfl,by kernel_rfl⟩
noncomputable def fb58:Code:=fbO Tryz.f58
noncomputable def fi58:FI:=⟨78,[ResultVar.cell 8 71,ResultVar.tmp 9],fb58⟩
theorem fo58:FIok Tryz.prog 58 fi58:=⟨_,Tryz.func58,by kernel_rfl,Tryz.ntmps58,Tryz.results58,by kernel_rfl,by kernel_rfl⟩
theorem zng:qai Tryz.prog 58:=⟨_,Tryz.func58,by kernel_rfl,by kernel_rfl⟩
noncomputable def fb59:Code:=fbO Tryz.f59
noncomputable def fi59:FI:=⟨81,[ResultVar.tmp 8],fb59⟩
theorem fo59:FIok Tryz.prog 59 fi59:=⟨_,Tryz.func59,by kernel_rfl,Tryz.ntmps59,Tryz.results59,by kernel_rfl,by kernel_rfl⟩
theorem zla:qai Tryz.prog 59:=⟨_,Tryz.func59,by kernel_rfl,by kernel_rfl⟩
noncomputable def fb60:Code:=fbO Tryz.f60
noncomputable def fi60:FI:=⟨21,[ResultVar.tmp 2],fb60⟩
theorem fo60:FIok Tryz.prog 60 fi60:=⟨_,Tryz.func60,by kernel_rfl,Tryz.ntmps60,Tryz.results60,by kernel_rfl,by kernel_rfl⟩
noncomputable def fb61:Code:=fbO Tryz.f61
noncomputable def fi61:FI:=⟨26,[ResultVar.tmp 4],fb61⟩
theorem fo61:FIok Tryz.prog 61 fi61:=⟨_,Tryz.func61,by kernel_rfl,Tryz.ntmps61,Tryz.results61,by kernel_rfl,by kernel_rfl⟩
noncomputable def fb62:Code:=fbO Tryz.f62
noncomputable def fi62:FI:=⟨31,[ResultVar.tmp 2],fb62⟩
theorem fo62:FIok Tryz.prog 62 fi62:=⟨_,Tryz.func62,by kernel_rfl,Tryz.ntmps62,Tryz.results62,by kernel_rfl,by kernel_rfl⟩
noncomputable def fb64:Code:=fbO Tryz.f64
noncomputable def fi64:FI:=⟨49,[ResultVar.tmp 4],fb64⟩
theorem fo64:FIok Tryz.prog 64 fi64:=⟨_,Tryz.func64,by kernel_rfl,Tryz.ntmps64,Tryz.results64,by kernel_rfl,by kernel_rfl⟩
noncomputable def fb65:Code:=fbO Tryz.f65
noncomputable def fi65:FI:=⟨93,[ResultVar.cell 2 27,ResultVar.tmp 3],fb65⟩
theorem fo65:FIok Tryz.prog 65 fi65:=⟨_,Tryz.func65,by kernel_rfl,Tryz.ntmps65,Tryz.results65,by kernel_rfl,by kernel_rfl⟩
noncomputable def fb66:Code:=fbO Tryz.f66
noncomputable def fi66:FI:=⟨17,[ResultVar.tmp 4],fb66⟩
theorem fo66:FIok Tryz.prog 66 fi66:=⟨_,Tryz.func66,by kernel_rfl,Tryz.ntmps66,Tryz.results66,by kernel_rfl,by kernel_rfl⟩
noncomputable def fb67:Code:=fbO Tryz.f67
noncomputable def fi67:FI:=⟨60,[ResultVar.cell 4 122],fb67⟩
theorem fo67:FIok Tryz.prog 67 fi67:=⟨_,Tryz.func67,by kernel_rfl,Tryz.ntmps67,Tryz.results67,by kernel_rfl,by kernel_rfl⟩
noncomputable def fb68:Code:=fbO Tryz.f68
noncomputable def fi68:FI:=⟨15,[ResultVar.tmp 6],fb68⟩
theorem fo68:FIok Tryz.prog 68 fi68:=⟨_,Tryz.func68,by kernel_rfl,Tryz.ntmps68,Tryz.results68,by kernel_rfl,by kernel_rfl⟩
noncomputable def fb69:Code:=fbO Tryz.f69
noncomputable def fi69:FI:=⟨5,[ResultVar.cell 2 61],fb69⟩
theorem fo69:FIok Tryz.prog 69 fi69:=⟨_,Tryz.func69,by kernel_rfl,Tryz.ntmps69,Tryz.results69,by kernel_rfl,by kernel_rfl⟩
noncomputable def fb70:Code:=fbO Tryz.f70
noncomputable def fi70:FI:=⟨17,[ResultVar.cell 4 84],fb70⟩
theorem fo70:FIok Tryz.prog 70 fi70:=⟨_,Tryz.func70,by kernel_rfl,Tryz.ntmps70,Tryz.results70,by kernel_rfl,by kernel_rfl⟩
noncomputable def fb71:Code:=fbO Tryz.f71
noncomputable def fi71:FI:=⟨29,[ResultVar.tmp 4],fb71⟩
theorem fo71:FIok Tryz.prog 71 fi71:=⟨_,Tryz.func71,by kernel_rfl,Tryz.ntmps71,Tryz.results71,by kernel_rfl,by kernel_rfl⟩
noncomputable def fb72:Code:=fbO Tryz.f72
noncomputable def fi72:FI:=⟨9,[ResultVar.cell 2 84],fb72⟩
theorem fo72:FIok Tryz.prog 72 fi72:=⟨_,Tryz.func72,by kernel_rfl,Tryz.ntmps72,Tryz.results72,by kernel_rfl,by kernel_rfl⟩
noncomputable def fb73:Code:=fbO Tryz.f73
noncomputable def fi73:FI:=⟨141,[ResultVar.cell 2 129],fb73⟩
theorem fo73:FIok Tryz.prog 73 fi73:=⟨_,Tryz.func73,by kernel_rfl,Tryz.ntmps73,Tryz.results73,by kernel_rfl,by kernel_rfl⟩
noncomputable def fb74:Code:=fbO Tryz.f74
noncomputable def fi74:FI:=⟨49,[ResultVar.tmp 2],fb74⟩
theorem fo74:FIok Tryz.prog 74 fi74:=⟨_,Tryz.func74,by kernel_rfl,Tryz.ntmps74,Tryz.results74,by kernel_rfl,by kernel_rfl⟩
noncomputable def fb75:Code:=fbO Tryz.f75
noncomputable def fi75:FI:=⟨14,[ResultVar.tmp 4],fb75⟩
theorem fo75:FIok Tryz.prog 75 fi75:=⟨_,Tryz.func75,by kernel_rfl,Tryz.ntmps75,Tryz.results75,by kernel_rfl,by kernel_rfl⟩
noncomputable def fb76:Code:=fbO Tryz.f76
noncomputable def fi76:FI:=⟨7,[],fb76⟩
theorem fo76:FIok Tryz.prog 76 fi76:=⟨_,Tryz.func76,by kernel_rfl,Tryz.ntmps76,Tryz.results76,by kernel_rfl,by kernel_rfl⟩
noncomputable def fb77:Code:=fbO Tryz.f77
noncomputable def fi77:FI:=⟨29,[ResultVar.tmp 2],fb77⟩
theorem fo77:FIok Tryz.prog 77 fi77:=⟨_,Tryz.func77,by kernel_rfl,Tryz.ntmps77,Tryz.results77,by kernel_rfl,by kernel_rfl⟩
noncomputable def fb78:Code:=fbO Tryz.f78
noncomputable def fi78:FI:=⟨14,[ResultVar.tmp 2],fb78⟩
theorem fo78:FIok Tryz.prog 78 fi78:=⟨_,Tryz.func78,by kernel_rfl,Tryz.ntmps78,Tryz.results78,by kernel_rfl,by kernel_rfl⟩
noncomputable def fb79:Code:=fbO Tryz.f79
noncomputable def fi79:FI:=⟨9,[ResultVar.tmp 4],fb79⟩
theorem fo79:FIok Tryz.prog 79 fi79:=⟨_,Tryz.func79,by kernel_rfl,Tryz.ntmps79,Tryz.results79,by kernel_rfl,by kernel_rfl⟩
noncomputable def fb80:Code:=fbO Tryz.f80
noncomputable def fi80:FI:=⟨9,[ResultVar.tmp 3],fb80⟩
theorem fo80:FIok Tryz.prog 80 fi80:=⟨_,Tryz.func80,by kernel_rfl,Tryz.ntmps80,Tryz.results80,by kernel_rfl,by kernel_rfl⟩
noncomputable def fb81:Code:=fbO Tryz.f81
noncomputable def fi81:FI:=⟨7,[ResultVar.tmp 4],fb81⟩
theorem fo81:FIok Tryz.prog 81 fi81:=⟨_,Tryz.func81,by kernel_rfl,Tryz.ntmps81,Tryz.results81,by kernel_rfl,by kernel_rfl⟩
noncomputable def fb82:Code:=fbO Tryz.f82
noncomputable def fi82:FI:=⟨5,[ResultVar.tmp 2],fb82⟩
theorem fo82:FIok Tryz.prog 82 fi82:=⟨_,Tryz.func82,by kernel_rfl,Tryz.ntmps82,Tryz.results82,by kernel_rfl,by kernel_rfl⟩
noncomputable def fb83:Code:=fbO Tryz.f83
noncomputable def fi83:FI:=⟨10,[ResultVar.tmp 6],fb83⟩
theorem fo83:FIok Tryz.prog 83 fi83:=⟨_,Tryz.func83,by kernel_rfl,Tryz.ntmps83,Tryz.results83,by kernel_rfl,by kernel_rfl⟩
noncomputable def fb84:Code:=fbO Tryz.f84
noncomputable def fi84:FI:=⟨5,[ResultVar.tmp 2],fb84⟩
theorem fo84:FIok Tryz.prog 84 fi84:=⟨_,Tryz.func84,by kernel_rfl,Tryz.ntmps84,Tryz.results84,by kernel_rfl,by kernel_rfl⟩
noncomputable def fb85:Code:=fbO Tryz.f85
noncomputable def fi85:FI:=⟨8,[ResultVar.tmp 4],fb85⟩
theorem fo85:FIok Tryz.prog 85 fi85:=⟨_,Tryz.func85,by kernel_rfl,Tryz.ntmps85,Tryz.results85,by kernel_rfl,by kernel_rfl⟩
theorem zqp:qai Tryz.prog 85:=⟨_,Tryz.func85,by kernel_rfl,by kernel_rfl⟩
noncomputable def fb86:Code:=fbO Tryz.f86
noncomputable def fi86:FI:=⟨15,[ResultVar.tmp 6],fb86⟩
theorem fo86:FIok Tryz.prog 86 fi86:=⟨_,Tryz.func86,by kernel_rfl,Tryz.ntmps86,Tryz.results86,by kernel_rfl,by kernel_rfl⟩
theorem zek:qai Tryz.prog 86:=⟨_,Tryz.func86,by kernel_rfl,by kernel_rfl⟩
noncomputable def fb87:Code:=fbO Tryz.f87
noncomputable def fi87:FI:=⟨97,[ResultVar.tmp 2],fb87⟩
theorem fo87:FIok Tryz.prog 87 fi87:=⟨_,Tryz.func87,by kernel_rfl,Tryz.ntmps87,Tryz.results87,by kernel_rfl,by kernel_rfl⟩
noncomputable def fb88:Code:=fbO Tryz.f88
noncomputable def fi88:FI:=⟨43,[ResultVar.tmp 6],fb88⟩
theorem fo88:FIok Tryz.prog 88 fi88:=⟨_,Tryz.func88,by kernel_rfl,Tryz.ntmps88,Tryz.results88,by kernel_rfl,by kernel_rfl⟩
noncomputable def fb89:Code:=fbO Tryz.f89
noncomputable def fi89:FI:=⟨11,[ResultVar.tmp 2],fb89⟩
theorem fo89:FIok Tryz.prog 89 fi89:=⟨_,Tryz.func89,by kernel_rfl,Tryz.ntmps89,Tryz.results89,by kernel_rfl,by kernel_rfl⟩
theorem zob:qai Tryz.prog 89:=⟨_,Tryz.func89,by kernel_rfl,by kernel_rfl⟩
noncomputable def fb90:Code:=fbO Tryz.f90
noncomputable def fi90:FI:=⟨41,[ResultVar.tmp 2],fb90⟩
theorem fo90:FIok Tryz.prog 90 fi90:=⟨_,Tryz.func90,by kernel_rfl,Tryz.ntmps90,Tryz.results90,by kernel_rfl,by kernel_rfl⟩
theorem zab:qai Tryz.prog 90:=⟨_,Tryz.func90,by kernel_rfl,by kernel_rfl⟩
noncomputable def fb91:Code:=fbO Tryz.f91
noncomputable def fi91:FI:=⟨108,[ResultVar.cell 4 82,ResultVar.tmp 5],fb91⟩
theorem fo91:FIok Tryz.prog 91 fi91:=⟨_,Tryz.func91,by kernel_rfl,Tryz.ntmps91,Tryz.results91,by kernel_rfl,by kernel_rfl⟩
noncomputable def fb92:Code:=fbO Tryz.f92
noncomputable def fi92:FI:=⟨30,[ResultVar.tmp 2],fb92⟩
theorem fo92:FIok Tryz.prog 92 fi92:=⟨_,Tryz.func92,by kernel_rfl,Tryz.ntmps92,Tryz.results92,by kernel_rfl,by kernel_rfl⟩
theorem zgr:qai Tryz.prog 92:=⟨_,Tryz.func92,by kernel_rfl,by kernel_rfl⟩
noncomputable def fb93:Code:=fbO Tryz.f93
noncomputable def fi93:FI:=⟨77,[ResultVar.tmp 2],fb93⟩
theorem fo93:FIok Tryz.prog 93 fi93:=⟨_,Tryz.func93,by kernel_rfl,Tryz.ntmps93,Tryz.results93,by kernel_rfl,by kernel_rfl⟩
theorem zgj:qai Tryz.prog 93:=⟨_,Tryz.func93,by kernel_rfl,by kernel_rfl⟩
noncomputable def fb94:Code:=fbO Tryz.f94
noncomputable def fi94:FI:=⟨97,[ResultVar.tmp 8],fb94⟩
theorem fo94:FIok Tryz.prog 94 fi94:=⟨_,Tryz.func94,by kernel_rfl,Tryz.ntmps94,Tryz.results94,by kernel_rfl,by kernel_rfl⟩
theorem zc1:qai Tryz.prog 94:=⟨_,Tryz.func94,by kernel_rfl,by kernel_rfl⟩
noncomputable def fb95:Code:=fbO Tryz.f95
noncomputable def fi95:FI:=⟨46,[ResultVar.tmp 4],fb95⟩
theorem fo95:FIok Tryz.prog 95 fi95:=⟨_,Tryz.func95,by kernel_rfl,Tryz.ntmps95,Tryz.results95,by kernel_rfl,by kernel_rfl⟩
theorem zej:qai Tryz.prog 95:=⟨_,Tryz.func95,by kernel_rfl,by kernel_rfl⟩
noncomputable def fb96:Code:=fbO Tryz.f96
noncomputable def fi96:FI:=⟨100,[ResultVar.tmp 8],fb96⟩
theorem fo96:FIok Tryz.prog 96 fi96:=⟨_,Tryz.func96,by kernel_rfl,Tryz.ntmps96,Tryz.results96,by kernel_rfl,by kernel_rfl⟩
theorem zem:qai Tryz.prog 96:=⟨_,Tryz.func96,by kernel_rfl,by kernel_rfl⟩
noncomputable def fb97:Code:=fbO Tryz.f97
noncomputable def fi97:FI:=⟨19,[ResultVar.tmp 4],fb97⟩
theorem fo97:FIok Tryz.prog 97 fi97:=⟨_,Tryz.func97,by kernel_rfl,Tryz.ntmps97,Tryz.results97,by kernel_rfl,by kernel_rfl⟩
noncomputable def fb98:Code:=fbO Tryz.f98
noncomputable def fi98:FI:=⟨10,[ResultVar.tmp 4],fb98⟩
theorem fo98:FIok Tryz.prog 98 fi98:=⟨_,Tryz.func98,by kernel_rfl,Tryz.ntmps98,Tryz.results98,by kernel_rfl,by kernel_rfl⟩
noncomputable def fb99:Code:=fbO Tryz.f99
noncomputable def fi99:FI:=⟨29,[ResultVar.tmp 6],fb99⟩
theorem fo99:FIok Tryz.prog 99 fi99:=⟨_,Tryz.func99,by kernel_rfl,Tryz.ntmps99,Tryz.results99,by kernel_rfl,by kernel_rfl⟩
theorem q9x:qai Tryz.prog 99:=⟨_,Tryz.func99,by kernel_rfl,by kernel_rfl⟩
noncomputable def zln:Code:=fbO Tryz.f101
noncomputable def q0e:FI:=⟨101,[ResultVar.cell 4 27],zln⟩
theorem zew:FIok Tryz.prog 101 q0e:=⟨_,Tryz.func101,by kernel_rfl,Tryz.ntmps101,Tryz.results101,by kernel_rfl,by kernel_rfl⟩
noncomputable def zok:Code:=fbO Tryz.f102
noncomputable def qz0:FI:=⟨44,[ResultVar.tmp 6],zok⟩
theorem zje:FIok Tryz.prog 102 qz0:=⟨_,Tryz.func102,by kernel_rfl,Tryz.ntmps102,Tryz.results102,by kernel_rfl,by kernel_rfl⟩
noncomputable def znv:Code:=fbO Tryz.f103
noncomputable def q4m:FI:=⟨26,[],znv⟩
theorem zpo:FIok Tryz.prog 103 q4m:=⟨_,Tryz.func103,by kernel_rfl,Tryz.ntmps103,Tryz.results103,by kernel_rfl,by kernel_rfl⟩
noncomputable def zd8:Code:=fbO Tryz.f104
noncomputable def q6k:FI:=⟨4,[ResultVar.tmp 2],zd8⟩
theorem zdj:FIok Tryz.prog 104 q6k:=⟨_,Tryz.func104,by kernel_rfl,Tryz.ntmps104,Tryz.results104,by kernel_rfl,by kernel_rfl⟩
noncomputable def zin:Code:=fbO Tryz.f105
noncomputable def q4n:FI:=⟨29,[ResultVar.tmp 3],zin⟩
theorem zau:FIok Tryz.prog 105 q4n:=⟨_,Tryz.func105,by kernel_rfl,Tryz.ntmps105,Tryz.results105,by kernel_rfl,by kernel_rfl⟩
noncomputable def zdr:Code:=fbO Tryz.f106
noncomputable def q5a:FI:=⟨26,[ResultVar.tmp 4],zdr⟩
theorem zhz:FIok Tryz.prog 106 q5a:=⟨_,Tryz.func106,by kernel_rfl,Tryz.ntmps106,Tryz.results106,by kernel_rfl,by kernel_rfl⟩
noncomputable def zmz:Code:=fbO Tryz.f107
noncomputable def q1r:FI:=⟨32,[ResultVar.tmp 6],zmz⟩
theorem q80:FIok Tryz.prog 107 q1r:=⟨_,Tryz.func107,by kernel_rfl,Tryz.ntmps107,Tryz.results107,by kernel_rfl,by kernel_rfl⟩
noncomputable def zm5:Code:=fbO Tryz.f108
noncomputable def qzr:FI:=⟨17,[ResultVar.tmp 4],zm5⟩
theorem zpr:FIok Tryz.prog 108 qzr:=⟨_,Tryz.func108,by kernel_rfl,Tryz.ntmps108,Tryz.results108,by kernel_rfl,by kernel_rfl⟩
noncomputable def zjs:Code:=fbO Tryz.f109
noncomputable def qzb:FI:=⟨30,[ResultVar.tmp 6],zjs⟩
theorem zon:FIok Tryz.prog 109 qzb:=⟨_,Tryz.func109,by kernel_rfl,Tryz.ntmps109,Tryz.results109,by kernel_rfl,by kernel_rfl⟩
noncomputable def zmb:Code:=fbO Tryz.f110
noncomputable def q0v:FI:=⟨15,[ResultVar.cell 4 84],zmb⟩
theorem zf2:FIok Tryz.prog 110 q0v:=⟨_,Tryz.func110,by kernel_rfl,Tryz.ntmps110,Tryz.results110,by kernel_rfl,by kernel_rfl⟩
noncomputable def zh7:Code:=fbO Tryz.f111
noncomputable def q0w:FI:=⟨10,[ResultVar.tmp 3],zh7⟩
theorem zn3:FIok Tryz.prog 111 q0w:=⟨_,Tryz.func111,by kernel_rfl,Tryz.ntmps111,Tryz.results111,by kernel_rfl,by kernel_rfl⟩
noncomputable def zal:Code:=fbO Tryz.f112
noncomputable def q3t:FI:=⟨29,[ResultVar.tmp 4],zal⟩
theorem zg0:FIok Tryz.prog 112 q3t:=⟨_,Tryz.func112,by kernel_rfl,Tryz.ntmps112,Tryz.results112,by kernel_rfl,by kernel_rfl⟩
noncomputable def zp0:Code:=fbO Tryz.f113
noncomputable def q1j:FI:=⟨9,[ResultVar.tmp 4],zp0⟩
theorem zih:FIok Tryz.prog 113 q1j:=⟨_,Tryz.func113,by kernel_rfl,Tryz.ntmps113,Tryz.results113,by kernel_rfl,by kernel_rfl⟩
noncomputable def zj2:Code:=fbO Tryz.f114
noncomputable def qwt:FI:=⟨12,[ResultVar.tmp 3],zj2⟩
theorem zk7:FIok Tryz.prog 114 qwt:=⟨_,Tryz.func114,by kernel_rfl,Tryz.ntmps114,Tryz.results114,by kernel_rfl,by kernel_rfl⟩
noncomputable def zfu:Code:=fbO Tryz.f115
noncomputable def q19:FI:=⟨11,[ResultVar.tmp 2],zfu⟩
theorem zod:FIok Tryz.prog 115 q19:=⟨_,Tryz.func115,by kernel_rfl,Tryz.ntmps115,Tryz.results115,by kernel_rfl,by kernel_rfl⟩
noncomputable def zkz:Code:=fbO Tryz.f116
noncomputable def q60:FI:=⟨19,[ResultVar.tmp 4],zkz⟩
theorem q97:FIok Tryz.prog 116 q60:=⟨_,Tryz.func116,by kernel_rfl,Tryz.ntmps116,Tryz.results116,by kernel_rfl,by kernel_rfl⟩
noncomputable def qku:Code:=fbO Tryz.f117
noncomputable def qui:FI:=⟨19,[ResultVar.tmp 4],qku⟩
theorem q44:FIok Tryz.prog 117 qui:=⟨_,Tryz.func117,by kernel_rfl,Tryz.ntmps117,Tryz.results117,by kernel_rfl,by kernel_rfl⟩
noncomputable def zb1:Code:=fbO Tryz.f118
noncomputable def q0c:FI:=⟨10,[ResultVar.tmp 4],zb1⟩
theorem zea:FIok Tryz.prog 118 q0c:=⟨_,Tryz.func118,by kernel_rfl,Tryz.ntmps118,Tryz.results118,by kernel_rfl,by kernel_rfl⟩
noncomputable def zgk:Code:=fbO Tryz.f119
noncomputable def qz1:FI:=⟨10,[ResultVar.tmp 6],zgk⟩
theorem zbl:FIok Tryz.prog 119 qz1:=⟨_,Tryz.func119,by kernel_rfl,Tryz.ntmps119,Tryz.results119,by kernel_rfl,by kernel_rfl⟩
noncomputable def q98:Code:=fbO Tryz.f120
noncomputable def q14:FI:=⟨5,[ResultVar.tmp 2],q98⟩
theorem zf6:FIok Tryz.prog 120 q14:=⟨_,Tryz.func120,by kernel_rfl,Tryz.ntmps120,Tryz.results120,by kernel_rfl,by kernel_rfl⟩
noncomputable def q8i:Code:=fbO Tryz.f121
noncomputable def quh:FI:=⟨30,[ResultVar.tmp 6],q8i⟩
theorem za1:FIok Tryz.prog 121 quh:=⟨_,Tryz.func121,by kernel_rfl,Tryz.ntmps121,Tryz.results121,by kernel_rfl,by kernel_rfl⟩
theorem q8y:qai Tryz.prog 121:=⟨_,Tryz.func121,by kernel_rfl,by kernel_rfl⟩
noncomputable def zlw:Code:=fbO Tryz.f122
noncomputable def qx3:FI:=⟨9,[ResultVar.tmp 4],zlw⟩
theorem zp5:FIok Tryz.prog 122 qx3:=⟨_,Tryz.func122,by kernel_rfl,Tryz.ntmps122,Tryz.results122,by kernel_rfl,by kernel_rfl⟩
noncomputable def q8c:Code:=fbO Tryz.f123
noncomputable def qu4:FI:=⟨11,[ResultVar.tmp 2],q8c⟩
theorem zqq:FIok Tryz.prog 123 qu4:=⟨_,Tryz.func123,by kernel_rfl,Tryz.ntmps123,Tryz.results123,by kernel_rfl,by kernel_rfl⟩
theorem znn:qai Tryz.prog 123:=⟨_,Tryz.func123,by kernel_rfl,by kernel_rfl⟩
noncomputable def za7:Code:=fbO Tryz.f124
noncomputable def qsx:FI:=⟨38,[ResultVar.cell 2 182],za7⟩
theorem zjy:FIok Tryz.prog 124 qsx:=⟨_,Tryz.func124,by kernel_rfl,Tryz.ntmps124,Tryz.results124,by kernel_rfl,by kernel_rfl⟩
theorem zbx:qai Tryz.prog 124:=⟨_,Tryz.func124,by kernel_rfl,by kernel_rfl⟩
noncomputable def zk1:Code:=fbO Tryz.f125
noncomputable def qre:FI:=⟨24,[ResultVar.tmp 6],zk1⟩
theorem zgu:FIok Tryz.prog 125 qre:=⟨_,Tryz.func125,by kernel_rfl,Tryz.ntmps125,Tryz.results125,by kernel_rfl,by kernel_rfl⟩
theorem zi6:qai Tryz.prog 125:=⟨_,Tryz.func125,by kernel_rfl,by kernel_rfl⟩
noncomputable def zeo:Code:=fbO Tryz.f126
noncomputable def qva:FI:=⟨24,[ResultVar.tmp 6],zeo⟩
theorem zlo:FIok Tryz.prog 126 qva:=⟨_,Tryz.func126,by kernel_rfl,Tryz.ntmps126,Tryz.results126,by kernel_rfl,by kernel_rfl⟩
theorem q99:qai Tryz.prog 126:=⟨_,Tryz.func126,by kernel_rfl,by kernel_rfl⟩
noncomputable def zkq:Code:=fbO Tryz.f127
noncomputable def qy0:FI:=⟨8,[],zkq⟩
theorem zju:FIok Tryz.prog 127 qy0:=⟨_,Tryz.func127,by kernel_rfl,Tryz.ntmps127,Tryz.results127,by kernel_rfl,by kernel_rfl⟩
noncomputable def zjc:Code:=fbO Tryz.f128
noncomputable def q36:FI:=⟨66,[ResultVar.tmp 8],zjc⟩
theorem zgp:FIok Tryz.prog 128 q36:=⟨_,Tryz.func128,by kernel_rfl,Tryz.ntmps128,Tryz.results128,by kernel_rfl,by kernel_rfl⟩
noncomputable def zj4:Code:=fbO Tryz.f129
noncomputable def qyb:FI:=⟨14,[ResultVar.cell 3 84],zj4⟩
theorem zeg:FIok Tryz.prog 129 qyb:=⟨_,Tryz.func129,by kernel_rfl,Tryz.ntmps129,Tryz.results129,by kernel_rfl,by kernel_rfl⟩
noncomputable def zql:Code:=fbO Tryz.f130
noncomputable def qxs:FI:=⟨22,[],zql⟩
theorem zkv:FIok Tryz.prog 130 qxs:=⟨_,Tryz.func130,by kernel_rfl,Tryz.ntmps130,Tryz.results130,by kernel_rfl,by kernel_rfl⟩
noncomputable def znu:Code:=fbO Tryz.f131
noncomputable def q7t:FI:=⟨19,[ResultVar.tmp 4],znu⟩
theorem zo5:FIok Tryz.prog 131 q7t:=⟨_,Tryz.func131,by kernel_rfl,Tryz.ntmps131,Tryz.results131,by kernel_rfl,by kernel_rfl⟩
noncomputable def qlb:Code:=fbO Tryz.f132
noncomputable def qut:FI:=⟨19,[ResultVar.tmp 4],qlb⟩
theorem qyu:FIok Tryz.prog 132 qut:=⟨_,Tryz.func132,by kernel_rfl,Tryz.ntmps132,Tryz.results132,by kernel_rfl,by kernel_rfl⟩
noncomputable def ze8:Code:=fbO Tryz.f133
noncomputable def q01:FI:=⟨10,[ResultVar.tmp 4],ze8⟩
theorem zli:FIok Tryz.prog 133 q01:=⟨_,Tryz.func133,by kernel_rfl,Tryz.ntmps133,Tryz.results133,by kernel_rfl,by kernel_rfl⟩
noncomputable def zij:Code:=fbO Tryz.f134
noncomputable def q1q:FI:=⟨8,[ResultVar.tmp 4],zij⟩
theorem zel:FIok Tryz.prog 134 q1q:=⟨_,Tryz.func134,by kernel_rfl,Tryz.ntmps134,Tryz.results134,by kernel_rfl,by kernel_rfl⟩
noncomputable def zeb:Code:=fbO Tryz.f135
noncomputable def q5n:FI:=⟨28,[ResultVar.tmp 4],zeb⟩
theorem zg1:FIok Tryz.prog 135 q5n:=⟨_,Tryz.func135,by kernel_rfl,Tryz.ntmps135,Tryz.results135,by kernel_rfl,by kernel_rfl⟩
noncomputable def zoe:Code:=fbO Tryz.f136
noncomputable def qda:FI:=⟨19,[ResultVar.tmp 4],zoe⟩
theorem zgq:FIok Tryz.prog 136 qda:=⟨_,Tryz.func136,by kernel_rfl,Tryz.ntmps136,Tryz.results136,by kernel_rfl,by kernel_rfl⟩
theorem q9z:qai Tryz.prog 136:=⟨_,Tryz.func136,by kernel_rfl,by kernel_rfl⟩
noncomputable def zpa:Code:=fbO Tryz.f137
noncomputable def qde:FI:=⟨18,[ResultVar.tmp 4],zpa⟩
theorem zae:FIok Tryz.prog 137 qde:=⟨_,Tryz.func137,by kernel_rfl,Tryz.ntmps137,Tryz.results137,by kernel_rfl,by kernel_rfl⟩
theorem zgc:qai Tryz.prog 137:=⟨_,Tryz.func137,by kernel_rfl,by kernel_rfl⟩
noncomputable def zp7:Code:=fbO Tryz.f138
noncomputable def qw9:FI:=⟨2,[ResultVar.tmp 0],zp7⟩
theorem q92:FIok Tryz.prog 138 qw9:=⟨_,Tryz.func138,by kernel_rfl,Tryz.ntmps138,Tryz.results138,by kernel_rfl,by kernel_rfl⟩
noncomputable def zif:Code:=fbO Tryz.f139
noncomputable def qdb:FI:=⟨23,[ResultVar.tmp 4],zif⟩
theorem zcw:FIok Tryz.prog 139 qdb:=⟨_,Tryz.func139,by kernel_rfl,Tryz.ntmps139,Tryz.results139,by kernel_rfl,by kernel_rfl⟩
theorem zcr:qai Tryz.prog 139:=⟨_,Tryz.func139,by kernel_rfl,by kernel_rfl⟩
noncomputable def zgw:Code:=fbO Tryz.f140
noncomputable def q6h:FI:=⟨9,[ResultVar.tmp 2],zgw⟩
theorem q9c:FIok Tryz.prog 140 q6h:=⟨_,Tryz.func140,by kernel_rfl,Tryz.ntmps140,Tryz.results140,by kernel_rfl,by kernel_rfl⟩
noncomputable def za2:Code:=fbO Tryz.f141
noncomputable def qdd:FI:=⟨46,[ResultVar.cell 2 197],za2⟩
theorem zbb:FIok Tryz.prog 141 qdd:=⟨_,Tryz.func141,by kernel_rfl,Tryz.ntmps141,Tryz.results141,by kernel_rfl,by kernel_rfl⟩
theorem zh5:qai Tryz.prog 141:=⟨_,Tryz.func141,by kernel_rfl,by kernel_rfl⟩
noncomputable def zbj:Code:=fbO Tryz.f142
noncomputable def qdi:FI:=⟨51,[ResultVar.cell 2 182],zbj⟩
theorem zjg:FIok Tryz.prog 142 qdi:=⟨_,Tryz.func142,by kernel_rfl,Tryz.ntmps142,Tryz.results142,by kernel_rfl,by kernel_rfl⟩
theorem zd1:qai Tryz.prog 142:=⟨_,Tryz.func142,by kernel_rfl,by kernel_rfl⟩
noncomputable def zhr:Code:=fbO Tryz.f143
noncomputable def qrg:FI:=⟨16,[ResultVar.tmp 4],zhr⟩
theorem zb6:FIok Tryz.prog 143 qrg:=⟨_,Tryz.func143,by kernel_rfl,Tryz.ntmps143,Tryz.results143,by kernel_rfl,by kernel_rfl⟩
theorem zpj:qai Tryz.prog 143:=⟨_,Tryz.func143,by kernel_rfl,by kernel_rfl⟩
noncomputable def qkk:Code:=fbO Tryz.f144
noncomputable def qtw:FI:=⟨21,[ResultVar.tmp 6],qkk⟩
theorem q1w:FIok Tryz.prog 144 qtw:=⟨_,Tryz.func144,by kernel_rfl,Tryz.ntmps144,Tryz.results144,by kernel_rfl,by kernel_rfl⟩
noncomputable def zib:Code:=fbO Tryz.f145
noncomputable def q54:FI:=⟨17,[ResultVar.tmp 2],zib⟩
theorem zk5:FIok Tryz.prog 145 q54:=⟨_,Tryz.func145,by kernel_rfl,Tryz.ntmps145,Tryz.results145,by kernel_rfl,by kernel_rfl⟩
noncomputable def zfs:Code:=fbO Tryz.f146
noncomputable def q65:FI:=⟨2,[ResultVar.tmp 0],zfs⟩
theorem zg2:FIok Tryz.prog 146 q65:=⟨_,Tryz.func146,by kernel_rfl,Tryz.ntmps146,Tryz.results146,by kernel_rfl,by kernel_rfl⟩
noncomputable def zjw:Code:=fbO Tryz.f147
noncomputable def q7a:FI:=⟨9,[ResultVar.tmp 2],zjw⟩
theorem zjn:FIok Tryz.prog 147 q7a:=⟨_,Tryz.func147,by kernel_rfl,Tryz.ntmps147,Tryz.results147,by kernel_rfl,by kernel_rfl⟩
noncomputable def ziy:Code:=fbO Tryz.f148
noncomputable def q4q:FI:=⟨9,[ResultVar.tmp 2],ziy⟩
theorem ziw:FIok Tryz.prog 148 q4q:=⟨_,Tryz.func148,by kernel_rfl,Tryz.ntmps148,Tryz.results148,by kernel_rfl,by kernel_rfl⟩
noncomputable def ftT:PT FI:=(.node none (.node none (.node (some fi3) (.node (some fi7) (.node (some fi15) (.node (some fi31) (.node none (.node (some qy0) .leaf .leaf) .leaf) (.node (some fi95) .leaf .leaf)) (.node (some fi47) (.node (some fi79) (.node (some qrg) .leaf .leaf) .leaf) (.node (some q0w) .leaf .leaf))) (.node (some fi23) (.node (some fi39) (.node (some fi71) (.node (some q5n) .leaf .leaf) .leaf) (.node (some q4m) .leaf .leaf)) (.node (some fi55) (.node (some fi87) .leaf .leaf) (.node (some qz1) .leaf .leaf)))) (.node (some fi11) (.node (some fi19) (.node (some fi35) (.node (some fi67) (.node (some q7t) .leaf .leaf) .leaf) (.node (some fi99) .leaf .leaf)) (.node (some fi51) (.node (some fi83) (.node (some q7a) .leaf .leaf) .leaf) (.node (some q19) .leaf .leaf))) (.node (some fi27) (.node (some fi43) (.node (some fi75) (.node (some qdb) .leaf .leaf) .leaf) (.node (some q1r) .leaf .leaf)) (.node (some fi59) (.node (some fi91) .leaf .leaf) (.node (some qu4) .leaf .leaf))))) (.node (some fi5) (.node (some fi9) (.node (some fi17) (.node (some fi33) (.node (some fi65) (.node (some qyb) .leaf .leaf) .leaf) (.node (some fi97) .leaf .leaf)) (.node (some fi49) (.node (some fi81) (.node (some q54) .leaf .leaf) .leaf) (.node (some q1j) .leaf .leaf))) (.node (some fi25) (.node (some fi41) (.node (some fi73) (.node (some qde) .leaf .leaf) .leaf) (.node (some q4n) .leaf .leaf)) (.node (some fi57) (.node (some fi89) .leaf .leaf) (.node (some quh) .leaf .leaf)))) (.node (some fi13) (.node (some fi21) (.node (some fi37) (.node (some fi69) (.node (some q01) .leaf .leaf) .leaf) (.node (some q0e) .leaf .leaf)) (.node (some fi53) (.node (some fi85) .leaf .leaf) (.node (some qui) .leaf .leaf))) (.node (some fi29) (.node (some fi45) (.node (some fi77) (.node (some qdd) .leaf .leaf) .leaf) (.node (some qzb) .leaf .leaf)) (.node (some fi61) (.node (some fi93) .leaf .leaf) (.node (some qre) .leaf .leaf)))))) (.node none (.node (some fi4) (.node (some fi8) (.node (some fi16) (.node (some fi32) (.node (some fi64) (.node (some q36) .leaf .leaf) .leaf) (.node (some fi96) .leaf .leaf)) (.node (some fi48) (.node (some fi80) (.node (some qtw) .leaf .leaf) .leaf) (.node (some q3t) .leaf .leaf))) (.node (some fi24) (.node (some fi40) (.node (some fi72) (.node (some qda) .leaf .leaf) .leaf) (.node (some q6k) .leaf .leaf)) (.node (some fi56) (.node (some fi88) .leaf .leaf) (.node (some q14) .leaf .leaf)))) (.node (some fi12) (.node (some fi20) (.node (some fi36) (.node (some fi68) (.node (some qut) .leaf .leaf) .leaf) .leaf) (.node (some fi52) (.node (some fi84) (.node (some q4q) .leaf .leaf) .leaf) (.node (some q60) .leaf .leaf))) (.node (some fi28) (.node (some fi44) (.node (some fi76) (.node (some q6h) .leaf .leaf) .leaf) (.node (some qzr) .leaf .leaf)) (.node (some fi60) (.node (some fi92) .leaf .leaf) (.node (some qsx) .leaf .leaf))))) (.node (some fi6) (.node (some fi10) (.node (some fi18) (.node (some fi34) (.node (some fi66) (.node (some qxs) .leaf .leaf) .leaf) (.node (some fi98) .leaf .leaf)) (.node (some fi50) (.node (some fi82) (.node (some q65) .leaf .leaf) .leaf) (.node (some qwt) .leaf .leaf))) (.node (some fi26) (.node (some fi42) (.node (some fi74) (.node (some qw9) .leaf .leaf) .leaf) (.node (some q5a) .leaf .leaf)) (.node (some fi58) (.node (some fi90) .leaf .leaf) (.node (some qx3) .leaf .leaf)))) (.node (some fi14) (.node (some fi22) (.node (some fi38) (.node (some fi70) (.node (some q1q) .leaf .leaf) .leaf) (.node (some qz0) .leaf .leaf)) (.node (some fi54) (.node (some fi86) .leaf .leaf) (.node (some q0c) .leaf .leaf))) (.node (some fi30) (.node (some fi46) (.node (some fi78) (.node (some qdi) .leaf .leaf) .leaf) (.node (some q0v) .leaf .leaf)) (.node (some fi62) (.node (some fi94) .leaf .leaf) (.node (some qva) .leaf .leaf)))))))
theorem ftFa:ftT.Fa (fun f fi=>FIok Tryz.prog f fi):=⟨trivial,⟨trivial,⟨fo3,⟨fo7,⟨fo15,⟨fo31,⟨trivial,⟨zju,trivial,trivial⟩,trivial⟩,⟨fo95,trivial,trivial⟩⟩,⟨fo47,⟨fo79,⟨zb6,trivial,trivial⟩,trivial⟩,⟨zn3,trivial,trivial⟩⟩⟩,⟨fo23,⟨fo39,⟨fo71,⟨zg1,trivial,trivial⟩,trivial⟩,⟨zpo,trivial,trivial⟩⟩,⟨fo55,⟨fo87,trivial,trivial⟩,⟨zbl,trivial,trivial⟩⟩⟩⟩,⟨fo11,⟨fo19,⟨fo35,⟨fo67,⟨zo5,trivial,trivial⟩,trivial⟩,⟨fo99,trivial,trivial⟩⟩,⟨fo51,⟨fo83,⟨zjn,trivial,trivial⟩,trivial⟩,⟨zod,trivial,trivial⟩⟩⟩,⟨fo27,⟨fo43,⟨fo75,⟨zcw,trivial,trivial⟩,trivial⟩,⟨q80,trivial,trivial⟩⟩,⟨fo59,⟨fo91,trivial,trivial⟩,⟨zqq,trivial,trivial⟩⟩⟩⟩⟩,⟨fo5,⟨fo9,⟨fo17,⟨fo33,⟨fo65,⟨zeg,trivial,trivial⟩,trivial⟩,⟨fo97,trivial,trivial⟩⟩,⟨fo49,⟨fo81,⟨zk5,trivial,trivial⟩,trivial⟩,⟨zih,trivial,trivial⟩⟩⟩,⟨fo25,⟨fo41,⟨fo73,⟨zae,trivial,trivial⟩,trivial⟩,⟨zau,trivial,trivial⟩⟩,⟨fo57,⟨fo89,trivial,trivial⟩,⟨za1,trivial,trivial⟩⟩⟩⟩,⟨fo13,⟨fo21,⟨fo37,⟨fo69,⟨zli,trivial,trivial⟩,trivial⟩,⟨zew,trivial,trivial⟩⟩,⟨fo53,⟨fo85,trivial,trivial⟩,⟨q44,trivial,trivial⟩⟩⟩,⟨fo29,⟨fo45,⟨fo77,⟨zbb,trivial,trivial⟩,trivial⟩,⟨zon,trivial,trivial⟩⟩,⟨fo61,⟨fo93,trivial,trivial⟩,⟨zgu,trivial,trivial⟩⟩⟩⟩⟩⟩,⟨trivial,⟨fo4,⟨fo8,⟨fo16,⟨fo32,⟨fo64,⟨zgp,trivial,trivial⟩,trivial⟩,⟨fo96,trivial,trivial⟩⟩,⟨fo48,⟨fo80,⟨q1w,trivial,trivial⟩,trivial⟩,⟨zg0,trivial,trivial⟩⟩⟩,⟨fo24,⟨fo40,⟨fo72,⟨zgq,trivial,trivial⟩,trivial⟩,⟨zdj,trivial,trivial⟩⟩,⟨fo56,⟨fo88,trivial,trivial⟩,⟨zf6,trivial,trivial⟩⟩⟩⟩,⟨fo12,⟨fo20,⟨fo36,⟨fo68,⟨qyu,trivial,trivial⟩,trivial⟩,trivial⟩,⟨fo52,⟨fo84,⟨ziw,trivial,trivial⟩,trivial⟩,⟨q97,trivial,trivial⟩⟩⟩,⟨fo28,⟨fo44,⟨fo76,⟨q9c,trivial,trivial⟩,trivial⟩,⟨zpr,trivial,trivial⟩⟩,⟨fo60,⟨fo92,trivial,trivial⟩,⟨zjy,trivial,trivial⟩⟩⟩⟩⟩,⟨fo6,⟨fo10,⟨fo18,⟨fo34,⟨fo66,⟨zkv,trivial,trivial⟩,trivial⟩,⟨fo98,trivial,trivial⟩⟩,⟨fo50,⟨fo82,⟨zg2,trivial,trivial⟩,trivial⟩,⟨zk7,trivial,trivial⟩⟩⟩,⟨fo26,⟨fo42,⟨fo74,⟨q92,trivial,trivial⟩,trivial⟩,⟨zhz,trivial,trivial⟩⟩,⟨fo58,⟨fo90,trivial,trivial⟩,⟨zp5,trivial,trivial⟩⟩⟩⟩,⟨fo14,⟨fo22,⟨fo38,⟨fo70,⟨zel,trivial,trivial⟩,trivial⟩,⟨zje,trivial,trivial⟩⟩,⟨fo54,⟨fo86,trivial,trivial⟩,⟨zea,trivial,trivial⟩⟩⟩,⟨fo30,⟨fo46,⟨fo78,⟨zjg,trivial,trivial⟩,trivial⟩,⟨zf2,trivial,trivial⟩⟩,⟨fo62,⟨fo94,trivial,trivial⟩,⟨zlo,trivial,trivial⟩⟩⟩⟩⟩⟩⟩
theorem ftOK:FT Tryz.prog ftT.get:=fun f fi h=>PT.fa ftFa f fi h
theorem qdp:Tryz.prog.follows .mixedOrders=true:=by kernel_rfl
theorem cm3:Tryz.prog.follows .mixedOrders=true/\TT Tryz.prog ttT.get/\FT Tryz.prog ftT.get:=⟨qdp,ttOK,ftOK⟩
theorem rd9:RdT Tryz.prog .str 9:=zjj Tryz.underlying9 (by kernel_rfl) (by kernel_rfl)
theorem rd3:RdT Tryz.prog (.int .i64) 3:=zpk Tryz.underlying3 (by kernel_rfl) (by kernel_rfl)
theorem rd68:RdT Tryz.prog cCol 68:=qug Tryz.underlying68 rd9 rd3 rd9 rfl rfl rfl (by kernel_rfl) (by kernel_rfl)
theorem rd64:RdT Tryz.prog (.list cCol) 64:=qni Tryz.underlying64 rd68 (by decide) (by kernel_rfl) (by kernel_rfl)
theorem rd66:RdT Tryz.prog cForm 66:=q8u Tryz.underlying66 rd9 rd64 rfl rfl (by kernel_rfl) (by kernel_rfl)
theorem rd22:RdT Tryz.prog (.list cForm) 22:=qni Tryz.underlying22 rd66 (by decide) (by kernel_rfl) (by kernel_rfl)
theorem rd82:RdT Tryz.prog qar 82:=qug Tryz.underlying82 rd9 rd3 rd3 rfl rfl rfl (by kernel_rfl) (by kernel_rfl)
theorem rd69:RdT Tryz.prog (.list qar) 69:=qni Tryz.underlying69 rd82 (by decide) (by kernel_rfl) (by kernel_rfl)
theorem rd71:RdT Tryz.prog cRule 71:=qug Tryz.underlying71 rd9 rd9 rd69 rfl rfl rfl (by kernel_rfl) (by kernel_rfl)
theorem rd23:RdT Tryz.prog (.list cRule) 23:=qni Tryz.underlying23 rd71 (by decide) (by kernel_rfl) (by kernel_rfl)
end Go.Proofs.YtcnhjofpmpipfaaGreat
end

section
namespace Go.Jx
open Go Go.Sx Go.RowKit
universe u

def regs:Code->List Nat
 | .region id _ _=>[id]
 | .seq a b=>regs a++regs b
 | .cond _ a b=>regs a++regs b
 | .block _ c=>regs c
 | .scope c=>regs c
 | .loop c=>regs c
 | _=>[]
def hasR(k:Nat)(c:Code):Bool:=(regs c).any fun i=>Nat.beq i k
section
variable {R : Type} (P : Program) (tt : Nat -> Option TI) (nm : Nat -> Option Nm) (B : Nat) (nt : Nat) (cl : ClK R) (lf : Nat)
def qc5(ops:List Oper)(draw:Bool)(x:NRes)(kk:CRes->Option R):Option R :=
 cond draw (qmm P tt nt cl ops x.fr x.S fun q=>kk (mbR (mB nm B) ⟨exP q.p,q.fr,q.S,x.ds,q.rd,x.wr ||| q.wr⟩))
  (qh9 P tt nt cl ops ops x.fr x.S fun q=>kk (mbR (mB nm B) ⟨exP q.p,q.fr,q.S,x.ds,q.rd,x.wr ||| q.wr⟩))
def qa6(k:Nat):Code->List Nat->NRes->(CRes->Option R)->Option R
 | .region id ops draw,ns,x,kk=>cond (Nat.beq id k) (qc5 P tt nm B nt cl ops.toList draw x kk) none
 | .seq a b,ns,x,kk=>cond (hasR k a) (qa6 k a ns x fun r=>match r.e with
  | .normal=>qav P tt nm B nt cl lf none b r.fr r.S r.ds fun q=>kk (q.or r.rd r.wr)
  | _=>kk r) (qa6 k b ns x kk)
 | .cond c a b,ns,x,kk=>cond (hasR k a) (qa6 k a ns x kk) (qa6 k b ns x kk)
 | .block id c,ns,x,kk=>qa6 k c ns x fun r=>match r.e with
  | .exit id'=>cond (Nat.beq id' id) (kk ⟨.normal,r.fr,r.S,r.ds,r.rd,r.wr⟩) (kk r)
  | _=>kk r
 | .scope c,ns,x,kk=>qa6 k c ns x fun r=>match r.e with
  | .goto _=>none
  | _=>kk r
 | .loop c,ns,x,kk=>match ns with
  | []=>none
  | n::ns=>match qc3 nm c with
   | none=>none
   | some m=>qa6 k c ns x fun r=>cond (subm r.rd m.1&&subm r.wr m.2) (match r.e with
    | .normal=>qec (qav P tt nm B nt cl lf none c) m.1 m.2 n r.fr r.S r.ds fun r=>kk (mbR (mB nm B) r)
    | e=>kk (mbR (mB nm B) ⟨e,r.fr,r.S,r.ds,m.1,m.2⟩)) none
 | _,_,_,_=>none
end
theorem qmy{k:Nat}{c:Code}:hasR k c=true↔k∈regs c:=by
 unfold hasR;rw[jcf];constructor
 ·rintro⟨i,hi,h⟩;rw[<- jah h];exact hi
 ·intro h;exact⟨k,h,jb6 k⟩
theorem zo2{q:CRes}{a b:Nat}(ha:a=0)(hb:b=0):q.or a b=q:=by
 subst ha;subst hb;show (⟨q.e,q.fr,q.S,q.ds,0 ||| q.rd,0 ||| q.wr⟩:CRes)=q;rw[jdi,jdi]
def qao(tt:Nat->Option TI)(fi:FI)(s:Sm)(r:CRes):Option (ElR s.rts):=cond r.e.leaves (bd (qdg tt fi.nt fi.res S0 r) (runR s)) none
end Go.Jx
end

section
namespace Go.Jx
open Go Go.Sx Go.RowKit
universe u

def nz(x:NRes):NRes:=⟨x.fr,x.S,x.ds,0⟩
section
variable {R : Type} (P : Program) (tt : Nat -> Option TI) (nm : Nat -> Option Nm) (B : Nat) (nt : Nat) (cl : ClK R) (lf : Nat) (st hd : Nat -> Bool) (J : Nat -> List Nat -> NRes -> Option R)
def qnf(c:Code)(ns:List Nat)(fr:PT IV)(S:IS)(ds:List Nat):Option R:=match fk c with
 | none=>none
 | some h=>bd (qbz nt (nm h) B fr S ds) fun x=>J h ns (nz x)
def qcq:Code->List Nat->CdK R
 | .region id ops draw,ps,fr,S,ds,kk=>bd (qbz nt (nm id) B fr S ds) fun x=>cond (st id) (J id ps (nz x)) (qc5 P tt nm B nt cl ops.toList draw x kk)
 | .seq a b,ps,fr,S,ds,kk=>qcq a ps fr S ds fun r=>match r.e with
  | .normal=>qcq b ps r.fr r.S r.ds kk
  | _=>kk r
 | .cond c a b,ps,fr,S,ds,kk=>match evo nt fr c with
  | some (.bool b')=>cond b' (qcq a ps fr S ds kk) (qcq b ps fr S ds kk)
  | _=>none
 | .block id c,ps,fr,S,ds,kk=>qcq c ps fr S ds fun r=>match r.e with
  | .exit id'=>cond (Nat.beq id' id) (kk ⟨.normal,r.fr,r.S,r.ds,r.rd,r.wr⟩) (kk r)
  | _=>kk r
 | .scope c,ps,fr,S,ds,kk=>qcq c ps fr S ds fun r=>match r.e with
  | .goto _=>none
  | _=>kk r
 | .loop c,ps,fr,S,ds,kk=>qnf nm B nt J c (ps++[lf]) fr S ds
 | c,ps,fr,S,ds,kk=>qav P tt nm B nt cl lf none c fr S ds kk
def qcf(k:Nat):Code->List Nat->List Nat->NRes->(CRes->Option R)->Option R
 | .region id ops draw,ps,ns,x,kk=>cond (Nat.beq id k) (qc5 P tt nm B nt cl ops.toList draw x kk) none
 | .seq a b,ps,ns,x,kk=>cond (hasR k a) (qcf k a ps ns x fun r=>match r.e with
  | .normal=>qcq P tt nm B nt cl lf st J b ps r.fr r.S r.ds kk
  | _=>kk r) (qcf k b ps ns x kk)
 | .cond c a b,ps,ns,x,kk=>cond (hasR k a) (qcf k a ps ns x kk) (qcf k b ps ns x kk)
 | .block id c,ps,ns,x,kk=>qcf k c ps ns x fun r=>match r.e with
  | .exit id'=>cond (Nat.beq id' id) (kk ⟨.normal,r.fr,r.S,r.ds,r.rd,r.wr⟩) (kk r)
  | _=>kk r
 | .scope c,ps,ns,x,kk=>qcf k c ps ns x fun r=>match r.e with
  | .goto _=>none
  | _=>kk r
 | .loop c,ps,ns,x,kk=>match ns with
  | []=>none
  | n::ns=>match qc3 nm c with
   | none=>none
   | some m=>qcf k c (ps++[n]) ns x fun r=>cond (subm r.rd m.1&&subm r.wr m.2) (match r.e with
    | .normal=>qnf nm B nt J c (ps++[n]) r.fr r.S r.ds
    | e=>kk (mbR (mB nm B) ⟨e,r.fr,r.S,r.ds,m.1,m.2⟩)) none
 | _,_,_,_,_=>none
end
def okC(nm:Nat->Option Nm)(st hd:Nat->Bool):Code->Option Nat->Bool
 | .region id _ _,o=>match o with|none=>!hd id|some h=>Nat.beq id h&&(st id&&hd id)
 | .seq a b,o=>okC nm st hd a o&&okC nm st hd b none
 | .cond _ a b,o=>o.isNone&&(okC nm st hd a none&&okC nm st hd b none)
 | .block _ c,o=>okC nm st hd c o
 | .scope c,o=>okC nm st hd c o
 | .loop c,o=>o.isNone&&((qc3 nm c).isSome&&(match fk c with|some h=>okC nm st hd c (some h)|none=>false))
 | _,o=>o.isNone
def dnL:List Nat->Option (List Nat)
 | []=>none
 | [n]=>match n with|0=>none|m+1=>some [m]
 | n::m::l=>match dnL (m::l) with|none=>none|some l'=>some (n::l')
def dn(b:Bool)(ns:List Nat):Option (List Nat):=cond b (dnL ns) (some ns)
theorem q8l{b:Bool}{n:Nat}{ns:List Nat}(h:b=true->ns≠[]):dn b (n::ns)=match dn b ns with|none=>none|some l=>some (n::l):=by
 cases b with
 | false=>rfl
 | true=>cases ns with
  | nil=>exact absurd rfl (h rfl)
  | cons m l=>rfl
section
variable {R : Type} {P : Program} {tt : Nat -> Option TI} {nm : Nat -> Option Nm} {B : Nat} {nt : Nat} {cl : Cl} {clK : ClK R} {lf : Nat} {st hd : Nat -> Bool} {J : Nat -> List Nat -> NRes -> Option R}
def Keq(k k':CRes->Option R):Prop:=∀r,r.rd=0->r.wr=0->k r=k' r
theorem mz(hB0:mB nm B=0)(a:Nat):mb (mB nm B) a=0:=by rw[hB0];rfl
theorem q11(hB0:mB nm B=0)(h:ClEq cl clK){ops:List Oper}{draw:Bool}{x:NRes}{k k':CRes->Option R}(hk:Keq k k'):qc5 P tt nm B nt clK ops draw x k=qc5 P tt nm B nt clK ops draw x k':=by
 unfold qc5;cases draw with
 | true =>
  simp only[jab,q55 h];cases iany P tt nt cl ops x.fr x.S with
  | none=>rfl
  | some q=>exact hk _ (mz hB0 _) (mz hB0 _)
 | false =>
  simp only[jae,quf h];cases iseq P tt nt cl ops ops x.fr x.S with
  | none=>rfl
  | some q=>exact hk _ (mz hB0 _) (mz hB0 _)
theorem qi8{h:Nat}:∀{c:Code},okC nm st hd c (some h)=true->fk c=some h/\st h=true/\hd h=true/\h∈regs c
 | .region id _ _,hc=>by
  simp only[okC,jaf] at hc;obtain rfl:=jah hc.1;exact⟨rfl,hc.2.1,hc.2.2,by simp[regs]⟩
 | .seq a b,hc=>by
  simp only[okC,jaf] at hc;obtain⟨h1,h2,h3,h4⟩:=qi8 hc.1;exact⟨by simp only[fk,h1],h2,h3,by simp[regs,h4]⟩
 | .cond _ a b,hc=>by simp[okC] at hc
 | .block _ c,hc=>qi8 (c:=c) hc
 | .scope c,hc=>qi8 (c:=c) hc
 | .loop c,hc=>by simp[okC] at hc
 | .skip,hc=>by simp[okC] at hc
 | .label _,hc=>by simp[okC] at hc
 | .exit _,hc=>by simp[okC] at hc
 | .goto _,hc=>by simp[okC] at hc
 | .ret,hc=>by simp[okC] at hc
 | .refuse _,hc=>by simp[okC] at hc
 | .rangeFunc ..,hc=>by simp[okC] at hc
theorem qnd{h:Nat}:∀{c:Code} {fr:PT IV} {S:IS} {ds:List Nat} {kk:CRes->Option R},okC nm st hd c (some h)=true ->
  qav P tt nm B nt clK lf none c fr S ds kk=bd (qbz nt (nm h) B fr S ds) fun x=>qa6 P tt nm B nt clK lf h c [] x kk
 | .region id ops draw,fr,S,ds,kk,hc=>by
  simp only[okC,jaf] at hc;obtain rfl:=jah hc.1;show bd (qbz nt (nm id) B fr S ds) (fun x=>qc5 P tt nm B nt clK ops.toList draw x kk)=_;simp only[qa6,jb6,jab]
 | .seq a b,fr,S,ds,kk,hc=>by
  simp only[okC,jaf] at hc;simp only[qav,qa6,qmy.2 (qi8 hc.1).2.2.2,jab];exact qnd (c:=a) hc.1
 | .cond _ a b,fr,S,ds,kk,hc=>by simp[okC] at hc
 | .block _ c,fr,S,ds,kk,hc=>qnd (c:=c) hc
 | .scope c,fr,S,ds,kk,hc=>qnd (c:=c) hc
 | .loop c,fr,S,ds,kk,hc=>by simp[okC] at hc
 | .skip,fr,S,ds,kk,hc=>by simp[okC] at hc
 | .label _,fr,S,ds,kk,hc=>by simp[okC] at hc
 | .exit _,fr,S,ds,kk,hc=>by simp[okC] at hc
 | .goto _,fr,S,ds,kk,hc=>by simp[okC] at hc
 | .ret,fr,S,ds,kk,hc=>by simp[okC] at hc
 | .refuse _,fr,S,ds,kk,hc=>by simp[okC] at hc
 | .rangeFunc ..,fr,S,ds,kk,hc=>by simp[okC] at hc
def qcv(P:Program)(tt:Nat->Option TI)(nm:Nat->Option Nm)(B:Nat)(nt:Nat)(clK:ClK R)(lf:Nat)(hd:Nat->Bool)(k:Nat)(c:Code)(ns:List Nat)(x:NRes)(kk:CRes->Option R):Option R:=match dn (hd k) ns with
 | none=>none
 | some ns'=>qa6 P tt nm B nt clK lf k c ns' x kk
def JeqB(P:Program)(tt:Nat->Option TI)(nm:Nat->Option Nm)(B:Nat)(nt:Nat)(clK:ClK R)(lf:Nat)(st hd:Nat->Bool)(J:Nat->List Nat->NRes->Option R)(c:Code)(ps:List Nat)(k':CRes->Option R):Prop :=
 ∀k ns x,k∈regs c->st k=true->(hd k=true->ns≠[])->J k (ps++ns) x=qcv P tt nm B nt clK lf hd k c ns x k'
theorem qy2{k:Nat}{a b:Code}(n3:∀x∈regs a,∀y∈regs b,x≠y)(hi:k∈regs b):hasR k a=false:=by
 cases hb:hasR k a with
 | false=>rfl
 | true=>exact absurd rfl (n3 k (qmy.1 hb) k hi)
theorem JeqB.fst{a b:Code}{ps:List Nat}{k':CRes->Option R}(hJ:JeqB P tt nm B nt clK lf st hd J (.seq a b) ps k'):JeqB P tt nm B nt clK lf st hd J a ps (fun r=>match r.e with
  | .normal=>qav P tt nm B nt clK lf none b r.fr r.S r.ds fun q=>k' (q.or r.rd r.wr)
  | _=>k' r):=fun i ns x hi hs hn=>by
 rw[hJ i ns x (by simp[regs,hi]) hs hn];simp only[qcv,qa6,qmy.2 hi,jab];all_goals rfl
theorem JeqB.snd{a b:Code}{ps:List Nat}{k':CRes->Option R}(n3:∀x∈regs a,∀y∈regs b,x≠y)(hJ:JeqB P tt nm B nt clK lf st hd J (.seq a b) ps k'):JeqB P tt nm B nt clK lf st hd J b ps k':=fun i ns x hi hs hn=>by
 rw[hJ i ns x (by simp[regs,hi]) hs hn];simp only[qcv,qa6,qy2 n3 hi,jae]
theorem JeqB.cond1{c:Operand}{a b:Code}{ps:List Nat}{k':CRes->Option R}(hJ:JeqB P tt nm B nt clK lf st hd J (.cond c a b) ps k'):JeqB P tt nm B nt clK lf st hd J a ps k':=fun i ns x hi hs hn=>by
 rw[hJ i ns x (by simp[regs,hi]) hs hn];simp only[qcv,qa6,qmy.2 hi,jab]
theorem JeqB.cond2{c:Operand}{a b:Code}{ps:List Nat}{k':CRes->Option R}(n3:∀x∈regs a,∀y∈regs b,x≠y)(hJ:JeqB P tt nm B nt clK lf st hd J (.cond c a b) ps k'):JeqB P tt nm B nt clK lf st hd J b ps k':=fun i ns x hi hs hn=>by
 rw[hJ i ns x (by simp[regs,hi]) hs hn];simp only[qcv,qa6,qy2 n3 hi,jae]
theorem JeqB.body{c:Code}{ps:List Nat}{k':CRes->Option R}{m:Nat × Nat}(hm:qc3 nm c=some m)(hJ:JeqB P tt nm B nt clK lf st hd J (.loop c) ps k')(n:Nat):JeqB P tt nm B nt clK lf st hd J c (ps++[n]) (fun r=>cond (subm r.rd m.1&&subm r.wr m.2) (match r.e with
    | .normal=>qec (qav P tt nm B nt clK lf none c) m.1 m.2 n r.fr r.S r.ds fun r=>k' (mbR (mB nm B) r)
    | e=>k' (mbR (mB nm B) ⟨e,r.fr,r.S,r.ds,m.1,m.2⟩)) none):=fun i ns x hi hs hn=>by
 have:=hJ i (n::ns) x hi hs (fun _=>by simp);rw[show ps++(n::ns)=(ps++[n])++ns by simp] at this;rw[this];simp only[qcv,q8l hn];cases dn (hd i) ns with
 | none=>rfl
 | some ns'=>simp only[qa6,hm];all_goals rfl
theorem q41(hB0:mB nm B=0)(ops:List Oper)(draw:Bool)(x:NRes)(kk:CRes->Option R):qc5 P tt nm B nt clK ops draw (nz x) kk=qc5 P tt nm B nt clK ops draw x kk:=by
 unfold qc5 nz mbR;rw[hB0];rfl
theorem qet(hB0:mB nm B=0){k:Nat}:∀(c:Code) (ns:List Nat) (x:NRes) (kk:CRes->Option R),qa6 P tt nm B nt clK lf k c ns (nz x) kk=qa6 P tt nm B nt clK lf k c ns x kk
 | .region id ops draw,ns,x,kk=>by simp only[qa6,q41 hB0]
 | .seq a b,ns,x,kk=>by
  simp only[qa6];rw[qet hB0 a,qet hB0 b]
 | .cond c a b,ns,x,kk=>by
  simp only[qa6];rw[qet hB0 a,qet hB0 b]
 | .block id c,ns,x,kk=>by simp only[qa6];rw[qet hB0 c]
 | .scope c,ns,x,kk=>by simp only[qa6];rw[qet hB0 c]
 | .loop c,ns,x,kk=>by
  cases ns with
  | nil=>rfl
  | cons n ns =>
   simp only[qa6];cases qc3 nm c with
   | none=>rfl
   | some m=>simp only;rw[qet hB0 c]
 | .skip,ns,x,kk=>rfl
 | .label _,ns,x,kk=>rfl
 | .exit _,ns,x,kk=>rfl
 | .goto _,ns,x,kk=>rfl
 | .ret,ns,x,kk=>rfl
 | .refuse _,ns,x,kk=>rfl
 | .rangeFunc ..,ns,x,kk=>rfl
theorem qzv(hB0:mB nm B=0){c:Code}{h:Nat}{ps:List Nat}{k':CRes->Option R}{m:Nat × Nat}(hc:okC nm st hd c (some h)=true)(hm:qc3 nm c=some m)(hJ:JeqB P tt nm B nt clK lf st hd J (.loop c) ps k')(n:Nat)(fr:PT IV)(S:IS)(ds:List Nat) :
  qnf nm B nt J c (ps++[n]) fr S ds=qec (qav P tt nm B nt clK lf none c) m.1 m.2 n fr S ds fun r=>k' (mbR (mB nm B) r):=by
 obtain⟨h1,h2,h3,h4⟩:=qi8 hc;have e:∀x,J h (ps++[n]) (nz x)=qcv P tt nm B nt clK lf hd h (.loop c) [n] x k':=fun x=>by
  rw[hJ h [n] (nz x) h4 h2 (fun _=>by simp)];unfold qcv;cases dn (hd h) [n] with
  | none=>rfl
  | some ns'=>exact qet hB0 _ _ _ _
 simp only[qnf,h1,e,qcv,h3,dn,jab];cases n with
 | zero =>
  simp only[dnL,qec];cases qbz nt (nm h) B fr S ds<;>rfl
 | succ n =>
  simp only[dnL,qa6,hm,qec];rw[qnd hc];all_goals rfl
theorem qxi{b:Code}{ps:List Nat}{k k':CRes->Option R}(ihb:∀fr S ds,qcq P tt nm B nt clK lf st J b ps fr S ds k=qav P tt nm B nt clK lf none b fr S ds k')(hk:Keq k k'):Keq (fun r=>match r.e with
  | .normal=>qcq P tt nm B nt clK lf st J b ps r.fr r.S r.ds k
  | _=>k r) (fun r=>match r.e with
  | .normal=>qav P tt nm B nt clK lf none b r.fr r.S r.ds fun q=>k' (q.or r.rd r.wr)
  | _=>k' r):=fun r h1 h2=>by
 have e:(fun q:CRes=>k' (q.or r.rd r.wr))=k':=by funext q;rw[zo2 h1 h2]
 cases he:r.e<;>simp only[he]<;>first|exact hk r h1 h2|(rw[e];exact ihb _ _ _)
theorem q2l{id:Nat}{k k':CRes->Option R}(hk:Keq k k'):Keq (fun r=>match r.e with
  | .exit id'=>cond (Nat.beq id' id) (k ⟨.normal,r.fr,r.S,r.ds,r.rd,r.wr⟩) (k r)
  | _=>k r) (fun r=>match r.e with
  | .exit id'=>cond (Nat.beq id' id) (k' ⟨.normal,r.fr,r.S,r.ds,r.rd,r.wr⟩) (k' r)
  | _=>k' r):=fun r h1 h2=>by
 cases he:r.e<;>simp only[he]<;>first|exact hk r h1 h2|skip
 rename_i id';cases Nat.beq id' id
 ·exact hk r h1 h2
 ·exact hk _ h1 h2
theorem q4e{k k':CRes->Option R}(hk:Keq k k'):Keq (fun r=>match r.e with
  | .goto _=>none
  | _=>k r) (fun r=>match r.e with
  | .goto _=>none
  | _=>k' r):=fun r h1 h2=>by
 cases he:r.e<;>simp only[he]<;>exact hk r h1 h2
theorem qvz(hB0:mB nm B=0)(h:ClEq cl clK):∀(c:Code) (ps:List Nat) (fr:PT IV) (S:IS) (ds:List Nat) (k k':CRes->Option R),(regs c).Nodup->okC nm st hd c none=true->JeqB P tt nm B nt clK lf st hd J c ps k'->Keq k k' ->
  qcq P tt nm B nt clK lf st J c ps fr S ds k=qav P tt nm B nt clK lf none c fr S ds k':=by
 intro c;induction c with
 | skip=>intro ps fr S ds k k' hn hl hJ hk;exact hk _ rfl rfl
 | label l=>intro ps fr S ds k k' hn hl hJ hk;exact hk _ rfl rfl
 | exit id=>intro ps fr S ds k k' hn hl hJ hk;exact hk _ rfl rfl
 | goto l=>intro ps fr S ds k k' hn hl hJ hk;exact hk _ rfl rfl
 | ret=>intro ps fr S ds k k' hn hl hJ hk;exact hk _ rfl rfl
 | refuse _=>intro ps fr S ds k k' hn hl hJ hk;rfl
 | region id ops draw =>
  intro ps fr S ds k k' hn hl hJ hk;simp only[okC,jch] at hl;show bd (qbz nt (nm id) B fr S ds) (fun x=>cond (st id) (J id ps (nz x)) (qc5 P tt nm B nt clK ops.toList draw x k))=bd (qbz nt (nm id) B fr S ds) (fun x=>qc5 P tt nm B nt clK ops.toList draw x k');cases qbz nt (nm id) B fr S ds with
  | none=>rfl
  | some x =>
   simp only[bd];cases hs:st id with
   | true =>
    have:=hJ id [] (nz x) (by simp[regs]) hs (fun h=>by rw[hl] at h;cases h);rw[jdn] at this;rw[jab,this];simp only[qcv,hl,dn,jae,qa6,jb6,jab];exact q41 hB0 _ _ _ _
   | false=>rw[jae];exact q11 hB0 h hk
 | seq a b iha ihb =>
  intro ps fr S ds k k' hn hl hJ hk;simp only[regs,jdq] at hn;obtain⟨n1,n2,n3⟩:=hn;simp only[okC,jaf] at hl;exact iha ps fr S ds _ _ n1 hl.1 hJ.fst (qxi (fun fr S ds=>ihb ps fr S ds k k' n2 hl.2 (hJ.snd n3) hk) hk)
 | cond c a b iha ihb =>
  intro ps fr S ds k k' hn hl hJ hk;simp only[regs,jdq] at hn;obtain⟨n1,n2,n3⟩:=hn;simp only[okC,jaf] at hl;simp only[qcq,qav];cases evo nt fr c with
  | none=>rfl
  | some v =>
   cases v<;>try rfl
   simp only;rw[iha ps fr S ds k k' n1 hl.2.1 hJ.cond1 hk,ihb ps fr S ds k k' n2 hl.2.2 (hJ.cond2 n3) hk]
 | block id c ih =>
  intro ps fr S ds k k' hn hl hJ hk;exact ih ps fr S ds _ _ hn hl (fun i ns x hi hs hne=>hJ i ns x hi hs hne) (q2l hk)
 | scope c ih =>
  intro ps fr S ds k k' hn hl hJ hk;exact ih ps fr S ds _ _ hn hl (fun i ns x hi hs hne=>hJ i ns x hi hs hne) (q4e hk)
 | loop c ih =>
  intro ps fr S ds k k' hn hl hJ hk;simp only[okC,jaf,Option.isSome_iff_exists] at hl;obtain⟨_,⟨m,hm⟩,hl⟩:=hl;split at hl
  ·rename_i i hi;simp only[qcq,qav,hm];exact qzv hB0 hl hm hJ _ _ _ _
  ·cases hl
 | rangeFunc g ps' assign body ih1 ih2 =>
  intro ps fr S ds k k' hn hl hJ hk;show qav P tt nm B nt clK lf none (.rangeFunc g ps' assign body) fr S ds k=_;rw[qgy h,qgy h];cases hq:qae P tt nm B nt cl lf none (.rangeFunc g ps' assign body) fr S ds with
  | none=>rfl
  | some r =>
   simp only[qae] at hq;obtain⟨r0,_,rfl⟩:=qea hq;exact hk _ (mz hB0 _) (mz hB0 _)
theorem zgd(hB0:mB nm B=0)(h:ClEq cl clK){i0:Nat}:∀(c:Code) (o:Option Nat) (ps ns:List Nat) (x:NRes) (k k':CRes->Option R),(regs c).Nodup->okC nm st hd c o=true->JeqB P tt nm B nt clK lf st hd J c ps k'->Keq k k' ->
  qcf P tt nm B nt clK lf st J i0 c ps ns x k=qa6 P tt nm B nt clK lf i0 c ns x k':=by
 intro c;induction c with
 | skip=>intros;rfl
 | label l=>intros;rfl
 | exit id=>intros;rfl
 | goto l=>intros;rfl
 | ret=>intros;rfl
 | refuse _=>intros;rfl
 | region id ops draw =>
  intro o ps ns x k k' hn hl hJ hk;simp only[qcf,qa6];rw[q11 hB0 h hk]
 | seq a b iha ihb =>
  intro o ps ns x k k' hn hl hJ hk;simp only[regs,jdq] at hn;obtain⟨n1,n2,n3⟩:=hn;simp only[okC,jaf] at hl;simp only[qcf,qa6];rw[ihb none ps ns x k k' n2 hl.2 (hJ.snd n3) hk];rw[iha o ps ns x _ _ n1 hl.1 hJ.fst (qxi (fun fr S ds=>qvz hB0 h b ps fr S ds k k' n2 hl.2 (hJ.snd n3) hk) hk)];all_goals rfl
 | cond c a b iha ihb =>
  intro o ps ns x k k' hn hl hJ hk;simp only[regs,jdq] at hn;obtain⟨n1,n2,n3⟩:=hn;simp only[okC,jaf] at hl;simp only[qcf,qa6];rw[iha none ps ns x k k' n1 hl.2.1 hJ.cond1 hk,ihb none ps ns x k k' n2 hl.2.2 (hJ.cond2 n3) hk]
 | block id c ih =>
  intro o ps ns x k k' hn hl hJ hk;exact ih o ps ns x _ _ hn hl (fun i ns x hi hs hne=>hJ i ns x hi hs hne) (q2l hk)
 | scope c ih =>
  intro o ps ns x k k' hn hl hJ hk;exact ih o ps ns x _ _ hn hl (fun i ns x hi hs hne=>hJ i ns x hi hs hne) (q4e hk)
 | loop c ih =>
  intro o ps ns x k k' hn hl hJ hk;cases ns with
  | nil=>rfl
  | cons n ns =>
  simp only[okC,jaf,Option.isSome_iff_exists] at hl;obtain⟨_,⟨m,hm⟩,hl⟩:=hl;split at hl
  ·rename_i i hi;simp only[qcf,qa6,hm];refine ih (some i) (ps++[n]) ns x _ _ hn hl (hJ.body hm n) (fun r h1 h2=>?_);cases (subm r.rd m.1&&subm r.wr m.2) with
   | false=>rfl
   | true =>
    simp only[jab];cases r.e<;>simp only<;>first|exact qzv hB0 hl hm hJ _ _ _ _|exact hk _ (mz hB0 _) (mz hB0 _)
  ·cases hl
 | rangeFunc g ps' assign body ih1 ih2=>intros;rfl

def atNB(P:Program)(tt:Nat->Option TI)(nm:Nat->Option Nm)(B:Nat)(nt:Nat)(body:Code)(clK:ClK R)(lf:Nat)(hd:Nat->Bool)(kk:CRes->Option R)(k:Nat)(ns:List Nat)(x:NRes):Option R :=
 qcv P tt nm B nt clK lf hd k body ns x kk
theorem zgs(hB0:mB nm B=0){body:Code}{kk:CRes->Option R}(h:ClEq cl clK)(hn:(regs body).Nodup)(hl:okC nm st hd body none=true)(k:Nat)(ns ns':List Nat)(hd':dn (hd k) ns=some ns')(x:NRes) :
  atNB P tt nm B nt body clK lf hd kk k ns x=qcf P tt nm B nt clK lf st (atNB P tt nm B nt body clK lf hd kk) k body [] ns' x kk:=by
 unfold atNB;simp only[qcv,hd'];exact(zgd hB0 h body none [] ns' x _ _ hn hl (fun i ns x _ _ _=>rfl) (fun _ _ _=>rfl)).symm
theorem zmc{body:Code}{kk:CRes->Option R}(k:Nat)(ns:List Nat)(hd':dn (hd k) ns=none)(x:NRes):atNB P tt nm B nt body clK lf hd kk k ns x=none:=by
 unfold atNB;simp only[qcv,hd']
theorem q9g(hB0:mB nm B=0){body:Code}{kk:CRes->Option R}(h:ClEq cl clK)(hn:(regs body).Nodup)(hl:okC nm st hd body none=true)(fr:PT IV)(S:IS) :
  qav P tt nm B nt clK lf none body fr S [] kk=qcq P tt nm B nt clK lf st (atNB P tt nm B nt body clK lf hd kk) body [] fr S [] kk :=
 (qvz hB0 h body [] fr S [] _ _ hn hl (fun i ns x _ _ _=>rfl) (fun _ _ _=>rfl)).symm
end
theorem mB_z(nm:Nat->Option Nm):mB nm 0=0:=by unfold mB;cases frzF nm<;>rfl
def qbc{R:Type}(P:Program)(tt:Nat->Option TI)(nm:Nat->Option Nm)(nt:Nat)(cl:ClK R)(lf:Nat)(st:Nat->Bool)(J:Nat->List Nat->NRes->Option R)(c:Code)(ps:List Nat):CdK R:=qcq P tt nm 0 nt cl lf st J c ps
def qbj{R:Type}(P:Program)(tt:Nat->Option TI)(nm:Nat->Option Nm)(nt:Nat)(cl:ClK R)(lf:Nat)(st:Nat->Bool)(J:Nat->List Nat->NRes->Option R)(k:Nat)(c:Code)(ps ns:List Nat)(x:NRes)(kk:CRes->Option R):Option R:=qcf P tt nm 0 nt cl lf st J k c ps ns x kk
section
variable {P : Program} {tt : Nat -> Option TI} {nm : Nat -> Option Nm} {lf : Nat} {st hd : Nat -> Bool} {cl : Cl}
def atN(P:Program)(tt:Nat->Option TI)(nm:Nat->Option Nm)(fi:FI)(s:Sm)(clK:ClK (ElR s.rts))(lf:Nat)(hd:Nat->Bool)(k:Nat)(ns:List Nat)(x:NRes):Option (ElR s.rts) :=
 atNB P tt nm 0 fi.nt fi.body clK lf hd (qao tt fi s) k ns x
theorem qau{fi:FI}{s:Sm}{clK:ClK (ElR s.rts)}(h:ClEq cl clK)(hn:(regs fi.body).Nodup)(hl:okC nm st hd fi.body none=true)(k:Nat)(ns ns':List Nat)(hd':dn (hd k) ns=some ns')(x:NRes) :
  atN P tt nm fi s clK lf hd k ns x=qbj P tt nm fi.nt clK lf st (atN P tt nm fi s clK lf hd) k fi.body [] ns' x (qao tt fi s):=zgs (mB_z nm) h hn hl k ns ns' hd' x
theorem qax{fi:FI}{s:Sm}{clK:ClK (ElR s.rts)}(k:Nat)(ns:List Nat)(hd':dn (hd k) ns=none)(x:NRes):atN P tt nm fi s clK lf hd k ns x=none:=zmc k ns hd' x
theorem zl8{fi:FI}{s:Sm}{clK:ClK (ElR s.rts)}(h:ClEq cl clK)(hn:(regs fi.body).Nodup)(hl:okC nm st hd fi.body none=true)(fr:PT IV) :
  qav P tt nm 0 fi.nt clK lf none fi.body fr S0 [] (qao tt fi s)=qbc P tt nm fi.nt clK lf st (atN P tt nm fi s clK lf hd) fi.body [] fr S0 [] (qao tt fi s):=q9g (mB_z nm) h hn hl fr S0
end

def qas{α R:Type}(T:(α->Option R)->α->Option R):Nat->α->Option R
 | 0,_=>none
 | n+1,a=>T (qas T n) a
end Go.Jx
end

section
namespace Go.Jx
open Go Go.Sx Go.RowKit
universe u

def idxO{α:Type}(p:α->Option Bool):List α->Nat->Option Int
 | [],_=>some (-1)
 | x::l,i=>match p x with
  | none=>none
  | some b=>cond b (some (Int.ofNat i)) (idxO p l (i+1))
theorem q0m{α:Type}{p:α->Option Bool}{q:α->Bool}:∀{l:List α} {i:Nat},(∀x∈l,p x=some (q x))->idxO p l i=some (match l.findIdx? q with|some j=>Int.ofNat (i+j)|none=>-1)
 | [],i,h=>rfl
 | x::l,i,h=>by
  unfold idxO;rw[h x jbq,je3];cases hq:q x with
  | true=>rfl
  | false =>
   simp only[jae];rw[q0m fun y hy=>h y (jbc _ hy)];cases l.findIdx? q with
   | none=>rfl
   | some j=>exact jcd (fun n=>some (Int.ofNat n)) (show i+1+j=i+(j+1) by omega)
def below(N:Nat):Nat:=2 ^ N-1
def ansB(m:Nat)(r:Res):Option Bool:=match r.v with
 | .bool b=>cond (Nat.beq r.wr 0&&subm r.rd m) (some b) none
 | _=>none
def idxF(c:TC)(cl:Cl)(vs:List IV)(S:IS):Option Res:=match vs with
 | [.lst c' l,.fn g caps]=>match qbt c' c l with
  | none=>none
  | some l=>match idxO (fun x=>ob (cl (.fn g) (asIV c x::caps) S) (ansB (below S.next))) l 0 with
   | none=>none
   | some i=>some ⟨.int .i64 i,S,below S.next,0⟩
 | _=>none
def idxK(c:TC)(clP:ClP)(R:Type)(vs:List IV)(S:IS)(kk:Res->Option R):Option R:=match vs with
 | [.lst c' l,.fn g caps]=>match qbt c' c l with
  | none=>none
  | some l=>match idxO (fun x=>clP Bool (.fn g) (asIV c x::caps) S (ansB (below S.next))) l 0 with
   | none=>none
   | some i=>kk ⟨.int .i64 i,S,below S.next,0⟩
 | _=>none
theorem zjo(c:TC)(cl:Cl)(clP:ClP)(h:∀R,ClEq cl (clP R))(R:Type)(vs:List IV)(S:IS)(kk:Res->Option R):idxK c clP R vs S kk=ob (idxF c cl vs S) kk:=by
 unfold idxK idxF;split
 ·rename_i c' l g caps;cases qbt c' c l with
  | none=>rfl
  | some l =>
   simp only[h Bool _ _ _ _];cases idxO (fun x=>ob (cl (.fn g) (asIV c x::caps) S) (ansB (below S.next))) l 0<;>rfl
 ·rfl
def qqt(c:TC):Hx:=⟨idxF c,idxK c,zjo c⟩
theorem qsr{c:TC}{cl:Cl}{vs:List IV}{S:IS}{r:Res}(h:idxF c cl vs S=some r):∃c' l0 g caps l i,vs=[.lst c' l0,.fn g caps]/\qbt c' c l0=some l/\idxO (fun x=>ob (cl (.fn g) (asIV c x::caps) S) (ansB (below S.next))) l 0=some i/\r=⟨.int .i64 i,S,below S.next,0⟩:=by
 unfold idxF at h;split at h
 ·rename_i c' l g caps;cases hr:qbt c' c l with
  | none=>rw[hr] at h;cases h
  | some l2 =>
   rw[hr] at h;simp only at h;split at h<;>cases h;rename_i i hi;exact⟨_,_,_,_,_,_,rfl,hr,hi,rfl⟩
 ·cases h

def tup(ss:List Nat)(r:CRes):IEx × List IV × IS × List Nat × Nat × Nat:=(r.e,ss.map (slot r.fr),r.S,r.ds,r.rd,r.wr)
theorem qe7(B:Nat):mb B 0=0:=by unfold mb;cases Nat.beq B 0<;>rfl
theorem qfb(a:Nat):Nat.lor a 0=a:=je1 a
theorem qvb(a:Nat):Nat.lor 0 a=a:=jdi a
theorem qf1{P:Program}{tt:Nat->Option TI}{nm:Nat->Option Nm}{B nt lf:Nat}{cl:Cl}{c:Code}{fr:PT IV}{S:IS}{ds:List Nat}{ss:List Nat}{y:IEx × List IV × IS × List Nat × Nat × Nat}
  (h:qav P tt nm B nt (fun t vs S kk=>ob (cl t vs S) kk) lf none c fr S ds (fun r=>some (tup ss r))=some y):∃r,qae P tt nm B nt cl lf none c fr S ds=some r/\tup ss r=y:=by
 rw[qgy (cl:=cl) (fun _ _ _ _=>rfl)] at h;cases hr:qae P tt nm B nt cl lf none c fr S ds with
 | none=>rw[hr] at h;cases h
 | some r=>rw[hr] at h;cases h;exact⟨r,rfl,rfl⟩
theorem q7j{fr fr':PT IV}:∀{l:List Nat} {r:PT IV},(∀t∈l,slot fr t=slot fr' t)->qgu fr l r=qgu fr' l r
 | [],r,h=>rfl
 | t::l,r,h=>by
  unfold qgu;rw[h t jbq];exact q7j fun k hk=>h k (jbc _ hk)
theorem qg3{P:Program}{tt:Nat->Option TI}{nm:Nat->Option Nm}{B nt lf:Nat}{cl:Cl}{m:Nm}{h:Nat}(hm:nm h=some m)(hf:m.fo=true){fr fr':PT IV}(hs:∀t∈m.keep,slot fr t=slot fr' t) :
  ∀{c:Code} {S:IS} {ds:List Nat},okC nm (fun k=>Nat.beq k h) (fun k=>Nat.beq k h) c (some h)=true->qae P tt nm B nt cl lf none c fr S ds=qae P tt nm B nt cl lf none c fr' S ds
 | .region id ops draw,S,ds,hc=>by
  simp only[okC,jaf] at hc;obtain rfl:=jah hc.1;simp only[qae,hm,qbz,hf,jab,q7j hs]
 | .seq a b,S,ds,hc=>by
  simp only[okC,jaf] at hc;simp only[qae];rw[qg3 hm hf hs (c:=a) hc.1]
 | .cond _ a b,S,ds,hc=>by simp[okC] at hc
 | .block _ c,S,ds,hc=>by
  simp only[qae];rw[qg3 hm hf hs (c:=c) hc]
 | .scope c,S,ds,hc=>by
  simp only[qae];rw[qg3 hm hf hs (c:=c) hc]
 | .loop c,S,ds,hc=>by simp[okC] at hc
 | .skip,S,ds,hc=>by simp[okC] at hc
 | .label _,S,ds,hc=>by simp[okC] at hc
 | .exit _,S,ds,hc=>by simp[okC] at hc
 | .goto _,S,ds,hc=>by simp[okC] at hc
 | .ret,S,ds,hc=>by simp[okC] at hc
 | .refuse _,S,ds,hc=>by simp[okC] at hc
 | .rangeFunc ..,S,ds,hc=>by simp[okC] at hc
def nmI(k:Nat)(keep:List Nat)(mr:Nat):Nat->Option Nm:=fun j=>cond (Nat.beq j k) (some ⟨keep,[],[],[],[],mr,0,true⟩) none
theorem mB_I(keep:List Nat)(mr B:Nat):mB (nmI 2 keep mr) B=B:=rfl
def frI(c:TC)(l:List (El c))(g:Nat)(caps:List IV)(i:Int):PT IV:=(((PT.leaf.set (.lst c l) 0).set (.fn g caps) 1).set (.int .i64 (Int.ofNat l.length)) 7).set (.int .i64 i) 8
def frA(c:TC)(l:List (El c))(g:Nat)(caps:List IV):PT IV:=(qay [.lst c l,.fn g caps] 0 .leaf).set (.int .i64 0) 4
def frB(c:TC)(l:List (El c))(g:Nat)(caps:List IV):PT IV:=(((frA c l g caps).set (.lst c l) 6).set (.int .i64 (Int.ofNat l.length)) 7).set (.int .i64 0) 8
structure IdxFacts (P:Program) (tt:Nat->Option TI) (c:TC) (fi:FI) (A B L C:Code):Prop where
 body:fi.body=.seq A (.seq (.seq B (.block 0 (.loop L))) C)
 two:Nat.ble 2 fi.nt=true
 head:∀mr,okC (nmI 2 [0,1,7,8] mr) (fun k=>Nat.beq k 2) (fun k=>Nat.beq k 2) L (some 2)=true
 a:∀(R:Type) (clK:ClK R) (B0 mr lf:Nat) (l:List (El c)) (g:Nat) (caps:List IV) (S:IS) (kk:CRes->Option R),qav P tt (nmI 2 [0,1,7,8] mr) B0 fi.nt clK lf none A (qay [.lst c l,.fn g caps] 0 .leaf) S [] kk=kk ⟨.normal,frA c l g caps,S,[],mb B0 0,mb B0 0⟩
 b:∀(R:Type) (clK:ClK R) (B0 mr lf:Nat) (l:List (El c)) (g:Nat) (caps:List IV) (S:IS) (kk:CRes->Option R),qav P tt (nmI 2 [0,1,7,8] mr) B0 fi.nt clK lf none B (frA c l g caps) S [] kk=kk ⟨.normal,frB c l g caps,S,[],mb B0 0,mb B0 0⟩
 l:∀(R:Type) (clK:ClK R) (B0 mr lf:Nat) (l:List (El c)) (g:Nat) (caps:List IV) (S:IS) (i:Int) (kk:_->Option R),qav P tt (nmI 2 [0,1,7,8] mr) B0 fi.nt clK lf none L (frI c l g caps i) S [] (fun r=>kk (tup [0,1,4,7,8] r)) =
   cond (iltI i (Int.ofNat l.length)) (match jget l i with
     | none=>none
     | some x=>clK (.fn g) (asIV c x::caps) S fun r=>match qbi r.v with
      | some p=>kk (.pan p,[.lst c l,.fn g caps,.unk,.int .i64 (Int.ofNat l.length),.int .i64 i],r.S,[],(mb B0 0).lor (Nat.lor 0 ((mb B0 0).lor (mb B0 (Nat.lor 0 (Nat.lor 0 (Nat.lor 0 (Nat.lor 0 (Nat.lor 0 r.rd)))))))),(mb B0 0).lor (Nat.lor 0 ((mb B0 0).lor (mb B0 (Nat.lor 0 (Nat.lor 0 (Nat.lor 0 (Nat.lor 0 (Nat.lor 0 (Nat.lor 0 r.wr))))))))))
      | none=>match r.v with
       | .bool b=>cond b
         (kk (.ret,[.lst c l,.fn g caps,.int .i64 i,.int .i64 (Int.ofNat l.length),.int .i64 i],r.S,[],(mb B0 0).lor (Nat.lor 0 ((mb B0 0).lor ((mb B0 (Nat.lor 0 (Nat.lor 0 (Nat.lor 0 (Nat.lor 0 (Nat.lor 0 (r.rd.lor 0))))))).lor ((mb B0 0).lor 0)))),
           (mb B0 0).lor (Nat.lor 0 ((mb B0 0).lor ((mb B0 (Nat.lor 0 (Nat.lor 0 (Nat.lor 0 (Nat.lor 0 (Nat.lor 0 (Nat.lor 0 (r.wr.lor 0)))))))).lor ((mb B0 0).lor 0))))))
         (kk (.normal,[.lst c l,.fn g caps,.unk,.int .i64 (Int.ofNat l.length),.int .i64 (IntKind.i64.wrap (i+1))],r.S,[],(mb B0 0).lor (Nat.lor 0 (((mb B0 0).lor ((mb B0 (Nat.lor 0 (Nat.lor 0 (Nat.lor 0 (Nat.lor 0 (Nat.lor 0 (r.rd.lor 0))))))).lor 0)).lor (mb B0 0))),
           (mb B0 0).lor (Nat.lor 0 (((mb B0 0).lor ((mb B0 (Nat.lor 0 (Nat.lor 0 (Nat.lor 0 (Nat.lor 0 (Nat.lor 0 (Nat.lor 0 (r.wr.lor 0)))))))).lor 0)).lor (mb B0 0)))))
       | _=>none)
     (kk (.exit 0,[.lst c l,.fn g caps,.unk,.int .i64 (Int.ofNat l.length),.int .i64 i],S,[],(mb B0 0).lor 0,(mb B0 0).lor 0))
 e:∀(R:Type) (clK:ClK R) (B0 mr lf:Nat) (fr:PT IV) (S:IS) (kk:CRes->Option R),qav P tt (nmI 2 [0,1,7,8] mr) B0 fi.nt clK lf none C fr S [] kk=kk ⟨.ret,fr.set (.int .i64 (-1)) 4,S,[],(mb B0 0).lor 0,(mb B0 0).lor 0⟩
 res:fi.res=[.tmp 4]
 nt4:Nat.blt 4 fi.nt=true
 lm:∀mr,qc3 (nmI 2 [0,1,7,8] mr) L=some (mr,0)
variable {P : Program} {tt : Nat -> Option TI} {c : TC} {fi : FI} {A B L C : Code}
theorem zof(a:Nat):subm a a=true:=by unfold subm;rw[Nat.or_self];exact jb6 a
theorem qin(a:Nat):subm 0 a=true:=by unfold subm;rw[jdi];exact jb6 a
theorem qny{B0 a m:Nat}(h:subm a m=true):subm (mb B0 a) m=true:=by
 unfold mb;cases Nat.beq B0 0
 ·exact h
 ·exact qin m
theorem zqn(F:IdxFacts P tt c fi A B L C){cl:Cl}(hcalm:Calm cl){l:List (El c)}(hl:l.length*bsz c<=140737488355328){g:Nat}{caps:List IV}{S:IS}{i:Int}{lf:Nat}:∀(rest pre:List (El c)) (fuel:Nat) (fr:PT IV),
  l=pre++rest->rest.length<fuel->(slot fr 0=.lst c l/\slot fr 1=.fn g caps/\slot fr 7=.int .i64 (Int.ofNat l.length)/\slot fr 8=.int .i64 (Int.ofNat pre.length)) ->
  idxO (fun x=>ob (cl (.fn g) (asIV c x::caps) S) (ansB (below S.next))) rest pre.length=some i ->
  ∃r,qbs (qae P tt (nmI 2 [0,1,7,8] (below S.next)) S.next fi.nt cl lf none L) (below S.next) 0 fuel fr S []=some r/\r.S=S/\r.ds=[]/\r.wr=0/\((r.e=.ret/\slot r.fr 4=.int .i64 i)\/(r.e=.exit 0/\i=-1)):=by
 intro rest;induction rest with
 | nil =>
  intro pre fuel fr hp hf hs hi;cases fuel with
  | zero=>exact absurd hf (by simp)
  | succ n =>
  cases hi;have e1:=qg3 (P:=P) (tt:=tt) (B:=S.next) (nt:=fi.nt) (lf:=lf) (cl:=cl) (h:=2) (m:=⟨[0,1,7,8],[],[],[],[],below S.next,0,true⟩) rfl rfl (fr:=fr) (fr':=frI c l g caps (Int.ofNat pre.length)) (by
   intro t ht;simp only[ja1,jdk,or_false] at ht;rcases ht with rfl|rfl|rfl|rfl
   ·exact hs.1
   ·exact hs.2.1
   ·exact hs.2.2.1
   ·exact hs.2.2.2) (c:=L) (S:=S) (ds:=[]) (F.head _)
  have e2:=F.l (IEx × List IV × IS × List Nat × Nat × Nat) (fun t vs S kk=>ob (cl t vs S) kk) S.next (below S.next) lf l g caps S (Int.ofNat pre.length) some
  rw[show iltI (Int.ofNat pre.length) (Int.ofNat l.length)=false by rw[qan,hp];simp,jae] at e2;obtain⟨r,hr,ht⟩:=qf1 e2;simp only[tup,jcj,qe7,qfb] at ht;obtain⟨t1,t2,t3,t4,t5,t6⟩:=ht;refine⟨⟨.exit 0,r.fr,S,[],below S.next,0⟩,?_,rfl,rfl,rfl,.inr ⟨rfl,rfl⟩⟩;unfold qbs;rw[e1];have hr':qae P tt (nmI 2 [0,1,7,8] (below S.next)) S.next fi.nt cl lf none L (frI c l g caps (Int.ofNat pre.length)) S []=some r:=hr
  simp only[hr',t5,t6,qin,jc9,jab,t1,t3,t4]
 | cons x rest ih =>
  intro pre fuel fr hp hf hs hi;cases fuel with
  | zero=>exact absurd hf (by simp)
  | succ n =>
  have e1:=qg3 (P:=P) (tt:=tt) (B:=S.next) (nt:=fi.nt) (lf:=lf) (cl:=cl) (h:=2) (m:=⟨[0,1,7,8],[],[],[],[],below S.next,0,true⟩) rfl rfl (fr:=fr) (fr':=frI c l g caps (Int.ofNat pre.length)) (by
   intro t ht;simp only[ja1,jdk,or_false] at ht;rcases ht with rfl|rfl|rfl|rfl
   ·exact hs.1
   ·exact hs.2.1
   ·exact hs.2.2.1
   ·exact hs.2.2.2) (c:=L) (S:=S) (ds:=[]) (F.head _)
  have e2:=F.l (IEx × List IV × IS × List Nat × Nat × Nat) (fun t vs S kk=>ob (cl t vs S) kk) S.next (below S.next) lf l g caps S (Int.ofNat pre.length) some
  have hlen:l.length=pre.length+(rest.length+1):=by rw[hp];simp
  rw[show iltI (Int.ofNat pre.length) (Int.ofNat l.length)=true by rw[qan];simp;omega,jab,
   show jget l (Int.ofNat pre.length)=some x by unfold jget;rw[jam (by simp)];rw[hp];simp] at e2
  simp only at e2;unfold idxO at hi;cases hc:cl (.fn g) (asIV c x::caps) S with
  | none=>rw[hc] at hi;cases hi
  | some r0 =>
  rw[hc] at hi e2;simp only[ob] at hi e2;cases hv:r0.v<;>simp only[ansB,hv] at hi<;>try (cases hi;done)
  rename_i b;cases hmk:(Nat.beq r0.wr 0&&subm r0.rd (below S.next)) with
  | false=>rw[hmk] at hi;cases hi
  | true =>
  rw[hmk] at hi;simp only[jaf] at hmk;have hw0:r0.wr=0:=jah hmk.1;have hS:r0.S=S:=hcalm _ _ _ _ hc hw0 (by rw[hv];rfl);simp only[hv,qbi,hS,hw0,qe7,qfb,qvb] at e2;simp only[jab] at hi;have hsm:subm (mb S.next r0.rd) (below S.next)=true:=qny hmk.2;cases b with
  | true =>
   cases hi;rw[jab] at e2;obtain⟨r,hr,ht⟩:=qf1 e2;simp only[tup,jcj,jcc,jc4] at ht;obtain⟨t1,t2,t3,t4,t5,t6⟩:=ht;refine⟨⟨.ret,r.fr,S,[],below S.next,0⟩,?_,rfl,rfl,rfl,.inl ⟨rfl,t2.2.2.1⟩⟩;unfold qbs;rw[e1];have hr':qae P tt (nmI 2 [0,1,7,8] (below S.next)) S.next fi.nt cl lf none L (frI c l g caps (Int.ofNat pre.length)) S []=some r:=hr
   simp only[hr',t5,t6,hsm,qin,jc9,jab,t1,t3,t4]
  | false =>
   rw[jae] at e2 hi;obtain⟨r,hr,ht⟩:=qf1 e2;simp only[tup,jcj,jcc,jc4] at ht;obtain⟨t1,t2,t3,t4,t5,t6⟩:=ht;have hw:IntKind.i64.wrap (Int.ofNat pre.length+1)=Int.ofNat (pre++[x]).length:=by
    rw[show Int.ofNat (pre++[x]).length=Int.ofNat pre.length+1 by simp];refine qia ?_;have hb:1<=bsz c:=qkm c;have:l.length*1<=l.length*bsz c:=jcm _ hb;simp;omega
   obtain⟨q,q1,q2⟩:=ih (pre++[x]) n r.fr (by rw[hp];simp) (by simp at hf;omega) ⟨t2.1,t2.2.1,t2.2.2.2.1,by rw[<- hw];exact t2.2.2.2.2.1⟩ (by rw[show (pre++[x]).length=pre.length+1 by simp];exact hi);refine⟨q,?_,q2⟩;unfold qbs;rw[e1];have hr':qae P tt (nmI 2 [0,1,7,8] (below S.next)) S.next fi.nt cl lf none L (frI c l g caps (Int.ofNat pre.length)) S []=some r:=hr
   simp only[hr',t5,t6,hsm,qin,jc9,jab,t1,t3,t4];exact q1
where qkm:∀c:TC,1<=bsz c
 | .int k=>by cases k<;>simp [bsz]
 | .bool=>by simp[bsz]
 | .str=>by simp[bsz]
 | .list _=>by simp[bsz]
 | .two a b=>by have:=qkm a;simp only[bsz];omega

theorem runK{nm:Nat->Option Nm}{B nt lf:Nat}{cl:Cl}{c:Code}{fr:PT IV}{S:IS}{ds:List Nat}{y:CRes}
  (h:qav P tt nm B nt (fun t vs S kk=>ob (cl t vs S) kk) lf none c fr S ds some=some y):qae P tt nm B nt cl lf none c fr S ds=some y:=by
 rw[qgy (cl:=cl) (fun _ _ _ _=>rfl)] at h;cases hr:qae P tt nm B nt cl lf none c fr S ds with
 | none=>rw[hr] at h;cases h
 | some r=>rw[hr] at h;cases h;rfl
theorem q5l{T:Nat->Prop}{n a:Nat}(h:tin T (below n)):tin T (a % 2 ^ n):=fun j hj=>h j (by
 rw[jdh] at hj;simp only[jaf,jax] at hj;unfold below;rw[jdo];simpa using hj.1)
theorem zks{E:Env}{c:TC}{l:List (El c)}{u:Value}(h:VR E (.lst c l) u):l.length*bsz c<=140737488355328:=by
 cases h with
 | lst0 hc=>simp
 | lst us h1 h2 h3 hb hh hc hu=>exact h3
theorem q1a{f:Nat}{nm:Nat->Option Nm}{lf:Nat}{cl:Cl}{vs:List IV}{S:IS}{fr:PT IV}{e:IEx}{rd:Nat}{k:IntKind}{i:Int}{t:Nat}(hz:frzF nm=false)(hm:P.follows .mixedOrders=true)(htt:TT P tt)(hfi:FIok P f fi)(hcl:ClOK P cl)(hfr:ClFr cl)
  (hb:Nat.ble vs.length fi.nt=true) (hr:qae P tt nm S.next fi.nt cl lf none fi.body (qay vs 0 .leaf) S []=some ⟨e,fr,S,[],rd,0⟩) (he:e.leaves=true) (hres:fi.res=[.tmp t]) (hnt:Nat.blt t fi.nt=true) (hs:slot fr t=.int k i)
  {T:TW} {E:Env} {us:List Value} (p:Pre T E S) (hrd:tin T.r (below S.next)) (hv:VRs E vs us) (hnp:e.isPan=false:=by rfl):qai P f/\CallsIn Fence.wide 0 P f us.toArray E.w (RetE T E S ⟨.int k i,S,below S.next,0⟩):=by
 refine(fun x=>⟨x.1,x.2.mono fun _ _ h=>RetX.val h rfl⟩) <| qsa (fi:=fi) (r:=⟨.int k i,S,(rd ||| 0) % 2 ^ S.next,0⟩) hz hm htt hfi hcl hfr hb hr he ?_ p (q5l hrd) (fun j hj=>by simp at hj) hv;have e1:qe6 ([]:List Nat) S=some (S,0):=rfl;simp only[qdg,e1,hres,ires,hnt,jab,hs];cases e<;>first|(cases hnp;done)|skip
 all_goals simp only[tupI,Nat.or_self,igc,Nat.zero_mod,low2,low0,jb6,jc9,jab]
theorem qss{f:Nat}(F:IdxFacts P tt c fi A B L C)(hm:P.follows .mixedOrders=true)(htt:TT P tt)(hfi:FIok P f fi):HxOK P f (idxF c):=by
 refine HxOK.of (fun cl hcl hfr hcalm vs S r h T E us p hrd hwr hv=>?_) (fun cl hfr vs S r h=>?_) (fun cl hcalm vs S r h _ _=>?_)
 ·obtain⟨c',l1,g,caps,l0,i,rfl,hrc,hi,rfl⟩:=qsr h;obtain⟨rfl,rfl⟩:=qcj hrc;have hlen:l0.length*bsz c'<=140737488355328:=by
   obtain⟨u,us,_,a1,_⟩:=hv.inv;exact zks a1
  have ha:=runK (F.a CRes (fun t vs S kk=>ob (cl t vs S) kk) S.next (below S.next) (l0.length+1) l0 g caps S some);have hb:=runK (F.b CRes (fun t vs S kk=>ob (cl t vs S) kk) S.next (below S.next) (l0.length+1) l0 g caps S some);obtain⟨r,hr,hS,hds,hw,hcase⟩:=zqn F hcalm hlen (lf:=l0.length+1) l0 [] (l0.length+1) (frB c' l0 g caps) rfl (Nat.lt_succ_self _) ⟨rfl,rfl,rfl,rfl⟩ hi;obtain⟨re,rfr,rS,rds,rrd,rwr⟩:=r;simp only at hS hds hw hcase;subst hS;subst hds;subst hw;rcases hcase with ⟨he,hs⟩|⟨he,hi2⟩
  ·subst he;refine q1a (vs:=[.lst c' l0,.fn g caps]) (nm:=nmI 2 [0,1,7,8] (below rS.next)) (lf:=l0.length+1) (fr:=rfr) (e:=.ret) (k:=.i64) (i:=i) (t:=4) (rd:=mb rS.next rrd) rfl hm htt hfi hcl hfr F.two ?_ rfl F.res F.nt4 hs p hrd hv;rw[F.body];simp only[qae,ha,hb,F.lm,hr,mbO,mbR,mB_I,qe7,CRes.or,jdi]
  ·subst he;subst hi2;have hc:=runK (F.e CRes (fun t vs S kk=>ob (cl t vs S) kk) rS.next (below rS.next) (l0.length+1) rfr rS some);refine q1a (vs:=[.lst c' l0,.fn g caps]) (nm:=nmI 2 [0,1,7,8] (below rS.next)) (lf:=l0.length+1) (fr:=rfr.set (.int .i64 (-1)) 4) (e:=.ret) (k:=.i64) (i:=-1) (t:=4) (rd:=mb rS.next rrd) rfl hm htt hfi hcl hfr F.two ?_ rfl F.res F.nt4 (by rw[qdh,jam rfl]) p hrd hv;rw[F.body];simp only[qae,ha,hb,F.lm,hr,mbO,mbR,mB_I,qe7,CRes.or,jdi,jb6,jab,hc,qfb,je1]
 ·obtain⟨_,_,_,_,_,_,_,_,_,rfl⟩:=qsr h;exact FrO.same _ rfl
 ·obtain⟨_,_,_,_,_,_,_,_,_,rfl⟩:=qsr h;rfl
def cL:Code->Code
 | .seq a _=>a
 | c=>c
def cR:Code->Code
 | .seq _ b=>b
 | c=>c
def cB:Code->Code
 | .block _ c=>c
 | .loop c=>c
 | .scope c=>c
 | c=>c
end Go.Jx
end

section
namespace Go.Jx
open Go Go.Sx Go.RowKit
universe u

def smL:List (Nat × Sm)->Nat->Option Sm
 | [],_=>none
 | e::l,f=>cond (Nat.beq f e.1) (some e.2) (smL l f)
def SmOK(P:Program):List (Nat × Sm)->Prop
 | []=>True
 | e::l=>Con P e.1 e.2/\SmOK P l
theorem q2o{P:Program}:∀{l:List (Nat × Sm)},SmOK P l->∀f s,smL l f=some s->Con P f s
 | [],_,f,s,h=>by cases h
 | e::l,hl,f,s,h=>by
  unfold smL at h;cases hb:Nat.beq f e.1 with
  | true=>rw[hb,jab] at h;cases h;rw[jah hb];exact hl.1
  | false=>rw[hb,jae] at h;exact q2o hl.2 f s h
def hxL:List (Nat × Hx)->Nat->Option Hx
 | [],_=>none
 | e::l,f=>cond (Nat.beq f e.1) (some e.2) (hxL l f)
def qbb(P:Program):List (Nat × Hx)->Prop
 | []=>True
 | e::l=>HxOK P e.1 e.2.f/\qbb P l
theorem qzf{P:Program}:∀{l:List (Nat × Hx)},qbb P l->∀f s,hxL l f=some s->HxOK P f s.f
 | [],_,f,s,h=>by cases h
 | e::l,hl,f,s,h=>by
  unfold hxL at h;cases hb:Nat.beq f e.1 with
  | true=>rw[hb,jab] at h;cases h;rw[jah hb];exact hl.1
  | false=>rw[hb,jae] at h;exact qzf hl.2 f s h
def nm1(f:Nat)(nmf:Nat->Option Nm):Nat->Nat->Option Nm:=fun g=>cond (Nat.beq g f) nmf fun _=>none
theorem zlp(f:Nat)(nmf:Nat->Option Nm):nm1 f nmf f=nmf:=by unfold nm1;rw[jb6,jab]
theorem conT{P:Program}{tt:Nat->Option TI}{ft:Nat->Option FI}{sml:List (Nat × Sm)}{hxl:List (Nat × Hx)}{f:Nat}{s:Sm}{fi:FI}{nmf:Nat->Option Nm}{st hd:Nat->Bool}(n:Nat)(hm:P.follows .mixedOrders=true)(htt:TT P tt)(hft:FT P ft)(hsm:SmOK P sml)
  (hhx:qbb P hxl) (hC:qai P f) (h1:smL sml f=none) (h2:hxL hxl f=none) (h3:ft f=some fi) (h4:∀x,Nat.ble (argV s.pts x).length fi.nt=true) (hn:(regs fi.body).Nodup) (hl:okC nmf st hd fi.body none=true)
  (hrun:∀(x:ElA s.pts) (y:ElR s.rts),WfA s.pts x->s.f x=some y->∃lf,
   qbc P tt nmf fi.nt (qa3 P tt ft (nm1 f nmf) (smL sml) (hxL hxl) lf n (ElR s.rts)) lf st (atN P tt nmf fi s (qa3 P tt ft (nm1 f nmf) (smL sml) (hxL hxl) lf n (ElR s.rts)) lf hd) fi.body [] (qay (argV s.pts x) 0 .leaf) S0 [] (qao tt fi s)=some y) (hz:frzF nmf=false:=by rfl):Con P f s:=by
 refine conK (nm:=nm1 f nmf) (sm:=smL sml) (hx:=hxL hxl) hm htt hft (q2o hsm) (qzf hhx) hC fun x y hx2 hy=>?_;obtain⟨lf,hr⟩:=hrun x y hx2 hy;refine⟨n+1,lf,?_⟩;rw[<- zl8 (qaq n _) hn hl] at hr;have e:=zlp f nmf;unfold qa3;simp only[h1,h2,h3,h4,jab,e,hz,jae];exact hr
theorem conU{P:Program}{tt:Nat->Option TI}{ft:Nat->Option FI}{sml:List (Nat × Sm)}{hxl:List (Nat × Hx)}{f:Nat}{pts:List TC}{rts:List (Bool × TC)}{g:ElA pts->Option (ElR rts)}{fi:FI}(F:Nat->ElA pts->Option (ElR rts))(hm:P.follows .mixedOrders=true/\TT P tt/\FT P ft)
  (hC:qai P f) (hhx:qbb P hxl) (hsm:SmOK P sml) (hg:∀x y,WfA pts x->g x=some y->∃lf,F lf x=some y) (h1:smL sml f=none:=by rfl) (h2:hxL hxl f=none:=by rfl) (h3:ft f=some fi:=by kernel_rfl) (h4:∀x,Nat.ble (argV pts x).length fi.nt=true:=by intro x;kernel_rfl) (hn:(regs fi.body).Nodup:=by decide +kernel)
  (hl:okC (fun _=>none) (fun _=>false) (fun _=>false) fi.body none=true:=by kernel_rfl)
  (hrun:∀lf J x,qbc P tt (fun _=>none) fi.nt (qa3 P tt ft (nm1 f fun _=>none) (smL sml) (hxL hxl) lf 20 (ElR rts)) lf (fun _=>false) J fi.body [] (qay (argV pts x) 0 .leaf) S0 [] (qao tt fi ⟨pts,rts,g⟩)=F lf x:=by intro lf J x;kernel_rfl):Con P f ⟨pts,rts,g⟩ :=
 conT 20 hm.1 hm.2.1 hm.2.2 hsm hhx hC h1 h2 h3 h4 hn hl fun x y hx hy=>by
  obtain⟨lf,h⟩:=hg x y hx hy;exact⟨lf,(hrun lf _ x).trans h⟩
theorem conV{P:Program}{tt:Nat->Option TI}{ft:Nat->Option FI}{sml:List (Nat × Sm)}{hxl:List (Nat × Hx)}{f:Nat}{pts:List TC}{rts:List (Bool × TC)}{g:ElA pts->Option (ElR rts)}{fi:FI}{nmf:Nat->Option Nm}{st hd:Nat->Bool}(F:Nat->ElA pts->Option (ElR rts))(hm:P.follows .mixedOrders=true/\TT P tt/\FT P ft)
  (hC:qai P f) (hhx:qbb P hxl) (hn:(regs fi.body).Nodup) (hl:okC nmf st hd fi.body none=true)
  (hrun:∀lf x,qbc P tt nmf fi.nt (qa3 P tt ft (nm1 f nmf) (smL sml) (hxL hxl) lf 20 (ElR rts)) lf st (atN P tt nmf fi ⟨pts,rts,g⟩ (qa3 P tt ft (nm1 f nmf) (smL sml) (hxL hxl) lf 20 (ElR rts)) lf hd) fi.body [] (qay (argV pts x) 0 .leaf) S0 [] (qao tt fi ⟨pts,rts,g⟩)=F lf x)
  (hsm:SmOK P sml) (hg:∀x y,WfA pts x->g x=some y->∃lf,F lf x=some y) (h1:smL sml f=none:=by rfl) (h2:hxL hxl f=none:=by rfl) (h3:ft f=some fi:=by kernel_rfl) (h4:∀x,Nat.ble (argV pts x).length fi.nt=true:=by intro x;kernel_rfl) (hz:frzF nmf=false:=by rfl):Con P f ⟨pts,rts,g⟩ :=
 conT 20 hm.1 hm.2.1 hm.2.2 hsm hhx hC h1 h2 h3 h4 hn hl (fun x y hx hy=>by
  obtain⟨lf,h⟩:=hg x y hx hy;exact⟨lf,(hrun lf x).trans h⟩) hz
def S.lit(l:List Nat):ByteArray:=⟨⟨l.map UInt8.ofNat⟩⟩
end Go.Jx
end

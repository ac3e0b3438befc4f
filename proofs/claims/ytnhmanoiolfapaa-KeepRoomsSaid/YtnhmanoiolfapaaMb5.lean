/- Texts: Jit, Ksx, Ksh, Ksr, Krp, Rg, Krq, Kso, Kca, Kcb, Kcc, Kcd, Kma, Kw7, Ksm, Kl3, Kl1, Kl2, Kg9, Kpf, Kpg, Kph, Kpj, Kl4, Kpl, Kw8, Jiu, Jcs, Kri, Kgb, Kga, Kpi, Kpk, Kpm, Kge, Kla. -/
import Derived.Test.YtnhmanoiolfapaaMb4
import Derived.Shelf.Strings.Repeat
import Derived.Test.YtnhmanoiolfapaaProg
import Derived.Laws.IdiomCopy
import Derived.Laws.MakeOwn
import Derived.Test.YtnhmanoiolfapaaMb1
import Derived.Shelf.SlSortCmp.WholeK
import Derived.Shelf.SlSortCmp.NoneTotal
import Derived.Laws.IdiomRangeMap
import Derived.Test.YtnhmanoiolfapaaMb3
set_option linter.unusedVariables false
section
namespace Go.Jx
open Go Go.Sx Go.RowKit
universe u

theorem zmx{b:Nat}{A B:World}{o:Obj}(u:Upd [b] A B)(hA:A.heap[b]?=some o):∃B',Upd [] A B'/\Beside b B' B:=by
 have hlt:b<A.heap.size:=qas hA;refine⟨B.putObj b o,⟨u.os,u.tape,u.output,by rw[(Beside.put B b o).size];exact u.size,fun x hx _=>?_⟩,(Beside.put B b o).symm⟩;by_cases e:x=b
 ·subst e;rw[jbn (jbf hx u.size),hA]
 ·rw[jb6 e];exact u.same x hx (by simpa using e)
def qxk(P:Program)(gf:Nat)(us:List Value)(bx:Nat)(m0:List Nat)(W0:World)(Rd:World->Prop){α:Type}(V:α->Value->Env->Prop)(xs:List α):Prop :=
 ∀(l:Nat) (J:List α->World->Prop) (K:World->Prop),(∀s A B,J s A->Upd [bx] A B->J s B)->(∀A B,K A->Upd [bx] A B->K B)->(∀s A,J s A->Rd A) ->
  (∀pre x post A0 A u,xs=pre++x::post->J pre A0->Upd [bx] A0 A->(∀E:Env,E.w=A->(∀b∈E.m,b<A0.heap.size/\(b<W0.heap.size->b∈m0))->V x u E) ->
   YieldAt Fence.wide 0 P l #[u] A fun e B=>(∀b,(b=bx\/A0.heap.size<=b)->b<A.heap.size->B.heap[b]?=A.heap[b]?)/\((e=.returned (.bool true)/\J (pre++[x]) B)\/(e=.returned (.bool false)/\K B))) ->
  J [] W0->CallsIn Fence.wide 0 P gf (#[.func (.yield l) #[] #[]]++us.toArray) W0 fun e B=>e=.returned (.tuple #[])/\(J xs B\/K B)
structure ConW (P:Program) (f:Nat) (s:SmI):Prop where
 callable:qah P f
 ns:nP s.ips=0
 it:∀(E:Env) (x:ElP s.ips) (us:List Value) (i:Nat) (l:List (El s.c)),s.xs x=some l->Gl E.m E.w->qrc E s x us [i]->E.ρ i∈E.m->(∀b∈E.m,b<E.w.heap.size) ->
  qxk P f us (E.ρ i) E.m E.w (fun W=>E.Le (E.at_ W)) (fun x u E=>VR E (asIV s.c x) u) l
def endX(k:Nat):IEx->Option Bool
 | .normal=>some false
 | .exit i=>cond (Nat.beq i k) (some true) none
 | _=>none
def retX{D:Type}(k:Nat):Option (D × Option Code)->Option (D × Bool)
 | some (d,none)=>some (d,false)
 | some (d,some (.exit i))=>cond (Nat.beq i k) (some (d,true)) none
 | _=>none
def qtv(k:Nat)(b:Bool):Option Code:=cond b (some (.exit k)) none
theorem zc2{D:Type}{k:Nat}{o:Option (D × Option Code)}{d:D}{b:Bool}(h:retX k o=some (d,b)):o=some (d,qtv k b):=by
 unfold retX at h;split at h
 ·cases h;rfl
 ·rename_i i;cases hb:Nat.beq i k with
  | false=>rw[hb] at h;cases h
  | true =>
   rw[hb] at h;have:=jaj hb;subst this;cases h;rfl
 ·cases h
theorem qx5{D α:Type}{k:Nat}(g:D->α->Option (D × Option Code)):∀(xs:List α) (d d':D) (b:Bool),qcw (fun d x=>retX k (g d x)) xs d=some (d',b)->foldB g xs d=some (d',qtv k b)
 | [],d,d',b,h=>by cases h;rfl
 | x::xs,d,d',b,h=>by
  simp only[qcw,foldB] at h ⊢;cases hg:retX k (g d x) with
  | none=>rw[hg] at h;cases h
  | some q =>
   obtain⟨z,e⟩:=q;rw[hg] at h;rw[zc2 hg];cases e with
   | false=>exact qx5 g xs z d' b h
   | true=>cases h;rfl
section
variable (P : Program) (tt : Nat -> Option TI)
def qm8(k:Nat)(cfg:LpC)(c:TC)(nt lf:Nat)(clP:ClP)(pr:Nat)(assign body:Code)(d:ElP cfg.lp)(z:ElP (refs cfg.lp))(x:El c):Option (ElP (refs cfg.lp) × Bool) :=
 qax P tt cfg.nm (mP cfg.lp) nt (clP (ElP (refs cfg.lp) × Bool)) lf none assign (qdl [pr] [asIV c x] (putL cfg.ls (qaq cfg.lp idN 0 d) .leaf)) (Sc cfg.lp (updP cfg.lp d z)) [] fun r1=>match r1.e with
  | .normal=>match r1.ds with
   | []=>qax P tt cfg.nm (mP cfg.lp) nt (clP (ElP (refs cfg.lp) × Bool)) lf none body r1.fr r1.S [] fun r2=>match r2.ds with
     | []=>match endX k r2.e with
      | none=>none
      | some b=>match runQ (sQ cfg.lp) ⟨.tup [],r2.S,0,0⟩ with
       | none=>none
       | some y=>some (y.2,b)
     | _=>none
   | _=>none
  | _=>none
theorem zis{k:Nat}{cfg:LpC}{c:TC}{nt lf:Nat}{cl:Cl}{clP:ClP}(hcl:∀R,ClEq cl (clP R))(pr:Nat)(assign body:Code)(d:ElP cfg.lp)(z:ElP (refs cfg.lp))(x:El c) :
  qm8 P tt k cfg c nt lf clP pr assign body d z x=retX k (qew P tt cfg c nt lf cl pr assign body d z x):=by
 unfold qm8 qew;rw[qeu (hcl _)];cases qaj P tt cfg.nm (mP cfg.lp) nt cl lf none assign (qdl [pr] [asIV c x] (putL cfg.ls (qaq cfg.lp idN 0 d) .leaf)) (Sc cfg.lp (updP cfg.lp d z)) [] with
 | none=>rfl
 | some r1 =>
  simp only[bd];cases r1.e<;>try rfl
  simp only;cases r1.ds with
  | cons _ _=>rfl
  | nil =>
   simp only;rw[qeu (hcl _)];cases qaj P tt cfg.nm (mP cfg.lp) nt cl lf none body r1.fr r1.S [] with
   | none=>rfl
   | some r2 =>
    simp only[bd];cases r2.ds with
    | cons _ _=>rfl
    | nil =>
     simp only;cases r2.e with
     | exit i =>
      simp only[endX,qdc];cases hk:Nat.beq i k<;>cases runQ (sQ cfg.lp) ⟨.tup [],r2.S,0,0⟩<;>simp [retX,hk]
     | _=>cases runQ (sQ cfg.lp) ⟨.tup [],r2.S,0,0⟩<;>rfl
def qiw(S2:IS)(cfg:LpC)(id nt:Nat)(fr:PT IV)(pr D:Nat)(assign body:Code)(i:Nat)(rows subs:List Nat)(w:Nat)(q:ElP (refs cfg.lp) × Option Code):Res :=
 ⟨.tup [],(qbs (sQ cfg.lp) S2.next rows subs () q.1 (S2.set i .dead)).set id (.loop (cond q.2.isNone .ready .done) q.2 nt fr [pr] assign body D),2 ^ id,2 ^ id ||| (w ||| qbt ([i]++(rows++subs)))⟩
def itW(k:Nat)(s:SmI)(cfg:LpC)(lf:Nat)(cl:Cl)(vs:List IV)(S:IS):Option Res:=match vs with
 | .yield id::caps=>match rdP s.ips S caps with
  | some (xi,[i],_,S1,w1)=>match S1.heap.get id with
   | some (.loop .ready none nt fr [pr] assign body D)=>match rdP cfg.lp S1 (cfg.ls.map (slot fr)) with
    | none=>none
    | some (d0,rows,subs,S2,w2)=>cond (itB S2 cfg id nt [i] rows subs w2 assign body) (match fiP cfg.lp rows subs S2 d0 with
     | none=>none
     | some d=>match s.xs xi with
      | none=>none
      | some l=>match qcw (fun z x=>retX k (qew P tt cfg s.c nt lf cl pr assign body d z x)) l (qc5 cfg.lp d) with
       | none=>none
       | some z=>some (qiw S2 cfg id nt fr pr D assign body i rows subs (w1 ||| w2) (z.1,qtv k z.2))) none
   | _=>none
  | _=>none
 | _=>none
def itWK(k:Nat)(s:SmI)(cfg:LpC)(lf:Nat)(clP:ClP)(R:Type)(vs:List IV)(S:IS)(kk:Res->Option R):Option R:=match vs with
 | .yield id::caps=>match rdP s.ips S caps with
  | some (xi,[i],_,S1,w1)=>match S1.heap.get id with
   | some (.loop .ready none nt fr [pr] assign body D)=>match rdP cfg.lp S1 (cfg.ls.map (slot fr)) with
    | none=>none
    | some (d0,rows,subs,S2,w2)=>cond (itB S2 cfg id nt [i] rows subs w2 assign body) (match fiP cfg.lp rows subs S2 d0 with
     | none=>none
     | some d=>match s.xs xi with
      | none=>none
      | some l=>match qcw (qm8 P tt k cfg s.c nt lf clP pr assign body d) l (qc5 cfg.lp d) with
       | none=>none
       | some z=>cond z.2 (kk (qiw S2 cfg id nt fr pr D assign body i rows subs (w1 ||| w2) (z.1,some (.exit k)))) (kk (qiw S2 cfg id nt fr pr D assign body i rows subs (w1 ||| w2) (z.1,none)))) none
   | _=>none
  | _=>none
 | _=>none
end
section
variable {P : Program} {tt : Nat -> Option TI}
theorem zfb(k:Nat)(s:SmI)(cfg:LpC)(lf:Nat)(cl:Cl)(clP:ClP)(hcl:∀R,ClEq cl (clP R))(R:Type)(vs:List IV)(S:IS)(kk:Res->Option R):itWK P tt k s cfg lf clP R vs S kk=ob (itW P tt k s cfg lf cl vs S) kk:=by
 unfold itWK itW;cases vs with
 | nil=>rfl
 | cons v caps =>
 cases v<;>try rfl
 rename_i id;simp only;cases rdP s.ips S caps with
 | none=>rfl
 | some a =>
 obtain⟨xi,irows,_,S1,w1⟩:=a;cases irows with
 | nil=>rfl
 | cons i irows =>
 cases irows with
 | cons _ _=>rfl
 | nil =>
 simp only;cases S1.heap.get id with
 | none=>rfl
 | some o =>
 cases o<;>try rfl
 rename_i st pe nt fr ps assign body D;cases st<;>try rfl
 cases pe<;>try rfl
 cases ps with
 | nil=>rfl
 | cons pr ps =>
 cases ps with
 | cons _ _=>rfl
 | nil =>
 simp only;cases rdP cfg.lp S1 (cfg.ls.map (slot fr)) with
 | none=>rfl
 | some b =>
 obtain⟨d0,rows,subs,S2,w2⟩:=b;simp only[qbd];cases fiP cfg.lp rows subs S2 d0 with
 | none=>rfl
 | some d =>
 simp only;cases s.xs xi with
 | none=>rfl
 | some l =>
 have e:qm8 P tt k cfg s.c nt lf clP pr assign body d=fun z x=>retX k (qew P tt cfg s.c nt lf cl pr assign body d z x):=by
  funext z x;exact zis P tt hcl pr assign body d z x
 simp only[e];cases qcw (fun z x=>retX k (qew P tt cfg s.c nt lf cl pr assign body d z x)) l (qc5 cfg.lp d) with
 | none=>rfl
 | some q=>obtain⟨z,b⟩:=q;cases b<;>rfl
theorem qql{k:Nat}{s:SmI}{cfg:LpC}{lf:Nat}{cl:Cl}{vs:List IV}{S:IS}{r:Res}(h:itW P tt k s cfg lf cl vs S=some r) :
  ∃id caps xi i isubs S1 w1 nt fr pr assign body D d0 rows subs S2 w2 d l q,vs=.yield id::caps/\rdP s.ips S caps=some (xi,[i],isubs,S1,w1)/\S1.heap.get id=some (.loop .ready none nt fr [pr] assign body D) /\
   rdP cfg.lp S1 (cfg.ls.map (slot fr))=some (d0,rows,subs,S2,w2)/\itB S2 cfg id nt [i] rows subs w2 assign body=true/\fiP cfg.lp rows subs S2 d0=some d/\s.xs xi=some l /\
   foldB (qew P tt cfg s.c nt lf cl pr assign body d) l (qc5 cfg.lp d)=some q/\r=qiw S2 cfg id nt fr pr D assign body i rows subs (w1 ||| w2) q:=by
 unfold itW at h;split at h<;>try cases h
 rename_i id caps;split at h<;>try cases h
 rename_i xi i isubs S1 w1 h1;split at h<;>try cases h
 rename_i nt fr pr assign body D ho;split at h
 ·cases h
 rename_i d0 rows subs S2 w2 h2;cases hb:itB S2 cfg id nt [i] rows subs w2 assign body with
 | false=>rw[hb] at h;cases h
 | true =>
 rw[hb,jab] at h;split at h
 ·cases h
 rename_i d h3;split at h
 ·cases h
 rename_i l h4;split at h<;>cases h;rename_i q h5;exact⟨id,caps,xi,i,isubs,S1,w1,nt,fr,pr,assign,body,D,d0,rows,subs,S2,w2,d,l,_,rfl,h1,ho,h2,hb,h3,h4,qx5 _ _ _ _ _ h5,rfl⟩
theorem zfn{k:Nat}{s:SmI}{cfg:LpC}{lf:Nat}{cl:Cl}{vs:List IV}{S:IS}:FrO S (itW P tt k s cfg lf cl vs S):=fun r h=>by
 obtain⟨id,caps,xi,i,isubs,S1,w1,nt,fr,pr,assign,body,D,d0,rows,subs,S2,w2,d,l,q,rfl,h1,ho,h2,hb,h3,h4,h5,rfl⟩:=qql h;have k1:=qeo _ h1;have k2:=qeo _ h2;have k0:=FrX.set S2 i .dead;have k3:=k0.trans ((qr9 subs (S2.set i .dead)).trans ((qrm rows (qar (refs cfg.lp) (fun k=>S2.next+(k-mP cfg.lp)) (mP cfg.lp) q.1) _).trans (qo8 (newO (sQ cfg.lp) () q.1) _ 0)));have k4:=(k1.trans k2).trans (k3.trans (FrX.set _ id (.loop (cond q.2.isNone .ready .done) q.2 nt fr [pr] assign body D)));refine⟨k4.1,fun j hj hbit=>k4.2 j hj ?_⟩;have hbit:(2 ^ id ||| ((w1 ||| w2) ||| qbt ([i]++(rows++subs)))).testBit j=false:=hbit;have e0:qbt [i]=2 ^ i:=by simp[qbt]
 simp only[qve,e0,jcc,jcd,Nat.zero_testBit] at hbit ⊢;obtain⟨a,⟨b,c⟩,g,e,f⟩:=hbit;exact⟨⟨b,c⟩,⟨g,f,e,trivial⟩,a⟩
theorem zkf{k:Nat}{s:SmI}{cfg:LpC}{lf:Nat}{cl:Cl}{vs:List IV}{S:IS}{r:Res}(h:itW P tt k s cfg lf cl vs S=some r)(hw:r.wr=0):False:=by
 obtain⟨id,caps,xi,i,isubs,S1,w1,nt,fr,pr,assign,body,D,d0,rows,subs,S2,w2,d,l,q,rfl,h1,ho,h2,hb,h3,h4,h5,rfl⟩:=qql h;have:2 ^ id=0:=(or_zero hw).1;have:=jfc (n:=id);omega
def itWx(P:Program)(tt:Nat->Option TI)(k:Nat)(s:SmI)(cfg:LpC)(lf:Nat):Hx:=⟨itW P tt k s cfg lf,fun clP R vs S kk=>itWK P tt k s cfg lf clP R vs S kk,fun cl clP hcl R vs S kk=>zfb k s cfg lf cl clP hcl R vs S kk⟩
theorem Held.dead{T:TW}{E:Env}{S:IS}{l:List PK}{x:ElP l}{rows subs:List Nat}(h:Held T E S l x rows subs)(p:Pre T E S){i:Nat}{w:World}(hT:T.w i)(hA:E.A i)(hL:Live E S.H i)(hi:i ∉ rows++subs)(hb:Beside (E.ρ i) E.w w) :
  Held T (E.at_ w) (S.set i .dead) l x rows subs:=by
 have hle:=Env.at_le p.st hT hA hL hb.upd;refine⟨h.l1,h.l2,h.nd,h.w,h.A,fun ι hι j o hj=>?_,fun id hid=>?_,fun j=>?_⟩
 ·obtain⟨id,g1,g2,g3,g4⟩:=h.at_ ι hι j o hj;have hm:id∈rows:=jbu g1;refine⟨id,g1,g2,g3,g4.mono hle g2 g3 fun hl hh=>hb.same _ fun e=>?_⟩;obtain⟨cs,hcs⟩:=h.row id hm;have:=p.st.inj _ _ (T.sub _ (h.w id (jb0 _ hm))) (T.sub _ hT) g2 hA ⟨hh,_,hcs,rfl⟩ hL e;exact hi (this▸jb0 _ hm)
 ·obtain⟨cs,hcs⟩:=h.row id hid;exact⟨cs,by rw[IS.H_set,up_ne _ _ (fun e:id=i=>hi (e▸jb0 _ hid))];exact hcs⟩
 ·rw[h.sub];cases hs:subs[j]? with
  | none=>rfl
  | some id =>
   have hm:id∈subs:=jbu hs;show S.H id=(S.set i .dead).H id;rw[IS.H_set,up_ne _ _ (fun e:id=i=>hi (e▸jb8 _ hm))]
end
end Go.Jx
end

noncomputable section
set_option maxRecDepth 100000
namespace Go.Proofs.Ytnhmanoiolfapaa
open Go Go.Sx Go.RowKit Go.Jx
def S.listed(m:List (Int × ByteArray)):List qaa:=m.foldl (fun c p=>S.ins1 (p.1,p.2,false) c) []
def S.mapG(m:List (Int × ByteArray)):Bool:=decide (m.map (·.1)).Nodup&&m.all fun p=>S.inI p.1 0 199&&Nat.ble p.2.size 4000
def qcn:SmR:=⟨[.ref (.mp (.int .i64) .str)],[(false,.list qad)],fun x=>match x.1 with
 | some m=>cond (S.mapG m) (some ((S.listed m,()),(some m,()))) none
 | none=>none⟩
def S.recsGo:Nat->List ByteArray->List qe0
 | 0,_=>[]
 | f+1,l=>match l with
  | []=>[]
  | s::r=>if (qab s).getD 0 0=0 then [] else S.readK (s::r)::cond (S.readK (s::r)).2.2 [] (S.recsGo f ((s::r).drop (S.readK (s::r)).2.1.toNat))
def S.recsK(l:List ByteArray):List qe0:=S.recsGo (l.length+1) l
def qzk:SmI:=⟨[.ref (.box [.dat (.list .str)])],cKeepRecord,fun x=>cond (S.secs x.1.1) (some (S.recsK x.1.1)) none⟩
end Go.Proofs.Ytnhmanoiolfapaa
end

section
namespace Go.Proofs.Ytnhmanoiolfapaa
open Go Go.RowKit Go.Shelf
def qu4:Go.Shelf.Ren:=⟨fun|105=>59|212=>58|99=>69|165=>70|166=>71|170=>72|169=>73|263=>67|264=>68|206=>79|240=>80|241=>81|276=>85|277=>86|n=>n,fun|9=>9|3=>3|4=>4|20=>20|0=>0|46=>112|109=>116|5=>5|72=>135|76=>139|51=>126|146=>127|53=>129|148=>130|70=>133|37=>24|75=>138|127=>148|164=>151|80=>95|n=>n,fun|n=>n⟩
theorem q3f:Go.Proofs.Lays.n105 Try.prog qu4:={
 mixed:=by kernel_rfl
 f99:=Try.func69.trans (jaw some (by kernel_rfl))
 f105:=Try.func59.trans (jaw some (by kernel_rfl))
 f165:=Try.func70.trans (jaw some (by kernel_rfl))
 f166:=Try.func71.trans (jaw some (by kernel_rfl))
 f169:=Try.func73.trans (jaw some (by kernel_rfl))
 f170:=Try.func72.trans (jaw some (by kernel_rfl))
 f206:=Try.func79.trans (jaw some (by kernel_rfl))
 f212:=Try.func58.trans (jaw some (by kernel_rfl))
 f240:=Try.func80.trans (jaw some (by kernel_rfl))
 f241:=Try.func81.trans (jaw some (by kernel_rfl))
 f263:=Try.func67.trans (jaw some (by kernel_rfl))
 f264:=Try.func68.trans (jaw some (by kernel_rfl))
 f276:=Try.func85.trans (jaw some (by kernel_rfl))
 f277:=Try.func86.trans (jaw some (by kernel_rfl))
 t0:=Try.underlying0
 a0:=Try.isAgg0
 z0:=Try.sizeOf0
 v0:=Try.zeroValue0
 t3:=Try.underlying3
 a3:=Try.isAgg3
 z3:=Try.sizeOf3
 v3:=Try.zeroValue3
 t4:=Try.underlying4
 a4:=Try.isAgg4
 z4:=Try.sizeOf4
 v4:=Try.zeroValue4
 t5:=Try.underlying5
 a5:=Try.isAgg5
 z5:=Try.sizeOf5
 v5:=Try.zeroValue5
 t9:=Try.underlying9
 a9:=Try.isAgg9
 z9:=Try.sizeOf9
 v9:=Try.zeroValue9
 t20:=Try.underlying20
 a20:=Try.isAgg20
 z20:=Try.sizeOf20
 v20:=Try.zeroValue20
 t37:=Try.underlying24
 a37:=Try.isAgg24
 z37:=Try.sizeOf24
 v37:=Try.zeroValue24
 t46:=Try.underlying112
 a46:=Try.isAgg112
 z46:=Try.sizeOf112
 v46:=Try.zeroValue112
 t51:=Try.underlying126
 a51:=Try.isAgg126
 z51:=Try.sizeOf126
 v51:=Try.zeroValue126
 t53:=Try.underlying129
 a53:=Try.isAgg129
 z53:=Try.sizeOf129
 v53:=Try.zeroValue129
 t70:=Try.underlying133
 a70:=Try.isAgg133
 z70:=Try.sizeOf133
 v70:=Try.zeroValue133
 t72:=Try.underlying135
 a72:=Try.isAgg135
 z72:=Try.sizeOf135
 v72:=Try.zeroValue135
 t75:=Try.underlying138
 a75:=Try.isAgg138
 z75:=Try.sizeOf138
 v75:=Try.zeroValue138
 t76:=Try.underlying139
 a76:=Try.isAgg139
 z76:=Try.sizeOf139
 v76:=Try.zeroValue139
 t109:=Try.underlying116
 a109:=Try.isAgg116
 z109:=Try.sizeOf116
 v109:=Try.zeroValue116
 t127:=Try.underlying148
 a127:=Try.isAgg148
 z127:=Try.sizeOf148
 v127:=Try.zeroValue148
 t146:=Try.underlying127
 a146:=Try.isAgg127
 z146:=Try.sizeOf127
 v146:=Try.zeroValue127
 t148:=Try.underlying130
 a148:=Try.isAgg130
 z148:=Try.sizeOf130
 v148:=Try.zeroValue130
 t164:=Try.underlying151
 a164:=Try.isAgg151
 z164:=Try.sizeOf151
 v164:=Try.zeroValue151 }
theorem znx:Builder.Extra Try.prog qu4:={
 sizeBuilder:=by kernel_rfl
 liesBuilder:=by kernel_rfl
 t5:=Try.underlying5
 a5:=Try.isAgg5
 z5:=Try.sizeOf5
 v5:=Try.zeroValue5
 infoByte:=by kernel_rfl
 cellsByte:=by kernel_rfl
 sizeByte:=by kernel_rfl
 neB5:=by decide }
theorem zm2(s:ByteArray)(c:Nat)(w:World)(hc:c<=9223372036854775807)(hlen:s.size*c<=140737488355328) :
  Calls Try.prog 59 #[.string s,.int .i64 c] w fun e w'=>e=.returned (.string ⟨(Lib.repeatL s.data.toList c).toArray⟩)/\Below w.heap.size w w':=Any.strings_Repeat q3f znx s c w hc hlen
end Go.Proofs.Ytnhmanoiolfapaa
end

noncomputable section
set_option maxRecDepth 100000
namespace Go.Proofs.Ytnhmanoiolfapaa
open Go Go.Sx Go.RowKit Go.Jx
theorem zfo:qah Try.prog 59:=⟨_,Try.func59,by kernel_rfl,by kernel_rfl⟩
theorem zmj{f:Nat}{s:Sm}(hC:qah Try.prog f)(hr:∀y,resO s.rts y=[])
  (h:∀(M:List Nat) (w:World) (x:ElA s.pts) (us:List Value) (y:ElR s.rts),s.f x=some y->VRs (EM M w) (argV s.pts x) us->∃v,(∀E':Env,VR E' (tupI (resV s.rts 0 y)) v)/\Calls Try.prog f us.toArray w fun e w'=>e=.returned v/\Below w.heap.size w w'):Con Try.prog f s :=
 ⟨hC,fun M w x us y hy hM hg hv=>by
  obtain⟨v,h1,h2⟩:=h M w x us y hy hv;refine(jde.2 h2).mono fun e w' hR=>?_;obtain⟨rfl,hb⟩:=hR;rw[hr y];obtain⟨q1,q2⟩:=Post.idle (preM hM hg) (Upd.of_below hb);exact⟨v,(EM M w).at_ w',rfl,rfl,h1 _,q1,q2⟩⟩
theorem zck{s:ByteArray}{n:Int}(h:S.oneN s n=true):s=S.lit [0]/\n=64:=by
 unfold S.oneN at h;rw[jae] at h;exact⟨ja3 h.1,ja3 h.2⟩
theorem zc9:S.blank.size=64:=by kernel_rfl
theorem zid{E:Env}(s:ByteArray)(n:Int){us:List Value}{y:ByteArray × Unit}(hy:cond (S.oneN s n) (some (S.blank,())) none=some y)(hv:VRs E [.str s,.int .i64 n] us) :
  ∃v,(∀E':Env,VR E' (.str y.1) v)/\Calls Try.prog 59 us.toArray E.w fun e w'=>e=.returned v/\Below E.w.heap.size E.w w':=by
 obtain⟨hk,rfl⟩:=qba hy;obtain⟨rfl,rfl⟩:=zck hk;obtain⟨u1,us1,rfl,a1,a2⟩:=hv.inv;obtain⟨u2,us2,rfl,a3,a4⟩:=a2.inv;have e:us2=[]:=by have:=a4.1;simpa using this.symm
 subst e;cases a1;cases a3;refine⟨.string S.blank,fun E'=>.str _ (by rw[zc9];omega),?_⟩;refine(zm2 (S.lit [0]) 64 E.w (by omega) (by show 1*64<=_;omega)).mono fun e w' h=>?_;rw[show (⟨(Lib.repeatL (S.lit [0]).data.toList 64).toArray⟩:ByteArray)=S.blank by kernel_rfl] at h;exact h
theorem q7h:Con Try.prog 59 q52 :=
 zmj zfo (fun y=>rfl) fun M w x us y hy hv=>zid x.1 x.2.1 hy hv
end Go.Proofs.Ytnhmanoiolfapaa
end

section
namespace Go.Sx
open Go Go.RowKit
section
variable {P : Program} {n : Nat} {σ : Nat -> Value} {w : World} {Q : Exit -> Act -> World -> Prop} {ops : Array Oper} {rest : List Oper} {d : Nat} {ty : TypeId} {pos : String} {aft : Array Edge} {g : Option (Nat × Bool)}
theorem qv7{x y:Operand}{u v:Value}{T T':TypeId}{m:Nat}{w':World}(hg:qap ops σ n g=true)(hx:okO n x=true)(ex:ev σ x=u)(hy:okO n y=true)(ey:ev σ y=v)
  (hr:(Builtin.copy_ #[T,T'] ty #[u,v]).run P w=.ok (goInt m) w') (k:wpList P ops Q rest (Fr n (upd σ d (.int .i64 m))) w'):wpList P ops Q (⟨some d,.call ⟨.builtin .copy,#[x,y],#[T,T']⟩,ty,pos,aft,g⟩::rest) (Fr n σ) w :=
 qa3 hg (by
  have h1:(#[x,y].map (Fr n σ).eval)=#[u,v]:=by simp[qat hx,qat hy,ex,ey]
  simp only[execOp,resolve,h1,invoke,builtin,jaf,jad,jaa,hr,goInt]) k
theorem zc1{x y:Operand}{u v r:Value}{T:TypeId}{w':World}(hg:qap ops σ n g=true)(hx:okO n x=true)(ex:ev σ x=u)(hy:okO n y=true)(ey:ev σ y=v)
  (hr:(Instr.makeSlice T u v).run P w=.ok r w') (k:wpList P ops Q rest (Fr n (upd σ d r)) w'):wpList P ops Q (⟨some d,.makeSlice T x y,ty,pos,aft,g⟩::rest) (Fr n σ) w :=
 qa3 hg (by
  simp only[execOp,qat hx,qat hy,ex,ey,jaf,jad,jaa,hr]) k
end
end Go.Sx
end

section
namespace Go.Sx
open Go Go.RowKit
section
variable {P : Program} {ops : Array Oper} {md : Region.Mode} {Q : Exit -> Act -> World -> Prop}
def KOne(K:Act->World->Prop):Exit->Act->World->Prop:=fun e a w=>e=.normal/\K a w
theorem zey{o:Oper}{a:Act}{K K':Act->World->Prop}{r:Result Next}(hK:∀a w,K' a w->K a w)(h:o.upon P a K' (KOne K) r):o.upon P a K Q r:=by
 cases r with
 | ok v w' =>
  cases v with
  | value v=>exact hK _ _ h
  | skip=>exact hK _ _ h
  | defer d=>exact hK _ _ h
  | enter f args =>
   refine Calls.mono h fun e w'' he=>?_;cases e with
   | returned v=>exact hK _ _ he
   | panicked c=>cases he.1
   | outgrown=>obtain⟨_,_,h1,_⟩:=he;cases h1
  | row row args=>exact Rows.mono h fun v w'' he=>hK _ _ he
  | _=>exact h
 | halt x w'=>cases x<;>first|exact h|exact absurd h.1 (by simp)
theorem zac{i:Nat}{o:Oper}{a:Act}{w:World}{K:Act->World->Prop}(hi:ops[i]?=some o)(h:wpList P ops (KOne K) [o] a w):wpOp P ops Q i K a w:=by
 unfold wpOp;simp only[hi];unfold wpList at h;split at h
 ·rename_i hw;rw[jam hw];rcases h with h|⟨_,_,_,h,_⟩
  ·exact .inl (zey (fun a w h=>h.2) h)
  ·cases h
 ·rename_i hw;rw[jan hw];exact h.2
end
end Go.Sx
end

section
set_option maxRecDepth 100000
namespace Go.Sx
open Go Go.RowKit
section
variable {P : Program} {n : Nat} {σ : Nat -> Value} {w : World} {ops : Array Oper} {rest : List Oper} {d : Nat} {ty : TypeId} {pos : String} {aft : Array Edge} {g : Option (Nat × Bool)}
theorem q2h{T E:TypeId}{size bytes s2 b2:Nat}{zero z2:Value}{E':TypeDesc}{a:Addr}{len cap k:Nat}{kk:IntKind}(hT:Ty P T (.slice E) size bytes zero)(hE:Ty P E E' s2 b2 z2)(hk:k<cap)(hl:k<=len)(hc:len<=cap) :
  (Instr.sliceAt T (.slice (some a) len cap) (some (.int kk (k:Nat))) none none).run P w=.ok (.slice (some (a.add (k*s2))) (len-k) (cap-k)) w:=by
 have h1:(0:Int)<=(k:Nat)/\((k:Nat):Int)<=len:=⟨by omega,by omega⟩;have h2:¬cap-k=0:=by omega
 have h3:¬cap=k:=by omega
 simp only[Instr.sliceAt,jaf,jal hT.und,jaa,Instr.slice,Instr.sliceBounds,Instr.sliceBound,asIntOf,jad,h1,jex,jcq,run_sizeOf hE];simp[h3]
theorem zcr{Q:Exit->Act->World->Prop}{T E:TypeId}{size bytes s2 b2:Nat}{zero z2:Value}{E':TypeDesc}{x y:Operand}{a:Addr}{len cap k:Nat}{kk:IntKind}(hT:Ty P T (.slice E) size bytes zero)(hE:Ty P E E' s2 b2 z2)
  (hg:qap ops σ n g=true) (hx:(okO n x&&okO n y)=true) (ex:ev σ x=.slice (some a) len cap) (ey:ev σ y=.int kk (k:Nat)) (hk:k<cap) (hl:k<=len) (hc:len<=cap)
  (kt:wpList P ops Q rest (Fr n (upd σ d (.slice (some (a.add (k*s2))) (len-k) (cap-k)))) w):wpList P ops Q (⟨some d,.slice T x (some y) none none,ty,pos,aft,g⟩::rest) (Fr n σ) w:=by
 simp only[jae] at hx;exact qa3 hg (by simp only[execOp,qat hx.1,ex,Option.map_none,jcy,qat hx.2,ey,q2h hT hE hk hl hc,jaf,jad,jaa]) kt
theorem q7s{Q:Exit->Act->World->Prop}{T E:TypeId}{size bytes s2 b2:Nat}{zero z2:Value}{E':TypeDesc}{x y:Operand}{a:Option Addr}{len cap k:Nat}{kk:IntKind}(hT:Ty P T (.slice E) size bytes zero)(hE:Ty P E E' s2 b2 z2)
  (hg:qap ops σ n g=true) (hx:(okO n x&&okO n y)=true) (ex:ev σ x=.slice a len cap) (ey:ev σ y=.int kk (k:Nat)) (hk:k<=cap)
  (kt:wpList P ops Q rest (Fr n (upd σ d (.slice a k cap))) w):wpList P ops Q (⟨some d,.slice T x none (some y) none,ty,pos,aft,g⟩::rest) (Fr n σ) w:=by
 simp only[jae] at hx;exact qa3 hg (by simp only[execOp,qat hx.1,ex,Option.map_none,jcy,qat hx.2,ey,q9d hT hE hk,jaf,jad,jaa]) kt
theorem qf9{md:Region.Mode}{Q:Exit->Act->World->Prop}{op:Op}{v:Value}{i fuel:Nat}{listed:Array Bool}(hi:ops[i]?=some ⟨some d,op,ty,pos,aft,g⟩)(hp:qgy op=true)(hd:Nat.blt d n=true)(hg:qap ops σ n g=true)
  (hb:(Region.noSelect ops&&(Region.free md ops listed i&&(Region.ready md ops listed).contains i))=true) (hQ:∀c a w,¬Q (.panic c) a w)
  (h:∀w1,wpList P ops (QOne n σ d v w1) [⟨some d,op,ty,pos,aft,g⟩] (Fr n σ) w1)
  (k:wpAny P md ops Q fuel (listed.setIfInBounds i true) (Fr n (upd σ d v)) w):wpAny P md ops Q (fuel+1) listed (Fr n σ) w:=by
 simp only[jae] at hb;have hd':d<n:=by simpa using hd
 refine wpAny_take (v:=v) hi hb.1 hb.2.1 hb.2.2 (fun c a w h=>absurd h (hQ c _ w)) (.inl ⟨qe1 hg,fun w1=>?_⟩) (by show wpAny P md ops Q fuel _ ((Fr n σ).put (some d) v) w;rw[qdz];exact k);have h1:=h w1;unfold wpList at h1;rw[qe1 (o:=⟨some d,op,ty,pos,aft,g⟩) hg,jam rfl] at h1;rcases h1 with h1|⟨_,a,w',h1,_⟩
 ·unfold Oper.wp at h1;cases hr:(execOp (Fr n σ).eval ⟨some d,op,ty,pos,aft,g⟩).run P w1 with
  | ok x w' =>
   rw[hr] at h1;cases x with
   | value u =>
    rw[Oper.upon_value,qdz] at h1;obtain⟨_,h2,h3⟩:=h1;rw[h3,qqs hd' h2]
   | skip =>
    obtain⟨u,hu⟩:=qrn hp hr;cases hu
   | _=>obtain⟨u,hu⟩:=qrn hp hr;cases hu
  | halt x w'=>rw[hr] at h1;cases x<;>first|exact h1.elim|(obtain⟨h2,_⟩:=h1;cases h2)
 ·cases h1
theorem qqk{md:Region.Mode}{Q:Exit->Act->World->Prop}{o:Oper}{i fuel:Nat}{listed:Array Bool}{a:Act}(hi:ops[i]?=some o)(hr:Region.ready md ops listed=[i])
  (h:wpList P ops (KOne fun a' w'=>wpAny P md ops Q fuel (listed.setIfInBounds i true) a' w') [o] a w):wpAny P md ops Q (fuel+1) listed a w :=
 wpAny_all hr (by simp) fun j hj=>by
  have:j=i:=by simpa using hj
  subst this;exact zac hi h
theorem qq9{V Z:Value}:∀(k n m:Nat),k<=m->putL (List.replicate n V++List.replicate m Z) n (List.replicate k V)=List.replicate (n+k) V++List.replicate (m-k) Z
 | 0,n,m,h=>by simp[putL]
 | k+1,n,m,h=>by
  obtain⟨m',rfl⟩:∃m',m=m'+1:=⟨m-1,by omega⟩;have e:(List.replicate n V++List.replicate (m'+1) Z).set n V=List.replicate (n+1) V++List.replicate m' Z:=by
   rw[List.set_append_right (h:=by simp)];rw[List.replicate_succ' (n:=n),ja2];simp only[jba,jea,List.replicate_succ (n:=m'),List.set_cons_zero];rfl
  show putL ((List.replicate n V++List.replicate (m'+1) Z).set n V) (n+1) (List.replicate k V)=_;rw[e,qq9 k (n+1) m' (by omega)];rw[show n+1+k=n+(k+1) by omega,show m'+1-(k+1)=m'-k by omega]
theorem q3m{dT sT ty elem:TypeId}{β o dLen dCap sLen sCap:Nat}{a:Addr}{cs xs:List Value}(hu:P.underlying dT=some (.slice elem))(hs:(P.info? elem).map (·.size)=some 1)(hb:Box w β cs)(hn:xs.length=Nat.min sLen dLen)
  (hsrc:∀j v,xs[j]?=some v->w.cell? (a.add j)=some v) (hl:o+xs.length<=cs.length) (h1:xs.all one=true) :
  ∃w',(Builtin.copy_ #[dT,sT] ty #[.slice (some ⟨β,o,none⟩) dLen dCap,.slice (some a) sLen sCap]).run P w=.ok (goInt xs.length) w'/\Box w' β (putL cs o xs)/\Upd [β] w w'/\w'.heap.size=w.heap.size:=by
 have hld:=run_loadCells_list (P:=P) w a xs hsrc;obtain⟨w',q1,q2,q3,q4⟩:=run_store (P:=P) xs o 0 hb (by simpa using hl) h1;refine⟨w',?_,by simpa using q2,q3,q4⟩;cases hq:P.info? elem with
 | none=>simp [hq] at hs
 | some i =>
  have hi:i.size=1:=by simpa [hq] using hs
  simp[Builtin.copy_,jal hu,Builtin.lenOf,Builtin.firstCells,sizeOf,typeInfo,hq,hi,<- hn,hld,q1]
end
end Go.Sx
namespace Go.Proofs.Ytnhmanoiolfapaa
open Go Go.Sx Go.RowKit Go.Jx
theorem q7a:qah Try.prog 58:=⟨_,Try.func58,by kernel_rfl,by kernel_rfl⟩
theorem zjs(x y:Nat)(hx:x<18446744073709551616)(hy:y<18446744073709551616)(w:World) :
  Calls Try.prog 58 #[.int .u64 x,.int .u64 y] w (Ret fun v w'=>v=.tuple #[.int .u64 ((x*y / 18446744073709551616:Nat):Int),.int .u64 ((x*y % 18446744073709551616:Nat):Int)]/\w'=w) :=
 (Any.bits_Mul (P:=Try.prog) (ρ:=qu4) { q3f with } x y hx hy w).mono fun e w' h=>by
  obtain⟨rfl,rfl⟩:=h;exact⟨rfl,rfl⟩
theorem zld(c:Nat)(hc:c<=1000)(w:World):(Instr.makeSlice 27 (.int .i64 (c:Int)) (.int .i64 (c:Int))).run Try.prog w=.ok (.slice (some ⟨w.heap.size,0,none⟩) c c) (w.alloc (.cells (madeCells #[.string ⟨#[]⟩] (c*1)) 9)):=by
 obtain⟨i,h1,h2,h3,h4⟩:=ty9.inf;have h2:i.size=1:=h2;have h3:i.bytes=16:=h3;have:=run_makeSlice (P:=Try.prog) w 27 9 i (.string ⟨#[]⟩) ty27.und h1 h4 .i64 .i64 c c (by omega) (jbr _) (by rw[h2];omega) (by rw[h3];omega) (by omega);rw[h2] at this;exact this
theorem q61(c:Nat)(w:World):Box (w.alloc (.cells (madeCells #[.string ⟨#[]⟩] (c*1)) 9)) w.heap.size (List.replicate c (.string ⟨#[]⟩)):=by
 refine⟨9,?_⟩;rw[jcn];have:madeCells #[.string ⟨#[]⟩] (c*1)=(List.replicate c (Value.string ⟨#[]⟩)).toArray:=by
  unfold madeCells;apply jd7
  ·simp
  ·intro i h1 h2;simp[Nat.mod_one]
 rw[this]
theorem zaz(c:Nat)(w:World):Upd [] w (w.alloc (.cells (madeCells #[.string ⟨#[]⟩] (c*1)) 9)):=Upd.alloc _ _
theorem nmin(a b:Nat):Nat.min a b<=a/\Nat.min a b<=b/\(Nat.min a b=a\/Nat.min a b=b):=by
 have e:Nat.min a b=min a b:=rfl;rw[e];omega
theorem si9:(Try.prog.info? 9).map (·.size)=some 1:=by
 obtain⟨i,h1,h2,_⟩:=ty9.inf;have h2:i.size=1:=h2;rw[h1,jcy,h2]
theorem q3e(s:ByteArray)(k:Nat):(List.replicate k (Value.string s)).all Go.Sx.one=true:=by
 rw[jbg];intro x hx;rw[List.eq_of_mem_replicate hx];rfl
theorem zam{c cap ty:Nat}{w:World}{a:Addr}{s:ByteArray}{β:Nat}(hs:w.cell? a=some (.string s))(hb:Box w β (List.replicate c (.string ⟨#[]⟩))) :
  ∃w',(Builtin.copy_ #[27,27] ty #[.slice (some ⟨β,0,none⟩) c c,.slice (some a) 1 cap]).run Try.prog w=.ok (goInt (Nat.min 1 c)) w'/\Box w' β (List.replicate (Nat.min 1 c) (.string s)++List.replicate (c-Nat.min 1 c) (.string ⟨#[]⟩))/\Upd [β] w w'/\w'.heap.size=w.heap.size:=by
 have hnm:=nmin 1 c;have ha:a.spot=none:=by
  unfold World.cell? at hs;split at hs
  ·cases h:a.spot with
   | none=>rfl
   | some x=>rw[h] at hs;cases hs
  ·cases hs
 obtain⟨w',q1,q2,q3,q4⟩:=q3m (P:=Try.prog) (dT:=27) (sT:=27) (ty:=ty) (elem:=9) (β:=β) (o:=0) (dLen:=c) (dCap:=c) (sLen:=1) (sCap:=cap) (a:=a) (xs:=List.replicate (Nat.min 1 c) (.string s)) ty27.und si9 hb (by rw[jba]) (fun j v hj=>by
  have hj1:j<Nat.min 1 c:=by
   have:=(ja9.1 hj).1;simpa using this
  have:j=0:=by omega
  subst this;rw[jac (by simpa using hj1)] at hj;simp at hj;rw[qbc _ ha,<- hj];show w.cell? ⟨a.block,a.off+0,none⟩=_;rw[jb5,<- ha];exact hs) (by rw[jba,jba];omega) (q3e _ _)
 rw[jba] at q1;refine⟨w',q1,?_,q3,q4⟩;have:=qq9 (V:=.string s) (Z:=.string ⟨#[]⟩) (Nat.min 1 c) 0 c (jfq _ _);rw[jbk] at this;rw[<- this];exact q2
theorem zg5{dT sT ty c n:Nat}{w:World}{s:ByteArray}{β:Nat}(hlt:n<c)(hn:1<=n)(hb:Box w β (List.replicate n (.string s)++List.replicate (c-n) (.string ⟨#[]⟩)))(hd:dT=27:=by rfl) :
  ∃w',(Builtin.copy_ #[dT,sT] ty #[.slice (some ((⟨β,0,none⟩:Addr).add (n*1))) (c-n) (c-n),.slice (some ⟨β,0,none⟩) n c]).run Try.prog w=.ok (goInt (Nat.min n (c-n))) w'/\Box w' β (List.replicate (n+Nat.min n (c-n)) (.string s)++List.replicate (c-n-Nat.min n (c-n)) (.string ⟨#[]⟩))/\Upd [β] w w'/\w'.heap.size=w.heap.size:=by
 subst hd;have hnm:=nmin n (c-n);have e:(⟨β,0,none⟩:Addr).add (n*1)=⟨β,n,none⟩:=by rw[qbc _ rfl];simp
 rw[e];obtain⟨w',q1,q2,q3,q4⟩:=q3m (P:=Try.prog) (dT:=27) (sT:=sT) (ty:=ty) (elem:=9) (β:=β) (o:=n) (dLen:=c-n) (dCap:=c-n) (sLen:=n) (sCap:=c) (a:=⟨β,0,none⟩) (xs:=List.replicate (Nat.min n (c-n)) (.string s)) ty27.und si9 hb (by rw[jba]) (fun j v hj=>by
  have hj1:j<Nat.min n (c-n):=by
   have:=(ja9.1 hj).1;simpa using this
  rw[jac (by simpa using hj1)] at hj;simp at hj;rw[qbc _ rfl,hb.cell,<- hj,jas (by rw[jba];show 0+j<n;omega)];rw[List.getElem?_replicate,jam (show 0+j<n by omega)]) (by rw[jag,jba,jba,jba];omega) (q3e _ _)
 rw[jba] at q1;exact⟨w',q1,by rw[<- qq9 _ _ _ (jfq n (c-n))];exact q2,q3,q4⟩
section
attribute [local irreducible] Go.wpList Go.wpQuiet Go.Code.wp
theorem ze8(s:ByteArray)(c:Nat)(hc:c<=1000){a:Addr}{cap:Nat}{w:World}(hcell:w.cell? a=some (.string s)) :
  Calls Try.prog 43 #[.slice (some a) 1 cap,.int .i64 c] w (Ret fun v w'=>∃β,w.heap.size<=β/\v=.slice (some ⟨β,0,none⟩) c c/\Box w' β (List.replicate c (.string s))/\Upd [] w w'):=by
 refine(enter (l:=[.slice (some a) 1 cap,.int .i64 c]) Try.func43 rfl Try.ntmps43 rfl ?_);refine qal fun K1 hK1=>?_;refine qau ?_;refine qay (v:=.slice none 0 0) rfl rfl rfl ?_;refine jbc ?_;refine hK1 _ _ ?_;refine qal fun K2 hK2=>?_;refine qal fun K3 hK3=>?_;refine qau ?_;refine qaw (v:=.int .i64 (c:Int)) rfl rfl rfl ?_;refine qsd rfl rfl rfl rfl ?_;refine jbc ?_;refine hK3 _ _ ?_;refine c_if rfl rfl (fun hb=>absurd hb (by omega)) (fun _=>?_);refine je1 ?_;refine hK2 _ _ ?_;refine qal fun K4 hK4=>?_;refine qau ?_;refine qaw (v:=.slice (some a) 1 cap) rfl rfl rfl ?_;refine qvd ty27 rfl rfl rfl ?_;refine q4y ty3.und qo5.und rfl rfl rfl (by decide) (by decide) ?_;refine qaw (v:=.int .i64 (c:Int)) rfl rfl rfl ?_;refine q4y ty3.und qo5.und rfl rfl rfl (by omega) (by omega) ?_;refine qfw (l:=[.tmp 15,.tmp 17]) (args:=[.int .u64 ((1:Nat):Int),.int .u64 (c:Int)]) q7a rfl rfl rfl (zjs 1 c (by omega) (by omega) w) ?_;rintro _ w2 ⟨rfl,hw2⟩;subst w2;have e1:1*c / 18446744073709551616=0:=by omega
 have e2:1*c % 18446744073709551616=c:=by omega
 rw[e1,e2];refine qaw (v:=.tuple #[.int .u64 ((0:Nat):Int),.int .u64 (c:Int)]) rfl rfl rfl ?_;refine qhy (v:=.int .u64 ((0:Nat):Int)) rfl rfl rfl rfl ?_;refine qhy (v:=.int .u64 (c:Int)) rfl rfl rfl rfl ?_;refine qay (v:=.int .u64 ((0:Nat):Int)) rfl rfl rfl ?_;refine qay (v:=.int .u64 (c:Int)) rfl rfl rfl ?_;refine jbc ?_;refine hK4 _ _ ?_;refine qal fun K5 hK5=>?_;refine qal fun K6 hK6=>?_;refine qau ?_;refine qaw (v:=.int .u64 ((0:Nat):Int)) rfl rfl rfl ?_;refine qm5 rfl rfl rfl rfl ?_;refine qaw (v:=.bool false) rfl rfl rfl ?_;refine qaw (v:=.int .u64 (c:Int)) rfl rfl rfl ?_;refine qm5 rfl rfl rfl rfl ?_;refine qun (v:=.bool false) rfl rfl rfl (jaw Value.bool (jar (by omega))) ?_;refine jbc ?_;refine hK6 _ _ ?_;refine qkf rfl rfl ?_;refine je1 ?_;refine hK5 _ _ ?_;refine qal fun K7 hK7=>?_;refine qau ?_;refine qaw (v:=.int .u64 (c:Int)) rfl rfl rfl ?_;refine zkm qo5.und ty3.und rfl rfl rfl (by omega) ?_;refine zc1 (u:=.int .i64 (c:Int)) (v:=.int .i64 (c:Int)) rfl rfl rfl rfl rfl (zld c hc w) ?_;have hw1:=q61 c w;have hu1:=zaz c w;generalize w.alloc (.cells (madeCells #[.string ⟨#[]⟩] (c*1)) 9)=w1 at hw1 hu1;generalize hβ:w.heap.size=β at hw1;refine qay (v:=.slice (some ⟨β,0,none⟩) c c) rfl rfl (by rw[<- hβ];rfl) ?_;refine jbc ?_;refine hK7 _ _ ?_;refine qal fun K8 hK8=>?_;refine qau ?_;refine qaw (v:=.slice (some ⟨β,0,none⟩) c c) rfl rfl rfl ?_;refine qaw (v:=.slice (some a) 1 cap) rfl rfl rfl ?_;have hsrc1:w1.cell? a=some (.string s):=by
  have:a.block<w.heap.size:=by
   unfold World.cell? at hcell;split at hcell
   ·rename_i h;exact qas h
   ·cases hcell
  unfold World.cell? at hcell ⊢;rw[hu1.same _ this (by simp)];exact hcell
 obtain⟨w3,g1,g2,g3,g4⟩:=zam (cap:=cap) hsrc1 hw1;refine qv7 rfl rfl rfl rfl rfl g1 ?_;refine qay (v:=.int .i64 ((Nat.min 1 c:Nat):Int)) rfl rfl rfl ?_;refine jbc ?_;refine hK8 _ _ ?_;have hext:∀{w4:World},Upd [β] w1 w4->Upd [] w w4:=fun u4=>⟨u4.os.trans hu1.os,u4.tape.trans hu1.tape,u4.output.trans hu1.output,jbj hu1.size u4.size,fun x hx hn=>(u4.same x (jbf hx hu1.size) (by simp;omega)).trans (hu1.same x hx (by simp))⟩;have hnm:=nmin 1 c;refine qal fun K9 hK9=>?_;refine wp_block ?_;refine qui (X:=Nat) (8::(List.range 47).drop 34) (fun n=>[(8,.int .i64 (n:Int))]) (fun n w4=>(n<=c/\(c=0\/1<=n))/\Box w4 β (List.replicate n (.string s)++List.replicate (c-n) (.string ⟨#[]⟩))/\Upd [β] w1 w4) (fun n=>c-n) (Nat.min 1 c) ⟨rfl,trivial⟩ ⟨⟨jfq _ _,by omega⟩,g2,g3⟩ ?_;rintro n τ w4 ⟨⟨hn1,hn2⟩,hx4,hu4⟩;refine qal fun K10 hK10=>?_;refine qal fun K11 hK11=>?_;refine qau ?_;refine qaw (v:=.int .i64 (n:Int)) rfl rfl rfl ?_;refine qaw (v:=.slice (some ⟨β,0,none⟩) c c) rfl rfl rfl ?_;refine qvd ty27 rfl rfl rfl ?_;refine qsd rfl rfl rfl rfl ?_;refine jbc ?_;refine hK11 _ _ ?_;refine c_if rfl rfl (fun hb=>?_) (fun hb=>?_)
 ·refine je1 ?_;refine hK10 _ _ ?_;have hlt:n<c:=by omega
  have hn:1<=n:=by omega
  have hnn:=nmin n (c-n);refine wp_block ?_;refine wp_region_any mixed ?_;refine qf9 (i:=0) (v:=.int .i64 (n:Int)) rfl rfl rfl rfl (by kernel_rfl) (fun c a w h=>(show _/\False from h).2) (fun w1=>qaw (v:=.int .i64 (n:Int)) rfl rfl rfl q1) ?_;refine qf9 (i:=1) (v:=.slice (some ⟨β,0,none⟩) c c) rfl rfl rfl rfl (by kernel_rfl) (fun c a w h=>(show _/\False from h).2) (fun w1=>qaw (v:=.slice (some ⟨β,0,none⟩) c c) rfl rfl rfl q1) ?_;refine qf9 (i:=2) (v:=.int .i64 (n:Int)) rfl rfl rfl rfl (by kernel_rfl) (fun c a w h=>(show _/\False from h).2) (fun w1=>qaw (v:=.int .i64 (n:Int)) rfl rfl rfl q1) ?_;refine qf9 (i:=3) (v:=.slice (some ((⟨β,0,none⟩:Addr).add (n*1))) (c-n) (c-n)) rfl rfl rfl rfl (by kernel_rfl) (fun c a w h=>(show _/\False from h).2) (fun w1=>zcr ty27 ty9 rfl rfl rfl rfl hlt hn1 (jaq _) q1) ?_;refine qf9 (i:=4) (v:=.slice (some ⟨β,0,none⟩) c c) rfl rfl rfl rfl (by kernel_rfl) (fun c a w h=>(show _/\False from h).2) (fun w1=>qaw (v:=.slice (some ⟨β,0,none⟩) c c) rfl rfl rfl q1) ?_;refine qf9 (i:=5) (v:=.int .i64 (n:Int)) rfl rfl rfl rfl (by kernel_rfl) (fun c a w h=>(show _/\False from h).2) (fun w1=>qaw (v:=.int .i64 (n:Int)) rfl rfl rfl q1) ?_;refine qf9 (i:=6) (v:=.slice (some ⟨β,0,none⟩) n c) rfl rfl rfl rfl (by kernel_rfl) (fun c a w h=>(show _/\False from h).2) (fun w1=>q7s ty27 ty9 rfl rfl rfl rfl hn1 q1) ?_;have hx5:=hx4.mono0 (Upd.drew [] w4);have u5:=Upd.drew [] w4;generalize ({ w4 with drawn:=w4.drawn+1 }:World)=w5 at hx5 u5;obtain⟨w6,r1,r2,r3,r4⟩:=zg5 (dT:=27) (sT:=27) (c:=c) hlt hn hx5;refine qqk (i:=7) rfl (by kernel_rfl) ?_;refine qv7 rfl rfl rfl rfl rfl r1 ?_;refine jbc ⟨rfl,?_⟩;refine qqk (i:=8) rfl (by kernel_rfl) ?_;refine q66 rfl rfl rfl rfl (by omega) ?_;refine jbc ⟨rfl,?_⟩;refine qqk (i:=9) rfl (by kernel_rfl) ?_;refine qay (v:=.int .i64 ((n+Nat.min n (c-n):Nat):Int)) rfl rfl (jaw (Value.int .i64) (by omega)) ?_;refine jbc ⟨rfl,?_⟩;refine wpAny_done (by kernel_rfl) ?_ _;refine⟨n+Nat.min n (c-n),by show c-(n+Nat.min n (c-n))<c-n;omega,⟨⟨by omega,by omega⟩,by rw[show c-(n+Nat.min n (c-n))=c-n-Nat.min n (c-n) by omega];exact r2,(hu4.trans (u5.mono (by simp))).trans r3⟩,_,rfl,(by repeat first|exact qa6.refl _ _|refine qa6.upd rfl ?_|refine qa6.upds rfl ?_|refine qa6.mix rfl ?_),rfl,trivial⟩
 ·refine wp_exit ?_;have hnc:n=c:=by omega
  subst hnc;refine hK9 _ _ ?_;refine qal fun K12 hK12=>?_;refine qau ?_;refine qaw (v:=.slice (some ⟨β,0,none⟩) n n) rfl rfl rfl ?_;refine qay (v:=.slice (some ⟨β,0,none⟩) n n) rfl rfl rfl ?_;refine jbc ?_;refine hK12 _ _ ?_;refine je3 ?_;refine ret1 Try.results43 rfl ⟨β,by omega,rfl,?_,hext hu4⟩;rw[jea,je8,jbo] at hx4;exact hx4
end
theorem ze6:Con Try.prog 43 qic :=
 ⟨zbi,fun M w x us y hy hM hg hv=>by
  obtain⟨l,n,_⟩:=x;obtain⟨hk,rfl⟩:=qba (show cond (decide (l.length=1)&&S.inI n 0 1000) (some (List.replicate n.toNat (l.getD 0 S.none_),())) none=some y from hy);simp only[jae,jb9,S.inI] at hk;obtain⟨h1,h2,h3⟩:=hk;obtain⟨s,rfl⟩:∃s,l=[s]:=by
   cases l with
   | nil=>cases h1
   | cons s r=>cases r with
    | nil=>exact⟨s,rfl⟩
    | cons _ _=>simp at h1
  have hni:∃c:Nat,(show Int from n)=(c:Int):=⟨Int.toNat n,(Int.toNat_of_nonneg h2).symm⟩;obtain⟨c,hc0⟩:=hni;have hc0:n=Int.ofNat c:=hc0;subst hc0;have h3:(c:Int)<=1000:=h3;obtain⟨u1,us1,rfl,a1,a2⟩:=hv.inv;obtain⟨u2,us2,rfl,a3,a4⟩:=a2.inv;obtain rfl:us2=[]:=jay.1 a4.1.symm;cases a3;cases a1 with
  | lst us q1 q2 q3 hb hh hc hu =>
  have hcell:=hc 0 (by simp) 0 (by decide);have hus:=hu 0 (by simp) 0 Nat.zero_lt_one;rename_i b off cap cells t fz;have hsz:s.size<9223372036854775808/\us 0 0=.string s:=by
   have hus:VR (EM M w) (.str s) (us 0 0):=hus;generalize us 0 0=u at hus;cases hus with
   | str _ h=>exact⟨h,rfl⟩
  rw[hsz.2] at hcell;have hcw:w.cell? ⟨b,off,none⟩=some (.string s):=by
   have hh:w.heap[b]?=some (.cells cells t fz):=hh;unfold World.cell?;rw[hh];simpa using hcell
  refine(jde.2 (ze8 s c (by omega) (cap:=cap) hcw)).mono fun e w' hR=>?_;cases e with
  | returned v =>
   obtain⟨β,hβ,rfl,hx,hu'⟩:=hR;obtain⟨p1,p2⟩:=Post.idle (preM hM hg) hu';refine⟨_,(EM M w).at_ w',rfl,rfl,?_,p1,p2⟩;show VR _ (.lst .str (List.replicate c s)) _;obtain⟨t',ht'⟩:=hx;cases c with
   | zero=>exact .lst0 (by omega)
   | succ c =>
    have hl:(List.replicate (c+1) s).length=c+1:=jba;have:=VR.lst (E:=(EM M w).at_ w') (c:=.str) (l:=List.replicate (c+1) s) (cap:=c+1) (off:=0) (fun _ _=>.string s) (by rw[hl];exact jaq _) (by omega) (by rw[hl];show (c+1)*16<=_;omega)
     (fun h=>by have:=hM _ h;omega) ht' (fun i hi j hj=>by
      have hj:j<1:=hj;have:j=0:=by omega
      subst this;rw[hl] at hi;show (List.replicate (c+1) (Value.string s)).toArray[0+i*1+0]?=_;simp only[ja5,List.getElem?_replicate];rw[jam (by omega)]) (fun i hi j hj=>by
      have hj:j<1:=hj;have:j=0:=by omega
      subst this;show VR _ (.str (List.replicate (c+1) s)[i]) _;rw[List.getElem_replicate];exact .str _ hsz.1)
    rw[hl] at this;exact this
  | _=>exact hR.elim⟩
end Go.Proofs.Ytnhmanoiolfapaa
end

section
set_option maxRecDepth 100000
namespace Go.Proofs.Ytnhmanoiolfapaa
open Go Go.RowKit Go.Shelf Go.Sort Go.Lib
def zi5:Go.Shelf.Ren:=⟨fun|6=>76|15=>83|14=>82|28=>95|29=>96|20=>87|21=>88|22=>89|23=>90|24=>91|25=>92|26=>93|27=>94|46=>97|47=>98|48=>99|49=>100|50=>101|57=>102|n=>n,fun|22=>31|24=>62|25=>147|3=>3|39=>112|0=>0|53=>126|55=>129|4=>4|46=>156|45=>155|50=>160|5=>5|9=>9|66=>164|70=>168|76=>170|77=>171|n=>n,fun|n=>n⟩
theorem qw2:Go.Proofs.SlLaysF0.n6 Try.prog zi5:={
 mixed:=by kernel_rfl
 f6:=⟨Try.f76.name,by decide,Try.func76.trans (jaw some (by kernel_rfl))⟩
 f14:=⟨Try.f82.name,by decide,Try.func82.trans (jaw some (by kernel_rfl))⟩
 f15:=Try.func83.trans (jaw some (by kernel_rfl))
 f20:=⟨Try.f87.name,by decide,Try.func87.trans (jaw some (by kernel_rfl))⟩
 f21:=⟨Try.f88.name,by decide,Try.func88.trans (jaw some (by kernel_rfl))⟩
 f22:=⟨Try.f89.name,by decide,Try.func89.trans (jaw some (by kernel_rfl))⟩
 f23:=⟨Try.f90.name,by decide,Try.func90.trans (jaw some (by kernel_rfl))⟩
 f24:=⟨Try.f91.name,by decide,Try.func91.trans (jaw some (by kernel_rfl))⟩
 f25:=⟨Try.f92.name,by decide,Try.func92.trans (jaw some (by kernel_rfl))⟩
 f26:=⟨Try.f93.name,by decide,Try.func93.trans (jaw some (by kernel_rfl))⟩
 f27:=⟨Try.f94.name,by decide,Try.func94.trans (jaw some (by kernel_rfl))⟩
 f28:=Try.func95.trans (jaw some (by kernel_rfl))
 f29:=Try.func96.trans (jaw some (by kernel_rfl))
 f46:=⟨Try.f97.name,by decide,Try.func97.trans (jaw some (by kernel_rfl))⟩
 f47:=Try.func98.trans (jaw some (by kernel_rfl))
 f48:=Try.func99.trans (jaw some (by kernel_rfl))
 f49:=⟨Try.f100.name,by decide,Try.func100.trans (jaw some (by kernel_rfl))⟩
 f50:=⟨Try.f101.name,by decide,Try.func101.trans (jaw some (by kernel_rfl))⟩
 f57:=⟨Try.f102.name,by decide,Try.func102.trans (jaw some (by kernel_rfl))⟩
 t0:=Try.underlying0
 a0:=Try.isAgg0
 z0:=Try.sizeOf0
 v0:=Try.zeroValue0
 t3:=Try.underlying3
 a3:=Try.isAgg3
 z3:=Try.sizeOf3
 v3:=Try.zeroValue3
 t4:=Try.underlying4
 a4:=Try.isAgg4
 z4:=Try.sizeOf4
 v4:=Try.zeroValue4
 t5:=Try.underlying5
 a5:=Try.isAgg5
 z5:=Try.sizeOf5
 v5:=Try.zeroValue5
 t9:=Try.underlying9
 a9:=Try.isAgg9
 z9:=Try.sizeOf9
 v9:=Try.zeroValue9
 t22:=Try.underlying31
 a22:=Try.isAgg31
 z22:=Try.sizeOf31
 v22:=Try.zeroValue31
 t25:=Try.underlying147
 a25:=Try.isAgg147
 z25:=Try.sizeOf147
 v25:=Try.zeroValue147
 t39:=Try.underlying112
 a39:=Try.isAgg112
 z39:=Try.sizeOf112
 v39:=Try.zeroValue112
 t45:=Try.underlying155
 a45:=Try.isAgg155
 z45:=Try.sizeOf155
 v45:=Try.zeroValue155
 t46:=Try.underlying156
 a46:=Try.isAgg156
 z46:=Try.sizeOf156
 v46:=Try.zeroValue156
 t50:=Try.underlying160
 a50:=Try.isAgg160
 z50:=Try.sizeOf160
 v50:=Try.zeroValue160
 t53:=Try.underlying126
 a53:=Try.isAgg126
 z53:=Try.sizeOf126
 v53:=Try.zeroValue126
 t55:=Try.underlying129
 a55:=Try.isAgg129
 z55:=Try.sizeOf129
 v55:=Try.zeroValue129
 t66:=Try.underlying164
 a66:=Try.isAgg164
 z66:=Try.sizeOf164
 v66:=Try.zeroValue164
 t70:=Try.underlying168
 a70:=Try.isAgg168
 z70:=Try.sizeOf168
 v70:=Try.zeroValue168
 t76:=Try.underlying170
 a76:=Try.isAgg170
 z76:=Try.sizeOf170
 v76:=Try.zeroValue170
 t77:=Try.underlying171
 a77:=Try.isAgg171
 z77:=Try.sizeOf171
 v77:=Try.zeroValue171 }
def encC(x:Int × ByteArray × Bool):List Value:=[.int .i64 x.1,.string x.2.1,.bool x.2.2]
theorem zlz(cf:(Int × ByteArray × Bool)->(Int × ByteArray × Bool)->Int)(hO:SWO (ltOf cf))(g:Nat)(cb:Array Value)(blk off cap:Nat)(d:Array (Int × ByteArray × Bool))(w:World)
  (eg:∀args w,(callFunc g args).run Try.prog w=.ok (.enter g args) w) (hcmp:CmpLays Try.prog g cb encC 3 cf blk off d.size w) (hH:HoldsK encC 3 w blk off d) (hblk:blk<w.heap.size) (hsz:d.size<4611686018427387904) :
  Calls Try.prog 76 #[.slice (some ⟨blk,off,none⟩) d.size cap,.func (.func g) #[] cb] w fun e w' =>
   e=.returned (.tuple #[])/\∃d' n os,PermIn 0 d.size d d'/\SortedIn (ltOf cf) 0 d.size d'/\w'=sortWorldK encC 3 w blk off n d' os :=
 AnyQ.slices_SortFunc qw2 3 Try.isAgg62 Try.sizeOf62 encC (fun _=>rfl) (fun x v hv=>by simp[encC] at hv;rcases hv with rfl|rfl|rfl<;>rfl) cf hO g cb blk off cap d w eg hcmp hH hblk hsz
theorem zil(p:Option Addr)(cap:Nat)(fv:Value)(w:World):Calls Try.prog 76 #[.slice p 0 cap,fv] w fun e w'=>e=.returned (.tuple #[])/\w'=w :=
 AnyF.slices_SortFunc_none (P:=Try.prog) qw2 p cap fv w
end Go.Proofs.Ytnhmanoiolfapaa
end

section
set_option maxRecDepth 100000
namespace Go.Sx
open Go Go.RowKit
def Gr(w w':World):Prop:=∃q os',w'=Sort.grow (w.drewN q) os'
theorem Gr.refl(w:World):Gr w w:=⟨0,#[],by simp[World.drewN]⟩
theorem Gr.trans{a b c:World}(h:Gr a b)(k:Gr b c):Gr a c:=by
 obtain⟨q,os,rfl⟩:=h;obtain⟨q',os',rfl⟩:=k;exact⟨q+q',os++os',by simp[Sort.grow,World.drewN,Array.append_assoc,jct]⟩
theorem Gr.push(w:World)(o:Obj):Gr w { w with heap:=w.heap.push o }:=⟨0,#[o],by simp[Sort.grow,World.drewN]⟩
theorem Gr.drew(w:World):Gr w { w with drawn:=w.drawn+1 }:=⟨1,#[],by
 unfold Sort.grow World.drewN;simp only[Array.append_empty]⟩
theorem Gr.upd{w w':World}(h:Gr w w'):Upd [] w w':=by
 obtain⟨q,os,rfl⟩:=h;refine⟨rfl,rfl,rfl,by simp[Sort.grow,World.drewN],fun b hb _=>?_⟩;show (w.heap++os)[b]?=_;rw[jee hb]
theorem Upd.old_upd{w w2 w3:World}{g:Nat}(h:Upd [] w w2)(k:Upd [g] w2 w3)(hg:w.heap.size<=g):Upd [] w w3 :=
 ⟨k.os.trans h.os,k.tape.trans h.tape,k.output.trans h.output,jbj h.size k.size,fun x hx hn=>(k.same x (jbf hx h.size) (by simp;omega)).trans (h.same x hx hn)⟩
theorem Upd.tr0{w w':World}(h:Upd [] w w'):Tr [] w [] w':=⟨fun b hb _=>⟨by simp,h.same b hb (by simp)⟩⟩
theorem Upd.cell{w w':World}(u:Upd [] w w'){a:Addr}{v:Value}(h:w.cell? a=some v):w'.cell? a=some v:=by
 have:a.block<w.heap.size:=by
  unfold World.cell? at h;split at h
  ·rename_i h';exact qas h'
  ·cases h
 unfold World.cell? at h ⊢;rw[u.same _ this (by simp)];exact h
section
variable {P : Program} {n : Nat} {σ : Nat -> Value} {w : World} {ops : Array Oper} {rest : List Oper} {d : Nat} {op : Op} {ty : TypeId} {pos : String} {aft : Array Edge} {g : Option (Nat × Bool)} {T : TypeId} {x : Operand} {C : World -> Prop} {Qp : Act -> Prop}
theorem qqv{Q:Exit->Act->World->Prop}{v:Value}{zs:List Value}(hg:qap ops σ n g=true)(hx:okO n x=true)(ex:ev σ x=v)(hz:v.cells.toList=zs)
  (k:∀β w',w.heap.size=β->Gr w w'->w'.heap.size=β+1->Box w' β zs->wpList P ops Q rest (Fr n (upd σ d (.pointer (some ⟨β,0,none⟩)))) w'):wpList P ops Q (⟨some d,.box T x,ty,pos,aft,g⟩::rest) (Fr n σ) w:=by
 subst hz;refine qa3 (w':={ w with heap:=w.heap.push (.cells v.cells T) }) hg ?_ (k _ _ rfl (Gr.push _ _) (by simp) (by simpa using Box.push w v.cells.toList T));simp only[execOp,qat hx,ex,Instr.box,jaf,jaa,jad,newVar,newRow];rfl
theorem qi4{v:Value}(hp:qgy op=true)(hd:Nat.blt d n=true)(hg:qap ops σ n g=true)
  (h:∀w1,C w1->wpList P ops (QOne n σ d v w1) [⟨some d,op,ty,pos,aft,g⟩] (Fr n σ) w1)
  (k:wpQuiet P ops C Qp rest (Fr n (upd σ d v))):wpQuiet P ops C Qp (⟨some d,op,ty,pos,aft,g⟩::rest) (Fr n σ):=by
 have hd':d<n:=by simpa using hd
 refine wpQuiet_step fun K hK=>?_;rw[qe1 (o:=⟨some d,op,ty,pos,aft,g⟩) hg,jam rfl];refine⟨v,fun w1 hw1=>?_,by show K ((Fr n σ).put (some d) v);rw[qdz];exact hK _ k⟩;have h1:=h w1 hw1;unfold wpList at h1;rw[qe1 (o:=⟨some d,op,ty,pos,aft,g⟩) hg,jam rfl] at h1;rcases h1 with h1|⟨_,a,w',h1,_⟩
 ·unfold Oper.quietAt;unfold Oper.wp at h1;cases hr:(execOp (Fr n σ).eval ⟨some d,op,ty,pos,aft,g⟩).run P w1 with
  | ok x w' =>
   rw[hr] at h1;cases x with
   | value u =>
    rw[Oper.upon_value,qdz] at h1;obtain⟨_,h2,h3⟩:=h1;exact⟨h3,qqs hd' h2⟩
   | skip =>
    rw[Oper.upon_skip,qdz] at h1;obtain⟨_,h2,h3⟩:=h1;exact⟨h3,(qqs hd' h2).symm⟩
   | _=>obtain⟨u,hu⟩:=qrn hp hr;cases hu
  | halt x w'=>rw[hr] at h1;cases x<;>first|exact h1.elim|(obtain⟨h2,_⟩:=h1;cases h2)
 ·cases h1
theorem zk2{f:Nat}{l:List Operand}{args:List Value}{ts:Array TypeId}{v:Value}(hF:qah P f)(hg:qap ops σ n g=true)(hx:okOs n l=true)(ea:evs σ l=args)
  (hc:∀w1,C w1->Calls P f args.toArray w1 (Ret fun v' w'=>v'=v/\C w'))
  (k:wpQuiet P ops C Qp rest (Fr n (upd σ d v))):wpQuiet P ops C Qp (⟨some d,.call ⟨.value (.func f),l.toArray,ts⟩,ty,pos,aft,g⟩::rest) (Fr n σ):=by
 refine wpQuiet_step fun K hK=>?_;rw[qe1 (o:=⟨some d,_,ty,pos,aft,g⟩) hg,jam rfl];refine⟨v,fun w1 hw1=>?_,by show K ((Fr n σ).put (some d) v);rw[qdz];exact hK _ k⟩;have hr:(execOp (Fr n σ).eval ⟨some d,.call ⟨.value (.func f),l.toArray,ts⟩,ty,pos,aft,g⟩).run P w1=.ok (.enter f args.toArray) w1:=by
  obtain⟨fn,hf,hb,hn⟩:=hF;have hb':fn.body.isNone=false:=by cases h:fn.body<;>simp [h] at hb ⊢
  simp only[execOp,resolve,Act.eval,Deferred.ofValue,invoke,callFunc,qlr hx,ea,jaf,jad,jaa,jem,hf,hb',hn,ja8,jbs];simp
 unfold Oper.quietAt;rw[hr];refine⟨rfl,(hc w1 hw1).mono fun e w' he=>?_⟩;cases e with
 | returned v'=>obtain⟨h1,h2⟩:=he;exact⟨by rw[h1],h2⟩
 | _=>exact he.elim
theorem q3l{f:Nat}{xo:Operand}{caps:Array Value}{l:List Operand}{args:List Value}{ts:Array TypeId}{v:Value}(hF:qah P f)(hg:qap ops σ n g=true)(hx:(okO n xo&&okOs n l)=true)(ef:ev σ xo=.func (.func f) #[] caps)(ea:evs σ l++caps.toList=args)
  (hc:∀w1,C w1->Calls P f args.toArray w1 (Ret fun v' w'=>v'=v/\C w'))
  (k:wpQuiet P ops C Qp rest (Fr n (upd σ d v))):wpQuiet P ops C Qp (⟨some d,.call ⟨.value xo,l.toArray,ts⟩,ty,pos,aft,g⟩::rest) (Fr n σ):=by
 simp only[jae] at hx;refine wpQuiet_step fun K hK=>?_;rw[qe1 (o:=⟨some d,_,ty,pos,aft,g⟩) hg,jam rfl];refine⟨v,fun w1 hw1=>?_,by show K ((Fr n σ).put (some d) v);rw[qdz];exact hK _ k⟩;have hr:(execOp (Fr n σ).eval ⟨some d,.call ⟨.value xo,l.toArray,ts⟩,ty,pos,aft,g⟩).run P w1=.ok (.enter f args.toArray) w1:=by
  obtain⟨fn,hf,hb,hn⟩:=hF;have hb':fn.body.isNone=false:=by cases h:fn.body<;>simp [h] at hb ⊢
  simp only[execOp,resolve,qat hx.1,ef,Deferred.ofValue,invoke,callFunc,qlr hx.2,<- ea,jaf,jad,jaa,jem,hf,hb',hn,ja8,jbs];simp
 unfold Oper.quietAt;rw[hr];refine⟨rfl,(hc w1 hw1).mono fun e w' he=>?_⟩;cases e with
 | returned v'=>obtain⟨h1,h2⟩:=he;exact⟨by rw[h1],h2⟩
 | _=>exact he.elim
end
end Go.Sx
namespace Go.Proofs.Ytnhmanoiolfapaa
open Go Go.Sx Go.RowKit Go.Sort Go.Shelf
theorem qvs:qah Try.prog 84:=⟨_,Try.func84,by kernel_rfl,by kernel_rfl⟩
theorem q8l:Fld Try.prog 62 0 0:=Fld.mk (F := ⟨"Key", 3,0, false, "", "", 0⟩) ty62 rfl ty3
def cmpI(a b:Int):Int:=if a<b then -1 else if b<a then 1 else 0
section
attribute [local irreducible] Go.wpList Go.wpQuiet Go.Code.wp
theorem q0k(a:Int)(w:World):Calls Try.prog 84 #[.int .i64 a] w (Ret fun v w'=>v=.bool false/\Gr w w'):=by
 refine(enter (l:=[.int .i64 a]) Try.func84 rfl Try.ntmps84 rfl ?_);refine qal fun K1 hK1=>?_;refine qau ?_;refine qay (v:=.bool false) rfl rfl rfl ?_;refine jbc ?_;refine hK1 _ _ ?_;refine qal fun K2 hK2=>?_;refine qau ?_;refine qaw (v:=.int .i64 a) rfl rfl rfl ?_;refine qaw (v:=.int .i64 a) rfl rfl rfl ?_;refine q6l rfl rfl rfl rfl ?_;refine qay (v:=.bool false) rfl rfl (jaw Value.bool (jar (fun h=>h rfl))) ?_;refine jbc ?_;refine hK2 _ _ ?_;refine je3 ?_;exact ret1 Try.results84 rfl ⟨rfl,Gr.refl w⟩
theorem zkz(a b:Int)(w:World):Calls Try.prog 78 #[.int .i64 a,.int .i64 b] w (Ret fun v w'=>v=.int .i64 (cmpI a b)/\Gr w w'):=by
 refine(enter (l:=[.int .i64 a,.int .i64 b]) Try.func78 rfl Try.ntmps78 rfl ?_);refine qal fun K1 hK1=>?_;refine qau ?_;refine qay (v:=.int .i64 0) rfl rfl rfl ?_;refine jbc ?_;refine hK1 _ _ ?_;refine qal fun K2 hK2=>?_;refine qau ?_;refine qaw (v:=.int .i64 a) rfl rfl rfl ?_;refine qfw (l:=[.tmp 7]) (args:=[.int .i64 a]) qvs rfl rfl rfl (q0k a w) ?_;rintro _ w1 ⟨rfl,g1⟩;refine qay (v:=.bool false) rfl rfl rfl ?_;refine jbc ?_;refine hK2 _ _ ?_;refine qal fun K3 hK3=>?_;refine qau ?_;refine qaw (v:=.int .i64 b) rfl rfl rfl ?_;refine qfw (l:=[.tmp 9]) (args:=[.int .i64 b]) qvs rfl rfl rfl (q0k b w1) ?_;rintro _ w2 ⟨rfl,g2⟩;refine qay (v:=.bool false) rfl rfl rfl ?_;refine jbc ?_;refine hK3 _ _ ?_;refine qal fun K4 hK4=>?_;refine qal fun K5 hK5=>?_;refine qau ?_;refine qaw (v:=.bool false) rfl rfl rfl ?_;refine jbc ?_;refine hK5 _ _ ?_;refine qkf rfl rfl ?_;refine je1 ?_;refine hK4 _ _ ?_;refine qal fun K6 hK6=>?_;refine qal fun K7 hK7=>?_;refine qau ?_;refine qaw (v:=.bool false) rfl rfl rfl ?_;refine jbc ?_;refine hK7 _ _ ?_;refine qkf rfl rfl ?_;refine je1 ?_;refine hK6 _ _ ?_;refine qal fun K8 hK8=>?_;refine qal fun K9 hK9=>?_;refine qau ?_;refine qaw (v:=.int .i64 a) rfl rfl rfl ?_;refine qaw (v:=.int .i64 b) rfl rfl rfl ?_;refine qsd rfl rfl rfl rfl ?_;refine jbc ?_;refine hK9 _ _ ?_;refine c_if rfl rfl (fun h=>?_) (fun h=>?_)
 ·refine qal fun KA hKA=>?_;refine qau ?_;refine qay (v:=.int .i64 (-1)) rfl rfl rfl ?_;refine jbc ?_;refine hKA _ _ ?_;refine je3 ?_;exact ret1 Try.results78 rfl ⟨by unfold cmpI;rw[jam h];rfl,g1.trans g2⟩
 refine je1 ?_;refine hK8 _ _ ?_;refine qal fun KB hKB=>?_;refine qal fun KC hKC=>?_;refine qau ?_;refine qaw (v:=.int .i64 a) rfl rfl rfl ?_;refine qaw (v:=.int .i64 b) rfl rfl rfl ?_;refine qm5 rfl rfl rfl rfl ?_;refine jbc ?_;refine hKC _ _ ?_;refine c_if rfl rfl (fun h2=>?_) (fun h2=>?_)
 ·refine qal fun KA hKA=>?_;refine qau ?_;refine qay (v:=.int .i64 1) rfl rfl rfl ?_;refine jbc ?_;refine hKA _ _ ?_;refine je3 ?_;exact ret1 Try.results78 rfl ⟨by unfold cmpI;rw[jan h,jam h2];rfl,g1.trans g2⟩
 refine je1 ?_;refine hKB _ _ ?_;refine qal fun KD hKD=>?_;refine qau ?_;refine qay (v:=.int .i64 0) rfl rfl rfl ?_;refine jbc ?_;refine hKD _ _ ?_;refine je3 ?_;exact ret1 Try.results78 rfl ⟨by unfold cmpI;rw[jan h,jan h2];rfl,g1.trans g2⟩
theorem q1j(x:Int × ByteArray × Bool)(w:World):Calls Try.prog 66 #[.agg (encC x).toArray] w (Ret fun v w'=>v=.int .i64 x.1/\Gr w w'):=by
 refine(enter (l:=[.agg (encC x).toArray]) Try.func66 rfl Try.ntmps66 rfl ?_);refine qal fun K1 hK1=>?_;refine qau ?_;refine qqv (v:=.agg (encC x).toArray) (zs:=encC x) rfl rfl rfl rfl fun β w1 hβ g1 hz1 hx1=>?_;refine qay (v:=.int .i64 0) rfl rfl rfl ?_;refine jbc ?_;refine hK1 _ _ ?_;refine qal fun K2 hK2=>?_;refine qau ?_;refine qr6 q8l rfl rfl rfl ?_;refine qgb (v:=.int .i64 x.1) ty3 rfl rfl rfl rfl hx1 rfl ?_;refine qay (v:=.int .i64 x.1) rfl rfl rfl ?_;refine jbc ?_;refine hK2 _ _ ?_;refine je3 ?_;exact ret1 Try.results66 rfl ⟨rfl,g1⟩
theorem zfs(x y:Int × ByteArray × Bool){b:Nat}{w:World}(hb:w.cell? ⟨b,0,none⟩=some (.func (.func 66) #[] #[])) :
  Calls Try.prog 77 #[.agg (encC x).toArray,.agg (encC y).toArray,.pointer (some ⟨b,0,none⟩)] w (Ret fun v w'=>v=.int .i64 (cmpI x.1 y.1)/\Gr w w'):=by
 refine(enter (l:=[.agg (encC x).toArray,.agg (encC y).toArray,.pointer (some ⟨b,0,none⟩)]) Try.func77 rfl Try.ntmps77 rfl ?_);refine qal fun K1 hK1=>?_;refine qau ?_;refine qqv (v:=.agg (encC x).toArray) (zs:=encC x) rfl rfl rfl rfl fun β1 w1 hβ1 g1 hz1 hx1=>?_;refine qqv (v:=.agg (encC y).toArray) (zs:=encC y) rfl rfl rfl rfl fun β2 w2 hβ2 g2 hz2 hx2=>?_;refine qay (v:=.int .i64 0) rfl rfl rfl ?_;refine jbc ?_;refine hK1 _ _ ?_;have hx1':=hx1.mono0 g2.upd;have hb2:=(g1.trans g2).upd.cell hb;refine qal fun K2 hK2=>?_;refine wp_region_quiet (C:=Gr w2) mixed (by kernel_rfl) (Gr.drew w2) ?_;refine qi4 (v:=.func (.func 66) #[] #[]) rfl rfl rfl (fun wq gq=>qna qtu rfl rfl rfl rfl (gq.upd.cell hb2) q1) ?_;refine qi4 (v:=.agg (encC x).toArray) rfl rfl rfl (fun wq gq=>qpy (ds:=encC x) ty62 rfl rfl rfl rfl (hx1'.mono0 gq.upd) rfl rfl q1) ?_;refine q3l (f:=66) (l:=[.tmp 7]) (args:=[.agg (encC x).toArray]) (v:=.int .i64 x.1) q6c rfl rfl rfl rfl (fun wq gq=>(q1j x wq).mono fun e w' h=>by
  cases e with
  | returned v=>exact⟨h.1,gq.trans h.2⟩
  | _=>exact h.elim) ?_
 refine qi4 (v:=.func (.func 66) #[] #[]) rfl rfl rfl (fun wq gq=>qna qtu rfl rfl rfl rfl (gq.upd.cell hb2) q1) ?_;refine qi4 (v:=.agg (encC y).toArray) rfl rfl rfl (fun wq gq=>qpy (ds:=encC y) ty62 rfl rfl rfl rfl (hx2.mono0 gq.upd) rfl rfl q1) ?_;refine q3l (f:=66) (l:=[.tmp 10]) (args:=[.agg (encC y).toArray]) (v:=.int .i64 y.1) q6c rfl rfl rfl rfl (fun wq gq=>(q1j y wq).mono fun e w' h=>by
  cases e with
  | returned v=>exact⟨h.1,gq.trans h.2⟩
  | _=>exact h.elim) ?_
 refine zk2 (f:=78) (l:=[.tmp 8,.tmp 11]) (args:=[.int .i64 x.1,.int .i64 y.1]) (v:=.int .i64 (cmpI x.1 y.1)) zia rfl rfl rfl (fun wq gq=>(zkz x.1 y.1 wq).mono fun e w' h=>by
  cases e with
  | returned v=>exact⟨h.1,gq.trans h.2⟩
  | _=>exact h.elim) ?_
 refine qi4 (v:=.int .i64 (cmpI x.1 y.1)) rfl rfl rfl (fun wq gq=>qay (v:=.int .i64 (cmpI x.1 y.1)) rfl rfl rfl q1) ?_;refine wpQuiet_nil fun w3 g3=>?_;refine hK2 _ _ ?_;refine je3 ?_;exact ret1 Try.results77 rfl ⟨rfl,(g1.trans g2).trans g3⟩
end
end Go.Proofs.Ytnhmanoiolfapaa
end

section
set_option maxRecDepth 100000
namespace Go.Proofs.Ytnhmanoiolfapaa
open Go Go.Sx Go.RowKit Go.Sort Go.Shelf
abbrev DC:Type:=Int × ByteArray × Bool
instance:Dat DC where
 sz:=3
 enc _ _ cs x:=cs=encC x
 len h:=by rw[h];rfl
 mono h _:=h
 ones h:=by rw[h];rfl
theorem zmr{w:World}{a:Option Addr}{cap:Nat}{l:List DC}(hS:SL [] w a cap l)(hl:l.length<=1000):Calls Try.prog 75 #[.slice a l.length cap] w (Ret fun v w'=>∃a' c' m',v=.slice a' l.length c'/\Go.Sx.Own m' [] w' a' c' l/\Evo [] w m' w'):=by
 have hM:Lo [] w:=fun b hb=>by cases hb
 refine enter (l:=[.slice a l.length cap]) Try.func75 rfl Try.ntmps75 rfl ?_;refine qal fun KhK1 hK1=>?_;refine qau ?_;refine qay (v:=.slice none 0 0) rfl rfl rfl ?_;refine jbc ?_;refine hK1 _ _ ?_;refine qal fun KhK2 hK2=>?_;refine qal fun KhK3 hK3=>?_;refine qau ?_;refine qaw (v:=.slice a l.length cap) rfl rfl rfl ?_;refine qr1 ty31 rfl rfl rfl rfl ?_;refine jbc ?_;refine hK3 _ _ ?_;refine qo1 rfl rfl (fun hb4=>?_) (fun hb4=>?_)
 ·obtain rfl:=hS.isNone hb4;refine qal fun KhK5 hK5=>?_;refine qau ?_;refine qay (v:=.slice none 0 0) rfl rfl rfl ?_;refine jbc ?_;refine hK5 _ _ ?_;refine je3 ?_;exact ret1 Try.results75 rfl ⟨none,0,[],rfl,Go.Sx.Own.nil,Evo.refl [] w⟩
 ·refine je1 ?_;refine hK2 _ _ ?_;refine qal fun KhK7 hK7=>?_;refine qau ?_;refine qrt (α:=DC) (m:=[]) (M:=[]) ty31 ty62 rfl (hM.mono (Evo.refl [] w).size) fun β14 w15 hβ16 u17 hz18 ho19=>?_;have e20:=u17.evoN (m:=[]) hβ16 hz18;refine qaw (v:=.slice a l.length cap) rfl rfl rfl ?_;refine qmj (l:=([]:List DC)) ty31 ty31 ty62 rfl rfl rfl rfl rfl rfl rfl ho19 (hS.mono (e20.tr [])) (hM.mono e20.size) (by show (0+l.length)*32<=140737488355328;omega) fun a22 c23 w24 m25 ho26 e27 u28 hbk29 hsub30=>?_;refine qay (v:=.slice a22 (([]:List DC)++l).length c23) rfl rfl rfl ?_;refine jbc ?_;refine hK7 _ _ ?_;refine je3 ?_;exact ret1 Try.results75 rfl ⟨a22,c23,m25,rfl,ho26,e20.trans e27⟩
theorem zby{w:World}{g off n:Nat}{d:Array DC}{os:Array Obj}:Upd [g] w (sortWorldK encC 3 w g off n d os):=by
 refine⟨rfl,rfl,rfl,?_,fun b hb hn=>?_⟩
 ·show w.heap.size<=((w.heap.modify g _)++os).size;simp
 ·show ((w.heap.modify g _)++os)[b]?=_;rw[jee (by simpa using hb),jc3,jan (by simp at hn;omega)]
theorem zjb:SWO (ltOf fun x y:DC=>cmpI x.1 y.1):=by
 have e:∀x y:DC,ltOf (fun x y:DC=>cmpI x.1 y.1) x y=decide (x.1<y.1):=fun x y=>by
  unfold ltOf cmpI;by_cases h1:x.1<y.1
  ·simp[h1]
  ·by_cases h2:y.1<x.1<;>simp [h1,h2]
 refine⟨fun x=>?_,fun x y z h1 h2=>?_,fun x y z h1 h2=>?_⟩
 ·rw[e];simp
 ·rw[e] at *;simp only[jb9] at *;omega
 ·rw[e] at *;simp only[jet] at *;omega
def RowC(b0:Nat)(w:World)(a:Option Addr)(cap:Nat)(l:List DC):Prop :=
 (l.length<=cap/\cap<9223372036854775808)/\(l=[]\/∃g,a=some ⟨g,0,none⟩/\b0<=g/\∀i (h:i<l.length) j,j<3->w.cell? ⟨g,i*3+j,none⟩=(encC l[i])[j]?)
def qlx(l:List DC):Prop:=∀(i j:Nat) (hi:i<l.length) (hj:j<l.length),i<j->¬(l[j]).1<(l[i]).1
section
attribute [local irreducible] Go.wpList Go.wpQuiet Go.Code.wp
theorem zfw{w:World}{a:Option Addr}{cap:Nat}{l:List DC}(hS:SL [] w a cap l)(hl:l.length<=1000) :
  Calls Try.prog 65 #[.slice a l.length cap,.func (.func 66) #[] #[]] w (Ret fun v w'=>∃a' c' l',v=.slice a' l'.length c'/\(List.Perm l' l/\qlx l')/\RowC w.heap.size w' a' c' l'/\Upd [] w w'):=by
 refine enter (l:=[.slice a l.length cap,.func (.func 66) #[] #[]]) Try.func65 rfl Try.ntmps65 rfl ?_;refine qal fun K1 hK1=>?_;refine qau ?_;refine zlt (v:=.func (.func 66) #[] #[]) (zs:=[.func (.func 66) #[] #[]]) rfl rfl rfl rfl fun βt w1 hβ1 u1 hz1 hx1=>?_;refine qay (v:=.slice none 0 0) rfl rfl rfl ?_;refine jbc ?_;refine hK1 _ _ ?_;refine qal fun K2 hK2=>?_;refine qau ?_;refine qaw (v:=.slice a l.length cap) rfl rfl rfl ?_;refine qfw (l:=[.tmp 6]) (args:=[.slice a l.length cap]) q75 rfl rfl rfl (zmr (hS.mono u1.tr0) hl) ?_;rintro _ w2 ⟨a2,c2,m2,rfl,ho2,e2⟩;refine qay (v:=.slice a2 l.length c2) rfl rfl rfl ?_;refine jbc ?_;refine hK2 _ _ ?_;have u2:=e2.old;have hx2:=hx1.mono0 u2;have hold:Upd [] w w2:=u1.trans u2;refine qal fun K3 hK3=>?_;refine qau ?_;refine qaw (v:=.slice a2 l.length c2) rfl rfl rfl ?_;refine q7o (vs:=[.pointer (some ⟨βt,0,none⟩)]) rfl rfl rfl ?_;have hsort:Calls Try.prog 76 #[.slice a2 l.length c2,.func (.func 77) #[] #[.pointer (some ⟨βt,0,none⟩)]] w2 (Ret fun v w'=>∃l',l'.length=l.length/\(List.Perm l' l/\qlx l')/\RowC w.heap.size w' a2 c2 l'/\Upd [] w w'):=by
  rcases ho2 with ⟨rfl,rfl,rfl⟩|⟨g,cells,rfl,hgm,_,hbx,hcl,hcap,hel⟩
  ·refine(zil none 0 _ w2).mono fun e w' h=>?_;obtain⟨rfl,rfl⟩:=h;exact⟨[],rfl,⟨jfj _,fun i j hi=>by simp at hi⟩,⟨⟨jaq _,by omega⟩,.inl rfl⟩,hold⟩
  ·have hgw:w1.heap.size<=g:=by
    rcases e2.own g hgm with h|h
    ·cases h
    ·exact h
   have hne:βt≠g:=by have:=hx1.lt;omega
   have hcl2:l.length*3<=cells.length:=by rw[hcl];show _<=c2*3;omega
   have hcell:∀i (h:i<l.length) j,j<3->cells[i*3+j]?=(encC l[i])[j]?:=fun i h j hj=>by
    obtain⟨cs,h1,h2⟩:=hel i h;have h1:cs=encC l[i]:=h1;rw[<- h1];exact h2 j hj
   have hfz:∀o,w2.frozen? ⟨g,o,none⟩=false:=fun o=>by
    obtain⟨t,ht⟩:=hbx;simp[World.frozen?,ht]
   have hH:HoldsK encC 3 w2 g 0 l.toArray:=fun t ht=>by
    rw[size_flatK] at ht;refine⟨?_,by rw[hfz]⟩;have ht3:t<l.length*3:=by simpa using ht
    rw[jbk,hbx.cell,get_flatK encC 3 l.toArray t (by simpa using ht3)];have h1:t / 3<l.length:=by omega
    have h2:=hcell (t / 3) h1 (t % 3) (by omega);rw[show t / 3*3+t % 3=t by omega] at h2;rw[h2];have e3:(l.toArray)[t / 3]! = l[t / 3]:=by simp[h1]
    rw[e3];have h4:t % 3<(encC l[t / 3]).length:=by show t % 3<3;omega
    rw[jac h4];show _=some ((encC l[t / 3])[t % 3]!);rw[jez (encC l[t / 3]) (t % 3) h4]
   have hbt:w2.cell? ⟨βt,0,none⟩=some (.func (.func 66) #[] #[]):=by rw[hx2.cell];rfl
   have eg:∀args w,(callFunc 77 args).run Try.prog w=.ok (.enter 77 args) w:=enters_of Try.func77 (by kernel_rfl) rfl;have hcmp:CmpLays Try.prog 77 #[.pointer (some ⟨βt,0,none⟩)] encC 3 (fun x y:DC=>cmpI x.1 y.1) g 0 l.toArray.size w2:=fun m os dk hs x y=>by
    refine(zfs x y (b:=βt) ?_).mono fun e w' h=>?_
    ·rw[cell?_sortWorldK_other encC 3 w2 g 0 m dk os ⟨βt,0,none⟩ hne hx2.lt];exact hbt
    ·cases e with
     | returned v=>obtain⟨rfl,q,os',h2⟩:=h;exact⟨rfl,q,os',h2⟩
     | _=>exact h.elim
   have hcon:=zlz (fun x y:DC=>cmpI x.1 y.1) zjb 77 #[.pointer (some ⟨βt,0,none⟩)] g 0 c2 l.toArray w2 eg hcmp hH hbx.lt (by simp;omega);have el:l.toArray.size=l.length:=by simp
   rw[el] at hcon;refine hcon.mono fun e w' h=>?_;obtain⟨rfl,d',n,os,hp,hs,rfl⟩:=h;obtain⟨hp1,_,hp3⟩:=hp;have hd:d'.toList.length=l.length:=by rw[jdm,hp1,el]
   have hd2:d'.size=l.length:=by rw[hp1,el]
   have hperm:List.Perm d'.toList l:=by
    have e1:d'.extract 0 l.length=d':=by rw[<- hd2];exact Array.extract_size
    have e2:l.toArray.extract 0 l.length=l.toArray:=by rw[<- el];exact Array.extract_size
    rw[e1,e2] at hp3;exact hp3
   have hH2:=holdsK_sortWorldK_c encC 3 w2 g 0 l.toArray d' n os hH hbx.lt hp1;refine⟨d'.toList,hd,⟨hperm,fun i j hi hj hij=>?_⟩,⟨⟨by rw[hd];exact hcap.1,hcap.2⟩,.inr ⟨g,rfl,jbj u1.size hgw,fun i hi j hj=>?_⟩⟩,hold.old_upd zby (jbj u1.size hgw)⟩
   ·have:=hs i j (jb3 _) hij (by rw[<- hd];exact hj);have hi':i<d'.size:=by simpa using hi
    have hj':j<d'.size:=by simpa using hj
    rw[jez d' i hi',jez d' j hj'] at this;unfold ltOf cmpI at this;simp only[jet] at this;show ¬(d'.toList[j]).1<(d'.toList[i]).1;rw[je4,je4];intro hlt;rw[jam hlt] at this;omega
   ·have hi':i<d'.size:=by simpa using hi
    have ht:i*3+j<(flatK encC 3 d').size:=by rw[size_flatK];omega
    have:=(hH2 (i*3+j) ht).1;rw[jbk] at this;rw[this,get_flatK encC 3 d' (i*3+j) (by omega)];have e1:(i*3+j) / 3=i:=by omega
    have e2:(i*3+j) % 3=j:=by omega
    rw[e1,e2,jez d' i hi',je4];have h4:j<(encC d'[i]).length:=hj;rw[jac h4];show some ((encC d'[i])[j]!)=_;rw[jez (encC d'[i]) j h4]
 refine qfw (l:=[.tmp 8,.tmp 9]) (args:=[.slice a2 l.length c2,.func (.func 77) #[] #[.pointer (some ⟨βt,0,none⟩)]]) ze0 rfl rfl rfl hsort ?_;rintro _ w3 ⟨l',hl',hps,hrow,hu⟩;refine jbc ?_;refine hK3 _ _ ?_;refine qal fun K4 hK4=>?_;refine qau ?_;refine qaw (v:=.slice a2 l.length c2) rfl rfl rfl ?_;refine qay (v:=.slice a2 l.length c2) rfl rfl rfl ?_;refine jbc ?_;refine hK4 _ _ ?_;refine je3 ?_;exact ret1 Try.results65 rfl ⟨a2,c2,l',by rw[hl'];rfl,hps,hrow,hu⟩
end
end Go.Proofs.Ytnhmanoiolfapaa
end

section
set_option maxRecDepth 100000
namespace Go.Sx
open Go Go.RowKit
section
variable {P : Program} {w : World}
theorem q7b{ty:TypeId}{β bm since c0:Nat}{seen:Array Nat}{es:Array MapEntry}{clock:Nat}(hi:w.heap[β]?=some (.mapIter (some bm) since seen c0))(hb:w.heap[bm]?=some (.map es clock))(hold:∀x∈es.toList,x.born<since)(hsc:since<=c0) :
  ((leftOf es seen).size=0/\(Instr.next (.pointer (some ⟨β,0,none⟩)) false ty).run P w=.ok (.tuple #[.bool false]) w) \/
  ∃e∈(leftOf es seen).toList,∃w1:World,Upd [β] w w1/\w1.heap[β]?=some (.mapIter (some bm) since (seen.push e.born) clock)/\(Instr.next (.pointer (some ⟨β,0,none⟩)) false ty).run P w=.ok (.tuple #[.bool true,e.key,e.val]) w1:=by
 have hlt:=qas hi;simp only[Instr.next,getObj,jaf,Sem.run,hi,hb,Result.andThen,next_test_false seen es since c0 hold hsc,ja8,jbs];unfold leftOf;have hmem:∀x∈(Array.filter (fun e=>!seen.contains e.born) es).toList,x.born<since:=fun x hx=>hold x (by simp at hx ⊢;exact hx.1);generalize Array.filter (fun e=>!seen.contains e.born) es=L at hmem ⊢;have e1:L.filter (fun x=>decide (x.born<since))=L:=Array.filter_eq_self.2 (fun x hx=>by simpa using hmem x (by simpa using hx));have e2:L.filter (fun x=>decide (x.born ≥ since))=#[]:=by
  rw[Array.filter_eq_empty_iff];intro x hx;have:=hmem x (by simpa using hx);simp;omega
 simp only[e1,e2,Array.append_empty];by_cases h0:L.size=0
 ·left;have:L=#[]:=jcw h0;subst this;refine⟨rfl,?_⟩;simp[choose,Sem.run,Question.forced]
 ·right;have hne:L.isEmpty=false:=by simp[Array.isEmpty,h0]
  simp only[hne,ja8,jbs,Array.empty_append,Array.size_map];have hch:∃(j:Nat) (w1:World),j<L.size/\w1.Alike w/\w1.tape=w.tape/\(choose (Question.mapNext L.size)).run P w=.ok j w1:=by
   by_cases hf:L.size<=1
   ·exact⟨0,w,by omega,⟨rfl,rfl,rfl⟩,rfl,by simp[choose,Sem.run,Question.forced,hf]⟩
   ·exact⟨_,{ w with drawn:=w.drawn+1 },jcx _ (by omega),⟨rfl,rfl,rfl⟩,rfl,by
     simp only[choose,Sem.run,Question.forced,jb9,hf,jbs,Question.cut];rfl⟩
  obtain⟨j,w1,hj,hal,htp,hrun⟩:=hch;have hi1:w1.heap[β]?=some (.mapIter (some bm) since seen c0):=by rw[hal.1];exact hi
  refine⟨L[j],by simp,{ w1 with heap:=w1.heap.setIfInBounds β (.mapIter (some bm) since (seen.push L[j].born) clock) },⟨hal.2.1,htp,hal.2.2,?_,fun b hb hn=>?_⟩,?_,?_⟩
  ·show w.heap.size<=(w1.heap.setIfInBounds β _).size;rw[Array.size_setIfInBounds,hal.1];exact jaq _
  ·show (w1.heap.setIfInBounds β _)[b]?=_;rw[Array.getElem?_setIfInBounds,jan (by simp at hn;omega),hal.1]
  ·show (w1.heap.setIfInBounds β _)[β]?=_;rw[Array.getElem?_setIfInBounds,jam rfl,jam (by rw[hal.1];exact hlt)]
  ·simp only[hrun,Array.getElem?_map,jck hj,jcy,jaf,setObj,Sem.run,hi1,Result.andThen];rfl
theorem zbn{β bm since:Nat}{seen:Array Nat}{es:Array MapEntry}{clock:Nat}{e:MapEntry}(hi:w.heap[β]?=some (.mapIter (some bm) since (seen.push e.born) clock))(hb:w.heap[bm]?=some (.map es clock))(he:e∈es.toList)(hn:(es.toList.map (·.born)).Nodup) :
  (Instr.entry (.pointer (some ⟨β,0,none⟩))).run P w=.ok (.tuple #[e.key,e.val]) w:=by
 have hf:es.find? (·.born==e.born)=some e:=by rw[<- Array.find?_toList];exact find_born e es.toList hn he
 simp only[Instr.entry,getObj,jaf,Sem.run,hi,hb,Result.andThen,Array.back?_push,bne_self_eq_false,ja8,jbs,hf];rfl
end
section
variable {P : Program} {n : Nat} {σ : Nat -> Value} {w : World} {Q : Exit -> Act -> World -> Prop} {ops : Array Oper} {rest : List Oper} {d : Nat} {ty : TypeId} {pos : String} {aft : Array Edge} {g : Option (Nat × Bool)} {T : TypeId} {x : Operand}
theorem zmn{K E:TypeId}{bm:Nat}{es:Array MapEntry}{clock:Nat}(hT:P.underlying T=some (.map K E))(hb:w.heap[bm]?=some (.map es clock))(hg:qap ops σ n g=true)(hx:okO n x=true)(ex:ev σ x=.map (some bm))
  (k:∀β w',w.heap.size=β->Upd [] w w'->w'.heap[β]?=some (.mapIter (some bm) clock #[] clock)->wpList P ops Q rest (Fr n (upd σ d (.pointer (some ⟨β,0,none⟩)))) w'):wpList P ops Q (⟨some d,.range T x,ty,pos,aft,g⟩::rest) (Fr n σ) w :=
 qa3 hg (by simp only[execOp,qat hx,ex,run_range_map w T K E bm es clock hT hb,jaf,jad,jaa]) (k _ _ rfl (Upd.alloc _ _) (jcn _ _))
theorem zl0{β bm since c0:Nat}{seen:Array Nat}{es:Array MapEntry}{clock:Nat}(hi:w.heap[β]?=some (.mapIter (some bm) since seen c0))(hb:w.heap[bm]?=some (.map es clock))(hold:∀x∈es.toList,x.born<since)(hsc:since<=c0)
  (hg:qap ops σ n g=true) (hx:okO n x=true) (ex:ev σ x=.pointer (some ⟨β,0,none⟩))
  (k0:(leftOf es seen).size=0->wpList P ops Q rest (Fr n (upd σ d (.tuple #[.bool false]))) w)
  (k1:∀e w1,e∈(leftOf es seen).toList->Upd [β] w w1->w1.heap[β]?=some (.mapIter (some bm) since (seen.push e.born) clock)->wpList P ops Q rest (Fr n (upd σ d (.tuple #[.bool true,e.key,e.val]))) w1) :
  wpList P ops Q (⟨some d,.next x false,ty,pos,aft,g⟩::rest) (Fr n σ) w:=by
 rcases q7b (P:=P) (ty:=ty) hi hb hold hsc with ⟨h1,h2⟩|⟨e,he,w1,h1,h2,h3⟩
 ·exact qa3 hg (by simp only[execOp,qat hx,ex,h2,jaf,jad,jaa]) (k0 h1)
 ·exact qa3 hg (by simp only[execOp,qat hx,ex,h3,jaf,jad,jaa]) (k1 e w1 he h1 h2)
theorem zhg{β bm since:Nat}{seen:Array Nat}{es:Array MapEntry}{clock:Nat}{e:MapEntry}(hi:w.heap[β]?=some (.mapIter (some bm) since (seen.push e.born) clock))(hb:w.heap[bm]?=some (.map es clock))(he:e∈es.toList)(hn:(es.toList.map (·.born)).Nodup)
  (hg:qap ops σ n g=true) (hx:okO n x=true) (ex:ev σ x=.pointer (some ⟨β,0,none⟩)) (k:wpList P ops Q rest (Fr n (upd σ d (.tuple #[e.key,e.val]))) w) :
  wpList P ops Q (⟨some d,.entry x,ty,pos,aft,g⟩::rest) (Fr n σ) w :=
 qa3 hg (by simp only[execOp,qat hx,ex,zbn (P:=P) hi hb he hn,jaf,jad,jaa]) k
end
theorem zkp{es:Array MapEntry}{seen:Array Nat}{e:MapEntry}(hn:(es.toList.map (·.born)).Nodup)(he:e∈(leftOf es seen).toList):List.Perm (leftOf es seen).toList (e::(leftOf es (seen.push e.born)).toList):=by
 have h1:(leftOf es (seen.push e.born)).toList=(leftOf es seen).toList.filter fun x=>!(x.born==e.born):=by
  unfold leftOf;rw[jdy,jdy,List.filter_filter];congr 1;funext x;rw[Array.contains_push];cases seen.contains x.born<;>cases hx:(e.born==x.born)<;>simp_all [BEq.comm]
 rw[h1];have hn2:((leftOf es seen).toList.map (·.born)).Nodup:=by
  unfold leftOf;rw[jdy];exact hn.sublist (List.filter_sublist.map _)
 generalize (leftOf es seen).toList=L at he hn2;induction L with
 | nil=>cases he
 | cons x L ih =>
  obtain⟨n1,n2⟩:=jci.1 hn2;rcases jav.1 he with rfl|he
  ·have:(e::L).filter (fun x=>!(x.born==e.born))=L:=by
    rw[List.filter_cons_of_neg (by simp)];refine List.filter_eq_self.2 fun y hy=>?_;have:y.born≠e.born:=fun e'=>n1 (jb7.2 ⟨y,hy,e'⟩);simpa using this
   rw[this]
  ·have hne:x.born≠e.born:=fun e'=>n1 (jb7.2 ⟨e,he,e'.symm⟩);rw[List.filter_cons_of_pos (by simpa using hne)];exact((ih he n2).cons x).trans (List.Perm.swap e x _)
end Go.Sx
namespace Go.Proofs.Ytnhmanoiolfapaa
open Go Go.Sx Go.RowKit Go.Sort Go.Shelf
def qbi(e:MapEntry):DC:=(match e.key with|.int _ k=>k|_=>0,match e.val with|.string s=>s|_=>⟨#[]⟩,false)
theorem zei:Szs Try.prog 62 [(0,1),(1,1),(2,1)]:=Go.Jx.szs_of ttOK (ty:=62) rfl rfl rfl
section
attribute [local irreducible] Go.wpList Go.wpQuiet Go.Code.wp
theorem ze9{w:World}{bm:Nat}{es:Array MapEntry}{clock:Nat}(hb:w.heap[bm]?=some (.map es clock))(hn:(es.toList.map (·.born)).Nodup)(hold:∀x∈es.toList,x.born<clock)(hkv:∀e∈es.toList,e.key=.int .i64 (qbi e).1/\e.val=.string (qbi e).2.1)(hl:es.size<=1000) :
  Calls Try.prog 54 #[.map (some bm)] w (Ret fun v w'=>∃a' c' l',v=.slice a' l'.length c'/\(List.Perm l' (es.toList.map qbi)/\qlx l')/\RowC w.heap.size w' a' c' l'/\Upd [] w w'):=by
 have hltm:=qas hb;refine enter (l:=[.map (some bm)]) Try.func54 rfl Try.ntmps54 rfl ?_;refine qal fun K1 hK1=>?_;refine qau ?_;refine qay (v:=.slice none 0 0) rfl rfl rfl ?_;refine jbc ?_;refine hK1 _ _ ?_;refine qal fun K2 hK2=>?_;refine qau ?_;refine qay (v:=.slice none 0 0) rfl rfl rfl ?_;refine jbc ?_;refine hK2 _ _ ?_;refine qal fun K3 hK3=>?_;refine qal fun K4 hK4=>?_;refine qau ?_;refine qaw (v:=.map (some bm)) rfl rfl rfl ?_;refine zmn q38.und hb rfl rfl rfl fun β w1 hβ u1 hi1=>?_;refine jbc ?_;refine hK4 _ _ ?_;have hb1:w1.heap[bm]?=some (.map es clock):=(u1.same bm hltm (by simp)).trans hb;have hM0:Lo ([]:List Nat) w1:=fun b hb=>by cases hb
 have hperm0:(leftOf es #[]).toList=es.toList:=by
  unfold leftOf;rw[jdy];exact List.filter_eq_self.2 fun x _=>by simp
 refine wp_block ?_;refine qui (X:=(Array Nat × List DC) × (Option Addr × Nat × List Nat)) (3::4::5::(List.range 19).drop 8) (fun x=>[(3,.slice x.2.1 x.1.2.length x.2.2.1)])
  (fun x wi=>(wi.heap[β]?=some (.mapIter (some bm) clock x.1.1 clock)/\wi.heap[bm]?=some (.map es clock))/\List.Perm (x.1.2++(leftOf es x.1.1).toList.map qbi) (es.toList.map qbi)/\Go.Sx.Own x.2.2.2 [] wi x.2.1 x.2.2.1 x.1.2/\(β∈x.2.2.2/\(∀b∈blk x.2.1,β<b)/\∀b∈x.2.2.2,b<wi.heap.size)/\Upd [] w wi)
  (fun x=>(leftOf es x.1.1).size) ((#[],[]),(none,0,[β])) ⟨rfl,trivial⟩ ⟨⟨hi1,hb1⟩,by rw[hperm0];exact jfj _,Go.Sx.Own.nil,⟨by simp,fun b hb=>(by cases hb),fun b hb=>by rw[jcb.1 hb];exact qas hi1⟩,u1⟩ ?_
 rintro⟨⟨seen,out⟩,ao,co,mo⟩ τ w2 ⟨⟨hi2,hb2⟩,hp2,ho2,hm2,hu2⟩;have hlo:out.length<=es.size:=by
  have:=hp2.length_eq;simp only[jag,jb2,jdm] at this;omega
 refine qal fun K5 hK5=>?_;refine qau ?_;refine zl0 hi2 hb2 hold (jaq _) rfl rfl rfl (fun h0=>?_) (fun e w3 he hu3 hi3=>?_)
 ·refine qhy (v:=.bool false) rfl rfl rfl rfl ?_;refine jbc ?_;refine hK5 _ _ ?_;refine qal fun K6 hK6=>?_;refine qkf rfl rfl ?_;refine wp_exit ?_;refine hK3 _ _ ?_;have hnil:(leftOf es seen).toList=[]:=by
   have:leftOf es seen=#[]:=jcw h0;rw[this]
  rw[hnil,List.map_nil,jbo] at hp2;have hold2:Upd [] w w2:=hu2;refine qal fun K7 hK7=>?_;refine qau ?_;refine qaw (v:=.slice ao out.length co) rfl rfl rfl ?_;refine qfw (l:=[.tmp 19,.func 66]) (args:=[.slice ao out.length co,.func (.func 66) #[] #[]]) zms rfl rfl rfl (zfw (ho2.shut (N:=[]) (fun b hb=>by cases hb) (fun b _=>by simp)) (by omega)) ?_;rintro _ w4 ⟨a',c',l',rfl,⟨hps,hso⟩,hrow,hu4⟩;refine qay (v:=.slice a' l'.length c') rfl rfl rfl ?_;refine jbc ?_;refine hK7 _ _ ?_;refine je3 ?_;refine ret1 Try.results54 rfl ⟨a',c',l',rfl,⟨hps.trans hp2,hso⟩,⟨hrow.1,?_⟩,hold2.trans hu4⟩;rcases hrow.2 with h|⟨g,h1,h2,h3⟩
  ·exact .inl h
  ·exact .inr ⟨g,h1,jbj hold2.size h2,h3⟩
 ·refine qhy (v:=.bool true) rfl rfl rfl rfl ?_;refine jbc ?_;refine hK5 _ _ ?_;refine qal fun K6 hK6=>?_;refine qw4 rfl rfl ?_;refine je1 ?_;refine hK6 _ _ ?_;have hein:e∈es.toList:=by
   unfold leftOf at he;rw[jdy] at he;exact(jdf.1 he).1
  obtain⟨hk,hv⟩:=hkv e hein;have hbm3:bm≠β:=by omega
  have hb3:w3.heap[bm]?=some (.map es clock):=(hu3.same bm (qas hb2) (by simpa using hbm3)).trans hb2;refine wp_block ?_;refine qal fun K7 hK7=>?_;refine qau ?_;refine zhg hi3 hb3 hein hn rfl rfl rfl ?_;rw[hk,hv];refine qhy (v:=.int .i64 (qbi e).1) rfl rfl rfl rfl ?_;refine qhy (v:=.string (qbi e).2.1) rfl rfl rfl rfl ?_;refine qay (v:=.int .i64 (qbi e).1) rfl rfl rfl ?_;refine qay (v:=.string (qbi e).2.1) rfl rfl rfl ?_;refine jbc ?_;refine hK7 _ _ ?_;have hlp:=zkp hn he;have hsz:(leftOf es seen).size=(leftOf es (seen.push e.born)).size+1:=by
   have:=hlp.length_eq;simpa using this
  have hu03:Upd [] w w3:=Upd.old_upd hu2 hu3 (by omega);have hM3:Lo ([]:List Nat) w3:=fun b hb=>by cases hb
  have hev3:Evo mo w2 mo w3:=hu3.evo (by intro b hb;simp at hb;rw[hb];exact hm2.1);have ho3:Go.Sx.Own mo [] w3 ao co out:=ho2.mono hu3 (fun b hb=>by have:=hm2.2.1 b hb;simp;omega) hev3 (ho2.mem);refine qau ?_;refine qaw (v:=.slice ao out.length co) rfl rfl rfl ?_;refine qaw (v:=.int .i64 (qbi e).1) rfl rfl rfl ?_;refine qaw (v:=.string (qbi e).2.1) rfl rfl rfl ?_;refine zmu (r:=encC (qbi e)) ty62 zei rfl rfl rfl rfl rfl ?_;refine zl1 (r:=encC (qbi e)) ty31 ty62 rfl rfl rfl rfl rfl rfl fun β4 w4 hβ4 hu4 hz4 hx4=>?_;have hβ4':β4 ∉ mo++[]:=fun h=>by
   rw[jbo] at h;have h1:=hm2.2.2 β4 h;have h2:=hu3.size;omega
  have ev4:Evo mo w3 mo w4:=hu4.evo0;have ho4:Go.Sx.Own mo [] w4 ao co out:=ho3.mono hu4 (fun b hb=>by simp) ev4 ho2.mem;have hs4:SL (mo++[]) w4 (some ⟨β4,0,none⟩) 1 [qbi e]:=SL.of_box1 hx4 hβ4' rfl;have hM4:Lo ([]:List Nat) w4:=fun b hb=>by cases hb
  refine qmj ty31 ty31 ty62 rfl rfl rfl rfl rfl rfl rfl ho4 hs4 hM4 (by show (out.length+1)*32<=140737488355328;omega) fun a5 c5 w5 m5 ho5 ev5 hu5 hbk5 hsub5=>?_;refine qay (v:=.slice a5 (out++[qbi e]).length c5) rfl rfl rfl ?_;refine jbc ?_;have hu04:Upd [] w w4:=hu03.trans hu4;have hi4:w4.heap[β]?=some (.mapIter (some bm) clock (seen.push e.born) clock):=(hu4.same β (qas hi3) (by simp)).trans hi3;have hb4:w4.heap[bm]?=some (.map es clock):=(hu4.same bm (qas hb3) (by simp)).trans hb3;have hnb:∀b∈blk ao,β<b:=hm2.2.1;have hi5:w5.heap[β]?=some (.mapIter (some bm) clock (seen.push e.born) clock):=(hu5.same β (qas hi4) (fun h=>by have:=hnb β h;omega)).trans hi4;have hb5:w5.heap[bm]?=some (.map es clock):=(hu5.same bm (qas hb4) (fun h=>by have:=hnb bm h;omega)).trans hb4;have hlt4:β<w4.heap.size:=qas hi4;refine⟨((seen.push e.born,out++[qbi e]),(a5,c5,m5)),by show (leftOf es (seen.push e.born)).size<(leftOf es seen).size;omega,⟨⟨hi5,hb5⟩,?_,ho5,⟨hsub5 β hm2.1,fun b hb=>?_,?_⟩,⟨hu5.os.trans hu04.os,hu5.tape.trans hu04.tape,hu5.output.trans hu04.output,jbj hu04.size hu5.size,fun x hx hn=>(hu5.same x (jbf hx hu04.size) (fun h=>by have:=hnb x h;omega)).trans (hu04.same x hx hn)⟩⟩,_,rfl,(by repeat first|exact qa6.refl _ _|refine qa6.upd rfl ?_|refine qa6.upds rfl ?_|refine qa6.mix rfl ?_),rfl,trivial⟩
  ·refine List.Perm.trans ?_ hp2;show List.Perm ((out++[qbi e])++(leftOf es (seen.push e.born)).toList.map qbi) (out++(leftOf es seen).toList.map qbi);rw[ja2];exact List.Perm.append_left out (hlp.map qbi).symm
  ·rcases hbk5 b hb with h|h
   ·exact hnb b h
   ·omega
  ·exact ev5.lo fun b hb=>jbf (hm2.2.2 b hb) (jbj hu3.size hu4.size)
end
end Go.Proofs.Ytnhmanoiolfapaa
end

noncomputable section
set_option maxRecDepth 100000
namespace Go.Proofs.Ytnhmanoiolfapaa
open Go Go.Sx Go.RowKit Go.Jx
theorem ql0{m:List (Int × ByteArray)}(h:S.mapG m=true):(m.map (·.1)).Nodup/\∀p∈m,(0<=p.1/\p.1<=199)/\p.2.size<=4000:=by
 unfold S.mapG at h;simp only[jae,jb9,jbg] at h;refine⟨h.1,fun p hp=>?_⟩;have:=h.2 p hp;unfold S.inI at this;simp only[jae,jb9] at this;exact⟨this.1,jak this.2⟩
theorem qki:∀{l:List qaa} {last:Int},S.okGo l last=true->(∀c∈l,last<c.1)/\l.Pairwise (fun a b=>a.1<b.1)
 | [],_,_=>⟨fun c hc=>(by cases hc),List.Pairwise.nil⟩
 | c::l,last,h=>by
  obtain⟨_,_,_,h4,h5⟩:=qbo.1 h;obtain⟨i1,i2⟩:=qki h5;refine⟨fun x hx=>?_,List.Pairwise.cons i1 i2⟩;rcases jav.1 hx with rfl|hx
  ·exact h4
  ·have:=i1 x hx;omega
theorem q4b{c:qaa}(hg:c.2.2=false):∀{l:List qaa},(∀x∈l,x.1≠c.1)->List.Perm (S.ins1 c l) (c::l)
 | [],_=>by
  show List.Perm (cond c.2.2 [] [c]) _;rw[hg];exact jfj _
 | a::r,h=>by
  show List.Perm (if a.1<c.1 then a::S.ins1 c r else if a.1=c.1 then cond c.2.2 r (c::r) else cond c.2.2 (a::r) (c::a::r)) _;by_cases q1:a.1<c.1
  ·rw[jam q1];exact((q4b hg fun x hx=>h x (ja7 _ hx)).cons a).trans (List.Perm.swap c a r)
  ·rw[jan q1,jan (h a (by simp)),hg];exact jfj _
theorem qyi:∀(m:List (Int × ByteArray)) (c:List qaa),(m.map (·.1)).Nodup->(∀p∈m,((0<=p.1/\p.1<=199)/\p.2.size<=4000)/\∀x∈c,x.1≠p.1)->okS c (-1) ->
  okS (m.foldl (fun c p=>S.ins1 (p.1,p.2,false) c) c) (-1)/\List.Perm (m.foldl (fun c p=>S.ins1 (p.1,p.2,false) c) c) (c++m.map fun p=>(p.1,p.2,false))
 | [],c,_,_,h=>⟨h,by simp⟩
 | p::m,c,hn,hr,h=>by
  obtain⟨n1,n2⟩:=jci.1 hn;have hp:=hr p (by simp);have h1:=q4b (c:=(p.1,p.2,false)) rfl hp.2;have h2:okS (S.ins1 (p.1,p.2,false) c) (-1):=qn6 (p.1,p.2,false) hp.1 h (show (-1:Int)<p.1 by have:=hp.1.1.1;omega);obtain⟨i1,i2⟩:=qyi m (S.ins1 (p.1,p.2,false) c) n2 (fun q hq=>⟨(hr q (ja7 _ hq)).1,fun x hx=>by
   rcases jav.1 (h1.mem_iff.1 hx) with rfl|hx
   ·exact fun e=>n1 (jb7.2 ⟨q,hq,e.symm⟩)
   ·exact(hr q (ja7 _ hq)).2 x hx⟩) h2
  refine⟨i1,i2.trans ?_⟩;refine(h1.append_right _).trans ?_;show List.Perm ((p.1,p.2,false)::(c++m.map fun p=>(p.1,p.2,false))) (c++(p.1,p.2,false)::m.map fun p=>(p.1,p.2,false));exact List.perm_middle.symm
theorem qf3{m:List (Int × ByteArray)}(h:S.mapG m=true):okS (S.listed m) (-1)/\List.Perm (S.listed m) (m.map fun p=>(p.1,p.2,false)):=by
 obtain⟨h1,h2⟩:=ql0 h;exact qyi m [] h1 (fun p hp=>⟨h2 p hp,fun x hx=>by cases hx⟩) ⟨rfl,fun x hx=>by cases hx⟩
theorem q45{m:List (Int × ByteArray)}(h:S.mapG m=true):(S.listed m).length=m.length:=(qf3 h).2.length_eq.trans (jb2 _)
theorem zaa{m:List (Int × ByteArray)}(h:S.mapG m=true):m.length<=200:=by
 obtain⟨h1,h2⟩:=qf3 h;have h3:=qqj h1.1 (jbr _);have e:=q45 h;omega
theorem znh{m:List (Int × ByteArray)}(h:S.mapG m=true){l:List qaa}(hp:List.Perm l (m.map fun p=>(p.1,p.2,false)))(hs:qlx l):l=S.listed m:=by
 obtain⟨h1,h2⟩:=qf3 h;obtain⟨n1,n2⟩:=ql0 h;have hn:(l.map (·.1)).Nodup:=by
  refine(hp.map (·.1)).nodup_iff.2 ?_;rw[jfb];exact n1
 have hle:l.Pairwise (fun a b=>¬b.1<a.1):=List.pairwise_iff_getElem.2 fun i j hi hj hij=>hs i j hi hj hij;have hne:l.Pairwise (fun a b=>a.1≠b.1):=List.pairwise_map.1 hn;have hlt:l.Pairwise (fun a b=>a.1<b.1):=(hle.and hne).imp fun⟨a,b⟩=>by omega
 exact List.Perm.eq_of_pairwise (le:=fun a b:qaa=>a.1<b.1) (fun a b _ _ q1 q2=>absurd q1 (by omega)) hlt (qki h1.1).2 (hp.trans h2.symm)
theorem qzd:∀m:List (Int × ByteArray),(tmEs (.int .i64) .str m).map (·.1)=m.map fun p=>IV.int .i64 p.1
 | []=>rfl
 | p::m=>jaw (IV.int .i64 p.1::·) (qzd m)
theorem qyo:∀m:List (Int × ByteArray),(tmEs (.int .i64) .str m).map (·.2)=m.map fun p=>IV.str p.2
 | []=>rfl
 | p::m=>jaw (IV.str p.2::·) (qyo m)
def usC(L:List qaa)(i j:Nat):Value:=(encC (L.getD i (0,S.none_,false))).getD j .nilFunc
theorem q30{L:List qaa}{i j:Nat}(h:i<L.length):usC L i j=(encC L[i]).getD j .nilFunc:=by
 unfold usC;rw[jai (l:=L),jac h];rfl
theorem zb3(E:Env)(m:List (Int × ByteArray))(us:List Value)(hG:S.mapG m=true)(p:Pre T0 E (Sc qcn.ps ((some m,()):ElP qcn.ps)))(hv:VRs E [.map 0] us) :
  CallsIn Fence.wide 0 Try.prog 54 us.toArray E.w (RetB 1 T0 E (Sc qcn.ps ((some m,()):ElP qcn.ps)) ⟨.lst qad (S.listed m),Sc qcn.ps ((some m,()):ElP qcn.ps),0,0⟩):=by
 obtain⟨u,us',rfl,a1,a2⟩:=VRs.inv (v:=.map 0) (cs:=[]) hv;obtain rfl:us'=[]:=jay.1 a2.1.symm;have hA:E.A 0:=by cases a1;assumption
 have hu:u=.map (some (E.ρ 0)):=by cases a1;rfl
 subst hu;obtain⟨ents,clock,h1,h2,h3,h4⟩:=p.st.objs 0 trivial hA (.tmap (.int .i64) .str m) rfl;have h2:VRs E (m.map fun p=>IV.int .i64 p.1) (ents.toList.map (·.key)):=by
  rw[qzd] at h2;exact h2
 have h3:VRs E (m.map fun p=>IV.str p.2) (ents.toList.map (·.val)):=by
  rw[qyo] at h3;exact h3
 have hl2:ents.toList.length=m.length:=by
  have:=h2.1;rw[jb2,jb2] at this;exact this.symm
 have hel:∀i (hi:i<m.length) (hi2:i<ents.toList.length),ents.toList[i].key=.int .i64 (m[i]).1/\ents.toList[i].val=.string (m[i]).2:=fun i hi hi2=>by
  have q1:=h2.2 i (by rw[jb2];exact hi) (by rw[jb2];exact hi2);have q2:=h3.2 i (by rw[jb2];exact hi) (by rw[jb2];exact hi2);simp only[jca] at q1 q2;constructor
  ·generalize ents.toList[i].key=u at q1;cases q1;rfl
  ·generalize ents.toList[i].val=u at q2;cases q2;rfl
 have hkv:∀e∈ents.toList,e.key=.int .i64 (qbi e).1/\e.val=.string (qbi e).2.1:=fun e he=>by
  obtain⟨i,hi,rfl⟩:=jco.1 he;obtain⟨q1,q2⟩:=hel i (by omega) hi;unfold qbi;rw[q1,q2];exact⟨rfl,rfl⟩
 have hmap:ents.toList.map qbi=m.map fun p=>(p.1,p.2,false):=by
  apply List.ext_getElem
  ·simp[hl2]
  ·intro i hi1 hi2;rw[jca,jca];obtain⟨q1,q2⟩:=hel i (by simpa using hi2) (by simpa using hi1);unfold qbi;rw[q1,q2]
 have hlen:=zaa hG;refine(jde.2 (ze9 h1 h4.1 h4.2 hkv (by rw[<- jdm];omega))).mono fun e w' hR=>?_;cases e with
 | returned v =>
  obtain⟨a',c',l',rfl,⟨hp,hs⟩,⟨hc,hrow⟩,hu⟩:=hR;rw[hmap] at hp;obtain rfl:=znh hG hp hs;obtain⟨p1,p2⟩:=Post.idle p hu;refine⟨_,E.at_ w',rfl,rfl,?_,PostB.of (jdj (qhp qcn.ps ((some m,()):ElP qcn.ps)).symm) (fun _ _=>trivial) p1 p2⟩;show VR _ (.lst qad (S.listed m)) _;obtain⟨o1,o2⟩:=qf3 hG;have hll:(S.listed m).length<=200:=by have:=q45 hG;omega
  generalize hL:S.listed m=L at hc hrow hll o1 o2;cases L with
  | nil=>exact .lst0 hc.2
  | cons c0 L =>
   rcases hrow with h|⟨g,rfl,hg,hcell⟩
   ·cases h
   have h00:=hcell 0 (by simp) 0 (by omega);obtain⟨cells,t,fz,hh⟩:∃cells t fz,w'.heap[g]?=some (.cells cells t fz):=by
    unfold World.cell? at h00;split at h00
    ·rename_i c t fz h;exact⟨c,t,fz,h⟩
    ·cases h00
   have hcell2:∀i (h:i<(c0::L).length) j,j<3->cells[i*3+j]?=(encC (c0::L)[i])[j]?:=fun i h j hj=>by
    rw[<- hcell i h j hj];simp[World.cell?,hh]
   refine VR.lst (E:=E.at_ w') (c:=qad) (l:=c0::L) (off:=0) (cells:=cells) (t:=t) (fz:=fz) (usC (c0::L)) hc.1 hc.2 (by show (c0::L).length*25<=140737488355328;omega) (fun h=>?_) hh (fun i hi j hj=>?_) (fun i hi j hj=>?_)
   ·have:=p.st.lo g h;omega
   ·show cells[0+i*3+j]?=_;have hj:j<3:=hj;have hi:i<(c0::L:List qaa).length:=hi;rw[jbk,hcell2 i hi j hj,q30 hi,jai,jac (show j<(encC ((c0::L:List qaa)[i]'hi)).length from hj)];rfl
   ·have hj:j<3:=hj;have hi:i<(c0::L:List qaa).length:=hi;have hin:(c0::L)[i]∈(c0::L):=jbh hi;have hpm:(c0::L)[i]∈(m.map fun p=>((p.1,p.2,false):qaa)):=by
     exact o2.mem_iff.1 hin
    obtain⟨q,hq,hqe⟩:=jb7.1 hpm;obtain⟨⟨k1,k2⟩,k3⟩:=(ql0 hG).2 q hq;show VR _ (cel qad ((c0::L:List qaa)[i]'hi))[j] (usC (c0::L) i j);rw[q30 hi];have hx:∀(x:qaa) (hx:x=(q.1,q.2,false)) (hj':j<(cel qad x).length),VR (E.at_ w') (cel qad x)[j] ((encC x).getD j .nilFunc):=fun x hx hj'=>by
     subst hx;match j,hj with
     | 0,_=>exact .int .i64 q.1 (qez ⟨by omega,by omega⟩)
     | 1,_=>exact .str q.2 (by omega)
     | 2,_=>exact .bool false
    exact hx _ hqe.symm _
 | _=>exact hR.elim
theorem q6x:ConR Try.prog 54 qcn:=by
 refine⟨zbr,fun E x us y z hf p hv=>?_⟩;obtain⟨m,u0⟩:=x;cases u0;cases m with
 | none=>cases hf
 | some m =>
 have hf:cond (S.mapG m) (some (((S.listed m,()):ElR qcn.rts),((some m,()):ElP (refs qcn.ps)))) none=some (y,z):=hf;obtain⟨hG,e⟩:=qba hf;obtain⟨rfl,rfl⟩:=Prod.mk.inj e;exact zb3 E m us hG p hv
abbrev KV:Type:=Int × ByteArray
def ms(k:Int)(v:ByteArray):List KV->List KV
 | []=>[(k,v)]
 | e::es=>if k=e.1 then (k,v)::es else e::ms k v es
def md(k:Int):List KV->List KV
 | []=>[]
 | e::es=>if k=e.1 then es else e::md k es
theorem q11(k:Int)(v:ByteArray):∀m:List KV,(mset (vc:=.str) (.int .i64) k v m:List KV)=ms k v m
 | []=>rfl
 | e::m=>by
  show cond (decide (k=e.1)) ((k,v)::m) (e::(mset (vc:=.str) (.int .i64) k v m:List KV))=if k=e.1 then (k,v)::m else e::ms k v m
  rw[q11 k v m];by_cases h:k=e.1
  ·rw[jao h,jam h];rfl
  ·rw[jar h,jan h];rfl
theorem q12(k:Int):∀m:List KV,(mdel (vc:=.str) (.int .i64) k m:List KV)=md k m
 | []=>rfl
 | e::m=>by
  show cond (decide (k=e.1)) m (e::(mdel (vc:=.str) (.int .i64) k m:List KV))=if k=e.1 then m else e::md k m
  rw[q12 k m];by_cases h:k=e.1
  ·rw[jao h,jam h];rfl
  ·rw[jar h,jan h];rfl
theorem qn0{k:Int}{v:ByteArray}{p:KV}:∀{m:List KV},(m.map (·.1)).Nodup->(p∈ms k v m↔(p∈m/\p.1≠k)\/p=(k,v))
 | [],_=>by simp[ms]
 | e::m,h=>by
  obtain⟨n1,n2⟩:=jci.1 h;unfold ms;by_cases hk:k=e.1
  ·rw[jam hk];constructor
   ·intro hp;rcases jav.1 hp with rfl|hp
    ·exact .inr rfl
    ·exact .inl ⟨ja7 _ hp,fun e'=>n1 (jb7.2 ⟨p,hp,e'.trans hk⟩)⟩
   ·rintro(⟨hp,hn⟩|rfl)
    ·rcases jav.1 hp with rfl|hp
     ·exact absurd hk.symm hn
     ·exact ja7 _ hp
    ·exact jby
  ·rw[jan hk];have ih:=qn0 (k:=k) (v:=v) (p:=p) n2;constructor
   ·intro hp;rcases jav.1 hp with rfl|hp
    ·exact .inl ⟨jby,fun e'=>hk e'.symm⟩
    ·rcases ih.1 hp with ⟨a,b⟩|a
     ·exact .inl ⟨ja7 _ a,b⟩
     ·exact .inr a
   ·rintro(⟨hp,hn⟩|hp)
    ·rcases jav.1 hp with rfl|hp
     ·exact jby
     ·exact ja7 _ (ih.2 (.inl ⟨hp,hn⟩))
    ·exact ja7 _ (ih.2 (.inr hp))
theorem qmz{k:Int}{p:KV}:∀{m:List KV},(m.map (·.1)).Nodup->(p∈md k m↔p∈m/\p.1≠k)
 | [],_=>by simp[md]
 | e::m,h=>by
  obtain⟨n1,n2⟩:=jci.1 h;unfold md;by_cases hk:k=e.1
  ·rw[jam hk];constructor
   ·intro hp;exact⟨ja7 _ hp,fun e'=>n1 (jb7.2 ⟨p,hp,e'.trans hk⟩)⟩
   ·rintro⟨hp,hn⟩;rcases jav.1 hp with rfl|hp
    ·exact absurd hk.symm hn
    ·exact hp
  ·rw[jan hk];have ih:=qmz (k:=k) (p:=p) n2;constructor
   ·intro hp;rcases jav.1 hp with rfl|hp
    ·exact⟨jby,fun e'=>hk e'.symm⟩
    ·exact⟨ja7 _ (ih.1 hp).1,(ih.1 hp).2⟩
   ·rintro⟨hp,hn⟩;rcases jav.1 hp with rfl|hp
    ·exact jby
    ·exact ja7 _ (ih.2 ⟨hp,hn⟩)
theorem q6i{k:Int}{v:ByteArray}:∀{m:List KV},(m.map (·.1)).Nodup->((ms k v m).map (·.1)).Nodup
 | [],_=>by simp[ms]
 | e::m,h=>by
  obtain⟨n1,n2⟩:=jci.1 h;unfold ms;by_cases hk:k=e.1
  ·rw[jam hk];exact jci.2 ⟨by rw[hk];exact n1,n2⟩
  ·rw[jan hk];refine jci.2 ⟨fun hm=>?_,q6i n2⟩;obtain⟨p,hp,he⟩:=jb7.1 hm;rcases(qn0 n2).1 hp with ⟨a,_⟩|a
   ·exact n1 (jb7.2 ⟨p,a,he⟩)
   ·rw[a] at he;exact hk he
theorem qwi{k:Int}:∀{m:List KV},(m.map (·.1)).Nodup->((md k m).map (·.1)).Nodup
 | [],_=>by simp[md]
 | e::m,h=>by
  obtain⟨n1,n2⟩:=jci.1 h;unfold md;by_cases hk:k=e.1
  ·rw[jam hk];exact n2
  ·rw[jan hk];refine jci.2 ⟨fun hm=>?_,qwi n2⟩;obtain⟨p,hp,he⟩:=jb7.1 hm;exact n1 (jb7.2 ⟨p,((qmz n2).1 hp).1,he⟩)
theorem qyr{c x:qaa}:∀{l:List qaa} {last:Int},S.okGo l last=true->(x∈S.ins1 c l↔(x∈l/\x.1≠c.1)\/(x=c/\c.2.2=false))
 | [],last,_=>by
  show x∈cond c.2.2 [] [c]↔_;cases c.2.2<;>simp
 | a::r,last,h=>by
  obtain⟨_,_,_,_,h5⟩:=qbo.1 h;have hlt:=(qki h5).1;have ih:=qyr (c:=c) (x:=x) h5;show x∈(if a.1<c.1 then a::S.ins1 c r else if a.1=c.1 then cond c.2.2 r (c::r) else cond c.2.2 (a::r) (c::a::r))↔_;by_cases q1:a.1<c.1
  ·rw[jam q1,jav,ih,jav];constructor
   ·rintro(rfl|⟨a1,a2⟩|a1)
    ·exact .inl ⟨.inl rfl,by omega⟩
    ·exact .inl ⟨.inr a1,a2⟩
    ·exact .inr a1
   ·rintro(⟨rfl|a1,a2⟩|a1)
    ·exact .inl rfl
    ·exact .inr (.inl ⟨a1,a2⟩)
    ·exact .inr (.inr a1)
  ·rw[jan q1];by_cases q2:a.1=c.1
   ·rw[jam q2];have hr:∀y∈r,y.1≠c.1:=fun y hy=>by have:=hlt y hy;omega
    cases hg:c.2.2 with
    | true =>
     simp only[jab,jav,jfe,and_false,or_false];constructor
     ·intro hx;exact⟨.inr hx,hr x hx⟩
     ·rintro⟨rfl|a1,a2⟩
      ·exact absurd q2 a2
      ·exact a1
    | false =>
     simp only[jah,jav,and_true];constructor
     ·rintro(rfl|hx)
      ·exact .inr rfl
      ·exact .inl ⟨.inr hx,hr x hx⟩
     ·rintro(⟨rfl|a1,a2⟩|a1)
      ·exact absurd q2 a2
      ·exact .inr a1
      ·exact .inl a1
   ·rw[jan q2];have hr:∀y∈a::r,y.1≠c.1:=fun y hy=>by
     rcases jav.1 hy with rfl|hy
     ·exact q2
     ·have:=hlt y hy;omega
    cases hg:c.2.2 with
    | true =>
     simp only[jab,jfe,and_false,or_false];exact⟨fun hx=>⟨hx,hr x hx⟩,fun hx=>hx.1⟩
    | false =>
     simp only[jah,and_true];rw[jav];constructor
     ·rintro(rfl|hx)
      ·exact .inr rfl
      ·exact .inl ⟨hx,hr x hx⟩
     ·rintro(⟨a1,_⟩|a1)
      ·exact .inr a1
      ·exact .inl a1
theorem q9b{a b:List qaa}(ha:okS a (-1))(hb:okS b (-1))(h:∀x,x∈a↔x∈b):a=b:=by
 have h1:=(qki ha.1).2;have h2:=(qki hb.1).2;have n1:a.Nodup:=h1.imp fun {x y} hxy e=>by subst e;omega
 have n2:b.Nodup:=h2.imp fun {x y} hxy e=>by subst e;omega
 exact List.Perm.eq_of_pairwise (le:=fun a b:qaa=>a.1<b.1) (fun a b _ _ q1 q2=>absurd q1 (by omega)) h1 h2 ((List.perm_ext_iff_of_nodup n1 n2).2 h)
theorem qxs{m:List KV}(h:S.mapG m=true){x:qaa}:x∈S.listed m↔(x.1,x.2.1)∈m/\x.2.2=false:=by
 rw[(qf3 h).2.mem_iff,jb7];constructor
 ·rintro⟨p,hp,rfl⟩;exact⟨hp,rfl⟩
 ·rintro⟨hp,hx⟩;exact⟨_,hp,by obtain⟨a,b,c⟩:=x;cases hx;rfl⟩
theorem q1v{m:List KV}(h1:(m.map (·.1)).Nodup)(h2:∀p∈m,(0<=p.1/\p.1<=199)/\p.2.size<=4000):S.mapG m=true:=by
 unfold S.mapG;simp only[jae,jb9,jbg];refine⟨h1,fun p hp=>?_⟩;obtain⟨⟨a,b⟩,c⟩:=h2 p hp;unfold S.inI;simp only[jae,jb9];exact⟨⟨a,b⟩,ja0 c⟩
def qe2(m:List KV)(c:qaa):List KV:=cond c.2.2 (md c.1 m) (ms c.1 c.2.1 m)
theorem q8x{m:List KV}(h:S.mapG m=true){c:qaa}(hc:(0<=c.1/\c.1<=199)/\c.2.1.size<=4000):S.mapG (qe2 m c)=true/\S.listed (qe2 m c)=S.ins1 c (S.listed m):=by
 obtain⟨n1,n2⟩:=ql0 h;obtain⟨o1,o2⟩:=qf3 h;have hG:S.mapG (qe2 m c)=true:=by
  unfold qe2;cases c.2.2 with
  | true=>exact q1v (qwi n1) fun p hp=>n2 p ((qmz n1).1 hp).1
  | false =>
   exact q1v (q6i n1) fun p hp=>by
    rcases(qn0 n1).1 hp with ⟨a,_⟩|rfl
    ·exact n2 p a
    ·exact hc
 refine⟨hG,q9b (qf3 hG).1 (qn6 c hc o1 (by omega)) fun x=>?_⟩;rw[qxs hG,qyr o1.1,qxs h];unfold qe2;cases hg:c.2.2 with
 | true =>
  rw[jab,qmz n1];simp only[jfe,and_false,or_false];exact⟨fun ⟨⟨a,b⟩,c⟩=>⟨⟨a,c⟩,b⟩,fun ⟨⟨a,c⟩,b⟩=>⟨⟨a,b⟩,c⟩⟩
 | false =>
  rw[jah,qn0 n1];simp only[and_true];constructor
  ·rintro⟨⟨a,b⟩|a,d⟩
   ·exact .inl ⟨⟨a,d⟩,b⟩
   ·refine .inr ?_;obtain⟨x1,x2,x3⟩:=x;obtain⟨c1,c2,c3⟩:=c;simp only[jdo] at a d hg ⊢;exact⟨a.1,a.2,d.trans hg.symm⟩
  ·rintro(⟨⟨a,b⟩,d⟩|rfl)
   ·exact⟨.inl ⟨a,d⟩,b⟩
   ·exact⟨.inr rfl,hg⟩
theorem q6s(m:List KV)(l:List qaa):S.applied m l=l.foldl qe2 m:=by
 unfold S.applied;have:∀(l:List qaa) (m:List KV),List.foldl (fun(m:List KV) (c:qaa)=>cond c.2.2 (mdel (vc:=.str) (.int .i64) c.1 m:List KV) (mset (vc:=.str) (.int .i64) c.1 c.2.1 m)) m l=l.foldl qe2 m:=by
  intro l;induction l with
  | nil=>intro m;rfl
  | cons c l ih =>
   intro m;rw[jdt,jdt,ih];congr 1;unfold qe2;rw[<- q11,<- q12]
 exact this l m
theorem q6d:∀{l:List qaa} {m:List KV} {last:Int},S.mapG m=true->S.okGo l last=true->S.mapG (S.applied m l)=true/\S.listed (S.applied m l)=S.changed (S.listed m) l
 | [],m,_,h,_=>⟨h,rfl⟩
 | c::l,m,last,h,hl=>by
  obtain⟨h1,h2,h3,h4,h5⟩:=qbo.1 hl;obtain⟨s1,s2⟩:=q8x h ⟨h1,h2⟩;have ih:=q6d (l:=l) s1 h5;rw[q6s] at ih ⊢;rw[jdt];refine⟨ih.1,ih.2.trans ?_⟩;rw[s2];rfl
theorem qvx{g:Nat->List qaa}(hg:∀k,k<200->g k=[]\/∃c,g k=[c]/\c.1=(k:Int)/\c.2.1.size<=4000/\(c.2.2=true->c.2.1=S.none_)):∀(n s:Nat),s+n<=200->S.okGo ((List.range' s n).flatMap g) ((s:Int)-1)=true
 | 0,s,_=>rfl
 | n+1,s,h=>by
  have ih:=qvx hg n (s+1) (by omega);rw[show ((s+1:Nat):Int)-1=(s:Int) by omega] at ih;rw[List.range'_succ,jeb];rcases hg s (by omega) with e|⟨c,e,h1,h2,h3⟩
  ·rw[e,jcj];exact q5l ih (by omega)
  ·rw[e,List.singleton_append];exact qbo.2 ⟨by omega,h2,h3,by omega,by rw[h1];exact ih⟩
def qja(l:List DChg):Prop:=∀c∈l,0<=c.2.1/\c.2.1<=255
theorem qvl{α β:Type}(f:α->Option β):∀l:List α,l.filterMap f=l.flatMap fun a=>(f a).toList
 | []=>rfl
 | a::l=>by
  rw[List.filterMap_cons,jeb,qvl f l];cases f a<;>rfl
theorem qxc{l:List DChg}(h:qja l):S.okC (S.cells l)=true/\(S.cells l).length<=25:=by
 constructor
 ·have:=qvx (g:=fun k=>((l.reverse.find? fun c=>decide (c.1 % 25=(k:Int))).map (S.cellOf k)).toList) (fun k hk=>?_) 25 0 (by omega)
  ·unfold S.cells S.okC;rw[List.range_eq_range',qvl];exact this
  ·show Option.toList _=[]\/_;cases hf:l.reverse.find? fun c=>decide (c.1 % 25=(k:Int)) with
   | none=>exact .inl rfl
   | some c =>
    refine .inr ⟨S.cellOf k c,rfl,rfl,?_⟩;have hc:=h c (List.mem_reverse.1 (List.mem_of_find?_eq_some hf));unfold S.cellOf;cases c.2.2.2 with
    | true=>exact⟨jb3 _,fun _=>rfl⟩
    | false =>
     refine⟨?_,fun e=>by cases e⟩;show (qae _).size<=4000;rw[qbe,jba];omega
 ·unfold S.cells;exact jbj (List.length_filterMap_le _ _) (by rw[jfl];omega)
def S.madeOk(n:Int):Bool:=decide ((S.newDisk n).2=0)&&(decide ((S.format (S.newDisk n).1).2=0)&&(decide ((S.doD (S.newDisk n).1 (S.format (S.newDisk n).1).1).2=0)&&decide ((S.open_ (S.madeD_ n)).2=0)))
theorem zf2:(List.range 17).all (fun k=>S.madeOk (8+2*((k:Nat):Int)))=true:=by kernel_rfl
theorem q3a{n:Int}(h:S.evn n=true):(S.newDisk n).2=0/\(S.format (S.newDisk n).1).2=0/\(S.doD (S.newDisk n).1 (S.format (S.newDisk n).1).1).2=0/\(S.open_ (S.madeD_ n)).2=0:=by
 unfold S.evn at h;rw[jae,qbk] at h;have h2:=ja3 h.2;have:=jbg.1 zf2 ((n.toNat-8) / 2) (jff.2 (by omega));rw[show 8+2*((((n.toNat-8) / 2:Nat)):Int)=n by omega] at this;unfold S.madeOk at this;rw[jae,jae,jae] at this;exact⟨ja3 this.1,ja3 this.2.1,ja3 this.2.2.1,ja3 this.2.2.2⟩
def JnR(j:qac):Prop:=∃L h a u c,j=((L,[]),h,((u:Nat):Int),c)/\Jn L h a u c
theorem q4e{n:Int}(h:S.evn n=true):JnR (S.madeN n):=by
 obtain⟨hf,a,u,c,j,_,e⟩:=qtm (q3a h).2.2.2;exact⟨_,hf,a,u,c,jaw Prod.fst e,j⟩
theorem q2y{j:qac}(hj:JnR j){l:List DChg}(h:qja l):JnR (S.playStep j l)/\((S.cells l).length=0\/(S.save j (S.cells l)).2=0\/(S.save j (S.cells l)).2=14):=by
 have hk:=qxc h;unfold S.playStep;by_cases h0:(S.cells l).length=0
 ·rw[jam h0];exact⟨hj,.inl h0⟩
 ·obtain⟨L,hf,a,u,c,rfl,j⟩:=hj;rw[jan h0];rcases qp0 j hk.1 h0 (by omega) with ⟨L',h',a',u',e,j',_⟩|⟨e,_⟩
  ·rw[e,jam rfl];exact⟨⟨_,_,_,_,_,rfl,j'⟩,.inr (.inl rfl)⟩
  ·rw[e,jan (by show ¬(14:Int)=0;decide)];exact⟨⟨_,_,_,_,_,rfl,j⟩,.inr (.inr rfl)⟩
theorem qvv:∀{l:List (List DChg)} {j:qac},JnR j->(∀x∈l,qja x)->JnR (l.foldl S.playStep j)
 | [],_,h,_=>h
 | x::l,j,h,hl=>qvv (j:=S.playStep j x) (q2y h (hl x (by simp))).1 fun y hy=>hl y (by simp[hy])
theorem qtg{s:Int}(h:0<=s/\s<=255):S.evn (8+2*(s % 17))=true:=by
 unfold S.evn;rw[jae,qbk];exact⟨by omega,jao (by omega)⟩
theorem za1{s:Int}{l:List (List DChg)}(h:0<=s/\s<=255)(hl:∀x∈l,qja x):JnR (S.played s l):=qvv (q4e (qtg h)) hl
def S.ten:ByteArray:=S.lit [48,49,50,51,52,53,54,55,56,57]
def S.hC:List qaa:=[(5,S.ten,false)]
def S.hL:List DAct:=(S.plan S.madeJ S.hC).1
def S.hD:qak:=(S.doD S.madeJ.1 (S.hL.take 4)).1
def S.hLost:qak:=(S.crash S.hD [0]).1
def S.hKept:qak:=(S.crash S.hD [1]).1
def S.hX:qac:=(S.open_ S.hLost).1
def S.hY:qac:=(S.open_ S.hKept).1
def S.hG:List qaa:=[(5,S.none_,true)]
def S.hZ:qac:=(S.commitJ S.hY S.hG).1
def S.hT:qac:=(S.turnJ S.hZ).1
def S.gPlan(j:qac)(l:List qaa):Bool:=S.sameJ j S.madeJ&&S.sameC l S.hC
def S.gDo(d:qak)(l:List DAct):Bool:=S.sameD d S.madeJ.1&&S.sameA l (S.hL.take 4)
def S.isZ(k:List Int):Bool:=decide (k=[0])
def S.gCrash(d:qak)(k:List Int):Bool:=S.sameD d S.hD&&(decide (k=[0])||decide (k=[1]))
def S.hCr(k:List Int):qak:=cond (S.isZ k) S.hLost S.hKept
def S.gOpen(d:qak):Bool:=S.sameD d S.hLost||S.sameD d S.hKept
def S.hOp(d:qak):qac:=cond (S.sameD d S.hLost) S.hX S.hY
def S.gCom(j:qac)(l:List qaa):Bool:=S.sameJ j S.hY&&S.sameC l S.hG
def S.gZ(j:qac):Bool:=S.sameJ j S.hZ
def qwf:Sm:=⟨[qag,.list qad],[(true,cAct),(false,.int .i64)],fun x=>cond (S.gPlan x.1 x.2.1) (some (S.hL,(0:Int),())) none⟩
def qvm:Sm:=⟨[qav,.list cAct],[(false,qav),(false,.int .i64)],fun x=>cond (S.gDo x.1 x.2.1) (some (S.hD,(0:Int),())) none⟩
def q5d:Sm:=⟨[qav,.list (.int .i64)],[(false,qav),(false,.int .i64)],fun x=>cond (S.gCrash x.1 x.2.1) (some (S.hCr x.2.1,(0:Int),())) none⟩
def q3o:Sm:=⟨[qav],[(false,qag),(false,.int .i64)],fun x=>cond (S.gOpen x.1) (some (S.hOp x.1,(0:Int),())) none⟩
def q1t:Sm:=⟨[qag,.list qad],[(false,qag),(false,.int .i64)],fun x=>cond (S.gCom x.1 x.2.1) (some (S.hZ,(0:Int),())) none⟩
def q43:Sm:=⟨[qag],[(false,.int .i64),(false,.int .i64)],fun x=>cond (S.gZ x.1) (some ((0:Int),(0:Int),())) none⟩
def q3n:Sm:=⟨[qag],[(false,qag),(false,.int .i64)],fun x=>cond (S.gZ x.1) (some (S.hT,(0:Int),())) none⟩
abbrev qoq:Type:=Bool × Unit
abbrev ziy:Nat:=5
def zju(lf:Nat):Option qoq:=(match (cond (S.inI (Int.ofNat 8) (Int.ofNat 8) (Int.ofNat 8)) (some (S.madeJ,(true,()))) none) with|none=>none|some v0=>(cond (Bool.not v0.2.1) (some (false,())) (match (cond (S.gPlan ((v0.1.1.1,v0.1.1.2),(v0.1.2.1,(v0.1.2.2.1,v0.1.2.2.2))) (List.cons ((Int.ofNat 5),((S.lit [48,49,50,51,52,53,54,55,56,57]),false)) [])) (some (S.hL,((Int.ofNat 0),()))) none) with|none=>none|some v1=>(cond (Bool.not (ieqI v1.2.1 (Int.ofNat 0))) (some (false,())) (cond (Bool.not (ieqI (Int.ofNat v1.1.length) (Int.ofNat 5))) (some (false,())) (match (jget v1.1 (Int.ofNat 0)) with|none=>none|some v2=>(match (GetElem?.getElem? v1.1 0) with|none=>none|some v3=>(cond (Bool.not (ieqI v3.2.1 (Int.ofNat 2))) (some (false,())) (match (jget v1.1 (Int.ofNat 1)) with|none=>none|some v4=>(match (GetElem?.getElem? v1.1 1) with|none=>none|some v5=>(cond (Bool.not (ieqI v5.2.1 (Int.ofNat 3))) (some (false,())) (match (jget v1.1 (Int.ofNat 2)) with|none=>none|some v6=>(match (GetElem?.getElem? v1.1 2) with|none=>none|some v7=>(cond (Bool.not v7.1) (some (false,())) (match (jget v1.1 (Int.ofNat 3)) with|none=>none|some v8=>(match (GetElem?.getElem? v1.1 3) with|none=>none|some v9=>(cond (Bool.not (ieqI v9.2.1 (Int.ofNat 2))) (some (false,())) (cond (Bool.not (ieqI v0.1.2.1 (Int.ofNat 0))) (some (false,())) (cond (Bool.not (ieqI v0.1.2.2.1 (Int.ofNat 1))) (some (false,())) (cond (Bool.not (ieqI (Int.ofNat v0.1.2.2.2.length) (Int.ofNat 0))) (some (false,())) (cond (lchk (Int.ofNat 0) (Int.ofNat 4) (Int.ofNat v1.1.length) (Int.ofNat v1.1.length)) (match (cond (S.gDo (v0.1.1.1,v0.1.1.2) (lsub v1.1 (Int.ofNat 0) (Int.ofNat 4))) (some (S.hD,((Int.ofNat 0),()))) none) with|none=>none|some v10=>(match (cond (S.gCrash (v10.1.1,v10.1.2) [(Int.ofNat 0)]) (some ((S.hCr [(Int.ofNat 0)]),((Int.ofNat 0),()))) none) with|none=>none|some v11=>(match (cond (S.gCrash (v10.1.1,v10.1.2) [(Int.ofNat 1)]) (some ((S.hCr [(Int.ofNat 1)]),((Int.ofNat 0),()))) none) with|none=>none|some v12=>(match (cond (S.gOpen (v11.1.1,v11.1.2)) (some ((S.hOp (v11.1.1,v11.1.2)),((Int.ofNat 0),()))) none) with|none=>none|some v13=>(match (cond (S.gOpen (v12.1.1,v12.1.2)) (some ((S.hOp (v12.1.1,v12.1.2)),((Int.ofNat 0),()))) none) with|none=>none|some v14=>(cond (Bool.not (ieqI v10.2.1 (Int.ofNat 0))) (some (false,())) (cond (Bool.not (ieqI v11.2.1 (Int.ofNat 0))) (some (false,())) (cond (Bool.not (ieqI v12.2.1 (Int.ofNat 0))) (some (false,())) (cond (Bool.not (ieqI v13.2.1 (Int.ofNat 0))) (some (false,())) (cond (Bool.not (ieqI v14.2.1 (Int.ofNat 0))) (some (false,())) (cond (Bool.not (ieqI (Int.ofNat v13.1.2.2.2.length) (Int.ofNat 0))) (some (false,())) (cond (Bool.not (ieqI (Int.ofNat v14.1.2.2.2.length) (Int.ofNat 1))) (some (false,())) (match (jget v14.1.2.2.2 (Int.ofNat 0)) with|none=>none|some v15=>(cond (Bool.not (keqS v15.2.1 (S.lit [48,49,50,51,52,53,54,55,56,57]))) (some (false,())) (match (cond (S.gCom ((v14.1.1.1,v14.1.1.2),(v14.1.2.1,(v14.1.2.2.1,v14.1.2.2.2))) (List.cons ((Int.ofNat 5),((S.lit []),true)) [])) (some (S.hZ,((Int.ofNat 0),()))) none) with|none=>none|some v16=>(match (cond (S.gZ ((v16.1.1.1,v16.1.1.2),(v16.1.2.1,(v16.1.2.2.1,v16.1.2.2.2)))) (some ((Int.ofNat 0),((Int.ofNat 0),()))) none) with|none=>none|some v17=>(match (cond (S.gZ ((v16.1.1.1,v16.1.1.2),(v16.1.2.1,(v16.1.2.2.1,v16.1.2.2.2)))) (some (S.hT,((Int.ofNat 0),()))) none) with|none=>none|some v18=>(cond (ieqI v16.2.1 (Int.ofNat 0)) (cond (ieqI v17.2.1 (Int.ofNat 0)) (cond (ieqI v18.2.1 (Int.ofNat 0)) (cond (ieqI v17.1 (Int.ofNat 0)) (cond (ieqI v18.1.2.1 (Int.ofNat 1)) (cond (ieqI v18.1.2.2.1 (Int.ofNat 1)) (some ((ieqI (Int.ofNat v18.1.2.2.2.length) (Int.ofNat 0)),())) (some (false,()))) (some (false,()))) (some (false,()))) (some (false,()))) (some (false,()))) (some (false,())))))))))))))))))))) none)))))))))))))))))))))
def qry(lf:Nat):Option qoq:=zju lf
theorem zmg{g:ElA []->Option qoq}(hsm:SmOK Try.prog [(19,q4u),(14,spz4),(16,qwf),(20,qvm),(21,q5d),(10,q3o),(18,q1t),(15,q43),(11,q3n)])(hg:∀(x:ElA []) (y:qoq),WfA [] x->g x=some y->∃lf,qry lf=some y):Con Try.prog 5 ⟨[],[(false,.bool)],g⟩ :=
 conU (fi:=fi5) (hxl:=[]) (fun lf x=>qry lf) cm3 cal5 trivial hsm hg
abbrev qmv:Type:=qac × Bool × Unit
abbrev qyb:Nat:=19
def qu5(lf:Nat)(x1:Int):Option qmv:=(cond (ieqI (S.newDisk x1).2 (Int.ofNat 0)) (cond (ieqI (S.format ((S.newDisk x1).1.1,(S.newDisk x1).1.2)).2 (Int.ofNat 0)) (cond (ieqI (S.doD ((S.newDisk x1).1.1,(S.newDisk x1).1.2) (S.format ((S.newDisk x1).1.1,(S.newDisk x1).1.2)).1).2 (Int.ofNat 0)) (some ((((S.open_ ((S.doD ((S.newDisk x1).1.1,(S.newDisk x1).1.2) (S.format ((S.newDisk x1).1.1,(S.newDisk x1).1.2)).1).1.1,(S.doD ((S.newDisk x1).1.1,(S.newDisk x1).1.2) (S.format ((S.newDisk x1).1.1,(S.newDisk x1).1.2)).1).1.2)).1.1.1,(S.open_ ((S.doD ((S.newDisk x1).1.1,(S.newDisk x1).1.2) (S.format ((S.newDisk x1).1.1,(S.newDisk x1).1.2)).1).1.1,(S.doD ((S.newDisk x1).1.1,(S.newDisk x1).1.2) (S.format ((S.newDisk x1).1.1,(S.newDisk x1).1.2)).1).1.2)).1.1.2),((S.open_ ((S.doD ((S.newDisk x1).1.1,(S.newDisk x1).1.2) (S.format ((S.newDisk x1).1.1,(S.newDisk x1).1.2)).1).1.1,(S.doD ((S.newDisk x1).1.1,(S.newDisk x1).1.2) (S.format ((S.newDisk x1).1.1,(S.newDisk x1).1.2)).1).1.2)).1.2.1,((S.open_ ((S.doD ((S.newDisk x1).1.1,(S.newDisk x1).1.2) (S.format ((S.newDisk x1).1.1,(S.newDisk x1).1.2)).1).1.1,(S.doD ((S.newDisk x1).1.1,(S.newDisk x1).1.2) (S.format ((S.newDisk x1).1.1,(S.newDisk x1).1.2)).1).1.2)).1.2.2.1,(S.open_ ((S.doD ((S.newDisk x1).1.1,(S.newDisk x1).1.2) (S.format ((S.newDisk x1).1.1,(S.newDisk x1).1.2)).1).1.1,(S.doD ((S.newDisk x1).1.1,(S.newDisk x1).1.2) (S.format ((S.newDisk x1).1.1,(S.newDisk x1).1.2)).1).1.2)).1.2.2.2))),((ieqI (S.open_ ((S.doD ((S.newDisk x1).1.1,(S.newDisk x1).1.2) (S.format ((S.newDisk x1).1.1,(S.newDisk x1).1.2)).1).1.1,(S.doD ((S.newDisk x1).1.1,(S.newDisk x1).1.2) (S.format ((S.newDisk x1).1.1,(S.newDisk x1).1.2)).1).1.2)).2 (Int.ofNat 0)),()))) (some ((((S.open_ ((S.doD ((S.newDisk x1).1.1,(S.newDisk x1).1.2) (S.format ((S.newDisk x1).1.1,(S.newDisk x1).1.2)).1).1.1,(S.doD ((S.newDisk x1).1.1,(S.newDisk x1).1.2) (S.format ((S.newDisk x1).1.1,(S.newDisk x1).1.2)).1).1.2)).1.1.1,(S.open_ ((S.doD ((S.newDisk x1).1.1,(S.newDisk x1).1.2) (S.format ((S.newDisk x1).1.1,(S.newDisk x1).1.2)).1).1.1,(S.doD ((S.newDisk x1).1.1,(S.newDisk x1).1.2) (S.format ((S.newDisk x1).1.1,(S.newDisk x1).1.2)).1).1.2)).1.1.2),((S.open_ ((S.doD ((S.newDisk x1).1.1,(S.newDisk x1).1.2) (S.format ((S.newDisk x1).1.1,(S.newDisk x1).1.2)).1).1.1,(S.doD ((S.newDisk x1).1.1,(S.newDisk x1).1.2) (S.format ((S.newDisk x1).1.1,(S.newDisk x1).1.2)).1).1.2)).1.2.1,((S.open_ ((S.doD ((S.newDisk x1).1.1,(S.newDisk x1).1.2) (S.format ((S.newDisk x1).1.1,(S.newDisk x1).1.2)).1).1.1,(S.doD ((S.newDisk x1).1.1,(S.newDisk x1).1.2) (S.format ((S.newDisk x1).1.1,(S.newDisk x1).1.2)).1).1.2)).1.2.2.1,(S.open_ ((S.doD ((S.newDisk x1).1.1,(S.newDisk x1).1.2) (S.format ((S.newDisk x1).1.1,(S.newDisk x1).1.2)).1).1.1,(S.doD ((S.newDisk x1).1.1,(S.newDisk x1).1.2) (S.format ((S.newDisk x1).1.1,(S.newDisk x1).1.2)).1).1.2)).1.2.2.2))),(false,())))) (some ((((S.open_ ((S.doD ((S.newDisk x1).1.1,(S.newDisk x1).1.2) (S.format ((S.newDisk x1).1.1,(S.newDisk x1).1.2)).1).1.1,(S.doD ((S.newDisk x1).1.1,(S.newDisk x1).1.2) (S.format ((S.newDisk x1).1.1,(S.newDisk x1).1.2)).1).1.2)).1.1.1,(S.open_ ((S.doD ((S.newDisk x1).1.1,(S.newDisk x1).1.2) (S.format ((S.newDisk x1).1.1,(S.newDisk x1).1.2)).1).1.1,(S.doD ((S.newDisk x1).1.1,(S.newDisk x1).1.2) (S.format ((S.newDisk x1).1.1,(S.newDisk x1).1.2)).1).1.2)).1.1.2),((S.open_ ((S.doD ((S.newDisk x1).1.1,(S.newDisk x1).1.2) (S.format ((S.newDisk x1).1.1,(S.newDisk x1).1.2)).1).1.1,(S.doD ((S.newDisk x1).1.1,(S.newDisk x1).1.2) (S.format ((S.newDisk x1).1.1,(S.newDisk x1).1.2)).1).1.2)).1.2.1,((S.open_ ((S.doD ((S.newDisk x1).1.1,(S.newDisk x1).1.2) (S.format ((S.newDisk x1).1.1,(S.newDisk x1).1.2)).1).1.1,(S.doD ((S.newDisk x1).1.1,(S.newDisk x1).1.2) (S.format ((S.newDisk x1).1.1,(S.newDisk x1).1.2)).1).1.2)).1.2.2.1,(S.open_ ((S.doD ((S.newDisk x1).1.1,(S.newDisk x1).1.2) (S.format ((S.newDisk x1).1.1,(S.newDisk x1).1.2)).1).1.1,(S.doD ((S.newDisk x1).1.1,(S.newDisk x1).1.2) (S.format ((S.newDisk x1).1.1,(S.newDisk x1).1.2)).1).1.2)).1.2.2.2))),(false,())))) (some ((((S.open_ ((S.doD ((S.newDisk x1).1.1,(S.newDisk x1).1.2) (S.format ((S.newDisk x1).1.1,(S.newDisk x1).1.2)).1).1.1,(S.doD ((S.newDisk x1).1.1,(S.newDisk x1).1.2) (S.format ((S.newDisk x1).1.1,(S.newDisk x1).1.2)).1).1.2)).1.1.1,(S.open_ ((S.doD ((S.newDisk x1).1.1,(S.newDisk x1).1.2) (S.format ((S.newDisk x1).1.1,(S.newDisk x1).1.2)).1).1.1,(S.doD ((S.newDisk x1).1.1,(S.newDisk x1).1.2) (S.format ((S.newDisk x1).1.1,(S.newDisk x1).1.2)).1).1.2)).1.1.2),((S.open_ ((S.doD ((S.newDisk x1).1.1,(S.newDisk x1).1.2) (S.format ((S.newDisk x1).1.1,(S.newDisk x1).1.2)).1).1.1,(S.doD ((S.newDisk x1).1.1,(S.newDisk x1).1.2) (S.format ((S.newDisk x1).1.1,(S.newDisk x1).1.2)).1).1.2)).1.2.1,((S.open_ ((S.doD ((S.newDisk x1).1.1,(S.newDisk x1).1.2) (S.format ((S.newDisk x1).1.1,(S.newDisk x1).1.2)).1).1.1,(S.doD ((S.newDisk x1).1.1,(S.newDisk x1).1.2) (S.format ((S.newDisk x1).1.1,(S.newDisk x1).1.2)).1).1.2)).1.2.2.1,(S.open_ ((S.doD ((S.newDisk x1).1.1,(S.newDisk x1).1.2) (S.format ((S.newDisk x1).1.1,(S.newDisk x1).1.2)).1).1.1,(S.doD ((S.newDisk x1).1.1,(S.newDisk x1).1.2) (S.format ((S.newDisk x1).1.1,(S.newDisk x1).1.2)).1).1.2)).1.2.2.2))),(false,()))))
def qhf(lf:Nat)(x1:Int):Option qmv:=qu5 lf x1
theorem q4t{g:ElA [(.int .i64)]->Option qmv}(hsm:SmOK Try.prog [(32,q2r),(33,qyl),(20,spz7),(10,qxm)])(hg:∀(x:ElA [(.int .i64)]) (y:qmv),WfA [(.int .i64)] x->g x=some y->∃lf,qhf lf x.1=some y):Con Try.prog 19 ⟨[(.int .i64)],[(false,qag),(false,.bool)],g⟩ :=
 conU (fi:=fi19) (hxl:=[]) (fun lf x=>qhf lf x.1) cm3 zdt trivial hsm hg
theorem qyd(a b:Nat):(!iltI (Int.ofNat a) (Int.ofNat b))=Nat.ble b a:=by
 rw[qcb,jc7,jch,jet,Nat.ble_eq];omega
theorem q8r:(S.newDisk 8).2=0/\(S.format (S.newDisk 8).1).2=0/\(S.doD (S.newDisk 8).1 (S.format (S.newDisk 8).1).1).2=0/\(S.open_ S.madeD).2=0:=by
 refine⟨?_,?_,?_,?_⟩<;>kernel_rfl
theorem zh3(lf:Nat):qhf lf 8=some (S.madeJ,true,()):=by
 obtain⟨h1,h2,h3,h4⟩:=q8r;simp only[qhf,qu5];show cond (ieqI (S.newDisk 8).2 _) (cond (ieqI (S.format (S.newDisk 8).1).2 _) (cond (ieqI (S.doD (S.newDisk 8).1 (S.format (S.newDisk 8).1).1).2 _) (some ((S.open_ S.madeD).1,ieqI (S.open_ S.madeD).2 _,())) _) _) _=_;rw[h1,h2,h3,h4];rfl
abbrev qn7:Type:=ByteArray × Unit
abbrev zg9:Nat:=44
def zel(lf:Nat):Option qn7:=(match (cond (S.oneN (S.lit [0]) (Int.ofNat 64)) (some (S.blank,())) none) with|none=>none|some v0=>(some (v0.1,())))
def qxd(lf:Nat):Option qn7:=zel lf
theorem zie{g:ElA []->Option qn7}(hsm:SmOK Try.prog [(59,q52)])(hg:∀(x:ElA []) (y:qn7),WfA [] x->g x=some y->∃lf,qxd lf=some y):Con Try.prog 44 ⟨[],[(false,.str)],g⟩ :=
 conU (fi:=fi44) (hxl:=[]) (fun lf x=>qxd lf) cm3 zmd trivial hsm hg
def qjd:Nat->Option Nm:=fun k=>cond (Nat.beq k 4) (some ⟨[0,1,12,13],[],[],[],[],0,0,false⟩) (none)
def qkt:Nat->Bool:=fun k=>cond (Nat.beq k 4) true (false)
def qy9:=qkt
abbrev qc7:Type:=Bool × Unit
def q6a:List (Nat × Sm):=[]
def qvt:List (Nat × Hx):=[]
def qq4(R:Type)(lf:Nat):ClK R:=qa8 Try.prog ttT.get ftT.get (nm1 40 qjd) (smL q6a) (hxL qvt) lf 20 R
abbrev zej:Nat:=40
def qhe(x1:(List qaa))(x2:(List qaa))(p:Int):NRes:=(NRes.mk (.node (some (IV.lst qad x1)) (.node (some (IV.lst qad x2)) .leaf (.node none .leaf (.node (some (IV.int .i64 p)) .leaf .leaf))) (.node none (.node none .leaf (.node (some (IV.int .i64 (Int.ofNat x1.length))) .leaf .leaf)) .leaf)) (IS.mk .leaf 0) [] 0)
def qqr(lf:Nat)(x1:(List qaa))(x2:(List qaa))(L4:Int->Option qc7):Option qc7:=(cond (Bool.not (ieqI (Int.ofNat x1.length) (Int.ofNat x2.length))) (some (false,())) (L4 (Int.ofNat 0)))
def qo9(lf:Nat)(x1:(List qaa))(x2:(List qaa))(L4:Int->Option qc7)(p:Int):Option qc7:=(cond (iltI p (Int.ofNat x1.length)) (match (jget x1 p) with|none=>none|some v0=>(match (jget x2 p) with|none=>none|some v1=>(cond (Bool.not (Bool.and (keqI v0.1 v1.1) (Bool.and (keqS v0.2.1 v1.2.1) (Bool.and (keqB v0.2.2 v1.2.2) true)))) (some (false,())) (L4 (IntKind.i64.wrap (Int.add p (Int.ofNat 1))))))) (some (true,())))
abbrev gz14:Type:=ElA [(.list qad),(.list qad)]->Option qc7
abbrev sz14(g:gz14):Sm:=⟨[(.list qad),(.list qad)],[(false,.bool)],g⟩
abbrev Ez14(g:gz14)(J:JT qc7)(lf:Nat)(x1:(List qaa))(x2:(List qaa)):=qb6 Try.prog ttT.get qjd fi40.nt (qq4 _ lf) lf qkt J fi40.body [] (qaz (argV [(.list qad),(.list qad)] (x1,x2,())) 0 .leaf) S0 [] (qa2 ttT.get fi40 (sz14 g))
abbrev Bz14(g:gz14)(J:JT qc7)(lf k:Nat)(ms:List Nat)(q:NRes):=qct Try.prog ttT.get qjd fi40.nt (qq4 _ lf) lf qkt J k fi40.body [] ms q (qa2 ttT.get fi40 (sz14 g))
theorem q98(g:gz14)(J:JT qc7)(lf:Nat)(x1:(List qaa))(x2:(List qaa)):Ez14 g J lf x1 x2=qqr lf x1 x2 (fun q=>J 4 [lf] (qhe x1 x2 q)):=by kernel_rfl
theorem zdh(g:gz14)(J:JT qc7)(lf:Nat)(x1:(List qaa))(x2:(List qaa))(m1:Nat)(p:Int):Bz14 g J lf 4 [m1] (qhe x1 x2 p)=qo9 lf x1 x2 (fun q=>J 4 [m1] (qhe x1 x2 q)) p:=by kernel_rfl
theorem q1o:(regs fi40.body).Nodup:=by decide +kernel
theorem qy5:okC qjd qkt qy9 fi40.body none=true:=by kernel_rfl
def Az14(g:gz14)(lf:Nat):JT qc7:=atN Try.prog ttT.get qjd fi40 (sz14 g) (qq4 _ lf) lf qy9
def qm2(lf:Nat)(x1:(List qaa))(x2:(List qaa)):Nat->(Int)->Option qc7:=qa9 fun K p=>qo9 lf x1 x2 K p
theorem q06(g:gz14)(lf:Nat)(x1:(List qaa))(x2:(List qaa)):∀(n:Nat) (p:Int),Az14 g lf 4 [n] (qhe x1 x2 p)=qm2 lf x1 x2 n p
 | 0,p=>qb5 4 [0] rfl _
 | n+1,p=>by
  have ih:=q06 g lf x1 x2 n;refine(qb3 (qbh 20 _) q1o qy5 4 [n+1] [n] rfl _).trans ((zdh g (Az14 g lf) lf x1 x2 n p).trans ?_);rw[(show (fun q=>Az14 g lf 4 [n] (qhe x1 x2 q))=(fun q=>qm2 lf x1 x2 n q) from funext ih)];rfl
def Fz14(lf:Nat)(x1:(List qaa))(x2:(List qaa)):Option qc7:=qqr lf x1 x2 (fun q=>qm2 lf x1 x2 lf q)
theorem zkr(g:gz14)(lf:Nat)(x1:(List qaa))(x2:(List qaa)):Ez14 g (Az14 g lf) lf x1 x2=Fz14 lf x1 x2:=by
  refine(q98 g (Az14 g lf) lf x1 x2).trans ?_;rw[(show (fun q=>Az14 g lf 4 [lf] (qhe x1 x2 q))=(fun q=>qm2 lf x1 x2 lf q) from funext fun q=>q06 g lf x1 x2 lf q)];rfl
theorem q77:qbg Try.prog qvt:=trivial
theorem zlq{g:gz14}(hsm:SmOK Try.prog q6a)(hg:∀(x:ElA [(.list qad),(.list qad)]) (y:qc7),WfA [(.list qad),(.list qad)] x->g x=some y->∃lf,Fz14 lf x.1 x.2.1=some y):Con Try.prog 40 ⟨[(.list qad),(.list qad)],[(false,.bool)],g⟩ :=
 conV (st:=qkt) (fun lf x=>Fz14 lf x.1 x.2.1) cm3 q6v q77 q1o qy5 (fun lf x=>zkr g lf x.1 x.2.1) hsm hg
theorem zi8{j:qac}(h:S.turG j=true):S.smallJ j=true/\S.pk j.2.2.2=true/\(j.2.1=0\/j.2.1=1)/\8<=j.1.1.length:=by
 unfold S.turG at h;rw[jae,jae,jae,qbk] at h;exact⟨h.1,h.2.1,by omega,jak h.2.2.2⟩
theorem zm6(lf:Nat)(j:qac)(h:S.turG j=true):qk8 lf j=some ((S.actsB (S.turn j)).1,(S.actsB (S.turn j)).2,()):=by
 obtain⟨hs,hp,hh,hge⟩:=zi8 h;obtain⟨h1,h2,_,_⟩:=qt8 hs;have hpl:=q2n hp 1;have hpos:=qel j.2.2.2 1;have hp0:(S.packed j.2.2.2 0).length=(S.packed j.2.2.2 1).length:=by rw[qbx,qbx]
 obtain⟨b,e1,e2,e3,_,_⟩:=qgj h2 hge (h:=1-j.2.1) (by omega);have hw:IntKind.i64.wrap (Int.sub (Int.ofNat 1) j.2.1)=1-j.2.1:=wrap_in (by show -_<=(1:Int)-j.2.1/\(1:Int)-j.2.1<_;omega);have hw2:IntKind.i64.wrap (Int.sub ((b+(j.1.1.length / 2-1):Nat):Int) (b:Int))=Int.ofNat (j.1.1.length / 2-1):=by
  have:Int.sub ((b+(j.1.1.length / 2-1):Nat):Int) (b:Int)=Int.ofNat (j.1.1.length / 2-1):=by
   show ((b+(j.1.1.length / 2-1):Nat):Int)-(b:Int)=((j.1.1.length / 2-1:Nat):Int);omega
  rw[this];exact qbl (by omega)
 simp only[qk8,q5c,hw];rw[hp,jab];simp only;rw[show S.inI (Int.ofNat j.1.1.length) (Int.ofNat 0) (Int.ofNat 1000)=true from qbk.2 ⟨jbz _,by show (j.1.1.length:Int)<=1000;omega⟩,jab];simp only;rw[show Int.toNat (Int.ofNat j.1.1.length)=j.1.1.length from rfl,e1];simp only[hw2];by_cases c0:j.1.1.length / 2-1<(S.packed j.2.2.2 1).length
 ·have hn:S.turn j=none:=q31 (by rw[e1];show ((b+(j.1.1.length / 2-1):Nat):Int)-(b:Int)<((S.packed j.2.2.2 1).length:Int);omega);rw[qei (show Int.ofNat (j.1.1.length / 2-1)<Int.ofNat (S.packed j.2.2.2 (Int.ofNat 1)).length from jfs.2 c0),jab,hn];rfl
 have hsome:S.turn j=some (turA j.1.1 (1-j.2.1) b j.2.2.2):=by
  rw[qzn (by rw[e1];show ¬((b+(j.1.1.length / 2-1):Nat):Int)-(b:Int)<((S.packed j.2.2.2 1).length:Int);omega),e1];have:(((b+(j.1.1.length / 2-1):Nat):Int)-(b:Int)).toNat=j.1.1.length / 2-1:=by omega
  simp only[this];rfl
 rw[qfj (show ¬Int.ofNat (j.1.1.length / 2-1)<Int.ofNat (S.packed j.2.2.2 (Int.ofNat 1)).length from fun h=>c0 (jfs.1 h)),jah,hsome];unfold turA;have hR:(S.puts (b:Int) (List.replicate (j.1.1.length / 2-1) S.blank)).length<=1000:=by rw[qf0,jba];omega
 have w2:IntKind.i64.wrap (Int.add (b:Int) (Int.ofNat 1))=((b+1:Nat):Int):=qbl (n:=b+1) (by omega);have hsz:=qh6 j.2.2.2 1 _ (qh9 (i:=0) (show 0<(S.packed j.2.2.2 1).length by omega));have l1:lchk (Int.ofNat 1) (Int.ofNat (S.packed j.2.2.2 1).length) (Int.ofNat (S.packed j.2.2.2 1).length) (Int.ofNat (S.packed j.2.2.2 1).length)=true:=qby.2 ⟨by decide,by show (1:Int)<=((S.packed j.2.2.2 1).length:Int);omega,jbr _,jbr _⟩;have hdl:Nat.ble ((S.packed j.2.2.2 1).drop 1).length 1000000=true:=ja0 (by rw[ja6];omega);have hpl0:(S.puts (b:Int) (S.packed j.2.2.2 0)).length<=20000:=by rw[qf0];omega
 have hj0:jget (S.packed j.2.2.2 (Int.ofNat 1)) (Int.ofNat 0)=some ((S.packed j.2.2.2 1).getD 0 S.none_):=qpl hpos;have hg0:(S.packed j.2.2.2 (Int.ofNat 1))[0]?=some ((S.packed j.2.2.2 1).getD 0 S.none_):=get0 hpos;have htop:ByteArray.append (qae [IntKind.u8.wrap (1-j.2.1)]) (qae (List.replicate 63 0))=topS (1-j.2.1):=by
  rw[qev,qir,show (1-j.2.1) % 256=1-j.2.1 by omega];rfl
 rw[show S.inI (Int.ofNat (j.1.1.length / 2-1)) (Int.ofNat 0) (Int.ofNat 1000)=true from qbk.2 ⟨jbz _,by show ((j.1.1.length / 2-1:Nat):Int)<=1000;omega⟩,jab];simp only[show Int.toNat (Int.ofNat (j.1.1.length / 2-1))=j.1.1.length / 2-1 from rfl,in0 (show b<=1000000 by omega),w2,in0 (show b+1<=1000000 by omega),jb4,Bool.and_true,q0t,jcj,hj0,hg0,hsz,decide_true,jab,unm2,zi0];rw[ja0 (show (List.replicate (j.1.1.length / 2-1) S.blank).length<=1000000 by rw[jba];omega),jab];simp only;generalize S.puts (b:Int) (List.replicate (j.1.1.length / 2-1) S.blank)=X at hR;rw[qca (show X.length<=4000000 by omega),jab];simp only;rw[qca (show (X++[S.sync]).length<=1000000 by rw[jag];show _+1<=_;omega),jab];simp only
 rw[show lchk (Int.ofNat 1) (Int.ofNat (S.packed j.2.2.2 (Int.ofNat 1)).length) (Int.ofNat (S.packed j.2.2.2 (Int.ofNat 1)).length) (Int.ofNat (S.packed j.2.2.2 (Int.ofNat 1)).length)=true from l1,jab,
  show lsub (S.packed j.2.2.2 (Int.ofNat 1)) (Int.ofNat 1) (Int.ofNat (S.packed j.2.2.2 (Int.ofNat 1)).length)=(S.packed j.2.2.2 1).drop 1 from q6q _,hdl,jb4,qca (show (X++[S.sync]++S.puts (b:Int) [(S.packed j.2.2.2 0).getD 0 S.none_]).length<=1000000 by rw[jag,jag];show _+1+1<=_;omega),jab]
 simp only;rw[ja2 (X++[S.sync]),q1r j.2.2.2 b];generalize S.puts (b:Int) (S.packed j.2.2.2 0)=Y at hpl0;rw[qca (show (X++[S.sync]++Y).length<=4000000 by rw[jag,jag];show _+1+_<=_;omega),jab];simp only;rw[qca (show (X++[S.sync]++Y++[S.sync]).length<=1000000 by rw[jag,jag,jag];show _+1+_+1<=_;omega),jab];simp only;rw[qca (show (X++[S.sync]++Y++[S.sync]++S.puts (b:Int) [(S.packed j.2.2.2 1).getD 0 S.none_]).length<=4000000 by rw[jag,jag,jag,jag];show _+1+_+1+1<=_;omega),jab];simp only;rw[show S.inI (Int.ofNat 0) (Int.ofNat 0) (Int.ofNat 1000000)=true from rfl,jb4,qca (show (X++[S.sync]++Y++[S.sync]++S.puts (b:Int) [(S.packed j.2.2.2 1).getD 0 S.none_]++[S.sync]).length<=1000000 by rw[jag,jag,jag,jag,jag];show _+1+_+1+1+1<=_;omega),jab];simp only[qt6,zlk,htop];rw[qca (show (X++[S.sync]++Y++[S.sync]++S.puts (b:Int) [(S.packed j.2.2.2 1).getD 0 S.none_]++[S.sync]++S.puts (Int.ofNat 0) [topS (1-j.2.1)]).length<=4000000 by rw[jag,jag,jag,jag,jag,jag];show _+1+_+1+1+1+1<=_;omega),jab];simp only[qr5,ja2];rfl
theorem qsk{j:qac}{a u:Nat}(r:RJ j a u){l:List qaa}(hok:S.okC l=true):S.comG j l=true:=by
 have:=r.jn.le.1;have:=r.jn.dk.le;unfold S.comG;rw[jae,jae,qbk,r.used];exact⟨r.small,qi0 hok,by omega⟩
theorem q1a{j:qac}{a u:Nat}(r:RJ j a u):S.turG j=true:=by
 have h:=r.jn.hh;unfold S.turG;rw[jae,jae,jae,qbk];exact⟨r.small,qi0 r.jn.le.2.1.1,by omega,ja0 r.jn.dk.ge⟩
theorem qjq{j:qac}{A:List DAct}{x:qac}{y:qak}(h:S.behind j A=(x,0))(k:S.doD j.1 A=(y,0)):S.behG j A=true:=by
 unfold S.behG;rw[h,k];rfl
theorem zeu{j:qac}{l:List qaa}(h1:S.right j=true)(h2:(S.size l).2=0):S.asked j l=0:=by
 unfold S.asked;rw[jam h1,h2]
theorem q3p{j:qac}{l:List qaa}:S.plan j l=if S.asked j l=0 then (match S.commit j l with
  | some a=>(a,0)
  | none=>([],14)) else ([],S.asked j l):=by
 unfold S.plan S.asked;by_cases h1:S.right j=true
 ·rw[jam h1,jam h1];by_cases h2:(S.size l).2=0
  ·rw[jam h2,jam h2];cases S.commit j l<;>rfl
  ·rw[jan h2,jan h2]
 ·rw[jan h1,jan h1,jan (by decide)]
theorem qsq{j:qac}{l:List qaa}(h:S.asked j l=0):S.right j=true/\(S.size l).2=0:=by
 unfold S.asked at h;by_cases h1:S.right j=true
 ·rw[jam h1] at h;exact⟨h1,h⟩
 ·rw[jan h1] at h;cases h
theorem ziw(lf:Nat)(j:qac)(l:List qaa):qlb lf j l=some ((S.plan j l).1,(S.plan j l).2,()):=by
 simp only[qlb,qzo];show cond (!ieqI (S.asked j l) _) (some (_,S.asked j l,())) (match (cond (S.comG j l) (some ((S.actsB (S.commit j l)).1,((S.actsB (S.commit j l)).2,()))) none) with|none=>none|some v=>_)=_;rw[q3p];by_cases h0:S.asked j l=0
 ·obtain⟨h1,h2⟩:=qsq h0;obtain⟨a,u,r⟩:=qfc h1;rw[qbm (show S.asked j l=Int.ofNat 0 from h0),jbb,jah,qsk r (qqb h2).1,jab,jam h0];simp only;cases S.commit j l<;>rfl
 ·rw[qbn (show ¬S.asked j l=Int.ofNat 0 from h0),ja4,jab,jan h0]
theorem znt{j:qac}{l:List qaa}(h:(S.plan j l).2=0):S.right j=true/\(S.size l).2=0/\∃A,S.commit j l=some A/\S.plan j l=(A,0):=by
 rw[q3p] at h ⊢;by_cases h0:S.asked j l=0
 ·obtain⟨h1,h2⟩:=qsq h0;rw[jam h0] at h ⊢;cases hc:S.commit j l with
  | none=>rw[hc] at h;cases h
  | some A=>exact⟨h1,h2,A,rfl,rfl⟩
 ·rw[jan h0] at h;exact absurd h h0
theorem zge(lf:Nat)(j:qac)(l:List qaa):qn8 lf j l=some ((S.commitJ j l).1,(S.commitJ j l).2,()):=by
 simp only[qn8,q07];show cond (!ieqI (S.plan j l).2 _) (some (S.noJ,(S.plan j l).2,())) (match (cond (S.behG j (S.plan j l).1) (some ((S.behind j (S.plan j l).1).1,())) none) with|none=>none|some v=>_)=_;unfold S.commitJ;by_cases h0:(S.plan j l).2=0
 ·obtain⟨h1,h2,A,h3,h4⟩:=znt h0;obtain⟨a,u,r⟩:=qfc h1;rcases qua r (qqb h2).1 with ⟨c1,_⟩|⟨A',c1,_,_,c4,c5,_⟩
  ·rw[h3] at c1;cases c1
  ·have:A'=A:=by rw[h3] at c1;cases c1;rfl
   subst this;rw[jam h0,h4,show ieqI (A',(0:Int)).2 (Int.ofNat 0)=true from rfl,jbb,jah,qjq c5 c4,jab,c5];rfl
 ·rw[qbn (show ¬(S.plan j l).2=Int.ofNat 0 from h0),ja4,jab,jan h0]
theorem znb{j:qac}:S.planTurn j=if S.errR j=0 then (match S.turn j with
  | some a=>(a,0)
  | none=>([],14)) else ([],S.errR j):=by
 unfold S.planTurn S.errR;by_cases h1:S.right j=true
 ·rw[jam h1,jam h1,jam rfl];cases S.turn j<;>rfl
 ·rw[jan h1,jan h1,jan (by decide)]
theorem zi6{j:qac}(h:S.errR j=0):S.right j=true:=jcf fun e=>by rw[qed e] at h;cases h
theorem zl3(lf:Nat)(j:qac):qlw lf j=some ((S.planTurn j).1,(S.planTurn j).2,()):=by
 simp only[qlw,q2j];show cond (!ieqI (S.errR j) _) (some (_,S.errR j,())) (match (cond (S.turG j) (some ((S.actsB (S.turn j)).1,((S.actsB (S.turn j)).2,()))) none) with|none=>none|some v=>_)=_;rw[znb];by_cases h0:S.errR j=0
 ·obtain⟨a,u,r⟩:=qfc (zi6 h0);rw[qbm (show S.errR j=Int.ofNat 0 from h0),jbb,jah,q1a r,jab,jam h0];simp only;cases S.turn j<;>rfl
 ·rw[qbn (show ¬S.errR j=Int.ofNat 0 from h0),ja4,jab,jan h0]
theorem zcm(lf:Nat)(j:qac):qng lf j=some ((S.turnJ j).1,(S.turnJ j).2,()):=by
 simp only[qng,q37];show cond (!ieqI (S.planTurn j).2 _) (some (S.noJ,(S.planTurn j).2,())) (match (cond (S.behG j (S.planTurn j).1) (some ((S.behind j (S.planTurn j).1).1,())) none) with|none=>none|some v=>_)=_;by_cases h0:(S.planTurn j).2=0
 ·have h1:S.right j=true:=by
   unfold S.planTurn at h0;by_cases h1:S.right j=true
   ·exact h1
   ·rw[jan h1] at h0;cases h0
  obtain⟨a,u,r⟩:=qfc h1;rcases q0p r h1 with ⟨_,_,t3,_⟩|⟨b,t1,t2,t3,t4,t5,_⟩
  ·rw[t3] at h0;cases h0
  ·have hb:S.behind j (turA j.1.1 (1-j.2.1) b j.2.2.2)=S.turnJ j:=by
    unfold S.turnJ;rw[t3];rfl
   rw[t3,show ieqI (turA j.1.1 (1-j.2.1) b j.2.2.2,(0:Int)).2 (Int.ofNat 0)=true from rfl,jbb,jah,qjq (hb.trans t5) t4,jab,hb,t5];rfl
 ·rw[qbn (show ¬(S.planTurn j).2=Int.ofNat 0 from h0),ja4,jab];unfold S.turnJ;rw[jan h0]
theorem zjn(lf:Nat)(j:qac)(l:List qaa):qly lf j l=some ((S.save j l).1,(S.save j l).2,()):=by
 simp only[qly,q34];show cond (!ieqI (S.asked j l) _) (some (S.noJ,S.asked j l,())) (match (cond (S.comG j l) (some ((S.actsB (S.commit j l)).1,((S.actsB (S.commit j l)).2,()))) none) with|none=>none|some v=>_)=_;unfold S.save;by_cases h0:S.asked j l=0
 ·obtain⟨h1,h2⟩:=qsq h0;obtain⟨a,u,r⟩:=qfc h1;have hok:=(qqb h2).1;rw[qbm (show S.asked j l=Int.ofNat 0 from h0),jbb,jah,qsk r hok,jab,jam h1,jam h2];simp only;rcases qua r hok with ⟨c1,_⟩|⟨A,c1,_,_,c4,c5,_⟩
  ·rw[c1];show (match (cond (S.turG j) (some ((S.actsB (S.turn j)).1,((S.actsB (S.turn j)).2,()))) none) with|none=>none|some t=>_)=_;rw[q1a r,jab];simp only;rcases q0p r h1 with ⟨t1,t2,t3,_⟩|⟨b,t1,t2,t3,t4,t5,t6⟩
   ·rw[t1,t2];rfl
   ·have hb:S.behind j (turA j.1.1 (1-j.2.1) b j.2.2.2)=S.turnJ j:=by
     unfold S.turnJ;rw[t3];rfl
    have h5:(S.turnJ j).2=0:=by rw[t5]
    have hr:S.right (S.turnJ j).1=true:=by rw[t5];exact t6.right
    obtain⟨a',u',r'⟩:=qfc hr;rw[t2,jam h5];show cond (!true) _ (match (cond (S.behG j (turA j.1.1 (1-j.2.1) b j.2.2.2)) (some ((S.behind j (turA j.1.1 (1-j.2.1) b j.2.2.2)).1,())) none) with|none=>none|some q=>_)=_;rw[jbb,jah,qjq (hb.trans t5) t4,jab,hb];simp only;show (match (cond (S.comG (S.turnJ j).1 l) (some ((S.actsB (S.commit (S.turnJ j).1 l)).1,((S.actsB (S.commit (S.turnJ j).1 l)).2,()))) none) with|none=>none|some q=>_)=_;rw[qsk r' hok,jab];simp only;rcases qua r' hok with ⟨d1,_⟩|⟨A,d1,_,_,d4,d5,_⟩
    ·rw[d1];rfl
    ·rw[d1];show cond (!true) _ (match (cond (S.behG (S.turnJ j).1 A) (some ((S.behind (S.turnJ j).1 A).1,())) none) with|none=>none|some q=>_)=_;rw[jbb,jah,qjq d5 d4,jab];show some ((S.behind (S.turnJ j).1 A).1,(0:Int),())=some ((S.behind (S.turnJ j).1 A).1,(S.behind (S.turnJ j).1 A).2,());rw[d5]
  ·rw[c1];show (match (cond (S.behG j A) (some ((S.behind j A).1,())) none) with|none=>none|some q=>_)=_;rw[qjq c5 c4,jab];show some ((S.behind j A).1,(0:Int),())=some ((S.behind j A).1,(S.behind j A).2,());rw[c5]
 ·rw[qbn (show ¬S.asked j l=Int.ofNat 0 from h0),ja4,jab];unfold S.asked;by_cases h1:S.right j=true
  ·have h2:¬(S.size l).2=0:=fun e=>h0 (zeu h1 e);rw[jam h1,jam h1,jan h2]
  ·rw[jan h1,jan h1]
theorem qjs:Con Try.prog zg9 qmf:=zie ⟨q7h,trivial⟩ fun x y hx h=>⟨0,h⟩
theorem q9n(a b:List qaa)(ha:a.length<LF):Fz14 LF a b=some (S.sameC a b,()):=by
 simp only[Fz14,qqr];unfold S.sameC;by_cases e:a.length=b.length
 ·rw[qbm (show Int.ofNat a.length=Int.ofNat b.length from jaw Int.ofNat e),jbb,jah];refine(q9l a b e ha (some (true,())) (some (false,())) (fun K=>?_) (fun K i v w h1 h2 h3 h4=>?_)).trans ?_
  ·simp only[qo9,qdn,jah]
  ·simp only[qo9,h1,h2,h3,h4,jab,zfq];cases decide (v=w)<;>rfl
  ·cases decide (a=b)<;>rfl
 ·rw[qbn (show ¬Int.ofNat a.length=Int.ofNat b.length from fun h=>e (jdw h)),ja4,jab,jar (fun h=>e (jaw List.length h))]
theorem zls:Con Try.prog zej q53:=zlq trivial fun x y hx h=>⟨LF,(q9n x.1 x.2.1 (qdw (c:=qad) hx.1)).trans h⟩
theorem qxn:Con Try.prog zkt qyl:=ze5 ⟨qjk,qjs,qm0,trivial⟩ qqp qsx fun x y hx h=>⟨0,(zah 0 x.1).trans h⟩
theorem q2m:Con Try.prog zc3 qt5:=zni ⟨qm0,q5h,qns,q6h,qjs,trivial⟩ qqp qsx fun x y hx h=>⟨0,by
 obtain⟨h1,h2⟩:=qba (show cond (S.comG x.1 x.2.1) (some ((S.actsB (S.commit x.1 x.2.1)).1,(S.actsB (S.commit x.1 x.2.1)).2,())) none=some y from h);exact(zna 0 x.1 x.2.1 h1).trans (jaw some h2)⟩
theorem qdb{P:Program}{f:Nat}{p:List TC}{r:List (Bool × TC)}{g g':ElA p->Option (ElR r)}(h:Con P f ⟨p,r,g⟩)(hg:∀x y,g' x=some y->g x=some y):Con P f ⟨p,r,g'⟩ :=
 ⟨h.callable,fun M w x us y hy hM hgl hv=>h.calls M w x us y (hg x y hy) hM hgl hv⟩
section
variable (hR : Con Try.prog 43 qic) (hO : Con Try.prog 25 qfv)
include hR in
theorem q2b:Con Try.prog zdm q2r:=zai ⟨qkx,qjs,hR,trivial⟩ fun x y hx h=>⟨0,(q84 0 x.1).trans h⟩
include hO in
theorem qvi:Con Try.prog zbe qli:=zkb ⟨qjk,hO,zls,trivial⟩ fun x y hx h=>⟨0,(zaw 0 x.1).trans h⟩
include hO in
theorem qrw:Con Try.prog zkd qxm:=zd8 ⟨qjk,hO,trivial⟩ fun x y hx h=>⟨0,(zh8 0 x.1).trans h⟩
include hO in
include hO in
theorem qw0:Con Try.prog zk9 zan:=zj6 ⟨qvi hO,q5h,trivial⟩ fun x y hx h=>⟨0,(zhn 0 x.1).trans h⟩
include hO in
theorem q58:Con Try.prog q7d qp1:=q67 ⟨qvi hO,qsp,trivial⟩ fun x y hx h=>⟨0,(zli 0 x.1 x.2.1).trans h⟩
include hR in
theorem q3g:Con Try.prog q99 qsn:=zf4 ⟨qm0,qns,q6h,qjs,hR,trivial⟩ qsx fun x y hx h=>⟨0,by
 obtain⟨h1,h2⟩:=qba (show cond (S.turG x.1) (some ((S.actsB (S.turn x.1)).1,(S.actsB (S.turn x.1)).2,())) none=some y from h);exact(zm6 0 x.1 h1).trans (jaw some h2)⟩
include hO in
theorem qux:Con Try.prog zhd ql8:=zfx ⟨qou,hO,trivial⟩ fun x y hx h=>⟨0,by
 obtain⟨h1,h2⟩:=qba (show cond (S.behG x.1 x.2.1) (some ((S.behind x.1 x.2.1).1,())) none=some y from h);exact(zhm 0 x.1 x.2.1 h1).trans (jaw some h2)⟩
include hO in
theorem qtw:Con Try.prog zbt qxy:=zny ⟨q58 hO,q2m,trivial⟩ fun x y hx h=>⟨0,(ziw 0 x.1 x.2.1).trans h⟩
include hO in
theorem qze:Con Try.prog zf7 zd2:=q69 ⟨qtw hO,qux hO,trivial⟩ fun x y hx h=>⟨0,(zge 0 x.1 x.2.1).trans h⟩
include hR hO in
theorem q9m:Con Try.prog zmh qz6:=zlc ⟨qvi hO,q3g hR,trivial⟩ fun x y hx h=>⟨0,(zl3 0 x.1).trans h⟩
include hR hO in
theorem q1s:Con Try.prog q9g zad:=zcn ⟨q9m hR hO,qux hO,trivial⟩ fun x y hx h=>⟨0,(zcm 0 x.1).trans h⟩
include hR hO in
theorem zbg:Con Try.prog zeq za0:=zfk ⟨q58 hO,q2m,q3g hR,qux hO,trivial⟩ fun x y hx h=>⟨0,(zjn 0 x.1 x.2.1).trans h⟩
end
theorem q8n(lf:Nat):qry lf=some (true,()):=by kernel_rfl
theorem qye{a b:List qaa}(h:S.sameC a b=true):a=b:=ja3 h
theorem qlu{a b:qak}(h:S.sameD a b=true):a=b:=ja3 h
theorem qlg{a b:qac}(h:S.sameJ a b=true):a=b:=ja3 h
theorem zkl{a b:List DAct}(h:S.sameA a b=true):a=b:=ja3 h
theorem zk1:(S.plan S.madeJ S.hC).2=0:=by kernel_rfl
theorem hDo:(S.doD S.madeJ.1 (S.hL.take 4)).2=0:=by kernel_rfl
theorem hCr0:(S.crash S.hD [0]).2=0:=by kernel_rfl
theorem hCr1:(S.crash S.hD [1]).2=0:=by kernel_rfl
theorem hOp0:(S.open_ S.hLost).2=0:=by kernel_rfl
theorem hOp1:(S.open_ S.hKept).2=0:=by kernel_rfl
theorem hOpE:S.sameD S.hKept S.hLost=false:=by kernel_rfl
theorem hOpF:S.sameD S.hLost S.hLost=true:=by kernel_rfl
theorem hCom:(S.commitJ S.hY S.hG).2=0:=by kernel_rfl
theorem q9h:S.room S.hZ=(0,0):=by kernel_rfl
theorem zf0:(S.turnJ S.hZ).2=0:=by kernel_rfl
theorem zm1{d:qak}{k:List Int}(h:S.gCrash d k=true):some ((S.crash d k).1,(S.crash d k).2,())=some (S.hCr k,(0:Int),()):=by
 unfold S.gCrash at h;rw[jae,jd9] at h;have e1:=qlu h.1;subst e1;rcases h.2 with e2|e2
 ·have e2:=ja3 e2;subst e2;rw[hCr0];rfl
 ·have e2:=ja3 e2;subst e2;rw[hCr1];rfl
section
variable (hR : Con Try.prog 43 qic) (hO : Con Try.prog 25 qfv)
include hO in
theorem zfj:Con Try.prog 16 qwf:=qdb (qtw hO) fun x y h=>by
 obtain⟨h1,rfl⟩:=qba (show cond (S.gPlan x.1 x.2.1) (some (S.hL,(0:Int),())) none=some y from h);obtain⟨a,b,_⟩:=x;unfold S.gPlan at h1;rw[jae] at h1;have e1:=qlg h1.1;have e2:=qye h1.2;show some ((S.plan a b).1,(S.plan a b).2,())=_;rw[show a=S.madeJ from e1,show b=S.hC from e2,zk1];rfl
theorem zjh:Con Try.prog 20 qvm:=qdb qou fun x y h=>by
 obtain⟨h1,rfl⟩:=qba (show cond (S.gDo x.1 x.2.1) (some (S.hD,(0:Int),())) none=some y from h);obtain⟨a,b,_⟩:=x;unfold S.gDo at h1;rw[jae] at h1;have e1:=qlu h1.1;have e2:=zkl h1.2;show some ((S.doD a b).1,(S.doD a b).2,())=_;rw[show a=S.madeJ.1 from e1,show b=S.hL.take 4 from e2,hDo];rfl
theorem zaf:Con Try.prog 21 q5d:=qdb zhb fun x y h=>by
 obtain⟨h1,rfl⟩:=qba (show cond (S.gCrash x.1 x.2.1) (some (S.hCr x.2.1,(0:Int),())) none=some y from h);exact zm1 h1
include hO in
theorem q94:Con Try.prog 10 q3o:=qdb (qrw hO) fun x y h=>by
 obtain⟨h1,rfl⟩:=qba (show cond (S.gOpen x.1) (some (S.hOp x.1,(0:Int),())) none=some y from h);obtain⟨a,_⟩:=x;unfold S.gOpen at h1;rw[jd9] at h1;show some ((S.open_ a).1,(S.open_ a).2,())=some (cond (S.sameD a S.hLost) S.hX S.hY,0,());rcases h1 with e|e
 ·rw[show a=S.hLost from qlu e,hOp0,hOpF];rfl
 ·rw[show a=S.hKept from qlu e,hOp1,hOpE];rfl
include hO in
theorem znm:Con Try.prog 18 q1t:=qdb (qze hO) fun x y h=>by
 obtain⟨h1,rfl⟩:=qba (show cond (S.gCom x.1 x.2.1) (some (S.hZ,(0:Int),())) none=some y from h);obtain⟨a,b,_⟩:=x;unfold S.gCom at h1;rw[jae] at h1;have e1:=qlg h1.1;have e2:=qye h1.2;show some ((S.commitJ a b).1,(S.commitJ a b).2,())=_;rw[show a=S.hY from e1,show b=S.hG from e2,hCom];rfl
include hO in
theorem zjd:Con Try.prog 15 q43:=qdb (qw0 hO) fun x y h=>by
 obtain⟨h1,rfl⟩:=qba (show cond (S.gZ x.1) (some ((0:Int),(0:Int),())) none=some y from h);obtain⟨a,_⟩:=x;show some ((S.room a).1,(S.room a).2,())=_;rw[show a=S.hZ from qlg h1,q9h];rfl
include hR hO in
theorem zmy:Con Try.prog 11 q3n:=qdb (q1s hR hO) fun x y h=>by
 obtain⟨h1,rfl⟩:=qba (show cond (S.gZ x.1) (some (S.hT,(0:Int),())) none=some y from h);obtain⟨a,_⟩:=x;show some ((S.turnJ a).1,(S.turnJ a).2,())=_;rw[show a=S.hZ from qlg h1,zf0];rfl
include hR hO in
theorem zjf:Con Try.prog qyb q4u:=q4t ⟨q2b hR,qxn,qou,qrw hO,trivial⟩ fun x y hx h=>⟨0,by
 obtain⟨h1,rfl⟩:=qba (show cond (S.inI x.1 8 8) (some (S.madeJ,true,())) none=some y from h);obtain⟨h2,h3⟩:=qbk.1 h1;rw[show x.1=(8:Int) from Int.le_antisymm h3 h2];exact zh3 0⟩
include hR hO in
theorem q8s:Con Try.prog ziy qzm:=zmg ⟨zjf hR hO,qsp,zfj hO,zjh,zaf,q94 hO,znm hO,zjd hO,zmy hR hO,trivial⟩ fun x y hx h=>⟨0,(q8n 0).trans h⟩
end
theorem zft(l:List (List DChg))(hl:l.length<LF):Fz1 LF l=some (S.brief l,()):=by
 simp only[Fz1,qtd];refine(q3t (T:=fun K p=>qjz LF l K p) l (fun rest _=>some (rest.all (fun x=>Nat.ble x.length 10)&&Nat.ble l.length 12,())) hl (fun K=>?_) (fun K i v rest r h=>?_)).trans rfl
 ·simp only[qjz,qdn,jah,qyd];rfl
 ·simp only[qjz,r.ilt,r.get,r.next,jab];rw[jdp];have:iltI (Int.ofNat 10) (Int.ofNat v.length)=!Nat.ble v.length 10:=by rw[<- qyd,Bool.not_not]
  rw[this,h];cases Nat.ble v.length 10<;>rfl
theorem zga:Con Try.prog idz1 spz1:=mkz1 trivial fun x y hx h=>⟨LF,(zft x.1 (qdw (c:=.list cChg) hx.1)).trans h⟩
theorem zbo(lf:Nat){n:Int}(h:S.evn n=true):qhf lf n=some (S.madeN n,true,()):=by
 obtain⟨h1,h2,h3,h4⟩:=q3a h;simp only[qhf,qu5];show cond (ieqI (S.newDisk n).2 _) (cond (ieqI (S.format (S.newDisk n).1).2 _) (cond (ieqI (S.doD (S.newDisk n).1 (S.format (S.newDisk n).1).1).2 _) (some ((S.open_ (S.madeD_ n)).1,ieqI (S.open_ (S.madeD_ n)).2 _,())) _) _) _=_;rw[h1,h2,h3,h4];rfl
theorem qip{k:IntKind}{n:Int}(h:WfE (.int k) n):k.min<=n/\n<=k.max:=by
 exact(qo0 k n).1 h
def chgB(l:List DChg):Prop:=∀c∈l,(0<=c.1/\c.1<=255)/\(0<=c.2.1/\c.2.1<=255)/\0<=c.2.2.1/\c.2.2.1<=255
theorem qq2{l:List DChg}(h:chgB l):qja l:=fun c hc=>(h c hc).2.1
theorem qpp{l:List DChg}(h:WfE (.list cChg) l):chgB l:=fun c hc=>by
 have:=h.2 c hc;exact⟨qip (k:=.u8) this.1,qip (k:=.u8) this.2.1,qip (k:=.u8) this.2.2.1⟩
theorem outC{n:Nat}(h:n<=100000):Nat.ble (Nat.mul (Nat.add n 1) 32) 140737488355328=true:=ja0 (by show (n+1)*32<=_;omega)
theorem qyn(l:List DChg)(K3:(Int × List qaa)->Option Rtz2)(K6:(Int × Int × List qaa)->Option Rtz2){i:Int}{c:DChg}(hi:jget l i=some c)(hc:(0<=c.1/\c.1<=255)/\(0<=c.2.1/\c.2.1<=255)/\0<=c.2.2.1/\c.2.2.1<=255){k:Nat}(hk:k<25){out:List qaa}(ho:out.length<=1000) :
  ∀(m F n:Nat),n+m=c.2.1.toNat->m<F->(c.2.2.2=true->n=0)->qgu LF l K3 K6 F (c.2.2.2,i,(n:Int),qae (List.replicate n c.2.2.1),(k:Int),out,(k:Int))=K3 (Int.ofNat (k+1),out++[S.cellOf k c])
 | m,0,n,_,h,_=>by omega
 | m,F+1,n,hn,hF,hg=>by
  show qlp LF l (qgu LF l K3 K6 F) K3 _=_;have hnext:IntKind.i64.wrap (Int.add (k:Int) (Int.ofNat 1))=Int.ofNat (k+1):=qob (by unfold LF;omega);have hw:IntKind.i64.wrap c.2.1=c.2.1:=wrap_in (by omega);simp only[qlp,hi,hw,hnext,outC (show out.length<=100000 by omega),jab];cases m with
  | zero =>
   rw[show iltI (n:Int) c.2.1=false by rw[qa5];exact jar (by omega),jah];have:S.cellOf k c=((k:Int),qae (List.replicate n c.2.2.1),c.2.2.2):=by
    unfold S.cellOf;cases hb:c.2.2.2 with
    | true=>rw[hg hb];rfl
    | false=>rw[show c.2.1.toNat=n by omega];rfl
   rw[this];rfl
  | succ m =>
   rw[show iltI (n:Int) c.2.1=true by rw[qa5];exact jao (by omega),jab];cases hb:c.2.2.2 with
   | true =>
    have:S.cellOf k c=((k:Int),qae (List.replicate n c.2.2.1),true):=by
     unfold S.cellOf;rw[hb,hg hb];rfl
    rw[this];rfl
   | false =>
    have ih:=qyn l K3 K6 hi hc hk ho m F (n+1) (by omega) (by omega) (fun e=>by rw[hb] at e;cases e);rw[hb] at ih;rw[ja4,jab,qbe,jba,show Nat.ble (Nat.succ (Nat.add n 1)) 9223372036854775808=true from ja0 (by show n+1+1<=_;omega),jab,qt6,qev];have e1:IntKind.i64.wrap (Int.add (n:Int) (Int.ofNat 1))=((n+1:Nat):Int):=qob (by unfold LF;omega);have e2:List.replicate n c.2.2.1++[c.2.2.1]=List.replicate (n+1) c.2.2.1:=by rw[List.replicate_succ']
    rw[e1,e2];exact ih
def S.cellAt(l:List DChg)(k:Nat):Option qaa:=(l.reverse.find? fun c=>decide (c.1 % 25=(k:Int))).map (S.cellOf k)
theorem q0u(l:List DChg)(hl:chgB l)(hlen:l.length<LF)(K3:(Int × List qaa)->Option Rtz2){k:Nat}(hk:k<25){out:List qaa}(ho:out.length<=1000) :
  ∀(n F:Nat),n<=l.length->n<F->qfd LF l K3 F ((n:Int)-1,(k:Int),out)=K3 (Int.ofNat (k+1),out++(S.cellAt (l.take n) k).toList)
 | n,0,_,h=>by omega
 | n,F+1,hn,hF=>by
  show qnh LF l (qfd LF l K3 F) (fun q=>qgu LF l K3 (qfd LF l K3 F) LF q) K3 _=_;have hnext:IntKind.i64.wrap (Int.add (k:Int) (Int.ofNat 1))=Int.ofNat (k+1):=qob (by unfold LF;omega);simp only[qnh,hnext];cases n with
  | zero =>
   rw[show iltI (((0:Nat):Int)-1) (Int.ofNat 0)=true from rfl,jbb,jah];show _=K3 (_,out++[]);rw[jbo]
  | succ n =>
   have hb:n<l.length:=by omega
   have hi:jget l (((n+1:Nat):Int)-1)=some l[n]:=by
    rw[show ((n+1:Nat):Int)-1=Int.ofNat n by simp,qdk,jac hb]
   have hc:=hl _ (jbh hb);rw[show iltI (((n+1:Nat):Int)-1) (Int.ofNat 0)=false by rw[qa5];exact jar (by simp),ja4,jab,hi];simp only;have ht:Int.tmod (IntKind.i64.wrap (l[n]).1) (Int.ofNat 25)=(l[n]).1 % 25:=by
    rw[wrap_in (by omega)];exact jef hc.1.1
   have hca:S.cellAt (l.take (n+1)) k=if (l[n]).1 % 25=(k:Int) then some (S.cellOf k l[n]) else S.cellAt (l.take n) k:=by
    unfold S.cellAt;rw[jdr hb,List.reverse_append,List.reverse_singleton,List.singleton_append,List.find?_cons];by_cases e:(l[n]).1 % 25=(k:Int)
    ·rw[jao e,jam e];rfl
    ·rw[jar e,jan e]
   rw[ht,hca];by_cases e:(l[n]).1 % 25=(k:Int)
   ·rw[qbm e,jbb,jah,jam e];exact qyn l K3 _ hi hc hk ho (l[n]).2.1.toNat LF 0 (by omega) (by unfold LF;omega) fun _=>rfl
   ·rw[qbn e,ja4,jab,jan e];have e1:IntKind.i64.wrap (Int.sub (((n+1:Nat):Int)-1) (Int.ofNat 1))=(n:Int)-1:=by
     rw[show Int.sub (((n+1:Nat):Int)-1) (Int.ofNat 1)=(n:Int)-1 from (show ((n+1:Nat):Int)-1-1=(n:Int)-1 by omega)];exact wrap_in (by unfold LF at hlen;omega)
    rw[e1];exact q0u l hl hlen K3 hk ho n F (by omega) (by omega)
theorem qzw(l:List DChg)(hl:chgB l)(hlen:l.length<LF):∀(m F k:Nat) (out:List qaa),k+m=25->out.length<=k->m<F->qgv LF l F (Int.ofNat k,out)=some (out++(List.range' k m).filterMap (S.cellAt l),())
 | m,0,k,out,_,_,h=>by omega
 | m,F+1,k,out,hm,ho,hF=>by
  show qnq LF l (fun q=>qfd LF l (qgv LF l F) LF q) _=_;simp only[qnq];cases m with
  | zero =>
   rw[show iltI (Int.ofNat 24) (Int.ofNat k)=true by rw[qa5];exact jao (by simp;omega),jbb,jah];show _=some (out++[],());rw[jbo]
  | succ m =>
   rw[show iltI (Int.ofNat 24) (Int.ofNat k)=false by rw[qa5];exact jar (by simp;omega),ja4,jab];have e1:IntKind.i64.wrap (Int.sub (Int.ofNat l.length) (Int.ofNat 1))=(l.length:Int)-1:=by
    rw[show Int.sub (Int.ofNat l.length) (Int.ofNat 1)=(l.length:Int)-1 from rfl];exact wrap_in (by unfold LF at hlen;omega)
   rw[e1];refine(q0u l hl hlen _ (k:=k) (by omega) (by omega) l.length LF (jaq _) hlen).trans ?_;rw[jbv (jaq _),qzw l hl hlen m F (k+1) _ (by omega) (by
    rw[jag];cases S.cellAt l k with
    | none=>show _+0<=_;omega
    | some c=>show _+1<=_;omega) (by omega),ja2,List.range'_succ,List.filterMap_cons]
   cases S.cellAt l k<;>rfl
theorem zaq(l:List DChg)(hl:chgB l)(hlen:l.length<LF):Fz2 LF l=some (S.cells l,()):=by
 simp only[Fz2,qt4];refine(qzw l hl hlen 25 LF 0 [] rfl (jaq _) (by unfold LF;omega)).trans ?_;rw[jcj,<- List.range_eq_range'];rfl
theorem q5i:Con Try.prog idz2 spz2:=mkz2 trivial fun x y hx h=>⟨LF,(zaq x.1 (qpp hx.1) (qdw (c:=cChg) hx.1)).trans h⟩
theorem mul2(a:Int):Int.mul (Int.ofNat 2) a=2*a:=rfl
theorem add8(a:Int):Int.add (Int.ofNat 8) a=8+a:=rfl
theorem zfd(s:Int)(l:List (List DChg))(hs:0<=s/\s<=255)(hl:∀x∈l,chgB x)(hlen:l.length<LF):Fz3 LF s l=some (S.played s l,true,()):=by
 have ht:Int.tmod s (Int.ofNat 17)=s % 17:=jef hs.1;have hn:IntKind.i64.wrap (Int.add (Int.ofNat 8) (IntKind.i64.wrap (Int.mul (Int.ofNat 2) (IntKind.i64.wrap (Int.tmod s (Int.ofNat 17))))))=8+2*(s % 17):=by
  rw[ht,wrap_in (n:=s % 17) (by omega),mul2,wrap_in (n:=2*(s % 17)) (by omega),add8];exact wrap_in (by omega)
 unfold Fz3 qth;rw[hn,qtg hs,jab];have hj:=q4e (qtg hs);show _=some (l.foldl S.playStep (S.madeN (8+2*(s % 17))),true,())
 revert hj
 generalize S.madeN (8+2*(s % 17))=j0;intro hj;refine range0 (T:=fun K p=>qje LF s l K p) (σ:=qac) l (fun i j=>(true,j.1.2,j.1.1,j.2.1,j.2.2.2,j.2.2.1,i)) (fun i j=>JnR j) (fun rest i j=>some (rest.foldl S.playStep j,true,())) hlen (fun K j hI=>?_) (fun K i v rest j hI r h=>?_) j0 hj
 ·simp only[qje,qdn,jah];rfl
 ·simp only[qje,r.ilt,r.get,r.next,jab];obtain⟨h1,h2⟩:=q2y hI (qq2 (hl v r.mem));have hi:=h _ h1;rw[jdt];have hso:S.saveO j (S.cells v)=some ((S.save j (S.cells v)).1,(S.save j (S.cells v)).2,()):=by
   unfold S.saveO S.sameJ;rw[jao rfl,jab]
  show cond (ieqI (Int.ofNat (S.cells v).length) (Int.ofNat 0)) _ (match S.saveO j (S.cells v) with|none=>none|some w=>_)=_;rw[hso];unfold S.playStep at hi ⊢;by_cases h0:(S.cells v).length=0
  ·rw[jam h0] at hi ⊢;rw[qbm (by rw[h0]),jab];exact hi
  ·rw[jan h0] at hi ⊢;rw[qbn (by intro e;exact h0 (jdw e)),jah];simp only;by_cases h3:(S.save j (S.cells v)).2=0
   ·rw[jam h3] at hi ⊢;rw[qbm (show (S.save j (S.cells v)).2=Int.ofNat 0 from h3),jab,jab];exact hi
   ·have h4:(S.save j (S.cells v)).2=14:=by rcases h2 with h2|h2|h2<;>first|exact absurd h2 h0|exact absurd h2 h3|exact h2
    rw[jan h3] at hi ⊢;rw[qbn (show ¬(S.save j (S.cells v)).2=Int.ofNat 0 from h3),jah,jah,qbm (show (S.save j (S.cells v)).2=Int.ofNat 14 from h4)];exact hi
theorem qd3(j:qac):S.sameJ j j=true:=jao rfl
theorem ifO{α:Type}{b:Bool}{x:Option α}{y:α}(hb:b=true)(h:cond b x none=some y):x=some y:=by rw[hb] at h;exact h
section
variable (hR : Con Try.prog 43 qic) (hO : Con Try.prog 25 qfv)
include hR hO in
theorem q8w:Con Try.prog qyb q05:=q4t ⟨q2b hR,qxn,qou,qrw hO,trivial⟩ fun x y hx h=>⟨0,by
 obtain⟨h1,h2⟩:=qba (show cond (S.evn x.1) (some (S.madeN x.1,true,())) none=some y from h);rw[<- h2];exact zbo 0 h1⟩
include hO in
theorem zee:Con Try.prog 16 qv4:=qdb (qtw hO) fun x y h=>ifO (qd3 _) h
include hO in
include hO in
theorem zm4:Con Try.prog 15 qz7:=qdb (qw0 hO) fun x y h=>ifO (qd3 _) h
include hO in
include hR hO in
theorem qyv:Con Try.prog 17 quc:=qdb (zbg hR hO) fun x y h=>ifO (qd3 _) h
include hR hO in
theorem zj7:Con Try.prog 11 qwm:=qdb (q1s hR hO) fun x y h=>ifO (qd3 _) h
include hR hO in
theorem zi2:Con Try.prog idz3 spz3:=mkz3 ⟨q8w hR hO,q5i,qyv hR hO,trivial⟩ fun x y hx h=>⟨LF,by
 obtain⟨h1,h2⟩:=qba (show cond (S.brief x.2.1) (some (S.played x.1 x.2.1,true,())) none=some y from h);rw[<- h2];exact zfd x.1 x.2.1 (qip (k:=.u8) hx.1) (fun z hz=>qpp (hx.2.1.2 z hz)) (qdw (c:=.list cChg) hx.2.1)⟩
end
theorem qe5(c:qaa)(l:List qaa):(S.body (c::l)).length=(S.cellB c).length+(S.body l).length:=by
 unfold S.body;rw[jeb,jag]
theorem qwc(c:qaa):∀m:List qaa,(S.body (S.ins1 c m)).length<=(S.body m).length+(S.cellB c).length
 | []=>by
  show (S.body (cond c.2.2 [] [c])).length<=_;cases c.2.2 with
  | true=>exact jb3 _
  | false=>rw[jah,qe5];exact jdj (Nat.add_comm _ _)
 | a::r=>by
  have ih:=qwc c r;show (S.body (if a.1<c.1 then a::S.ins1 c r else if a.1=c.1 then cond c.2.2 r (c::r) else cond c.2.2 (a::r) (c::a::r))).length<=_;split
  ·rw[qe5,qe5];omega
  ·split
   ·cases c.2.2 with
    | true=>rw[jab,qe5];omega
    | false=>rw[jah,qe5,qe5];omega
   ·cases c.2.2 with
    | true=>rw[jab];omega
    | false=>rw[jah,qe5 c];omega
theorem q1n:∀(l m:List qaa),(S.body (S.changed m l)).length<=(S.body m).length+(S.body l).length
 | [],m=>jdz _ _
 | c::l,m=>by
  have h1:=q1n l (S.ins1 c m);have h2:=qwc c m;show (S.body (S.changed (S.ins1 c m) l)).length<=_;rw[qe5];omega
theorem q5b:∀(f:Nat) {l:List ByteArray} {c c':List qaa} {u u':Nat},szS l->S.recs f l c u=some (c',u')->((u=0/\c=[])\/(S.body c).length+4<=64*u)->u'=0\/(S.body c').length+4<=64*u'
 | 0,l,c,c',u,u',_,h,_=>by cases h
 | f+1,[],c,c',u,u',_,h,k=>by
  cases h;exact k.imp (fun k=>k.1) id
 | f+1,s::r,c,c',u,u',hs,h,k=>by
  rw[qee] at h;by_cases h0:(qab s).getD 0 0=0
  ·rw[jam h0] at h;cases h;exact k.imp (fun k=>k.1) id
  ·rw[jan h0] at h;cases hr:S.readR (s::r) with
   | none=>rw[hr] at h;cases h
   | some x =>
    rw[hr] at h;simp only at h;obtain⟨k1,k2,k3,k4,k5,k6⟩:=qlt hs hr;cases hb:(decide (u=0)&&x.1.any (·.2.2)) with
    | true=>rw[hb] at h;cases h
    | false =>
     rw[hb,jah] at h;refine q5b f (hs.drop x.2) h (.inr ?_);have h1:=q1n x.1 c;rw[qbx] at k4;rcases k with ⟨rfl,rfl⟩|k
     ·rw[show (S.body []).length=0 from rfl] at h1;omega
     ·omega
theorem Jn.pk{L:List ByteArray}{h:Int}{a u:Nat}{c:List qaa}(j:Jn L h a u c):(S.packed c 1).length<=u:=by
 obtain⟨f,hf⟩:=j.rc;have hu:=j.u1;have:=q5b f ((j.dk.sz.drop a).take _) hf (.inl ⟨rfl,rfl⟩);rw[qbx];omega
end Go.Proofs.Ytnhmanoiolfapaa
end

section
namespace Go.Jx
open Go Go.Sx Go.RowKit
universe u

theorem jup{m bi:Nat}{E0 Ei:Env}{S S':IS}{Wb B:World}(p0:Pre T0 E0 S)(hbi:qcr E0 S bi)(hW:Beside bi E0.w Wb)(k:PostB m T0 (E0.at_ Wb) S Ei S')(hT0:∀id,m<=id->T0.w id)(u:Upd [bi] Ei.w B) :
  ∃Wb',Beside bi E0.w Wb'/\PostB m T0 (E0.at_ Wb') S (Ei.at_ B) S':=by
 obtain⟨hle,pW,hbW⟩:=p0.beside hbi hW;have pi:=k.pre hT0 pW;have hlt:bi<Wb.heap.size:=by rw[hW.size];exact p0.st.lo bi hbi.1
 have h1:Ei.w.heap[bi]?=some Wb.heap[bi]:=(k.at_same pW hbW).trans (jck hlt);obtain⟨B',u1,hB⟩:=zmx u h1;obtain⟨i1,i2⟩:=Post.idle pi u1;have k2:=k.trans (PostB.of k.le hT0 i1 i2);have hltB:bi<B.heap.size:=jbf (qas h1) u.size;have h3:=Beside.put Wb bi B.heap[bi];refine⟨Wb.putObj bi B.heap[bi],⟨h3.os.trans hW.os,h3.tape.trans hW.tape,h3.output.trans hW.output,h3.size.trans hW.size,fun x hx=>(h3.same x hx).trans (hW.same x hx)⟩,?_⟩;have:=PostB.beside (E:=E0.at_ Wb) (E':=Ei.at_ B') (w:=Wb.putObj bi B.heap[bi]) (w':=B) k2 pW hbW h3 hB (by rw[jbn hlt];exact jck hltB);exact this
section
variable {P : Program} {tt : Nat -> Option TI}
theorem zjp(hm:P.follows .mixedOrders=true)(htt:TT P tt){k f:Nat}{s:SmI}{cfg:LpC}{lf:Nat}(hc:ConW P f s){cl:Cl}(hcl:ClOK P cl)(hfr:ClFr cl){vs:List IV}{S:IS}{r:Res}(h:itW P tt k s cfg lf cl vs S=some r)
   {T:TW} {E:Env} {us:List Value} (p:Pre T E S) (hrd:tin T.r r.rd) (hwr:tin T.w r.wr) (hv:VRs E vs us):qah P f/\CallsIn Fence.wide 0 P f us.toArray E.w (RetE T E S r):=by
 refine⟨hc.callable,?_⟩;obtain⟨id,caps,xi,i,isubs,S1,w1,nt,fr,pr,assign,body,D,d0,rows,subs,S2,w2,d,l,q,rfl,h1,ho,h2,hb,h3,h4,h5,rfl⟩:=qql h;obtain⟨t1,t2⟩:=qao hwr;obtain⟨t3,t4⟩:=qao t2;obtain⟨t5,t6⟩:=qao t3;have hTid:=qaf t1;have hbits:=qqg t4;have hTi:T.w i:=hbits i (by simp);unfold itB at hb;simp only[jae] at hb;obtain⟨b1,b2,b3,b4,b5,b6,b7,b8,b9⟩:=hb;have hnd:=qkk b1;obtain⟨u0,us,rfl,a1,a2⟩:=hv.inv;have hA:E.A id:=by cases a1;assumption
 obtain⟨E1,e1,q1,f1,il1,il2,iA,ib2,ib3⟩:=qem s.ips h1 p t5 a2;have p1:=q1.pre p;have hle1:=q1.env p;obtain⟨z1,z2,z3,z4,z5⟩:=hle1.alw id hA;obtain⟨fn,tmps,g1,g2,g3⟩:=p1.st.objs id (T.sub _ hTid) z1 _ ho;have hls:VRs E1 (cfg.ls.map (slot fr)) (cfg.ls.map fun t=>tmps.getD t undef):=⟨by simp,fun i hi hi2=>by
   simp only[jca];refine g2.get _ ?_;have:=(jbg.1 b8) (cfg.ls[i]'(by simpa using hi)) (jbh _);simpa using this⟩
 obtain⟨E2,e2,q2,f2,l1,l2,A2,c2,c3⟩:=qem cfg.lp h2 p1 t6 hls;have p2:=q2.pre p1;have hle2:=q2.env p1;obtain⟨_,y2,y3⟩:=qeq cfg.lp h3 l2;have hq12:=Post.trans p q1 f1 q2;have hf12:=f1.trans f2 q1.le;have hS2:S2.H id=some (.loop .ready none nt fr [pr] assign body D):=by
   rw[(qeo _ h2).2 id (p1.bnd id z1) (by simpa using b9)];exact ho
 obtain⟨hA2,x2,x3,x4,x5⟩:=hle2.alw id z1;obtain⟨fn',tmps',g1',g2',g3'⟩:=p2.st.objs id (T.sub _ hTid) hA2 _ hS2;obtain⟨nq1,nq2⟩:=jci.1 hnd;have nq3:=(jcv.1 nq2);have hheld:Held T E2 S2 cfg.lp d rows subs:=⟨l1,l2,nq3.2.1,fun i hi=>hbits i (jb8 _ hi),A2,fun ι hι j o hj=>by
     obtain⟨id',g1,g2,g3,g4,_⟩:=qst h3 l2 p2 (fun i hi=>T.sub _ (hbits i (jb8 _ (jb0 _ hi)))) (c3 _ _ hι) j o hj;exact⟨id',g1,g2,g3,g4⟩,
   fun i hi=>qtk ((jbg.1 b3) i hi),y3⟩
 have hidq:id ∉ rows++subs:=fun hi=>nq1 (jb8 _ hi);have hiq:i ∉ rows++subs:=fun h2=>nq3.2.2 i (by simp) i h2 rfl;have hidi:id≠i:=fun e=>nq1 (jb0 _ (by simp[e]));have p0:=hheld.pre p2;have hlive:Live E2 S2.H id:=⟨p2.st.blk id (T.sub _ hTid) hA2 _ hS2 rfl,_,hS2,rfl⟩;have hns:Nums idN 0 isubs:=by
   have:isubs=[]:=jay.1 (by rw[il2,hc.ns]);rw[this];intro j id hj;simp at hj
 have hrow:∀(j:Nat) (o:IObj),(qar s.ips idN 0 xi)[j]?=some o->∃i',[i][j]?=some i'/\E2.A i'/\(o.blk=true->E2.hb i'=true)/\OR E2 i' o:=fun j o hj=>by
   obtain⟨i,i1,i2,i3,i4⟩:=ib3 idN 0 hns j o hj;obtain⟨j1,j2,j3,j4,j5⟩:=hle2.alw i i2;exact⟨i,i1,j1,fun hb=>j5.trans (i3 hb),i4.mono hle2 i2 i3 (fun _ _=>by rw[e2])⟩
 have hread:qrc E2 s xi us [i]:=⟨fun ρ k hk=>(ib2 ρ k hk).mono hle2,hrow⟩;have hAi:E2.A i:=by
   have hj2:0<(qar s.ips idN 0 xi).length:=by rw[qa0,<- il1];simp
   obtain⟨i',i1,i2,_⟩:=hrow 0 _ (jac hj2);cases i1;exact i2
 have hLi:Live E2 S2.H i:=by
   obtain⟨cs,hcs⟩:=qtk ((jbg.1 b2) i (by simp));exact⟨p2.st.blk i (T.sub _ hTi) hAi _ hcs rfl,_,hcs,rfl⟩
 have hfar:∀i,i ∉ rows++subs->T.r i->E2.A i->Live E2 S2.H i->∀k,(renE 0 (rows++subs) E2).A k->Live (renE 0 (rows++subs) E2) (Sc cfg.lp d).H k->(renE 0 (rows++subs) E2).ρ k≠E2.ρ i:=fun i hi ht ha hl k hk hkl e=>by
   have hk1:k<(rows++subs).length:=by have:=hk.1;omega
   have hm1:=(qbw hk1).1;obtain⟨h0,o,ho1,ho2⟩:=hkl;have hl2:Live E2 S2.H (ol 0 (rows++subs) k):=⟨h0,(hheld.obj p2 hk1 hk.2 ho1).live ho2⟩;have:=p2.st.inj _ _ (T.sub _ (hheld.w _ hm1)) ht hk.2 ha hl2 hl e;exact hi (this▸hm1)
 have hap:qcr (renE 0 (rows++subs) E2) (Sc cfg.lp d) (E2.ρ id):=⟨p2.st.own id (T.sub _ hTid) hA2 hlive,hfar id hidq (T.sub _ hTid) hA2 hlive⟩;have hai:qcr (renE 0 (rows++subs) E2) (Sc cfg.lp d) (E2.ρ i):=⟨p2.st.own i (T.sub _ hTi) hAi hLi,hfar i hiq (T.sub _ hTi) hAi hLi⟩;have hbne:E2.ρ id≠E2.ρ i:=fun e=>hidi (p2.st.inj _ _ (T.sub _ hTid) (T.sub _ hTi) hA2 hAi hlive hLi e);have hbim:E2.ρ i∈E2.m:=p2.st.own i (T.sub _ hTi) hAi hLi;generalize hE0:renE 0 (rows++subs) E2=E0 at p0 hap hai hfar;have hE0w:E0.w=E2.w:=by rw[<- hE0];rfl
 have hE0m:E0.m=E2.m:=by rw[<- hE0];rfl
 generalize hbk:E2.ρ id=b at hap g1' hbne;generalize hbik:E2.ρ i=bi at hai hbne;obtain⟨rec,hrec⟩:∃rec:Loop,rec={ state:=.ready,pending:=none,fn:=fn',tmps:=tmps',params:=[pr].toArray,assign:=assign,body:=body,defers:=E2.ρ D }:=⟨_,rfl⟩;have hl0:E0.w.heap[b]?=some (.loop rec):=by rw[hE0w,g1',hrec]
 have htm:tmps'=tmps:=by
   have h1:=g1';rw[e2,<- hbk,x2,g1] at h1;have h1:=jb1 h1;injection h1 with h1
   injection h1 with _ _ _ h1
   exact h1.symm
 have hargs:VRs E0 (qaq cfg.lp idN 0 d) (cfg.ls.map fun t=>rec.tmps.getD t undef):=by
   have e:rec.tmps=tmps:=by rw[hrec];exact htm
   rw[e,<- hE0];exact argsP_env (E:=E2) (E':=renE 0 (rows++subs) E2) (ρ:=ol 0 (rows++subs)) (fun _ h=>h) rfl cfg.lp (fun j a b=>Held.numTo E2 _ (by rw[hheld.len];omega)) (by rw[y2];exact c2 _ _ hheld.num.1)
 generalize hg:qew P tt cfg s.c nt lf cl pr assign body d=g at h5;have hd0:updP cfg.lp d (qc5 cfg.lp d)=d:=qmn _ _;have hT0:∀id,mP cfg.lp<=id->T0.w id:=fun _ _=>trivial
 -- the two states of affairs
 let J:List (El s.c)->World->Prop:=fun pre W=>∃z Wb Ei,foldB g pre (qc5 cfg.lp d)=some (z,none)/\Beside bi E0.w Wb/\PostB (mP cfg.lp) T0 (E0.at_ Wb) (Sc cfg.lp d) Ei (Sc cfg.lp (updP cfg.lp d z))/\Ei.w=W
 let K:World->Prop:=fun W=>∃z cd Wb Ei,foldB g l (qc5 cfg.lp d)=some (z,some cd)/\Beside bi E0.w Wb/\PostB (mP cfg.lp) T0 (E0.at_ Wb) (Sc cfg.lp d) Ei (Sc cfg.lp (updP cfg.lp d z))/\Upd [b,bi] Ei.w W/\W.heap[b]?=some (.loop { rec with state:=.done,pending:=some cd })
 have hbes0:Beside bi E0.w E0.w:=⟨rfl,rfl,rfl,rfl,fun _ _=>rfl⟩;have hJ0:J [] E0.w:=⟨qc5 cfg.lp d,E0.w,E0,rfl,hbes0,by rw[hd0];exact PostB.refl (by rw[qhp];omega) hT0 p0,rfl⟩;have hJu:∀s A B,J s A->Upd [bi] A B->J s B:=fun pre A B ⟨z,Wb,Ei,k1,hW,k2,k3⟩ u=>by
   subst k3;obtain⟨Wb',w1,w2⟩:=jup p0 hai hW k2 hT0 u;exact⟨z,Wb',Ei.at_ B,k1,w1,w2,rfl⟩
 have hKu:∀A B,K A->Upd [bi] A B->K B:=fun A B ⟨z,cd,Wb,Ei,k1,hW,k2,k3,k4⟩ u=>⟨z,cd,Wb,Ei,k1,hW,k2,k3.trans (u.mono (by simp)),(u.same _ (qas k4) (by simpa using hbne)).trans k4⟩;have hRd:∀pre A,J pre A->E2.Le (E2.at_ A):=fun pre A ⟨z,Wb,Ei,k1,hW,k2,k3⟩=>by
   subst k3;refine⟨fun _ h=>⟨h,rfl,rfl,rfl,rfl⟩,⟨fun x hx hxm=>⟨hxm,?_⟩⟩⟩;have hsz:x<Wb.heap.size:=by rw[hW.size,hE0w];exact hx
   have h1:Ei.w.heap[x]?=Wb.heap[x]?:=k2.same x hsz fun k _ ha hl e=>hxm (by rw[<- e,<- hE0m];exact p0.st.own k trivial ha hl);have h2:Wb.heap[x]?=E0.w.heap[x]?:=hW.same x fun e=>hxm (by rw[e,<- hbik];exact hbim);show Ei.w.heap[x]?=E2.w.heap[x]?;rw[h1,h2,hE0w]
 have hround:∀pre x post A0 A u,l=pre++x::post->J pre A0->Upd [bi] A0 A->(∀E:Env,E.w=A->(∀b∈E.m,b<A0.heap.size/\(b<E2.w.heap.size->b∈E2.m))->VR E (asIV s.c x) u)->YieldAt Fence.wide 0 P b #[u] A fun e B=>(∀c,(c=bi\/A0.heap.size<=c)->c<A.heap.size->B.heap[c]?=A.heap[c]?)/\((e=.returned (.bool true)/\J (pre++[x]) B)\/(e=.returned (.bool false)/\K B)):=fun pre x post A0 A u hl ⟨z,Wb0,Ei0,k1,hW0,k20,k30⟩ hup0 hu=>by
   subst k30;obtain⟨_,pW0,hiW0⟩:=p0.beside hai hW0;have hpi0:=k20.pre hT0 pW0;obtain⟨Wb,hW,k2⟩:=jup p0 hai hW0 k20 hT0 hup0;obtain⟨hleW,pW,hiW⟩:=p0.beside hai hW;have hapW:qcr (E0.at_ Wb) (Sc cfg.lp d) b:=hap;have hapW0:qcr (E0.at_ Wb0) (Sc cfg.lp d) b:=hap;have hlow0:∀k,(Ei0.at_ A).A k->Live (Ei0.at_ A) (Sc cfg.lp (updP cfg.lp d z)).H k->(Ei0.at_ A).ρ k<Ei0.w.heap.size:=fun k ha hl=>hpi0.st.lo _ (hpi0.st.own k trivial ha hl);have hmem0:∀b∈(Ei0.at_ A).m,b<Ei0.w.heap.size/\(b<E2.w.heap.size->b∈E2.m):=fun b hb=>⟨hpi0.st.lo b hb,fun hlt=>by
     rcases k20.memo b hb with h|h
     · rw[<- hE0m];exact h
     · have:Wb0.heap.size<=b:=h;rw[hW0.size,hE0w] at this;omega⟩
   obtain⟨Ei,hEi⟩:∃Ei,Ei=Ei0.at_ A:=⟨_,rfl⟩;have hEw:Ei.w=A:=by rw[hEi];rfl
   rw[<- hEi] at k2 hlow0 hmem0;rw[<- hEw];have hWb:Wb.heap[b]?=some (.loop rec):=(hW.same b hbne).trans hl0;have hWb0:Wb0.heap[b]?=some (.loop rec):=(hW0.same b hbne).trans hl0;have hb0:b<Ei0.w.heap.size:=qas ((k20.at_same pW0 hapW0).trans hWb0);have hwhole:foldB g (x::post) z=some q:=by
     rw[<- qla g pre (x::post) _ _ k1,<- hl];exact h5
   have hsnoc:foldB g (pre++[x]) (qc5 cfg.lp d)=foldB g [x] z:=qla g pre [x] _ _ k1;cases hgx:g z x with
   | none=>simp only[foldB,hgx] at hwhole;cases hwhole
   | some q1 =>
   obtain⟨z1,e⟩:=q1;rw[<- hg] at hgx;have hlow:((E0.at_ Wb).bel (mP cfg.lp)).Le Ei:=k2.env pW;have hargsB:VRs ((E0.at_ Wb).bel (mP cfg.lp)) (qaq cfg.lp idN 0 d) (cfg.ls.map fun t=>rec.tmps.getD t undef) :=
     argsP_env (E:=E0.at_ Wb) (E':=(E0.at_ Wb).bel (mP cfg.lp)) (ρ:=idN) (fun _ h=>h) rfl cfg.lp (fun j _ hj hA=>⟨⟨hA,by show j<mP cfg.lp;omega⟩,rfl,rfl,rfl,rfl⟩) (hargs.mono hleW)
   have hst:=zne (E:=Ei) (b:=b) (rec:=rec) hm hcl hfr htt hgx ⟨b4,b5⟩ ⟨by simpa using b6,by simpa using b7⟩ (k2.pre hT0 pW) (k2.apart pW hapW) ((k2.at_same pW hapW).trans hWb)
     (by rw[hrec];exact⟨rfl,rfl,rfl,rfl,rfl,g2'.size⟩) (hargsB.mono hlow) (hu Ei hEw hmem0)
   obtain⟨fnr,tmpr,asr,bdr,hyr,hRr⟩:=hst;refine⟨fnr,tmpr,asr,bdr,hyr,hRr.mono fun en B hB=>?_⟩;obtain⟨E',m1,m2⟩:=hB;have hall:=k2.trans m1;rw[hg] at hgx;have hiA:=k2.apart pW hiW;have hkeep:∀c,(c=bi\/Ei0.w.heap.size<=c)->c<Ei.w.heap.size->E'.w.heap[c]?=Ei.w.heap[c]?:=fun c h1 h2=>m1.same c h2 fun k _ ha hl e=>by
     rcases h1 with h1|h1
     · exact hiA.2 k ha hl (e.trans h1)
     · have:=hlow0 k ha hl;omega
   rcases m2 with ⟨rfl,rfl,rfl⟩|⟨cd,rfl,rfl,m3,m4⟩
   · refine⟨hkeep,.inl ?_⟩;refine⟨rfl,z1,Wb,E',?_,hW,hall,rfl⟩;rw[hsnoc];simp only[foldB,hgx]
   · refine⟨fun c h1 h2=>(m3.same c (qas ((hkeep c h1 h2).trans (jck h2))) (fun hc=>by
       have hcb:c=b:=by simpa using hc
       rcases h1 with h1|h1
       · exact hbne (hcb.symm.trans h1)
       · omega)).trans (hkeep c h1 h2),.inr ?_⟩
     refine⟨rfl,z1,cd,Wb,E',?_,hW,hall,m3.mono (by simp),m4⟩;rw[hl,qla g pre (x::post) _ _ k1];simp only[foldB,hgx]
 have hit:=hc.it E2 xi us i l h4 p2.gl hread hbim p2.st.lo b J K;rw[hbik] at hit;have hit:=hit hJu hKu hRd hround (by rw[<- hE0w];exact hJ0);have hu0:u0=.func (.yield b) #[] #[]:=by
   cases a1;rw[<- hbk,x2,z2]
 have hw:E2.w=E.w:=by rw[e2,e1]
 rw[hw] at hit;rw[hu0,show (Value.func (.yield b) #[] #[]::us).toArray=#[.func (.yield b) #[] #[]]++us.toArray by simp];refine hit.mono fun en B ⟨hen,hB⟩=>?_
 -- what comes back
 have hfin:∀(z:ElP (refs cfg.lp)) (pe:Option Code) (Wb:World) (Ei:Env),q=(z,pe)->Beside bi E0.w Wb->PostB (mP cfg.lp) T0 (E0.at_ Wb) (Sc cfg.lp d) Ei (Sc cfg.lp (updP cfg.lp d z))->Upd [b] Ei.w B ->
     B.heap[b]?=some (.loop { rec with state:=cond pe.isNone .ready .done,pending:=pe })->RetE T E S (qiw S2 cfg id nt fr pr D assign body i rows subs (w1 ||| w2) q) en B:=fun z pe Wb Ei hqz hW k2 hup hbl=>by
   subst hqz;rw[hE0w,<- hbik] at hW;obtain⟨wr1,wr2⟩:=Post.write (o':=.dead) p2 hTi hAi hLi hW.upd trivial;have hheldW:=hheld.dead p2 hTi hAi hLi hiq hW;have p2W:=wr1.pre p2;have hle2W:=wr1.env p2;have hE0W:E0.at_ Wb=renE 0 (rows++subs) (E2.at_ Wb):=by rw[<- hE0];rfl
   rw[<- q13 cfg.lp d z,hE0W] at k2;obtain⟨m1,m2⟩:=hheldW.back (s:=sQ cfg.lp) (x:=d) p2W k2;have p3:=m1.pre p2W;have hle3:=m1.env p2W;obtain⟨n1,n2,n3,n4,n5⟩:=hle3.alw id hA2;have hlt:id<S2.next:=p2.bnd id hA2
   have hSd:(S2.set i .dead).H id=some (.loop .ready none nt fr [pr] assign body D):=by rw[IS.H_set,up_ne _ _ hidi];exact hS2
   have hobj:(qbs (sQ cfg.lp) S2.next rows subs () z (S2.set i .dead)).H id=some (.loop .ready none nt fr [pr] assign body D):=by
     unfold qbs;rw[qb8,qlm,qo4,jam (show id<(S2.set i .dead).next from hlt),qf8 (fun h=>hidq (jb0 _ h)),qke (fun h=>hidq (jb8 _ h))];exact hSd
   have hL3:Live (mrgR (E2.at_ Wb) Ei S2.next (mP (sQ cfg.lp).ps)) (qbs (sQ cfg.lp) S2.next rows subs () z (S2.set i .dead)).H id:=⟨n5.trans hlive.1,_,hobj,rfl⟩;have n2':(mrgR (E2.at_ Wb) Ei S2.next (mP (sQ cfg.lp).ps)).ρ id=b:=n2.trans hbk;have hub:Upd [(mrgR (E2.at_ Wb) Ei S2.next (mP (sQ cfg.lp).ps)).ρ id] (mrgR (E2.at_ Wb) Ei S2.next (mP (sQ cfg.lp).ps)).w B:=by rw[n2'];exact hup
   have hle4:=Env.at_le p3.st hTid n1 hL3 hub;obtain⟨w1',w2'⟩:=Post.write p3 (o':=.loop (cond pe.isNone .ready .done) pe nt fr [pr] assign body D) hTid n1 hL3 hub ⟨fn',tmps',by
     show B.heap[(mrgR (E2.at_ Wb) Ei S2.next (mP (sQ cfg.lp).ps)).ρ id]?=_;rw[n2',hbl,hrec];have:E2.ρ D=(mrgR (E2.at_ Wb) Ei S2.next (mP (sQ cfg.lp).ps)).ρ D:=((hle3.alw D g3').2.1).symm;show some (Obj.loop { state:=cond pe.isNone .ready .done,pending:=pe,fn:=fn',tmps:=tmps',params:=[pr].toArray,assign:=assign,body:=body,defers:=E2.ρ D })=_;rw[this];rfl,((g2'.mono hle2W).mono hle3).mono hle4,(hle4.alw D (hle3.alw D g3').1).1⟩
   have r0:=Post.trans p hq12 hf12 wr1;have rf0:=hf12.trans wr2 hq12.le;have r1:=Post.trans p r0 rf0 m1;have rf1:=rf0.trans m2 r0.le;exact⟨_,_,hen,rfl,.tup (us:=[]) rfl (fun i h=>by simp at h),Post.trans p r1 rf1 w1',rf1.trans w2' r1.le⟩
 rcases hB with ⟨z,Wb,Ei,k1,hW,k2,k3⟩|⟨z,cd,Wb,Ei,k1,hW,k2,k3,k4⟩
 · obtain⟨_,pW,_⟩:=p0.beside hai hW;have hapW:qcr (E0.at_ Wb) (Sc cfg.lp d) b:=hap;refine hfin z none Wb Ei (jb1 (h5.symm.trans k1)) hW k2 (by rw[k3];exact Upd.refl _ _) ?_;rw[<- k3,(k2.at_same pW hapW),show (E0.at_ Wb).w.heap[b]?=some (.loop rec) from (hW.same b hbne).trans hl0,hrec];rfl
 · obtain⟨_,pW,_⟩:=p0.beside hai hW;have hapW:qcr (E0.at_ Wb) (Sc cfg.lp d) b:=hap;have hEb:Ei.w.heap[b]?=some (.loop rec):=(k2.at_same pW hapW).trans ((hW.same b hbne).trans hl0);have hltb:b<B.heap.size:=qas k4;have hsp:Upd [bi] Ei.w (B.putObj b (.loop rec)):=⟨k3.os,k3.tape,k3.output,by rw[(Beside.put B b (.loop rec)).size];exact k3.size,fun x hx hn=>by
     by_cases e:x=b
     · subst e;rw[jbn hltb,hEb]
     · rw[jb6 e];exact k3.same x hx (by simp at hn ⊢;exact⟨e,hn⟩)⟩
   obtain⟨Wb',v1,v2⟩:=jup p0 hai hW k2 hT0 hsp;exact hfin z (some cd) Wb' (Ei.at_ (B.putObj b (.loop rec))) (jb1 (h5.symm.trans k1)) v1 v2 (Beside.put B b (.loop rec)).symm.upd k4
theorem zc0(hm:P.follows .mixedOrders=true)(htt:TT P tt){f:Nat}{s:SmI}(k:Nat)(cfg:LpC)(lf:Nat)(hc:ConW P f s):HxOK P f (itWx P tt k s cfg lf).f :=
 ⟨fun cl h1 h2 _ vs S r h T E us p hr hw hv=>zjp hm htt hc h1 h2 h p hr hw hv,fun cl _ vs S=>zfn,fun cl _ vs S r h hw _=>(zkf h hw).elim⟩
end
end Go.Jx
end

section
namespace Go.Jx
open Go Go.Sx Go.RowKit
theorem zeb{E:Env}{k:IntKind}{n:Int}{v:Value}(h:VR E (.int k n) v):v=.int k n:=by cases h;rfl
theorem q9i{E:Env}{s:ByteArray}{v:Value}(h:VR E (.str s) v):v=.string s:=by cases h;rfl
theorem zkq{E:Env}{b:Bool}{v:Value}(h:VR E (.bool b) v):v=.bool b:=by cases h;rfl
end Go.Jx
end

section
set_option maxRecDepth 100000
namespace Go.Jx
open Go Go.Sx Go.RowKit
theorem VR.asE{E E':Env}(hm:∀b,b∈E'.m->b∈E.m)(hw:E'.w=E.w){c:TC}{x:El c}{u:Value}(h:VR E (asIV c x) u):VR E' (asIV c x) u:=by
 cases c with
 | two a b =>
  cases h with
  | agg hl hh=>exact .agg hl fun i a b=>(VR.noid hm hw (hh i a b)).2.2 _ _ (jbh a)
 | int k=>exact(VR.noid hm hw h).2.2 (.int k) x (by simp[cel,asIV])
 | bool=>exact(VR.noid hm hw h).2.2 .bool x (by simp[cel,asIV])
 | str=>exact(VR.noid hm hw h).2.2 .str x (by simp[cel,asIV])
 | list c=>exact(VR.noid hm hw h).2.2 (.list c) x (by simp[cel,asIV])
end Go.Jx
namespace Go.Sx
open Go Go.RowKit
section
variable {P : Program} {n : Nat} {σ : Nat -> Value} {w : World} {ops : Array Oper} {rest : List Oper} {d : Nat} {ty : TypeId} {pos : String} {aft : Array Edge} {g : Option (Nat × Bool)}
def cutA(a:Addr)(cap k s:Nat):Addr:=if cap=k then a else a.add (k*s)
theorem znn{T E:TypeId}{size bytes s2 b2:Nat}{zero z2:Value}{E':TypeDesc}{a:Addr}{len cap k:Nat}{kk:IntKind}(hT:Ty P T (.slice E) size bytes zero)(hE:Ty P E E' s2 b2 z2)(hl:k<=len)(hc:len<=cap) :
  (Instr.sliceAt T (.slice (some a) len cap) (some (.int kk (k:Nat))) none none).run P w=.ok (.slice (some (cutA a cap k s2)) (len-k) (cap-k)) w:=by
 have h1:(0:Int)<=(k:Nat)/\((k:Nat):Int)<=len:=⟨by omega,by omega⟩;by_cases h3:cap=k
 ·subst h3;simp only[Instr.sliceAt,jaf,jal hT.und,jaa,Instr.slice,Instr.sliceBounds,Instr.sliceBound,asIntOf,jad,h1,jex,jcq,run_sizeOf hE,cutA];simp
 ·rw[q2h hT hE (by omega) hl hc];unfold cutA;rw[jan h3]
theorem q7e{Q:Exit->Act->World->Prop}{T E:TypeId}{size bytes s2 b2:Nat}{zero z2:Value}{E':TypeDesc}{x y:Operand}{a:Addr}{len cap k:Nat}{kk:IntKind}(hT:Ty P T (.slice E) size bytes zero)(hE:Ty P E E' s2 b2 z2)
  (hg:qap ops σ n g=true) (hx:(okO n x&&okO n y)=true) (ex:ev σ x=.slice (some a) len cap) (ey:ev σ y=.int kk (k:Nat)) (hl:k<=len) (hc:len<=cap)
  (kt:wpList P ops Q rest (Fr n (upd σ d (.slice (some (cutA a cap k s2)) (len-k) (cap-k)))) w):wpList P ops Q (⟨some d,.slice T x (some y) none none,ty,pos,aft,g⟩::rest) (Fr n σ) w:=by
 simp only[jae] at hx;exact qa3 hg (by simp only[execOp,qat hx.1,ex,Option.map_none,jcy,qat hx.2,ey,znn hT hE hl hc,jaf,jad,jaa]) kt
theorem SL.cut{M:List Nat}{a:Addr}{cap k:Nat}{l:List ByteArray}(h:SL M w (some a) cap l)(hk:k<=l.length):SL M w (some (cutA a cap k 1)) (cap-k) (l.drop k):=by
 obtain⟨⟨h1,h2⟩,h3⟩:=h;refine⟨⟨by rw[ja6];omega,by omega⟩,?_⟩;rcases h3 with rfl|⟨b,off,cells,t,fz,ha,hb,hh,hall⟩
 ·exact .inl (by simp)
 ·cases ha;by_cases hc:cap=k
  ·exact .inl (jcp (by omega))
  ·refine .inr ⟨b,off+k,cells,t,fz,?_,hb,hh,fun i hi=>?_⟩
   ·unfold cutA;rw[jan hc,qbc _ rfl,jfn]
   ·rw[ja6] at hi;obtain⟨cs,c1,c2⟩:=hall (k+i) (by omega);refine⟨cs,by rw[List.getElem_drop];exact c1,fun j hj=>?_⟩;have:=c2 j hj;have e:(Dat.sz ByteArray)=1:=rfl;rw[e] at this ⊢;rw[show off+k+i*1+j=off+(k+i)*1+j by omega];exact this
end
end Go.Sx
namespace Go.Proofs.Ytnhmanoiolfapaa
open Go Go.Sx Go.RowKit Go.Jx
theorem zhz:Fld Try.prog 106 1 1:=Fld.mk (F := ⟨"sectors", 3,1, false, "", "cosigner/keep", 24⟩) qhq rfl ty3
theorem zf5:Fld Try.prog 106 2 2:=Fld.mk (F := ⟨"torn", 4,2, false, "", "cosigner/keep", 32⟩) qhq rfl ty4
theorem zgk(M:List Nat)(w:World):Gl M w:=⟨fun b hb=>by cases hb⟩
theorem zbb{w:World}{m0:List Nat}{a:Option Addr}{cap:Nat}{l:List ByteArray}(hS:SL m0 w a cap l)(h1:S.secs1 l=true) :
  Calls Try.prog 63 #[.slice a l.length cap] w (Ret fun v w'=>Upd [] w w'/\(∃a1 n1 c1,v=.agg #[.slice a1 n1 c1,.int .i64 (S.readK l).2.1,.bool (S.readK l).2.2]) /\
   ∀E:Env,E.w=w'->(∀x∈E.m,x<w.heap.size/\∀ad,a=some ad->x≠ad.block)->VR E (asIV cKeepRecord (S.readK l)) v):=by
 obtain⟨hn,hlen,hsz⟩:=qzb h1;obtain⟨⟨hc1,hc2⟩,h|⟨b,off,cells,t,fz,rfl,hb,hh,hall⟩⟩:=hS
 ·rw[h] at hn;simp at hn
 have hlt:=qas hh
 let M0:=(List.range w.heap.size).filter fun x=>!(x==b)
 have hM0:∀x∈M0,x<w.heap.size:=fun x hx=>by
  have:=(jdf.1 hx).1;simpa using this
 have hbM:b ∉ M0:=fun hx=>by
  have:=(jdf.1 hx).2;simp at this
 have hv:VR (EM M0 w) (.lst .str l) (.slice (some ⟨b,off,none⟩) l.length cap):=by
  refine VR.lst (fun i _=>.string (l.getD i S.none_)) hc1 hc2 (by show l.length*16<=_;omega) hbM hh (fun i hi j hj=>?_) (fun i hi j hj=>?_)
  ·have hj:j<1:=hj;have:j=0:=by omega
   subst this;obtain⟨cs,c1,c2⟩:=hall i hi;have c1:cs=[.string l[i]]:=c1;have:=c2 0 (by show 0<1;omega);rw[c1] at this;have hi:i<List.length (α:=ByteArray) l:=hi;rw[jai,jac hi];exact this
  ·have hj:j<1:=hj;have:j=0:=by omega
   subst this;have hi:i<List.length (α:=ByteArray) l:=hi;rw[jai,jac hi];show VR _ (.str l[i]) (.string l[i]);exact .str _ (by have:=hsz l[i] (jbh hi);omega)
 have hcall:=zfi.calls M0 w (l,()) [.slice (some ⟨b,off,none⟩) l.length cap] (S.readK l,()) (by
  show cond (S.secs1 l) (some (S.readK l,())) none=_;rw[h1];rfl) hM0 (zgk _ _) (.cons hv .nil)
 refine(jde.1 hcall).mono fun e w' hR=>?_;obtain⟨v,E',rfl,rfl,k1,k2,k3⟩:=hR;have k1:VR E' (asIV cKeepRecord (S.readK l)) v:=k1;refine⟨⟨k2.stp.os,k2.stp.tape,k2.stp.output,k2.stp.size,fun x hx _=>k2.stp.same x hx fun id _ hA _=>hA.elim⟩,?_,fun E hE hm=>VR.asE (fun x hx=>?_) hE k1⟩
 ·generalize S.readK l=r at k1;obtain⟨cl,nn,tt⟩:=r;have k1:VR E' (.agg [.lst qad cl,.int .i64 nn,.bool tt]) v:=k1;cases k1 with
  | @agg _ us hl hh2 =>
   match us,hl,hh2 with
   | [x1,x2,x3],hl,hh2 =>
    have q1:VR E' (.lst qad cl) x1:=hh2 0 (by simp) (by simp);have q2:VR E' (.int .i64 nn) x2:=hh2 1 (by simp) (by simp);have q3:VR E' (.bool tt) x3:=hh2 2 (by simp) (by simp);rw[zeb q2,zkq q3];cases q1 with
    | lst0 _=>exact⟨_,_,_,rfl⟩
    | lst us h1 h2 h3 hb hh hc hu=>exact⟨_,_,_,rfl⟩
 ·obtain⟨h2,h3⟩:=hm x hx;have hxb:x≠b:=h3 _ rfl;have hx0:x∈M0:=jdf.2 ⟨by simpa using h2,by simpa using hxb⟩;rcases k2.stp.mem x hx0 h2 with h|⟨id,_,hA,_⟩
  ·exact h
  ·exact hA.elim
theorem qrh(l:List ByteArray)(h:(S.readK l).2.2=false):1<=(S.readK l).2.1.toNat/\(S.readK l).2.1.toNat<=l.length/\(S.readK l).2.1=((S.readK l).2.1.toNat:Int):=by
 revert h
 unfold S.readK;split
 ·intro h;cases h
 ·rename_i hc;have h1:1<=S.recM (qab (l.getD 0 S.none_)):=by unfold S.recM;omega
  have h2:S.recM (qab (l.getD 0 S.none_))<=l.length:=by omega
  split
  ·intro _;exact⟨by simpa using h1,by simpa using h2,by simp⟩
  ·intro _;exact⟨by simpa using h1,by simpa using h2,by simp⟩
theorem q9j:∀(f:Nat) (l:List ByteArray),l.length<f->S.recsGo f l=S.recsGo (l.length+1) l:=by
 intro f;induction f using Nat.strongRecOn with
 | ind f ih =>
  intro l hl;cases l with
  | nil=>cases f with
   | zero=>omega
   | succ f=>rfl
  | cons s r=>cases f with
   | zero=>omega
   | succ f =>
    show (if (qab s).getD 0 0=0 then [] else S.readK (s::r)::cond (S.readK (s::r)).2.2 [] (S.recsGo f ((s::r).drop (S.readK (s::r)).2.1.toNat)))=(if (qab s).getD 0 0=0 then [] else S.readK (s::r)::cond (S.readK (s::r)).2.2 [] (S.recsGo (s::r).length ((s::r).drop (S.readK (s::r)).2.1.toNat)));by_cases h0:(qab s).getD 0 0=0
    ·rw[jam h0,jam h0]
    ·rw[jan h0,jan h0];cases ht:(S.readK (s::r)).2.2 with
     | true=>rfl
     | false =>
      obtain⟨h1,h2,_⟩:=qrh (s::r) ht;have hd:((s::r).drop (S.readK (s::r)).2.1.toNat).length<(s::r).length:=by rw[ja6];simp only[jat] at *;omega
      show _::S.recsGo f _=_::S.recsGo _ _;rw[ih f (by omega) _ (by simp only[jat] at *;omega)];by_cases hf:(s::r).length=f
      ·rw[hf,ih f (by omega) _ (by simp only[jat] at *;omega)]
      ·rw[ih (s::r).length (by simp only[jat] at *;omega) _ hd]
theorem qqh(s:ByteArray)(r:List ByteArray):S.recsK (s::r)=if (qab s).getD 0 0=0 then [] else S.readK (s::r)::cond (S.readK (s::r)).2.2 [] (S.recsK ((s::r).drop (S.readK (s::r)).2.1.toNat)):=by
 show (if (qab s).getD 0 0=0 then [] else S.readK (s::r)::cond (S.readK (s::r)).2.2 [] (S.recsGo (s::r).length ((s::r).drop (S.readK (s::r)).2.1.toNat)))=_;by_cases h0:(qab s).getD 0 0=0
 ·rw[jam h0,jam h0]
 ·rw[jan h0,jan h0];cases ht:(S.readK (s::r)).2.2 with
  | true=>rfl
  | false =>
   obtain⟨h1,h2,_⟩:=qrh (s::r) ht;have hd:((s::r).drop (S.readK (s::r)).2.1.toNat).length<(s::r).length:=by rw[ja6];simp only[jat] at *;omega
   show _::S.recsGo _ _=_::S.recsK _;unfold S.recsK;rw[q9j _ _ hd]
theorem zns{s:ByteArray}(h:0<s.size):((qfl s 0).toNat:Int)=(qab s).getD 0 0:=by
 rw[jai,zmb h];unfold qfl;rw[jai,jac (by simpa using h)];rfl
theorem qw7{l:List ByteArray}(h:S.secs l=true)(k:Nat):S.secs (l.drop k)=true:=by
 obtain⟨h1,h2⟩:=qjh h;unfold S.secs S.anyShort;rw[jae];refine⟨ja0 (by rw[ja6];omega),?_⟩;rw[jch,jdk];intro s hs;have:=h2 s (jds hs);unfold S.short;simp[this]
section
attribute [local irreducible] Go.wpList Go.wpQuiet Go.Code.wp
theorem zfa{W0:World}{b:Nat}{m0:List Nat}{r0:List Value}{a0:Option Addr}{cap0:Nat}{l0:List ByteArray}(hbm:b∈m0)(hlo:∀x∈m0,x<W0.heap.size)(hS0:SL m0 W0 a0 cap0 l0)(hl0:S.secs l0=true)(hbox0:Box W0 b (.slice a0 l0.length cap0::r0)) :
   qxk Try.prog 62 [.pointer (some ⟨b,0,none⟩)] b m0 W0 (fun W=>Tr m0 W0 m0 W) (fun(x:qe0) u E=>VR E (asIV cKeepRecord x) u) (S.recsK l0):=by
 intro l J K hJ hK hR hy h0;refine jde.2 (Calls.mono (R:=Ret fun v B=>v=.tuple #[]/\(J (S.recsK l0) B\/K B)) ?_ (fun e B h=>by cases e<;>first|exact⟨by rw[h.1],h.2⟩|exact h.elim));refine(enter (l:=[.func (.yield l) #[] #[],.pointer (some ⟨b,0,none⟩)]) Try.func62 rfl Try.ntmps62 rfl ?_);refine wp_block ?_;refine qui (X:=(List qe0 × List ByteArray) × (Option Addr × Nat)) ((List.range 28).drop 3) (fun _=>[]) (fun x w1=>J x.1.1 w1/\SL m0 W0 x.2.1 x.2.2 x.1.2/\Box w1 b (.slice x.2.1 x.1.2.length x.2.2::r0)/\S.secs x.1.2=true/\S.recsK l0=x.1.1++S.recsK x.1.2) (fun x=>x.1.2.length) (([],l0),(a0,cap0)) trivial ⟨h0,hS0,hbox0,hl0,rfl⟩ ?_;rintro⟨⟨pre,lr⟩,a,cap⟩ τ w1 ⟨hj,hs0,hbox,hsec,hrec⟩;have hs1:SL m0 w1 a cap lr:=hs0.mono (hR _ _ hj);refine qal fun K1 hK1=>?_;refine qal fun K2 hK2=>?_;refine qau ?_;refine qgb (v:=.slice a lr.length cap) ty27 rfl rfl rfl rfl hbox rfl ?_;refine qvd ty27 rfl rfl rfl ?_;refine qm5 rfl rfl rfl rfl ?_;cases lr with
 | nil =>
   refine qaw (v:=.bool false) rfl rfl rfl ?_;refine qga rfl ?_;refine qga rfl ?_;refine qga rfl ?_;refine qga rfl ?_;refine qga rfl ?_;refine qun (v:=.bool false) rfl rfl rfl rfl ?_;refine jbc ?_;refine hK2 _ _ ?_;refine qkf rfl rfl ?_;refine wp_exit ?_;have e:S.recsK l0=pre:=by rw[hrec];exact jbo _
   exact q39 Try.results62 ⟨rfl,.inl (by rw[e];exact hj)⟩
 | cons s r =>
   obtain⟨hlen,hsz⟩:=qjh hsec;have hs64:s.size=64:=hsz s (by simp);refine qaw (v:=.bool true) rfl rfl (jaw Value.bool (jao (by show (0:Int)<((r.length+1:Nat):Int);omega))) ?_;refine qgb (v:=.slice a (s::r).length cap) ty27 rfl rfl rfl rfl hbox rfl ?_;refine za4 (j:=0) ty27 ty9 rfl rfl rfl rfl rfl hs1 (by simp) fun ad cs u hget henc hca=>?_;have hus:u=s:=by simpa using hget.symm
   subst hus;have henc:cs=[.string u]:=henc;subst henc;refine zkk (v:=.string u) ty9 rfl rfl rfl rfl hca rfl ?_;refine zmv (j:=0) ty9.und rfl rfl rfl rfl (by omega) ?_;refine q6l rfl rfl rfl rfl ?_;refine qzr (v:=.bool (decide (((qfl u 0).toNat:Int)≠0))) rfl rfl rfl rfl ?_;refine jbc ?_;refine hK2 _ _ ?_;have hb0:=zns (s:=u) (by omega);refine c_if rfl rfl (fun hne=>?_) (fun hne=>?_)
   · refine je1 ?_;refine hK1 _ _ ?_;have hne:¬(qab u).getD 0 0=0:=by rw[<- hb0];exact hne
     have hrk:=qqh u r;rw[jan hne] at hrk;have hsec1:S.secs1 (u::r)=true:=by unfold S.secs1;rw[hsec];rfl
     generalize hL:u::r=L at *;refine wp_block ?_;refine qal fun K3 hK3=>?_;refine qau ?_;refine qgb (v:=.slice a L.length cap) ty27 rfl rfl rfl rfl hbox rfl ?_;refine qfw (l:=[.tmp 14]) (args:=[.slice a L.length cap]) q5y rfl rfl rfl (zbb hs1 hsec1) ?_;rintro _ w2 ⟨u2,⟨a1,n1,c1,rfl⟩,hvr⟩;refine zaj (zs:=[.slice none 0 0,.int .i64 0,.bool false]) qhq rfl rfl fun β w3 hβ u3 hz3 hx3=>?_;refine qvz (v:=.agg #[.slice a1 n1 c1,.int .i64 (S.readK L).2.1,.bool (S.readK L).2.2]) (cs':=[.slice a1 n1 c1,.int .i64 (S.readK L).2.1,.bool (S.readK L).2.2]) qhq rfl rfl rfl rfl hx3 rfl rfl rfl fun w4 u4 hz4 hx4=>?_;refine jbc ?_;refine hK3 _ _ ?_;have hβ1:w1.heap.size<=β:=by rw[<- hβ];exact u2.size
     have u24:Upd [] w2 w4:=Upd.old_upd u3 u4 (by omega);have u14:Upd [] w1 w4:=u2.trans u24;have hbox4:=hbox.mono0 u14;have hbltw1:b<w1.heap.size:=hbox.lt;have hneb:b≠β:=by omega
     -- what is handed over
     have hgive:∀E:Env,E.w=w4->(∀x∈E.m,x<w1.heap.size/\(x<W0.heap.size->x∈m0))->VR E (asIV cKeepRecord (S.readK L)) (.agg #[.slice a1 n1 c1,.int .i64 (S.readK L).2.1,.bool (S.readK L).2.2]):=fun E hE hm=>by
       have h1:=hvr (E.at_ w2) rfl (fun x hx=>⟨(hm x hx).1,fun ad had=>?_⟩)
       · refine VR.mono (E:=E.at_ w2) (E':=E) ⟨fun _ h=>⟨h,rfl,rfl,rfl,rfl⟩,⟨fun x hx hxm=>⟨hxm,?_⟩⟩⟩ h1;show E.w.heap[x]?=w2.heap[x]?;rw[hE];exact u24.same x hx (by simp)
       · subst had;obtain⟨_,h|⟨bl,off,cells,t,fz,ha,hbl,hh,_⟩⟩:=hs0
         · rw[<- hL] at h;cases h
         · cases ha;intro e;have e:x=bl:=e;exact hbl (e▸(hm x hx).2 (by rw[e];exact qas hh))
     have hsp:S.recsK l0=pre++S.readK L::cond (S.readK L).2.2 [] (S.recsK (L.drop (S.readK L).2.1.toNat)):=by rw[hrec,hrk]
     refine qal fun K4 hK4=>?_;refine qal fun K5 hK5=>?_;refine(wpIn_wide (n:=0)).1 (wpIn_region_lit (q85 2 rfl ?lo rfl ?_))
     case lo=>rintro⟨_,_,h⟩;exact(show False from h)
     dsimp only [List.take_succ_cons,jfg,List.drop_succ_cons,jeg];refine qaw (v:=.func (.yield l) #[] #[]) rfl rfl rfl ?_;refine qpy (ds:=[.slice a1 n1 c1,.int .i64 (S.readK L).2.1,.bool (S.readK L).2.2]) qhq rfl rfl rfl rfl hx4 rfl rfl ?_;refine jbc ?_;refine zgt ?_;refine zdz rfl rfl rfl rfl rfl (hy pre (S.readK L) _ w1 w4 _ hsp hj (u14.mono (by simp)) hgive) ?_;rintro e w5 ⟨hfr,⟨rfl,hj5⟩|⟨rfl,hk5⟩⟩
     · have hx5:Box w5 β [.slice a1 n1 c1,.int .i64 (S.readK L).2.1,.bool (S.readK L).2.2]:=by
         obtain⟨t6,ht6⟩:=hx4;exact⟨t6,(hfr β (.inr hβ1) (qas ht6)).trans ht6⟩
       have hbox5:Box w5 b (.slice a L.length cap::r0):=by
         obtain⟨t6,ht6⟩:=hbox4;exact⟨t6,(hfr b (.inl rfl) (qas ht6)).trans ht6⟩
       refine⟨_,rfl,q2s rfl ?lo rfl ?_⟩
       case lo=>rintro⟨_,_,h⟩;exact(show False from h)
       refine q46 rfl rfl rfl ?_;refine qaw (v:=.bool false) rfl rfl rfl ?_;refine qr6 zf5 rfl rfl rfl ?_;refine qgb (v:=.bool (S.readK L).2.2) ty4 rfl rfl rfl rfl hx5 rfl ?_;refine qun (v:=.bool (S.readK L).2.2) rfl rfl rfl rfl ?_;refine jbc ?_;refine hK5 _ _ ?_;refine qo1 rfl rfl (fun ht=>?_) (fun ht=>?_)
       · rw[ht,jab] at hsp;rw[<- hsp] at hj5;refine je3 ?_;exact ret0 Try.results62 ⟨rfl,.inl hj5⟩
       · rw[ht,jah] at hsp;obtain⟨k1,k2,k3⟩:=qrh L ht;refine je1 ?_;refine hK4 _ _ ?_;obtain⟨ad,had⟩:∃ad,a=some ad:=by
           obtain⟨_,h|⟨bl,off,cells,t,fz,ha,_⟩⟩:=hs0
           · rw[<- hL] at h;cases h
           · exact⟨_,ha⟩
         subst had;have hcap:L.length<=cap:=hs0.1.1;refine qau ?_;refine qgb (v:=.slice (some ad) L.length cap) ty27 rfl rfl rfl rfl hbox5 rfl ?_;refine qr6 zhz rfl rfl rfl ?_;refine qgb (v:=.int .i64 ((S.readK L).2.1.toNat:Int)) ty3 rfl rfl rfl rfl hx5 (by rw[<- k3];rfl) ?_;refine q7e ty27 ty9 rfl rfl rfl rfl k2 hcap ?_;refine qvz (v:=.slice (some (cutA ad cap (S.readK L).2.1.toNat 1)) (L.length-(S.readK L).2.1.toNat) (cap-(S.readK L).2.1.toNat)) (cs':=.slice (some (cutA ad cap (S.readK L).2.1.toNat 1)) (L.drop (S.readK L).2.1.toNat).length (cap-(S.readK L).2.1.toNat)::r0) ty27 rfl rfl rfl rfl hbox5 rfl (by
           simp only[jat,jbi,jae];exact⟨⟨rfl,ja0 (by show 0+1<=r0.length+1;omega)⟩,rfl⟩) (by rw[ja6];rfl) fun w6 u6 hz6 hx6=>?_
         refine jbc ?_;exact⟨((pre++[S.readK L],L.drop (S.readK L).2.1.toNat),(some (cutA ad cap (S.readK L).2.1.toNat 1),cap-(S.readK L).2.1.toNat)),by show (L.drop _).length<L.length;rw[ja6];omega,⟨hJ _ _ _ hj5 u6,hs0.cut k2,hx6,qw7 hsec _,by rw[hsp,ja2];rfl⟩,_,rfl,(by repeat first|exact qa6.refl _ _|refine qa6.upd rfl ?_|refine qa6.upds rfl ?_|refine qa6.mix rfl ?_),trivial⟩
     · refine⟨_,rfl,q2s rfl ?lo rfl ?_⟩
       case lo=>rintro⟨_,_,h⟩;exact(show False from h)
       refine q46 rfl rfl rfl ?_;refine qaw (v:=.bool true) rfl rfl rfl ?_;refine qga rfl ?_;refine qga rfl ?_;refine qzr (v:=.bool true) rfl rfl rfl rfl ?_;refine jbc ?_;refine hK5 _ _ ?_;refine qw4 rfl rfl ?_;refine je3 ?_;exact ret0 Try.results62 ⟨rfl,.inr hk5⟩
   · refine wp_exit ?_;have hz:(qab u).getD 0 0=0:=by rw[<- hb0];exact Decidable.not_not.1 hne
     have e:S.recsK l0=pre:=by rw[hrec,qqh,jam hz];exact jbo _
     exact q39 Try.results62 ⟨rfl,.inl (by rw[e];exact hj)⟩
end
end Go.Proofs.Ytnhmanoiolfapaa
namespace Go.Proofs.Ytnhmanoiolfapaa
open Go Go.Sx Go.RowKit Go.Jx
theorem q7c:ConW Try.prog 62 qzk:=by
 refine⟨q9s,rfl,fun E x us i l hl hgl hrd hbm hlo=>?_⟩;obtain⟨⟨L0,_⟩,_⟩:=x;obtain⟨L,hL⟩:∃L:List ByteArray,L=L0:=⟨L0,rfl⟩;subst hL;obtain⟨hsec,rfl⟩:=qba (show cond (S.secs L) (some (S.recsK L)) none=some l from hl);obtain⟨hlen,hsz⟩:=qjh hsec;obtain⟨h1,h2⟩:=hrd;obtain⟨i',i1,i2,i3,i4⟩:=h2 0 _ rfl;have e0:i=i':=by simpa using i1
 subst e0;have i4:OR E i (.row [.lst .str L]):=i4;obtain⟨cells,t,k1,k2,k3,k4⟩:=i4;have ha:=h1 (fun _=>i) 0 (fun j id hj=>by
  cases j with
  | zero=>simpa using hj
  | succ j=>simp at hj)
 obtain⟨u,us',rfl,a1,a2⟩:=VRs.inv (v:=.ptr i 0) (cs:=[]) ha;obtain rfl:us'=[]:=jay.1 a2.1.symm;have hu:u=.pointer (some ⟨E.ρ i,0,none⟩):=by cases a1;rfl
 subst hu;obtain⟨h0,r0,hc0⟩:∃h0 r0,cells.toList=h0::r0:=by
  cases hc:cells.toList with
  | nil=>have:=jaw List.length hc;simp at this;simp [this] at k3
  | cons h r=>exact⟨h,r,rfl⟩
 have hv:VR E (.lst .str L) h0:=by
  have:=k4.2 0 (by simp) (by simp[hc0]);simpa [hc0] using this
 have hS:∃a cap,h0=.slice a L.length cap/\SL (α:=ByteArray) E.m E.w a cap L:=by
  cases hv with
  | @lst0 _ a cap hc=>exact⟨a,cap,rfl,⟨jb3 _,hc⟩,.inl rfl⟩
  | @lst _ _ bl off cap cells t fz us q1 q2 q3 hb hh hc hu =>
   refine⟨_,cap,rfl,⟨q1,q2⟩,.inr ⟨bl,off,cells,t,fz,rfl,hb,hh,fun j hj=>?_⟩⟩;refine⟨[.string L[j]],rfl,fun k hk=>?_⟩;have hk:k<1:=hk;have hk0:k=0:=by omega
   subst hk0;have q5:=hc j hj 0 (by show 0<1;omega);have q6:VR E (.str L[j]) (us j 0):=hu j hj 0 Nat.zero_lt_one;rw[q9i q6] at q5;exact q5
 obtain⟨a,cap,rfl,hS⟩:=hS;have hbox:Box E.w (E.ρ i) (.slice a L.length cap::r0):=⟨t,by rw[k1,<- hc0]⟩;have hit:=zfa hbm hlo hS hsec hbox;exact fun lb J K q1 q2 q3 q4 q5=>hit lb J K q1 q2 (fun s A h=>(q3 s A h).tr) q4 q5
end Go.Proofs.Ytnhmanoiolfapaa
end

noncomputable section
set_option maxRecDepth 100000
namespace Go.Proofs.Ytnhmanoiolfapaa
open Go Go.Sx Go.RowKit Go.Jx
def qv1:List (Nat × Hx):=[(64,qm9 qad),(53,hxR qpn),(54,hxR qcn),(62,itWx Try.prog ttT.get 0 qzk ⟨[6,7,8,9],[.ref (.box [.map (.int .i64) .str]),.ref (.box [.dat (.int .i64)]),.ref (.box [.dat .bool]),.ref (.box [.dat .bool])],zdu⟩ 0)]
abbrev qmk:Type:=qac × Bool × Unit
def qxw(lf:Nat)(x1:qak):Option qmk:=(match (jget x1.1 (Int.ofNat 0)) with|none=>none|some v0=>(match (jget (qab v0) (Int.ofNat 0)) with|none=>none|some v1=>(cond (iltI (Int.ofNat 1) v1) (some ((([],[]),((Int.ofNat 0),((Int.ofNat 0),[]))),(false,()))) (cond (lchk (Int.ofNat 1) (Int.ofNat v0.size) (Int.ofNat v0.size) (Int.ofNat v0.size)) (cond (Bool.not (keqS (ByteArray.extract v0 1 (Int.toNat (Int.ofNat v0.size))) (S.lit [0,0,0,0,0,0,0,0,0,0,0,0,0,0,0,0,0,0,0,0,0,0,0,0,0,0,0,0,0,0,0,0,0,0,0,0,0,0,0,0,0,0,0,0,0,0,0,0,0,0,0,0,0,0,0,0,0,0,0,0,0,0,0]))) (some ((([],[]),((Int.ofNat 0),((Int.ofNat 0),[]))),(false,()))) (match (jget (qab v0) (Int.ofNat 0)) with|none=>none|some v2=>(match (cond (S.inI (Int.ofNat x1.1.length) (Int.ofNat 0) (Int.ofNat 1000)) (some ((S.half (Int.toNat (Int.ofNat x1.1.length)) (IntKind.i64.wrap v2)),())) none) with|none=>none|some v3=>(cond (lchk v3.1.1 v3.1.2 v3.1.2 (Int.ofNat x1.1.length)) (match (cond (S.secs (lsub x1.1 v3.1.1 v3.1.2)) (some (S.recsK (lsub x1.1 v3.1.1 v3.1.2))) (none:Option (List (El Go.Proofs.Ytnhmanoiolfapaa.cKeepRecord)))) with|none=>none|some v4=>(match (qcw (fun v5 v6=>(cond v6.2.2 (some (((v5.1.1,()),((v5.2.1.1,()),((v5.2.2.1.1,()),((true,()),())))),true)) (cond v5.2.2.1.1 (match (idxO (fun v7=>(some v7.2.2)) v6.1 0) with|none=>none|some v8=>(cond (Bool.not (iltI v8 (Int.ofNat 0))) (some (((v5.1.1,()),((v5.2.1.1,()),((v5.2.2.1.1,()),((true,()),())))),true)) (some ((((S.applied v5.1.1 v6.1),()),(((IntKind.i64.wrap (Int.add v5.2.1.1 v6.2.1)),()),((false,()),((v5.2.2.2.1.1,()),())))),false)))) (some ((((S.applied v5.1.1 v6.1),()),(((IntKind.i64.wrap (Int.add v5.2.1.1 v6.2.1)),()),((false,()),((v5.2.2.2.1.1,()),())))),false))))) v4 (([],()),(((Int.ofNat 0),()),((true,()),((false,()),()))))) with|none=>none|some v9=>(cond v9.2 (cond v9.1.2.2.2.1.1 (some ((([],[]),((Int.ofNat 0),((Int.ofNat 0),[]))),(false,()))) (cond v9.1.2.2.1.1 (some ((([],[]),((Int.ofNat 0),((Int.ofNat 0),[]))),(false,()))) (match (jget (qab v0) (Int.ofNat 0)) with|none=>none|some v10=>(match (cond (S.mapG v9.1.1.1) (some (((S.listed v9.1.1.1),()),((some v9.1.1.1),()))) none) with|none=>none|some v11=>(some (((x1.1,[]),((IntKind.i64.wrap v10),(v9.1.2.1.1,v11.1.1))),(true,()))))))) (cond v9.1.2.2.2.1.1 (some ((([],[]),((Int.ofNat 0),((Int.ofNat 0),[]))),(false,()))) (cond v9.1.2.2.1.1 (some ((([],[]),((Int.ofNat 0),((Int.ofNat 0),[]))),(false,()))) (match (jget (qab v0) (Int.ofNat 0)) with|none=>none|some v12=>(match (cond (S.mapG v9.1.1.1) (some (((S.listed v9.1.1.1),()),((some v9.1.1.1),()))) none) with|none=>none|some v13=>(some (((x1.1,[]),((IntKind.i64.wrap v12),(v9.1.2.1.1,v13.1.1))),(true,())))))))))) none)))) none))))
def qoj(lf:Nat)(x1:qak):Option qmk:=qxw lf x1
theorem zc4(hrz15:ConR Try.prog 53 qpn)(hr_k_cells_list:ConR Try.prog 54 qcn):qbg Try.prog qv1:=⟨q88,⟨qfg hrz15,⟨qfg hr_k_cells_list,⟨zc0 mixed ttOK 0 _ 0 q7c,trivial⟩⟩⟩⟩
theorem zkc{g:ElA [qav]->Option qmk}(hsm:SmOK Try.prog [(41,qkb),(44,q4f),(34,qix)])(hrz15:ConR Try.prog 53 qpn)(hr_k_cells_list:ConR Try.prog 54 qcn)(hg:∀(x:ElA [qav]) (y:qmk),WfA [qav] x->g x=some y->∃lf,qoj lf x.1=some y):Con Try.prog 25 ⟨[qav],[(false,qag),(false,.bool)],g⟩ :=
 conU (fi:=fi25) (hxl:=qv1) (fun lf x=>qoj lf x.1) cm3 q9u (zc4 hrz15 hr_k_cells_list) hsm hg
def qj0:Nat->Option Nm:=fun k=>cond (Nat.beq k 1) (some ⟨[0,6,7,8],[],[],[(0,(.int .i64),.str)],[],0,0,false⟩) (cond (Nat.beq k 999999) (some ⟨[],[],[],[],[],0,0,false⟩) none)
def qk1:Nat->Bool:=fun k=>cond (Nat.beq k 1) true (false)
def qq0:=qk1
abbrev qck:Type:=(Unit) × (Option (List (Int × ByteArray))) × Unit
def qr8:List (Nat × Sm):=[]
def qti:List (Nat × Hx):=[]
def qrk(R:Type)(lf:Nat):ClK R:=qa8 Try.prog ttT.get ftT.get (fun _ _=>none) (smL qr8) (hxL qti) lf 20 R
abbrev zau:Nat:=53
def qhm(x1:(List (Int × ByteArray)))(x2:(List qaa))(p:Int × (List (Int × ByteArray))):NRes:=(NRes.mk (.node (some (IV.map 0)) (.node none (.node none (.node (some (IV.int .i64 (Int.ofNat x2.length))) .leaf .leaf) .leaf) .leaf) (.node none (.node none (.node (some (IV.int .i64 p.1)) .leaf .leaf) .leaf) (.node (some (IV.lst qad x2)) .leaf .leaf))) (IS.mk (.node (some (IObj.tmap (TC.int .i64) TC.str p.2)) .leaf .leaf) 1) [] 0)
def qva(lf:Nat)(x1:(List (Int × ByteArray)))(x2:(List qaa))(L1:(Int × (List (Int × ByteArray)))->Option qck):Option qck:=(L1 ((Int.ofNat 0),x1))
def qpt(lf:Nat)(x1:(List (Int × ByteArray)))(x2:(List qaa))(L1:(Int × (List (Int × ByteArray)))->Option qck)(p:Int × (List (Int × ByteArray))):Option qck:=(cond (iltI p.1 (Int.ofNat x2.length)) (match (jget x2 p.1) with|none=>none|some v0=>(cond v0.2.2 (L1 ((IntKind.i64.wrap (Int.add p.1 (Int.ofNat 1))),(@mdel (TC.int .i64) TC.str v0.1 p.2))) (L1 ((IntKind.i64.wrap (Int.add p.1 (Int.ofNat 1))),(@mset (TC.int .i64) TC.str v0.1 v0.2.1 p.2))))) (some ((),((some p.2),()))))
abbrev gz15:Type:=ElP [.ref (.mp (.int .i64) .str),.dat (.list qad)]->Option qck
abbrev sz15(g:gz15):SmR:=⟨[.ref (.mp (.int .i64) .str),.dat (.list qad)],[],g⟩
abbrev Ez15(g:gz15)(J:JT qck)(lf:Nat)(x1:(List (Int × ByteArray)))(x2:(List qaa)):=qb1 Try.prog ttT.get qj0 (mP [.ref (.mp (.int .i64) .str),.dat (.list qad)]) fi53.nt (qrk _ lf) lf qk1 J fi53.body [] (qaz (qaq [.ref (.mp (.int .i64) .str),.dat (.list qad)] idN 0 (some x1,x2,())) 0 .leaf) (Sc [.ref (.mp (.int .i64) .str),.dat (.list qad)] (some x1,x2,())) [] (qdo ttT.get fi53 (sz15 g))
abbrev Bz15(g:gz15)(J:JT qck)(lf k:Nat)(ms:List Nat)(q:NRes):=qb4 Try.prog ttT.get qj0 (mP [.ref (.mp (.int .i64) .str),.dat (.list qad)]) fi53.nt (qrk _ lf) lf qk1 J k fi53.body [] ms q (qdo ttT.get fi53 (sz15 g))
theorem q8q(g:gz15)(J:JT qck)(lf:Nat)(x1:(List (Int × ByteArray)))(x2:(List qaa)):Ez15 g J lf x1 x2=qva lf x1 x2 (fun q=>J 1 [lf] (qhm x1 x2 q)):=by kernel_rfl
theorem zdd(g:gz15)(J:JT qck)(lf:Nat)(x1:(List (Int × ByteArray)))(x2:(List qaa))(m1:Nat)(p:Int × (List (Int × ByteArray))):Bz15 g J lf 1 [m1] (qhm x1 x2 p)=qpt lf x1 x2 (fun q=>J 1 [m1] (qhm x1 x2 q)) p:=by kernel_rfl
theorem qvu:(regs fi53.body).Nodup:=by decide +kernel
theorem qw8:okC qj0 qk1 qq0 fi53.body none=true:=by kernel_rfl
def Az15(g:gz15)(lf:Nat):JT qck:=atQ Try.prog ttT.get qj0 fi53 (sz15 g) (qrk _ lf) lf qq0
def qmp(lf:Nat)(x1:(List (Int × ByteArray)))(x2:(List qaa)):Nat->(Int × (List (Int × ByteArray)))->Option qck:=qa9 fun K p=>qpt lf x1 x2 K p
theorem q4j(g:gz15)(lf:Nat)(x1:(List (Int × ByteArray)))(x2:(List qaa)):∀(n:Nat) (p:Int × (List (Int × ByteArray))),Az15 g lf 1 [n] (qhm x1 x2 p)=qmp lf x1 x2 n p
 | 0,p=>qzl 1 [0] rfl _
 | n+1,p=>by
  have ih:=q4j g lf x1 x2 n;refine(q3u rfl (qbh 20 _) qvu qw8 1 [n+1] [n] rfl _).trans ((zdd g (Az15 g lf) lf x1 x2 n p).trans ?_);rw[(show (fun q=>Az15 g lf 1 [n] (qhm x1 x2 q))=(fun q=>qmp lf x1 x2 n q) from funext ih)];rfl
def Fz15(lf:Nat)(x1:(List (Int × ByteArray)))(x2:(List qaa)):Option qck:=qva lf x1 x2 (fun q=>qmp lf x1 x2 lf q)
theorem zlm(g:gz15)(lf:Nat)(x1:(List (Int × ByteArray)))(x2:(List qaa)):Ez15 g (Az15 g lf) lf x1 x2=Fz15 lf x1 x2:=by
  refine(q8q g (Az15 g lf) lf x1 x2).trans ?_;rw[(show (fun q=>Az15 g lf 1 [lf] (qhm x1 x2 q))=(fun q=>qmp lf x1 x2 lf q) from funext fun q=>q4j g lf x1 x2 lf q)];rfl
theorem zm8:qbg Try.prog qti:=trivial
theorem zcw{g:gz15}(hsm:SmOK Try.prog qr8)(h0:∀(x:ElP [.ref (.mp (.int .i64) .str),.dat (.list qad)]) (y:qck),g x=some y->∃(x1:(List (Int × ByteArray))) (x2:(List qaa)),x=(some x1,x2,()))(hg:∀(x1:(List (Int × ByteArray))) (x2:(List qaa)) (y:qck),WfP [.ref (.mp (.int .i64) .str),.dat (.list qad)] (some x1,x2,())->g (some x1,x2,())=some y->∃lf,Fz15 lf x1 x2=some y):ConR Try.prog 53 ⟨[.ref (.mp (.int .i64) .str),.dat (.list qad)],[],g⟩ :=
 conTR (nmf:=qj0) (sml:=qr8) (hxl:=qti) (st:=qk1) (hd:=qq0) 20 mixed ttOK ftOK hsm zm8 zeg (by kernel_rfl) (fun x=>by kernel_rfl) qvu qw8 fun x y z hx hy=>by
  obtain⟨x1,x2,rfl⟩:=h0 x (y,z) hy;obtain⟨lf,h⟩:=hg x1 x2 (y,z) hx hy;exact⟨lf,(zlm g lf x1 x2).trans h⟩
theorem zbj(m:List (Int × ByteArray))(l:List qaa)(hl:l.length<LF):Fz15 LF m l=some ((),(some (S.applied m l),())):=by
 simp only[Fz15,qva];refine range0 (σ:=List (Int × ByteArray)) (R:=qck) l (fun i m=>(i,m)) (fun _ _=>True) (fun rest _ m=>some ((),(some (S.applied m rest),()))) hl (fun K m _=>?_) (fun K i v rest m _ r hk=>?_) m trivial
 ·simp only[qpt,qdn,jah];rfl
 ·simp only[qpt,r.ilt,r.get,r.next,jab];show _=some ((),(some (S.applied (cond v.2.2 (mdel (vc:=.str) (.int .i64) v.1 m) (mset (vc:=.str) (.int .i64) v.1 v.2.1 m)) rest),()));cases v.2.2 with
  | true=>exact hk _ trivial
  | false=>exact hk _ trivial
theorem zf1:ConR Try.prog zau qpn:=zcw trivial (fun x y h=>by
 obtain⟨m,l,_⟩:=x;cases m with
 | none=>cases h
 | some m=>exact⟨m,l,rfl⟩) fun m l y hx h=>⟨LF,(zbj m l (qdw (c:=qad) hx.2.1)).trans h⟩
theorem zd7(l:List ByteArray):match S.readR l with
  | some x=>S.readK l=(x.1,(x.2:Int),false)
  | none=>(S.readK l).2.2=true:=by
 unfold S.readR S.readK;by_cases hc:¬(qab (l.getD 0 S.none_)).getD 0 0=1\/l.length<S.recM (qab (l.getD 0 S.none_))
 ·rw[jam hc,jam hc]
 ·rw[jan hc,jan hc];cases S.changes (S.recN (qab (l.getD 0 S.none_))+1) ((((l.take (S.recM (qab (l.getD 0 S.none_)))).flatMap qab).drop 4).take (S.recN (qab (l.getD 0 S.none_)))) (-1) with
  | none=>rfl
  | some c =>
   simp only;cases hz:(((l.take (S.recM (qab (l.getD 0 S.none_)))).flatMap qab).drop (4+S.recN (qab (l.getD 0 S.none_)))).all fun b=>decide (b=0) with
   | true=>rfl
   | false=>rfl
abbrev StO:Type:=(List KV × Unit) × (Int × Unit) × (Bool × Unit) × (Bool × Unit) × Unit
def stO(m:List KV)(u:Int)(first torn:Bool):StO:=((m,()),((u,()),((first,()),((torn,()),()))))
def qgo(v5:StO)(v6:qe0):Option (StO × Bool):=(cond v6.2.2 (some (((v5.1.1,()),((v5.2.1.1,()),((v5.2.2.1.1,()),((true,()),())))),true)) (cond v5.2.2.1.1 (match (idxO (fun v7:qaa=>(some v7.2.2)) v6.1 0) with|none=>none|some v8=>(cond (Bool.not (iltI v8 (Int.ofNat 0))) (some (((v5.1.1,()),((v5.2.1.1,()),((v5.2.2.1.1,()),((true,()),())))),true)) (some ((((S.applied v5.1.1 v6.1),()),(((IntKind.i64.wrap (Int.add v5.2.1.1 v6.2.1)),()),((false,()),((v5.2.2.2.1.1,()),())))),false)))) (some ((((S.applied v5.1.1 v6.1),()),(((IntKind.i64.wrap (Int.add v5.2.1.1 v6.2.1)),()),((false,()),((v5.2.2.2.1.1,()),())))),false))))
theorem zhv(m:List KV)(u:Int)(first torn:Bool){r:qe0}(h:r.2.2=true):qgo (stO m u first torn) r=some (stO m u first true,true):=by
 unfold qgo;rw[h];rfl
theorem zcb(m:List KV)(u v:Nat)(first torn:Bool)(c:List qaa)(h:u+v<=100000):qgo (stO m u first torn) (c,(v:Int),false)=if first=true/\(c.any (·.2.2))=true then some (stO m u first true,true) else some (stO (S.applied m c) ((u+v:Nat):Int) false torn,false):=by
 unfold qgo stO;simp only[jah];have e1:IntKind.i64.wrap (Int.add (u:Int) (v:Int))=((u+v:Nat):Int):=qbl (n:=u+v) (by omega);have e2:idxO (fun v7:qaa=>(some v7.2.2)) c 0=some (Go.Jx.S.idx (·.2.2) c):=qps (fun v:qaa=>v.2.2) fun x _=>rfl;cases first with
 | false =>
  rw[jah,jan (by simp),e1]
 | true =>
  rw[jab,e2];simp only;rw[qmq];cases c.any (·.2.2) with
  | true=>rw[jab,jam (by simp)]
  | false=>rw[jah,jan (by simp),e1]
theorem qs4{D α:Type}{g:D->α->Option (D × Bool)}{x:α}{xs:List α}{d d':D}{b:Bool}(h:g d x=some (d',b)):qcw g (x::xs) d=cond b (some (d',true)) (qcw g xs d'):=by
 simp only[qcw,h]
theorem zgv:∀(k:Nat) (l:List ByteArray) (f:Nat) (m:List KV) (u:Nat),l.length=k->l.length<f->szS l->S.mapG m=true->u+l.length<=1000 ->
  match S.recs f l (S.listed m) u with
  | none=>∃m' u' first,qcw qgo (S.recsK l) (stO m u (decide (u=0)) false)=some (stO m' u' first true,true)
  | some (c',u')=>∃m',qcw qgo (S.recsK l) (stO m u (decide (u=0)) false)=some (stO m' u' (decide (u'=0)) false,false)/\S.mapG m'=true/\c'=S.listed m':=by
 intro k;induction k using Nat.strongRecOn with
 | ind k ih =>
  intro l f m u hk hf hs hG hu;cases f with
  | zero=>omega
  | succ f =>
   cases l with
   | nil=>exact⟨m,rfl,hG,rfl⟩
   | cons s r =>
    rw[qee,qqh];by_cases h0:(qab s).getD 0 0=0
    ·rw[jam h0,jam h0];exact⟨m,rfl,hG,rfl⟩
    ·rw[jan h0,jan h0];have hRK:=zd7 (s::r);cases hx:S.readR (s::r) with
     | none =>
      rw[hx] at hRK;refine⟨m,u,decide (u=0),?_⟩;exact qs4 (zhv m u (decide (u=0)) false hRK)
     | some x =>
      rw[hx] at hRK;obtain⟨i1,i2,i3,_,_,_⟩:=qlt hs hx;have hRK:S.readK (s::r)=(x.1,(x.2:Int),false):=hRK;rw[hRK];simp only[jah,jce];have hst:=zcb m u x.2 (decide (u=0)) false x.1 (by omega);cases hq:(decide (u=0)&&x.1.any (·.2.2)) with
      | true =>
       rw[jab];have hq2:=(jae _ _).mp hq;rw[jam ⟨hq2.1,hq2.2⟩] at hst;exact⟨m,u,decide (u=0),qs4 hst⟩
      | false =>
       rw[jan (fun hh=>by rw[hh.1,hh.2] at hq;cases hq)] at hst;rw[jah];obtain⟨a1,a2⟩:=q6d (l:=x.1) hG i3;have hd:((s::r).drop x.2).length=(s::r).length-x.2:=ja6;have:=ih (((s::r).drop x.2).length) (by rw[hd];omega) ((s::r).drop x.2) f (S.applied m x.1) (u+x.2) rfl (by rw[hd];omega) (hs.drop x.2) a1 (by rw[hd];omega);rw[a2] at this;have hu0:decide (u+x.2=0)=false:=jar (by omega);rw[hu0] at this;rw[qs4 hst,jah];exact this
theorem q8e(d:qak)(h:S.okL d=true):qoj LF d=some ((S.openedJ d).1,(S.openedJ d).2,()):=by
 unfold S.okL at h;simp only[jae,jb9] at h;obtain⟨h1,h2,h3⟩:=h;have h2:=jak h2;obtain⟨hle,hsz⟩:=qjh h1;simp only[qoj,qxw];have hs64:=hsz _ (qh9 (i:=0) (show 0<d.1.length by omega));obtain⟨b0,b1,b2,b3,r,hb⟩:=q0z hs64;have hrb:rng (b0::b1::b2::b3::r):=hb▸qdu _;have hb0:=hrb b0 (by simp);have hszl:(d.1.getD 0 S.none_).size=(b0::b1::b2::b3::r).length:=by rw[<- qcv,hb]
 have l1:lchk (Int.ofNat 1) (Int.ofNat (d.1.getD 0 S.none_).size) (Int.ofNat (d.1.getD 0 S.none_).size) (Int.ofNat (d.1.getD 0 S.none_).size)=true:=by rw[hs64];rfl
 have hext:ByteArray.extract (d.1.getD 0 S.none_) 1 (Int.toNat (Int.ofNat (d.1.getD 0 S.none_).size))=qae (b1::b2::b3::r):=by
  show ByteArray.extract (d.1.getD 0 S.none_) 1 (d.1.getD 0 S.none_).size=_;rw[hszl,<- qhg (d.1.getD 0 S.none_),hb];exact qj5 hrb 1
 have hr1:rng (b1::b2::b3::r):=fun x hx=>hrb x (ja7 _ hx);simp only[qpl (d:=S.none_) (show 1<=d.1.length by omega),hb,qdk,jap,l1,hext,jab];simp only[qw5,q9q,qbz hr1,qbz (qfy 63)];unfold S.openedJ S.opened;rw[hb];simp only[je9];by_cases q1:1<b0
 ·rw[qei (show Int.ofNat 1<b0 from q1),jab,jam (.inl q1)];rfl
 rw[qfj (show ¬Int.ofNat 1<b0 from q1),jah];by_cases q2:(b1::b2::b3::r)=List.replicate 63 0
 ·rw[jao q2,jbb,jah,jan (fun hh=>hh.elim q1 (fun hh=>hh q2))];rw[show S.inI (Int.ofNat d.1.length) (Int.ofNat 0) (Int.ofNat 1000)=true from by
   unfold S.inI;rw[jao (show Int.ofNat 0<=Int.ofNat d.1.length from jbz _),jao (show Int.ofNat d.1.length<=Int.ofNat 1000 by show ((d.1.length:Nat):Int)<=1000;omega)];rfl,jab,wrap_in (n:=b0) (by omega)]
  simp only;obtain⟨a,e1,e2,e3,_,_⟩:=qgj h3 h2 (h:=b0) (by omega);unfold S.halfS;have ehalf:S.half (Int.toNat (Int.ofNat d.1.length)) b0=S.half d.1.length b0:=rfl;rw[ehalf,e1];simp only[jce];have hlc:lchk (a:Int) ((a+(d.1.length / 2-1):Nat):Int) ((a+(d.1.length / 2-1):Nat):Int) (Int.ofNat d.1.length)=true:=qby.2 ⟨by omega,by omega,jbr _,by show ((a+(d.1.length / 2-1):Nat):Int)<=((d.1.length:Nat):Int);omega⟩;rw[hlc,jab];have hsub:lsub d.1 (a:Int) ((a+(d.1.length / 2-1):Nat):Int)=(d.1.take (a+(d.1.length / 2-1))).drop a:=by
   unfold lsub;rw[jce,jce]
  rw[hsub];have hsz2:szS ((d.1.take (a+(d.1.length / 2-1))).drop a):=fun s hs=>hsz s (jcg (jds hs));have hlen2:((d.1.take (a+(d.1.length / 2-1))).drop a).length<=d.1.length:=by rw[ja6,jbl];omega
  have hsec2:S.secs ((d.1.take (a+(d.1.length / 2-1))).drop a)=true:=by
   refine qw7 ?_ _;unfold S.secs S.anyShort;rw[jae];refine⟨ja0 (by rw[jbl];omega),?_⟩;rw[jch,jdk];intro s hs;have:=hsz s (jcg hs);unfold S.short;simp[this]
  rw[hsec2];generalize (d.1.take (a+(d.1.length / 2-1))).drop a=H at hsz2 hlen2 hsec2;have hfold:=zgv H.length H (d.1.length+1) [] 0 rfl (by omega) hsz2 rfl (by omega);have hst:((([]:List KV),()),(((Int.ofNat 0:Int),()),((true,()),((false,()),()))))=stO [] (0:Nat) (decide ((0:Nat)=0)) false:=rfl
  show (match qcw qgo (S.recsK H) (stO [] (0:Nat) (decide ((0:Nat)=0)) false) with
   | none=>none
   | some v9=>_)=_
  have hl0:S.listed []=[]:=rfl;rw[hl0] at hfold;cases hrec:S.recs (d.1.length+1) H [] 0 with
  | none =>
   rw[hrec] at hfold;obtain⟨m',u',first,hfo⟩:=hfold;rw[hfo];rfl
  | some x =>
   obtain⟨c,u⟩:=x;rw[hrec] at hfold;obtain⟨m',hfo,hG,rfl⟩:=hfold;rw[hfo];simp only[stO];by_cases hu:u=0
   ·rw[jam hu,jao hu];rfl
   ·rw[jan hu,jar hu];simp only[jah];rw[hG];simp only[jab]
 ·rw[jar q2,ja4,jab,jam (.inr q2)];rfl
theorem q0v:Con Try.prog 25 qfv:=zkc ⟨qns,qjs,qnn,trivial⟩ zf1 q6x fun x y hx h=>⟨LF,by
 obtain⟨h1,h2⟩:=qba (show cond (S.okL x.1) (some ((S.openedJ x.1).1,(S.openedJ x.1).2,())) none=some y from h);exact(q8e x.1 h1).trans (jaw some h2)⟩
theorem q87:Con Try.prog 18 qya:=qdb (qze q0v) fun x y h=>ifO (qd3 _) h
def qk3:Nat->Option Nm:=fun k=>cond (Nat.beq k 36) (some ⟨[7,8,13,15,28,29,30],[],[],[(29,(.int .i64),.bool)],[],0,0,false⟩) (none)
def qkd:Nat->Bool:=fun k=>cond (Nat.beq k 36) true (false)
def q3h:=qkd
abbrev qc1:Type:=Bool × Unit
def qym:List (Nat × Sm):=[(5,qzm),(6,spz1),(7,spz3),(13,spz2),(14,spz4),(15,qz7),(16,qv4),(17,quc),(11,qwm),(18,qya)]
def q3c:List (Nat × Hx):=[]
def qub(R:Type)(lf:Nat):ClK R:=qa8 Try.prog ttT.get ftT.get (nm1 4 qk3) (smL qym) (hxL q3c) lf 20 R
abbrev zar:Nat:=4
def qg0(x1:Int)(x2:(List (List qan)))(x3:(List qan))(p:(List DAct) × Int × (List ByteArray) × (List DPut) × Int × Int × (List qaa) × Int × Int × (List (Int × Bool))):NRes:=(NRes.mk (.node none (.node none (.node none (.node (some (IV.bool true)) (.node (some (IV.arr 1)) .leaf .leaf) .leaf) .leaf) (.node none .leaf (.node (some (IV.int .i64 p.2.1)) .leaf (.node (some (IV.map 2)) .leaf .leaf)))) (.node none (.node none (.node (some (IV.ptr 0 0)) .leaf .leaf) (.node none .leaf (.node (some (IV.int .i64 p.2.2.2.2.2.2.2.1)) .leaf .leaf))) (.node none .leaf (.node none .leaf (.node (some (IV.int .i64 p.2.2.2.2.2.2.2.2.1)) .leaf .leaf))))) (IS.mk (.node (some (IObj.row (List.cons (IV.lst TC.str p.2.2.1) (List.cons (IV.lst cPut p.2.2.2.1) (List.cons (IV.int .i64 p.2.2.2.2.1) (List.cons (IV.int .i64 p.2.2.2.2.2.1) [(IV.lst qad p.2.2.2.2.2.2.1)])))))) (.node (some (IObj.arr cAct p.1)) .leaf .leaf) (.node (some (IObj.tmap (TC.int .i64) TC.bool p.2.2.2.2.2.2.2.2.2)) .leaf .leaf)) 3) [] 0)
def qr2(lf:Nat)(x1:Int)(x2:(List (List qan)))(x3:(List qan))(L36:((List DAct) × Int × (List ByteArray) × (List DPut) × Int × Int × (List qaa) × Int × Int × (List (Int × Bool)))->Option qc1):Option qc1:=(cond (Bool.not (S.brief x2)) (some (true,())) (cond (iltI (Int.ofNat 10) (Int.ofNat x3.length)) (some (true,())) (match (S.playedO x1 x2) with|none=>none|some v0=>(cond (Bool.not v0.2.1) (some (false,())) (cond (ieqI (Int.ofNat (List.length (S.cells x3))) (Int.ofNat 0)) (some (true,())) (match (S.roomO ((v0.1.1.1,v0.1.1.2),(v0.1.2.1,(v0.1.2.2.1,v0.1.2.2.2)))) with|none=>none|some v1=>(match (S.planO ((v0.1.1.1,v0.1.1.2),(v0.1.2.1,(v0.1.2.2.1,v0.1.2.2.2))) (S.cells x3)) with|none=>none|some v2=>(match (S.saveO ((v0.1.1.1,v0.1.1.2),(v0.1.2.1,(v0.1.2.2.1,v0.1.2.2.2))) (S.cells x3)) with|none=>none|some v3=>(match (S.turnO ((v0.1.1.1,v0.1.1.2),(v0.1.2.1,(v0.1.2.2.1,v0.1.2.2.2)))) with|none=>none|some v4=>(cond (Bool.not (ieqI (S.size (S.cells x3)).2 (Int.ofNat 0))) (some (false,())) (cond (Bool.not (ieqI v1.2.1 (Int.ofNat 0))) (some (false,())) (cond (Bool.not (Decidable.decide (Eq (ieqI v2.2.1 (Int.ofNat 0)) (Bool.not (iltI v1.1 (S.size (S.cells x3)).1))))) (some (false,())) (cond (ieqI v4.2.1 (Int.ofNat 0)) (match (S.roomO ((v4.1.1.1,v4.1.1.2),(v4.1.2.1,(v4.1.2.2.1,v4.1.2.2.2)))) with|none=>none|some v5=>(cond (ieqI v2.2.1 (Int.ofNat 0)) (cond (Bool.not (ieqI v5.2.1 (Int.ofNat 0))) (some (false,())) (cond (Bool.not (Decidable.decide (Eq (ieqI v3.2.1 (Int.ofNat 0)) true))) (some (false,())) (cond (Bool.not (ieqI v3.2.1 (Int.ofNat 0))) (cond (Bool.not (ieqI v3.2.1 (Int.ofNat 14))) (some (false,())) (cond (Bool.not (ieqI v2.2.1 (Int.ofNat 0))) (some ((ieqI v2.2.1 (Int.ofNat 14)),())) (match (S.commitO ((v0.1.1.1,v0.1.1.2),(v0.1.2.1,(v0.1.2.2.1,v0.1.2.2.2))) (S.cells x3)) with|none=>none|some v6=>(match (S.roomO ((v6.1.1.1,v6.1.1.2),(v6.1.2.1,(v6.1.2.2.1,v6.1.2.2.2)))) with|none=>none|some v7=>(cond (Bool.not (ieqI v6.2.1 (Int.ofNat 0))) (some (false,())) (cond (Bool.not (ieqI v7.2.1 (Int.ofNat 0))) (some (false,())) (cond (Bool.not (ieqI v7.1 (IntKind.i64.wrap (Int.sub v1.1 (S.size (S.cells x3)).1)))) (some (false,())) (cond (ieqI v0.1.2.1 (Int.ofNat 1)) (L36 (v2.1,v1.1,v0.1.1.1,v0.1.1.2,v0.1.2.1,v0.1.2.2.1,v0.1.2.2.2,(IntKind.i64.wrap (Int.ofNat (Nat.div v0.1.1.1.length 2))),(Int.ofNat 0),[])) (L36 (v2.1,v1.1,v0.1.1.1,v0.1.1.2,v0.1.2.1,v0.1.2.2.1,v0.1.2.2.2,(Int.ofNat 1),(Int.ofNat 0),[])))))))))) (cond (Bool.not (ieqI v2.2.1 (Int.ofNat 0))) (some ((ieqI v2.2.1 (Int.ofNat 14)),())) (match (S.commitO ((v0.1.1.1,v0.1.1.2),(v0.1.2.1,(v0.1.2.2.1,v0.1.2.2.2))) (S.cells x3)) with|none=>none|some v39=>(match (S.roomO ((v39.1.1.1,v39.1.1.2),(v39.1.2.1,(v39.1.2.2.1,v39.1.2.2.2)))) with|none=>none|some v40=>(cond (Bool.not (ieqI v39.2.1 (Int.ofNat 0))) (some (false,())) (cond (Bool.not (ieqI v40.2.1 (Int.ofNat 0))) (some (false,())) (cond (Bool.not (ieqI v40.1 (IntKind.i64.wrap (Int.sub v1.1 (S.size (S.cells x3)).1)))) (some (false,())) (cond (ieqI v0.1.2.1 (Int.ofNat 1)) (L36 (v2.1,v1.1,v0.1.1.1,v0.1.1.2,v0.1.2.1,v0.1.2.2.1,v0.1.2.2.2,(IntKind.i64.wrap (Int.ofNat (Nat.div v0.1.1.1.length 2))),(Int.ofNat 0),[])) (L36 (v2.1,v1.1,v0.1.1.1,v0.1.1.2,v0.1.2.1,v0.1.2.2.1,v0.1.2.2.2,(Int.ofNat 1),(Int.ofNat 0),[])))))))))))) (cond (Bool.not (ieqI v5.2.1 (Int.ofNat 0))) (some (false,())) (cond (Bool.not (Decidable.decide (Eq (ieqI v3.2.1 (Int.ofNat 0)) (Bool.not (iltI v5.1 (S.size (S.cells x3)).1))))) (some (false,())) (cond (Bool.not (ieqI v3.2.1 (Int.ofNat 0))) (cond (Bool.not (ieqI v3.2.1 (Int.ofNat 14))) (some (false,())) (cond (Bool.not (ieqI v2.2.1 (Int.ofNat 0))) (some ((ieqI v2.2.1 (Int.ofNat 14)),())) (match (S.commitO ((v0.1.1.1,v0.1.1.2),(v0.1.2.1,(v0.1.2.2.1,v0.1.2.2.2))) (S.cells x3)) with|none=>none|some v41=>(match (S.roomO ((v41.1.1.1,v41.1.1.2),(v41.1.2.1,(v41.1.2.2.1,v41.1.2.2.2)))) with|none=>none|some v42=>(cond (Bool.not (ieqI v41.2.1 (Int.ofNat 0))) (some (false,())) (cond (Bool.not (ieqI v42.2.1 (Int.ofNat 0))) (some (false,())) (cond (Bool.not (ieqI v42.1 (IntKind.i64.wrap (Int.sub v1.1 (S.size (S.cells x3)).1)))) (some (false,())) (cond (ieqI v0.1.2.1 (Int.ofNat 1)) (L36 (v2.1,v1.1,v0.1.1.1,v0.1.1.2,v0.1.2.1,v0.1.2.2.1,v0.1.2.2.2,(IntKind.i64.wrap (Int.ofNat (Nat.div v0.1.1.1.length 2))),(Int.ofNat 0),[])) (L36 (v2.1,v1.1,v0.1.1.1,v0.1.1.2,v0.1.2.1,v0.1.2.2.1,v0.1.2.2.2,(Int.ofNat 1),(Int.ofNat 0),[])))))))))) (cond (Bool.not (ieqI v2.2.1 (Int.ofNat 0))) (some ((ieqI v2.2.1 (Int.ofNat 14)),())) (match (S.commitO ((v0.1.1.1,v0.1.1.2),(v0.1.2.1,(v0.1.2.2.1,v0.1.2.2.2))) (S.cells x3)) with|none=>none|some v43=>(match (S.roomO ((v43.1.1.1,v43.1.1.2),(v43.1.2.1,(v43.1.2.2.1,v43.1.2.2.2)))) with|none=>none|some v44=>(cond (Bool.not (ieqI v43.2.1 (Int.ofNat 0))) (some (false,())) (cond (Bool.not (ieqI v44.2.1 (Int.ofNat 0))) (some (false,())) (cond (Bool.not (ieqI v44.1 (IntKind.i64.wrap (Int.sub v1.1 (S.size (S.cells x3)).1)))) (some (false,())) (cond (ieqI v0.1.2.1 (Int.ofNat 1)) (L36 (v2.1,v1.1,v0.1.1.1,v0.1.1.2,v0.1.2.1,v0.1.2.2.1,v0.1.2.2.2,(IntKind.i64.wrap (Int.ofNat (Nat.div v0.1.1.1.length 2))),(Int.ofNat 0),[])) (L36 (v2.1,v1.1,v0.1.1.1,v0.1.1.2,v0.1.2.1,v0.1.2.2.1,v0.1.2.2.2,(Int.ofNat 1),(Int.ofNat 0),[])))))))))))))) (cond (Bool.not (Decidable.decide (Eq (ieqI v3.2.1 (Int.ofNat 0)) (ieqI v2.2.1 (Int.ofNat 0))))) (some (false,())) (cond (Bool.not (ieqI v3.2.1 (Int.ofNat 0))) (cond (Bool.not (ieqI v3.2.1 (Int.ofNat 14))) (some (false,())) (cond (Bool.not (ieqI v2.2.1 (Int.ofNat 0))) (some ((ieqI v2.2.1 (Int.ofNat 14)),())) (match (S.commitO ((v0.1.1.1,v0.1.1.2),(v0.1.2.1,(v0.1.2.2.1,v0.1.2.2.2))) (S.cells x3)) with|none=>none|some v45=>(match (S.roomO ((v45.1.1.1,v45.1.1.2),(v45.1.2.1,(v45.1.2.2.1,v45.1.2.2.2)))) with|none=>none|some v46=>(cond (Bool.not (ieqI v45.2.1 (Int.ofNat 0))) (some (false,())) (cond (Bool.not (ieqI v46.2.1 (Int.ofNat 0))) (some (false,())) (cond (Bool.not (ieqI v46.1 (IntKind.i64.wrap (Int.sub v1.1 (S.size (S.cells x3)).1)))) (some (false,())) (cond (ieqI v0.1.2.1 (Int.ofNat 1)) (L36 (v2.1,v1.1,v0.1.1.1,v0.1.1.2,v0.1.2.1,v0.1.2.2.1,v0.1.2.2.2,(IntKind.i64.wrap (Int.ofNat (Nat.div v0.1.1.1.length 2))),(Int.ofNat 0),[])) (L36 (v2.1,v1.1,v0.1.1.1,v0.1.1.2,v0.1.2.1,v0.1.2.2.1,v0.1.2.2.2,(Int.ofNat 1),(Int.ofNat 0),[])))))))))) (cond (Bool.not (ieqI v2.2.1 (Int.ofNat 0))) (some ((ieqI v2.2.1 (Int.ofNat 14)),())) (match (S.commitO ((v0.1.1.1,v0.1.1.2),(v0.1.2.1,(v0.1.2.2.1,v0.1.2.2.2))) (S.cells x3)) with|none=>none|some v47=>(match (S.roomO ((v47.1.1.1,v47.1.1.2),(v47.1.2.1,(v47.1.2.2.1,v47.1.2.2.2)))) with|none=>none|some v48=>(cond (Bool.not (ieqI v47.2.1 (Int.ofNat 0))) (some (false,())) (cond (Bool.not (ieqI v48.2.1 (Int.ofNat 0))) (some (false,())) (cond (Bool.not (ieqI v48.1 (IntKind.i64.wrap (Int.sub v1.1 (S.size (S.cells x3)).1)))) (some (false,())) (cond (ieqI v0.1.2.1 (Int.ofNat 1)) (L36 (v2.1,v1.1,v0.1.1.1,v0.1.1.2,v0.1.2.1,v0.1.2.2.1,v0.1.2.2.2,(IntKind.i64.wrap (Int.ofNat (Nat.div v0.1.1.1.length 2))),(Int.ofNat 0),[])) (L36 (v2.1,v1.1,v0.1.1.1,v0.1.1.2,v0.1.2.1,v0.1.2.2.1,v0.1.2.2.2,(Int.ofNat 1),(Int.ofNat 0),[]))))))))))))))))))))))))
def qkc(lf:Nat)(x1:Int)(x2:(List (List qan)))(x3:(List qan))(L36:((List DAct) × Int × (List ByteArray) × (List DPut) × Int × Int × (List qaa) × Int × Int × (List (Int × Bool)))->Option qc1)(p:(List DAct) × Int × (List ByteArray) × (List DPut) × Int × Int × (List qaa) × Int × Int × (List (Int × Bool))):Option qc1:=(cond (iltI p.2.2.2.2.2.2.2.2.1 (Int.ofNat p.1.length)) (match (jget p.1 p.2.2.2.2.2.2.2.2.1) with|none=>none|some v0=>(match (GetElem?.getElem? p.1 (Int.toNat p.2.2.2.2.2.2.2.2.1)) with|none=>none|some v1=>(cond v1.1 (L36 (p.1,p.2.1,p.2.2.1,p.2.2.2.1,p.2.2.2.2.1,p.2.2.2.2.2.1,p.2.2.2.2.2.2.1,p.2.2.2.2.2.2.2.1,(IntKind.i64.wrap (Int.add p.2.2.2.2.2.2.2.2.1 (Int.ofNat 1))),[])) (match (jget p.1 p.2.2.2.2.2.2.2.2.1) with|none=>none|some v25=>(match (GetElem?.getElem? p.1 (Int.toNat p.2.2.2.2.2.2.2.2.1)) with|none=>none|some v26=>(cond (match (@qde (TC.int .i64) TC.bool v26.2.1 p.2.2.2.2.2.2.2.2.2) with|.none  => false|some v27=>v27) (some (false,())) (cond (iltI v26.2.1 (IntKind.i64.wrap (Int.add p.2.2.2.2.2.2.2.1 p.2.2.2.2.2.1))) (some (false,())) (cond (Bool.not (iltI v26.2.1 (IntKind.i64.wrap (Int.add (IntKind.i64.wrap (Int.add p.2.2.2.2.2.2.2.1 p.2.2.2.2.2.1)) p.2.1)))) (some (false,())) (L36 (p.1,p.2.1,p.2.2.1,p.2.2.2.1,p.2.2.2.2.1,p.2.2.2.2.2.1,p.2.2.2.2.2.2.1,p.2.2.2.2.2.2.2.1,(IntKind.i64.wrap (Int.add p.2.2.2.2.2.2.2.2.1 (Int.ofNat 1))),(@mset (TC.int .i64) TC.bool v26.2.1 true p.2.2.2.2.2.2.2.2.2))))))))))) (some (true,())))
abbrev gz16:Type:=ElA [(.int .u8),(.list (.list cCosignerlaw23Change)),(.list cCosignerlaw23Change)]->Option qc1
abbrev sz16(g:gz16):Sm:=⟨[(.int .u8),(.list (.list cCosignerlaw23Change)),(.list cCosignerlaw23Change)],[(false,.bool)],g⟩
abbrev Ez16(g:gz16)(J:JT qc1)(lf:Nat)(x1:Int)(x2:(List (List qan)))(x3:(List qan)):=qb6 Try.prog ttT.get qk3 fi4.nt (qub _ lf) lf qkd J fi4.body [] (qaz (argV [(.int .u8),(.list (.list cCosignerlaw23Change)),(.list cCosignerlaw23Change)] (x1,x2,x3,())) 0 .leaf) S0 [] (qa2 ttT.get fi4 (sz16 g))
abbrev Bz16(g:gz16)(J:JT qc1)(lf k:Nat)(ms:List Nat)(q:NRes):=qct Try.prog ttT.get qk3 fi4.nt (qub _ lf) lf qkd J k fi4.body [] ms q (qa2 ttT.get fi4 (sz16 g))
theorem ze7(g:gz16)(J:JT qc1)(lf:Nat)(x1:Int)(x2:(List (List qan)))(x3:(List qan)):Ez16 g J lf x1 x2 x3=qr2 lf x1 x2 x3 (fun q=>J 36 [lf] (qg0 x1 x2 x3 q)):=by kernel_rfl
theorem zh9(g:gz16)(J:JT qc1)(lf:Nat)(x1:Int)(x2:(List (List qan)))(x3:(List qan))(m1:Nat)(p:(List DAct) × Int × (List ByteArray) × (List DPut) × Int × Int × (List qaa) × Int × Int × (List (Int × Bool))):Bz16 g J lf 36 [m1] (qg0 x1 x2 x3 p)=qkc lf x1 x2 x3 (fun q=>J 36 [m1] (qg0 x1 x2 x3 q)) p:=by kernel_rfl
theorem qzc:(regs fi4.body).Nodup:=by decide +kernel
theorem q5t:okC qk3 qkd q3h fi4.body none=true:=by kernel_rfl
def Az16(g:gz16)(lf:Nat):JT qc1:=atN Try.prog ttT.get qk3 fi4 (sz16 g) (qub _ lf) lf q3h
def qf4(lf:Nat)(x1:Int)(x2:(List (List qan)))(x3:(List qan)):Nat->((List DAct) × Int × (List ByteArray) × (List DPut) × Int × Int × (List qaa) × Int × Int × (List (Int × Bool)))->Option qc1:=qa9 fun K p=>qkc lf x1 x2 x3 K p
theorem q0s(g:gz16)(lf:Nat)(x1:Int)(x2:(List (List qan)))(x3:(List qan)):∀(n:Nat) (p:(List DAct) × Int × (List ByteArray) × (List DPut) × Int × Int × (List qaa) × Int × Int × (List (Int × Bool))),Az16 g lf 36 [n] (qg0 x1 x2 x3 p)=qf4 lf x1 x2 x3 n p
 | 0,p=>qb5 36 [0] rfl _
 | n+1,p=>by
  have ih:=q0s g lf x1 x2 x3 n;refine(qb3 (qbh 20 _) qzc q5t 36 [n+1] [n] rfl _).trans ((zh9 g (Az16 g lf) lf x1 x2 x3 n p).trans ?_);rw[(show (fun q=>Az16 g lf 36 [n] (qg0 x1 x2 x3 q))=(fun q=>qf4 lf x1 x2 x3 n q) from funext ih)];rfl
def Fz16(lf:Nat)(x1:Int)(x2:(List (List qan)))(x3:(List qan)):Option qc1:=qr2 lf x1 x2 x3 (fun q=>qf4 lf x1 x2 x3 lf q)
theorem q7r(g:gz16)(lf:Nat)(x1:Int)(x2:(List (List qan)))(x3:(List qan)):Ez16 g (Az16 g lf) lf x1 x2 x3=Fz16 lf x1 x2 x3:=by
  refine(ze7 g (Az16 g lf) lf x1 x2 x3).trans ?_;rw[(show (fun q=>Az16 g lf 36 [lf] (qg0 x1 x2 x3 q))=(fun q=>qf4 lf x1 x2 x3 lf q) from funext fun q=>q0s g lf x1 x2 x3 lf q)];rfl
theorem q68:qbg Try.prog q3c:=trivial
theorem zgg{g:gz16}(hsm:SmOK Try.prog qym)(hg:∀(x:ElA [(.int .u8),(.list (.list cCosignerlaw23Change)),(.list cCosignerlaw23Change)]) (y:qc1),WfA [(.int .u8),(.list (.list cCosignerlaw23Change)),(.list cCosignerlaw23Change)] x->g x=some y->∃lf,Fz16 lf x.1 x.2.1 x.2.2.1=some y):Con Try.prog 4 ⟨[(.int .u8),(.list (.list cCosignerlaw23Change)),(.list cCosignerlaw23Change)],[(false,.bool)],g⟩ :=
 conV (st:=qkd) (fun lf x=>Fz16 lf x.1 x.2.1 x.2.2.1) cm3 cal4 q68 qzc q5t (fun lf x=>q7r g lf x.1 x.2.1 x.2.2.1) hsm hg
def zdy:Sm:=⟨[.int .u8,.list (.list cChg),.list cChg],[(false,.bool)],fun _=>some (true,())⟩
theorem q7f{s:Int}{l:List (List DChg)}(hb:S.brief l=true):S.playedO s l=some (S.played s l,true,()):=by
 unfold S.playedO;rw[hb,jab]
theorem zjj(j:qac)(l:List qaa):S.planO j l=some ((S.plan j l).1,(S.plan j l).2,()):=by unfold S.planO;rw[qd3,jab]
theorem zhf(j:qac)(l:List qaa):S.saveO j l=some ((S.save j l).1,(S.save j l).2,()):=by unfold S.saveO;rw[qd3,jab]
theorem ze1(j:qac):S.turnO j=some ((S.turnJ j).1,(S.turnJ j).2,()):=by unfold S.turnO;rw[qd3,jab]
theorem q9p(j:qac)(l:List qaa):S.commitO j l=some ((S.commitJ j l).1,(S.commitJ j l).2,()):=by unfold S.commitO;rw[qd3,jab]
theorem roomR{L:List ByteArray}{h:Int}{a u:Nat}{c:List qaa}(j:Jn L h a u c):S.roomO ((L,[]),h,(u:Int),c)=some (((L.length / 2-1-u:Nat):Int),0,()):=by
 unfold S.roomO S.room;rw[qd3,jab,jam j.right,qon j]
def look(k:Int)(m:List (Int × Bool)):Bool:=match @qde (TC.int IntKind.i64) TC.bool k m with
 | none=>false
 | some v=>v
def fB(k:Int):List (Int × Bool)->Bool
 | []=>false
 | e::m=>cond (decide (k=e.1)) e.2 (fB k m)
def sB(k:Int):List (Int × Bool)->List (Int × Bool)
 | []=>[(k,true)]
 | e::m=>cond (decide (k=e.1)) ((k,true)::m) (e::sB k m)
theorem qri(k:Int):∀m:List (Int × Bool),look k m=fB k m
 | []=>rfl
 | e::m=>by
  have ih:=qri k m;show (match cond (decide (k=e.1)) (some e.2) (@qde (TC.int IntKind.i64) TC.bool k m) with|none=>false|some v=>v)=cond (decide (k=e.1)) e.2 (fB k m);cases decide (k=e.1) with
  | true=>rfl
  | false=>exact ih
theorem qxx(k:Int):∀m:List (Int × Bool),(@mset (TC.int IntKind.i64) TC.bool k true m:List (Int × Bool))=sB k m
 | []=>rfl
 | e::m=>jaw (fun z:List (Int × Bool)=>cond (decide (k=e.1)) ((k,true)::m) (e::z)) (qxx k m)
theorem q14{at_ k:Int}(h:k≠at_):∀m:List (Int × Bool),fB k (sB at_ m)=fB k m
 | []=>by
  show cond (decide (k=at_)) true false=false;rw[jar h];rfl
 | e::m=>by
  have ih:=q14 h m;by_cases he:at_=e.1
  ·show fB k (cond (decide (at_=e.1)) ((at_,true)::m) (e::sB at_ m))=cond (decide (k=e.1)) e.2 (fB k m);rw[jao he,jab];show cond (decide (k=at_)) true (fB k m)=_;rw[jar h,jar (by rw[<- he];exact h)];rfl
  ·show fB k (cond (decide (at_=e.1)) ((at_,true)::m) (e::sB at_ m))=cond (decide (k=e.1)) e.2 (fB k m);rw[jar he,jah];show cond (decide (k=e.1)) e.2 (fB k (sB at_ m))=_;rw[ih]
theorem zky{at_ k:Int}(h:k≠at_)(m:List (Int × Bool)):look k (@mset (TC.int IntKind.i64) TC.bool at_ true m)=look k m :=
 (jaw (look k) (qxx at_ m)).trans ((qri k _).trans ((q14 h m).trans (qri k m).symm))
theorem q4h:∀(ss:List ByteArray) (a i:Nat),i<ss.length->(S.puts (a:Int) ss)[i]?=some (S.put ((a+i:Nat):Int) (ss.getD i S.none_))
 | [],a,i,h=>by cases h
 | s::ss,a,0,h=>rfl
 | s::ss,a,i+1,h=>by
  rw[qnm,jau,q4h ss (a+1) i (by rw[jat] at h;omega),show a+1+i=a+(i+1) by omega];rfl
theorem zb1{M:List ByteArray}{b:Nat}{s:ByteArray}{i:Nat}{v:DAct}(h:(S.puts (b:Int) M++[S.sync,S.put (b:Int) s,S.sync])[i]?=some v) :
  v.1=true\/v.1=false/\(i<M.length/\v.2.1=((b+i:Nat):Int)\/i=M.length+1/\v.2.1=(b:Int)):=by
 have hl:=qf0 b M;by_cases h1:i<M.length
 ·rw[jas (by omega),q4h M b i h1] at h;cases h;exact .inr ⟨rfl,.inl ⟨h1,rfl⟩⟩
 ·rw[jax (by omega),hl] at h;obtain⟨k,hk⟩:∃k,i=M.length+k:=⟨i-M.length,by omega⟩;rw[show i-M.length=k by omega] at h;match k,h with
  | 0,h=>cases h;exact .inl rfl
  | 1,h=>cases h;exact .inr ⟨rfl,.inr ⟨hk,rfl⟩⟩
  | 2,h=>cases h;exact .inl rfl
  | k+3,h=>cases h
theorem zag{L:List ByteArray}{h:Int}{a u:Nat}{c l:List qaa}(j:Jn L h a u c)(hr:u+(S.packed l 1).length<=L.length / 2-1)(s:Int)(q:List (List DChg))(cs:List DChg){A:List DAct}(hA:A=S.laid l ((a+u:Nat):Int) ((a+(L.length / 2-1):Nat):Int) true) :
  qf4 LF s q cs LF (A,((L.length / 2-1-u:Nat):Int),L,[],h,(u:Int),c,(a:Int),Int.ofNat 0,[])=some (true,()):=by
 obtain⟨t,ht0,ht,h2,h3,h4⟩:=zjl j hr;have hle:=j.dk.le;have hto:=j.to_;have hp:=qel l 1;have e1:(S.packed l 0).length=(S.packed l 1).length:=by rw[qbx,qbx]
 have hfit:u+(S.packed l 0++t).length<=L.length / 2-1:=by
  rw[jag,ht,e1];by_cases e:u+(S.packed l 1).length<L.length / 2-1
  ·rw[jao e];show u+(_+1)<=_;omega
  ·rw[jar e];show u+(_+0)<=_;omega
 rw[<- hA] at h3 h4;have w1:IntKind.i64.wrap (Int.add (a:Int) (u:Int))=((a+u:Nat):Int):=qbl (n:=a+u) (by omega);have w2:IntKind.i64.wrap (Int.add ((a+u:Nat):Int) ((L.length / 2-1-u:Nat):Int))=((a+(L.length / 2-1):Nat):Int):=by
  rw[show Int.add ((a+u:Nat):Int) ((L.length / 2-1-u:Nat):Int)=((a+(L.length / 2-1):Nat):Int) by show ((a+u:Nat):Int)+_=_;omega];exact qbl (n:=a+(L.length / 2-1)) (by omega)
 refine range0 (T:=fun K p=>qkc LF s q cs K p) (σ:=List (Int × Bool)) A (fun i m=>(A,((L.length / 2-1-u:Nat):Int),L,[],h,(u:Int),c,(a:Int),i,m)) (fun i m=>∀k:Int,(((a+u+i:Nat):Int)<=k\/i=(S.packed l 0++t).length+1)->look k m=false) (fun rest i m=>some (true,())) (by rw[h4];unfold LF;omega) (fun K m hI=>?_) (fun K i v rest m hI r hk=>?_) [] (fun k _=>rfl)
 ·simp only[qkc,qdn,jah]
 ·simp only[qkc,r.ilt,r.get,r.next,jab];have hg:A[Int.toNat (Int.ofNat i)]?=some v:=r.get?;rw[hg];simp only;have hv:=r.get?;rw[h3] at hv;rcases zb1 hv with e|⟨e,hp2⟩
  ·rw[e,jab];exact hk [] (fun k _=>rfl)
  ·have hat:((a+u:Nat):Int)<=v.2.1/\v.2.1<((a+(L.length / 2-1):Nat):Int):=by
    rcases hp2 with ⟨p1,p2⟩|⟨p1,p2⟩<;>omega
   have hlk:look v.2.1 m=false:=hI v.2.1 (by rcases hp2 with ⟨p1,p2⟩|⟨p1,p2⟩<;>omega);have hlk':(match @qde (TC.int IntKind.i64) TC.bool v.2.1 m with|none=>false|some v=>v)=false:=hlk;rw[e,jah,w1,w2];show cond (match @qde (TC.int IntKind.i64) TC.bool v.2.1 m with|none=>false|some v=>v) _ _=_;rw[hlk',jah,show iltI v.2.1 ((a+u:Nat):Int)=false by rw[qa5];exact jar (by omega),jah,show iltI v.2.1 ((a+(L.length / 2-1):Nat):Int)=true by rw[qa5];exact jao (by omega),jbb,jah];refine hk _ fun k hk2=>?_;rw[zky]
   ·refine hI k ?_;rcases hp2 with ⟨p1,p2⟩|⟨p1,p2⟩<;>omega
   ·rcases hp2 with ⟨p1,p2⟩|⟨p1,p2⟩<;>omega
theorem zcq{L:List ByteArray}{h:Int}{a u:Nat}{c l:List qaa}(j:Jn L h a u c)(ok:S.okC l=true)(n0:l.length≠0)(h60:l.length<=60)(hr:u+(S.packed l 1).length<=L.length / 2-1)(s:Int)(q:List (List DChg))(cs:List DChg) :
  (match S.commitO ((L,[]),h,(u:Int),c) l with
   | none=>none
   | some v6=>match S.roomO ((v6.1.1.1,v6.1.1.2),(v6.1.2.1,(v6.1.2.2.1,v6.1.2.2.2))) with
    | none=>none
    | some v7=>cond (!ieqI v6.2.1 (Int.ofNat 0)) (some (false,())) (cond (!ieqI v7.2.1 (Int.ofNat 0)) (some (false,())) (cond (!ieqI v7.1 (IntKind.i64.wrap (Int.sub ((L.length / 2-1-u:Nat):Int) ((S.packed l 1).length:Int)))) (some (false,()))
     (cond (ieqI h (Int.ofNat 1)) (qf4 LF s q cs LF (S.laid l ((a+u:Nat):Int) ((a+(L.length / 2-1):Nat):Int) true,((L.length / 2-1-u:Nat):Int),L,[],h,(u:Int),c,IntKind.i64.wrap (Int.ofNat (Nat.div L.length 2)),Int.ofNat 0,[]))
      (qf4 LF s q cs LF (S.laid l ((a+u:Nat):Int) ((a+(L.length / 2-1):Nat):Int) true,((L.length / 2-1-u:Nat):Int),L,[],h,(u:Int),c,Int.ofNat 1,Int.ofNat 0,[]))))))=(some (true,()):Option (Bool × Unit)):=by
 have hle:=j.dk.le;have hp:=qxe j ok n0 h60;rw[jam hr] at hp;obtain⟨_,_,x,hl⟩:=qg1 j ok hr;have hc:S.commitJ ((L,[]),h,(u:Int),c) l=(((comL L a u l,[]),h,((u+(S.packed l 1).length:Nat):Int),S.changed c l),0):=by
  unfold S.commitJ;rw[hp,jam rfl];exact qsw j ok hr
 have hloop:=zag j hr s q cs rfl;obtain⟨a',f1,_,_,f4,f5⟩:=qgj j.dk.ev j.dk.ge j.hh;have ha:a=a':=jdw (jaw Prod.fst (j.fr.symm.trans f1));rw[q9p,hc];dsimp only;rw[roomR x,hl];dsimp only;have hw:IntKind.i64.wrap (Int.sub ((L.length / 2-1-u:Nat):Int) ((S.packed l 1).length:Int))=((L.length / 2-1-(u+(S.packed l 1).length):Nat):Int):=by
  rw[show Int.sub ((L.length / 2-1-u:Nat):Int) ((S.packed l 1).length:Int)=((L.length / 2-1-(u+(S.packed l 1).length):Nat):Int) by show ((L.length / 2-1-u:Nat):Int)-_=_;omega];exact qbl (by omega)
 rw[hw,show ieqI ((L.length / 2-1-(u+(S.packed l 1).length):Nat):Int) ((L.length / 2-1-(u+(S.packed l 1).length):Nat):Int)=true from qbm rfl];show cond (ieqI h (Int.ofNat 1)) _ _=_;rcases j.hh with h0|h0
 ·have:a=1:=by have:=f4 h0;omega
  rw[h0,show ieqI (0:Int) (Int.ofNat 1)=false from rfl,jah];rw[this,h0] at hloop;rw[this];exact hloop
 ·have:a=L.length / 2:=by have:=f5 h0;omega
  have hd:IntKind.i64.wrap (Int.ofNat (Nat.div L.length 2))=(a:Int):=by
   rw[this];exact qbl (n:=L.length / 2) (by omega)
  rw[hd,h0,show ieqI (1:Int) (Int.ofNat 1)=true from rfl,jab];rw[h0] at hloop;exact hloop
theorem zhh(s:Int)(l:List (List DChg))(cs:List DChg)(hs:0<=s/\s<=255)(hl:∀x∈l,chgB x)(hc:chgB cs):Fz16 LF s l cs=some (true,()):=by
 have i0:ieqI (0:Int) (Int.ofNat 0)=true:=rfl;unfold Fz16 qr2;cases hbr:S.brief l with
 | false=>rfl
 | true =>
  rw[jbb,jah];cases h1:iltI (Int.ofNat 10) (Int.ofNat cs.length) with
  | true=>rfl
  | false =>
   obtain⟨L,h,a,u,c,hj,j⟩:=za1 hs fun x hx=>qq2 (hl x hx);obtain⟨ok,hle⟩:=qxc (qq2 hc);rw[jah,q7f hbr,hj];dsimp only;rw[jbb,jah];generalize S.cells cs=cl at ok hle;cases g1:ieqI (Int.ofNat cl.length) (Int.ofNat 0) with
   | true=>rfl
   | false =>
    have n1:cl.length≠0:=fun e=>by rw[e] at g1;cases g1
    have hT:=fun hr=>zcq j ok n1 (by omega) hr s l cs;have hu:=j.le.1;rw[jah,roomR j];dsimp only;rw[zjj,zhf,ze1,qpz ok n1 (by omega)];dsimp only;rw[i0,jbb,jah,jah,qxe j ok n1 (by omega)];by_cases hr:u+(S.packed cl 1).length<=L.length / 2-1
    ·have hlt:iltI ((L.length / 2-1-u:Nat):Int) ((S.packed cl 1).length:Int)=false:=by rw[qa5];exact jar (by omega)
     have hT:=hT hr;rw[jam hr,hlt];dsimp only;rcases qp0 j ok n1 (by omega) with ⟨L',h',a',u',e,_⟩|⟨_,e,_⟩
     ·rw[e];by_cases ht:(S.packed c 1).length<=L.length / 2-1
      ·obtain⟨b,t1,_,x,_⟩:=qpa j ht;rw[t1];dsimp only;rw[roomR x];exact hT
      ·rw[(qs6 j ht).2];exact hT
     ·exact absurd hr e
    ·have hlt:iltI ((L.length / 2-1-u:Nat):Int) ((S.packed cl 1).length:Int)=true:=by rw[qa5];exact jao (by omega)
     rw[jan hr,hlt];dsimp only;rcases qp0 j ok n1 (by omega) with ⟨L',h',a',u',e,_,_,e2⟩|⟨e,_,e2⟩
     ·have e2:(S.packed c 1).length+(S.packed cl 1).length<=L.length / 2-1:=by rcases e2 with e2|e2<;>omega
      obtain⟨b,t1,_,x,hl2,_⟩:=qpa j (by omega);rw[e,t1];dsimp only;rw[roomR x,hl2];dsimp only;rw[show iltI ((L.length / 2-1-(S.packed c 1).length:Nat):Int) ((S.packed cl 1).length:Int)=false by rw[qa5];exact jar (by omega)];rfl
     ·rw[e];by_cases ht:(S.packed c 1).length<=L.length / 2-1
      ·obtain⟨b,t1,_,x,hl2,_⟩:=qpa j ht;rw[t1];dsimp only;rw[roomR x,hl2];dsimp only;rw[show iltI ((L.length / 2-1-(S.packed c 1).length:Nat):Int) ((S.packed cl 1).length:Int)=true by rw[qa5];exact jao (by omega)];rfl
      ·rw[(qs6 j ht).2];rfl
theorem cont_l_KeepRooms:Con Try.prog zar zdy:=by
 have hR:=ze6;have hO:=q0v;exact zgg ⟨q8s hR hO,zga,zi2 hR hO,q5i,qsp,zm4 hO,zee hO,qyv hR hO,zj7 hR hO,q87,trivial⟩ fun x y hx h=>⟨LF,(zhh x.1 x.2.1 x.2.2.1 (qip (k:=.u8) hx.1) (fun z hz=>qpp (hx.2.1.2 z hz)) (qpp hx.2.2.1)).trans h⟩
end Go.Proofs.Ytnhmanoiolfapaa
end

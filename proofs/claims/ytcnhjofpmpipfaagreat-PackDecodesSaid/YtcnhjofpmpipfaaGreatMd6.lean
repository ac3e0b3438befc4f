/- Texts: Pd6, Rd0, Rd1, Rd2, Lsp, Lg1, Lp1, Rg8, Rc1, Rc2, Rd3, Rd4, Rd5, Re6, Rd6, Rd7, Rd8, Lsan, Lsn, Ln1. -/
import Derived.Test.YtcnhjofpmpipfaaGreatMd5
import Derived.Test.YtcnhjofpmpipfaaGreatMd4
import Derived.KernelRfl
set_option linter.unusedVariables false
noncomputable section
set_option maxRecDepth 100000
namespace Go.Proofs.YtcnhjofpmpipfaaGreat
open Go Go.Sx Go.RowKit Go.Jx
theorem q89{m k:Int}{l r:List Int}{v:DVal}(hm0:0<=m)(hm:m<=400)(h:S.rdV m k l=some (v,r)):S.value v m=true/\(v.1=4->0<=v.2/\v.2<m)/\(¬k=1->¬k=2->S.refers v=true):=by
 have hw:IntKind.i64.wrap (Int.sub m (Int.ofNat 1))=m-1:=w64 (n:=m-1) (by omega) (by omega);unfold S.rdV at h;split at h
 ·rename_i hk;split at h<;>cases h;rename_i n hr;obtain⟨_,h1,h2⟩:=qcp hr;refine⟨?_,fun h=>absurd (show (1:Int)=4 from h) (by decide),fun h=>absurd hk h⟩;show S.within n (-1099511627776) 1099511627776=true;unfold S.within;rw[jaf h1,jaf h2];rfl
 ·split at h
  ·rename_i hk;split at h<;>cases h;rename_i n hr;obtain⟨_,h1,h2⟩:=qcp hr;refine⟨?_,fun h=>absurd (show (2:Int)=4 from h) (by decide),fun _ h=>absurd hk h⟩;show S.within n 0 1=true;unfold S.within;rw[jaf h1,jaf h2];rfl
  ·split at h<;>cases h;rename_i n hr;obtain⟨_,h1,h2⟩:=qcp hr;by_cases hn:0<n
   ·rw[jal hn];refine⟨?_,fun _=>⟨by show 0<=n-1;omega,by show n-1<m;omega⟩,fun _ _=>rfl⟩;show S.within (n-1) 0 (IntKind.i64.wrap (Int.sub m (Int.ofNat 1)))=true;rw[hw];unfold S.within;rw[jaf (by omega),jaf (by omega)];rfl
   ·rw[jak hn];exact⟨rfl,fun h=>absurd (show (3:Int)=4 from h) (by decide),fun _ _=>rfl⟩
theorem q2a{N:Nat}{m:Int}(hm0:0<=m)(hm:m<=400):∀(cs:List DCol) (l r:List Int) (vs:List DVal),S.decVs N m cs l=.inr (vs,r)->vs.length=cs.length/\∀v∈vs,S.value v m=true/\(v.1=4->0<=v.2/\v.2<m)
 | [],l,r,vs,h=>by cases h;exact⟨rfl,fun v hv=>by cases hv⟩
 | c::cs,l,r,vs,h=>by
  unfold S.decVs at h;split at h
  ·cases h
  rename_i v r1 h1;split at h
  ·cases h
  rename_i vs2 r2 h2;cases h;obtain⟨k1,k2⟩:=q2a hm0 hm cs _ _ _ h2;obtain⟨g1,g2,_⟩:=q89 hm0 hm h1;refine⟨by simp[k1],fun w hw=>?_⟩;rcases ja4.1 hw with rfl|hw
  ·exact⟨g1,g2⟩
  ·exact k2 w hw
theorem q3y{N:Nat}{F:List qab}{m:Int}(hm0:0<=m)(hm:m<=400):∀(k:Nat) (l r:List Int) (ns:List qaa),S.decNs N F m k l=.inr (ns,r)->ns.length=k/\∀n∈ns,∃f∈F,n.1=f.1/\n.2.length=f.2.length/\∀v∈n.2,S.value v m=true/\(v.1=4->0<=v.2/\v.2<m)
 | 0,l,r,ns,h=>by cases h;exact⟨rfl,fun n hn=>by cases hn⟩
 | k+1,l,r,ns,h=>by
  unfold S.decNs at h;split at h
  ·cases h
  rename_i i r1 h1;split at h
  ·cases h
  rename_i f hf;split at h
  ·cases h
  rename_i vs r2 h2;split at h
  ·cases h
  rename_i ns2 r3 h3;cases h;obtain⟨k1,k2⟩:=q3y hm0 hm k _ _ _ h3;obtain⟨g1,g2⟩:=q2a hm0 hm f.2 _ _ _ h2;refine⟨by simp[k1],fun n hn=>?_⟩;rcases ja4.1 hn with rfl|hn
  ·exact⟨f,ja8 hf,rfl,g1,g2⟩
  ·exact k2 n hn
theorem q3h{N:Nat}{m:Int}(hm0:0<=m)(hm:m<=400):∀(k:Nat) (l r:List Int) (vs:List DVal),S.decRs N m k l=.inr (vs,r)->vs.length=k/\∀v∈vs,S.value v m=true/\S.refers v=true
 | 0,l,r,vs,h=>by cases h;exact⟨rfl,fun n hn=>by cases hn⟩
 | k+1,l,r,vs,h=>by
  unfold S.decRs at h;split at h
  ·cases h
  rename_i v r1 h1;split at h
  ·cases h
  rename_i vs2 r3 h3;cases h;obtain⟨k1,k2⟩:=q3h hm0 hm k _ _ _ h3;obtain⟨g1,_,g4⟩:=q89 hm0 hm h1;refine⟨by simp[k1],fun n hn=>?_⟩;rcases ja4.1 hn with rfl|hn
  ·exact⟨g1,g4 (by decide) (by decide)⟩
  ·exact k2 n hn
theorem q6r{F:List qab}{b:List Int}{g:List qaa × List DVal}(hF:S.checkForms F=0)(h:S.dec F b=.inr g):S.formed g=0/\S.typedPre F g=true:=by
 have hfo:=zjn hF;unfold S.dec at h;split at h
 ·cases h
 rename_i m l0 h0;obtain⟨_,m0,m1⟩:=qcp h0;split at h
 ·cases h
 rename_i ns l1 h1;split at h
 ·cases h
 rename_i k l2 h2;obtain⟨_,k0,k1⟩:=qcp h2;split at h
 ·cases h
 rename_i rs l3 h3;split at h<;>cases h;obtain⟨n1,n2⟩:=q3y m0 m1 _ _ _ _ h1;obtain⟨r1,r2⟩:=q3h m0 m1 _ _ _ _ h3;have hm:Int.ofNat ns.length=m:=by rw[n1];show ((m.toNat:Nat):Int)=m;omega
 constructor
 ·refine zqv (g:=(ns,rs)) (by show ns.length<=400;omega) (by show rs.length<=60;omega) (fun n hn=>?_) (fun n hn v hv=>?_) fun v hv=>?_
  ·obtain⟨f,hf,e1,e2,e3⟩:=n2 n hn;rw[e2];exact(hfo.cols f hf).len
  ·obtain⟨f,hf,e1,e2,e3⟩:=n2 n hn;show S.value v (Int.ofNat ns.length)=true;rw[hm];exact(e3 v hv).1
  ·show S.value v (Int.ofNat ns.length)=true/\_;rw[hm];exact r2 v hv
 ·unfold S.typedPre;rw[ja0];intro n hn;obtain⟨f,hf,e1,e2,e3⟩:=n2 n hn;rw[jah];refine⟨jaf (zps hf (by show keqS f.1 n.1=true;rw[e1];exact jaf rfl)),ja0.2 fun v hv=>jaf fun h4=>?_⟩;have:=(e3 v hv).2 h4;refine⟨this.1,?_⟩;show v.2<((ns.length:Nat):Int);have hm':((ns.length:Nat):Int)=m:=hm;omega
namespace S
def Dec(F:List qab)(b:List Int):(List qaa × List DVal) × Int × Int :=
 if ¬checkForms F=0 then (([],[]),0,checkForms F)
 else if 60000<b.length then (([],[]),0,3)
 else if b.length<4 then (([],[]),0,15)
 else if ¬b.drop (b.length-4)=sum4 (b.take (b.length-4)) then (([],[]),0,15)
 else match dec F (b.take (b.length-4)) with
  | .inl e=>(([],[]),e,2)
  | .inr g=>if typed F g g.1=false then (([],[]),0,8) else if eqGraph (canonG g) g=false then (([],[]),0,2) else (g,0,0)
end S
def q7m:Sm:=⟨[.list cForm,.list (.int .u8)],[(false,qai),(false,.int .i64),(false,.int .i64)],fun x=>some ((S.Dec x.1 x.2.1).1,(S.Dec x.1 x.2.1).2.1,(S.Dec x.1 x.2.1).2.2,())⟩
theorem zx2(lf:Nat)(F:List qab)(b:List Int)(hl:b.length<=140737488355328):qt9 lf F b=some ((S.Dec F b).1,(S.Dec F b).2.1,(S.Dec F b).2.2,()):=by
 have ha:IntKind.i64.wrap (Int.sub (Int.ofNat b.length) (Int.ofNat 4))=(b.length:Int)-4:=w64 (n:=(b.length:Int)-4) (by omega) (by omega);unfold qt9 q4w S.Dec;simp only[ha,qat,qal];by_cases h0:S.checkForms F=0
 ·rw[jak (fun h=>h h0),jaf (show S.checkForms F=Int.ofNat 0 from h0),ja1,jad];by_cases h1:60000<b.length
  ·rw[jal h1,jaf (by show (60000:Int)<(b.length:Int);omega),jaa];rfl
  ·rw[jak h1,jae (by show ¬(60000:Int)<(b.length:Int);omega),jad];by_cases h2:b.length<4
   ·rw[jal h2,jaf (by show (b.length:Int)-4<0;omega),jaa];rfl
   ·rw[jak h2,jae (by show ¬(b.length:Int)-4<0;omega),jad];have hz:(b.length:Int)-4=Int.ofNat (b.length-4):=by show _=((b.length-4:Nat):Int);omega
    have c1:lchk ((b.length:Int)-4) (Int.ofNat b.length) (Int.ofNat b.length) (Int.ofNat b.length)=true:=qgg.2 ⟨by omega,by show _<=(b.length:Int);omega,jcx _,jcx _⟩;have c2:lchk (Int.ofNat 0) ((b.length:Int)-4) (Int.ofNat b.length) (Int.ofNat b.length)=true:=qgg.2 ⟨jcx _,by show (0:Int)<=_;omega,by show _<=(b.length:Int);omega,jcx _⟩;have s1:lsub b ((b.length:Int)-4) (Int.ofNat b.length)=b.drop (b.length-4):=by
     rw[hz];show (b.take b.length).drop (b.length-4)=_;rw[jfi]
    have s2:lsub b (Int.ofNat 0) ((b.length:Int)-4)=b.take (b.length-4):=by
     rw[hz];show (b.take (b.length-4)).drop 0=_;rw[jck]
    simp only[c1,c2,s1,s2,jaa];by_cases h3:b.drop (b.length-4)=S.sum4 (b.take (b.length-4))
    ·rw[jak (fun h=>h h3),qra.2 h3,ja1,jad];cases hd:S.dec F (b.take (b.length-4)) with
     | inl e=>rfl
     | inr g =>
      obtain⟨hf,ht⟩:=q6r (g:=g) h0 hd;have hc:=(zsb (zch hf)).1;have hc:S.canonO ((g:List qaa × List DVal).1,(g:List qaa × List DVal).2)=some (S.canonG g,S.numsG g,()):=hc;have ht:S.typedPre F ((g:List qaa × List DVal).1,(g:List qaa × List DVal).2)=true:=ht;simp only[ja1,jad,ht,jaa,hc];cases hty:S.typed F g (g:List qaa × List DVal).1 with
      | false=>rfl
      | true =>
       simp only[ja1,jad];rw[jak (by simp)];cases heq:S.eqGraph (S.canonG g) g with
       | false=>rfl
       | true=>rfl
    ·have:S.eqB (b.drop (b.length-4)) (S.sum4 (b.take (b.length-4)))=false:=by
      cases he:S.eqB (b.drop (b.length-4)) (S.sum4 (b.take (b.length-4))) with
      | false=>rfl
      | true=>exact absurd (qra.1 he) h3
     rw[jal h3,this];rfl
 ·rw[jal h0,jae (show ¬S.checkForms F=Int.ofNat 0 from h0)];rfl
theorem z1f:Con Tryz.prog zii q7m:=zr3 ⟨zpa,zhu,zgy,znc,zss,zql,zqb,trivial⟩ fun x y hx h=>⟨0,by
 obtain⟨(F:List qab),(b:List Int),_⟩:=x;have hl:b.length<=140737488355328:=by have:=hx.2.1.1;rwa [show Jx.bsz (.int .u8)=1 from rfl,jd1] at this
 exact(zx2 0 F b hl).trans h⟩
abbrev z0z:Type:=Int × Int × Bool
abbrev zpm:Type:=(List qaa × List DVal) × Int × Int
def qk4:Nat->Option Nm:=fun k=>cond (Nat.beq k 4) (some ⟨[0,1,4,5,6,7],[],[],[],[],0,0,false⟩) (none)
def qpp:Nat->Bool:=fun k=>cond (Nat.beq k 4) true (false)
def q5s:=qpp
abbrev qdo:Type:=z0z × Unit
def q2j:List (Nat × Sm):=[]
def q4x:List (Nat × Hx):=[]
def qz5(R:Type)(lf:Nat):ClK R:=qay Tryz.prog ttT.get ftT.get (nm1 67 qk4) (smL q2j) (hxL q4x) lf 20 R
abbrev zsx:Nat:=67
def qja(x1:(List Int))(x2:Int)(p:Int × Int × Int):NRes:=(NRes.mk (.node (some (IV.lst (TC.int .u8) x1)) (.node (some (IV.int .i64 x2)) (.node none (.node (some (IV.int .i64 p.1)) .leaf .leaf) .leaf) (.node (some (IV.int .i64 p.2.1)) .leaf .leaf)) (.node none (.node (some (IV.ptr 0 0)) .leaf .leaf) (.node (some (IV.int .i64 p.2.2)) .leaf .leaf))) (IS.mk (.node (some (IObj.row (List.cons (IV.int .i64 (Int.ofNat 0)) (List.cons (IV.int .i64 (Int.ofNat 0)) [(IV.bool false)])))) .leaf .leaf) 1) [] 0)
def q0g(lf:Nat)(x1:(List Int))(x2:Int)(L4:(Int × Int × Int)->Option qdo):Option qdo:=(L4 ((Int.ofNat 0),(Int.ofNat 0),(Int.ofNat 1)))
def qet(lf:Nat)(x1:(List Int))(x2:Int)(L4:(Int × Int × Int)->Option qdo)(p:Int × Int × Int):Option qdo:=(cond (iltI p.1 (Int.ofNat 8)) (cond (Bool.not (iltI (IntKind.i64.wrap (Int.add x2 p.1)) (Int.ofNat x1.length))) (some (((Int.ofNat 0),((Int.ofNat 0),false)),())) (match (jget x1 (IntKind.i64.wrap (Int.add x2 p.1))) with|none=>none|some v0=>(cond (iltI (IntKind.i64.wrap v0) (Int.ofNat 128)) (cond (ieqI (Int.tmod (IntKind.i64.wrap (Int.add p.2.1 (IntKind.i64.wrap (Int.mul p.2.2 (Int.tmod (IntKind.i64.wrap v0) (Int.ofNat 128)))))) (Int.ofNat 2)) (Int.ofNat 1)) (cond (ieqI p.1 (Int.ofNat 0)) (some (((IntKind.i64.wrap (Int.tdiv (IntKind.i64.wrap (Int.sub (Int.ofNat 0) (IntKind.i64.wrap (Int.add (IntKind.i64.wrap (Int.add p.2.1 (IntKind.i64.wrap (Int.mul p.2.2 (Int.tmod (IntKind.i64.wrap v0) (Int.ofNat 128)))))) (Int.ofNat 1))))) (Int.ofNat 2))),((IntKind.i64.wrap (Int.add (IntKind.i64.wrap (Int.add x2 p.1)) (Int.ofNat 1))),true)),())) (some (((IntKind.i64.wrap (Int.tdiv (IntKind.i64.wrap (Int.sub (Int.ofNat 0) (IntKind.i64.wrap (Int.add (IntKind.i64.wrap (Int.add p.2.1 (IntKind.i64.wrap (Int.mul p.2.2 (Int.tmod (IntKind.i64.wrap v0) (Int.ofNat 128)))))) (Int.ofNat 1))))) (Int.ofNat 2))),((IntKind.i64.wrap (Int.add (IntKind.i64.wrap (Int.add x2 p.1)) (Int.ofNat 1))),(iltI (Int.ofNat 0) (IntKind.i64.wrap v0)))),()))) (cond (ieqI p.1 (Int.ofNat 0)) (some (((IntKind.i64.wrap (Int.tdiv (IntKind.i64.wrap (Int.add p.2.1 (IntKind.i64.wrap (Int.mul p.2.2 (Int.tmod (IntKind.i64.wrap v0) (Int.ofNat 128)))))) (Int.ofNat 2))),((IntKind.i64.wrap (Int.add (IntKind.i64.wrap (Int.add x2 p.1)) (Int.ofNat 1))),true)),())) (some (((IntKind.i64.wrap (Int.tdiv (IntKind.i64.wrap (Int.add p.2.1 (IntKind.i64.wrap (Int.mul p.2.2 (Int.tmod (IntKind.i64.wrap v0) (Int.ofNat 128)))))) (Int.ofNat 2))),((IntKind.i64.wrap (Int.add (IntKind.i64.wrap (Int.add x2 p.1)) (Int.ofNat 1))),(iltI (Int.ofNat 0) (IntKind.i64.wrap v0)))),())))) (L4 ((IntKind.i64.wrap (Int.add p.1 (Int.ofNat 1))),(IntKind.i64.wrap (Int.add p.2.1 (IntKind.i64.wrap (Int.mul p.2.2 (Int.tmod (IntKind.i64.wrap v0) (Int.ofNat 128)))))),(IntKind.i64.wrap (Int.mul p.2.2 (Int.ofNat 128)))))))) (some (((Int.ofNat 0),((Int.ofNat 0),false)),())))
abbrev gz26:Type:=ElA [(.list (.int .u8)),(.int .i64)]->Option qdo
abbrev sz26(g:gz26):Sm:=⟨[(.list (.int .u8)),(.int .i64)],[(false,q1b)],g⟩
abbrev Ez26(g:gz26)(J:JT qdo)(lf:Nat)(x1:(List Int))(x2:Int):=qbc Tryz.prog ttT.get qk4 fi67.nt (qz5 _ lf) lf qpp J fi67.body [] (qau (argV [(.list (.int .u8)),(.int .i64)] (x1,x2,())) 0 .leaf) S0 [] (qar ttT.get fi67 (sz26 g))
abbrev Bz26(g:gz26)(J:JT qdo)(lf k:Nat)(ms:List Nat)(q:NRes):=qbi Tryz.prog ttT.get qk4 fi67.nt (qz5 _ lf) lf qpp J k fi67.body [] ms q (qar ttT.get fi67 (sz26 g))
theorem zhd(g:gz26)(J:JT qdo)(lf:Nat)(x1:(List Int))(x2:Int):Ez26 g J lf x1 x2=q0g lf x1 x2 (fun q=>J 4 [lf] (qja x1 x2 q)):=by kernel_rfl
theorem zl5(g:gz26)(J:JT qdo)(lf:Nat)(x1:(List Int))(x2:Int)(m1:Nat)(p:Int × Int × Int):Bz26 g J lf 4 [m1] (qja x1 x2 p)=qet lf x1 x2 (fun q=>J 4 [m1] (qja x1 x2 q)) p:=by kernel_rfl
theorem q3u:(regs fi67.body).Nodup:=by decide +kernel
theorem zbd:okC qk4 qpp q5s fi67.body none=true:=by kernel_rfl
def Az26(g:gz26)(lf:Nat):JT qdo:=atN Tryz.prog ttT.get qk4 fi67 (sz26 g) (qz5 _ lf) lf q5s
def qmc(lf:Nat)(x1:(List Int))(x2:Int):Nat->(Int × Int × Int)->Option qdo:=rounds fun K p=>qet lf x1 x2 K p
theorem zd4(g:gz26)(lf:Nat)(x1:(List Int))(x2:Int):∀(n:Nat) (p:Int × Int × Int),Az26 g lf 4 [n] (qja x1 x2 p)=qmc lf x1 x2 n p
 | 0,p=>qax 4 [0] rfl _
 | n+1,p=>by
  have ih:=zd4 g lf x1 x2 n;refine(qao (qaj 20 _) q3u zbd 4 [n+1] [n] rfl _).trans ((zl5 g (Az26 g lf) lf x1 x2 n p).trans ?_);rw[(show (fun q=>Az26 g lf 4 [n] (qja x1 x2 q))=(fun q=>qmc lf x1 x2 n q) from funext ih)];rfl
def Fz26(lf:Nat)(x1:(List Int))(x2:Int):Option qdo:=q0g lf x1 x2 (fun q=>qmc lf x1 x2 lf q)
theorem zlw(g:gz26)(lf:Nat)(x1:(List Int))(x2:Int):Ez26 g (Az26 g lf) lf x1 x2=Fz26 lf x1 x2:=by
  refine(zhd g (Az26 g lf) lf x1 x2).trans ?_;rw[(show (fun q=>Az26 g lf 4 [lf] (qja x1 x2 q))=(fun q=>qmc lf x1 x2 lf q) from funext fun q=>zd4 g lf x1 x2 lf q)];rfl
theorem zzx:qa1 Tryz.prog q4x:=trivial
theorem z0m{g:gz26}(hsm:SmOK Tryz.prog q2j)(hg:∀(x:ElA [(.list (.int .u8)),(.int .i64)]) (y:qdo),WfA [(.list (.int .u8)),(.int .i64)] x->g x=some y->∃lf,Fz26 lf x.1 x.2.1=some y):Con Tryz.prog 67 ⟨[(.list (.int .u8)),(.int .i64)],[(false,q1b)],g⟩ :=
 conV (st:=qpp) (fun lf x=>Fz26 lf x.1 x.2.1) cm3 zs0 zzx q3u zbd (fun lf x=>zlw g lf x.1 x.2.1) hsm hg
section
variable {b : List Int} {a : Nat}
theorem q15(hb:∀c∈b,0<=c/\c<=255)(hl:b.length<=140737488355328)(ha:a<=b.length):∀(n k:Nat) (u:Int) (lf:Nat),k+n=8->n<lf->0<=u->u<128 ^ k ->
  match S.rdU (Nat.beq k 0) n (b.drop (a+k)) with
  | some (v,r)=>rounds (fun K p=>qet LF b (Int.ofNat a) K p) lf (Int.ofNat k,u,128 ^ k)=some ((S.unz (u+v*128 ^ k),Int.ofNat (b.length-r.length),true),())
  | none=>∃x y,rounds (fun K p=>qet LF b (Int.ofNat a) K p) lf (Int.ofNat k,u,128 ^ k)=some ((x,y,false),())
 | n,k,u,0,hk,hn,h0,h1=>by omega
 | n,k,u,lf+1,hk,hn,h0,h1=>by
  have ih:=fun n' k' u'=>q15 hb hl ha n' k' u' lf;have hun:rounds (fun K p=>qet LF b (Int.ofNat a) K p) (lf+1) (Int.ofNat k,u,128 ^ k)=qet LF b (Int.ofNat a) (rounds (fun K p=>qet LF b (Int.ofNat a) K p) lf) (Int.ofNat k,u,128 ^ k):=rfl;rw[hun];generalize rounds (fun K p=>qet LF b (Int.ofNat a) K p) lf=Z at ih ⊢;have wp:IntKind.i64.wrap (Int.add (Int.ofNat a) (Int.ofNat k))=Int.ofNat (a+k):=by
   rw[show Int.add (Int.ofNat a) (Int.ofNat k)=((a+k:Nat):Int) from rfl,w64 (by omega) (by omega)];rfl
  simp only[qet,qal,wp];cases n with
  | zero =>
   have:¬(Int.ofNat k<Int.ofNat 8):=by show ¬((k:Int)<8);omega
   rw[jae this];exact⟨_,_,rfl⟩
  | succ n =>
   have h8:Int.ofNat k<Int.ofNat 8:=by show (k:Int)<8;omega
   rw[jaf h8,jaa];by_cases hlt:a+k<b.length
   ·rw[jaf (show Int.ofNat (a+k)<Int.ofNat b.length by show ((a+k:Nat):Int)<(b.length:Int);omega),ja1,jad];have hget:jget b (Int.ofNat (a+k))=some b[a+k]:=by rw[qbz,jab hlt]
    have hd:b.drop (a+k)=b[a+k]::b.drop (a+k+1):=jbd hlt;have hc:=hb b[a+k] (ja3 hlt);rw[hget,hd];generalize b[a+k]=c at hc ⊢;have hp:(0:Int)<128 ^ k:=Int.pow_pos (by omega);have hpk:(128:Int) ^ k<=562949953421312:=by
     have hk7:k<=7:=by omega
     have:(128:Nat) ^ k<=128 ^ 7:=jew (by omega) hk7;have e:((128 ^ k:Nat):Int)=(128:Int) ^ k:=by push_cast;rfl
     rw[<- e];exact Int.ofNat_le.2 (jbf this (by decide))
    have wc:IntKind.i64.wrap c=c:=w64 (by omega) (by omega);have tm:Int.tmod c (Int.ofNat 128)=c % 128:=jcp hc.1;have hm0:0<=(128:Int) ^ k*(c % 128):=Int.mul_nonneg (jeg hp) (by omega);have hm1:(128:Int) ^ k*(c % 128)<=128 ^ k*127:=jeu (by omega) (jeg hp);have wm:IntKind.i64.wrap (Int.mul (128 ^ k) (c % 128))=128 ^ k*(c % 128):=w64 (n:=128 ^ k*(c % 128)) (by omega) (by omega);have wu:IntKind.i64.wrap (Int.add u (128 ^ k*(c % 128)))=u+128 ^ k*(c % 128):=w64 (n:=u+128 ^ k*(c % 128)) (by omega) (by omega);simp only[wc,tm,wm,wu,qat];unfold S.rdU;by_cases h128:c<128
    ·rw[jaf (show c<Int.ofNat 128 from h128),jaa,jal h128];have hcm:c % 128=c:=by omega
     rw[hcm];rw[hcm] at hm0 hm1;rw[show (128:Int) ^ k*c=c*128 ^ k from jet _ _] at hm0 hm1 ⊢;generalize hU:u+c*128 ^ k=U at *;have hU0:0<=U:=by omega
     have hU1:U<=72057594037927936:=by omega
     have tU:Int.tmod U (Int.ofNat 2)=U % 2:=jcp hU0;have e1:IntKind.i64.wrap (Int.add U (Int.ofNat 1))=U+1:=w64 (n:=U+1) (by omega) (by omega);have e2:IntKind.i64.wrap (Int.sub (Int.ofNat 0) (U+1))=-(U+1):=by
      rw[show Int.sub (Int.ofNat 0) (U+1)=-(U+1) by show (0:Int)-(U+1)=_;omega];exact w64 (by omega) (by omega)
     have e3:IntKind.i64.wrap (Int.add (Int.ofNat (a+k)) (Int.ofNat 1))=Int.ofNat (b.length-(b.drop (a+k+1)).length):=by
      rw[show Int.add (Int.ofNat (a+k)) (Int.ofNat 1)=((a+k+1:Nat):Int) from rfl,w64 (by omega) (by omega),jd8];show ((a+k+1:Nat):Int)=((b.length-(b.length-(a+k+1)):Nat):Int);omega
     have e4:U % 2=1->IntKind.i64.wrap (Int.tdiv (-(U+1)) (Int.ofNat 2))=S.unz U:=fun hm=>by
      have:Int.tdiv (-(U+1)) (Int.ofNat 2)=-((U+1) / 2):=by
       rw[Int.neg_tdiv,jc2 (by omega)];rfl
      rw[this,w64 (by omega) (by omega)];unfold S.unz;rw[jal hm];omega
     have e5:¬U % 2=1->IntKind.i64.wrap (Int.tdiv U (Int.ofNat 2))=S.unz U:=fun hm=>by
      rw[jc2 hU0];unfold S.unz;rw[jak hm];exact w64 (n:=U / 2) (by omega) (by omega)
     simp only[tU,e1,e2,e3];have hfl:(Nat.beq k 0=true\/0<c)↔(k=0\/0<c):=by
      cases k<;>simp [Nat.beq]
     by_cases hm:U % 2=1
     ·rw[jaf (show U % 2=Int.ofNat 1 from hm),jaa,e4 hm];by_cases hk0:k=0
      ·subst hk0;rw[jal (.inl rfl),jaf rfl,jaa];simp only[hU]
      ·rw[jae (show ¬Int.ofNat k=Int.ofNat 0 by show ¬(k:Int)=0;omega),jad];by_cases hz:0<c
       ·rw[jal (hfl.2 (.inr hz)),jaf (show Int.ofNat 0<c from hz)];simp only[hU]
       ·rw[jak (fun h=>(hfl.1 h).elim hk0 hz),jae (show ¬Int.ofNat 0<c from hz)];exact⟨_,_,rfl⟩
     ·rw[jae (show ¬U % 2=Int.ofNat 1 from hm),jad,e5 hm];by_cases hk0:k=0
      ·subst hk0;rw[jal (.inl rfl),jaf rfl,jaa];simp only[hU]
      ·rw[jae (show ¬Int.ofNat k=Int.ofNat 0 by show ¬(k:Int)=0;omega),jad];by_cases hz:0<c
       ·rw[jal (hfl.2 (.inr hz)),jaf (show Int.ofNat 0<c from hz)];simp only[hU]
       ·rw[jak (fun h=>(hfl.1 h).elim hk0 hz),jae (show ¬Int.ofNat 0<c from hz)];exact⟨_,_,rfl⟩
    ·rw[jae (show ¬c<Int.ofNat 128 from h128),jad,jak h128];have e12:IntKind.i64.wrap (Int.add (Int.ofNat k) (Int.ofNat 1))=Int.ofNat (k+1):=by
      rw[show Int.add (Int.ofNat k) (Int.ofNat 1)=((k+1:Nat):Int) from rfl,w64 (by omega) (by omega)];rfl
     have e13:IntKind.i64.wrap (Int.mul (128 ^ k) (Int.ofNat 128))=128 ^ (k+1):=by
      rw[jej];exact w64 (n:=128 ^ k*128) (by omega) (by omega)
     rw[e12,e13];have:=ih n (k+1) (u+128 ^ k*(c % 128)) (by omega) (by omega) (by omega) (by rw[jej];omega);rw[show Nat.beq (k+1) 0=false from rfl,<- jci] at this;cases hr:S.rdU false n (b.drop (a+k+1)) with
     | none=>rw[hr] at this;exact this
     | some q =>
      obtain⟨v,r⟩:=q;rw[hr] at this;simp only at this ⊢;rw[this];congr 3;congr 1;rw[jej,Int.add_mul,jet 128 v,Int.mul_assoc v 128,jet 128 (128 ^ k),jet (128 ^ k) (c % 128)];omega
   ·rw[jae (show ¬Int.ofNat (a+k)<Int.ofNat b.length by show ¬((a+k:Nat):Int)<(b.length:Int);omega),jax,jaa];have:b.drop (a+k)=[]:=jde (by omega);rw[this];exact⟨_,_,rfl⟩
end
namespace S
noncomputable def rrBad(b:List Int)(a:Int):Int × Int × Bool:=match Fz26 LF b a with
 | some (x,_)=>x
 | none=>(0,0,false)
noncomputable def rr(b:List Int)(a:Nat):Int × Int × Bool:=match rdU true 8 (b.drop a) with
 | some (u,r)=>(unz u,Int.ofNat (b.length-r.length),true)
 | none=>rrBad b (Int.ofNat a)
end S
theorem zaw{b:List Int}{a:Nat}(hb:∀c∈b,0<=c/\c<=255)(hl:b.length<=140737488355328)(ha:a<=b.length):Fz26 LF b (Int.ofNat a)=some (S.rr b a,())/\(S.rdU true 8 (b.drop a)=none->(S.rr b a).2.2=false):=by
 have h:=q15 hb hl ha 8 0 (Int.ofNat 0) LF rfl (by unfold LF;omega) (jcx _) (by rw[jfk];exact Int.one_pos);rw[show Nat.beq 0 0=true from rfl,jbt,jfk] at h;have hF:Fz26 LF b (Int.ofNat a)=rounds (fun K p=>qet LF b (Int.ofNat a) K p) LF (Int.ofNat 0,Int.ofNat 0,1):=by
  simp only[Fz26,q0g,qmc];rfl
 unfold S.rr;cases hr:S.rdU true 8 (b.drop a) with
 | none =>
  rw[hr] at h;obtain⟨x,y,h⟩:=h;have hF:=hF.trans h;exact⟨by simp only[S.rrBad,hF],fun _=>by simp only[S.rrBad,hF]⟩
 | some q =>
  obtain⟨v,r⟩:=q;rw[hr] at h;simp only at h ⊢;refine⟨hF.trans (h.trans ?_),fun h=>by cases h⟩;rw[Int.mul_one,show Int.ofNat 0+v=v from Int.zero_add v]
noncomputable def q64:Sm:=⟨[.list (.int .u8),.int .i64],[(false,q1b)],fun x=>cond (Bool.not (iltI x.2.1 0)&&Bool.not (iltI (Int.ofNat (List.length (α:=Int) x.1)) x.2.1)) (some (S.rr x.1 x.2.1.toNat,())) none⟩
theorem zgm:Con Tryz.prog zsx q64:=z0m trivial fun x y hx h=>⟨LF,by
 obtain⟨(b:List Int),(a:Int),_⟩:=x;obtain⟨hwb,_⟩:=hx;have hb:∀c,c∈b->0<=c/\c<=255:=fun (c:Int) hc=>(qe0 .u8 c).1 (hwb.2 c hc);have hl:b.length<=140737488355328:=by have:=hwb.1;rwa [show Jx.bsz (.int .u8)=1 from rfl,jd1] at this
 have h:cond (Bool.not (iltI a 0)&&Bool.not (iltI (Int.ofNat b.length) a)) (some (S.rr b a.toNat,())) none=some y:=h;rw[qal,qal] at h;by_cases h1:a<0
 ·rw[jaf h1] at h;cases h
 ·by_cases h2:Int.ofNat b.length<a
  ·rw[jaf h2,ja1,Bool.and_false] at h;cases h
  ·rw[jae h1,jae h2] at h;have h2:¬((b.length:Int)<a):=h2;obtain⟨n,rfl⟩:∃n:Nat,a=Int.ofNat n:=⟨a.toNat,by show a=((a.toNat:Nat):Int);omega⟩;have h2:¬((b.length:Int)<(n:Int)):=h2;exact(zaw hb hl (by omega)).1.trans h⟩
namespace S
def sameVals(a b:List DVal):Bool:=decide (a=b)
def sameGraphs(a b:qac):Bool:=decide (a=b)
end S
def zd7:Sm:=⟨[.list cVal,.list cVal],[(false,.bool)],fun x=>some (S.sameVals x.1 x.2.1,())⟩
def qxu:Sm:=⟨[qai,qai],[(false,.bool)],fun x=>some (S.sameGraphs x.1 x.2.1,())⟩
namespace S
def fewForms(l:List qab):Bool :=
 l.all (fun f=>decide (f.1.size<=30/\(f.2.length<=6\/30<f.2.length)/\f.2.length<=40)&&f.2.all fun c=>decide (c.1.size<=30/\c.2.2.size<=30))&&decide (l.length<=6\/24<l.length/\l.length<=30)
end S
def zey:Sm:=⟨[.list cForm],[(false,.bool)],fun x=>some (S.fewForms x.1,())⟩
def qju:Sm:=⟨[],[(false,.bool)],fun _=>some (true,())⟩
def qlp:Nat->Option Nm:=fun k=>cond (Nat.beq k 4) (some ⟨[0,1,5],[],[],[],[],0,0,false⟩) (none)
def qoa:Nat->Bool:=fun k=>cond (Nat.beq k 4) true (false)
def zbv:=qoa
abbrev qc4:Type:=Bool × Unit
def q8m:List (Nat × Sm):=[]
def q5l:List (Nat × Hx):=[]
def qzr(R:Type)(lf:Nat):ClK R:=qay Tryz.prog ttT.get ftT.get (nm1 43 qlp) (smL q8m) (hxL q5l) lf 20 R
abbrev zov:Nat:=43
def qi6(x1:(List DVal))(x2:(List DVal))(p:Int):NRes:=(NRes.mk (.node (some (IV.lst cVal x1)) (.node (some (IV.lst cVal x2)) .leaf (.node (some (IV.int .i64 p)) .leaf .leaf)) .leaf) (IS.mk .leaf 0) [] 0)
def qyt(lf:Nat)(x1:(List DVal))(x2:(List DVal))(L4:Int->Option qc4):Option qc4:=(cond (Bool.not (ieqI (Int.ofNat x1.length) (Int.ofNat x2.length))) (some (false,())) (L4 (Int.ofNat 0)))
def qtk(lf:Nat)(x1:(List DVal))(x2:(List DVal))(L4:Int->Option qc4)(p:Int):Option qc4:=(cond (iltI p (Int.ofNat x1.length)) (match (jget x1 p) with|none=>none|some v0=>(match (jget x2 p) with|none=>none|some v1=>(cond (Bool.not (Bool.and (keqI v0.1 v1.1) (Bool.and (keqI v0.2 v1.2) true))) (some (false,())) (L4 (IntKind.i64.wrap (Int.add p (Int.ofNat 1))))))) (some (true,())))
abbrev gz27:Type:=ElA [(.list cVal),(.list cVal)]->Option qc4
abbrev sz27(g:gz27):Sm:=⟨[(.list cVal),(.list cVal)],[(false,.bool)],g⟩
abbrev Ez27(g:gz27)(J:JT qc4)(lf:Nat)(x1:(List DVal))(x2:(List DVal)):=qbc Tryz.prog ttT.get qlp fi43.nt (qzr _ lf) lf qoa J fi43.body [] (qau (argV [(.list cVal),(.list cVal)] (x1,x2,())) 0 .leaf) S0 [] (qar ttT.get fi43 (sz27 g))
abbrev Bz27(g:gz27)(J:JT qc4)(lf k:Nat)(ms:List Nat)(q:NRes):=qbi Tryz.prog ttT.get qlp fi43.nt (qzr _ lf) lf qoa J k fi43.body [] ms q (qar ttT.get fi43 (sz27 g))
theorem z0t(g:gz27)(J:JT qc4)(lf:Nat)(x1:(List DVal))(x2:(List DVal)):Ez27 g J lf x1 x2=qyt lf x1 x2 (fun q=>J 4 [lf] (qi6 x1 x2 q)):=by kernel_rfl
theorem zws(g:gz27)(J:JT qc4)(lf:Nat)(x1:(List DVal))(x2:(List DVal))(m1:Nat)(p:Int):Bz27 g J lf 4 [m1] (qi6 x1 x2 p)=qtk lf x1 x2 (fun q=>J 4 [m1] (qi6 x1 x2 q)) p:=by kernel_rfl
theorem q7f:(regs fi43.body).Nodup:=by decide +kernel
theorem zff:okC qlp qoa zbv fi43.body none=true:=by kernel_rfl
def Az27(g:gz27)(lf:Nat):JT qc4:=atN Tryz.prog ttT.get qlp fi43 (sz27 g) (qzr _ lf) lf zbv
def quv(lf:Nat)(x1:(List DVal))(x2:(List DVal)):Nat->(Int)->Option qc4:=rounds fun K p=>qtk lf x1 x2 K p
theorem q9b(g:gz27)(lf:Nat)(x1:(List DVal))(x2:(List DVal)):∀(n:Nat) (p:Int),Az27 g lf 4 [n] (qi6 x1 x2 p)=quv lf x1 x2 n p
 | 0,p=>qax 4 [0] rfl _
 | n+1,p=>by
  have ih:=q9b g lf x1 x2 n;refine(qao (qaj 20 _) q7f zff 4 [n+1] [n] rfl _).trans ((zws g (Az27 g lf) lf x1 x2 n p).trans ?_);rw[(show (fun q=>Az27 g lf 4 [n] (qi6 x1 x2 q))=(fun q=>quv lf x1 x2 n q) from funext ih)];rfl
def Fz27(lf:Nat)(x1:(List DVal))(x2:(List DVal)):Option qc4:=qyt lf x1 x2 (fun q=>quv lf x1 x2 lf q)
theorem zxb(g:gz27)(lf:Nat)(x1:(List DVal))(x2:(List DVal)):Ez27 g (Az27 g lf) lf x1 x2=Fz27 lf x1 x2:=by
  refine(z0t g (Az27 g lf) lf x1 x2).trans ?_;rw[(show (fun q=>Az27 g lf 4 [lf] (qi6 x1 x2 q))=(fun q=>quv lf x1 x2 lf q) from funext fun q=>q9b g lf x1 x2 lf q)];rfl
theorem zxp:qa1 Tryz.prog q5l:=trivial
theorem zmm{g:gz27}(hsm:SmOK Tryz.prog q8m)(hg:∀(x:ElA [(.list cVal),(.list cVal)]) (y:qc4),WfA [(.list cVal),(.list cVal)] x->g x=some y->∃lf,Fz27 lf x.1 x.2.1=some y):Con Tryz.prog 43 ⟨[(.list cVal),(.list cVal)],[(false,.bool)],g⟩ :=
 conV (st:=qoa) (fun lf x=>Fz27 lf x.1 x.2.1) cm3 zg2 zxp q7f zff (fun lf x=>zxb g lf x.1 x.2.1) hsm hg
def qn1:Nat->Option Nm:=fun k=>cond (Nat.beq k 5) (some ⟨[2,3,6],[],[],[],[],0,0,false⟩) (none)
def qnd:Nat->Bool:=fun k=>cond (Nat.beq k 5) true (false)
def q47:=qnd
abbrev qc7:Type:=Bool × Unit
def q7l:List (Nat × Sm):=[(43,zd7)]
def zbb:List (Nat × Hx):=[]
def qxv(R:Type)(lf:Nat):ClK R:=qay Tryz.prog ttT.get ftT.get (nm1 13 qn1) (smL q7l) (hxL zbb) lf 20 R
abbrev zho:Nat:=13
def qij(x1:qac)(x2:qac)(p:Int):NRes:=(NRes.mk (.node none (.node none (.node (some (IV.ptr 1 0)) .leaf .leaf) .leaf) (.node (some (IV.ptr 0 0)) .leaf (.node (some (IV.int .i64 p)) .leaf .leaf))) (IS.mk (.node (some (IObj.row (List.cons (IV.lst qaf x1.1) [(IV.lst cVal x1.2)]))) (.node (some (IObj.row (List.cons (IV.lst qaf x2.1) [(IV.lst cVal x2.2)]))) .leaf .leaf) .leaf) 2) [] 0)
def qzp(lf:Nat)(x1:qac)(x2:qac)(L5:Int->Option qc7):Option qc7:=(cond (Bool.not (S.sameVals x1.2 x2.2)) (some (false,())) (cond (Bool.not (ieqI (Int.ofNat x1.1.length) (Int.ofNat x2.1.length))) (some (false,())) (L5 (Int.ofNat 0))))
def qsu(lf:Nat)(x1:qac)(x2:qac)(L5:Int->Option qc7)(p:Int):Option qc7:=(cond (iltI p (Int.ofNat x1.1.length)) (match (jget x1.1 p) with|none=>none|some v0=>(match (jget x2.1 p) with|none=>none|some v1=>(cond (Bool.not (S.sameVals v0.2 v1.2)) (some (false,())) (match (jget x1.1 p) with|none=>none|some v2=>(match (jget x2.1 p) with|none=>none|some v3=>(cond (Bool.not (keqS v2.1 v3.1)) (some (false,())) (L5 (IntKind.i64.wrap (Int.add p (Int.ofNat 1)))))))))) (some (true,())))
abbrev gz28:Type:=ElA [qai,qai]->Option qc7
abbrev sz28(g:gz28):Sm:=⟨[qai,qai],[(false,.bool)],g⟩
abbrev Ez28(g:gz28)(J:JT qc7)(lf:Nat)(x1:qac)(x2:qac):=qbc Tryz.prog ttT.get qn1 fi13.nt (qxv _ lf) lf qnd J fi13.body [] (qau (argV [qai,qai] (x1,x2,())) 0 .leaf) S0 [] (qar ttT.get fi13 (sz28 g))
abbrev Bz28(g:gz28)(J:JT qc7)(lf k:Nat)(ms:List Nat)(q:NRes):=qbi Tryz.prog ttT.get qn1 fi13.nt (qxv _ lf) lf qnd J k fi13.body [] ms q (qar ttT.get fi13 (sz28 g))
theorem zwa(g:gz28)(J:JT qc7)(lf:Nat)(x1:qac)(x2:qac):Ez28 g J lf x1 x2=qzp lf x1 x2 (fun q=>J 5 [lf] (qij x1 x2 q)):=by kernel_rfl
theorem zxf(g:gz28)(J:JT qc7)(lf:Nat)(x1:qac)(x2:qac)(m1:Nat)(p:Int):Bz28 g J lf 5 [m1] (qij x1 x2 p)=qsu lf x1 x2 (fun q=>J 5 [m1] (qij x1 x2 q)) p:=by kernel_rfl
theorem q2b:(regs fi13.body).Nodup:=by decide +kernel
theorem q82:okC qn1 qnd q47 fi13.body none=true:=by kernel_rfl
def Az28(g:gz28)(lf:Nat):JT qc7:=atN Tryz.prog ttT.get qn1 fi13 (sz28 g) (qxv _ lf) lf q47
def qrj(lf:Nat)(x1:qac)(x2:qac):Nat->(Int)->Option qc7:=rounds fun K p=>qsu lf x1 x2 K p
theorem zcs(g:gz28)(lf:Nat)(x1:qac)(x2:qac):∀(n:Nat) (p:Int),Az28 g lf 5 [n] (qij x1 x2 p)=qrj lf x1 x2 n p
 | 0,p=>qax 5 [0] rfl _
 | n+1,p=>by
  have ih:=zcs g lf x1 x2 n;refine(qao (qaj 20 _) q2b q82 5 [n+1] [n] rfl _).trans ((zxf g (Az28 g lf) lf x1 x2 n p).trans ?_);rw[(show (fun q=>Az28 g lf 5 [n] (qij x1 x2 q))=(fun q=>qrj lf x1 x2 n q) from funext ih)];rfl
def Fz28(lf:Nat)(x1:qac)(x2:qac):Option qc7:=qzp lf x1 x2 (fun q=>qrj lf x1 x2 lf q)
theorem zmb(g:gz28)(lf:Nat)(x1:qac)(x2:qac):Ez28 g (Az28 g lf) lf x1 x2=Fz28 lf x1 x2:=by
  refine(zwa g (Az28 g lf) lf x1 x2).trans ?_;rw[(show (fun q=>Az28 g lf 5 [lf] (qij x1 x2 q))=(fun q=>qrj lf x1 x2 lf q) from funext fun q=>zcs g lf x1 x2 lf q)];rfl
theorem zfr:qa1 Tryz.prog zbb:=trivial
theorem zoo{g:gz28}(hsm:SmOK Tryz.prog q7l)(hg:∀(x:ElA [qai,qai]) (y:qc7),WfA [qai,qai] x->g x=some y->∃lf,Fz28 lf x.1 x.2.1=some y):Con Tryz.prog 13 ⟨[qai,qai],[(false,.bool)],g⟩ :=
 conV (st:=qnd) (fun lf x=>Fz28 lf x.1 x.2.1) cm3 zq5 zfr q2b q82 (fun lf x=>zmb g lf x.1 x.2.1) hsm hg
def qmr:Nat->Option Nm:=fun k=>cond (Nat.beq k 2) (some ⟨[0,3],[],[],[],[],0,0,false⟩) (cond (Nat.beq k 8) (some ⟨[0,3,4,5],[],[],[],[],0,0,false⟩) (none))
def qmd:Nat->Bool:=fun k=>cond (Nat.beq k 2) true (cond (Nat.beq k 8) true (false))
def q48:=qmd
abbrev qb1:Type:=Bool × Unit
def zbi:List (Nat × Sm):=[]
def zar:List (Nat × Hx):=[]
def qvq(R:Type)(lf:Nat):ClK R:=qay Tryz.prog ttT.get ftT.get (nm1 7 qmr) (smL zbi) (hxL zar) lf 20 R
abbrev zyy:Nat:=7
def qfu(x1:(List qab))(p:Int):NRes:=(NRes.mk (.node (some (IV.lst cForm x1)) (.node none (.node (some (IV.int .i64 p)) .leaf .leaf) .leaf) .leaf) (IS.mk .leaf 0) [] 0)
def qj4(x1:(List qab))(p:Int × Int × Int):NRes:=(NRes.mk (.node (some (IV.lst cForm x1)) (.node none (.node (some (IV.int .i64 p.2.2)) .leaf .leaf) (.node (some (IV.int .i64 p.2.1)) .leaf .leaf)) (.node none (.node (some (IV.int .i64 p.1)) .leaf .leaf) .leaf)) (IS.mk .leaf 0) [] 0)
def q0i(lf:Nat)(x1:(List qab))(L2:Int->Option qb1):Option qb1:=(L2 (Int.ofNat 0))
def qsf(lf:Nat)(x1:(List qab))(L8:(Int × Int × Int)->Option qb1)(p:Int):Option qb1:=(cond (iltI p (Int.ofNat x1.length)) (match (jget x1 p) with|none=>none|some v0=>(match (jget x1 p) with|none=>none|some v1=>(cond (iltI (Int.ofNat 30) (Int.ofNat v1.1.size)) (some (false,())) (cond (iltI (Int.ofNat 6) (Int.ofNat v0.2.length)) (cond (Bool.not (iltI (Int.ofNat 30) (Int.ofNat v0.2.length))) (some (false,())) (cond (iltI (Int.ofNat 40) (Int.ofNat v0.2.length)) (some (false,())) (L8 ((Int.ofNat v0.2.length),(Int.ofNat 0),p)))) (cond (iltI (Int.ofNat 40) (Int.ofNat v0.2.length)) (some (false,())) (L8 ((Int.ofNat v0.2.length),(Int.ofNat 0),p))))))) (cond (Bool.not (iltI (Int.ofNat 6) (Int.ofNat x1.length))) (some (true,())) (cond (iltI (Int.ofNat 24) (Int.ofNat x1.length)) (some ((Bool.not (iltI (Int.ofNat 30) (Int.ofNat x1.length))),())) (some (false,())))))
def qss(lf:Nat)(x1:(List qab))(L8:(Int × Int × Int)->Option qb1)(L2:Int->Option qb1)(p:Int × Int × Int):Option qb1:=(cond (iltI p.2.1 p.1) (match (jget x1 p.2.2) with|none=>none|some v0=>(match (jget v0.2 p.2.1) with|none=>none|some v1=>(cond (iltI (Int.ofNat 30) (Int.ofNat v1.1.size)) (some (false,())) (match (jget x1 p.2.2) with|none=>none|some v2=>(match (jget v2.2 p.2.1) with|none=>none|some v3=>(cond (iltI (Int.ofNat 30) (Int.ofNat v3.2.2.size)) (some (false,())) (L8 (p.1,(IntKind.i64.wrap (Int.add p.2.1 (Int.ofNat 1))),p.2.2)))))))) (L2 (IntKind.i64.wrap (Int.add p.2.2 (Int.ofNat 1)))))
abbrev gz29:Type:=ElA [(.list cForm)]->Option qb1
abbrev sz29(g:gz29):Sm:=⟨[(.list cForm)],[(false,.bool)],g⟩
abbrev Ez29(g:gz29)(J:JT qb1)(lf:Nat)(x1:(List qab)):=qbc Tryz.prog ttT.get qmr fi7.nt (qvq _ lf) lf qmd J fi7.body [] (qau (argV [(.list cForm)] (x1,())) 0 .leaf) S0 [] (qar ttT.get fi7 (sz29 g))
abbrev Bz29(g:gz29)(J:JT qb1)(lf k:Nat)(ms:List Nat)(q:NRes):=qbi Tryz.prog ttT.get qmr fi7.nt (qvq _ lf) lf qmd J k fi7.body [] ms q (qar ttT.get fi7 (sz29 g))
theorem z1n(g:gz29)(J:JT qb1)(lf:Nat)(x1:(List qab)):Ez29 g J lf x1=q0i lf x1 (fun q=>J 2 [lf] (qfu x1 q)):=by kernel_rfl
theorem zf5(g:gz29)(J:JT qb1)(lf:Nat)(x1:(List qab))(m1:Nat)(p:Int):Bz29 g J lf 2 [m1] (qfu x1 p)=qsf lf x1 (fun q=>J 8 [m1,lf] (qj4 x1 q)) p:=by kernel_rfl
theorem zk9(g:gz29)(J:JT qb1)(lf:Nat)(x1:(List qab))(m1:Nat)(m2:Nat)(p:Int × Int × Int):Bz29 g J lf 8 [m1,m2] (qj4 x1 p)=qss lf x1 (fun q=>J 8 [m1,m2] (qj4 x1 q)) (fun q=>J 2 [m1] (qfu x1 q)) p:=by kernel_rfl
theorem qzb:(regs fi7.body).Nodup:=by decide +kernel
theorem qxf:okC qmr qmd q48 fi7.body none=true:=by kernel_rfl
def Az29(g:gz29)(lf:Nat):JT qb1:=atN Tryz.prog ttT.get qmr fi7 (sz29 g) (qvq _ lf) lf q48
def qov(lf:Nat)(x1:(List qab))(K2:Int->Option qb1):Nat->(Int × Int × Int)->Option qb1:=rounds fun K p=>qss lf x1 K K2 p
theorem zay(g:gz29)(lf:Nat)(x1:(List qab))(m1:Nat):∀(n:Nat) (p:Int × Int × Int),Az29 g lf 8 [m1,n] (qj4 x1 p)=qov lf x1 (fun q=>Az29 g lf 2 [m1] (qfu x1 q)) n p
 | 0,p=>qax 8 [m1,0] rfl _
 | n+1,p=>by
  have ih:=zay g lf x1 m1 n;refine(qao (qaj 20 _) qzb qxf 8 [m1,n+1] [m1,n] rfl _).trans ((zk9 g (Az29 g lf) lf x1 m1 n p).trans ?_);rw[(show (fun q=>Az29 g lf 8 [m1,n] (qj4 x1 q))=(fun q=>qov lf x1 (fun q=>Az29 g lf 2 [m1] (qfu x1 q)) n q) from funext ih)];rfl
def qr8(lf:Nat)(x1:(List qab)):Nat->(Int)->Option qb1:=rounds fun K p=>qsf lf x1 (fun q=>qov lf x1 K lf q) p
theorem zcc(g:gz29)(lf:Nat)(x1:(List qab)):∀(n:Nat) (p:Int),Az29 g lf 2 [n] (qfu x1 p)=qr8 lf x1 n p
 | 0,p=>qax 2 [0] rfl _
 | n+1,p=>by
  have ih:=zcc g lf x1 n;refine(qao (qaj 20 _) qzb qxf 2 [n+1] [n] rfl _).trans ((zf5 g (Az29 g lf) lf x1 n p).trans ?_);rw[(show (fun q=>Az29 g lf 8 [n,lf] (qj4 x1 q))=(fun q=>qov lf x1 (fun q=>Az29 g lf 2 [n] (qfu x1 q)) lf q) from funext fun q=>zay g lf x1 n lf q),(show (fun q=>Az29 g lf 2 [n] (qfu x1 q))=(fun q=>qr8 lf x1 n q) from funext ih)];rfl
def Fz29(lf:Nat)(x1:(List qab)):Option qb1:=q0i lf x1 (fun q=>qr8 lf x1 lf q)
theorem zjp(g:gz29)(lf:Nat)(x1:(List qab)):Ez29 g (Az29 g lf) lf x1=Fz29 lf x1:=by
  refine(z1n g (Az29 g lf) lf x1).trans ?_;rw[(show (fun q=>Az29 g lf 2 [lf] (qfu x1 q))=(fun q=>qr8 lf x1 lf q) from funext fun q=>zcc g lf x1 lf q)];rfl
theorem zun:qa1 Tryz.prog zar:=trivial
theorem zl9{g:gz29}(hsm:SmOK Tryz.prog zbi)(hg:∀(x:ElA [(.list cForm)]) (y:qb1),WfA [(.list cForm)] x->g x=some y->∃lf,Fz29 lf x.1=some y):Con Tryz.prog 7 ⟨[(.list cForm)],[(false,.bool)],g⟩ :=
 conV (st:=qmd) (fun lf x=>Fz29 lf x.1) cm3 cal7 zun qzb qxf (fun lf x=>zjp g lf x.1) hsm hg
theorem zvp(a b:List DVal)(hl:a.length<LF):Fz27 LF a b=some (S.sameVals a b,()):=by
 simp only[Fz27,qyt,qo1,S.sameVals];by_cases hlen:a.length=b.length
 ·rw[jaf hlen,ja1,jad];refine(qbv (R:=qc4) a (fun rest i=>some (decide (rest=b.drop i),())) hl (fun K=>?_) (fun K i v rest r h=>?_)).trans (by rw[jck])
  ·simp only[qtk,qaz,jad];rw[List.drop_of_length_le (by omega),jaf rfl]
  ·have hi:i<b.length:=by have:=r.lt;omega
   have hd:b.drop i=b[i]::b.drop (i+1):=jbd hi;have hb:jget b (Int.ofNat i)=some b[i]:=qbz.trans (jab hi);simp only[qtk,r.ilt,r.get,hb,r.next,h,jaa,hd];generalize b[i]=w;obtain⟨v1,v2⟩:=v;obtain⟨w1,w2⟩:=w;simp only[keqI,jcy];by_cases e1:v1=w1<;>by_cases e2:v2=w2<;>simp [e1,e2]
 ·have hn:¬a=b:=fun e=>hlen (by rw[e]);rw[jae hlen,jax,jaa,jae hn]
theorem zg1:Con Tryz.prog zov zd7:=zmm trivial fun x y hx h=>⟨LF,(zvp _ _ (qbj hx.1)).trans h⟩
theorem zhg(a b:qac)(hl:a.1.length<LF):Fz28 LF a b=some (S.sameGraphs a b,()):=by
 simp only[Fz28,qzp,qo1,S.sameGraphs];obtain⟨a1,a2⟩:=a;obtain⟨b1,b2⟩:=b;have hs:S.sameVals a2 b2=decide (a2=b2):=rfl;simp only[hs];by_cases hr:a2=b2
 ·rw[jaf hr,ja1,jad];by_cases hlen:a1.length=b1.length
  ·rw[jaf hlen,ja1,jad];refine(qbv (R:=qc7) a1 (fun rest i=>some (decide (rest=b1.drop i),())) hl (fun K=>?_) (fun K i v rest r h=>?_)).trans (by rw[jck];simp [hr])
   ·simp only[qsu,qaz,jad];rw[List.drop_of_length_le (by omega),jaf rfl]
   ·have hi:i<b1.length:=by have:=r.lt;dsimp only at *;omega
    have hd:b1.drop i=b1[i]::b1.drop (i+1):=jbd hi;have hb:jget b1 (Int.ofNat i)=some b1[i]:=qbz.trans (jab hi);have hg:=r.get;simp only[qsu,r.ilt,hg,hb,r.next,h,jaa,hd];generalize b1[i]=w;obtain⟨v1,v2⟩:=v;obtain⟨w1,w2⟩:=w;simp only[keqS,S.sameVals];by_cases e1:v1=w1<;>by_cases e2:v2=w2<;>simp [e1,e2]
  ·have hn:¬(a1,a2)=(b1,b2):=fun e=>hlen (by rw[(Prod.mk.inj e).1]);rw[jae hlen,jax,jaa,jae hn]
 ·have hn:¬(a1,a2)=(b1,b2):=fun e=>hr (Prod.mk.inj e).2;rw[jae hr,jax,jaa,jae hn]
theorem q7w:Con Tryz.prog zho qxu:=zoo ⟨zg1,trivial⟩ fun x y hx h=>⟨LF,(zhg _ _ (qbj hx.1.1)).trans h⟩
theorem zi8(l:List qab)(K2:Int->Option qb1)(i:Nat)(f:qab)(hf:jget l (Int.ofNat i)=some f)(hl:f.2.length<LF) :
  qov LF l K2 LF (Int.ofNat f.2.length,Int.ofNat 0,Int.ofNat i)=cond (f.2.all fun c=>decide (c.1.size<=30/\c.2.2.size<=30)) (K2 (IntKind.i64.wrap (Int.add (Int.ofNat i) (Int.ofNat 1)))) (some (false,())):=by
 refine range0 (σ:=Unit) (R:=qb1) f.2 (fun k _=>(Int.ofNat f.2.length,k,Int.ofNat i)) (fun _ _=>True) (fun rest k _=>cond (rest.all fun c=>decide (c.1.size<=30/\c.2.2.size<=30)) (K2 (IntKind.i64.wrap (Int.add (Int.ofNat i) (Int.ofNat 1)))) (some (false,()))) hl (fun K s _=>?_) (fun K k c rest s _ r h=>?_) () trivial
 ·simp only[qss,qaz,jad,jfj,jaa]
 ·have h:=h () trivial;simp only[qss,hf,r.ilt,r.get,r.next,h,jaa,qeo,jch];by_cases a1:30<c.1.size
  ·have e:decide (c.1.size<=30/\c.2.2.size<=30)=false:=jae (by omega);rw[e,jaf a1];rfl
  by_cases a2:30<c.2.2.size
  ·have e:decide (c.1.size<=30/\c.2.2.size<=30)=false:=jae (by omega);rw[e,jae a1,jaf a2];rfl
  ·have e:decide (c.1.size<=30/\c.2.2.size<=30)=true:=jaf (by omega);rw[e,jae a1,jae a2,jdg];rfl
theorem zfz(l:List qab)(hl:l.length<LF)(hw:∀f∈l,f.2.length<LF):Fz29 LF l=some (S.fewForms l,()):=by
 simp only[Fz29,q0i,S.fewForms];refine qbv (R:=qb1) l (fun rest i=>some (rest.all (fun f=>decide (f.1.size<=30/\(f.2.length<=6\/30<f.2.length)/\f.2.length<=40)&&f.2.all fun c=>decide (c.1.size<=30/\c.2.2.size<=30))&&decide (l.length<=6\/24<l.length/\l.length<=30),())) hl (fun K=>?_) (fun K i v rest r h=>?_)
 ·simp only[qsf,qaz,jad,qeo,jfj,jdg];by_cases h8:6<l.length<;>by_cases h24:24<l.length<;>by_cases h30:30<l.length<;>simp [h8,h24,h30]<;>omega
 ·have hin:=zi8 l K i v r.get (hw v r.mem);rw[r.next,h] at hin;simp only[qsf,r.ilt,r.get,jaa,qeo,jch];simp only[hin];generalize (v.2.all fun c=>decide (c.1.size<=30/\c.2.2.size<=30))=w;generalize v.2.length=n;generalize v.1.size=m;by_cases a0:30<m
  ·have e:decide (m<=30/\(n<=6\/30<n)/\n<=40)=false:=jae (by omega);rw[e,jaf a0];rfl
  rw[jae a0,jad];by_cases a1:6<n
  ·rw[jaf a1,jaa];by_cases a2:30<n
   ·rw[jaf a2,ja1,jad];by_cases a3:40<n
    ·have e:decide (m<=30/\(n<=6\/30<n)/\n<=40)=false:=jae (by omega);rw[e,jaf a3];rfl
    ·have e:decide (m<=30/\(n<=6\/30<n)/\n<=40)=true:=jaf (by omega);rw[e,jae a3];cases w<;>rfl
   ·have e:decide (m<=30/\(n<=6\/30<n)/\n<=40)=false:=jae (by omega);rw[e,jae a2];rfl
  ·rw[jae a1,jad];have e:decide (m<=30/\(n<=6\/30<n)/\n<=40)=true:=jaf (by omega);have a3:¬40<n:=by omega
   rw[e,jae a3];cases w<;>rfl
theorem zof:Con Tryz.prog zyy zey:=zl9 trivial fun x y hx h=>⟨LF,(zfz _ (qbj hx.1) fun f hf=>qbj (hx.1.2 f hf).2).trans h⟩
def qkr:Nat->Option Nm:=fun k=>cond (Nat.beq k 3) (some ⟨[1,2,3,4],[(3,(.int .i64))],[],[],[],0,0,false⟩) (cond (Nat.beq k 8) (some ⟨[1,2,3,5,6],[(3,(.int .i64)),(5,(.int .i64))],[],[],[],0,0,false⟩) (cond (Nat.beq k 12) (some ⟨[1,2,3,5,7],[(3,(.int .i64)),(5,(.int .i64))],[],[],[],0,0,false⟩) (cond (Nat.beq k 16) (some ⟨[1,2,3,5,7,8,9],[(3,(.int .i64)),(5,(.int .i64))],[],[],[],0,0,false⟩) (cond (Nat.beq k 21) (some ⟨[1,2,3,5,10,11],[(3,(.int .i64)),(5,(.int .i64))],[(10,0,qaf)],[],[],0,0,false⟩) (cond (Nat.beq k 26) (some ⟨[1,2,3,5,10,11,12,13,14],[(3,(.int .i64)),(5,(.int .i64))],[(10,0,qaf),(13,1,cVal)],[],[],0,0,false⟩) (cond (Nat.beq k 31) (some ⟨[1,2,3,10,15],[(3,(.int .i64))],[(10,0,qaf),(10,1,cVal)],[],[],0,0,false⟩) (none)))))))
def qmv:Nat->Bool:=fun k=>cond (Nat.beq k 3) true (cond (Nat.beq k 8) true (cond (Nat.beq k 12) true (cond (Nat.beq k 16) true (cond (Nat.beq k 21) true (cond (Nat.beq k 26) true (cond (Nat.beq k 31) true (false)))))))
def q23:=qmv
abbrev qav:Type:=zpe × Unit
def zcm:List (Nat × Sm):=[]
def q4y:List (Nat × Hx):=[]
def q03(R:Type)(lf:Nat):ClK R:=qay Tryz.prog ttT.get ftT.get (nm1 73 qkr) (smL zcm) (hxL q4y) lf 20 R
abbrev zl2:Nat:=73
def qi4(x1:qac)(p:Int × (List Int)):NRes:=(NRes.mk (.node none (.node (some (IV.ptr 0 0)) (.node (some (IV.arr 2)) .leaf .leaf) .leaf) (.node (some (IV.ptr 1 0)) (.node (some (IV.int .i64 p.1)) .leaf .leaf) .leaf)) (IS.mk (.node (some (IObj.row (List.cons (IV.lst qaf x1.1) [(IV.lst cVal x1.2)]))) (.node (some (IObj.row (List.cons IV.nilsl (List.cons IV.nilsl (List.cons IV.nilsl [(IV.int .i64 (Int.ofNat 0))]))))) .leaf .leaf) (.node (some (IObj.arr (TC.int .i64) p.2)) .leaf .leaf)) 3) [] 0)
def qjy(x1:qac)(p:(List Int) × Int × (List Int)):NRes:=(NRes.mk (.node none (.node (some (IV.ptr 0 0)) (.node (some (IV.arr 2)) .leaf .leaf) (.node (some (IV.arr 3)) .leaf .leaf)) (.node (some (IV.ptr 1 0)) .leaf (.node (some (IV.int .i64 p.2.1)) .leaf .leaf))) (IS.mk (.node (some (IObj.row (List.cons (IV.lst qaf x1.1) [(IV.lst cVal x1.2)]))) (.node (some (IObj.row (List.cons IV.nilsl (List.cons IV.nilsl (List.cons IV.nilsl [(IV.int .i64 (Int.ofNat 0))]))))) (.node (some (IObj.arr (TC.int .i64) p.2.2)) .leaf .leaf) .leaf) (.node (some (IObj.arr (TC.int .i64) p.1)) .leaf .leaf)) 4) [] 0)
def qfj(x1:qac)(p:(List Int) × (List Int) × Int):NRes:=(NRes.mk (.node none (.node (some (IV.ptr 0 0)) (.node (some (IV.arr 2)) (.node (some (IV.int .i64 p.2.2)) .leaf .leaf) .leaf) (.node (some (IV.arr 3)) .leaf .leaf)) (.node (some (IV.ptr 1 0)) .leaf .leaf)) (IS.mk (.node (some (IObj.row (List.cons (IV.lst qaf x1.1) [(IV.lst cVal x1.2)]))) (.node (some (IObj.row (List.cons IV.nilsl (List.cons IV.nilsl (List.cons IV.nilsl [(IV.int .i64 (Int.ofNat 0))]))))) (.node (some (IObj.arr (TC.int .i64) p.2.1)) .leaf .leaf) .leaf) (.node (some (IObj.arr (TC.int .i64) p.1)) .leaf .leaf)) 4) [] 0)
def qj5(x1:qac)(p:(List Int) × (List Int) × (List DVal) × ByteArray × Int × Int):NRes:=(NRes.mk (.node none (.node (some (IV.ptr 0 0)) (.node (some (IV.arr 2)) (.node (some (IV.int .i64 p.2.2.2.2.2)) .leaf .leaf) .leaf) (.node (some (IV.arr 3)) (.node (some (IV.int .i64 p.2.2.2.2.1)) .leaf .leaf) .leaf)) (.node (some (IV.ptr 1 0)) (.node none (.node (some (IV.ptr 4 0)) .leaf .leaf) .leaf) .leaf)) (IS.mk (.node (some (IObj.row (List.cons (IV.lst qaf x1.1) [(IV.lst cVal x1.2)]))) (.node (some (IObj.row (List.cons IV.nilsl (List.cons IV.nilsl (List.cons IV.nilsl [(IV.int .i64 (Int.ofNat 0))]))))) (.node (some (IObj.arr (TC.int .i64) p.2.1)) .leaf .leaf) .leaf) (.node (some (IObj.arr (TC.int .i64) p.1)) (.node (some (IObj.row (List.cons (IV.str p.2.2.2.1) [(IV.lst cVal p.2.2.1)]))) .leaf .leaf) .leaf)) 5) [] 0)
def qfm(x1:qac)(p:(List Int) × (List Int) × Int × (List qaa)):NRes:=(NRes.mk (.node none (.node (some (IV.ptr 0 0)) (.node (some (IV.arr 2)) .leaf (.node (some (IV.int .i64 p.2.2.1)) .leaf .leaf)) (.node (some (IV.arr 3)) .leaf .leaf)) (.node (some (IV.ptr 1 0)) .leaf (.node none (.node (some (IV.ptr 4 0)) .leaf .leaf) .leaf))) (IS.mk (.node (some (IObj.row (List.cons (IV.lst qaf x1.1) [(IV.lst cVal x1.2)]))) (.node (some (IObj.row (List.cons IV.nilsl (List.cons IV.nilsl (List.cons IV.nilsl [(IV.int .i64 (Int.ofNat 0))]))))) (.node (some (IObj.arr (TC.int .i64) p.2.1)) .leaf .leaf) (.node (some (IObj.arr qaf p.2.2.2)) .leaf .leaf)) (.node (some (IObj.arr (TC.int .i64) p.1)) (.node (some (IObj.row (List.cons (IV.arr 5) (List.cons IV.nilsl (List.cons (IV.arr 2) [(IV.int .i64 (Int.ofNat 0))]))))) .leaf .leaf) .leaf)) 6) [] 0)
def qiu(x1:qac)(p:(List Int) × (List Int) × ByteArray × (List DVal) × Int × (List DVal) × Int × (List qaa)):NRes:=(NRes.mk (.node none (.node (some (IV.ptr 0 0)) (.node (some (IV.arr 2)) .leaf (.node (some (IV.int .i64 p.2.2.2.2.2.2.1)) .leaf .leaf)) (.node (some (IV.arr 3)) .leaf (.node (some (IV.ptr 6 0)) .leaf .leaf))) (.node (some (IV.ptr 1 0)) (.node none .leaf (.node (some (IV.ptr 5 0)) .leaf .leaf)) (.node none (.node (some (IV.ptr 4 0)) .leaf .leaf) (.node (some (IV.int .i64 p.2.2.2.2.1)) .leaf .leaf)))) (IS.mk (.node (some (IObj.row (List.cons (IV.lst qaf x1.1) [(IV.lst cVal x1.2)]))) (.node (some (IObj.row (List.cons IV.nilsl (List.cons IV.nilsl (List.cons IV.nilsl [(IV.int .i64 (Int.ofNat 0))]))))) (.node (some (IObj.arr (TC.int .i64) p.2.1)) (.node (some (IObj.arr qaf p.2.2.2.2.2.2.2)) .leaf .leaf) .leaf) (.node (some (IObj.row (List.cons (IV.str p.2.2.1) [(IV.lst cVal p.2.2.2.1)]))) .leaf .leaf)) (.node (some (IObj.arr (TC.int .i64) p.1)) (.node (some (IObj.row (List.cons (IV.arr 7) (List.cons IV.nilsl (List.cons (IV.arr 2) [(IV.int .i64 (Int.ofNat 0))]))))) (.node (some (IObj.arr cVal p.2.2.2.2.2.1)) .leaf .leaf) .leaf) (.node (some (IObj.row (List.cons (IV.str p.2.2.1) [(IV.arr 8)]))) .leaf .leaf))) 9) [] 0)
def qka(x1:qac)(p:(List Int) × (List qaa) × Int × (List DVal)):NRes:=(NRes.mk (.node none (.node (some (IV.ptr 0 0)) (.node (some (IV.arr 2)) (.node none (.node (some (IV.int .i64 p.2.2.1)) .leaf .leaf) .leaf) .leaf) .leaf) (.node (some (IV.ptr 1 0)) .leaf (.node none (.node (some (IV.ptr 3 0)) .leaf .leaf) .leaf))) (IS.mk (.node (some (IObj.row (List.cons (IV.lst qaf x1.1) [(IV.lst cVal x1.2)]))) (.node (some (IObj.row (List.cons IV.nilsl (List.cons IV.nilsl (List.cons IV.nilsl [(IV.int .i64 (Int.ofNat 0))]))))) (.node (some (IObj.row (List.cons (IV.arr 4) (List.cons (IV.arr 5) (List.cons (IV.arr 2) [(IV.int .i64 (Int.ofNat 0))]))))) .leaf .leaf) (.node (some (IObj.arr cVal p.2.2.2)) .leaf .leaf)) (.node (some (IObj.arr (TC.int .i64) p.1)) (.node (some (IObj.arr qaf p.2.1)) .leaf .leaf) .leaf)) 6) [] 0)
def qy9(lf:Nat)(x1:qac)(L3:(Int × (List Int))->Option qav):Option qav:=(cond (iltI (Int.ofNat x1.1.length) (Int.ofNat 0)) none (cond (Nat.ble (Nat.mul (Int.toNat (Int.ofNat x1.1.length)) 8) 140737488355328) (L3 ((Int.ofNat 0),(S.rep (Int.ofNat x1.1.length) (Int.ofNat 0)))) none))
def qfw(lf:Nat)(x1:qac)(L3:(Int × (List Int))->Option qav)(L8:((List Int) × Int × (List Int))->Option qav)(p:Int × (List Int)):Option qav:=(cond (iltI p.1 (Int.ofNat p.2.length)) (match (jget p.2 p.1) with|none=>none|some v0=>(match (GetElem?.getElem? p.2 (Int.toNat p.1)) with|none=>none|some v1=>(L3 ((IntKind.i64.wrap (Int.add p.1 (Int.ofNat 1))),(List.set p.2 (Int.toNat p.1) (Int.negSucc 0)))))) (L8 (p.2,(Int.ofNat 0),[])))
def qmu(lf:Nat)(x1:qac)(L8:((List Int) × Int × (List Int))->Option qav)(L12:((List Int) × (List Int) × Int)->Option qav)(p:(List Int) × Int × (List Int)):Option qav:=(cond (iltI p.2.1 (Int.ofNat x1.2.length)) (match (jget x1.2 p.2.1) with|none=>none|some v0=>(cond (Bool.not (ieqI v0.1 (Int.ofNat 4))) (L8 (p.1,(IntKind.i64.wrap (Int.add p.2.1 (Int.ofNat 1))),p.2.2)) (match (jget p.1 v0.2) with|none=>none|some v24=>(match (GetElem?.getElem? p.1 (Int.toNat v0.2)) with|none=>none|some v25=>(cond (Bool.not (iltI v25 (Int.ofNat 0))) (L8 (p.1,(IntKind.i64.wrap (Int.add p.2.1 (Int.ofNat 1))),p.2.2)) (match (jget p.1 v0.2) with|none=>none|some v26=>(match (GetElem?.getElem? p.1 (Int.toNat v0.2)) with|none=>none|some v27=>(cond (Nat.ble (Nat.mul (Nat.add p.2.2.length 1) 8) 140737488355328) (L8 ((List.set p.1 (Int.toNat v0.2) (Int.ofNat p.2.2.length)),(IntKind.i64.wrap (Int.add p.2.1 (Int.ofNat 1))),(List.append p.2.2 [v0.2]))) none)))))))) (L12 (p.1,p.2.2,(Int.ofNat 0))))
def qgu(lf:Nat)(x1:qac)(L16:((List Int) × (List Int) × (List DVal) × ByteArray × Int × Int)->Option qav)(L21:((List Int) × (List Int) × Int × (List qaa))->Option qav)(p:(List Int) × (List Int) × Int):Option qav:=(cond (iltI p.2.2 (Int.ofNat p.2.1.length)) (match (jget p.2.1 p.2.2) with|none=>none|some v0=>(match (GetElem?.getElem? p.2.1 (Int.toNat p.2.2)) with|none=>none|some v1=>(match (jget x1.1 v1) with|none=>none|some v2=>(L16 (p.1,p.2.1,v2.2,v2.1,(Int.ofNat 0),p.2.2))))) (L21 (p.1,p.2.1,(Int.ofNat 0),[])))
def qnb(lf:Nat)(x1:qac)(L16:((List Int) × (List Int) × (List DVal) × ByteArray × Int × Int)->Option qav)(L12:((List Int) × (List Int) × Int)->Option qav)(p:(List Int) × (List Int) × (List DVal) × ByteArray × Int × Int):Option qav:=(cond (iltI p.2.2.2.2.1 (Int.ofNat p.2.2.1.length)) (match (jget p.2.2.1 p.2.2.2.2.1) with|none=>none|some v0=>(cond (Bool.not (ieqI v0.1 (Int.ofNat 4))) (L16 (p.1,p.2.1,p.2.2.1,p.2.2.2.1,(IntKind.i64.wrap (Int.add p.2.2.2.2.1 (Int.ofNat 1))),p.2.2.2.2.2)) (match (jget p.1 v0.2) with|none=>none|some v24=>(match (GetElem?.getElem? p.1 (Int.toNat v0.2)) with|none=>none|some v25=>(cond (Bool.not (iltI v25 (Int.ofNat 0))) (L16 (p.1,p.2.1,p.2.2.1,p.2.2.2.1,(IntKind.i64.wrap (Int.add p.2.2.2.2.1 (Int.ofNat 1))),p.2.2.2.2.2)) (match (jget p.1 v0.2) with|none=>none|some v26=>(match (GetElem?.getElem? p.1 (Int.toNat v0.2)) with|none=>none|some v27=>(cond (Nat.ble (Nat.mul (Nat.add p.2.1.length 1) 8) 140737488355328) (L16 ((List.set p.1 (Int.toNat v0.2) (Int.ofNat p.2.1.length)),(List.append p.2.1 [v0.2]),p.2.2.1,p.2.2.2.1,(IntKind.i64.wrap (Int.add p.2.2.2.2.1 (Int.ofNat 1))),p.2.2.2.2.2)) none)))))))) (L12 (p.1,p.2.1,(IntKind.i64.wrap (Int.add p.2.2.2.2.2 (Int.ofNat 1))))))
def qmi(lf:Nat)(x1:qac)(L26:((List Int) × (List Int) × ByteArray × (List DVal) × Int × (List DVal) × Int × (List qaa))->Option qav)(L31:((List Int) × (List qaa) × Int × (List DVal))->Option qav)(p:(List Int) × (List Int) × Int × (List qaa)):Option qav:=(cond (iltI p.2.2.1 (Int.ofNat p.2.1.length)) (match (jget p.2.1 p.2.2.1) with|none=>none|some v0=>(match (GetElem?.getElem? p.2.1 (Int.toNat p.2.2.1)) with|none=>none|some v1=>(match (jget x1.1 v1) with|none=>none|some v2=>(L26 (p.1,p.2.1,v2.1,v2.2,(Int.ofNat 0),[],p.2.2.1,p.2.2.2))))) (L31 (p.1,p.2.2.2,(Int.ofNat 0),[])))
def qky(lf:Nat)(x1:qac)(L26:((List Int) × (List Int) × ByteArray × (List DVal) × Int × (List DVal) × Int × (List qaa))->Option qav)(L21:((List Int) × (List Int) × Int × (List qaa))->Option qav)(p:(List Int) × (List Int) × ByteArray × (List DVal) × Int × (List DVal) × Int × (List qaa)):Option qav:=(cond (iltI p.2.2.2.2.1 (Int.ofNat p.2.2.2.1.length)) (match (jget p.2.2.2.1 p.2.2.2.2.1) with|none=>none|some v0=>(cond (ieqI v0.1 (Int.ofNat 4)) (match (jget p.1 v0.2) with|none=>none|some v1=>(match (GetElem?.getElem? p.1 (Int.toNat v0.2)) with|none=>none|some v2=>(cond (Nat.ble (Nat.mul (Nat.add p.2.2.2.2.2.1.length 1) 16) 140737488355328) (L26 (p.1,p.2.1,p.2.2.1,p.2.2.2.1,(IntKind.i64.wrap (Int.add p.2.2.2.2.1 (Int.ofNat 1))),(List.append p.2.2.2.2.2.1 [(v0.1,v2)]),p.2.2.2.2.2.2.1,p.2.2.2.2.2.2.2)) none))) (cond (Nat.ble (Nat.mul (Nat.add p.2.2.2.2.2.1.length 1) 16) 140737488355328) (L26 (p.1,p.2.1,p.2.2.1,p.2.2.2.1,(IntKind.i64.wrap (Int.add p.2.2.2.2.1 (Int.ofNat 1))),(List.append p.2.2.2.2.2.1 [(v0.1,v0.2)]),p.2.2.2.2.2.2.1,p.2.2.2.2.2.2.2)) none))) (cond (Nat.ble (Nat.mul (Nat.add p.2.2.2.2.2.2.2.length 1) 40) 140737488355328) (L21 (p.1,p.2.1,(IntKind.i64.wrap (Int.add p.2.2.2.2.2.2.1 (Int.ofNat 1))),(List.append p.2.2.2.2.2.2.2 [(p.2.2.1,p.2.2.2.2.2.1)]))) none))
def qnw(lf:Nat)(x1:qac)(L31:((List Int) × (List qaa) × Int × (List DVal))->Option qav)(p:(List Int) × (List qaa) × Int × (List DVal)):Option qav:=(cond (iltI p.2.2.1 (Int.ofNat x1.2.length)) (match (jget x1.2 p.2.2.1) with|none=>none|some v0=>(cond (ieqI v0.1 (Int.ofNat 4)) (match (jget p.1 v0.2) with|none=>none|some v1=>(match (GetElem?.getElem? p.1 (Int.toNat v0.2)) with|none=>none|some v2=>(cond (Nat.ble (Nat.mul (Nat.add p.2.2.2.length 1) 16) 140737488355328) (L31 (p.1,p.2.1,(IntKind.i64.wrap (Int.add p.2.2.1 (Int.ofNat 1))),(List.append p.2.2.2 [(v0.1,v2)]))) none))) (cond (Nat.ble (Nat.mul (Nat.add p.2.2.2.length 1) 16) 140737488355328) (L31 (p.1,p.2.1,(IntKind.i64.wrap (Int.add p.2.2.1 (Int.ofNat 1))),(List.append p.2.2.2 [(v0.1,v0.2)]))) none))) (some (((p.2.1,p.2.2.2),(p.1,(Int.ofNat 0))),())))
abbrev gz30:Type:=ElA [qai]->Option qav
abbrev sz30(g:gz30):Sm:=⟨[qai],[(false,q0f)],g⟩
abbrev Ez30(g:gz30)(J:JT qav)(lf:Nat)(x1:qac):=qbc Tryz.prog ttT.get qkr fi73.nt (q03 _ lf) lf qmv J fi73.body [] (qau (argV [qai] (x1,())) 0 .leaf) S0 [] (qar ttT.get fi73 (sz30 g))
abbrev Bz30(g:gz30)(J:JT qav)(lf k:Nat)(ms:List Nat)(q:NRes):=qbi Tryz.prog ttT.get qkr fi73.nt (q03 _ lf) lf qmv J k fi73.body [] ms q (qar ttT.get fi73 (sz30 g))
theorem zmq(g:gz30)(J:JT qav)(lf:Nat)(x1:qac):Ez30 g J lf x1=qy9 lf x1 (fun q=>J 3 [lf] (qi4 x1 q)):=by kernel_rfl
theorem zsd(g:gz30)(J:JT qav)(lf:Nat)(x1:qac)(m1:Nat)(p:Int × (List Int)):Bz30 g J lf 3 [m1] (qi4 x1 p)=qfw lf x1 (fun q=>J 3 [m1] (qi4 x1 q)) (fun q=>J 8 [lf] (qjy x1 q)) p:=by kernel_rfl
theorem z19(g:gz30)(J:JT qav)(lf:Nat)(x1:qac)(m1:Nat)(p:(List Int) × Int × (List Int)):Bz30 g J lf 8 [m1] (qjy x1 p)=qmu lf x1 (fun q=>J 8 [m1] (qjy x1 q)) (fun q=>J 12 [lf] (qfj x1 q)) p:=by kernel_rfl
theorem zrg(g:gz30)(J:JT qav)(lf:Nat)(x1:qac)(m1:Nat)(p:(List Int) × (List Int) × Int):Bz30 g J lf 12 [m1] (qfj x1 p)=qgu lf x1 (fun q=>J 16 [m1,lf] (qj5 x1 q)) (fun q=>J 21 [lf] (qfm x1 q)) p:=by kernel_rfl
theorem zj7(g:gz30)(J:JT qav)(lf:Nat)(x1:qac)(m1:Nat)(m2:Nat)(p:(List Int) × (List Int) × (List DVal) × ByteArray × Int × Int):Bz30 g J lf 16 [m1,m2] (qj5 x1 p)=qnb lf x1 (fun q=>J 16 [m1,m2] (qj5 x1 q)) (fun q=>J 12 [m1] (qfj x1 q)) p:=by kernel_rfl
theorem zoh(g:gz30)(J:JT qav)(lf:Nat)(x1:qac)(m1:Nat)(p:(List Int) × (List Int) × Int × (List qaa)):Bz30 g J lf 21 [m1] (qfm x1 p)=qmi lf x1 (fun q=>J 26 [m1,lf] (qiu x1 q)) (fun q=>J 31 [lf] (qka x1 q)) p:=by kernel_rfl
theorem zm6(g:gz30)(J:JT qav)(lf:Nat)(x1:qac)(m1:Nat)(m2:Nat)(p:(List Int) × (List Int) × ByteArray × (List DVal) × Int × (List DVal) × Int × (List qaa)):Bz30 g J lf 26 [m1,m2] (qiu x1 p)=qky lf x1 (fun q=>J 26 [m1,m2] (qiu x1 q)) (fun q=>J 21 [m1] (qfm x1 q)) p:=by kernel_rfl
theorem zzh(g:gz30)(J:JT qav)(lf:Nat)(x1:qac)(m1:Nat)(p:(List Int) × (List qaa) × Int × (List DVal)):Bz30 g J lf 31 [m1] (qka x1 p)=qnw lf x1 (fun q=>J 31 [m1] (qka x1 q)) p:=by kernel_rfl
theorem qg6:(regs fi73.body).Nodup:=by decide +kernel
theorem qgd:okC qkr qmv q23 fi73.body none=true:=by kernel_rfl
def Az30(g:gz30)(lf:Nat):JT qav:=atN Tryz.prog ttT.get qkr fi73 (sz30 g) (q03 _ lf) lf q23
def qgn(lf:Nat)(x1:qac)(K12:((List Int) × (List Int) × Int)->Option qav):Nat->((List Int) × (List Int) × (List DVal) × ByteArray × Int × Int)->Option qav:=rounds fun K p=>qnb lf x1 K K12 p
theorem q9v(g:gz30)(lf:Nat)(x1:qac)(m1:Nat):∀(n:Nat) (p:(List Int) × (List Int) × (List DVal) × ByteArray × Int × Int),Az30 g lf 16 [m1,n] (qj5 x1 p)=qgn lf x1 (fun q=>Az30 g lf 12 [m1] (qfj x1 q)) n p
 | 0,p=>qax 16 [m1,0] rfl _
 | n+1,p=>by
  have ih:=q9v g lf x1 m1 n;refine(qao (qaj 20 _) qg6 qgd 16 [m1,n+1] [m1,n] rfl _).trans ((zj7 g (Az30 g lf) lf x1 m1 n p).trans ?_);rw[(show (fun q=>Az30 g lf 16 [m1,n] (qj5 x1 q))=(fun q=>qgn lf x1 (fun q=>Az30 g lf 12 [m1] (qfj x1 q)) n q) from funext ih)];rfl
def qk2(lf:Nat)(x1:qac)(K21:((List Int) × (List Int) × Int × (List qaa))->Option qav):Nat->((List Int) × (List Int) × ByteArray × (List DVal) × Int × (List DVal) × Int × (List qaa))->Option qav:=rounds fun K p=>qky lf x1 K K21 p
theorem q6q(g:gz30)(lf:Nat)(x1:qac)(m1:Nat):∀(n:Nat) (p:(List Int) × (List Int) × ByteArray × (List DVal) × Int × (List DVal) × Int × (List qaa)),Az30 g lf 26 [m1,n] (qiu x1 p)=qk2 lf x1 (fun q=>Az30 g lf 21 [m1] (qfm x1 q)) n p
 | 0,p=>qax 26 [m1,0] rfl _
 | n+1,p=>by
  have ih:=q6q g lf x1 m1 n;refine(qao (qaj 20 _) qg6 qgd 26 [m1,n+1] [m1,n] rfl _).trans ((zm6 g (Az30 g lf) lf x1 m1 n p).trans ?_);rw[(show (fun q=>Az30 g lf 26 [m1,n] (qiu x1 q))=(fun q=>qk2 lf x1 (fun q=>Az30 g lf 21 [m1] (qfm x1 q)) n q) from funext ih)];rfl
def qo7(lf:Nat)(x1:qac):Nat->((List Int) × (List qaa) × Int × (List DVal))->Option qav:=rounds fun K p=>qnw lf x1 K p
theorem q7x(g:gz30)(lf:Nat)(x1:qac):∀(n:Nat) (p:(List Int) × (List qaa) × Int × (List DVal)),Az30 g lf 31 [n] (qka x1 p)=qo7 lf x1 n p
 | 0,p=>qax 31 [0] rfl _
 | n+1,p=>by
  have ih:=q7x g lf x1 n;refine(qao (qaj 20 _) qg6 qgd 31 [n+1] [n] rfl _).trans ((zzh g (Az30 g lf) lf x1 n p).trans ?_);rw[(show (fun q=>Az30 g lf 31 [n] (qka x1 q))=(fun q=>qo7 lf x1 n q) from funext ih)];rfl
def ql7(lf:Nat)(x1:qac):Nat->((List Int) × (List Int) × Int × (List qaa))->Option qav:=rounds fun K p=>qmi lf x1 (fun q=>qk2 lf x1 K lf q) (fun q=>qo7 lf x1 lf q) p
theorem q5t(g:gz30)(lf:Nat)(x1:qac):∀(n:Nat) (p:(List Int) × (List Int) × Int × (List qaa)),Az30 g lf 21 [n] (qfm x1 p)=ql7 lf x1 n p
 | 0,p=>qax 21 [0] rfl _
 | n+1,p=>by
  have ih:=q5t g lf x1 n;refine(qao (qaj 20 _) qg6 qgd 21 [n+1] [n] rfl _).trans ((zoh g (Az30 g lf) lf x1 n p).trans ?_);rw[(show (fun q=>Az30 g lf 26 [n,lf] (qiu x1 q))=(fun q=>qk2 lf x1 (fun q=>Az30 g lf 21 [n] (qfm x1 q)) lf q) from funext fun q=>q6q g lf x1 n lf q),(show (fun q=>Az30 g lf 31 [lf] (qka x1 q))=(fun q=>qo7 lf x1 lf q) from funext fun q=>q7x g lf x1 lf q),(show (fun q=>Az30 g lf 21 [n] (qfm x1 q))=(fun q=>ql7 lf x1 n q) from funext ih)];rfl
def qox(lf:Nat)(x1:qac):Nat->((List Int) × (List Int) × Int)->Option qav:=rounds fun K p=>qgu lf x1 (fun q=>qgn lf x1 K lf q) (fun q=>ql7 lf x1 lf q) p
theorem q5e(g:gz30)(lf:Nat)(x1:qac):∀(n:Nat) (p:(List Int) × (List Int) × Int),Az30 g lf 12 [n] (qfj x1 p)=qox lf x1 n p
 | 0,p=>qax 12 [0] rfl _
 | n+1,p=>by
  have ih:=q5e g lf x1 n;refine(qao (qaj 20 _) qg6 qgd 12 [n+1] [n] rfl _).trans ((zrg g (Az30 g lf) lf x1 n p).trans ?_);rw[(show (fun q=>Az30 g lf 16 [n,lf] (qj5 x1 q))=(fun q=>qgn lf x1 (fun q=>Az30 g lf 12 [n] (qfj x1 q)) lf q) from funext fun q=>q9v g lf x1 n lf q),(show (fun q=>Az30 g lf 21 [lf] (qfm x1 q))=(fun q=>ql7 lf x1 lf q) from funext fun q=>q5t g lf x1 lf q),(show (fun q=>Az30 g lf 12 [n] (qfj x1 q))=(fun q=>qox lf x1 n q) from funext ih)];rfl
def qlo(lf:Nat)(x1:qac):Nat->((List Int) × Int × (List Int))->Option qav:=rounds fun K p=>qmu lf x1 K (fun q=>qox lf x1 lf q) p
theorem zaf(g:gz30)(lf:Nat)(x1:qac):∀(n:Nat) (p:(List Int) × Int × (List Int)),Az30 g lf 8 [n] (qjy x1 p)=qlo lf x1 n p
 | 0,p=>qax 8 [0] rfl _
 | n+1,p=>by
  have ih:=zaf g lf x1 n;refine(qao (qaj 20 _) qg6 qgd 8 [n+1] [n] rfl _).trans ((z19 g (Az30 g lf) lf x1 n p).trans ?_);rw[(show (fun q=>Az30 g lf 12 [lf] (qfj x1 q))=(fun q=>qox lf x1 lf q) from funext fun q=>q5e g lf x1 lf q),(show (fun q=>Az30 g lf 8 [n] (qjy x1 q))=(fun q=>qlo lf x1 n q) from funext ih)];rfl
def qsd(lf:Nat)(x1:qac):Nat->(Int × (List Int))->Option qav:=rounds fun K p=>qfw lf x1 K (fun q=>qlo lf x1 lf q) p
theorem q78(g:gz30)(lf:Nat)(x1:qac):∀(n:Nat) (p:Int × (List Int)),Az30 g lf 3 [n] (qi4 x1 p)=qsd lf x1 n p
 | 0,p=>qax 3 [0] rfl _
 | n+1,p=>by
  have ih:=q78 g lf x1 n;refine(qao (qaj 20 _) qg6 qgd 3 [n+1] [n] rfl _).trans ((zsd g (Az30 g lf) lf x1 n p).trans ?_);rw[(show (fun q=>Az30 g lf 8 [lf] (qjy x1 q))=(fun q=>qlo lf x1 lf q) from funext fun q=>zaf g lf x1 lf q),(show (fun q=>Az30 g lf 3 [n] (qi4 x1 q))=(fun q=>qsd lf x1 n q) from funext ih)];rfl
def Fz30(lf:Nat)(x1:qac):Option qav:=qy9 lf x1 (fun q=>qsd lf x1 lf q)
theorem zt6(g:gz30)(lf:Nat)(x1:qac):Ez30 g (Az30 g lf) lf x1=Fz30 lf x1:=by
  refine(zmq g (Az30 g lf) lf x1).trans ?_;rw[(show (fun q=>Az30 g lf 3 [lf] (qi4 x1 q))=(fun q=>qsd lf x1 lf q) from funext fun q=>q78 g lf x1 lf q)];rfl
theorem zrv:qa1 Tryz.prog q4y:=trivial
theorem zjm{g:gz30}(hsm:SmOK Tryz.prog zcm)(hg:∀(x:ElA [qai]) (y:qav),WfA [qai] x->g x=some y->∃lf,Fz30 lf x.1=some y):Con Tryz.prog 73 ⟨[qai],[(false,q0f)],g⟩ :=
 conV (st:=qmv) (fun lf x=>Fz30 lf x.1) cm3 zpn zrv qg6 qgd (fun lf x=>zt6 g lf x.1) hsm hg
def S.atL(n:Nat)(o:List Int):List Int:=(List.range n).map fun k=>S.numOr (S.tab o) (Int.ofNat k)
theorem qpb(n:Nat)(o:List Int):(S.atL n o).length=n:=by simp[S.atL]
theorem qje(o:List Int)(k:Int):S.numOr (S.tab o) k=if k∈o then Int.ofNat (o.idxOf k) else -1:=by
 unfold S.numOr;rw[qzc];split<;>rfl
theorem qfa{n:Nat}{o:List Int}{k:Int}(h1:0<=k)(h2:k<Int.ofNat n):(S.atL n o)[k.toNat]?=some (S.numOr (S.tab o) k):=by
 have hk:k.toNat<n:=by have:(n:Int)=Int.ofNat n:=rfl;omega
 have e:Int.ofNat k.toNat=k:=jee h1;unfold S.atL;rw[jb9,List.getElem?_range hk];simp only[jdk,e]
theorem qrb{n:Nat}{o:List Int}{k:Int}(h1:0<=k)(h2:k<Int.ofNat n):jget (S.atL n o) k=some (S.numOr (S.tab o) k):=by
 obtain⟨x,e1,e2,_⟩:=qf9 (l:=S.atL n o) h1 (by rw[qpb];exact h2);rw[e1,<- e2,qfa h1 h2]
theorem q6h{o:List Int}{k:Int}:iltI (S.numOr (S.tab o) k) (Int.ofNat 0)=decide (k ∉ o):=by
 rw[qal,qje];by_cases h:k∈o
 ·rw[jal h];have:¬(Int.ofNat (o.idxOf k)<Int.ofNat 0):=by
   have:(0:Int)<=Int.ofNat (o.idxOf k):=jb1 _;show ¬(_<(0:Int));omega
  rw[jae this,jae (jco.2 h)]
 ·rw[jak h];rw[jaf h];rfl
theorem q11{n:Nat}{o:List Int}{k:Int}(h1:0<=k)(h2:k<Int.ofNat n)(hk:k ∉ o):(S.atL n o).set k.toNat (Int.ofNat o.length)=S.atL n (o++[k]):=by
 have hkn:k.toNat<n:=by have:(n:Int)=Int.ofNat n:=rfl;omega
 have e:Int.ofNat k.toNat=k:=jee h1;refine jcg fun j=>?_;rw[List.getElem?_set];by_cases hj:k.toNat=j
 ·subst hj;rw[jal rfl,jal (by rw[qpb];exact hkn)];rw[qfa h1 h2,qje,jal (by simp),List.idxOf_append,jak hk];simp
 ·rw[jak hj];by_cases hjn:j<n
  ·have g1:(0:Int)<=Int.ofNat j:=jb1 _;have g2:Int.ofNat j<Int.ofNat n:=by show (j:Int)<(n:Int);omega
   have a1:=qfa (o:=o) g1 g2;have a2:=qfa (o:=o++[k]) g1 g2;have e2:(Int.ofNat j).toNat=j:=rfl;rw[e2] at a1 a2;rw[a1,a2,qje,qje];have hne:Int.ofNat j≠k:=fun h=>hj (by rw[<- h];rfl);by_cases hm:Int.ofNat j∈o
   ·rw[jal hm,jal (jbz _ hm),List.idxOf_append,jal hm]
   ·rw[jak hm,jak (fun h=>by
     rcases jbe.1 h with h|h
     ·exact hm h
     ·exact hne (jb0.1 h))]
  ·rw[jbc (by rw[qpb];omega),jbc (by rw[qpb];omega)]
theorem zs1(n:Nat):S.atL n []=List.replicate n (-1):=by
 refine jcg fun j=>?_;by_cases hj:j<n
 ·have a1:=qfa (n:=n) (o:=[]) (k:=Int.ofNat j) (jb1 _) (by show (j:Int)<(n:Int);omega);have e2:(Int.ofNat j).toNat=j:=rfl;rw[e2] at a1;rw[a1,List.getElem?_replicate_of_lt hj,qje,jak (by simp)]
 ·rw[jbc (by rw[qpb];omega),jbc (by simp;omega)]
theorem q5g{i:Nat}(h:i+1<LF):IntKind.i64.wrap (Int.add (Int.ofNat i) (Int.ofNat 1))=Int.ofNat (i+1):=qxp (by omega)
section
variable {g : List qaa × List DVal}
theorem zec(L8:((List Int) × Int × (List Int))->Option qav):∀(k i f:Nat),k<f->i+k+1<LF->rounds (fun K p=>qfw LF g K L8 p) f (Int.ofNat i,List.replicate i (-1)++List.replicate k 0)=L8 (List.replicate (i+k) (-1),Int.ofNat 0,[])
 | 0,i,f+1,hf,hl=>by
  show qfw LF g _ L8 _=_;have e:(List.replicate i (-1:Int)++List.replicate 0 0)=List.replicate i (-1):=by simp
  simp only[qfw,e,List.length_replicate,qaz,jad,jbt]
 | k+1,i,f+1,hf,hl=>by
  have ih:=zec L8 k (i+1) f (by omega) (by omega);show qfw LF g (rounds (fun K p=>qfw LF g K L8 p) f) L8 _=_;generalize rounds (fun K p=>qfw LF g K L8 p) f=Z at ih ⊢;have hlen:(List.replicate i (-1:Int)++List.replicate (k+1) 0).length=i+(k+1):=by simp
  have h1:iltI (Int.ofNat i) (Int.ofNat (List.length (List.replicate i (-1:Int)++List.replicate (k+1) 0)))=true:=by rw[hlen,qal];exact jaf (by show (i:Int)<((i+(k+1):Nat):Int);omega)
  have h2:(List.replicate i (-1:Int)++List.replicate (k+1) 0)[i]?=some 0:=by rw[jat (by simp)];simp
  have h3:jget (List.replicate i (-1:Int)++List.replicate (k+1) 0) (Int.ofNat i)=some 0:=by rw[qbz,h2]
  have e1:Int.toNat (Int.ofNat i)=i:=rfl;have h4:(List.replicate i (-1:Int)++List.replicate (k+1) 0).set i (Int.negSucc 0)=List.replicate (i+1) (-1)++List.replicate k 0:=by
   rw[List.set_append_right _ _ (by simp),List.length_replicate,jeh,List.replicate_succ,List.set_cons_zero,List.replicate_succ',jbj];rfl
  simp only[qfw,h1,jaa,h3,e1,h2,h4,q5g (show i+1<LF by omega)];rw[ih,show i+1+k=i+(k+1) by omega]
 | k,i,0,hf,hl=>by omega

theorem q3s{m:Nat}(h:m<=100000):Nat.ble (Nat.mul (Nat.add m 1) 8) 140737488355328=true:=jbk (by show (m+1)*8<=_;omega)
theorem zr4(hg:GF g)(L12:((List Int) × (List Int) × Int)->Option qav)(o:List Int)(ho:OrdOK g.1 o) :
  rounds (fun K p=>qmu LF g K L12 p) LF (S.atL g.1.length o,Int.ofNat 0,o)=L12 (S.atL g.1.length (S.meetL o (S.refsL g.2)),S.meetL o (S.refsL g.2),Int.ofNat 0):=by
 have hr60:=hg.roots;have hn4:=hg.nodes;refine range0 (α:=DVal) (σ:=List Int × List Int) (R:=qav) g.2 (fun i s=>(s.1,i,s.2)) (fun i s=>s.1=S.atL g.1.length s.2/\OrdOK g.1 s.2)
  (fun rest i s=>L12 (S.atL g.1.length (S.meetL s.2 (S.refsL rest)),S.meetL s.2 (S.refsL rest),Int.ofNat 0)) (by unfold LF;omega) (fun K s hI=>?_) (fun K i v rest s hI r hk=>?_) (S.atL g.1.length o,o) ⟨rfl,ho⟩
 ·simp only[qmu,qaz,jad,S.refsL,S.meetL];rw[hI.1]
 ·obtain⟨s1,s2⟩:=s;obtain⟨hI1,hI2⟩:=hI;dsimp only at hI1 hI2;subst hI1;have hlen:s2.length<=g.1.length:=hI2.len;have hn4:g.1.length<=400:=hn4;simp only[qmu,r.ilt,jaa,r.get,r.next];by_cases h4:(v:Int × Int).1=4
  ·have h5:ieqI (v:Int × Int).1 (Int.ofNat 4)=true:=by rw[qat];exact jaf h4
   obtain⟨b1,b2⟩:=hg.rref (v:Int × Int).2 (qqa r.mem h4);have e:S.refsL (v::rest)=(v:Int × Int).2::S.refsL rest:=by simp only[S.refsL,jal h4]
   simp only[h5,ja1,jad,qrb b1 b2,qfa b1 b2,q6h];by_cases hm:(v:Int × Int).2∈s2
   ·rw[jae (jco.2 hm)];simp only[jax,jaa];have:=hk (S.atL g.1.length s2,s2) ⟨rfl,hI2⟩;rw[this,e];simp only[S.meetL,jal hm]
   ·rw[jaf hm];simp only[ja1,jad,q3s (show s2.length<=100000 by omega),jaa,q11 b1 b2 hm];have:=hk (S.atL g.1.length (s2++[(v:Int × Int).2]),s2++[(v:Int × Int).2]) ⟨rfl,by
     have:=hI2.meet (l:=[(v:Int × Int).2]) (fun k hk=>by rw[jb0.1 hk];exact⟨b1,b2⟩);simpa only [S.meetL,jak hm] using this⟩
    refine jc7 this ?_;rw[e];simp only[S.meetL,jak hm]
  ·have h5:ieqI (v:Int × Int).1 (Int.ofNat 4)=false:=by rw[qat];exact jae h4
   have e:S.refsL (v::rest)=S.refsL rest:=by simp only[S.refsL,jak h4]
   simp only[h5,jax,jaa];have:=hk (S.atL g.1.length s2,s2) ⟨rfl,hI2⟩;rw[this,e]
theorem zo8(hg:GF g)(K12:((List Int) × (List Int) × Int)->Option qav)(vs:List (Int × Int))(hv:vs.length<=400)(hvr:∀k∈S.refsL vs,0<=k/\k<Int.ofNat g.1.length)(c:ByteArray)(i0:Int)(o:List Int)(ho:OrdOK g.1 o) :
  rounds (fun K p=>qnb LF g K K12 p) LF (S.atL g.1.length o,o,vs,c,Int.ofNat 0,i0)=K12 (S.atL g.1.length (S.meetL o (S.refsL vs)),S.meetL o (S.refsL vs),IntKind.i64.wrap (Int.add i0 (Int.ofNat 1))):=by
 have hn4:=hg.nodes;refine range0 (α:=Int × Int) (σ:=List Int × List Int) (R:=qav) vs (fun k s=>(s.1,s.2,vs,c,k,i0)) (fun i s=>s.1=S.atL g.1.length s.2/\OrdOK g.1 s.2)
  (fun rest i s=>K12 (S.atL g.1.length (S.meetL s.2 (S.refsL rest)),S.meetL s.2 (S.refsL rest),IntKind.i64.wrap (Int.add i0 (Int.ofNat 1)))) (by unfold LF;omega) (fun K s hI=>?_) (fun K i v rest s hI r hk=>?_) (S.atL g.1.length o,o) ⟨rfl,ho⟩
 ·simp only[qnb,qaz,jad,S.refsL,S.meetL];rw[hI.1]
 ·obtain⟨s1,s2⟩:=s;obtain⟨hI1,hI2⟩:=hI;dsimp only at hI1 hI2;subst hI1;have hlen:s2.length<=g.1.length:=hI2.len;have hn4:g.1.length<=400:=hn4;have h1:=r.ilt;have h2:=r.get;simp only[qnb,h1,jaa,h2,r.next];by_cases h4:v.1=4
  ·have h5:ieqI v.1 (Int.ofNat 4)=true:=by rw[qat];exact jaf h4
   obtain⟨b1,b2⟩:=hvr v.2 (qqa r.mem h4);have e:S.refsL (v::rest)=v.2::S.refsL rest:=by simp only[S.refsL,jal h4]
   simp only[h5,ja1,jad,qrb b1 b2,qfa b1 b2,q6h];by_cases hm:v.2∈s2
   ·rw[jae (jco.2 hm)];simp only[jax,jaa];have:=hk (S.atL g.1.length s2,s2) ⟨rfl,hI2⟩;rw[this,e];simp only[S.meetL,jal hm]
   ·rw[jaf hm];simp only[ja1,jad,q3s (show s2.length<=100000 by omega),jaa,q11 b1 b2 hm];have:=hk (S.atL g.1.length (s2++[v.2]),s2++[v.2]) ⟨rfl,by
     have:=hI2.meet (l:=[v.2]) (fun k hk=>by rw[jb0.1 hk];exact⟨b1,b2⟩);simpa only [S.meetL,jak hm] using this⟩
    refine jc7 this ?_;rw[e];simp only[S.meetL,jak hm]
  ·have h5:ieqI v.1 (Int.ofNat 4)=false:=by rw[qat];exact jae h4
   have e:S.refsL (v::rest)=S.refsL rest:=by simp only[S.refsL,jak h4]
   simp only[h5,jax,jaa];have:=hk (S.atL g.1.length s2,s2) ⟨rfl,hI2⟩;rw[this,e]
theorem q8d(hg:GF g)(L21:((List Int) × (List Int) × Int × (List qaa))->Option qav):∀(f n i:Nat) (o:List Int),OrdOK g.1 o->i<=o.length ->
  g.1.length-i<f->g.1.length-i<n ->
  rounds (fun K p=>qgu LF g (fun q=>qgn LF g K LF q) L21 p) n (S.atL g.1.length o,o,Int.ofNat i)=L21 (S.atL g.1.length (S.walk g.1 f o i),S.walk g.1 f o i,Int.ofNat 0,[])
 | 0,n,i,o,ho,hi,hf,hn=>by omega
 | f+1,0,i,o,ho,hi,hf,hn=>by omega
 | f+1,n+1,i,o,ho,hi,hf,hn=>by
  have hlen:=ho.len;have hn4:g.1.length<=400:=hg.nodes;have ih:=q8d hg L21 f n;show qgu LF g (fun q=>qgn LF g (rounds (fun K p=>qgu LF g (fun q=>qgn LF g K LF q) L21 p) n) LF q) L21 _=_;generalize rounds (fun K p=>qgu LF g (fun q=>qgn LF g K LF q) L21 p) n=Z at ih ⊢;by_cases he:i=o.length
  ·have h1:iltI (Int.ofNat i) (Int.ofNat o.length)=false:=by rw[he];exact qaz _
   have h2:o[i]?=none:=jbc (by omega);simp only[qgu,h1,jad,S.walk,h2]
  ·have hlt:i<o.length:=by omega
   have h1:iltI (Int.ofNat i) (Int.ofNat o.length)=true:=by rw[qal];exact jaf (by show (i:Int)<(o.length:Int);omega)
   have h2:o[i]?=some o[i]:=jab hlt;have h3:jget o (Int.ofNat i)=some o[i]:=by rw[qbz];exact h2
   obtain⟨k1,k2⟩:=ho.lt o[i] (ja3 hlt);obtain⟨v,v1,v2,v3⟩:=qf9 (l:=g.1) k1 k2;have e1:Int.toNat (Int.ofNat i)=i:=rfl;have hr:=hg.ref v v3;have hv:List.length (α:=Int × Int) (v:ByteArray × List DVal).2<=30:=hg.vals v v3;have hin:=zo8 hg Z (v:ByteArray × List DVal).2 (by omega) hr (v:ByteArray × List DVal).1 (Int.ofNat i) o ho;have hnext:=ih (i+1) (S.meetL o (S.refsL (v:ByteArray × List DVal).2)) (ho.meet hr) (by have:=qyi (S.refsL (v:ByteArray × List DVal).2) o;omega) (by omega) (by omega);simp only[qgu,h1,jaa,h3,e1,h2,v1,S.walk];refine jc7 hin ?_;rw[q5g (show i+1<LF by unfold LF;omega)];exact hnext
end
section
variable {g : List qaa × List DVal}
theorem q3o{m:Nat}(h:m<=100000):Nat.ble (Nat.mul (Nat.add m 1) 16) 140737488355328=true:=jbk (by show (m+1)*16<=_;omega)
theorem zlo{m:Nat}(h:m<=100000):Nat.ble (Nat.mul (Nat.add m 1) 40) 140737488355328=true:=jbk (by show (m+1)*40<=_;omega)
theorem zbp{o:List Int}{v:Int × Int}(h4:v.1=4)(hm:v.2∈o):S.movedV (S.tab o) v=(v.1,S.numOr (S.tab o) v.2):=by
 have h:(v:Int × Int).1=4:=h4;unfold S.movedV;rw[jal h,qje,qzc,jal hm,jal hm];rfl
theorem ze3{o:List Int}{v:Int × Int}(h4:v.1≠4):S.movedV (S.tab o) v=(v.1,v.2):=by
 unfold S.movedV;rw[jak h4]
theorem zpg(K21:((List Int) × (List Int) × Int × (List qaa))->Option qav)(n:Nat)(o:List Int)(ho:∀k∈o,0<=k/\k<Int.ofNat n)(c:ByteArray)(vs:List (Int × Int))(hv:vs.length<=400)(hvr:∀k∈S.refsL vs,k∈o)(i0:Int)(acc:List qaa)(ha:acc.length<=1000) :
  rounds (fun K p=>qky LF g K K21 p) LF (S.atL n o,o,c,vs,Int.ofNat 0,[],i0,acc)=K21 (S.atL n o,o,IntKind.i64.wrap (Int.add i0 (Int.ofNat 1)),acc++[((c,S.movedL (S.tab o) vs):ByteArray × List DVal)]):=by
 refine(range0 (α:=Int × Int) (σ:=List DVal) (R:=qav) vs (fun k s=>(S.atL n o,o,c,vs,k,s,i0,acc)) (fun i s=>s.length=i)
  (fun rest i s=>K21 (S.atL n o,o,IntKind.i64.wrap (Int.add i0 (Int.ofNat 1)),acc++[((c,s++S.movedL (S.tab o) rest):ByteArray × List DVal)])) (by unfold LF;omega) (fun K s hI=>?_) (fun K i v rest s hI r hk=>?_) [] rfl).trans ?_
 ·simp only[qky,qaz,jad,zlo (show acc.length<=100000 by omega),jaa];have:s++S.movedL (S.tab o) []=s:=by simp[S.movedL]
  rw[this];rfl
 ·have h1:=r.ilt;have h2:=r.get;have hlt:=r.lt;simp only[qky,h1,jaa,h2,r.next,q3o (show s.length<=100000 by omega)];have hstep:S.movedL (S.tab o) (v::rest)=S.movedV (S.tab o) v::S.movedL (S.tab o) rest:=rfl;by_cases h4:v.1=4
  ·have h5:ieqI v.1 (Int.ofNat 4)=true:=by rw[qat];exact jaf h4
   have hm:=hvr v.2 (qqa r.mem h4);obtain⟨b1,b2⟩:=ho v.2 hm;simp only[h5,jaa,qrb b1 b2,qfa b1 b2];have:=hk (s.append [(v.1,S.numOr (S.tab o) v.2)]) (by simp[hI]);refine jc7 this ?_;rw[hstep,zbp h4 hm];simp[jbj]
  ·have h5:ieqI v.1 (Int.ofNat 4)=false:=by rw[qat];exact jae h4
   simp only[h5,jad];have:=hk (s.append [(v.1,v.2)]) (by simp[hI]);refine jc7 this ?_;rw[hstep,ze3 h4];simp[jbj]
 ·simp
theorem z0d(hg:GF g)(L31:((List Int) × (List qaa) × Int × (List DVal))->Option qav)(o:List Int)(ho:OrdOK g.1 o)(hc:q0h g.1 o) :
  rounds (fun K p=>qmi LF g (fun q=>qk2 LF g K LF q) L31 p) LF (S.atL g.1.length o,o,Int.ofNat 0,[])=L31 (S.atL g.1.length o,o.map (S.newNode g.1 (S.tab o)),Int.ofNat 0,[]):=by
 have hn4:g.1.length<=400:=hg.nodes;have hlen:=ho.len;refine(range0 (R:=qav) (σ:=List qaa) o (fun k s=>(S.atL g.1.length o,o,k,s)) (fun k s=>s.length=k) (fun rest k s=>L31 (S.atL g.1.length o,s++rest.map (S.newNode g.1 (S.tab o)),Int.ofNat 0,[])) (by unfold LF;omega) (fun K s hI=>?_) (fun K i v rest s hI r hk=>?_) [] rfl).trans ?_
 ·simp only[qmi,qaz,jad,List.map_nil,jbl]
 ·obtain⟨k1,k2⟩:=ho.lt v r.mem;obtain⟨n,n1,n2,n3⟩:=qf9 (l:=g.1) k1 k2;have e1:Int.toNat (Int.ofNat i)=i:=rfl;have hlt:=r.lt;have hna:S.nodeAt g.1 v=n:=by unfold S.nodeAt;rw[n1];rfl
  have hv:List.length (α:=DVal) (n:ByteArray × List DVal).2<=30:=hg.vals n n3;have hcl:=hc v r.mem;rw[hna] at hcl;have hin:=zpg (g:=g) K g.1.length o ho.lt (n:ByteArray × List DVal).1 (n:ByteArray × List DVal).2 (by show List.length (α:=DVal) (n:ByteArray × List DVal).2<=400;omega) hcl (Int.ofNat i) s (by omega);simp only[qmi,r.ilt,jaa,r.get,e1,r.get?,n1];refine jc7 hin ?_;rw[r.next];have hnew:S.newNode g.1 (S.tab o) v=(((n:ByteArray × List DVal).1,S.movedL (S.tab o) (n:ByteArray × List DVal).2):ByteArray × List DVal):=by
   unfold S.newNode;rw[hna]
  have:=hk (s++[S.newNode g.1 (S.tab o) v]) (by rw[jav,hI];rfl);rw[hnew] at this;refine jc7 this ?_;rw[jb5,hnew];congr 2;simp
 ·rfl
theorem z2a(hg:GF g)(n:Nat)(o:List Int)(ho:∀k∈o,0<=k/\k<Int.ofNat n)(hc:∀k∈S.refsL g.2,k∈o)(acc:List qaa) :
  rounds (fun K p=>qnw LF g K p) LF (S.atL n o,acc,Int.ofNat 0,[])=some (((acc,S.movedL (S.tab o) g.2),(S.atL n o,Int.ofNat 0)),()):=by
 have hr60:g.2.length<=60:=hg.roots
 refine(range0 (α:=Int × Int) (σ:=List DVal) (R:=qav) g.2 (fun k s=>(S.atL n o,acc,k,s)) (fun i s=>s.length=i)
  (fun rest i s=>some (((acc,s++S.movedL (S.tab o) rest),(S.atL n o,Int.ofNat 0)),())) (by unfold LF;omega) (fun K s hI=>?_) (fun K i v rest s hI r hk=>?_) [] rfl).trans ?_
 ·simp only[qnw,qaz,jad];have:s++S.movedL (S.tab o) []=s:=by simp[S.movedL]
  rw[this]
 ·have h1:=r.ilt;have h2:=r.get;have hlt:=r.lt;simp only[qnw,h1,jaa,h2,r.next,q3o (show s.length<=100000 by omega)];have hstep:S.movedL (S.tab o) (v::rest)=S.movedV (S.tab o) v::S.movedL (S.tab o) rest:=rfl;by_cases h4:v.1=4
  ·have h5:ieqI v.1 (Int.ofNat 4)=true:=by rw[qat];exact jaf h4
   have hm:=hc v.2 (qqa r.mem h4);obtain⟨b1,b2⟩:=ho v.2 hm;simp only[h5,jaa,qrb b1 b2,qfa b1 b2];have:=hk (s.append [(v.1,S.numOr (S.tab o) v.2)]) (by simp[hI]);refine jc7 this ?_;rw[hstep,zbp h4 hm];simp[jbj]
  ·have h5:ieqI v.1 (Int.ofNat 4)=false:=by rw[qat];exact jae h4
   simp only[h5,jad];have:=hk (s.append [(v.1,v.2)]) (by simp[hI]);refine jc7 this ?_;rw[hstep,ze3 h4];simp[jbj]
 ·simp
theorem zxq(hf:S.formed g=0):Fz30 LF g=some ((S.canonG g,(S.numsG g,Int.ofNat 0)),()):=by
 have hg:=zch hf;obtain⟨c1,c2,c3⟩:=zp7 hg;have hn4:g.1.length<=400:=hg.nodes;have h0:iltI (Int.ofNat g.1.length) (Int.ofNat 0)=false:=by rw[qal];exact jae (by show ¬((g.1.length:Int)<0);omega)
 have hb:Nat.ble (Nat.mul (Int.toNat (Int.ofNat g.1.length)) 8) 140737488355328=true:=jbk (by show g.1.length*8<=_;omega);have hrep:S.rep (Int.ofNat g.1.length) (Int.ofNat 0)=List.replicate g.1.length 0:=rfl;have e3:=zec (g:=g) (fun q=>qlo LF g LF q) g.1.length 0 LF (by unfold LF;omega) (by unfold LF;omega);have e8:=zr4 hg (fun q=>qox LF g LF q) [] ⟨jdx,fun k hk=>by cases hk⟩;have ho0:OrdOK g.1 (S.meetL [] (S.refsL g.2)):=OrdOK.meet ⟨jdx,fun k hk=>by cases hk⟩ hg.rref;have e12:=q8d hg (fun q=>ql7 LF g LF q) (g.1.length+1) LF 0 _ ho0 (jbm _) (by omega) (by unfold LF;omega);have e21:=z0d hg (fun q=>qo7 LF g LF q) (S.ord g) c1 c2;have e31:=z2a hg g.1.length (S.ord g) c1.lt c3 ((S.ord g).map (S.newNode g.1 (S.tab (S.ord g))));have e:(List.replicate 0 (-1:Int)++List.replicate g.1.length 0)=List.replicate g.1.length 0:=rfl;rw[e,ja5,<- zs1] at e3;simp only[Fz30,qy9,h0,jad,hb,jaa,hrep];exact e3.trans (e8.trans (e12.trans (e21.trans e31)))
end
theorem zrn:Con Tryz.prog zl2 zdk:=zjm trivial fun x y hx h=>⟨LF,by
 obtain⟨g,_⟩:=x;have h:cond (ieqI (S.formed g) (Int.ofNat 0)) (some ((S.canonG g,S.numsG g,Int.ofNat 0),())) none=some y:=h;by_cases hf:S.formed g=0
 ·rw[show ieqI (S.formed g) (Int.ofNat 0)=true by rw[qat];exact jaf hf] at h;exact(zxq (g:=g) hf).trans h
 ·rw[show ieqI (S.formed g) (Int.ofNat 0)=false by rw[qat];exact jae hf] at h;cases h⟩
def qof:Nat->Option Nm:=fun k=>cond (Nat.beq k 11) (some ⟨[0,1,4,6,7,8],[],[],[],[],0,0,false⟩) (cond (Nat.beq k 15) (some ⟨[0,4,6],[],[],[],[],0,0,false⟩) (cond (Nat.beq k 19) (some ⟨[0,4,6,9,10],[],[],[],[],0,0,false⟩) (cond (Nat.beq k 21) (some ⟨[0,4,6,9,10,11,12],[],[(9,0,qaf),(9,1,cVal)],[],[],0,0,false⟩) (cond (Nat.beq k 24) (some ⟨[0,4,6,9,10,11,12,13],[],[(9,0,qaf),(9,1,cVal)],[],[],0,0,false⟩) (cond (Nat.beq k 26) (some ⟨[0,4,6,9,10,12,13],[],[(9,0,qaf),(9,1,cVal)],[],[],0,0,false⟩) (cond (Nat.beq k 30) (some ⟨[0,4,6,9,10,11,12,14,15,16],[],[(9,0,qaf),(9,1,cVal),(15,1,cVal)],[],[],0,0,false⟩) (cond (Nat.beq k 33) (some ⟨[0,4,6,9,10,11,12,14,15,16,17],[],[(9,0,qaf),(9,1,cVal),(15,1,cVal)],[],[],0,0,false⟩) (cond (Nat.beq k 35) (some ⟨[0,4,6,9,10,11,12,14,15,16,17,18,19],[],[(9,0,qaf),(9,1,cVal),(15,1,cVal)],[],[],0,0,false⟩) (cond (Nat.beq k 37) (some ⟨[0,4,6,9,10,12,14,15,16,17,18],[],[(9,0,qaf),(9,1,cVal),(15,1,cVal)],[],[],0,0,false⟩) (cond (Nat.beq k 39) (some ⟨[0,4,6,9,10,11,12,15],[],[(9,0,qaf),(9,1,cVal),(15,1,cVal)],[],[],0,0,false⟩) (cond (Nat.beq k 40) (some ⟨[0,4,6,9,10,11],[],[(9,0,qaf),(9,1,cVal)],[],[],0,0,false⟩) (cond (Nat.beq k 43) (some ⟨[0,4,6,9,10,20],[],[(9,0,qaf),(9,1,cVal)],[],[],0,0,false⟩) (cond (Nat.beq k 45) (some ⟨[0,4,6,9,10,11,20,21],[],[(9,0,qaf),(9,1,cVal)],[],[],0,0,false⟩) (cond (Nat.beq k 50) (some ⟨[0,4,6,9,10,11,20,21,22,23,24],[],[(9,0,qaf),(9,1,cVal)],[],[],0,0,false⟩) (cond (Nat.beq k 52) (some ⟨[0,4,6,9,10,20,21,22,23],[],[(9,0,qaf),(9,1,cVal)],[],[],0,0,false⟩) (cond (Nat.beq k 54) (some ⟨[0,4,6,9,11],[],[(9,0,qaf),(9,1,cVal)],[],[],0,0,false⟩) (cond (Nat.beq k 56) (some ⟨[0,4,9],[],[(9,0,qaf),(9,1,cVal)],[],[],0,0,false⟩) (none))))))))))))))))))
def qta:Nat->Bool:=fun k=>cond (Nat.beq k 11) true (cond (Nat.beq k 15) true (cond (Nat.beq k 19) true (cond (Nat.beq k 21) true (cond (Nat.beq k 24) true (cond (Nat.beq k 26) true (cond (Nat.beq k 30) true (cond (Nat.beq k 33) true (cond (Nat.beq k 35) true (cond (Nat.beq k 37) true (cond (Nat.beq k 39) true (cond (Nat.beq k 40) true (cond (Nat.beq k 43) true (cond (Nat.beq k 45) true (cond (Nat.beq k 50) true (cond (Nat.beq k 52) true (cond (Nat.beq k 54) true (cond (Nat.beq k 56) true (false))))))))))))))))))
def zak:Nat->Bool:=fun k=>cond (Nat.beq k 11) true (cond (Nat.beq k 21) true (cond (Nat.beq k 30) true (cond (Nat.beq k 45) true (false))))
abbrev qae:Type:=zpm × Unit
def q2h:List (Nat × Sm):=[(47,qpc),(23,qz8),(67,q64),(71,qyl),(39,qza),(73,zdk),(13,qxu)]
def q2k:List (Nat × Hx):=[]
def qw5(R:Type)(lf:Nat):ClK R:=qay Tryz.prog ttT.get ftT.get (nm1 25 qof) (smL q2h) (hxL q2k) lf 20 R
abbrev zrj:Nat:=25
def qiw(x1:(List qab))(x2:(List Int))(p:(List Int) × Int):NRes:=(NRes.mk (.node (some (IV.lst cForm x1)) (.node (some (IV.lst (TC.int .u8) x2)) (.node none (.node (some (IV.lst (TC.int .u8) p.1)) .leaf .leaf) .leaf) .leaf) (.node none (.node (some (IV.ptr 0 0)) (.node (some (IV.int .i64 p.2)) .leaf .leaf) .leaf) (.node (some (IV.lst (TC.int .u8) (lsub x2 (Int.ofNat 0) (IntKind.i64.wrap (Int.sub (Int.ofNat x2.length) (Int.ofNat 4)))))) .leaf .leaf))) (IS.mk (.node (some (IObj.row (List.cons IV.nilsl (List.cons IV.nilsl (List.cons (IV.int .i64 (Int.ofNat 0)) [(IV.int .i64 (Int.ofNat 0))]))))) .leaf .leaf) 1) [] 0)
def qt4(x1:(List qab))(x2:(List Int))(p:Unit):NRes:=(NRes.mk (.node (some (IV.lst cForm x1)) .leaf (.node none (.node (some (IV.ptr 0 0)) .leaf .leaf) (.node (some (IV.lst (TC.int .u8) (lsub x2 (Int.ofNat 0) (IntKind.i64.wrap (Int.sub (Int.ofNat x2.length) (Int.ofNat 4)))))) .leaf .leaf))) (IS.mk (.node (some (IObj.row (List.cons IV.nilsl (List.cons IV.nilsl (List.cons (IV.int .i64 (Int.ofNat 0)) [(IV.int .i64 (Int.ofNat 0))]))))) .leaf .leaf) 1) [] 0)
def qsl(x1:(List qab))(x2:(List Int))(p:Int × Bool × Int):NRes:=(NRes.mk (.node (some (IV.lst cForm x1)) (.node none .leaf (.node none (.node (some (IV.ptr 1 0)) .leaf .leaf) .leaf)) (.node none (.node (some (IV.ptr 0 0)) .leaf .leaf) (.node (some (IV.lst (TC.int .u8) (lsub x2 (Int.ofNat 0) (IntKind.i64.wrap (Int.sub (Int.ofNat x2.length) (Int.ofNat 4)))))) (.node (some (IV.ptr 2 0)) .leaf .leaf) .leaf))) (IS.mk (.node (some (IObj.row (List.cons IV.nilsl (List.cons IV.nilsl (List.cons (IV.int .i64 (Int.ofNat 0)) [(IV.int .i64 (Int.ofNat 0))]))))) (.node (some (IObj.row (List.cons IV.nilsl (List.cons IV.nilsl (List.cons (IV.int .i64 (Int.ofNat 0)) [(IV.int .i64 (Int.ofNat 0))]))))) .leaf .leaf) (.node (some (IObj.row (List.cons (IV.int .i64 p.1) (List.cons (IV.int .i64 p.2.2) [(IV.bool p.2.1)])))) .leaf .leaf)) 3) [] 0)
def qb3(x1:(List qab))(x2:(List Int))(p:Bool × Int × Int × Int × (List qaa) × Int):NRes:=(NRes.mk (.node (some (IV.lst cForm x1)) (.node none (.node none .leaf (.node (some (IV.int .i64 p.2.1)) .leaf .leaf)) (.node none (.node (some (IV.ptr 1 0)) .leaf .leaf) .leaf)) (.node none (.node (some (IV.ptr 0 0)) .leaf (.node (some (IV.int .i64 p.2.2.2.1)) .leaf .leaf)) (.node (some (IV.lst (TC.int .u8) (lsub x2 (Int.ofNat 0) (IntKind.i64.wrap (Int.sub (Int.ofNat x2.length) (Int.ofNat 4)))))) (.node (some (IV.ptr 2 0)) .leaf .leaf) .leaf))) (IS.mk (.node (some (IObj.row (List.cons IV.nilsl (List.cons IV.nilsl (List.cons (IV.int .i64 (Int.ofNat 0)) [(IV.int .i64 (Int.ofNat 0))]))))) (.node (some (IObj.row (List.cons (IV.arr 3) (List.cons (IV.arr 4) (List.cons (IV.int .i64 (Int.ofNat 0)) [(IV.int .i64 (Int.ofNat 0))]))))) (.node (some (IObj.arr qaf p.2.2.2.2.1)) .leaf .leaf) .leaf) (.node (some (IObj.row (List.cons (IV.int .i64 p.2.2.1) (List.cons (IV.int .i64 p.2.2.2.2.2) [(IV.bool p.1)])))) (.node (some (IObj.arr cVal [])) .leaf .leaf) .leaf)) 5) [] 0)
def qu5(x1:(List qab))(x2:(List Int))(p:Bool × Int × Int × Int × Int × Bool × Int × Int × (List qaa)):NRes:=(NRes.mk (.node (some (IV.lst cForm x1)) (.node none (.node none .leaf (.node (some (IV.int .i64 p.2.2.1)) .leaf .leaf)) (.node none (.node (some (IV.ptr 1 0)) .leaf .leaf) (.node (some (IV.ptr 3 0)) .leaf .leaf))) (.node none (.node (some (IV.ptr 0 0)) .leaf (.node (some (IV.int .i64 p.2.2.2.2.2.2.1)) .leaf .leaf)) (.node (some (IV.lst (TC.int .u8) (lsub x2 (Int.ofNat 0) (IntKind.i64.wrap (Int.sub (Int.ofNat x2.length) (Int.ofNat 4)))))) (.node (some (IV.ptr 2 0)) .leaf .leaf) .leaf))) (IS.mk (.node (some (IObj.row (List.cons IV.nilsl (List.cons IV.nilsl (List.cons (IV.int .i64 (Int.ofNat 0)) [(IV.int .i64 (Int.ofNat 0))]))))) (.node (some (IObj.row (List.cons (IV.arr 4) (List.cons (IV.arr 5) (List.cons (IV.int .i64 (Int.ofNat 0)) [(IV.int .i64 (Int.ofNat 0))]))))) (.node (some (IObj.row (List.cons (IV.int .i64 p.2.2.2.1) (List.cons (IV.int .i64 p.2.2.2.2.1) [(IV.bool p.2.2.2.2.2.1)])))) .leaf .leaf) (.node (some (IObj.arr cVal [])) .leaf .leaf)) (.node (some (IObj.row (List.cons (IV.int .i64 p.2.1) (List.cons (IV.int .i64 p.2.2.2.2.2.2.2.1) [(IV.bool p.1)])))) (.node (some (IObj.arr qaf p.2.2.2.2.2.2.2.2)) .leaf .leaf) .leaf)) 6) [] 0)
def qu2(x1:(List qab))(x2:(List Int))(p:Bool × Int × Int × Bool × Int × Int × Int × (List qaa)):NRes:=(NRes.mk (.node (some (IV.lst cForm x1)) (.node none .leaf (.node none (.node (some (IV.ptr 1 0)) .leaf .leaf) (.node (some (IV.ptr 3 0)) .leaf .leaf))) (.node none (.node (some (IV.ptr 0 0)) .leaf (.node (some (IV.int .i64 p.2.2.2.2.2.2.1)) .leaf .leaf)) (.node (some (IV.lst (TC.int .u8) (lsub x2 (Int.ofNat 0) (IntKind.i64.wrap (Int.sub (Int.ofNat x2.length) (Int.ofNat 4)))))) (.node (some (IV.ptr 2 0)) .leaf .leaf) .leaf))) (IS.mk (.node (some (IObj.row (List.cons IV.nilsl (List.cons IV.nilsl (List.cons (IV.int .i64 (Int.ofNat 0)) [(IV.int .i64 (Int.ofNat 0))]))))) (.node (some (IObj.row (List.cons (IV.arr 4) (List.cons (IV.arr 5) (List.cons (IV.int .i64 (Int.ofNat 0)) [(IV.int .i64 (Int.ofNat 0))]))))) (.node (some (IObj.row (List.cons (IV.int .i64 p.2.1) (List.cons (IV.int .i64 p.2.2.1) [(IV.bool p.2.2.2.1)])))) .leaf .leaf) (.node (some (IObj.arr cVal [])) .leaf .leaf)) (.node (some (IObj.row (List.cons (IV.int .i64 p.2.2.2.2.1) (List.cons (IV.int .i64 p.2.2.2.2.2.1) [(IV.bool p.1)])))) (.node (some (IObj.arr qaf p.2.2.2.2.2.2.2)) .leaf .leaf) .leaf)) 6) [] 0)
def qdu(x1:(List qab))(x2:(List Int))(p:Int × Int × Int × Bool × ByteArray × (List DCol) × Int × (List DVal) × Int × (List qaa)):NRes:=(NRes.mk (.node (some (IV.lst cForm x1)) (.node none (.node none (.node none (.node (some (IV.ptr 4 0)) .leaf .leaf) .leaf) (.node (some (IV.int .i64 p.2.2.1)) .leaf .leaf)) (.node none (.node (some (IV.ptr 1 0)) .leaf .leaf) .leaf)) (.node none (.node (some (IV.ptr 0 0)) (.node none (.node (some (IV.int .i64 p.2.2.2.2.2.2.1)) .leaf .leaf) .leaf) (.node (some (IV.int .i64 p.2.2.2.2.2.2.2.2.1)) .leaf .leaf)) (.node (some (IV.lst (TC.int .u8) (lsub x2 (Int.ofNat 0) (IntKind.i64.wrap (Int.sub (Int.ofNat x2.length) (Int.ofNat 4)))))) (.node (some (IV.ptr 2 0)) .leaf .leaf) (.node (some (IV.ptr 3 0)) .leaf .leaf)))) (IS.mk (.node (some (IObj.row (List.cons IV.nilsl (List.cons IV.nilsl (List.cons (IV.int .i64 (Int.ofNat 0)) [(IV.int .i64 (Int.ofNat 0))]))))) (.node (some (IObj.row (List.cons (IV.arr 5) (List.cons (IV.arr 6) (List.cons (IV.int .i64 (Int.ofNat 0)) [(IV.int .i64 (Int.ofNat 0))]))))) (.node (some (IObj.row (List.cons (IV.str p.2.2.2.2.1) [(IV.lst cCol p.2.2.2.2.2.1)]))) (.node (some (IObj.arr cVal p.2.2.2.2.2.2.2.1)) .leaf .leaf) .leaf) (.node (some (IObj.arr qaf p.2.2.2.2.2.2.2.2.2)) .leaf .leaf)) (.node (some (IObj.row (List.cons (IV.int .i64 p.1) (List.cons (IV.int .i64 p.2.1) [(IV.bool p.2.2.2.1)])))) (.node (some (IObj.row (List.cons (IV.str p.2.2.2.2.1) [(IV.arr 7)]))) .leaf .leaf) (.node (some (IObj.arr cVal [])) .leaf .leaf))) 8) [] 0)
def qsp(x1:(List qab))(x2:(List Int))(p:ByteArray × Int × (List DCol) × Int × Int × Bool × Int × Bool × Int × Int × (List DVal) × Int × (List qaa)):NRes:=(NRes.mk (.node (some (IV.lst cForm x1)) (.node none (.node none (.node none (.node (some (IV.ptr 4 0)) .leaf .leaf) .leaf) (.node (some (IV.int .i64 p.2.1)) .leaf .leaf)) (.node none (.node (some (IV.ptr 1 0)) (.node (some (IV.ptr 5 0)) .leaf .leaf) .leaf) .leaf)) (.node none (.node (some (IV.ptr 0 0)) (.node none (.node (some (IV.int .i64 p.2.2.2.2.2.2.2.2.2.1)) .leaf .leaf) .leaf) (.node (some (IV.int .i64 p.2.2.2.2.2.2.2.2.2.2.2.1)) .leaf .leaf)) (.node (some (IV.lst (TC.int .u8) (lsub x2 (Int.ofNat 0) (IntKind.i64.wrap (Int.sub (Int.ofNat x2.length) (Int.ofNat 4)))))) (.node (some (IV.ptr 2 0)) .leaf .leaf) (.node (some (IV.ptr 3 0)) .leaf .leaf)))) (IS.mk (.node (some (IObj.row (List.cons IV.nilsl (List.cons IV.nilsl (List.cons (IV.int .i64 (Int.ofNat 0)) [(IV.int .i64 (Int.ofNat 0))]))))) (.node (some (IObj.row (List.cons (IV.arr 6) (List.cons (IV.arr 7) (List.cons (IV.int .i64 (Int.ofNat 0)) [(IV.int .i64 (Int.ofNat 0))]))))) (.node (some (IObj.row (List.cons (IV.str p.1) [(IV.lst cCol p.2.2.1)]))) (.node (some (IObj.arr cVal [])) .leaf .leaf) .leaf) (.node (some (IObj.row (List.cons (IV.int .i64 p.2.2.2.2.2.2.1) (List.cons (IV.int .i64 p.2.2.2.2.2.2.2.2.1) [(IV.bool p.2.2.2.2.2.2.2.1)])))) .leaf .leaf)) (.node (some (IObj.row (List.cons (IV.int .i64 p.2.2.2.2.1) (List.cons (IV.int .i64 p.2.2.2.1) [(IV.bool p.2.2.2.2.2.1)])))) (.node (some (IObj.row (List.cons (IV.str p.1) [(IV.arr 8)]))) (.node (some (IObj.arr cVal p.2.2.2.2.2.2.2.2.2.2.1)) .leaf .leaf) .leaf) (.node (some (IObj.arr qaf p.2.2.2.2.2.2.2.2.2.2.2.2)) .leaf .leaf))) 9) [] 0)
def qqi(x1:(List qab))(x2:(List Int))(p:Int × Int × Bool × ByteArray × (List DCol) × Int × Bool × Int × Int × Bool × Int × Int × Int × (List DVal) × Int × (List qaa)):NRes:=(NRes.mk (.node (some (IV.lst cForm x1)) (.node none (.node none (.node none (.node (some (IV.ptr 4 0)) .leaf .leaf) .leaf) (.node (some (IV.int .i64 p.2.1)) (.node (some (IV.bool p.2.2.2.2.2.2.2.2.2.1)) .leaf .leaf) .leaf)) (.node none (.node (some (IV.ptr 1 0)) (.node (some (IV.ptr 5 0)) .leaf .leaf) .leaf) .leaf)) (.node none (.node (some (IV.ptr 0 0)) (.node none (.node (some (IV.int .i64 p.2.2.2.2.2.2.2.2.2.2.2.2.1)) .leaf .leaf) .leaf) (.node (some (IV.int .i64 p.2.2.2.2.2.2.2.2.2.2.2.2.2.2.1)) .leaf .leaf)) (.node (some (IV.lst (TC.int .u8) (lsub x2 (Int.ofNat 0) (IntKind.i64.wrap (Int.sub (Int.ofNat x2.length) (Int.ofNat 4)))))) (.node (some (IV.ptr 2 0)) (.node (some (IV.ptr 6 0)) .leaf .leaf) .leaf) (.node (some (IV.ptr 3 0)) .leaf .leaf)))) (IS.mk (.node (some (IObj.row (List.cons IV.nilsl (List.cons IV.nilsl (List.cons (IV.int .i64 (Int.ofNat 0)) [(IV.int .i64 (Int.ofNat 0))]))))) (.node (some (IObj.row (List.cons (IV.arr 7) (List.cons (IV.arr 8) (List.cons (IV.int .i64 (Int.ofNat 0)) [(IV.int .i64 (Int.ofNat 0))]))))) (.node (some (IObj.row (List.cons (IV.str p.2.2.2.1) [(IV.lst cCol p.2.2.2.2.1)]))) (.node (some (IObj.arr qaf p.2.2.2.2.2.2.2.2.2.2.2.2.2.2.2)) .leaf .leaf) .leaf) (.node (some (IObj.row (List.cons (IV.int .i64 p.2.2.2.2.2.1) (List.cons (IV.int .i64 p.1) [(IV.bool p.2.2.1)])))) (.node (some (IObj.arr cVal p.2.2.2.2.2.2.2.2.2.2.2.2.2.1)) .leaf .leaf) .leaf)) (.node (some (IObj.row (List.cons (IV.int .i64 p.2.2.2.2.2.2.2.2.1) (List.cons (IV.int .i64 p.2.2.2.2.2.2.2.1) [(IV.bool p.2.2.2.2.2.2.1)])))) (.node (some (IObj.row (List.cons (IV.str p.2.2.2.1) [(IV.arr 9)]))) (.node (some (IObj.arr cVal [])) .leaf .leaf) .leaf) (.node (some (IObj.row (List.cons (IV.int .i64 p.2.2.2.2.2.2.2.2.2.2.1) [(IV.int .i64 p.2.2.2.2.2.2.2.2.2.2.2.1)]))) .leaf .leaf))) 10) [] 0)
def qut(x1:(List qab))(x2:(List Int))(p:Int × ByteArray × (List DCol) × Int × Int × Bool × Int × Int × Bool × Int × Int × (List DVal) × Int × (List qaa)):NRes:=(NRes.mk (.node (some (IV.lst cForm x1)) (.node none (.node none (.node none (.node (some (IV.ptr 4 0)) .leaf .leaf) .leaf) .leaf) (.node none (.node (some (IV.ptr 1 0)) (.node (some (IV.ptr 5 0)) .leaf .leaf) .leaf) .leaf)) (.node none (.node (some (IV.ptr 0 0)) (.node none (.node (some (IV.int .i64 p.2.2.2.2.2.2.2.2.2.2.1)) .leaf .leaf) .leaf) (.node (some (IV.int .i64 p.2.2.2.2.2.2.2.2.2.2.2.2.1)) .leaf .leaf)) (.node (some (IV.lst (TC.int .u8) (lsub x2 (Int.ofNat 0) (IntKind.i64.wrap (Int.sub (Int.ofNat x2.length) (Int.ofNat 4)))))) (.node (some (IV.ptr 2 0)) (.node (some (IV.ptr 6 0)) .leaf .leaf) .leaf) (.node (some (IV.ptr 3 0)) .leaf .leaf)))) (IS.mk (.node (some (IObj.row (List.cons IV.nilsl (List.cons IV.nilsl (List.cons (IV.int .i64 (Int.ofNat 0)) [(IV.int .i64 (Int.ofNat 0))]))))) (.node (some (IObj.row (List.cons (IV.arr 7) (List.cons (IV.arr 8) (List.cons (IV.int .i64 (Int.ofNat 0)) [(IV.int .i64 (Int.ofNat 0))]))))) (.node (some (IObj.row (List.cons (IV.str p.2.1) [(IV.lst cCol p.2.2.1)]))) (.node (some (IObj.arr qaf p.2.2.2.2.2.2.2.2.2.2.2.2.2)) .leaf .leaf) .leaf) (.node (some (IObj.row (List.cons (IV.int .i64 p.2.2.2.1) (List.cons (IV.int .i64 p.2.2.2.2.1) [(IV.bool p.2.2.2.2.2.1)])))) (.node (some (IObj.arr cVal p.2.2.2.2.2.2.2.2.2.2.2.1)) .leaf .leaf) .leaf)) (.node (some (IObj.row (List.cons (IV.int .i64 p.2.2.2.2.2.2.1) (List.cons (IV.int .i64 p.2.2.2.2.2.2.2.1) [(IV.bool p.2.2.2.2.2.2.2.2.1)])))) (.node (some (IObj.row (List.cons (IV.str p.2.1) [(IV.arr 9)]))) (.node (some (IObj.arr cVal [])) .leaf .leaf) .leaf) (.node (some (IObj.row (List.cons (IV.int .i64 p.2.2.2.2.2.2.2.2.2.1) [(IV.int .i64 p.1)]))) .leaf .leaf))) 10) [] 0)
def qsw(x1:(List qab))(x2:(List Int))(p:Bool × Int × ByteArray × Int × Int × (List DVal) × Int × (List qaa)):NRes:=(NRes.mk (.node (some (IV.lst cForm x1)) (.node none (.node none (.node none (.node (some (IV.ptr 3 0)) .leaf .leaf) .leaf) (.node (some (IV.int .i64 p.2.1)) .leaf .leaf)) (.node none (.node (some (IV.ptr 1 0)) .leaf .leaf) .leaf)) (.node none (.node (some (IV.ptr 0 0)) .leaf (.node (some (IV.int .i64 p.2.2.2.2.2.2.1)) .leaf .leaf)) (.node (some (IV.lst (TC.int .u8) (lsub x2 (Int.ofNat 0) (IntKind.i64.wrap (Int.sub (Int.ofNat x2.length) (Int.ofNat 4)))))) (.node (some (IV.ptr 2 0)) .leaf .leaf) .leaf))) (IS.mk (.node (some (IObj.row (List.cons IV.nilsl (List.cons IV.nilsl (List.cons (IV.int .i64 (Int.ofNat 0)) [(IV.int .i64 (Int.ofNat 0))]))))) (.node (some (IObj.row (List.cons (IV.arr 4) (List.cons (IV.arr 5) (List.cons (IV.int .i64 (Int.ofNat 0)) [(IV.int .i64 (Int.ofNat 0))]))))) (.node (some (IObj.row (List.cons (IV.str p.2.2.1) [(IV.arr 6)]))) .leaf .leaf) (.node (some (IObj.arr cVal [])) .leaf .leaf)) (.node (some (IObj.row (List.cons (IV.int .i64 p.2.2.2.1) (List.cons (IV.int .i64 p.2.2.2.2.1) [(IV.bool p.1)])))) (.node (some (IObj.arr qaf p.2.2.2.2.2.2.2)) .leaf .leaf) (.node (some (IObj.arr cVal p.2.2.2.2.2.1)) .leaf .leaf))) 7) [] 0)
def qro(x1:(List qab))(x2:(List Int))(p:Bool × Int × Int × (List qaa) × Int):NRes:=(NRes.mk (.node (some (IV.lst cForm x1)) (.node none (.node none .leaf (.node (some (IV.int .i64 p.2.1)) .leaf .leaf)) (.node none (.node (some (IV.ptr 1 0)) .leaf .leaf) .leaf)) (.node none (.node (some (IV.ptr 0 0)) .leaf .leaf) (.node (some (IV.lst (TC.int .u8) (lsub x2 (Int.ofNat 0) (IntKind.i64.wrap (Int.sub (Int.ofNat x2.length) (Int.ofNat 4)))))) (.node (some (IV.ptr 2 0)) .leaf .leaf) .leaf))) (IS.mk (.node (some (IObj.row (List.cons IV.nilsl (List.cons IV.nilsl (List.cons (IV.int .i64 (Int.ofNat 0)) [(IV.int .i64 (Int.ofNat 0))]))))) (.node (some (IObj.row (List.cons (IV.arr 3) (List.cons (IV.arr 4) (List.cons (IV.int .i64 (Int.ofNat 0)) [(IV.int .i64 (Int.ofNat 0))]))))) (.node (some (IObj.arr qaf p.2.2.2.1)) .leaf .leaf) .leaf) (.node (some (IObj.row (List.cons (IV.int .i64 p.2.2.1) (List.cons (IV.int .i64 p.2.2.2.2) [(IV.bool p.1)])))) (.node (some (IObj.arr cVal [])) .leaf .leaf) .leaf)) 5) [] 0)
def qtm(x1:(List qab))(x2:(List Int))(p:(List qaa) × Int × Int × Bool × Int × Bool × Int):NRes:=(NRes.mk (.node (some (IV.lst cForm x1)) (.node none .leaf (.node none (.node (some (IV.ptr 1 0)) .leaf .leaf) .leaf)) (.node none (.node (some (IV.ptr 0 0)) .leaf (.node none (.node (some (IV.ptr 3 0)) .leaf .leaf) .leaf)) (.node (some (IV.lst (TC.int .u8) (lsub x2 (Int.ofNat 0) (IntKind.i64.wrap (Int.sub (Int.ofNat x2.length) (Int.ofNat 4)))))) (.node (some (IV.ptr 2 0)) .leaf .leaf) .leaf))) (IS.mk (.node (some (IObj.row (List.cons IV.nilsl (List.cons IV.nilsl (List.cons (IV.int .i64 (Int.ofNat 0)) [(IV.int .i64 (Int.ofNat 0))]))))) (.node (some (IObj.row (List.cons (IV.arr 4) (List.cons (IV.arr 5) (List.cons (IV.int .i64 (Int.ofNat 0)) [(IV.int .i64 (Int.ofNat 0))]))))) (.node (some (IObj.row (List.cons (IV.int .i64 p.2.2.2.2.1) (List.cons (IV.int .i64 p.2.2.2.2.2.2) [(IV.bool p.2.2.2.2.2.1)])))) .leaf .leaf) (.node (some (IObj.arr cVal [])) .leaf .leaf)) (.node (some (IObj.row (List.cons (IV.int .i64 p.2.2.1) (List.cons (IV.int .i64 p.2.1) [(IV.bool p.2.2.2.1)])))) (.node (some (IObj.arr qaf p.1)) .leaf .leaf) .leaf)) 6) [] 0)
def qew(x1:(List qab))(x2:(List Int))(p:(List qaa) × Int × Int × Bool × Int × Int × Bool × Int × Int × (List DVal)):NRes:=(NRes.mk (.node (some (IV.lst cForm x1)) (.node none (.node none .leaf (.node (some (IV.int .i64 p.2.1)) .leaf .leaf)) (.node none (.node (some (IV.ptr 1 0)) .leaf .leaf) (.node none (.node (some (IV.int .i64 p.2.2.2.2.2.2.2.1)) .leaf .leaf) .leaf))) (.node none (.node (some (IV.ptr 0 0)) .leaf (.node none (.node (some (IV.ptr 3 0)) .leaf .leaf) .leaf)) (.node (some (IV.lst (TC.int .u8) (lsub x2 (Int.ofNat 0) (IntKind.i64.wrap (Int.sub (Int.ofNat x2.length) (Int.ofNat 4)))))) (.node (some (IV.ptr 2 0)) .leaf .leaf) .leaf))) (IS.mk (.node (some (IObj.row (List.cons IV.nilsl (List.cons IV.nilsl (List.cons (IV.int .i64 (Int.ofNat 0)) [(IV.int .i64 (Int.ofNat 0))]))))) (.node (some (IObj.row (List.cons (IV.arr 4) (List.cons (IV.arr 5) (List.cons (IV.int .i64 (Int.ofNat 0)) [(IV.int .i64 (Int.ofNat 0))]))))) (.node (some (IObj.row (List.cons (IV.int .i64 p.2.2.1) (List.cons (IV.int .i64 p.2.2.2.2.2.2.2.2.1) [(IV.bool p.2.2.2.1)])))) .leaf .leaf) (.node (some (IObj.arr cVal p.2.2.2.2.2.2.2.2.2)) .leaf .leaf)) (.node (some (IObj.row (List.cons (IV.int .i64 p.2.2.2.2.1) (List.cons (IV.int .i64 p.2.2.2.2.2.1) [(IV.bool p.2.2.2.2.2.2.1)])))) (.node (some (IObj.arr qaf p.1)) .leaf .leaf) .leaf)) 6) [] 0)
def qu4(x1:(List qab))(x2:(List Int))(p:(List qaa) × Int × Int × Int × Bool × Int × Bool × Int × Bool × Int × Bool × Int × Int × Int × Int × (List DVal)):NRes:=(NRes.mk (.node (some (IV.lst cForm x1)) (.node none (.node none (.node none .leaf (.node (some (IV.ptr 5 0)) .leaf .leaf)) (.node (some (IV.int .i64 p.2.1)) .leaf .leaf)) (.node none (.node (some (IV.ptr 1 0)) .leaf .leaf) (.node none (.node (some (IV.int .i64 p.2.2.2.2.2.2.2.2.2.2.2.2.2.1)) .leaf .leaf) .leaf))) (.node none (.node (some (IV.ptr 0 0)) (.node none .leaf (.node (some (IV.bool p.2.2.2.2.2.2.2.2.2.2.1)) .leaf .leaf)) (.node none (.node (some (IV.ptr 3 0)) .leaf .leaf) .leaf)) (.node (some (IV.lst (TC.int .u8) (lsub x2 (Int.ofNat 0) (IntKind.i64.wrap (Int.sub (Int.ofNat x2.length) (Int.ofNat 4)))))) (.node (some (IV.ptr 2 0)) .leaf .leaf) (.node none (.node (some (IV.ptr 4 0)) .leaf .leaf) .leaf)))) (IS.mk (.node (some (IObj.row (List.cons IV.nilsl (List.cons IV.nilsl (List.cons (IV.int .i64 (Int.ofNat 0)) [(IV.int .i64 (Int.ofNat 0))]))))) (.node (some (IObj.row (List.cons (IV.arr 6) (List.cons (IV.arr 7) (List.cons (IV.int .i64 (Int.ofNat 0)) [(IV.int .i64 (Int.ofNat 0))]))))) (.node (some (IObj.row (List.cons (IV.int .i64 p.2.2.2.1) (List.cons (IV.int .i64 p.2.2.2.2.2.2.2.2.2.2.2.2.2.2.1) [(IV.bool p.2.2.2.2.1)])))) (.node (some (IObj.arr cVal p.2.2.2.2.2.2.2.2.2.2.2.2.2.2.2)) .leaf .leaf) .leaf) (.node (some (IObj.row (List.cons (IV.int .i64 p.2.2.2.2.2.2.2.2.2.2.2.1) [(IV.int .i64 p.2.2.2.2.2.2.2.2.2.2.2.2.1)]))) .leaf .leaf)) (.node (some (IObj.row (List.cons (IV.int .i64 p.2.2.1) (List.cons (IV.int .i64 p.2.2.2.2.2.1) [(IV.bool p.2.2.2.2.2.2.1)])))) (.node (some (IObj.row (List.cons (IV.int .i64 p.2.2.2.2.2.2.2.1) (List.cons (IV.int .i64 p.2.2.2.2.2.2.2.2.2.1) [(IV.bool p.2.2.2.2.2.2.2.2.1)])))) .leaf .leaf) (.node (some (IObj.arr qaf p.1)) .leaf .leaf))) 8) [] 0)
def qp9(x1:(List qab))(x2:(List Int))(p:(List qaa) × Int × Int × Bool × Int × Int × Int × Int × Bool × Int × Int × Bool × Int × (List DVal)):NRes:=(NRes.mk (.node (some (IV.lst cForm x1)) (.node none (.node none (.node none .leaf (.node (some (IV.ptr 5 0)) .leaf .leaf)) .leaf) (.node none (.node (some (IV.ptr 1 0)) .leaf .leaf) (.node none (.node (some (IV.int .i64 p.2.2.2.2.2.2.2.2.2.2.2.2.1)) .leaf .leaf) .leaf))) (.node none (.node (some (IV.ptr 0 0)) .leaf (.node none (.node (some (IV.ptr 3 0)) .leaf .leaf) .leaf)) (.node (some (IV.lst (TC.int .u8) (lsub x2 (Int.ofNat 0) (IntKind.i64.wrap (Int.sub (Int.ofNat x2.length) (Int.ofNat 4)))))) (.node (some (IV.ptr 2 0)) .leaf .leaf) (.node none (.node (some (IV.ptr 4 0)) .leaf .leaf) .leaf)))) (IS.mk (.node (some (IObj.row (List.cons IV.nilsl (List.cons IV.nilsl (List.cons (IV.int .i64 (Int.ofNat 0)) [(IV.int .i64 (Int.ofNat 0))]))))) (.node (some (IObj.row (List.cons (IV.arr 6) (List.cons (IV.arr 7) (List.cons (IV.int .i64 (Int.ofNat 0)) [(IV.int .i64 (Int.ofNat 0))]))))) (.node (some (IObj.row (List.cons (IV.int .i64 p.2.1) (List.cons (IV.int .i64 p.2.2.1) [(IV.bool p.2.2.2.1)])))) (.node (some (IObj.arr cVal p.2.2.2.2.2.2.2.2.2.2.2.2.2)) .leaf .leaf) .leaf) (.node (some (IObj.row (List.cons (IV.int .i64 p.2.2.2.2.1) [(IV.int .i64 p.2.2.2.2.2.1)]))) .leaf .leaf)) (.node (some (IObj.row (List.cons (IV.int .i64 p.2.2.2.2.2.2.1) (List.cons (IV.int .i64 p.2.2.2.2.2.2.2.1) [(IV.bool p.2.2.2.2.2.2.2.2.1)])))) (.node (some (IObj.row (List.cons (IV.int .i64 p.2.2.2.2.2.2.2.2.2.1) (List.cons (IV.int .i64 p.2.2.2.2.2.2.2.2.2.2.1) [(IV.bool p.2.2.2.2.2.2.2.2.2.2.2.1)])))) .leaf .leaf) (.node (some (IObj.arr qaf p.1)) .leaf .leaf))) 8) [] 0)
def qq4(x1:(List qab))(x2:(List Int))(p:(List qaa) × Int × (List DVal)):NRes:=(NRes.mk (.node (some (IV.lst cForm x1)) (.node none (.node none .leaf (.node (some (IV.int .i64 p.2.1)) .leaf .leaf)) (.node none (.node (some (IV.ptr 1 0)) .leaf .leaf) .leaf)) (.node none (.node (some (IV.ptr 0 0)) .leaf .leaf) (.node (some (IV.lst (TC.int .u8) (lsub x2 (Int.ofNat 0) (IntKind.i64.wrap (Int.sub (Int.ofNat x2.length) (Int.ofNat 4)))))) .leaf .leaf))) (IS.mk (.node (some (IObj.row (List.cons IV.nilsl (List.cons IV.nilsl (List.cons (IV.int .i64 (Int.ofNat 0)) [(IV.int .i64 (Int.ofNat 0))]))))) (.node (some (IObj.row (List.cons (IV.arr 2) (List.cons (IV.arr 3) (List.cons (IV.int .i64 (Int.ofNat 0)) [(IV.int .i64 (Int.ofNat 0))]))))) (.node (some (IObj.arr cVal p.2.2)) .leaf .leaf) .leaf) (.node (some (IObj.arr qaf p.1)) .leaf .leaf)) 4) [] 0)
def qsv(x1:(List qab))(x2:(List Int))(p:(List qaa) × (List DVal)):NRes:=(NRes.mk (.node (some (IV.lst cForm x1)) (.node none .leaf (.node none (.node (some (IV.ptr 1 0)) .leaf .leaf) .leaf)) (.node none (.node (some (IV.ptr 0 0)) .leaf .leaf) .leaf)) (IS.mk (.node (some (IObj.row (List.cons IV.nilsl (List.cons IV.nilsl (List.cons (IV.int .i64 (Int.ofNat 0)) [(IV.int .i64 (Int.ofNat 0))]))))) (.node (some (IObj.row (List.cons (IV.arr 2) (List.cons (IV.arr 3) (List.cons (IV.int .i64 (Int.ofNat 0)) [(IV.int .i64 (Int.ofNat 0))]))))) (.node (some (IObj.arr cVal p.2)) .leaf .leaf) .leaf) (.node (some (IObj.arr qaf p.1)) .leaf .leaf)) 4) [] 0)
def qvr(lf:Nat)(x1:(List qab))(x2:(List Int))(L11:((List Int) × Int)->Option qae):Option qae:=(cond (Bool.not (ieqI (S.checkForms x1) (Int.ofNat 0))) (some ((([],[]),((Int.ofNat 0),(S.checkForms x1))),())) (cond (iltI (Int.ofNat 60000) (Int.ofNat x2.length)) (some ((([],[]),((Int.ofNat 0),(Int.ofNat 3))),())) (cond (iltI (Int.ofNat x2.length) (Int.ofNat 4)) (some ((([],[]),((Int.ofNat 0),(Int.ofNat 15))),())) (cond (lchk (Int.ofNat 0) (IntKind.i64.wrap (Int.sub (Int.ofNat x2.length) (Int.ofNat 4))) (IntKind.i64.wrap (Int.sub (Int.ofNat x2.length) (Int.ofNat 4))) (Int.ofNat x2.length)) (match (cond (Nat.ble (Nat.add (List.length (lsub x2 (Int.ofNat 0) (IntKind.i64.wrap (Int.sub (Int.ofNat x2.length) (Int.ofNat 4))))) 100) 140737488355328) (some ((List.append (lsub x2 (Int.ofNat 0) (IntKind.i64.wrap (Int.sub (Int.ofNat x2.length) (Int.ofNat 4)))) (S.sum4 (lsub x2 (Int.ofNat 0) (IntKind.i64.wrap (Int.sub (Int.ofNat x2.length) (Int.ofNat 4)))))),())) none) with|none=>none|some v0=>(L11 (v0.1,(Int.ofNat 0)))) none))))
def qhe(lf:Nat)(x1:(List qab))(x2:(List Int))(L11:((List Int) × Int)->Option qae)(L15:Unit->Option qae)(p:(List Int) × Int):Option qae:=(cond (iltI p.2 (Int.ofNat 4)) (match (jget p.1 (IntKind.i64.wrap (Int.add (Int.ofNat (List.length (lsub x2 (Int.ofNat 0) (IntKind.i64.wrap (Int.sub (Int.ofNat x2.length) (Int.ofNat 4)))))) p.2))) with|none=>none|some v0=>(match (jget x2 (IntKind.i64.wrap (Int.add (Int.ofNat (List.length (lsub x2 (Int.ofNat 0) (IntKind.i64.wrap (Int.sub (Int.ofNat x2.length) (Int.ofNat 4)))))) p.2))) with|none=>none|some v1=>(cond (Bool.not (ieqI v0 v1)) (some ((([],[]),((Int.ofNat 0),(Int.ofNat 15))),())) (L11 (p.1,(IntKind.i64.wrap (Int.add p.2 (Int.ofNat 1)))))))) (L15 ()))
def qwy(lf:Nat)(x1:(List qab))(x2:(List Int))(L19:(Int × Bool × Int)->Option qae)(p:Unit):Option qae:=(match (cond (Bool.not (iltI (Int.ofNat (List.length (lsub x2 (Int.ofNat 0) (IntKind.i64.wrap (Int.sub (Int.ofNat x2.length) (Int.ofNat 4)))))) (Int.ofNat 0))) (some ((S.rr (lsub x2 (Int.ofNat 0) (IntKind.i64.wrap (Int.sub (Int.ofNat x2.length) (Int.ofNat 4)))) 0),())) none) with|none=>none|some v0=>(cond (Bool.not v0.1.2.2) (some ((([],[]),((Int.ofNat 0),(Int.ofNat 2))),())) (cond (Bool.not (iltI v0.1.1 (Int.ofNat 0))) (cond (Bool.not (Bool.not (iltI (Int.ofNat 400) v0.1.1))) (some ((([],[]),((Int.ofNat 0),(Int.ofNat 2))),())) (L19 (v0.1.1,v0.1.2.2,v0.1.2.1))) (some ((([],[]),((Int.ofNat 0),(Int.ofNat 2))),())))))
def qx4(lf:Nat)(x1:(List qab))(x2:(List Int))(L21:(Bool × Int × Int × Int × (List qaa) × Int)->Option qae)(p:Int × Bool × Int):Option qae:=(L21 (p.2.1,p.2.2,p.1,(Int.ofNat 0),[],p.2.2))
def qgq(lf:Nat)(x1:(List qab))(x2:(List Int))(L24:(Bool × Int × Int × Int × Int × Bool × Int × Int × (List qaa))->Option qae)(L40:(Bool × Int × Int × (List qaa) × Int)->Option qae)(p:Bool × Int × Int × Int × (List qaa) × Int):Option qae:=(cond (iltI p.2.2.2.1 p.2.2.1) (match (cond (Bool.and (Bool.not (iltI p.2.1 (Int.ofNat 0))) (Bool.not (iltI (Int.ofNat (List.length (lsub x2 (Int.ofNat 0) (IntKind.i64.wrap (Int.sub (Int.ofNat x2.length) (Int.ofNat 4)))))) p.2.1))) (some ((S.rr (lsub x2 (Int.ofNat 0) (IntKind.i64.wrap (Int.sub (Int.ofNat x2.length) (Int.ofNat 4)))) (Int.toNat p.2.1)),())) none) with|none=>none|some v0=>(L24 (p.1,p.2.2.1,p.2.1,v0.1.1,v0.1.2.1,v0.1.2.2,p.2.2.2.1,p.2.2.2.2.2,p.2.2.2.2.1))) (L40 (p.1,p.2.1,p.2.2.1,p.2.2.2.2.1,p.2.2.2.2.2)))
def q0c(lf:Nat)(x1:(List qab))(x2:(List Int))(L26:(Bool × Int × Int × Bool × Int × Int × Int × (List qaa))->Option qae)(p:Bool × Int × Int × Int × Int × Bool × Int × Int × (List qaa)):Option qae:=(cond (Bool.not p.2.2.2.2.2.1) (some ((([],[]),(p.2.2.1,(Int.ofNat 2))),())) (cond (Bool.not (iltI p.2.2.2.1 (Int.ofNat 0))) (cond (Bool.not (Bool.not (iltI (IntKind.i64.wrap (Int.sub (Int.ofNat x1.length) (Int.ofNat 1))) p.2.2.2.1))) (some ((([],[]),(p.2.2.1,(Int.ofNat 2))),())) (L26 (p.1,p.2.2.2.1,p.2.2.2.2.1,p.2.2.2.2.2.1,p.2.1,p.2.2.2.2.2.2.2.1,p.2.2.2.2.2.2.1,p.2.2.2.2.2.2.2.2))) (some ((([],[]),(p.2.2.1,(Int.ofNat 2))),()))))
def qye(lf:Nat)(x1:(List qab))(x2:(List Int))(L30:(Int × Int × Int × Bool × ByteArray × (List DCol) × Int × (List DVal) × Int × (List qaa))->Option qae)(p:Bool × Int × Int × Bool × Int × Int × Int × (List qaa)):Option qae:=(match (jget x1 p.2.1) with|none=>none|some v0=>(L30 (p.2.2.2.2.1,p.2.2.2.2.2.1,p.2.2.1,p.1,v0.1,v0.2,(Int.ofNat 0),[],p.2.2.2.2.2.2.1,p.2.2.2.2.2.2.2)))
def qdj(lf:Nat)(x1:(List qab))(x2:(List Int))(L33:(ByteArray × Int × (List DCol) × Int × Int × Bool × Int × Bool × Int × Int × (List DVal) × Int × (List qaa))->Option qae)(L39:(Bool × Int × ByteArray × Int × Int × (List DVal) × Int × (List qaa))->Option qae)(p:Int × Int × Int × Bool × ByteArray × (List DCol) × Int × (List DVal) × Int × (List qaa)):Option qae:=(cond (iltI p.2.2.2.2.2.2.1 (Int.ofNat p.2.2.2.2.2.1.length)) (match (cond (Bool.and (Bool.not (iltI p.2.2.1 (Int.ofNat 0))) (Bool.not (iltI (Int.ofNat (List.length (lsub x2 (Int.ofNat 0) (IntKind.i64.wrap (Int.sub (Int.ofNat x2.length) (Int.ofNat 4)))))) p.2.2.1))) (some ((S.rr (lsub x2 (Int.ofNat 0) (IntKind.i64.wrap (Int.sub (Int.ofNat x2.length) (Int.ofNat 4)))) (Int.toNat p.2.2.1)),())) none) with|none=>none|some v0=>(L33 (p.2.2.2.2.1,p.2.2.1,p.2.2.2.2.2.1,p.2.1,p.1,p.2.2.2.1,v0.1.1,v0.1.2.2,v0.1.2.1,p.2.2.2.2.2.2.1,p.2.2.2.2.2.2.2.1,p.2.2.2.2.2.2.2.2.1,p.2.2.2.2.2.2.2.2.2))) (L39 (p.2.2.2.1,p.2.2.1,p.2.2.2.2.1,p.1,p.2.1,p.2.2.2.2.2.2.2.1,p.2.2.2.2.2.2.2.2.1,p.2.2.2.2.2.2.2.2.2)))
def qzo(lf:Nat)(x1:(List qab))(x2:(List Int))(L35:(Int × Int × Bool × ByteArray × (List DCol) × Int × Bool × Int × Int × Bool × Int × Int × Int × (List DVal) × Int × (List qaa))->Option qae)(p:ByteArray × Int × (List DCol) × Int × Int × Bool × Int × Bool × Int × Int × (List DVal) × Int × (List qaa)):Option qae:=(match (jget p.2.2.1 p.2.2.2.2.2.2.2.2.2.1) with|none=>none|some v0=>(cond (ieqI v0.2.1 (Int.ofNat 1)) (L35 (p.2.2.2.2.2.2.2.2.1,p.2.1,p.2.2.2.2.2.2.2.1,p.1,p.2.2.1,p.2.2.2.2.2.2.1,p.2.2.2.2.2.1,p.2.2.2.1,p.2.2.2.2.1,(S.value ((Int.ofNat 1),p.2.2.2.2.2.2.1) p.2.2.2.2.1),(Int.ofNat 1),p.2.2.2.2.2.2.1,p.2.2.2.2.2.2.2.2.2.1,p.2.2.2.2.2.2.2.2.2.2.1,p.2.2.2.2.2.2.2.2.2.2.2.1,p.2.2.2.2.2.2.2.2.2.2.2.2)) (cond (ieqI v0.2.1 (Int.ofNat 2)) (L35 (p.2.2.2.2.2.2.2.2.1,p.2.1,p.2.2.2.2.2.2.2.1,p.1,p.2.2.1,p.2.2.2.2.2.2.1,p.2.2.2.2.2.1,p.2.2.2.1,p.2.2.2.2.1,(S.value ((Int.ofNat 2),p.2.2.2.2.2.2.1) p.2.2.2.2.1),(Int.ofNat 2),p.2.2.2.2.2.2.1,p.2.2.2.2.2.2.2.2.2.1,p.2.2.2.2.2.2.2.2.2.2.1,p.2.2.2.2.2.2.2.2.2.2.2.1,p.2.2.2.2.2.2.2.2.2.2.2.2)) (cond (ieqI p.2.2.2.2.2.2.1 (Int.ofNat 0)) (L35 (p.2.2.2.2.2.2.2.2.1,p.2.1,p.2.2.2.2.2.2.2.1,p.1,p.2.2.1,p.2.2.2.2.2.2.1,p.2.2.2.2.2.1,p.2.2.2.1,p.2.2.2.2.1,(S.value ((Int.ofNat 3),(Int.ofNat 0)) p.2.2.2.2.1),(Int.ofNat 3),(Int.ofNat 0),p.2.2.2.2.2.2.2.2.2.1,p.2.2.2.2.2.2.2.2.2.2.1,p.2.2.2.2.2.2.2.2.2.2.2.1,p.2.2.2.2.2.2.2.2.2.2.2.2)) (L35 (p.2.2.2.2.2.2.2.2.1,p.2.1,p.2.2.2.2.2.2.2.1,p.1,p.2.2.1,p.2.2.2.2.2.2.1,p.2.2.2.2.2.1,p.2.2.2.1,p.2.2.2.2.1,(S.value ((Int.ofNat 4),(IntKind.i64.wrap (Int.sub p.2.2.2.2.2.2.1 (Int.ofNat 1)))) p.2.2.2.2.1),(Int.ofNat 4),(IntKind.i64.wrap (Int.sub p.2.2.2.2.2.2.1 (Int.ofNat 1))),p.2.2.2.2.2.2.2.2.2.1,p.2.2.2.2.2.2.2.2.2.2.1,p.2.2.2.2.2.2.2.2.2.2.2.1,p.2.2.2.2.2.2.2.2.2.2.2.2))))))
def qzh(lf:Nat)(x1:(List qab))(x2:(List Int))(L37:(Int × ByteArray × (List DCol) × Int × Int × Bool × Int × Int × Bool × Int × Int × (List DVal) × Int × (List qaa))->Option qae)(p:Int × Int × Bool × ByteArray × (List DCol) × Int × Bool × Int × Int × Bool × Int × Int × Int × (List DVal) × Int × (List qaa)):Option qae:=(cond (Bool.not p.2.2.1) (some ((([],[]),(p.2.1,(Int.ofNat 2))),())) (cond (Bool.not p.2.2.2.2.2.2.2.2.2.1) (some ((([],[]),(p.2.1,(Int.ofNat 2))),())) (L37 (p.2.2.2.2.2.2.2.2.2.2.2.1,p.2.2.2.1,p.2.2.2.2.1,p.2.2.2.2.2.1,p.1,p.2.2.1,p.2.2.2.2.2.2.2.2.1,p.2.2.2.2.2.2.2.1,p.2.2.2.2.2.2.1,p.2.2.2.2.2.2.2.2.2.2.1,p.2.2.2.2.2.2.2.2.2.2.2.2.1,p.2.2.2.2.2.2.2.2.2.2.2.2.2.1,p.2.2.2.2.2.2.2.2.2.2.2.2.2.2.1,p.2.2.2.2.2.2.2.2.2.2.2.2.2.2.2))))
def qwh(lf:Nat)(x1:(List qab))(x2:(List Int))(L30:(Int × Int × Int × Bool × ByteArray × (List DCol) × Int × (List DVal) × Int × (List qaa))->Option qae)(p:Int × ByteArray × (List DCol) × Int × Int × Bool × Int × Int × Bool × Int × Int × (List DVal) × Int × (List qaa)):Option qae:=(cond (Nat.ble (Nat.mul (Nat.add p.2.2.2.2.2.2.2.2.2.2.2.1.length 1) 16) 140737488355328) (L30 (p.2.2.2.2.2.2.1,p.2.2.2.2.2.2.2.1,p.2.2.2.2.1,p.2.2.2.2.2.2.2.2.1,p.2.1,p.2.2.1,(IntKind.i64.wrap (Int.add p.2.2.2.2.2.2.2.2.2.2.1 (Int.ofNat 1))),(List.append p.2.2.2.2.2.2.2.2.2.2.2.1 [(p.2.2.2.2.2.2.2.2.2.1,p.1)]),p.2.2.2.2.2.2.2.2.2.2.2.2.1,p.2.2.2.2.2.2.2.2.2.2.2.2.2)) none)
def qvm(lf:Nat)(x1:(List qab))(x2:(List Int))(L21:(Bool × Int × Int × Int × (List qaa) × Int)->Option qae)(p:Bool × Int × ByteArray × Int × Int × (List DVal) × Int × (List qaa)):Option qae:=(cond (Nat.ble (Nat.mul (Nat.add p.2.2.2.2.2.2.2.length 1) 40) 140737488355328) (L21 (p.1,p.2.1,p.2.2.2.1,(IntKind.i64.wrap (Int.add p.2.2.2.2.2.2.1 (Int.ofNat 1))),(List.append p.2.2.2.2.2.2.2 [(p.2.2.1,p.2.2.2.2.2.1)]),p.2.2.2.2.1)) none)
def qwp(lf:Nat)(x1:(List qab))(x2:(List Int))(L43:((List qaa) × Int × Int × Bool × Int × Bool × Int)->Option qae)(p:Bool × Int × Int × (List qaa) × Int):Option qae:=(match (cond (Bool.and (Bool.not (iltI p.2.1 (Int.ofNat 0))) (Bool.not (iltI (Int.ofNat (List.length (lsub x2 (Int.ofNat 0) (IntKind.i64.wrap (Int.sub (Int.ofNat x2.length) (Int.ofNat 4)))))) p.2.1))) (some ((S.rr (lsub x2 (Int.ofNat 0) (IntKind.i64.wrap (Int.sub (Int.ofNat x2.length) (Int.ofNat 4)))) (Int.toNat p.2.1)),())) none) with|none=>none|some v0=>(cond (Bool.not v0.1.2.2) (some ((([],[]),(p.2.1,(Int.ofNat 2))),())) (cond (Bool.not (iltI v0.1.1 (Int.ofNat 0))) (cond (Bool.not (Bool.not (iltI (Int.ofNat 60) v0.1.1))) (some ((([],[]),(p.2.1,(Int.ofNat 2))),())) (L43 (p.2.2.2.1,p.2.2.2.2,p.2.2.1,p.1,v0.1.1,v0.1.2.2,v0.1.2.1))) (some ((([],[]),(p.2.1,(Int.ofNat 2))),())))))
def qyc(lf:Nat)(x1:(List qab))(x2:(List Int))(L45:((List qaa) × Int × Int × Bool × Int × Int × Bool × Int × Int × (List DVal))->Option qae)(p:(List qaa) × Int × Int × Bool × Int × Bool × Int):Option qae:=(L45 (p.1,p.2.2.2.2.2.2,p.2.2.2.2.1,p.2.2.2.2.2.1,p.2.2.1,p.2.1,p.2.2.2.1,(Int.ofNat 0),p.2.2.2.2.2.2,[]))
def qfy(lf:Nat)(x1:(List qab))(x2:(List Int))(L50:((List qaa) × Int × Int × Int × Bool × Int × Bool × Int × Bool × Int × Bool × Int × Int × Int × Int × (List DVal))->Option qae)(L54:((List qaa) × Int × (List DVal))->Option qae)(p:(List qaa) × Int × Int × Bool × Int × Int × Bool × Int × Int × (List DVal)):Option qae:=(cond (iltI p.2.2.2.2.2.2.2.1 p.2.2.1) (match (cond (Bool.and (Bool.not (iltI p.2.1 (Int.ofNat 0))) (Bool.not (iltI (Int.ofNat (List.length (lsub x2 (Int.ofNat 0) (IntKind.i64.wrap (Int.sub (Int.ofNat x2.length) (Int.ofNat 4)))))) p.2.1))) (some ((S.rr (lsub x2 (Int.ofNat 0) (IntKind.i64.wrap (Int.sub (Int.ofNat x2.length) (Int.ofNat 4)))) (Int.toNat p.2.1)),())) none) with|none=>none|some v0=>(cond (ieqI v0.1.1 (Int.ofNat 0)) (L50 (p.1,p.2.1,p.2.2.2.2.1,p.2.2.1,p.2.2.2.1,p.2.2.2.2.2.1,p.2.2.2.2.2.2.1,v0.1.1,v0.1.2.2,v0.1.2.1,(S.value ((Int.ofNat 3),(Int.ofNat 0)) p.2.2.2.2.1),(Int.ofNat 3),(Int.ofNat 0),p.2.2.2.2.2.2.2.1,p.2.2.2.2.2.2.2.2.1,p.2.2.2.2.2.2.2.2.2)) (L50 (p.1,p.2.1,p.2.2.2.2.1,p.2.2.1,p.2.2.2.1,p.2.2.2.2.2.1,p.2.2.2.2.2.2.1,v0.1.1,v0.1.2.2,v0.1.2.1,(S.value ((Int.ofNat 4),(IntKind.i64.wrap (Int.sub v0.1.1 (Int.ofNat 1)))) p.2.2.2.2.1),(Int.ofNat 4),(IntKind.i64.wrap (Int.sub v0.1.1 (Int.ofNat 1))),p.2.2.2.2.2.2.2.1,p.2.2.2.2.2.2.2.2.1,p.2.2.2.2.2.2.2.2.2)))) (L54 (p.1,p.2.1,p.2.2.2.2.2.2.2.2.2)))
def q1i(lf:Nat)(x1:(List qab))(x2:(List Int))(L52:((List qaa) × Int × Int × Bool × Int × Int × Int × Int × Bool × Int × Int × Bool × Int × (List DVal))->Option qae)(p:(List qaa) × Int × Int × Int × Bool × Int × Bool × Int × Bool × Int × Bool × Int × Int × Int × Int × (List DVal)):Option qae:=(cond (Bool.not p.2.2.2.2.2.2.2.2.1) (some ((([],[]),(p.2.1,(Int.ofNat 2))),())) (cond (Bool.not p.2.2.2.2.2.2.2.2.2.2.1) (some ((([],[]),(p.2.1,(Int.ofNat 2))),())) (L52 (p.1,p.2.2.2.1,p.2.2.2.2.2.2.2.2.2.2.2.2.2.2.1,p.2.2.2.2.1,p.2.2.2.2.2.2.2.2.2.2.2.1,p.2.2.2.2.2.2.2.2.2.2.2.2.1,p.2.2.1,p.2.2.2.2.2.1,p.2.2.2.2.2.2.1,p.2.2.2.2.2.2.2.1,p.2.2.2.2.2.2.2.2.2.1,p.2.2.2.2.2.2.2.2.1,p.2.2.2.2.2.2.2.2.2.2.2.2.2.1,p.2.2.2.2.2.2.2.2.2.2.2.2.2.2.2))))
def qwj(lf:Nat)(x1:(List qab))(x2:(List Int))(L45:((List qaa) × Int × Int × Bool × Int × Int × Bool × Int × Int × (List DVal))->Option qae)(p:(List qaa) × Int × Int × Bool × Int × Int × Int × Int × Bool × Int × Int × Bool × Int × (List DVal)):Option qae:=(cond (Nat.ble (Nat.mul (Nat.add p.2.2.2.2.2.2.2.2.2.2.2.2.2.length 1) 16) 140737488355328) (L45 (p.1,p.2.2.2.2.2.2.2.2.2.2.1,p.2.1,p.2.2.2.1,p.2.2.2.2.2.2.1,p.2.2.2.2.2.2.2.1,p.2.2.2.2.2.2.2.2.1,(IntKind.i64.wrap (Int.add p.2.2.2.2.2.2.2.2.2.2.2.2.1 (Int.ofNat 1))),p.2.2.1,(List.append p.2.2.2.2.2.2.2.2.2.2.2.2.2 [(p.2.2.2.2.1,p.2.2.2.2.2.1)]))) none)
def qxk(lf:Nat)(x1:(List qab))(x2:(List Int))(L56:((List qaa) × (List DVal))->Option qae)(p:(List qaa) × Int × (List DVal)):Option qae:=(cond (iltI p.2.1 (Int.ofNat (List.length (lsub x2 (Int.ofNat 0) (IntKind.i64.wrap (Int.sub (Int.ofNat x2.length) (Int.ofNat 4))))))) (some ((([],[]),(p.2.1,(Int.ofNat 2))),())) (L56 (p.1,p.2.2)))
def qxj(lf:Nat)(x1:(List qab))(x2:(List Int))(p:(List qaa) × (List DVal)):Option qae:=(cond (Bool.not (ieqI (S.checkG x1 (p.1,p.2)) (Int.ofNat 0))) (some ((([],[]),((Int.ofNat 0),(Int.ofNat 8))),())) (match (cond (ieqI (S.formed (p.1,p.2)) (Int.ofNat 0)) (some (((S.canonG (p.1,p.2)),((S.numsG (p.1,p.2)),(Int.ofNat 0))),())) none) with|none=>none|some v0=>(cond (Bool.not (S.sameGraphs (v0.1.1.1,v0.1.1.2) (p.1,p.2))) (some ((([],[]),((Int.ofNat 0),(Int.ofNat 2))),())) (some (((p.1,p.2),((Int.ofNat 0),(Int.ofNat 0))),())))))
abbrev gz31:Type:=ElA [(.list cForm),(.list (.int .u8))]->Option qae
abbrev sz31(g:gz31):Sm:=⟨[(.list cForm),(.list (.int .u8))],[(false,q0y)],g⟩
abbrev Ez31(g:gz31)(J:JT qae)(lf:Nat)(x1:(List qab))(x2:(List Int)):=qbc Tryz.prog ttT.get qof fi25.nt (qw5 _ lf) lf qta J fi25.body [] (qau (argV [(.list cForm),(.list (.int .u8))] (x1,x2,())) 0 .leaf) S0 [] (qar ttT.get fi25 (sz31 g))
abbrev Bz31(g:gz31)(J:JT qae)(lf k:Nat)(ms:List Nat)(q:NRes):=qbi Tryz.prog ttT.get qof fi25.nt (qw5 _ lf) lf qta J k fi25.body [] ms q (qar ttT.get fi25 (sz31 g))
theorem zsy(g:gz31)(J:JT qae)(lf:Nat)(x1:(List qab))(x2:(List Int)):Ez31 g J lf x1 x2=qvr lf x1 x2 (fun q=>J 11 [lf] (qiw x1 x2 q)):=by kernel_rfl
theorem zj0(g:gz31)(J:JT qae)(lf:Nat)(x1:(List qab))(x2:(List Int))(m1:Nat)(p:(List Int) × Int):Bz31 g J lf 11 [m1] (qiw x1 x2 p)=qhe lf x1 x2 (fun q=>J 11 [m1] (qiw x1 x2 q)) (fun q=>J 15 [] (qt4 x1 x2 q)) p:=by kernel_rfl
theorem zl7(g:gz31)(J:JT qae)(lf:Nat)(x1:(List qab))(x2:(List Int))(p:Unit):Bz31 g J lf 15 [] (qt4 x1 x2 p)=qwy lf x1 x2 (fun q=>J 19 [] (qsl x1 x2 q)) p:=by kernel_rfl
theorem z04(g:gz31)(J:JT qae)(lf:Nat)(x1:(List qab))(x2:(List Int))(p:Int × Bool × Int):Bz31 g J lf 19 [] (qsl x1 x2 p)=qx4 lf x1 x2 (fun q=>J 21 [lf] (qb3 x1 x2 q)) p:=by kernel_rfl
theorem zpt(g:gz31)(J:JT qae)(lf:Nat)(x1:(List qab))(x2:(List Int))(m1:Nat)(p:Bool × Int × Int × Int × (List qaa) × Int):Bz31 g J lf 21 [m1] (qb3 x1 x2 p)=qgq lf x1 x2 (fun q=>J 24 [m1] (qu5 x1 x2 q)) (fun q=>J 40 [] (qro x1 x2 q)) p:=by kernel_rfl
theorem zne(g:gz31)(J:JT qae)(lf:Nat)(x1:(List qab))(x2:(List Int))(m1:Nat)(p:Bool × Int × Int × Int × Int × Bool × Int × Int × (List qaa)):Bz31 g J lf 24 [m1] (qu5 x1 x2 p)=q0c lf x1 x2 (fun q=>J 26 [m1] (qu2 x1 x2 q)) p:=by kernel_rfl
theorem zuz(g:gz31)(J:JT qae)(lf:Nat)(x1:(List qab))(x2:(List Int))(m1:Nat)(p:Bool × Int × Int × Bool × Int × Int × Int × (List qaa)):Bz31 g J lf 26 [m1] (qu2 x1 x2 p)=qye lf x1 x2 (fun q=>J 30 [m1,lf] (qdu x1 x2 q)) p:=by kernel_rfl
theorem zvb(g:gz31)(J:JT qae)(lf:Nat)(x1:(List qab))(x2:(List Int))(m1:Nat)(m2:Nat)(p:Int × Int × Int × Bool × ByteArray × (List DCol) × Int × (List DVal) × Int × (List qaa)):Bz31 g J lf 30 [m1,m2] (qdu x1 x2 p)=qdj lf x1 x2 (fun q=>J 33 [m1,m2] (qsp x1 x2 q)) (fun q=>J 39 [m1] (qsw x1 x2 q)) p:=by kernel_rfl
theorem ztx(g:gz31)(J:JT qae)(lf:Nat)(x1:(List qab))(x2:(List Int))(m1:Nat)(m2:Nat)(p:ByteArray × Int × (List DCol) × Int × Int × Bool × Int × Bool × Int × Int × (List DVal) × Int × (List qaa)):Bz31 g J lf 33 [m1,m2] (qsp x1 x2 p)=qzo lf x1 x2 (fun q=>J 35 [m1,m2] (qqi x1 x2 q)) p:=by kernel_rfl
theorem zzb(g:gz31)(J:JT qae)(lf:Nat)(x1:(List qab))(x2:(List Int))(m1:Nat)(m2:Nat)(p:Int × Int × Bool × ByteArray × (List DCol) × Int × Bool × Int × Int × Bool × Int × Int × Int × (List DVal) × Int × (List qaa)):Bz31 g J lf 35 [m1,m2] (qqi x1 x2 p)=qzh lf x1 x2 (fun q=>J 37 [m1,m2] (qut x1 x2 q)) p:=by kernel_rfl
theorem zmk(g:gz31)(J:JT qae)(lf:Nat)(x1:(List qab))(x2:(List Int))(m1:Nat)(m2:Nat)(p:Int × ByteArray × (List DCol) × Int × Int × Bool × Int × Int × Bool × Int × Int × (List DVal) × Int × (List qaa)):Bz31 g J lf 37 [m1,m2] (qut x1 x2 p)=qwh lf x1 x2 (fun q=>J 30 [m1,m2] (qdu x1 x2 q)) p:=by kernel_rfl
theorem zy3(g:gz31)(J:JT qae)(lf:Nat)(x1:(List qab))(x2:(List Int))(m1:Nat)(p:Bool × Int × ByteArray × Int × Int × (List DVal) × Int × (List qaa)):Bz31 g J lf 39 [m1] (qsw x1 x2 p)=qvm lf x1 x2 (fun q=>J 21 [m1] (qb3 x1 x2 q)) p:=by kernel_rfl
theorem zfy(g:gz31)(J:JT qae)(lf:Nat)(x1:(List qab))(x2:(List Int))(p:Bool × Int × Int × (List qaa) × Int):Bz31 g J lf 40 [] (qro x1 x2 p)=qwp lf x1 x2 (fun q=>J 43 [] (qtm x1 x2 q)) p:=by kernel_rfl
theorem z0a(g:gz31)(J:JT qae)(lf:Nat)(x1:(List qab))(x2:(List Int))(p:(List qaa) × Int × Int × Bool × Int × Bool × Int):Bz31 g J lf 43 [] (qtm x1 x2 p)=qyc lf x1 x2 (fun q=>J 45 [lf] (qew x1 x2 q)) p:=by kernel_rfl
theorem z2u(g:gz31)(J:JT qae)(lf:Nat)(x1:(List qab))(x2:(List Int))(m1:Nat)(p:(List qaa) × Int × Int × Bool × Int × Int × Bool × Int × Int × (List DVal)):Bz31 g J lf 45 [m1] (qew x1 x2 p)=qfy lf x1 x2 (fun q=>J 50 [m1] (qu4 x1 x2 q)) (fun q=>J 54 [] (qq4 x1 x2 q)) p:=by kernel_rfl
theorem zte(g:gz31)(J:JT qae)(lf:Nat)(x1:(List qab))(x2:(List Int))(m1:Nat)(p:(List qaa) × Int × Int × Int × Bool × Int × Bool × Int × Bool × Int × Bool × Int × Int × Int × Int × (List DVal)):Bz31 g J lf 50 [m1] (qu4 x1 x2 p)=q1i lf x1 x2 (fun q=>J 52 [m1] (qp9 x1 x2 q)) p:=by kernel_rfl
theorem zgr(g:gz31)(J:JT qae)(lf:Nat)(x1:(List qab))(x2:(List Int))(m1:Nat)(p:(List qaa) × Int × Int × Bool × Int × Int × Int × Int × Bool × Int × Int × Bool × Int × (List DVal)):Bz31 g J lf 52 [m1] (qp9 x1 x2 p)=qwj lf x1 x2 (fun q=>J 45 [m1] (qew x1 x2 q)) p:=by kernel_rfl
theorem zvt(g:gz31)(J:JT qae)(lf:Nat)(x1:(List qab))(x2:(List Int))(p:(List qaa) × Int × (List DVal)):Bz31 g J lf 54 [] (qq4 x1 x2 p)=qxk lf x1 x2 (fun q=>J 56 [] (qsv x1 x2 q)) p:=by kernel_rfl
theorem zsr(g:gz31)(J:JT qae)(lf:Nat)(x1:(List qab))(x2:(List Int))(p:(List qaa) × (List DVal)):Bz31 g J lf 56 [] (qsv x1 x2 p)=qxj lf x1 x2 p:=by kernel_rfl
theorem qcc:(regs fi25.body).Nodup:=by decide +kernel
theorem qcd:okC qof qta zak fi25.body none=true:=by kernel_rfl
def Az31(g:gz31)(lf:Nat):JT qae:=atN Tryz.prog ttT.get qof fi25 (sz31 g) (qw5 _ lf) lf zak
def qs9(lf:Nat)(x1:(List qab))(x2:(List Int))(K21:(Bool × Int × Int × Int × (List qaa) × Int)->Option qae)(K30:(Int × Int × Int × Bool × ByteArray × (List DCol) × Int × (List DVal) × Int × (List qaa))->Option qae)(p:Int × ByteArray × (List DCol) × Int × Int × Bool × Int × Int × Bool × Int × Int × (List DVal) × Int × (List qaa)):Option qae:=qwh lf x1 x2 K30 p
theorem zx6(g:gz31)(lf:Nat)(x1:(List qab))(x2:(List Int))(m1:Nat)(m2:Nat)(p:Int × ByteArray × (List DCol) × Int × Int × Bool × Int × Int × Bool × Int × Int × (List DVal) × Int × (List qaa)):Az31 g lf 37 [m1,m2] (qut x1 x2 p)=qs9 lf x1 x2 (fun q=>Az31 g lf 21 [m1] (qb3 x1 x2 q)) (fun q=>Az31 g lf 30 [m1,m2] (qdu x1 x2 q)) p:=by
  refine(qao (qaj 20 _) qcc qcd 37 [m1,m2] [m1,m2] rfl _).trans ((zmk g (Az31 g lf) lf x1 x2 m1 m2 p).trans ?_);rfl
def qt6(lf:Nat)(x1:(List qab))(x2:(List Int))(K21:(Bool × Int × Int × Int × (List qaa) × Int)->Option qae)(K30:(Int × Int × Int × Bool × ByteArray × (List DCol) × Int × (List DVal) × Int × (List qaa))->Option qae)(p:Int × Int × Bool × ByteArray × (List DCol) × Int × Bool × Int × Int × Bool × Int × Int × Int × (List DVal) × Int × (List qaa)):Option qae:=qzh lf x1 x2 (fun q=>qs9 lf x1 x2 K21 K30 q) p
theorem zg3(g:gz31)(lf:Nat)(x1:(List qab))(x2:(List Int))(m1:Nat)(m2:Nat)(p:Int × Int × Bool × ByteArray × (List DCol) × Int × Bool × Int × Int × Bool × Int × Int × Int × (List DVal) × Int × (List qaa)):Az31 g lf 35 [m1,m2] (qqi x1 x2 p)=qt6 lf x1 x2 (fun q=>Az31 g lf 21 [m1] (qb3 x1 x2 q)) (fun q=>Az31 g lf 30 [m1,m2] (qdu x1 x2 q)) p:=by
  refine(qao (qaj 20 _) qcc qcd 35 [m1,m2] [m1,m2] rfl _).trans ((zzb g (Az31 g lf) lf x1 x2 m1 m2 p).trans ?_);rw[(show (fun q=>Az31 g lf 37 [m1,m2] (qut x1 x2 q))=(fun q=>qs9 lf x1 x2 (fun q=>Az31 g lf 21 [m1] (qb3 x1 x2 q)) (fun q=>Az31 g lf 30 [m1,m2] (qdu x1 x2 q)) q) from funext fun q=>zx6 g lf x1 x2 m1 m2 q)];rfl
def qcv(lf:Nat)(x1:(List qab))(x2:(List Int))(K21:(Bool × Int × Int × Int × (List qaa) × Int)->Option qae)(K30:(Int × Int × Int × Bool × ByteArray × (List DCol) × Int × (List DVal) × Int × (List qaa))->Option qae)(p:ByteArray × Int × (List DCol) × Int × Int × Bool × Int × Bool × Int × Int × (List DVal) × Int × (List qaa)):Option qae:=qzo lf x1 x2 (fun q=>qt6 lf x1 x2 K21 K30 q) p
theorem zro(g:gz31)(lf:Nat)(x1:(List qab))(x2:(List Int))(m1:Nat)(m2:Nat)(p:ByteArray × Int × (List DCol) × Int × Int × Bool × Int × Bool × Int × Int × (List DVal) × Int × (List qaa)):Az31 g lf 33 [m1,m2] (qsp x1 x2 p)=qcv lf x1 x2 (fun q=>Az31 g lf 21 [m1] (qb3 x1 x2 q)) (fun q=>Az31 g lf 30 [m1,m2] (qdu x1 x2 q)) p:=by
  refine(qao (qaj 20 _) qcc qcd 33 [m1,m2] [m1,m2] rfl _).trans ((ztx g (Az31 g lf) lf x1 x2 m1 m2 p).trans ?_);rw[(show (fun q=>Az31 g lf 35 [m1,m2] (qqi x1 x2 q))=(fun q=>qt6 lf x1 x2 (fun q=>Az31 g lf 21 [m1] (qb3 x1 x2 q)) (fun q=>Az31 g lf 30 [m1,m2] (qdu x1 x2 q)) q) from funext fun q=>zg3 g lf x1 x2 m1 m2 q)];rfl
def qcu(lf:Nat)(x1:(List qab))(x2:(List Int))(K21:(Bool × Int × Int × Int × (List qaa) × Int)->Option qae)(p:Bool × Int × ByteArray × Int × Int × (List DVal) × Int × (List qaa)):Option qae:=qvm lf x1 x2 K21 p
theorem zx9(g:gz31)(lf:Nat)(x1:(List qab))(x2:(List Int))(m1:Nat)(p:Bool × Int × ByteArray × Int × Int × (List DVal) × Int × (List qaa)):Az31 g lf 39 [m1] (qsw x1 x2 p)=qcu lf x1 x2 (fun q=>Az31 g lf 21 [m1] (qb3 x1 x2 q)) p:=by
  refine(qao (qaj 20 _) qcc qcd 39 [m1] [m1] rfl _).trans ((zy3 g (Az31 g lf) lf x1 x2 m1 p).trans ?_);rfl
def qhn(lf:Nat)(x1:(List qab))(x2:(List Int))(K21:(Bool × Int × Int × Int × (List qaa) × Int)->Option qae):Nat->(Int × Int × Int × Bool × ByteArray × (List DCol) × Int × (List DVal) × Int × (List qaa))->Option qae:=rounds fun K p=>qdj lf x1 x2 (fun q=>qcv lf x1 x2 K21 K q) (fun q=>qcu lf x1 x2 K21 q) p
theorem zci(g:gz31)(lf:Nat)(x1:(List qab))(x2:(List Int))(m1:Nat):∀(n:Nat) (p:Int × Int × Int × Bool × ByteArray × (List DCol) × Int × (List DVal) × Int × (List qaa)),Az31 g lf 30 [m1,n] (qdu x1 x2 p)=qhn lf x1 x2 (fun q=>Az31 g lf 21 [m1] (qb3 x1 x2 q)) n p
 | 0,p=>qax 30 [m1,0] rfl _
 | n+1,p=>by
  have ih:=zci g lf x1 x2 m1 n;refine(qao (qaj 20 _) qcc qcd 30 [m1,n+1] [m1,n] rfl _).trans ((zvb g (Az31 g lf) lf x1 x2 m1 n p).trans ?_);rw[(show (fun q=>Az31 g lf 33 [m1,n] (qsp x1 x2 q))=(fun q=>qcv lf x1 x2 (fun q=>Az31 g lf 21 [m1] (qb3 x1 x2 q)) (fun q=>Az31 g lf 30 [m1,n] (qdu x1 x2 q)) q) from funext fun q=>zro g lf x1 x2 m1 n q),(show (fun q=>Az31 g lf 39 [m1] (qsw x1 x2 q))=(fun q=>qcu lf x1 x2 (fun q=>Az31 g lf 21 [m1] (qb3 x1 x2 q)) q) from funext fun q=>zx9 g lf x1 x2 m1 q),(show (fun q=>Az31 g lf 30 [m1,n] (qdu x1 x2 q))=(fun q=>qhn lf x1 x2 (fun q=>Az31 g lf 21 [m1] (qb3 x1 x2 q)) n q) from funext ih)];rfl
def qtx(lf:Nat)(x1:(List qab))(x2:(List Int))(K21:(Bool × Int × Int × Int × (List qaa) × Int)->Option qae)(p:Bool × Int × Int × Bool × Int × Int × Int × (List qaa)):Option qae:=qye lf x1 x2 (fun q=>qhn lf x1 x2 K21 lf q) p
theorem zum(g:gz31)(lf:Nat)(x1:(List qab))(x2:(List Int))(m1:Nat)(p:Bool × Int × Int × Bool × Int × Int × Int × (List qaa)):Az31 g lf 26 [m1] (qu2 x1 x2 p)=qtx lf x1 x2 (fun q=>Az31 g lf 21 [m1] (qb3 x1 x2 q)) p:=by
  refine(qao (qaj 20 _) qcc qcd 26 [m1] [m1] rfl _).trans ((zuz g (Az31 g lf) lf x1 x2 m1 p).trans ?_);rw[(show (fun q=>Az31 g lf 30 [m1,lf] (qdu x1 x2 q))=(fun q=>qhn lf x1 x2 (fun q=>Az31 g lf 21 [m1] (qb3 x1 x2 q)) lf q) from funext fun q=>zci g lf x1 x2 m1 lf q)];rfl
def qgh(lf:Nat)(x1:(List qab))(x2:(List Int))(K21:(Bool × Int × Int × Int × (List qaa) × Int)->Option qae)(p:Bool × Int × Int × Int × Int × Bool × Int × Int × (List qaa)):Option qae:=q0c lf x1 x2 (fun q=>qtx lf x1 x2 K21 q) p
theorem zoa(g:gz31)(lf:Nat)(x1:(List qab))(x2:(List Int))(m1:Nat)(p:Bool × Int × Int × Int × Int × Bool × Int × Int × (List qaa)):Az31 g lf 24 [m1] (qu5 x1 x2 p)=qgh lf x1 x2 (fun q=>Az31 g lf 21 [m1] (qb3 x1 x2 q)) p:=by
  refine(qao (qaj 20 _) qcc qcd 24 [m1] [m1] rfl _).trans ((zne g (Az31 g lf) lf x1 x2 m1 p).trans ?_);rw[(show (fun q=>Az31 g lf 26 [m1] (qu2 x1 x2 q))=(fun q=>qtx lf x1 x2 (fun q=>Az31 g lf 21 [m1] (qb3 x1 x2 q)) q) from funext fun q=>zum g lf x1 x2 m1 q)];rfl
def qte(lf:Nat)(x1:(List qab))(x2:(List Int))(K45:((List qaa) × Int × Int × Bool × Int × Int × Bool × Int × Int × (List DVal))->Option qae)(p:(List qaa) × Int × Int × Bool × Int × Int × Int × Int × Bool × Int × Int × Bool × Int × (List DVal)):Option qae:=qwj lf x1 x2 K45 p
theorem ztt(g:gz31)(lf:Nat)(x1:(List qab))(x2:(List Int))(m1:Nat)(p:(List qaa) × Int × Int × Bool × Int × Int × Int × Int × Bool × Int × Int × Bool × Int × (List DVal)):Az31 g lf 52 [m1] (qp9 x1 x2 p)=qte lf x1 x2 (fun q=>Az31 g lf 45 [m1] (qew x1 x2 q)) p:=by
  refine(qao (qaj 20 _) qcc qcd 52 [m1] [m1] rfl _).trans ((zgr g (Az31 g lf) lf x1 x2 m1 p).trans ?_);rfl
def qfh(lf:Nat)(x1:(List qab))(x2:(List Int))(K45:((List qaa) × Int × Int × Bool × Int × Int × Bool × Int × Int × (List DVal))->Option qae)(p:(List qaa) × Int × Int × Int × Bool × Int × Bool × Int × Bool × Int × Bool × Int × Int × Int × Int × (List DVal)):Option qae:=q1i lf x1 x2 (fun q=>qte lf x1 x2 K45 q) p
theorem zz7(g:gz31)(lf:Nat)(x1:(List qab))(x2:(List Int))(m1:Nat)(p:(List qaa) × Int × Int × Int × Bool × Int × Bool × Int × Bool × Int × Bool × Int × Int × Int × Int × (List DVal)):Az31 g lf 50 [m1] (qu4 x1 x2 p)=qfh lf x1 x2 (fun q=>Az31 g lf 45 [m1] (qew x1 x2 q)) p:=by
  refine(qao (qaj 20 _) qcc qcd 50 [m1] [m1] rfl _).trans ((zte g (Az31 g lf) lf x1 x2 m1 p).trans ?_);rw[(show (fun q=>Az31 g lf 52 [m1] (qp9 x1 x2 q))=(fun q=>qte lf x1 x2 (fun q=>Az31 g lf 45 [m1] (qew x1 x2 q)) q) from funext fun q=>ztt g lf x1 x2 m1 q)];rfl
def qjh(lf:Nat)(x1:(List qab))(x2:(List Int))(p:(List qaa) × (List DVal)):Option qae:=qxj lf x1 x2 p
theorem zvr(g:gz31)(lf:Nat)(x1:(List qab))(x2:(List Int))(p:(List qaa) × (List DVal)):Az31 g lf 56 [] (qsv x1 x2 p)=qjh lf x1 x2 p:=by
  refine(qao (qaj 20 _) qcc qcd 56 [] [] rfl _).trans ((zsr g (Az31 g lf) lf x1 x2 p).trans ?_);rfl
def qeh(lf:Nat)(x1:(List qab))(x2:(List Int))(p:(List qaa) × Int × (List DVal)):Option qae:=qxk lf x1 x2 (fun q=>qjh lf x1 x2 q) p
theorem zjj(g:gz31)(lf:Nat)(x1:(List qab))(x2:(List Int))(p:(List qaa) × Int × (List DVal)):Az31 g lf 54 [] (qq4 x1 x2 p)=qeh lf x1 x2 p:=by
  refine(qao (qaj 20 _) qcc qcd 54 [] [] rfl _).trans ((zvt g (Az31 g lf) lf x1 x2 p).trans ?_);rw[(show (fun q=>Az31 g lf 56 [] (qsv x1 x2 q))=(fun q=>qjh lf x1 x2 q) from funext fun q=>zvr g lf x1 x2 q)];rfl
def qpl(lf:Nat)(x1:(List qab))(x2:(List Int)):Nat->((List qaa) × Int × Int × Bool × Int × Int × Bool × Int × Int × (List DVal))->Option qae:=rounds fun K p=>qfy lf x1 x2 (fun q=>qfh lf x1 x2 K q) (fun q=>qeh lf x1 x2 q) p
theorem q2v(g:gz31)(lf:Nat)(x1:(List qab))(x2:(List Int)):∀(n:Nat) (p:(List qaa) × Int × Int × Bool × Int × Int × Bool × Int × Int × (List DVal)),Az31 g lf 45 [n] (qew x1 x2 p)=qpl lf x1 x2 n p
 | 0,p=>qax 45 [0] rfl _
 | n+1,p=>by
  have ih:=q2v g lf x1 x2 n;refine(qao (qaj 20 _) qcc qcd 45 [n+1] [n] rfl _).trans ((z2u g (Az31 g lf) lf x1 x2 n p).trans ?_);rw[(show (fun q=>Az31 g lf 50 [n] (qu4 x1 x2 q))=(fun q=>qfh lf x1 x2 (fun q=>Az31 g lf 45 [n] (qew x1 x2 q)) q) from funext fun q=>zz7 g lf x1 x2 n q),(show (fun q=>Az31 g lf 54 [] (qq4 x1 x2 q))=(fun q=>qeh lf x1 x2 q) from funext fun q=>zjj g lf x1 x2 q),(show (fun q=>Az31 g lf 45 [n] (qew x1 x2 q))=(fun q=>qpl lf x1 x2 n q) from funext ih)];rfl
def qp6(lf:Nat)(x1:(List qab))(x2:(List Int))(p:(List qaa) × Int × Int × Bool × Int × Bool × Int):Option qae:=qyc lf x1 x2 (fun q=>qpl lf x1 x2 lf q) p
theorem zwr(g:gz31)(lf:Nat)(x1:(List qab))(x2:(List Int))(p:(List qaa) × Int × Int × Bool × Int × Bool × Int):Az31 g lf 43 [] (qtm x1 x2 p)=qp6 lf x1 x2 p:=by
  refine(qao (qaj 20 _) qcc qcd 43 [] [] rfl _).trans ((z0a g (Az31 g lf) lf x1 x2 p).trans ?_);rw[(show (fun q=>Az31 g lf 45 [lf] (qew x1 x2 q))=(fun q=>qpl lf x1 x2 lf q) from funext fun q=>q2v g lf x1 x2 lf q)];rfl
def qen(lf:Nat)(x1:(List qab))(x2:(List Int))(p:Bool × Int × Int × (List qaa) × Int):Option qae:=qwp lf x1 x2 (fun q=>qp6 lf x1 x2 q) p
theorem z0b(g:gz31)(lf:Nat)(x1:(List qab))(x2:(List Int))(p:Bool × Int × Int × (List qaa) × Int):Az31 g lf 40 [] (qro x1 x2 p)=qen lf x1 x2 p:=by
  refine(qao (qaj 20 _) qcc qcd 40 [] [] rfl _).trans ((zfy g (Az31 g lf) lf x1 x2 p).trans ?_);rw[(show (fun q=>Az31 g lf 43 [] (qtm x1 x2 q))=(fun q=>qp6 lf x1 x2 q) from funext fun q=>zwr g lf x1 x2 q)];rfl
def ql5(lf:Nat)(x1:(List qab))(x2:(List Int)):Nat->(Bool × Int × Int × Int × (List qaa) × Int)->Option qae:=rounds fun K p=>qgq lf x1 x2 (fun q=>qgh lf x1 x2 K q) (fun q=>qen lf x1 x2 q) p
theorem ze8(g:gz31)(lf:Nat)(x1:(List qab))(x2:(List Int)):∀(n:Nat) (p:Bool × Int × Int × Int × (List qaa) × Int),Az31 g lf 21 [n] (qb3 x1 x2 p)=ql5 lf x1 x2 n p
 | 0,p=>qax 21 [0] rfl _
 | n+1,p=>by
  have ih:=ze8 g lf x1 x2 n;refine(qao (qaj 20 _) qcc qcd 21 [n+1] [n] rfl _).trans ((zpt g (Az31 g lf) lf x1 x2 n p).trans ?_);rw[(show (fun q=>Az31 g lf 24 [n] (qu5 x1 x2 q))=(fun q=>qgh lf x1 x2 (fun q=>Az31 g lf 21 [n] (qb3 x1 x2 q)) q) from funext fun q=>zoa g lf x1 x2 n q),(show (fun q=>Az31 g lf 40 [] (qro x1 x2 q))=(fun q=>qen lf x1 x2 q) from funext fun q=>z0b g lf x1 x2 q),(show (fun q=>Az31 g lf 21 [n] (qb3 x1 x2 q))=(fun q=>ql5 lf x1 x2 n q) from funext ih)];rfl
def qrt(lf:Nat)(x1:(List qab))(x2:(List Int))(p:Int × Bool × Int):Option qae:=qx4 lf x1 x2 (fun q=>ql5 lf x1 x2 lf q) p
theorem zh4(g:gz31)(lf:Nat)(x1:(List qab))(x2:(List Int))(p:Int × Bool × Int):Az31 g lf 19 [] (qsl x1 x2 p)=qrt lf x1 x2 p:=by
  refine(qao (qaj 20 _) qcc qcd 19 [] [] rfl _).trans ((z04 g (Az31 g lf) lf x1 x2 p).trans ?_);rw[(show (fun q=>Az31 g lf 21 [lf] (qb3 x1 x2 q))=(fun q=>ql5 lf x1 x2 lf q) from funext fun q=>ze8 g lf x1 x2 lf q)];rfl
def qe3(lf:Nat)(x1:(List qab))(x2:(List Int))(p:Unit):Option qae:=qwy lf x1 x2 (fun q=>qrt lf x1 x2 q) p
theorem zww(g:gz31)(lf:Nat)(x1:(List qab))(x2:(List Int))(p:Unit):Az31 g lf 15 [] (qt4 x1 x2 p)=qe3 lf x1 x2 p:=by
  refine(qao (qaj 20 _) qcc qcd 15 [] [] rfl _).trans ((zl7 g (Az31 g lf) lf x1 x2 p).trans ?_);rw[(show (fun q=>Az31 g lf 19 [] (qsl x1 x2 q))=(fun q=>qrt lf x1 x2 q) from funext fun q=>zh4 g lf x1 x2 q)];rfl
def qlb(lf:Nat)(x1:(List qab))(x2:(List Int)):Nat->((List Int) × Int)->Option qae:=rounds fun K p=>qhe lf x1 x2 K (fun q=>qe3 lf x1 x2 q) p
theorem q5z(g:gz31)(lf:Nat)(x1:(List qab))(x2:(List Int)):∀(n:Nat) (p:(List Int) × Int),Az31 g lf 11 [n] (qiw x1 x2 p)=qlb lf x1 x2 n p
 | 0,p=>qax 11 [0] rfl _
 | n+1,p=>by
  have ih:=q5z g lf x1 x2 n;refine(qao (qaj 20 _) qcc qcd 11 [n+1] [n] rfl _).trans ((zj0 g (Az31 g lf) lf x1 x2 n p).trans ?_);rw[(show (fun q=>Az31 g lf 15 [] (qt4 x1 x2 q))=(fun q=>qe3 lf x1 x2 q) from funext fun q=>zww g lf x1 x2 q),(show (fun q=>Az31 g lf 11 [n] (qiw x1 x2 q))=(fun q=>qlb lf x1 x2 n q) from funext ih)];rfl
def Fz31(lf:Nat)(x1:(List qab))(x2:(List Int)):Option qae:=qvr lf x1 x2 (fun q=>qlb lf x1 x2 lf q)
theorem zpb(g:gz31)(lf:Nat)(x1:(List qab))(x2:(List Int)):Ez31 g (Az31 g lf) lf x1 x2=Fz31 lf x1 x2:=by
  refine(zsy g (Az31 g lf) lf x1 x2).trans ?_;rw[(show (fun q=>Az31 g lf 11 [lf] (qiw x1 x2 q))=(fun q=>qlb lf x1 x2 lf q) from funext fun q=>q5z g lf x1 x2 lf q)];rfl
theorem ziz:qa1 Tryz.prog q2k:=trivial
theorem zjd{g:gz31}(hsm:SmOK Tryz.prog q2h)(hg:∀(x:ElA [(.list cForm),(.list (.int .u8))]) (y:qae),WfA [(.list cForm),(.list (.int .u8))] x->g x=some y->∃lf,Fz31 lf x.1 x.2.1=some y):Con Tryz.prog 25 ⟨[(.list cForm),(.list (.int .u8))],[(false,q0y)],g⟩ :=
 conV (st:=qta) (fun lf x=>Fz31 lf x.1 x.2.1) cm3 z2h ziz qcc qcd (fun lf x=>zpb g lf x.1 x.2.1) hsm hg
def qb4(k n:Int):DVal:=if k=1 then (1,n) else if k=2 then (2,n) else if n=0 then (3,0) else (4,IntKind.i64.wrap (Int.sub n (Int.ofNat 1)))
theorem qn0(lo hi:Int)(l:List Int):S.rd lo hi l=(match S.rdU true 8 l with
  | some (u,r)=>if lo<=S.unz u/\S.unz u<=hi then some (S.unz u,r) else none
  | none=>none):=rfl
theorem z11{u:Int}(h0:0<=u)(h1:u<72057594037927936):-72057594037927936<=S.unz u/\S.unz u<=72057594037927936:=by
 unfold S.unz;split<;>omega
theorem qjo(n lo hi:Int):S.within n lo hi=true↔lo<=n/\n<=hi:=by
 unfold S.within;simp only[jah,ja6]
theorem q9q{m k:Int}{l:List Int}(hl:∀c∈l,0<=c/\c<=255)(m0:0<=m)(m1:m<=400):S.rdV m k l=(match S.rdU true 8 l with
  | some (u,r)=>if S.value (qb4 k (S.unz u)) m=true then some (qb4 k (S.unz u),r) else none
  | none=>none):=by
 unfold S.rdV;have hw:IntKind.i64.wrap (Int.sub m (Int.ofNat 1))=m-1:=w64 (n:=m-1) (by omega) (by omega);cases hr:S.rdU true 8 l with
 | none=>simp only[qn0,hr];split<;>(try rfl);split<;>rfl
 | some q =>
  obtain⟨u,r⟩:=q;obtain⟨_,u0,u1⟩:=qy2 8 true l u r hr hl;have e8:(128:Int) ^ 8=72057594037927936:=by decide +kernel
  rw[e8] at u1;obtain⟨b0,b1⟩:=z11 u0 u1;simp only[qn0,hr];generalize S.unz u=n at b0 b1 ⊢;by_cases k1:k=1
  ·have hv:S.value (qb4 k n) m=S.within n (-1099511627776) 1099511627776:=by unfold qb4;rw[jal k1];rfl
   rw[jal k1,hv];by_cases hc:-1099511627776<=n/\n<=1099511627776
   ·rw[jal hc,jal ((qjo _ _ _).2 hc)];unfold qb4;rw[jal k1]
   ·rw[jak hc,jak (fun h=>hc ((qjo _ _ _).1 h))]
  ·rw[jak k1];by_cases k2:k=2
   ·have hv:S.value (qb4 k n) m=S.within n 0 1:=by unfold qb4;rw[jak k1,jal k2];rfl
    rw[jal k2,hv];by_cases hc:0<=n/\n<=1
    ·rw[jal hc,jal ((qjo _ _ _).2 hc)];unfold qb4;rw[jak k1,jal k2]
    ·rw[jak hc,jak (fun h=>hc ((qjo _ _ _).1 h))]
   ·rw[jak k2];by_cases hn:n=0
    ·have hv:qb4 k n=(3,0):=by unfold qb4;rw[jak k1,jak k2,jal hn]
     rw[hv,jal (⟨by omega,by omega⟩:0<=n/\n<=m),jal (show S.value (3,0) m=true from rfl)];simp only;rw[jak (by omega)]
    ·have hv:qb4 k n=(4,n-1):=by
      unfold qb4;rw[jak k1,jak k2,jak hn,show IntKind.i64.wrap (Int.sub n (Int.ofNat 1))=n-1 from w64 (n:=n-1) (by omega) (by omega)]
     have hv2:S.value (4,n-1) m=S.within (n-1) 0 (m-1):=by
      show S.within (n-1) 0 (IntKind.i64.wrap (Int.sub m (Int.ofNat 1)))=_;rw[hw]
     rw[hv,hv2];by_cases hc:0<=n/\n<=m
     ·rw[jal hc,jal ((qjo _ _ _).2 ⟨by omega,by omega⟩)];simp only;rw[jal (by omega)]
     ·rw[jak hc,jak (fun h=>hc (by have:=(qjo _ _ _).1 h;omega))]
theorem qyu{B l:List Int}(hb:∀c∈B,0<=c/\c<=255)(hl:B.length<=140737488355328)(hs:l <:+ B):(∃u r,S.rdU true 8 l=some (u,r)/\S.rr B (B.length-l.length)=(S.unz u,Int.ofNat (B.length-r.length),true))\/(S.rdU true 8 l=none/\∃x y,S.rr B (B.length-l.length)=(x,y,false)):=by
 have hd:B.drop (B.length-l.length)=l:=qpd hs;have h2:=(zaw (a:=B.length-l.length) hb hl (Nat.sub_le _ _)).2;rw[hd] at h2;cases hr:S.rdU true 8 l with
 | none =>
  right;refine⟨rfl,(S.rr B (B.length-l.length)).1,(S.rr B (B.length-l.length)).2.1,?_⟩;have:=h2 hr;generalize S.rr B (B.length-l.length)=q at this ⊢;obtain⟨x,y,z⟩:=q;simp only at this ⊢;rw[this]
 | some q =>
  obtain⟨u,r⟩:=q;left;refine⟨u,r,rfl,?_⟩;unfold S.rr;rw[hd,hr]
section
variable {F : List qab} {x2 B : List Int}
theorem zwl(K21:(Bool × Int × Int × Int × (List qaa) × Int)->Option qae)(K:(Int × Int × Int × Bool × ByteArray × (List DCol) × Int × (List DVal) × Int × (List qaa))->Option qae)(hb:∀c∈B,0<=c/\c<=255)(hl:B.length<=140737488355328){l:List Int}(hs:l <:+ B)(m:Int)(m0:0<=m)(m1:m<=400)(nm:ByteArray)(cs:List DCol)(c:DCol)(j:Nat)(hc:jget cs (Int.ofNat j)=some c)(nx:Int)(fl:Bool)(vs:List DVal)(i:Int)(ns:List qaa)(hv:vs.length<=3600000000000)(hj:j<=1000000000000000) :
  qcv LF F x2 K21 K (nm,Int.ofNat (B.length-l.length),cs,nx,m,fl,(S.rr B (B.length-l.length)).1,(S.rr B (B.length-l.length)).2.2,(S.rr B (B.length-l.length)).2.1,Int.ofNat j,vs,i,ns)=(match S.rdV m c.2.1 l with
   | none=>some ((([],[]),(Int.ofNat (B.length-l.length),Int.ofNat 2)),())
   | some (v,r)=>K (m,nx,Int.ofNat (B.length-r.length),fl,nm,cs,Int.ofNat (j+1),vs++[v],i,ns)):=by
 have hlb:∀c∈l,0<=c/\c<=255:=fun c hc=>hb c (hs.subset hc);rw[q9q hlb m0 m1];have key:∀(n nxt:Int) (ok:Bool),qcv LF F x2 K21 K (nm,Int.ofNat (B.length-l.length),cs,nx,m,fl,n,ok,nxt,Int.ofNat j,vs,i,ns)=(cond (Bool.not ok) (some ((([],[]),(Int.ofNat (B.length-l.length),Int.ofNat 2)),())) (cond (Bool.not (S.value (qb4 c.2.1 n) m)) (some ((([],[]),(Int.ofNat (B.length-l.length),Int.ofNat 2)),())) (K (m,nx,nxt,fl,nm,cs,Int.ofNat (j+1),vs++[qb4 c.2.1 n],i,ns)))):=fun n nxt ok=>by
  simp only[qcv,qzo,hc,qat,qt6,qzh,qs9,qwh,qr5 hv,jaa,qgj hj];unfold qb4;by_cases k1:c.2.1=1
  ·rw[jaf (show c.2.1=Int.ofNat 1 from k1),jal k1];rfl
  ·rw[jae (show ¬c.2.1=Int.ofNat 1 from k1),jak k1,jad];by_cases k2:c.2.1=2
   ·rw[jaf (show c.2.1=Int.ofNat 2 from k2),jal k2];rfl
   ·rw[jae (show ¬c.2.1=Int.ofNat 2 from k2),jak k2,jad];by_cases hn:n=0
    ·rw[jaf (show n=Int.ofNat 0 from hn),jal hn];rfl
    ·rw[jae (show ¬n=Int.ofNat 0 from hn),jak hn];rfl
 rw[key];rcases qyu hb hl hs with ⟨u,r,h1,h2⟩|⟨h1,x,y,h2⟩
 ·rw[h1,h2];simp only[ja1,jad];cases hva:S.value (qb4 c.2.1 (S.unz u)) m with
  | false=>simp
  | true=>simp
 ·rw[h1,h2];rfl
theorem zx0(hL:lsub x2 (Int.ofNat 0) (IntKind.i64.wrap (Int.sub (Int.ofNat x2.length) (Int.ofNat 4)))=B)(K21:(Bool × Int × Int × Int × (List qaa) × Int)->Option qae)(hb:∀c∈B,0<=c/\c<=255)(hBl:B.length<=140737488355328)(m:Int)(m0:0<=m)(m1:m<=400)(nm:ByteArray)(nx:Int)(fl:Bool)(i:Int)(ns:List qaa)(cs:List DCol)(hc:cs.length<=3600000000000){l:List Int}(hs:l <:+ B) :
  (∃e,S.decVs B.length m cs l=.inl e/\qhn LF F x2 K21 LF (m,nx,Int.ofNat (B.length-l.length),fl,nm,cs,Int.ofNat 0,[],i,ns)=some ((([],[]),(e,Int.ofNat 2)),())) \/
  ∃vs r,S.decVs B.length m cs l=.inr (vs,r)/\r <:+ B/\qhn LF F x2 K21 LF (m,nx,Int.ofNat (B.length-l.length),fl,nm,cs,Int.ofNat 0,[],i,ns)=qcu LF F x2 K21 (fl,Int.ofNat (B.length-r.length),nm,m,nx,vs,i,ns):=by
 have key:∀(rest done:List DCol),cs=done++rest->∀(n:Nat) (l:List Int) (vs:List DVal),l <:+ B->rest.length<n->vs.length=done.length ->
   (∃e,S.decVs B.length m rest l=.inl e/\rounds (fun K p=>qdj LF F x2 (fun q=>qcv LF F x2 K21 K q) (fun q=>qcu LF F x2 K21 q) p) n (m,nx,Int.ofNat (B.length-l.length),fl,nm,cs,Int.ofNat done.length,vs,i,ns)=some ((([],[]),(e,Int.ofNat 2)),())) \/
   ∃vs' r,S.decVs B.length m rest l=.inr (vs',r)/\r <:+ B/\rounds (fun K p=>qdj LF F x2 (fun q=>qcv LF F x2 K21 K q) (fun q=>qcu LF F x2 K21 q) p) n (m,nx,Int.ofNat (B.length-l.length),fl,nm,cs,Int.ofNat done.length,vs,i,ns)=qcu LF F x2 K21 (fl,Int.ofNat (B.length-r.length),nm,m,nx,vs++vs',i,ns):=by
  intro rest;induction rest with
  | nil =>
   intro done hd n l vs hs hn hv;cases n with
   | zero=>simp at hn
   | succ n =>
    right;refine⟨[],l,rfl,hs,?_⟩;show qdj LF F x2 (fun q=>qcv LF F x2 K21 (rounds (fun K p=>qdj LF F x2 (fun q=>qcv LF F x2 K21 K q) (fun q=>qcu LF F x2 K21 q) p) n) q) (fun q=>qcu LF F x2 K21 q) _=_;generalize rounds (fun K p=>qdj LF F x2 (fun q=>qcv LF F x2 K21 K q) (fun q=>qcu LF F x2 K21 q) p) n=Z;rw[jbl] at hd;subst hd;simp only[qdj,qaz,jad,jbl]
  | cons c rest ih =>
   intro done hd n l vs hs hn hv;cases n with
   | zero=>simp at hn
   | succ n =>
    have hlen:cs.length=done.length+(rest.length+1):=by rw[hd];simp
    have ih:=fun l' vs' h1 h3=>ih (done++[c]) (by rw[hd];simp) n l' vs' h1 (by simp at hn;omega) h3;rw[show (Int.ofNat (done++[c]).length)=Int.ofNat (done.length+1) by simp] at ih;have hunf:rounds (fun K p=>qdj LF F x2 (fun q=>qcv LF F x2 K21 K q) (fun q=>qcu LF F x2 K21 q) p) (n+1) (m,nx,Int.ofNat (B.length-l.length),fl,nm,cs,Int.ofNat done.length,vs,i,ns)=qdj LF F x2 (fun q=>qcv LF F x2 K21 (rounds (fun K p=>qdj LF F x2 (fun q=>qcv LF F x2 K21 K q) (fun q=>qcu LF F x2 K21 q) p) n) q) (fun q=>qcu LF F x2 K21 q) (m,nx,Int.ofNat (B.length-l.length),fl,nm,cs,Int.ofNat done.length,vs,i,ns):=rfl;rw[hunf];generalize rounds (fun K p=>qdj LF F x2 (fun q=>qcv LF F x2 K21 K q) (fun q=>qcu LF F x2 K21 q) p) n=Z at ih ⊢;have hlt:iltI (Int.ofNat done.length) (Int.ofNat cs.length)=true:=by rw[qal];exact jaf (by show ((done.length:Nat):Int)<((cs.length:Nat):Int);omega)
    have hget:jget cs (Int.ofNat done.length)=some c:=by rw[qbz,hd];simp
    simp only[qdj,hlt,jaa,hL,qg1,qg4,jax,jcy];rw[show Int.toNat (Int.ofNat (B.length-l.length))=B.length-l.length from rfl];rw[zwl K21 Z hb hBl hs m m0 m1 nm cs c done.length hget nx fl vs i ns (by omega) (by omega)];cases hr:S.rdV m c.2.1 l with
    | none =>
     left;exact⟨_,by simp only[S.decVs,hr],rfl⟩
    | some q =>
     obtain⟨v,r⟩:=q;have hs':=(qmq hr).trans hs;rcases ih r (vs++[v]) hs' (by simp[hv]) with ⟨e,h1,h2⟩|⟨vs',r',h1,h2,h3⟩
     ·left;exact⟨e,by simp only[S.decVs,hr,h1],h2⟩
     ·right;exact⟨v::vs',r',by simp only[S.decVs,hr,h1],h2,by refine h3.trans ?_;rw[jbj];rfl⟩
 have:=key cs [] rfl LF l [] hs (by unfold LF;omega) rfl;simp only[qhn];simpa only [jdo,jcj] using this
end
theorem tst{R:Type}(x lo hi:Int)(z:Bool)(W L:R):cond (Bool.not z) W (cond (Bool.not (iltI x lo)) (cond (Bool.not (Bool.not (iltI hi x))) W L) W)=if z=true/\lo<=x/\x<=hi then L else W:=by
 cases z with
 | false=>simp
 | true =>
  rw[ja1,jad,qal,qal];by_cases h1:x<lo
  ·rw[jaf h1,ja1,jad,jak (by omega)]
  ·rw[jae h1,jax,jaa];by_cases h2:hi<x
   ·rw[jaf h2,jak (by omega)];rfl
   ·rw[jae h2,jal ⟨rfl,by omega,by omega⟩];rfl
def qh9(e:Int):Option qae:=some ((([],[]),(e,Int.ofNat 2)),())
theorem qwc{B l:List Int}(lo hi:Int)(hb:∀c∈B,0<=c/\c<=255)(hl:B.length<=140737488355328)(hs:l <:+ B) :
  (∃n r,S.rd lo hi l=some (n,r)/\S.rr B (B.length-l.length)=(n,Int.ofNat (B.length-r.length),true)/\lo<=n/\n<=hi/\r <:+ B) \/
  (S.rd lo hi l=none/\¬((S.rr B (B.length-l.length)).2.2=true/\lo<=(S.rr B (B.length-l.length)).1/\(S.rr B (B.length-l.length)).1<=hi)):=by
 rcases qyu hb hl hs with ⟨u,r,h1,h2⟩|⟨h1,x,y,h2⟩
 ·by_cases hc:lo<=S.unz u/\S.unz u<=hi
  ·left;have he:S.rd lo hi l=some (S.unz u,r):=by rw[qn0,h1];simp only;rw[jal hc]
   exact⟨_,r,he,h2,hc.1,hc.2,(qcp he).1.trans hs⟩
  ·right;refine⟨by rw[qn0,h1];simp only;rw[jak hc],?_⟩;rw[h2];exact fun h=>hc h.2
 ·right;refine⟨by rw[qn0,h1],?_⟩;rw[h2];exact fun h=>by cases h.1
section
variable {F : List qab} {x2 B : List Int}
theorem q3p(hL:lsub x2 (Int.ofNat 0) (IntKind.i64.wrap (Int.sub (Int.ofNat x2.length) (Int.ofNat 4)))=B)(hb:∀c∈B,0<=c/\c<=255)(hBl:B.length<=140737488355328)(m:Int)(m0:0<=m)(m1:m<=400)(ns:List qaa)(cnt:Nat)(hcnt:cnt<=60)(ok fl:Bool)(nx nz:Int):∀(k n j:Nat) (l:List Int) (rs:List DVal),j+k=cnt->k<n->l <:+ B->rs.length<=j ->
  rounds (fun K p=>qfy LF F x2 (fun q=>qfh LF F x2 K q) (fun q=>qeh LF F x2 q) p) n (ns,Int.ofNat (B.length-l.length),Int.ofNat cnt,ok,m,nx,fl,Int.ofNat j,nz,rs)=(match S.decRs B.length m k l with
   | .inl e=>qh9 e
   | .inr (vs,r)=>qeh LF F x2 (ns,Int.ofNat (B.length-r.length),rs++vs))
 | k,0,j,l,rs,h1,h2,h3,h4=>by omega
 | k,n+1,j,l,rs,h1,h2,h3,h4=>by
  have ih:=fun k'=>q3p hL hb hBl m m0 m1 ns cnt hcnt ok fl nx nz k' n;show qfy LF F x2 (fun q=>qfh LF F x2 (rounds (fun K p=>qfy LF F x2 (fun q=>qfh LF F x2 K q) (fun q=>qeh LF F x2 q) p) n) q) (fun q=>qeh LF F x2 q) _=_;generalize rounds (fun K p=>qfy LF F x2 (fun q=>qfh LF F x2 K q) (fun q=>qeh LF F x2 q) p) n=Z at ih ⊢;cases k with
  | zero =>
   have e:iltI (Int.ofNat j) (Int.ofNat cnt)=false:=by rw[qal];exact jae (by show ¬((j:Int)<(cnt:Int));omega)
   simp only[qfy,e,jad,S.decRs,jbl]
  | succ k =>
   have e:iltI (Int.ofNat j) (Int.ofNat cnt)=true:=by rw[qal];exact jaf (by show ((j:Int)<(cnt:Int));omega)
   have hlb:∀c∈l,0<=c/\c<=255:=fun c hc=>hb c (h3.subset hc);have hV:=q9q (k:=0) hlb m0 m1;have key:∀(v nxt:Int) (z:Bool),S.rr B (B.length-l.length)=(v,nxt,z)->qfy LF F x2 (fun q=>qfh LF F x2 Z q) (fun q=>qeh LF F x2 q) (ns,Int.ofNat (B.length-l.length),Int.ofNat cnt,ok,m,nx,fl,Int.ofNat j,nz,rs)=cond (Bool.not z) (qh9 (Int.ofNat (B.length-l.length))) (cond (Bool.not (S.value (qb4 0 v) m)) (qh9 (Int.ofNat (B.length-l.length))) (Z (ns,nxt,Int.ofNat cnt,ok,m,nx,fl,Int.ofNat (j+1),nz,rs++[qb4 0 v]))):=fun v nxt z hrr=>by
    simp only[qfy,e,jaa,hL,qg1,qg4,jax,jcy];rw[show Int.toNat (Int.ofNat (B.length-l.length))=B.length-l.length from rfl,hrr];simp only[qfh,q1i,qte,qwj,qr5 (m:=rs.length) (by omega),qgj (k:=j) (by omega),jaa,qat];unfold qb4;rw[jak (show ¬(0:Int)=1 by decide),jak (show ¬(0:Int)=2 by decide)];by_cases hn:v=0
    ·rw[jaf (show v=Int.ofNat 0 from hn),jal hn];rfl
    ·rw[jae (show ¬v=Int.ofNat 0 from hn),jak hn];rfl
   rcases qyu hb hBl h3 with ⟨u,r,g1,g2⟩|⟨g1,x,y,g2⟩
   ·rw[key _ _ _ g2,ja1,jad];rw[g1] at hV;simp only at hV;cases hva:S.value (qb4 0 (S.unz u)) m with
    | false =>
     rw[hva] at hV;simp only[S.decRs,hV,jax,jaa];rfl
    | true =>
     rw[hva,jal rfl] at hV;have hs:=(qmq hV).trans h3;simp only[S.decRs,hV,ja1,jad];rw[ih k (j+1) r (rs++[qb4 0 (S.unz u)]) (by omega) (by omega) hs (by simp;omega)];cases S.decRs B.length m k r with
     | inl e=>rfl
     | inr q=>simp only[jbj];rfl
   ·rw[key _ _ _ g2,jax,jaa];rw[g1] at hV;simp only[S.decRs,hV]
theorem zau(hL:lsub x2 (Int.ofNat 0) (IntKind.i64.wrap (Int.sub (Int.ofNat x2.length) (Int.ofNat 4)))=B)(hb:∀c∈B,0<=c/\c<=255)(hBl:B.length<=140737488355328)(hF:∀f∈F,f.2.length<=3600000000000)(hFl:F.length<=3600000000000)(M:Nat)(hM:M<=400)(fl:Bool)(nx:Int):∀(k n i:Nat) (l:List Int) (ns:List qaa),i+k=M->k<n->l <:+ B->ns.length<=i ->
  rounds (fun K p=>qgq LF F x2 (fun q=>qgh LF F x2 K q) (fun q=>qen LF F x2 q) p) n (fl,Int.ofNat (B.length-l.length),Int.ofNat M,Int.ofNat i,ns,nx)=(match S.decNs B.length F (Int.ofNat M) k l with
   | .inl e=>qh9 e
   | .inr (vs,r)=>qen LF F x2 (fl,Int.ofNat (B.length-r.length),Int.ofNat M,ns++vs,nx))
 | k,0,i,l,ns,h1,h2,h3,h4=>by omega
 | k,n+1,i,l,ns,h1,h2,h3,h4=>by
  have ih:=fun k'=>zau hL hb hBl hF hFl M hM fl nx k' n;show qgq LF F x2 (fun q=>qgh LF F x2 (rounds (fun K p=>qgq LF F x2 (fun q=>qgh LF F x2 K q) (fun q=>qen LF F x2 q) p) n) q) (fun q=>qen LF F x2 q) _=_;generalize rounds (fun K p=>qgq LF F x2 (fun q=>qgh LF F x2 K q) (fun q=>qen LF F x2 q) p) n=Z at ih ⊢;cases k with
  | zero =>
   have e:iltI (Int.ofNat i) (Int.ofNat M)=false:=by rw[qal];exact jae (by show ¬((i:Int)<(M:Int));omega)
   simp only[qgq,e,jad,S.decNs,jbl]
  | succ k =>
   have e:iltI (Int.ofNat i) (Int.ofNat M)=true:=by rw[qal];exact jaf (by show ((i:Int)<(M:Int));omega)
   have ew:IntKind.i64.wrap (Int.sub (Int.ofNat F.length) (Int.ofNat 1))=Int.ofNat F.length-1:=w64 (by show -4611686018427387904<=(F.length:Int)-1;omega) (by show (F.length:Int)-1<=4611686018427387904;omega);simp only[qgq,e,jaa,hL,qg1,qg4,jax,jcy];rw[show Int.toNat (Int.ofNat (B.length-l.length))=B.length-l.length from rfl];simp only[qgh,q0c,ew,tst];simp only[S.decNs];rcases qwc (Int.ofNat 0) (Int.ofNat F.length-1) hb hBl h3 with ⟨v,r,g1,g2,g3,g4,g5⟩|⟨g1,g2⟩
   ·have g1:S.rd 0 (Int.ofNat F.length-1) l=some (v,r):=g1;have g3:0<=v:=g3;rw[g1,g2];simp only;rw[jal ⟨trivial,g3,g4⟩];have g4:v<=(F.length:Int)-1:=g4;have hg:jget F v=F[v.toNat]?:=by unfold jget;rw[jal g3]
    have hlt:v.toNat<F.length:=by omega
    simp only[qtx,qye,hg,jab hlt];have hmem:F[v.toNat]∈F:=ja3 hlt;generalize F[v.toNat]=f at hmem ⊢;rcases zx0 (F:=F) (x2:=x2) (B:=B) hL Z hb hBl (Int.ofNat M) (jb1 M) (by show (M:Int)<=400;omega) f.1 nx fl (Int.ofNat i) ns f.2 (hF f hmem) g5 with ⟨e,k1,k2⟩|⟨vs,r',k1,k2,k3⟩
    ·rw[k1];exact k2
    ·rw[k1];refine jc7 k3 ?_;simp only[qcu,qvm,q83 (m:=ns.length) (by omega),jaa,qgj (k:=i) (by omega)];have:=ih k (i+1) r' (ns++[(f.1,vs)]) (by omega) (by omega) k2 (by simp;omega);refine jc7 this ?_;cases S.decNs B.length F (Int.ofNat M) k r' with
     | inl e=>rfl
     | inr q=>simp only[jbj];rfl
   ·have g1:S.rd 0 (Int.ofNat F.length-1) l=none:=g1;rw[g1,jak g2];rfl
end
theorem zhj{v w:Int × Int}(h:S.eqVal v w=true):v=w:=by
 simp only[S.eqVal,jah] at h;exact je8 (ja9 h.1) (ja9 h.2.1)
theorem qym:∀{x y:List DVal},S.eqVals x y=true->x=y
 | [],[],_=>rfl
 | v::x,w::y,h=>by
  simp only[S.eqVals,jah] at h;rw[zhj h.1,qym h.2]
 | [],_::_,h=>by simp[S.eqVals] at h
 | _::_,[],h=>by simp[S.eqVals] at h
theorem zbj:∀{x y:List qaa},S.eqNodes x y=true->x=y
 | [],[],_=>rfl
 | v::x,w::y,h=>by
  simp only[S.eqNodes,S.eqNode,jah] at h;have h1:(v:ByteArray × List DVal).1=(w:ByteArray × List DVal).1:=ja9 h.1.1;have h2:=qym h.1.2;have e:(v:ByteArray × List DVal)=w:=je8 h1 h2;rw[zbj h.2];exact jb2 (·::y) e
 | [],_::_,h=>by simp[S.eqNodes] at h
 | _::_,[],h=>by simp[S.eqNodes] at h
theorem z03(x y:List qaa × List DVal):S.eqGraph x y=S.sameGraphs x y:=by
 unfold S.sameGraphs;by_cases h:x=y
 ·rw[jaf (show (x:qac)=y from h),h];exact zq9 y
 ·rw[jae (show ¬(x:qac)=y from h)];cases he:S.eqGraph x y with
  | false=>rfl
  | true =>
   unfold S.eqGraph at he;simp only[jah] at he;exact absurd (je8 (zbj he.2) (qym he.1)) h
theorem q6i{N:Nat}{m:Int}:∀(k:Nat) (l r:List Int) (vs:List DVal),S.decRs N m k l=.inr (vs,r)->r <:+ l
 | 0,l,r,vs,h=>by cases h;exact jev _
 | k+1,l,r,vs,h=>by
  unfold S.decRs at h;split at h
  ·cases h
  rename_i v r1 h1;split at h
  ·cases h
  rename_i vs2 r3 h3;cases h;exact(q6i k _ _ _ h3).trans (qmq h1)
theorem q60{N:Nat}{m:Int}:∀(cs:List DCol) (l r:List Int) (vs:List DVal),S.decVs N m cs l=.inr (vs,r)->r <:+ l
 | [],l,r,vs,h=>by cases h;exact jev _
 | c::cs,l,r,vs,h=>by
  unfold S.decVs at h;split at h
  ·cases h
  rename_i v r1 h1;split at h
  ·cases h
  rename_i vs2 r3 h3;cases h;exact(q60 cs _ _ _ h3).trans (qmq h1)
theorem q7j{N:Nat}{F:List qab}{m:Int}:∀(k:Nat) (l r:List Int) (ns:List qaa),S.decNs N F m k l=.inr (ns,r)->r <:+ l
 | 0,l,r,vs,h=>by cases h;exact jev _
 | k+1,l,r,ns,h=>by
  unfold S.decNs at h;split at h
  ·cases h
  rename_i i r1 h1;split at h
  ·cases h
  split at h
  ·cases h
  rename_i vs r2 h2;split at h
  ·cases h
  rename_i ns2 r3 h3;cases h;exact((q7j k _ _ _ h3).trans (q60 _ _ _ _ h2)).trans (qcp h1).1
section
variable {F : List qab} {x2 B : List Int}
theorem zrh(hL:lsub x2 (Int.ofNat 0) (IntKind.i64.wrap (Int.sub (Int.ofNat x2.length) (Int.ofNat 4)))=B)(hb:∀c∈B,0<=c/\c<=255)(hBl:B.length<=140737488355328)(m:Int)(m0:0<=m)(m1:m<=400)(ns:List qaa)(fl:Bool)(nx:Int){l:List Int}(hs:l <:+ B) :
  qen LF F x2 (fl,Int.ofNat (B.length-l.length),m,ns,nx)=(match S.rd 0 60 l with
   | none=>qh9 (Int.ofNat (B.length-l.length))
   | some (c,r)=>match S.decRs B.length m c.toNat r with
    | .inl e=>qh9 e
    | .inr (rs,r')=>qeh LF F x2 (ns,Int.ofNat (B.length-r'.length),rs)):=by
 simp only[qen,qwp,hL,qg1,qg4,jax,jcy,jaa];rw[show Int.toNat (Int.ofNat (B.length-l.length))=B.length-l.length from rfl];simp only[tst];rcases qwc (Int.ofNat 0) (Int.ofNat 60) hb hBl hs with ⟨v,r,g1,g2,g3,g4,g5⟩|⟨g1,g2⟩
 ·have g1:S.rd 0 60 l=some (v,r):=g1;have g3:0<=v:=g3;rw[g1,g2];simp only;rw[jal ⟨trivial,g3,g4⟩];obtain⟨c,rfl⟩:∃c:Nat,v=Int.ofNat c:=⟨v.toNat,by show v=((v.toNat:Nat):Int);omega⟩;have hc:c<=60:=by have:(c:Int)<=60:=g4;omega
  have:=q3p (F:=F) hL hb hBl m m0 m1 ns c hc true fl nx (Int.ofNat (B.length-r.length)) c LF 0 r [] (by omega) (by unfold LF;omega) g5 (by simp);simp only[qp6,qyc,qpl];refine jc7 this ?_;rw[show Int.toNat (Int.ofNat c)=c from rfl];cases S.decRs B.length m c r with
  | inl e=>rfl
  | inr q=>rfl
 ·have g1:S.rd 0 60 l=none:=g1;rw[g1,jak g2];rfl
theorem zsn(hL:lsub x2 (Int.ofNat 0) (IntKind.i64.wrap (Int.sub (Int.ofNat x2.length) (Int.ofNat 4)))=B)(hb:∀c∈B,0<=c/\c<=255)(hBl:B.length<=140737488355328)(hF:∀f∈F,f.2.length<=3600000000000)(hFl:F.length<=3600000000000) :
  qe3 LF F x2 ()=(match S.dec F B with
   | .inl e=>qh9 e
   | .inr g=>qjh LF F x2 ((g:List qaa × List DVal).1,(g:List qaa × List DVal).2)):=by
 have c0:iltI (Int.ofNat B.length) (Int.ofNat 0)=false:=by rw[qal];exact jae (by show ¬((B.length:Int)<0);omega)
 simp only[qe3,qwy,hL,c0,jax,jaa];simp only[tst];unfold S.dec;have hB0:B.length-B.length=0:=jeh _;rcases qwc (Int.ofNat 0) (Int.ofNat 400) hb hBl (jev B) with ⟨v,r,g1,g2,g3,g4,g5⟩|⟨g1,g2⟩
 ·have g1:S.rd 0 400 B=some (v,r):=g1;have g3:0<=v:=g3;rw[hB0] at g2;rw[g1,g2];simp only;rw[jal ⟨trivial,g3,g4⟩];obtain⟨M,rfl⟩:∃c:Nat,v=Int.ofNat c:=⟨v.toNat,by show v=((v.toNat:Nat):Int);omega⟩;have hM:M<=400:=by have:(M:Int)<=400:=g4;omega
  have:=zau hL hb hBl hF hFl M hM true (Int.ofNat (B.length-r.length)) M LF 0 r [] (by omega) (by unfold LF;omega) g5 (by simp);simp only[qrt,qx4,ql5];refine jc7 this ?_;rw[show Int.toNat (Int.ofNat M)=M from rfl];cases hd:S.decNs B.length F (Int.ofNat M) M r with
  | inl e=>rfl
  | inr q =>
   obtain⟨ns,l⟩:=q;have hs:=(q7j _ _ _ _ hd).trans g5;simp only[jdo];rw[zrh hL hb hBl (Int.ofNat M) (jb1 M) (by show (M:Int)<=400;omega) ns true _ hs];cases hk:S.rd 0 60 l with
   | none=>rfl
   | some q =>
    obtain⟨c,l2⟩:=q;have hs2:=(qcp hk).1.trans hs;simp only;cases hr:S.decRs B.length (Int.ofNat M) c.toNat l2 with
    | inl e=>rfl
    | inr q =>
     obtain⟨rs,l3⟩:=q;have hs3:=(q6i _ _ _ _ hr).trans hs2;simp only[qeh,qxk,hL];have hle:=hs3.length_le;by_cases hz:l3=[]
     ·subst hz;rw[jal rfl,qal,jae (by show ¬(((B.length-0:Nat):Int)<(B.length:Int));omega),jad]
     ·have:0<l3.length:=List.length_pos_iff.2 hz;rw[jak hz,qal,jaf (by show (((B.length-l3.length:Nat):Int)<(B.length:Int));omega),jaa];rfl
 ·have g1:S.rd 0 400 B=none:=g1;rw[hB0] at g2;rw[g1,jak g2];simp only[hB0];rfl
theorem z1k{g:List qaa × List DVal}(h0:S.checkForms F=0)(hf:S.formed g=0)(hp:S.typedPre F g=true):qjh LF F x2 (g.1,g.2)=some ((if S.typed F g g.1=false then (([],[]),0,8) else if S.eqGraph (S.canonG g) g=false then (([],[]),0,2) else (g,0,0)),()):=by
 have eta:(g.1,g.2)=g:=rfl;simp only[qjh,qxj,eta,hf,qat];have hck:S.checkG F g=S.unlessE (S.typed F g g.1) 8:=by
  unfold S.checkG S.check;rw[jak (fun h=>h h0),jak (fun h=>h hf)];rw[jak];intro h;rw[jby] at h;obtain⟨n,hn,h⟩:=h;have:=(ja0.1 hp) n hn;rw[jah] at this;have h1:=ja9 this.1;have h2:=ja9 h;omega
 rw[hck];cases ht:S.typed F g g.1 with
 | false=>rfl
 | true =>
  rw[show S.unlessE true 8=0 from rfl,jaf (show (0:Int)=Int.ofNat 0 from rfl),ja1,jad];simp only[jaf (show (0:Int)=Int.ofNat 0 from rfl),jaa];rw[jak (by simp),z03];have e2:(((S.canonG g:List qaa × List DVal).1,(S.canonG g:List qaa × List DVal).2):List qaa × List DVal)=S.canonG g:=rfl;rw[e2];cases S.sameGraphs (S.canonG g) g with
  | false=>rfl
  | true=>rfl
theorem zez(hL:lsub x2 (Int.ofNat 0) (IntKind.i64.wrap (Int.sub (Int.ofNat x2.length) (Int.ofNat 4)))=B)(hlen:x2.length=B.length+4)(hBl:B.length<=60000):∀(k n j:Nat),j+k=4->k<n ->
  rounds (fun K p=>qhe LF F x2 K (fun q=>qe3 LF F x2 q) p) n (B++S.sum4 B,Int.ofNat j)=if x2.drop (B.length+j)=(S.sum4 B).drop j then qe3 LF F x2 () else some ((([],[]),(Int.ofNat 0,Int.ofNat 15)),())
 | k,0,j,h1,h2=>by omega
 | k,n+1,j,h1,h2=>by
  have ih:=fun k'=>zez hL hlen hBl k' n;show qhe LF F x2 (rounds (fun K p=>qhe LF F x2 K (fun q=>qe3 LF F x2 q) p) n) (fun q=>qe3 LF F x2 q) _=_;generalize rounds (fun K p=>qhe LF F x2 K (fun q=>qe3 LF F x2 q) p) n=Z at ih ⊢;have hl4:(S.sum4 B).length=4:=rfl;simp only[qhe,hL,qal];cases k with
  | zero =>
   have hj:j=4:=by omega
   subst hj;rw[jae (by decide),jad,jal];rw[jde (by omega),jde (by omega)]
  | succ k =>
   have hj:j<4:=by omega
   rw[jaf (by show ((j:Nat):Int)<4;omega),jaa];have wN:IntKind.i64.wrap (Int.add (Int.ofNat B.length) (Int.ofNat j))=Int.ofNat (B.length+j):=by
    rw[show Int.add (Int.ofNat B.length) (Int.ofNat j)=((B.length+j:Nat):Int) from rfl,w64 (by omega) (by omega)];rfl
   have g1:jget (B++S.sum4 B) (Int.ofNat (B.length+j))=some (S.sum4 B)[j]:=by
    rw[qbz,jat (by omega),ja2];exact jab (by omega)
   have hx:B.length+j<x2.length:=by omega
   have g2:jget x2 (Int.ofNat (B.length+j))=some x2[B.length+j]:=by rw[qbz];exact jab hx
   have d1:x2.drop (B.length+j)=x2[B.length+j]::x2.drop (B.length+(j+1)):=jbd hx;have d2:(S.sum4 B).drop j=(S.sum4 B)[j]::(S.sum4 B).drop (j+1):=jbd (by omega);simp only[wN,g1,g2,qat,qgj (k:=j) (by omega)];rw[d1,d2,ih k (j+1) (by omega) (by omega)];by_cases he:(S.sum4 B)[j]=x2[B.length+j]
   ·rw[jaf he,ja1,jad,he];by_cases hz:x2.drop (B.length+(j+1))=(S.sum4 B).drop (j+1)
    ·rw[jal hz,jal (by rw[hz])]
    ·rw[jak hz,jak (fun h=>hz (jfg h).2)]
   ·rw[jae he,jax,jaa,jak (fun h=>he (jfg h).1.symm)]
theorem zo5(hb:∀c∈x2,0<=c/\c<=255)(hl:x2.length<=140737488355328)(hF:∀f∈F,f.2.length<=3600000000000)(hFl:F.length<=3600000000000):Fz31 LF F x2=some (S.Dec F x2,()):=by
 simp only[Fz31,qvr];unfold S.Dec;by_cases h0:S.checkForms F=0
 case neg=>rw[jal h0,qat,jae (show ¬S.checkForms F=Int.ofNat 0 from h0)];rfl
 rw[jak (fun h=>h h0),qat,jaf (show S.checkForms F=Int.ofNat 0 from h0),ja1,jad,qal,qal];by_cases h1:60000<x2.length
 ·rw[jal h1,jaf (by show (60000:Int)<(x2.length:Int);omega),jaa];rfl
 rw[jak h1,jae (by show ¬(60000:Int)<(x2.length:Int);omega),jad];by_cases h2:x2.length<4
 ·rw[jal h2,jaf (by show (x2.length:Int)<4;omega),jaa];rfl
 rw[jak h2,jae (by show ¬(x2.length:Int)<4;omega),jad];have ha:IntKind.i64.wrap (Int.sub (Int.ofNat x2.length) (Int.ofNat 4))=Int.ofNat (x2.length-4):=by
  rw[show Int.sub (Int.ofNat x2.length) (Int.ofNat 4)=(x2.length:Int)-4 from rfl,w64 (n:=(x2.length:Int)-4) (by omega) (by omega)];show _=((x2.length-4:Nat):Int);omega
 have hL:lsub x2 (Int.ofNat 0) (IntKind.i64.wrap (Int.sub (Int.ofNat x2.length) (Int.ofNat 4)))=x2.take (x2.length-4):=by
  rw[ha];show (x2.take (x2.length-4)).drop 0=_;rw[jck]
 have hBl:(x2.take (x2.length-4)).length=x2.length-4:=by rw[jd7];omega
 have c1:lchk (Int.ofNat 0) (IntKind.i64.wrap (Int.sub (Int.ofNat x2.length) (Int.ofNat 4))) (IntKind.i64.wrap (Int.sub (Int.ofNat x2.length) (Int.ofNat 4))) (Int.ofNat x2.length)=true:=by
  rw[ha];exact qgg.2 ⟨jcx _,by show (0:Int)<=((x2.length-4:Nat):Int);omega,jcx _,by show ((x2.length-4:Nat):Int)<=(x2.length:Int);omega⟩
 have hr:Nat.ble (Nat.add (x2.take (x2.length-4)).length 100) 140737488355328=true:=jbk (by rw[hBl];show x2.length-4+100<=_;omega);simp only[c1,hL,jaa,hr];have hbB:∀c∈x2.take (x2.length-4),0<=c/\c<=255:=fun c hc=>hb c (List.mem_of_mem_take hc);have h11:=zez (F:=F) hL (by omega) (by omega) 4 LF 0 rfl (by unfold LF;omega);simp only[qlb];refine jc7 h11 ?_;rw[jbt,hBl,jck,zsn hL hbB (by omega) hF hFl];by_cases h3:x2.drop (x2.length-4)=S.sum4 (x2.take (x2.length-4))
 ·rw[jal h3,jak (fun h=>h h3)];cases hd:S.dec F (x2.take (x2.length-4)) with
  | inl e=>rfl
  | inr g =>
   obtain⟨hf,hp⟩:=q6r (g:=g) h0 hd;exact z1k h0 hf hp
 ·rw[jak h3,jal h3];rfl
end
noncomputable def q36:Sm:=⟨[.list cForm,.list (.int .u8)],[(false,q0y)],fun x=>some (S.Dec x.1 x.2.1,())⟩
theorem zfv:Con Tryz.prog zrj q36:=zjd ⟨zd1,zeq,zgm,q38,znw,zrn,q7w,trivial⟩ fun x y hx h=>⟨LF,by
 obtain⟨(F:List qab),(b:List Int),_⟩:=x;obtain⟨hwF,hwb,_⟩:=hx;have hFl:F.length<=3600000000000:=by have:=hwF.1;rw[show Jx.bsz cForm=40 from rfl] at this;have:F.length*40<=140737488355328:=this;omega
 have hF:∀f,f∈F->f.2.length<=3600000000000:=fun f hf=>by
  have:=(hwF.2 f hf).2.1;rw[show Jx.bsz cCol=40 from rfl] at this;have:f.2.length*40<=140737488355328:=this;omega
 have hb:∀c,c∈b->0<=c/\c<=255:=fun (c:Int) hc=>(qe0 .u8 c).1 (hwb.2 c hc);have hl:b.length<=140737488355328:=by have:=hwb.1;rwa [show Jx.bsz (.int .u8)=1 from rfl,jd1] at this
 exact(zo5 (F:=F) (x2:=b) hb hl hF hFl).trans h⟩
def qom:Nat->Option Nm:=fun k=>cond (Nat.beq k 4) (some ⟨[0,1,5],[],[],[],[],0,0,false⟩) (cond (Nat.beq k 9) (some ⟨[0,1,5,6],[],[],[],[],0,0,false⟩) (cond (Nat.beq k 11) (some ⟨[0,1,5,7,8,9,10],[],[],[],[],0,0,false⟩) (cond (Nat.beq k 12) (some ⟨[0,1,5,8,9,10,11],[],[],[],[],0,0,false⟩) (none))))
def qrq:Nat->Bool:=fun k=>cond (Nat.beq k 4) true (cond (Nat.beq k 9) true (cond (Nat.beq k 11) true (cond (Nat.beq k 12) true (false))))
def q4q:Nat->Bool:=fun k=>cond (Nat.beq k 4) true (false)
abbrev qbg:Type:=Bool × Unit
def q96:List (Nat × Sm):=[(7,zey),(10,qju),(23,qz8),(24,q7m),(25,q36),(13,qxu)]
def q3e:List (Nat × Hx):=[]
def qyo(R:Type)(lf:Nat):ClK R:=qay Tryz.prog ttT.get ftT.get (nm1 6 qom) (smL q96) (hxL q3e) lf 20 R
abbrev zeo:Nat:=6
def qdy(x1:(List qab))(x2:(List Int))(p:Int):NRes:=(NRes.mk (.node (some (IV.lst cForm x1)) (.node (some (IV.lst (TC.int .u8) x2)) .leaf (.node (some (IV.int .i64 p)) .leaf .leaf)) .leaf) (IS.mk .leaf 0) [] 0)
def qvc(x1:(List qab))(x2:(List Int))(p:Int × (List Int)):NRes:=(NRes.mk (.node (some (IV.lst cForm x1)) (.node (some (IV.lst (TC.int .u8) x2)) .leaf (.node (some (IV.int .i64 p.1)) .leaf .leaf)) (.node none .leaf (.node (some (IV.lst (TC.int .u8) p.2)) .leaf .leaf))) (IS.mk .leaf 0) [] 0)
def qp5(x1:(List qab))(x2:(List Int))(p:Int × Int × Int × (List qaa) × (List DVal) × (List qaa) × (List DVal) × Int × Int):NRes:=(NRes.mk (.node (some (IV.lst cForm x1)) (.node (some (IV.lst (TC.int .u8) x2)) (.node none (.node (some (IV.ptr 0 0)) .leaf .leaf) .leaf) (.node (some (IV.int .i64 p.1)) (.node (some (IV.int .i64 p.2.1)) .leaf .leaf) .leaf)) (.node none (.node none (.node (some (IV.int .i64 p.2.2.1)) .leaf .leaf) .leaf) (.node none (.node (some (IV.ptr 1 0)) .leaf .leaf) .leaf))) (IS.mk (.node (some (IObj.row (List.cons (IV.lst qaf p.2.2.2.1) [(IV.lst cVal p.2.2.2.2.1)]))) (.node (some (IObj.row (List.cons (IV.lst qaf p.2.2.2.2.2.1) (List.cons (IV.lst cVal p.2.2.2.2.2.2.1) (List.cons (IV.int .i64 p.2.2.2.2.2.2.2.1) [(IV.int .i64 p.2.2.2.2.2.2.2.2)]))))) .leaf .leaf) .leaf) 2) [] 0)
def qup(x1:(List qab))(x2:(List Int))(p:Bool × Int × Int × Int × (List qaa) × (List DVal) × Int × Int):NRes:=(NRes.mk (.node (some (IV.lst cForm x1)) (.node (some (IV.lst (TC.int .u8) x2)) (.node none .leaf (.node (some (IV.bool p.1)) .leaf .leaf)) (.node (some (IV.int .i64 p.2.1)) (.node (some (IV.int .i64 p.2.2.1)) .leaf .leaf) .leaf)) (.node none (.node none (.node (some (IV.int .i64 p.2.2.2.1)) .leaf .leaf) .leaf) (.node none (.node (some (IV.ptr 0 0)) .leaf .leaf) .leaf))) (IS.mk (.node (some (IObj.row (List.cons (IV.lst qaf p.2.2.2.2.1) (List.cons (IV.lst cVal p.2.2.2.2.2.1) (List.cons (IV.int .i64 p.2.2.2.2.2.2.1) [(IV.int .i64 p.2.2.2.2.2.2.2)]))))) .leaf .leaf) 1) [] 0)
def qx1(lf:Nat)(x1:(List qab))(x2:(List Int))(L4:Int->Option qbg):Option qbg:=(cond (Bool.not (S.fewForms x1)) (some (true,())) (cond (iltI (Int.ofNat 400) (Int.ofNat x2.length)) (cond (Bool.not (iltI (Int.ofNat 60000) (Int.ofNat x2.length))) (some (true,())) (cond (iltI (Int.ofNat 60010) (Int.ofNat x2.length)) (some (true,())) (L4 (Int.ofNat 0)))) (cond (iltI (Int.ofNat 60010) (Int.ofNat x2.length)) (some (true,())) (L4 (Int.ofNat 0)))))
def qh1(lf:Nat)(x1:(List qab))(x2:(List Int))(L9:(Int × (List Int))->Option qbg)(p:Int):Option qbg:=(cond (iltI p (Int.ofNat 2)) (cond (ieqI p (Int.ofNat 1)) (match (cond (Nat.ble (Nat.add x2.length 100) 140737488355328) (some ((List.append x2 (S.sum4 x2)),())) none) with|none=>none|some v0=>(L9 (p,v0.1))) (L9 (p,x2))) (some (true,())))
def qvs(lf:Nat)(x1:(List qab))(x2:(List Int))(L11:(Int × Int × Int × (List qaa) × (List DVal) × (List qaa) × (List DVal) × Int × Int)->Option qbg)(p:Int × (List Int)):Option qbg:=(L11 (p.1,(S.Dec x1 p.2).2.2,(S.Dec x1 p.2).2.1,(S.Dec x1 p.2).1.1,(S.Dec x1 p.2).1.2,(S.Dec x1 p.2).1.1,(S.Dec x1 p.2).1.2,(S.Dec x1 p.2).2.1,(S.Dec x1 p.2).2.2))
def q0u(lf:Nat)(x1:(List qab))(x2:(List Int))(L12:(Bool × Int × Int × Int × (List qaa) × (List DVal) × Int × Int)->Option qbg)(p:Int × Int × Int × (List qaa) × (List DVal) × (List qaa) × (List DVal) × Int × Int):Option qbg:=(L12 ((S.sameGraphs (p.2.2.2.1,p.2.2.2.2.1) (p.2.2.2.2.2.1,p.2.2.2.2.2.2.1)),p.1,p.2.1,p.2.2.1,p.2.2.2.2.2.1,p.2.2.2.2.2.2.1,p.2.2.2.2.2.2.2.1,p.2.2.2.2.2.2.2.2))
def qv5(lf:Nat)(x1:(List qab))(x2:(List Int))(L4:Int->Option qbg)(p:Bool × Int × Int × Int × (List qaa) × (List DVal) × Int × Int):Option qbg:=(cond (Bool.not p.1) (some (false,())) (cond (Bool.not (ieqI p.2.2.2.1 p.2.2.2.2.2.2.1)) (some (false,())) (cond (Bool.not (ieqI p.2.2.1 p.2.2.2.2.2.2.2)) (some (false,())) (L4 (IntKind.i64.wrap (Int.add p.2.1 (Int.ofNat 1)))))))
abbrev gz32:Type:=ElA [(.list cForm),(.list (.int .u8))]->Option qbg
abbrev sz32(g:gz32):Sm:=⟨[(.list cForm),(.list (.int .u8))],[(false,.bool)],g⟩
abbrev Ez32(g:gz32)(J:JT qbg)(lf:Nat)(x1:(List qab))(x2:(List Int)):=qbc Tryz.prog ttT.get qom fi6.nt (qyo _ lf) lf qrq J fi6.body [] (qau (argV [(.list cForm),(.list (.int .u8))] (x1,x2,())) 0 .leaf) S0 [] (qar ttT.get fi6 (sz32 g))
abbrev Bz32(g:gz32)(J:JT qbg)(lf k:Nat)(ms:List Nat)(q:NRes):=qbi Tryz.prog ttT.get qom fi6.nt (qyo _ lf) lf qrq J k fi6.body [] ms q (qar ttT.get fi6 (sz32 g))
theorem z0y(g:gz32)(J:JT qbg)(lf:Nat)(x1:(List qab))(x2:(List Int)):Ez32 g J lf x1 x2=qx1 lf x1 x2 (fun q=>J 4 [lf] (qdy x1 x2 q)):=by kernel_rfl
theorem zpc(g:gz32)(J:JT qbg)(lf:Nat)(x1:(List qab))(x2:(List Int))(m1:Nat)(p:Int):Bz32 g J lf 4 [m1] (qdy x1 x2 p)=qh1 lf x1 x2 (fun q=>J 9 [m1] (qvc x1 x2 q)) p:=by kernel_rfl
theorem z0q(g:gz32)(J:JT qbg)(lf:Nat)(x1:(List qab))(x2:(List Int))(m1:Nat)(p:Int × (List Int)):Bz32 g J lf 9 [m1] (qvc x1 x2 p)=qvs lf x1 x2 (fun q=>J 11 [m1] (qp5 x1 x2 q)) p:=by kernel_rfl
theorem zud(g:gz32)(J:JT qbg)(lf:Nat)(x1:(List qab))(x2:(List Int))(m1:Nat)(p:Int × Int × Int × (List qaa) × (List DVal) × (List qaa) × (List DVal) × Int × Int):Bz32 g J lf 11 [m1] (qp5 x1 x2 p)=q0u lf x1 x2 (fun q=>J 12 [m1] (qup x1 x2 q)) p:=by kernel_rfl
theorem z0v(g:gz32)(J:JT qbg)(lf:Nat)(x1:(List qab))(x2:(List Int))(m1:Nat)(p:Bool × Int × Int × Int × (List qaa) × (List DVal) × Int × Int):Bz32 g J lf 12 [m1] (qup x1 x2 p)=qv5 lf x1 x2 (fun q=>J 4 [m1] (qdy x1 x2 q)) p:=by kernel_rfl
theorem ql6:(regs fi6.body).Nodup:=by decide +kernel
theorem qm2:okC qom qrq q4q fi6.body none=true:=by kernel_rfl
def Az32(g:gz32)(lf:Nat):JT qbg:=atN Tryz.prog ttT.get qom fi6 (sz32 g) (qyo _ lf) lf q4q
def qpy(lf:Nat)(x1:(List qab))(x2:(List Int))(K4:Int->Option qbg)(p:Bool × Int × Int × Int × (List qaa) × (List DVal) × Int × Int):Option qbg:=qv5 lf x1 x2 K4 p
theorem z2q(g:gz32)(lf:Nat)(x1:(List qab))(x2:(List Int))(m1:Nat)(p:Bool × Int × Int × Int × (List qaa) × (List DVal) × Int × Int):Az32 g lf 12 [m1] (qup x1 x2 p)=qpy lf x1 x2 (fun q=>Az32 g lf 4 [m1] (qdy x1 x2 q)) p:=by
  refine(qao (qaj 20 _) ql6 qm2 12 [m1] [m1] rfl _).trans ((z0v g (Az32 g lf) lf x1 x2 m1 p).trans ?_);rfl
def qsx(lf:Nat)(x1:(List qab))(x2:(List Int))(K4:Int->Option qbg)(p:Int × Int × Int × (List qaa) × (List DVal) × (List qaa) × (List DVal) × Int × Int):Option qbg:=q0u lf x1 x2 (fun q=>qpy lf x1 x2 K4 q) p
theorem ztg(g:gz32)(lf:Nat)(x1:(List qab))(x2:(List Int))(m1:Nat)(p:Int × Int × Int × (List qaa) × (List DVal) × (List qaa) × (List DVal) × Int × Int):Az32 g lf 11 [m1] (qp5 x1 x2 p)=qsx lf x1 x2 (fun q=>Az32 g lf 4 [m1] (qdy x1 x2 q)) p:=by
  refine(qao (qaj 20 _) ql6 qm2 11 [m1] [m1] rfl _).trans ((zud g (Az32 g lf) lf x1 x2 m1 p).trans ?_);rw[(show (fun q=>Az32 g lf 12 [m1] (qup x1 x2 q))=(fun q=>qpy lf x1 x2 (fun q=>Az32 g lf 4 [m1] (qdy x1 x2 q)) q) from funext fun q=>z2q g lf x1 x2 m1 q)];rfl
def qfz(lf:Nat)(x1:(List qab))(x2:(List Int))(K4:Int->Option qbg)(p:Int × (List Int)):Option qbg:=qvs lf x1 x2 (fun q=>qsx lf x1 x2 K4 q) p
theorem zvc(g:gz32)(lf:Nat)(x1:(List qab))(x2:(List Int))(m1:Nat)(p:Int × (List Int)):Az32 g lf 9 [m1] (qvc x1 x2 p)=qfz lf x1 x2 (fun q=>Az32 g lf 4 [m1] (qdy x1 x2 q)) p:=by
  refine(qao (qaj 20 _) ql6 qm2 9 [m1] [m1] rfl _).trans ((z0q g (Az32 g lf) lf x1 x2 m1 p).trans ?_);rw[(show (fun q=>Az32 g lf 11 [m1] (qp5 x1 x2 q))=(fun q=>qsx lf x1 x2 (fun q=>Az32 g lf 4 [m1] (qdy x1 x2 q)) q) from funext fun q=>ztg g lf x1 x2 m1 q)];rfl
def qjq(lf:Nat)(x1:(List qab))(x2:(List Int)):Nat->(Int)->Option qbg:=rounds fun K p=>qh1 lf x1 x2 (fun q=>qfz lf x1 x2 K q) p
theorem zas(g:gz32)(lf:Nat)(x1:(List qab))(x2:(List Int)):∀(n:Nat) (p:Int),Az32 g lf 4 [n] (qdy x1 x2 p)=qjq lf x1 x2 n p
 | 0,p=>qax 4 [0] rfl _
 | n+1,p=>by
  have ih:=zas g lf x1 x2 n;refine(qao (qaj 20 _) ql6 qm2 4 [n+1] [n] rfl _).trans ((zpc g (Az32 g lf) lf x1 x2 n p).trans ?_);rw[(show (fun q=>Az32 g lf 9 [n] (qvc x1 x2 q))=(fun q=>qfz lf x1 x2 (fun q=>Az32 g lf 4 [n] (qdy x1 x2 q)) q) from funext fun q=>zvc g lf x1 x2 n q),(show (fun q=>Az32 g lf 4 [n] (qdy x1 x2 q))=(fun q=>qjq lf x1 x2 n q) from funext ih)];rfl
def Fz32(lf:Nat)(x1:(List qab))(x2:(List Int)):Option qbg:=qx1 lf x1 x2 (fun q=>qjq lf x1 x2 lf q)
theorem zpo(g:gz32)(lf:Nat)(x1:(List qab))(x2:(List Int)):Ez32 g (Az32 g lf) lf x1 x2=Fz32 lf x1 x2:=by
  refine(z0y g (Az32 g lf) lf x1 x2).trans ?_;rw[(show (fun q=>Az32 g lf 4 [lf] (qdy x1 x2 q))=(fun q=>qjq lf x1 x2 lf q) from funext fun q=>zas g lf x1 x2 lf q)];rfl
theorem zn0:qa1 Tryz.prog q3e:=trivial
theorem zy7{g:gz32}(hsm:SmOK Tryz.prog q96)(hg:∀(x:ElA [(.list cForm),(.list (.int .u8))]) (y:qbg),WfA [(.list cForm),(.list (.int .u8))] x->g x=some y->∃lf,Fz32 lf x.1 x.2.1=some y):Con Tryz.prog 6 ⟨[(.list cForm),(.list (.int .u8))],[(false,.bool)],g⟩ :=
 conV (st:=qrq) (fun lf x=>Fz32 lf x.1 x.2.1) cm3 cal6 zn0 ql6 qm2 (fun lf x=>zpo g lf x.1 x.2.1) hsm hg
section
variable {l : List qab} {x2 : List Int}
theorem pd9(K:Int->Option qbg)(i:Nat)(hi:i<=1000)(b:List Int):qfz LF l x2 K (Int.ofNat i,b)=K (Int.ofNat (i+1)):=by
 simp only[qfz,qvs,qsx,q0u,qpy,qv5];have hs:S.sameGraphs ((S.Dec l b).1.1,(S.Dec l b).1.2) ((S.Dec l b).1.1,(S.Dec l b).1.2)=true:=jaf rfl;have h1:∀n:Int,ieqI n n=true:=fun n=>by rw[qat];exact jaf rfl
 simp only[hs,h1,ja1,jad,qgj (k:=i) (by omega)]
theorem pd4(hl:x2.length<=60010):∀(k n i:Nat),i+k=2->k<n->rounds (fun K p=>qh1 LF l x2 (fun q=>qfz LF l x2 K q) p) n (Int.ofNat i)=some (true,())
 | k,0,i,h1,h2=>by omega
 | k,n+1,i,h1,h2=>by
  have ih:=fun k'=>pd4 hl k' n;show qh1 LF l x2 (fun q=>qfz LF l x2 (rounds (fun K p=>qh1 LF l x2 (fun q=>qfz LF l x2 K q) p) n) q) _=_;generalize rounds (fun K p=>qh1 LF l x2 (fun q=>qfz LF l x2 K q) p) n=Z at ih ⊢;have hr:Nat.ble (Nat.add x2.length 100) 140737488355328=true:=jbk (by show x2.length+100<=_;omega);simp only[qh1,qal,qat,hr,jaa];cases k with
  | zero =>
   rw[jae (by show ¬((i:Int)<2);omega)];rfl
  | succ k =>
   rw[jaf (by show ((i:Int)<2);omega),jaa];have h:=ih k (i+1) (by omega) (by omega);rw[pd9 Z i (by omega),pd9 Z i (by omega),h];cases decide (Int.ofNat i=Int.ofNat 1)<;>rfl
theorem zh8:Fz32 LF l x2=some (true,()):=by
 simp only[Fz32,qx1];cases S.fewForms l with
 | false=>rfl
 | true =>
 rw[ja1,jad];simp only[qal];by_cases h2:60010<x2.length
 ·rw[jaf (show Int.ofNat 60010<Int.ofNat x2.length by show (60010:Int)<(x2.length:Int);omega)];simp only[jaa];cases decide (Int.ofNat 400<Int.ofNat x2.length)<;>cases decide (Int.ofNat 60000<Int.ofNat x2.length)<;>rfl
 ·have h4:qjq LF l x2 LF (Int.ofNat 0)=some (true,()):=by
   simp only[qjq];exact pd4 (by omega) 2 LF 0 rfl (by unfold LF;omega)
  rw[h4];cases decide (Int.ofNat 400<Int.ofNat x2.length)<;>cases decide (Int.ofNat 60000<Int.ofNat x2.length)<;>cases decide (Int.ofNat 60010<Int.ofNat x2.length)<;>rfl
end
theorem zw9(hs:Con Tryz.prog 10 qju):Con Tryz.prog zeo ⟨[.list cForm,.list (.int .u8)],[(false,.bool)],fun _=>some (true,())⟩ :=
 zy7 ⟨zof,hs,zeq,z1f,zfv,q7w,trivial⟩ fun x y hx h=>⟨LF,(zh8 (l:=x.1) (x2:=x.2.1)).trans h⟩
def exN:Ex:=fun _=>none
def isR(o:Option Res):Bool:=match o with
 | some r=>(match runR qju r with
  | some y=>y.1
  | none=>false)
 | none=>false
theorem zgv{o:Option Res}(h:isR o=true):∃r,o=some r/\runR qju r=some (true,()):=by
 cases o with
 | none=>cases h
 | some r =>
  refine⟨r,rfl,?_⟩;unfold isR at h;cases hr:runR qju r with
  | none=>simp only[hr] at h;cases h
  | some y =>
   simp only[hr] at h;exact jb2 some (je8 h rfl)
theorem zrc:isR (qcb Tryz.prog ttT.get ftT.get (fun _ _=>none) exN 1000 100 (.fn 10) [] S0)=true:=by kernel_rfl
theorem zyc:ExOK Tryz.prog exN:=⟨fun _ _ h=>(nomatch h),fun _ _ h=>(nomatch h),fun _ _ h=>(nomatch h)⟩
theorem zug:Con Tryz.prog 10 qju:=z01 (lf:=1000) qd5 ttOK ftOK zyc zgi fun x y h=>by
 obtain⟨r,h1,h2⟩:=zgv zrc;exact⟨100,1000,r,h1,h2.trans h⟩
theorem con_PackDecodes:Con Tryz.prog zeo ⟨[.list cForm,.list (.int .u8)],[(false,.bool)],fun _=>some (true,())⟩:=zw9 zug
end Go.Proofs.YtcnhjofpmpipfaaGreat
end

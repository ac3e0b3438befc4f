/- Texts: Jce, Jcf, Kss, Kst, Ksu, Ksv, Ksl, Klb, Jhx, Jcg, Jch, Jci, Jcj, Jck, Jcp, Jcm, Kg7, Kg4, Kg2, Kg1, Kg0, Jcl, Kp0, Kp1, Kw1, Kw2, Kw3, Kp2, Kg3, Kp3, Kp4, Xhs, Xhg, Kg8, Kg6, Kg5, Kp6, Kp5, Kp7, Kp8, Kp9, Kw4, Kpa, Kpb, Kpc, Kpd, Kpe, Kw5, Kw6. -/
import Derived.Test.YtnhmanoiolfapaaMa3
set_option linter.unusedVariables false
section
namespace Go.Jx
open Go Go.Sx Go.RowKit
universe u

def WfC:(c:CT)->ElC c->Prop
 | .dat c=>fun x=>WfE c x
 | .arr c=>fun(l:List (El c))=>l.length*bsz c<=140737488355328/\∀x∈l,WfE c x
 | .map k v=>fun(es:List (El k × El v))=>∀e∈es,WfE k e.1/\WfE v e.2
 | .fn _=>fun _=>True
def WfR:(r:List CT)->qca r->Prop
 | [],_=>True
 | c::cs,x=>WfC c x.1/\WfR cs x.2
def WfK:(r:RK)->ElK r->Prop
 | .box r,x=>WfR r x
 | .sl c,x=>match x with
  | some l=>l.length*bsz c<=140737488355328/\∀y∈l,WfE c y
  | none=>True
 | .mp k v,x=>match x with
  | some (es:List (El k × El v))=>∀e∈es,WfE k e.1/\WfE v e.2
  | none=>True
def WfP:(l:List PK)->ElP l->Prop
 | [],_=>True
 | .dat c::l,x=>WfE c x.1/\WfP l x.2
 | .fn _::l,x=>WfP l x
 | .ref r::l,x=>WfK r x.1/\WfP l x.2
section
variable {E : Env}
theorem zkg{c:TC}{x:El c}{us:List Value}(h:VRs E (cel c x) us):WfE c x :=
 wf_cells (E:=E) c x (fun j=>us.getD j .nilFunc) fun j hj=>by
  have hj2:j<us.length:=by rw[<- h.1];exact hj
  show VR E _ (us.getD j .nilFunc);rw[jai,jac hj2];exact h.2 j hj hj2
theorem qv0{k v:TC}{id:Nat}{x:List (El k × El v)}(h:OR E id (.tmap k v x)):∀e∈x,WfE k e.1/\WfE v e.2:=by
 obtain⟨ents,cl,h1,h2,h3,_⟩:=h;intro e he;obtain⟨i,hi,rfl⟩:=jcs.1 he;have hl:(tmEs k v x).length=List.length x:=jby _;have hi1:i<((tmEs k v x).map (·.1)).length:=by rw[jby,hl];exact hi
 have hi2:i<((tmEs k v x).map (·.2)).length:=by rw[jby,hl];exact hi
 have q1:=h2.2 i hi1 (by rw[<- h2.1];exact hi1);have q2:=h3.2 i hi2 (by rw[<- h3.1];exact hi2);have e:(tmEs k v x)[i]'(by rw[hl];exact hi)=(asIV k (List.get x ⟨i,hi⟩).1,asIV v (List.get x ⟨i,hi⟩).2):=jce _;rw[jce,e] at q1;rw[jce,e] at q2;exact⟨qly q1,qly q2⟩
theorem wfC{H:Nat->Option IObj}{ι:Nat->Nat}(hH:∀id o,E.A id->H id=some o->OR E id o):∀(c:CT) {n:Nat} {x:ElC c} {us:List Value},VRs E (qdf c ι n x) us->(∀j:Nat,j<nC c->H (ι (n+j))=(subC c x)[j]?)->WfC c x
 | .dat c,n,x,us,h,_=>zkg h
 | .arr c,n,x,us,h,hs=>by
  obtain⟨u,us,rfl,a1,a2⟩:=VRs.inv (v:=.arr (ι n)) (cs:=[]) h;have hA:E.A (ι n):=by cases a1;assumption
  have h0:=hs 0 (Nat.one_pos);rw[jb6] at h0;obtain⟨a,cap,h1,h2,h3,h4,h5⟩:=hH _ (.arr c x) hA h0;refine⟨h4,fun y hy=>?_⟩;obtain⟨i,hi,rfl⟩:=jcs.1 hy;rcases h5 with ⟨_,h5,_⟩|⟨_,_,cells,t,_,_,us,_,h6⟩
  ·omega
  ·exact wf_cells c _ (us i) (h6 i hi)
 | .map k v,n,x,us,h,hs=>by
  obtain⟨u,us,rfl,a1,a2⟩:=VRs.inv (v:=.map (ι n)) (cs:=[]) h;have hA:E.A (ι n):=by cases a1;assumption
  have h0:=hs 0 (Nat.one_pos);rw[jb6] at h0;exact qv0 (hH _ (.tmap k v x) hA h0)
 | .fn _,n,x,us,h,hs=>trivial
theorem zo7{c:TC}{id:Nat}{l:List (El c)}(h:OR E id (.arr c l)):l.length*bsz c<=140737488355328/\∀y∈l,WfE c y:=by
 obtain⟨a,cap,h1,h2,h3,h4,h5⟩:=h;refine⟨h4,fun y hy=>?_⟩;obtain⟨i,hi,rfl⟩:=jcs.1 hy;rcases h5 with ⟨_,h5,_⟩|⟨_,_,cells,t,_,_,us,_,h6⟩
 ·omega
 ·exact wf_cells c _ (us i) (h6 i hi)
theorem wfR{H:Nat->Option IObj}{ι:Nat->Nat}(hH:∀id o,E.A id->H id=some o->OR E id o):∀(r:List CT) {n:Nat} {x:qca r} {us:List Value},VRs E (qby r ι n x) us->(∀j:Nat,j<nR r->H (ι (n+j))=(subR r x)[j]?)->WfR r x
 | [],n,x,us,h,hs=>trivial
 | c::cs,n,x,us,h,hs=>by
  obtain⟨us1,us2,rfl,h1,h2⟩:=VRs.split (cs:=qdf c ι n x.1) (ds:=qby cs ι (n+nC c) x.2) h;refine⟨wfC hH c h1 fun j hj=>?_,wfR hH cs h2 fun j hj=>?_⟩
  ·rw[hs j (by simp only[nR];omega)];simp only[subR];rw[jau (by rw[qkv];exact hj)]
  ·have:=hs (nC c+j) (by simp only[nR];omega);rw[<- jcx] at this;rw[this];simp only[subR];rw[ja3 (by rw[qkv];omega),qkv,ja4]
theorem wfP{H:Nat->Option IObj}(hH:∀id o,E.A id->H id=some o->OR E id o):∀(l:List PK) {k n:Nat} {x:ElP l} {us:List Value},VRs E (qaq l idN k x) us ->
  (∀j:Nat,j<mP l->H (k+j)=(qar l idN n x)[j]?)->(∀j:Nat,j<nP l->H (n+j)=(qb3 l x)[j]?)->WfP l x
 | [],k,n,x,us,h,_,_=>trivial
 | .dat c::l,k,n,x,us,h,h1,h2=>by
  obtain⟨u,us,rfl,a1,a2⟩:=VRs.inv (v:=asIV c x.1) (cs:=qaq l idN k x.2) h;exact⟨qly a1,wfP hH l a2 h1 h2⟩
 | .fn f::l,k,n,x,us,h,h1,h2=>by
  obtain⟨u,us,rfl,a1,a2⟩:=VRs.inv (v:=.fn f []) (cs:=qaq l idN k x) h;exact wfP (x:=x) hH l a2 h1 h2
 | .ref r::l,k,n,x,us,h,h1,h2=>by
  obtain⟨u,us,rfl,a1,a2⟩:=VRs.inv (v:=argK r (idN k)) (cs:=qaq l idN (k+1) x.2) h;have hA:E.A k:=q0d a1;have h0:=h1 0 (by simp only[mP];omega);rw[jb6] at h0;have h0:H k=some (objK r idN n x.1):=h0;refine⟨?_,wfP hH l (n:=n+nK r) a2 (fun j hj=>?_) fun j hj=>?_⟩
  ·match r,x,h0,h2 with
   | .box r,x,h0,h2 =>
    obtain⟨cells,t,k1,k2,k3,k4⟩:=hH k _ hA (h0.trans (show _=some (.row (qby r idN n x.1)) from rfl));refine wfR (ι:=idN) hH r k4 fun j hj=>?_;have:=h2 j (by simp only[nP,nK];omega);show H (n+j)=_;rw[this];exact jau (l₂:=qb3 l x.2) (jfh hj (qn8 r x.1).symm)
   | .sl c,(some l,x),h0,h2=>exact zo7 (c:=c) (l:=l) (hH k _ hA (h0.trans rfl))
   | .sl c,(none,x),h0,h2=>trivial
   | .mp kc vc,(some l,x),h0,h2=>exact qv0 (k:=kc) (v:=vc) (x:=l) (hH k _ hA (h0.trans rfl))
   | .mp kc vc,(none,x),h0,h2=>trivial
  ·have:=h1 (j+1) (by simp only[mP];omega);rw[show k+1+j=k+(j+1) by omega,this];simp only[qar,jav]
  ·have:=h2 (nK r+j) (by simp only[nP];omega);rw[<- jcx] at this;rw[this];simp only[qb3];rw[ja3 (by rw[qtl];omega),qtl,ja4]
end
theorem za5{l:List PK}{x:ElP l}{E:Env}{us:List Value}(p:Pre T0 E (Sc l x))(h:VRs E (qaq l idN 0 x) us):WfP l x:=by
 refine wfP (H:=(Sc l x).H) (n:=mP l) (fun id o hA ho=>p.st.objs id trivial hA o ho) l h (fun j hj=>?_) fun j hj=>?_
 ·unfold Sc;rw[jbm,qgc,jau (by rw[qa3];exact hj)]
 ·unfold Sc;rw[qgc,ja3 (by rw[qa3];omega),qa3,ja4]

def qdx(tt:Nat->Option TI)(fi:FI)(s:SmR)(r:CRes):Option (ElR s.rts × ElP (refs s.ps)) :=
 cond r.e.leaves (match qfg r.ds r.S with
  | none=>none
  | some (S',_)=>match ires tt fi.nt r.fr S' fi.res with
   | none=>none
   | some (vs,_)=>runQ s ⟨tupI vs,S',0,0⟩) none
section
variable {P : Program} {tt : Nat -> Option TI} {ft : Nat -> Option FI}
theorem zn5{fi:FI}{f:Nat}{nm:Nat->Option Nm}{cl:Cl}{lf:Nat}{s:SmR}{x:ElP s.ps}{y:ElR s.rts}{z:ElP (refs s.ps)}{r1:CRes}(hm:P.follows .mixedOrders=true)(htt:TT P tt)
  (hfi:∃fn,P.funcs[f]?=some fn/\fn.body=some fi.body/\fn.ntmps=fi.nt/\fn.results=fi.res.toArray/\(fn.name == "runtime.NumGoroutine") = false/\qa2 fi.body=true) (hcl:ClOK P cl) (hfr:ClFr cl)
  (hb:Nat.ble (qaq s.ps idN 0 x).length fi.nt=true) (hr1:qak P tt nm (mP s.ps) fi.nt cl lf none fi.body (qa0 (qaq s.ps idN 0 x) 0 .leaf) (Sc s.ps x) []=some r1) (h:qdx tt fi s r1=some (y,z))
  {E:Env} {us:List Value} (p:Pre T0 E (Sc s.ps x)) (hv:VRs E (qaq s.ps idN 0 x) us) :
  CallsIn Fence.wide 0 P f us.toArray E.w (RetB (mP s.ps) T0 E (Sc s.ps x) ⟨vB s (mP s.ps) y,ScB s y z,0,0⟩):=by
 unfold qdx at h;cases hl:r1.e.leaves with
 | false=>rw[hl] at h;cases h
 | true =>
 rw[hl,jab] at h;split at h
 ·cases h
 rename_i S' wr hmk;split at h
 ·cases h
 rename_i vs' rd' hres;obtain⟨fn,f1,f2,f3,f4,f5,f6⟩:=hfi;refine callsIn_of_wp_marks f1 f2 trivial ?_;refine qh5 (T:=T0) (E:=E) (S:=Sc s.ps x) (ds:=[]) (round:=none) (B:=mP s.ps) (fun _ _=>trivial) hm rfl hcl hfr htt fi.body f6 p (by rw[qic];omega) (fun _ _=>trivial) ?_ (DS.nil (N:=E.w.heap.size) (jaq _)) (fun _=>rfl) hr1 (fun _ _=>trivial) (fun _ _=>trivial) ?_
 ·have:=FR.enter (nt:=fi.nt) hv (jak hb);rw[f3];exact this
 intro E1 a1 k1 k2 kB;have p1:=kB.pre (fun _ _=>trivial) p;have hlv:LeavesInM Fence.wide 0 P fn a1.tmps (RetB (mP s.ps) T0 E (Sc s.ps x) ⟨vB s (mP s.ps) y,ScB s y z,0,0⟩) a1.defers .returning E1.w:=by
  refine qus (E0:=E) (S0':=Sc s.ps x) (B:=mP s.ps) (jaq _) (fun _ _=>trivial) p1 k2 kB hmk (fun _ _=>trivial) fun E2 hq0 p2 hv2=>?_;obtain⟨us',h1,h2⟩:=qmt htt p2 ⟨k1.size,fun t ht=>hv2 _ _ (k1.get t ht)⟩ hres (fun _ _=>trivial);have h3:=q5i (P:=P) (w:=E2.w) f4 h1;refine⟨qhz us',h3,?_⟩;have hq:=hq0;obtain⟨E3,e3,v3,q3⟩:=q2s (r:=⟨tupI vs',S',0,0⟩) h p hv hq (qza h2);exact⟨_,E3,rfl,e3,v3,q3⟩
 cases he:r1.e with
 | normal=>rw[he] at *;exact hlv
 | ret=>exact hlv
 | exit i=>rw[he] at hl;cases hl
 | goto l=>rw[he] at hl;cases hl
theorem conTR{sml:List (Nat × Sm)}{hxl:List (Nat × Hx)}{f:Nat}{s:SmR}{fi:FI}{nmf:Nat->Option Nm}{st hd:Nat->Bool}(n:Nat)(hm:P.follows .mixedOrders=true)(htt:TT P tt)(hft:FT P ft)(hsm:SmOK P sml)
  (hhx:qbi P hxl) (hC:qai P f) (h3:ft f=some fi) (h4:∀x,Nat.ble (qaq s.ps idN 0 x).length fi.nt=true) (hn:(regs fi.body).Nodup) (hl:okC nmf st hd fi.body none=true)
  (hrun:∀(x:ElP s.ps) (y:ElR s.rts) (z:ElP (refs s.ps)),WfP s.ps x->s.f x=some (y,z)->∃lf,
   qb2 P tt nmf (mP s.ps) fi.nt (qa4 P tt ft (fun _ _=>none) (smL sml) (hxL hxl) lf n (ElR s.rts × ElP (refs s.ps))) lf st
    (atNB P tt nmf (mP s.ps) fi.nt fi.body (qa4 P tt ft (fun _ _=>none) (smL sml) (hxL hxl) lf n (ElR s.rts × ElP (refs s.ps))) lf hd (qdx tt fi s)) fi.body [] (qa0 (qaq s.ps idN 0 x) 0 .leaf) (Sc s.ps x) [] (qdx tt fi s)=some (y,z))
  (hz:frzF nmf=true:=by rfl):ConR P f s:=by
 have hB0:mB nmf (mP s.ps)=0:=by unfold mB;rw[hz];rfl
 have hex:ExOK P (exH (smL sml) (hxL hxl)):=q6l (qtc hsm) (qrc hhx);refine⟨hC,fun E x us y z hy p hv=>?_⟩;obtain⟨lf,hr⟩:=hrun x y z (za5 p hv) hy;rw[<- q2e hB0 (qbh n _) hn hl,qeu (qbh n _)] at hr;cases hr1:qak P tt nmf (mP s.ps) fi.nt (qcc P tt ft (fun _ _=>none) (exH (smL sml) (hxL hxl)) lf n) lf none fi.body (qa0 (qaq s.ps idN 0 x) 0 .leaf) (Sc s.ps x) [] with
 | none=>rw[hr1] at hr;cases hr
 | some r1 =>
  rw[hr1] at hr;exact zn5 hm htt (hft f fi h3) (qi3 hm htt hft hex n) (qg4 hex n) (h4 x) hr1 hr p hv
end
end Go.Jx
end

section
namespace Go.Jx
open Go Go.Sx Go.RowKit
universe u

section
variable {P : Program} {tt : Nat -> Option TI} {nm : Nat -> Option Nm} {lf : Nat} {st hd : Nat -> Bool} {cl : Cl}
def atQ(P:Program)(tt:Nat->Option TI)(nm:Nat->Option Nm)(fi:FI)(s:SmR)(clK:ClK (ElR s.rts × ElP (refs s.ps)))(lf:Nat)(hd:Nat->Bool)(k:Nat)(ns:List Nat)(x:NRes):Option (ElR s.rts × ElP (refs s.ps)) :=
 atNB P tt nm (mP s.ps) fi.nt fi.body clK lf hd (qdx tt fi s) k ns x
theorem zft{B:Nat}(hz:frzF nm=true):mB nm B=0:=by unfold mB;rw[hz];rfl
theorem qyi(hz:frzF nm=true){fi:FI}{s:SmR}{clK:ClK (ElR s.rts × ElP (refs s.ps))}(h:ClEq cl clK)(hn:(regs fi.body).Nodup)(hl:okC nm st hd fi.body none=true)(k:Nat)(ns ns':List Nat)(hd':dn (hd k) ns=some ns')(x:NRes) :
  atQ P tt nm fi s clK lf hd k ns x=qb9 P tt nm (mP s.ps) fi.nt clK lf st (atQ P tt nm fi s clK lf hd) k fi.body [] ns' x (qdx tt fi s):=q47 (zft hz) h hn hl k ns ns' hd' x
theorem qxt{fi:FI}{s:SmR}{clK:ClK (ElR s.rts × ElP (refs s.ps))}(k:Nat)(ns:List Nat)(hd':dn (hd k) ns=none)(x:NRes):atQ P tt nm fi s clK lf hd k ns x=none:=qzh k ns hd' x
end
end Go.Jx
end

noncomputable section
set_option maxRecDepth 100000
namespace Go.Proofs.Ytnhmanoiolfapaa
open Go Go.Sx Go.RowKit Go.Jx
def qkt:Sm:=⟨[.list .str],[(true,.str)],fun x=>some (x.1,())⟩
def qz7:Sm:=⟨[.list cPut],[(true,cPut)],fun x=>some (x.1,())⟩
def qio:Sm:=⟨[.list .str,.int .i64],[(false,.list .str)],fun x=>cond (decide (x.1.length=1)&&S.inI x.2.1 0 1000) (some (List.replicate x.2.1.toNat (x.1.getD 0 S.none_),())) none⟩
def qip:Sm:=⟨[.int .i64,.int .i64,.int .i64],[(false,.bool)],fun x=>some (S.inI x.1 x.2.1 x.2.2.1,())⟩
def qm1:Sm:=⟨[],[(false,.str)],fun _=>some (S.blank,())⟩
def qrq:Sm:=⟨[.str],[(false,.bool)],fun x=>some (S.short x.1,())⟩
def q03:Sm:=⟨[.int .i64],[(false,qan),(false,.int .i64)],fun x=>some ((S.newDisk x.1).1,(S.newDisk x.1).2,())⟩
def qii:Sm:=⟨[qan],[(false,.int .i64)],fun x=>some (S.checkDisk x.1,())⟩
def S.fitP(l:List ByteArray)(q:List DPut):Bool:=q.all fun p=>!S.badPut l.length p
def spz6:Sm:=⟨[.list .str,.list cPut],[(true,.str)],fun x=>cond (S.fitP x.1 x.2.1) (some (S.settled x.1 x.2.1,())) none⟩
def spz4:Sm:=⟨[qan,.list cAct],[(false,qan),(false,.int .i64)],fun x=>some ((S.doD x.1 x.2.1).1,(S.doD x.1 x.2.1).2,())⟩
def spz5:Sm:=⟨[qan,.list (.int .i64)],[(false,qan),(false,.int .i64)],fun x=>some ((S.crash x.1 x.2.1).1,(S.crash x.1 x.2.1).2,())⟩
def S.anyShort(l:List ByteArray):Bool:=l.any S.short
def S.pk(l:List qaa):Bool:=S.okC l&&Nat.ble l.length 250
def qq0:Sm:=⟨[.int .i64],[(false,.str)],fun x=>cond (S.inI x.1 0 16777215) (some (qae (S.two x.1.toNat),())) none⟩
def spz7:Sm:=⟨[.list qac],[(false,.str)],fun x=>cond (S.pk x.1) (some (qae (S.body x.1),())) none⟩
def spz8:Sm:=⟨[.list qac],[(true,.str)],fun x=>cond (S.pk x.1) (some (S.packed x.1 1,())) none⟩
def qut:Sm:=⟨[.str],[(false,.str)],fun x=>cond (decide (x.1.size=64)) (some (qae (0::(qab x.1).drop 1),())) none⟩
def qi8:Sm:=⟨[.int .i64,.int .i64],[(false,q2i)],fun x=>cond (S.inI x.1 0 1000) (some (S.half x.1.toNat x.2.1,())) none⟩
def S.laid(l:List qaa)(at_ e:Int)(b:Bool):List DAct:=S.puts at_ (S.packed l 0)++(cond (b&&decide (at_+(S.packed l 1).length<e)) [S.put (at_+(S.packed l 1).length) S.blank] []++[S.sync,S.put at_ ((S.packed l 1).getD 0 S.none_),S.sync])
def q4w:Sm:=⟨[qan],[(true,cAct),(false,.int .i64)],fun x=>some ((S.format x.1).1,(S.format x.1).2,())⟩
def S.lenA(a:List DAct):Nat:=a.length
def S.app(a b:List DAct):List DAct:=a++b
def spz2:SmR:=⟨[.ref (.box [.arr cAct]),.dat (.int .i64),.dat (.list .str)],[],fun x=>cond (S.inI x.2.1 0 1000000&&(Nat.ble x.2.2.1.length 1000000&&Nat.ble (S.lenA x.1.1) 1000000)) (some ((),((S.app x.1.1 (S.puts x.2.1 x.2.2.1),()),()))) none⟩
def spz3:SmR:=⟨[.ref (.box [.arr cAct])],[],fun x=>cond (Nat.ble (S.lenA x.1.1) 4000000) (some ((),((S.app x.1.1 [S.sync],()),()))) none⟩
def S.chg(b:ByteArray):List qaa × Bool:=match S.changes (b.size+1) (qab b) (-1) with
 | some l=>(l,true)
 | none=>([],false)
def q2y:Sm:=⟨[.str],[(true,qac),(false,.bool)],fun x=>cond (Nat.ble x.1.size 1000000) (some ((S.chg x.1).1,(S.chg x.1).2,())) none⟩
def S.readK(l:List ByteArray):qfo :=
 if ¬(qab (l.getD 0 S.none_)).getD 0 0=1\/l.length<S.recM (qab (l.getD 0 S.none_)) then ([],0,true)
 else match S.changes (S.recN (qab (l.getD 0 S.none_))+1) ((((l.take (S.recM (qab (l.getD 0 S.none_)))).flatMap qab).drop 4).take (S.recN (qab (l.getD 0 S.none_)))) (-1) with
  | some c=>(c,(S.recM (qab (l.getD 0 S.none_)):Int),!((((l.take (S.recM (qab (l.getD 0 S.none_)))).flatMap qab).drop (4+S.recN (qab (l.getD 0 S.none_)))).all fun b=>decide (b=0)))
  | none=>([],(S.recM (qab (l.getD 0 S.none_)):Int),true)
def S.secs(l:List ByteArray):Bool:=Nat.ble l.length 1000&&!S.anyShort l
def S.secs1(l:List ByteArray):Bool:=Nat.ble 1 l.length&&S.secs l
def zig:Sm:=⟨[.list .str],[(false,cKeepRecord)],fun x=>cond (S.secs1 x.1) (some (S.readK x.1,())) none⟩
def S.val(b:ByteArray):Int:=(qab b).foldl (fun n b=>256*n+b) 0
def S.sameC(a b:List qaa):Bool:=decide (a=b)
def S.sameD(a b:qah):Bool:=decide (a=b)
def S.sameJ(a b:qad):Bool:=decide (a=b)
def S.sameA(a b:List DAct):Bool:=decide (a=b)
def spz9:Sm:=⟨[.list qac,.list qac],[(false,.bool)],fun x=>some (S.sameC x.1 x.2.1,())⟩
def spz1:Sm:=⟨[.list qac],[(false,.int .i64),(false,.int .i64)],fun x=>some ((S.size x.1).1,(S.size x.1).2,())⟩
def S.smallJ(j:qad):Bool:=Nat.ble j.1.1.length 1000&&(decide (j.1.1.length % 2=0)&&S.inI j.2.2.1 (-1000) 1000)
def S.roomR(j:qad):Int:=((j.1.1.length / 2:Nat):Int)-1-j.2.2.1
def quc:Sm:=⟨[qag],[(false,.int .i64)],fun x=>cond (S.smallJ x.1) (some (S.roomOf x.1,())) none⟩
def q5n:Sm:=⟨[],[(false,.str)],fun _=>some (qae (List.replicate 64 0),())⟩
def q38:Sm:=⟨[.list qac,.list qac],[(false,.bool)],fun x=>some (S.sameC x.1 x.2.1,())⟩
def qzd:Sm:=⟨[qan],[(false,qag),(false,.int .i64)],fun x=>some ((S.open_ x.1).1,(S.open_ x.1).2,())⟩
def S.openedJ(d:qah):qad × Bool:=match S.opened d.1 with
 | some (h,u,c)=>(((d.1,[]),h,(u:Int),c),true)
 | none=>(S.noJ,false)
def S.okL(d:qah):Bool:=S.secs d.1&&(Nat.ble 8 d.1.length&&decide (d.1.length % 2=0))
def qgd:Sm:=⟨[qan],[(false,qag),(false,.bool)],fun x=>cond (S.okL x.1) (some ((S.openedJ x.1).1,(S.openedJ x.1).2,())) none⟩
def S.errR(j:qad):Int:=if S.right j=true then 0 else 1
def qor:Sm:=⟨[qag],[(false,.int .i64)],fun x=>some (S.errR x.1,())⟩
def zmr:Sm:=⟨[qag],[(false,.int .i64),(false,.int .i64)],fun x=>some ((S.room x.1).1,(S.room x.1).2,())⟩
def S.asked(j:qad)(l:List qaa):Int:=if S.right j=true then (S.size l).2 else 1
def qqv:Sm:=⟨[qag,.list qac],[(false,.int .i64)],fun x=>some (S.asked x.1 x.2.1,())⟩
def S.comG(j:qad)(l:List qaa):Bool:=S.smallJ j&&(S.pk l&&S.inI j.2.2.1 0 1000)
def S.actsB(o:Option (List DAct)):List DAct × Bool:=match o with
 | some a=>(a,true)
 | none=>([],false)
def qsd:Sm:=⟨[qag,.list qac],[(true,cAct),(false,.bool)],fun x=>cond (S.comG x.1 x.2.1) (some ((S.actsB (S.commit x.1 x.2.1)).1,(S.actsB (S.commit x.1 x.2.1)).2,())) none⟩
def S.turG(j:qad):Bool:=S.smallJ j&&(S.pk j.2.2.2&&(S.inI j.2.1 0 1&&Nat.ble 8 j.1.1.length))
def qqu:Sm:=⟨[qag],[(true,cAct),(false,.bool)],fun x=>cond (S.turG x.1) (some ((S.actsB (S.turn x.1)).1,(S.actsB (S.turn x.1)).2,())) none⟩
def S.behG(j:qad)(a:List DAct):Bool:=decide ((S.behind j a).2=0)&&decide ((S.doD j.1 a).2=0)
def qop:Sm:=⟨[qag,.list cAct],[(false,qag)],fun x=>cond (S.behG x.1 x.2.1) (some ((S.behind x.1 x.2.1).1,())) none⟩
def q1s:Sm:=⟨[qag,.list qac],[(true,cAct),(false,.int .i64)],fun x=>some ((S.plan x.1 x.2.1).1,(S.plan x.1 x.2.1).2,())⟩
def znk:Sm:=⟨[qag,.list qac],[(false,qag),(false,.int .i64)],fun x=>some ((S.commitJ x.1 x.2.1).1,(S.commitJ x.1 x.2.1).2,())⟩
def q13:Sm:=⟨[qag],[(true,cAct),(false,.int .i64)],fun x=>some ((S.planTurn x.1).1,(S.planTurn x.1).2,())⟩
def zl9:Sm:=⟨[qag],[(false,qag),(false,.int .i64)],fun x=>some ((S.turnJ x.1).1,(S.turnJ x.1).2,())⟩
def zm3:Sm:=⟨[qag,.list qac],[(false,qag),(false,.int .i64)],fun x=>some ((S.save x.1 x.2.1).1,(S.save x.1 x.2.1).2,())⟩
def S.oneN(s:ByteArray)(n:Int):Bool:=keqS s (S.lit [0])&&decide (n=64)
def qwz:Sm:=⟨[.str,.int .i64],[(false,.str)],fun x=>cond (S.oneN x.1 x.2.1) (some (S.blank,())) none⟩
def S.applied(m:List (Int × ByteArray))(l:List qaa):List (Int × ByteArray):=l.foldl (fun m c=>cond c.2.2 (mdel (vc:=.str) (.int .i64) c.1 m) (mset (vc:=.str) (.int .i64) c.1 c.2.1 m)) m
def qpk:SmR:=⟨[.ref (.mp (.int .i64) .str),.dat (.list qac)],[],fun x=>match x.1 with
 | some m=>some ((),(some (S.applied m x.2.1),()))
 | none=>none⟩
def S.madeD:qah:=(S.doD (S.newDisk 8).1 (S.format (S.newDisk 8).1).1).1
def S.madeJ:qad:=(S.open_ S.madeD).1
def qyp:Sm:=⟨[.int .i64],[(false,qag),(false,.bool)],fun x=>cond (S.inI x.1 8 8) (some (S.madeJ,true,())) none⟩
def q2k:Sm:=⟨[],[(false,.bool)],fun _=>some (true,())⟩
abbrev DChg:Type:=qax
abbrev cChg:TC:=cCosignerlaw23Change
namespace S
def brief(l:List (List DChg)):Bool:=l.all (fun x=>Nat.ble x.length 10)&&Nat.ble l.length 12
def cellOf(k:Nat)(c:DChg):qaa:=((k:Int),cond c.2.2.2 none_ (qae (List.replicate c.2.1.toNat c.2.2.1)),c.2.2.2)
def cells(l:List DChg):List qaa:=(List.range 25).filterMap fun(k:Nat)=>(l.reverse.find? fun c=>decide (c.1 % 25=(k:Int))).map (cellOf (k:Nat))
def evn(n:Int):Bool:=inI n 8 40&&decide (n % 2=0)
def madeD_(n:Int):qah:=(doD (newDisk n).1 (format (newDisk n).1).1).1
def madeN(n:Int):qad:=(open_ (madeD_ n)).1
def playStep(j:qad)(l:List DChg):qad:=if (cells l).length=0 then j else if (save j (cells l)).2=0 then (save j (cells l)).1 else j
def played(s:Int)(l:List (List DChg)):qad:=l.foldl playStep (madeN (8+2*(s % 17)))
def cut(d:qah)(l:List DAct)(m:Int)(k:List Int):qah × Int:=crash (doD d (l.take m.toNat)).1 ((k.take (doD d (l.take m.toNat)).1.2.length).map (· % 65))
def cutG(d:qah)(l:List DAct)(m:Int):Bool:=inI m 0 l.length&&decide ((doD d (l.take m.toNat)).2=0)
def saveO(j:qad)(l:List qaa):Option (qad × Int × Unit):=cond (sameJ j j) (some ((save j l).1,(save j l).2,())) none
def openO(d:qah):Option (qad × Int × Unit):=cond (sameD d d) (some ((open_ d).1,(open_ d).2,())) none
def turnO(j:qad):Option (qad × Int × Unit):=cond (sameJ j j) (some ((turnJ j).1,(turnJ j).2,())) none
def planTurnO(j:qad):Option (List DAct × Int × Unit):=cond (sameJ j j) (some ((planTurn j).1,(planTurn j).2,())) none
def cutO(d:qah)(l:List DAct)(m:Int)(k:List Int):Option (qah × Bool × Unit):=cond (cutG d l m&&Nat.ble k.length 200) (some ((cut d l m k).1,decide ((cut d l m k).2=0),())) none
def playedO(s:Int)(l:List (List DChg)):Option (qad × Bool × Unit):=cond (brief l) (some (played s l,true,())) none
end S
def qxm:Sm:=⟨[.list (.list cChg)],[(false,.bool)],fun x=>some (S.brief x.1,())⟩
def qwb:Sm:=⟨[.list cChg],[(true,qac)],fun x=>some (S.cells x.1,())⟩
def q2u:Sm:=⟨[.int .i64],[(false,qag),(false,.bool)],fun x=>cond (S.evn x.1) (some (S.madeN x.1,true,())) none⟩
def q06:Sm:=⟨[.int .u8,.list (.list cChg)],[(false,qag),(false,.bool)],fun x=>S.playedO x.1 x.2.1⟩
def qx5:Sm:=⟨[qan,.list cAct,.int .i64,.list (.int .u8)],[(false,qan),(false,.bool)],fun x=>S.cutO x.1 x.2.1 x.2.2.1 x.2.2.2.1⟩
def qy3:Sm:=⟨[qag,.list qac],[(false,qag),(false,.int .i64)],fun x=>S.saveO x.1 x.2.1⟩
def q7c:Sm:=⟨[qan],[(false,qag),(false,.int .i64)],fun x=>S.openO x.1⟩
def q0u:Sm:=⟨[qag],[(false,qag),(false,.int .i64)],fun x=>S.turnO x.1⟩
def qxx:Sm:=⟨[qag],[(true,cAct),(false,.int .i64)],fun x=>S.planTurnO x.1⟩
theorem zks:IdxFacts Try.prog ttT.get (.int .i64) fi57 (cL fb57) (cL (cL (cR fb57))) (cB (cB (cR (cL (cR fb57))))) (cR (cR fb57)) :=
 ⟨by kernel_rfl,by kernel_rfl,fun mr=>by kernel_rfl,fun R clK B0 mr lf l g caps S kk=>by kernel_rfl,fun R clK B0 mr lf l g caps S kk=>by kernel_rfl,fun R clK B0 mr lf l g caps S i kk=>by kernel_rfl,fun R clK B0 mr lf fr S kk=>by kernel_rfl,by kernel_rfl,by kernel_rfl,fun mr=>by kernel_rfl⟩
theorem zej:HxOK Try.prog 57 (idxF (.int .i64)):=qlr zks mixed ttOK fo57
theorem zg1:IdxFacts Try.prog ttT.get cPut fi60 (cL fb60) (cL (cL (cR fb60))) (cB (cB (cR (cL (cR fb60))))) (cR (cR fb60)) :=
 ⟨by kernel_rfl,by kernel_rfl,fun mr=>by kernel_rfl,fun R clK B0 mr lf l g caps S kk=>by kernel_rfl,fun R clK B0 mr lf l g caps S kk=>by kernel_rfl,fun R clK B0 mr lf l g caps S i kk=>by kernel_rfl,fun R clK B0 mr lf fr S kk=>by kernel_rfl,by kernel_rfl,by kernel_rfl,fun mr=>by kernel_rfl⟩
theorem zhk:HxOK Try.prog 60 (idxF cPut):=qlr zg1 mixed ttOK fo60
theorem zfe:IdxFacts Try.prog ttT.get .str fi61 (cL fb61) (cL (cL (cR fb61))) (cB (cB (cR (cL (cR fb61))))) (cR (cR fb61)) :=
 ⟨by kernel_rfl,by kernel_rfl,fun mr=>by kernel_rfl,fun R clK B0 mr lf l g caps S kk=>by kernel_rfl,fun R clK B0 mr lf l g caps S kk=>by kernel_rfl,fun R clK B0 mr lf l g caps S i kk=>by kernel_rfl,fun R clK B0 mr lf fr S kk=>by kernel_rfl,by kernel_rfl,by kernel_rfl,fun mr=>by kernel_rfl⟩
theorem zgj:HxOK Try.prog 61 (idxF .str):=qlr zfe mixed ttOK fo61
theorem ziz:IdxFacts Try.prog ttT.get qac fi64 (cL fb64) (cL (cL (cR fb64))) (cB (cB (cR (cL (cR fb64))))) (cR (cR fb64)) :=
 ⟨by kernel_rfl,by kernel_rfl,fun mr=>by kernel_rfl,fun R clK B0 mr lf l g caps S kk=>by kernel_rfl,fun R clK B0 mr lf l g caps S kk=>by kernel_rfl,fun R clK B0 mr lf l g caps S i kk=>by kernel_rfl,fun R clK B0 mr lf fr S kk=>by kernel_rfl,by kernel_rfl,by kernel_rfl,fun mr=>by kernel_rfl⟩
theorem zi8:HxOK Try.prog 64 (idxF qac):=qlr ziz mixed ttOK fo64
end Go.Proofs.Ytnhmanoiolfapaa
end

section
namespace Go.Jx
open Go Go.Sx Go.RowKit
universe u

def updP:(l:List PK)->ElP l->ElP (refs l)->ElP l
 | [],_,_=>()
 | .dat _::l,x,z=>(x.1,updP l x.2 z)
 | .fn _::l,x,z=>updP l x z
 | .ref _::l,x,z=>(z.1,updP l x.2 z.2)
theorem qmu:∀(l:List PK) (ι:Nat->Nat) (n:Nat) (x:ElP l) (z:ElP (refs l)),qar l ι n (updP l x z)=qar (refs l) ι n z
 | [],_,_,_,_=>rfl
 | .dat _::l,ι,n,x,z=>qmu l ι n x.2 z
 | .fn _::l,ι,n,x,z=>qmu l ι n x z
 | .ref r::l,ι,n,x,z=>by
  show objK r ι n z.1::qar l ι (n+nK r) (updP l x.2 z.2)=_;rw[qmu l];rfl
theorem qo9:∀(l:List PK) (x:ElP l) (z:ElP (refs l)),qb3 l (updP l x z)=qb3 (refs l) z
 | [],_,_=>rfl
 | .dat _::l,x,z=>qo9 l x.2 z
 | .fn _::l,x,z=>qo9 l x z
 | .ref r::l,x,z=>by
  show subK r z.1++qb3 l (updP l x.2 z.2)=_;rw[qo9 l];rfl
theorem qmy:∀(l:List PK) (ρ:Nat->Nat) (k:Nat) (x:ElP l) (z:ElP (refs l)),qaq l ρ k (updP l x z)=qaq l ρ k x
 | [],_,_,_,_=>rfl
 | .dat c::l,ρ,k,x,z=>jas (fun q=>asIV c x.1::q) (qmy l ρ k x.2 z)
 | .fn f::l,ρ,k,x,z=>jas (fun q=>IV.fn f []::q) (qmy l ρ k x z)
 | .ref r::l,ρ,k,x,z=>jas (fun q=>argK r (ρ k)::q) (qmy l ρ (k+1) x.2 z.2)
def sQ(l:List PK):SmR:=⟨l,[],fun _=>none⟩
theorem q4h(l:List PK)(x:ElP l)(z:ElP (refs l)):ScB (sQ l) () z=Sc l (updP l x z):=by
 unfold ScB Sc newO;rw[qmu,qo9];show addO (qar (refs l) idN (mP l) z++(qb3 (refs l) z++[])) S0=_;rw[ja9]
structure Held (T:TW) (E:Env) (S:IS) (l:List PK) (x:ElP l) (rows subs:List Nat):Prop where
 l1:rows.length=mP l
 l2:subs.length=nP l
 nd:(rows++subs).Nodup
 w:∀id∈rows++subs,T.w id
 A:∀id∈subs,E.A id
 at_:∀ι,Nums ι (mP l) subs->qp0 E rows (qar l ι (mP l) x)
 row:∀id∈rows,∃cs,S.H id=some (.row cs)
 sub:∀j:Nat,(qb3 l x)[j]?=(subs[j]?).bind fun id=>S.heap.get id
section
variable {T : TW} {E : Env} {S : IS} {l : List PK} {x : ElP l} {rows subs : List Nat}
theorem Held.num(h:Held T E S l x rows subs):Nums (ol 0 (rows++subs)) 0 rows/\Nums (ol 0 (rows++subs)) (mP l) subs:=by
 have hnq:Nums (ol 0 (rows++subs)) 0 (rows++subs):=fun j id hj=>by
  rw[jbm];unfold ol;rw[jao (by omega),jde,jai,hj];rfl
 refine⟨hnq.fst,?_⟩;have:=hnq.snd
 rwa [jbm,h.l1] at this
theorem Held.len(h:Held T E S l x rows subs):(rows++subs).length=mP l+nP l:=by rw[jag,h.l1,h.l2]
theorem Held.rk(h:Held T E S l x rows subs){k:Nat}(hk:k<mP l):rows[k]?=some (ol 0 (rows++subs) k):=by
 have h1:k<rows.length:=by rw[h.l1];exact hk
 rw[jac h1,<- h.num.1 k _ (jac h1),jbm]
theorem Held.sk(h:Held T E S l x rows subs){k:Nat}(h1:mP l<=k)(h2:k<(rows++subs).length):subs[k-mP l]?=some (ol 0 (rows++subs) k):=by
 have h3:k-mP l<subs.length:=by rw[h.len] at h2;rw[h.l2];omega
 rw[jac h3,<- h.num.2 _ _ (jac h3),Nat.add_sub_cancel' h1]
theorem Held.rowA(h:Held T E S l x rows subs){k:Nat}(hk:k<mP l):∃r nj xj,(∀ι,(qar l ι (mP l) x)[k]?=some (objK r ι nj xj))/\mP l<=nj/\nj+nK r<=(rows++subs).length/\E.A (ol 0 (rows++subs) k)/\((objK r (ol 0 (rows++subs)) nj xj).blk=true->E.hb (ol 0 (rows++subs) k)=true)/\OR E (ol 0 (rows++subs) k) (objK r (ol 0 (rows++subs)) nj xj):=by
 have h1:k<(qar l (ol 0 (rows++subs)) (mP l) x).length:=by rw[qa3];exact hk
 obtain⟨r,nj,xj,d1,d2,d3,d4⟩:=qft l (ol 0 (rows++subs)) (mP l) x k _ (jac h1);obtain⟨id,i1,i2,i3,i4⟩:=h.at_ _ h.num.2 k _ (d4 (ol 0 (rows++subs)));rw[h.rk hk] at i1;cases i1;exact⟨r,nj,xj,d4,d2,by rw[h.len];omega,i2,i3,i4⟩
theorem Held.allA(h:Held T E S l x rows subs):∀id∈rows++subs,E.A id:=fun id hid=>by
 rcases jbn.1 hid with hid|hid
 ·obtain⟨k,hk,rfl⟩:=jcs.1 hid;obtain⟨_,_,_,_,_,_,i2,_,_⟩:=h.rowA (k:=k) (by rw[<- h.l1];exact hk);have:=h.rk (k:=k) (by rw[<- h.l1];exact hk);rw[jac hk,jbg] at this;rw[this];exact i2
 ·exact h.A id hid
theorem Held.numTo(E:Env)(q:List Nat){k:Nat}(hk:k<q.length):qce E (renE 0 q E) (ol 0 q k) k:=fun hA=>⟨⟨by omega,hA⟩,rfl,rfl,rfl,rfl⟩
theorem Held.obj(h:Held T E S l x rows subs)(p:Pre T E S){k:Nat}{o:IObj}(hk:k<(rows++subs).length)(hAk:E.A (ol 0 (rows++subs) k))(ho:(Sc l x).H k=some o):ObjTo E S (renE 0 (rows++subs) E) (ol 0 (rows++subs) k) k o:=by
 unfold Sc at ho;rw[qgc] at ho;have hnum:∀j,j<(rows++subs).length->qce E (renE 0 (rows++subs) E) (ol 0 (rows++subs) j) j:=fun j hj=>Held.numTo E _ hj;by_cases hkm:k<mP l
 ·rw[jau (by rw[qa3];exact hkm)] at ho;obtain⟨r,nj,xj,d1,d2,d3,d4,d5,d6⟩:=h.rowA hkm;rw[d1 idN] at ho;cases ho;obtain⟨cs,hcs⟩:=h.row _ (jbw (h.rk hkm));exact⟨OR.objK_to (E:=E) (E':=renE 0 (rows++subs) E) (fun _ h=>h) rfl hAk (hnum k hk) (fun j a b=>hnum j (by omega)) d6,fun _=>⟨_,hcs,rfl⟩,fun hb=>d5 (qj2.trans hb)⟩
 ·rw[ja3 (by rw[qa3];omega),qa3] at ho;have hd:=qrd _ _ _ (jbw ho);rw[h.sub,h.sk (by omega) hk] at ho;have hid:=(qbz hk).1;exact⟨OR.dat_to (E:=E) (E':=renE 0 (rows++subs) E) (fun _ h=>h) rfl hAk (hnum k hk) hd (p.st.objs _ (T.sub _ (h.w _ hid)) hAk _ ho),fun hl=>⟨_,ho,hl⟩,fun hbk=>p.st.blk _ (T.sub _ (h.w _ hid)) hAk _ ho hbk⟩
theorem Held.pre(h:Held T E S l x rows subs)(p:Pre T E S):Pre T0 (renE 0 (rows++subs) E) (Sc l x) :=
 Pre.re p h.nd (fun id hi=>T.sub _ (h.w id hi)) (by rw[qic,h.len]) fun k o hk hAk ho=>h.obj p hk hAk ho
theorem Held.back{s:SmR}{x:ElP s.ps}{y:ElR s.rts}{z:ElP (refs s.ps)}{Er:Env}(h:Held T E S s.ps x rows subs)(p:Pre T E S)(k2:PostB (mP s.ps) T0 (renE 0 (rows++subs) E) (Sc s.ps x) Er (ScB s y z)) :
  Post T E S (mrgR E Er S.next (mP s.ps)) (qbu s S.next rows subs y z S)/\Fresh E S (mrgR E Er S.next (mP s.ps)):=by
 have hA:=h.allA;have hlt:∀id,id∈rows++subs->id<S.next:=fun id hi=>p.bnd id (hA id hi)
 have hsb:∀k,k<(rows++subs).length->Live (renE 0 (rows++subs) E) (Sc s.ps x).H k->Live E S.H (ol 0 (rows++subs) k):=fun k hk ⟨h0,o,h1,h2⟩=>⟨h0,(h.obj p hk (hA _ (qbz hk).1) h1).live h2⟩;have hbn:(setL rows (qar (refs s.ps) (fun k=>S.next+(k-mP s.ps)) (mP s.ps) z) (qee subs S)).next=S.next:=by rw[ql4,qox]
 have hndr:rows.Nodup:=(jc0.1 h.nd).1;have hrs:∀id,id∈rows->id ∉ subs:=fun id h1 h2=>(jc0.1 h.nd).2.2 id h1 id h2 rfl;have hScB:∀k,(ScB s y z).H k=(qar (refs s.ps) idN (mP s.ps) z++newO s y z)[k]?:=fun k=>qgc _ k;have hql:=h.len;have l1:=h.l1;have hrk:=fun k (hk:k<mP s.ps)=>h.rk hk;have hsk:=fun k (h1:mP s.ps<=k) (h2:k<(rows++subs).length)=>h.sk h1 h2;have hrowA:=fun k (hk:k<mP s.ps)=>h.rowA hk;have hnd:=h.nd;have hT:=h.w;have hinr:∀id,id∈rows->id∈rows++subs:=fun id h=>jb3 _ h;have hins:∀id,id∈subs->id∈rows++subs:=fun id h=>jcc _ h;generalize hq:rows++subs=q at *;have hEA:∀k,k<mP s.ps->Er.A k/\Er.ρ k=E.ρ (ol 0 q k)/\Er.κ k=E.κ (ol 0 q k)/\Er.hd k=E.hd (ol 0 q k)/\Er.hb k=E.hb (ol 0 q k):=fun k hk=>by
  obtain⟨a1,a2,a3,a4,a5⟩:=k2.alw k hk ⟨by omega,hA _ (qbz (by omega)).1⟩;exact⟨a1,a2,a3,a4,a5⟩
 exact qz2 (n:=S.next) (m:=mP s.ps) (S':=qbu s S.next rows subs y z S) p hnd hT hA (by omega) rfl hsb k2 (by
   unfold qbu ScB;rw[qcx,qcx,hbn,jag,qa3,qbs];have:S0.next=0:=rfl
   omega) (fun id hid hnq=>by
   unfold qbu;rw[qb8,hbn,jam hid,qg5 (fun h=>hnq (hinr _ h)),qlg (fun h=>hnq (hins _ h))]) (fun k o hk ho=>by
   unfold qbu at ho;have hin:=(qbz (q:=q) (k:=k) (by omega)).1;rw[qb8,hbn,jam (hlt _ hin),qrr hndr (by rw[qa3,qbs,l1]) (hrk k hk)] at ho;obtain⟨r,nj,xj,rfl,d2,d3,d4⟩:=qft _ _ _ _ _ _ ho;have hsr:(ScB s y z).H k=some (objK r idN nj xj):=by
    rw[hScB,jau (by rw[qa3,qbs];exact hk)];exact d4 idN
   obtain⟨a1,a2,a3,a4,a5⟩:=hEA k hk;obtain⟨o1,o2,o3,o4⟩:=qdi (E:=E) (Er:=Er) (n:=S.next) (m:=mP s.ps) (hlt _ hin);obtain⟨_,_,_,_,_,_,i2,_⟩:=hrowA k hk;exact⟨OR.objK_to (E:=Er) (E':=mrgR E Er S.next (mP s.ps)) (fun _ h=>h) rfl a1 (fun _=>⟨.inl ⟨hlt _ hin,i2⟩,o1.trans a2.symm,o2.trans a3.symm,o3.trans a4.symm,o4.trans a5.symm⟩) (fun j a b hAj=>by
    obtain⟨r1,r2,r3,r4,r5⟩:=qhe (E:=E) (Er:=Er) (n:=S.next) (m:=mP s.ps) (k:=j) (by omega);exact⟨r5 hAj,r1,r2,r3,r4⟩) (k2.st.objs k trivial a1 _ hsr),fun hl=>⟨_,hsr,qpp.trans hl⟩,fun hb=>(o4.trans a5.symm).trans (k2.st.blk k trivial a1 _ hsr (qj2.trans hb))⟩) (fun k o h1 h2 ho=>by
   unfold qbu at ho;have hin:=(qbz (q:=q) (k:=k) h2).1;have hin2:=jbw (hsk k h1 h2);rw[qb8,hbn,jam (hlt _ hin),qg5 (fun h=>hrs _ h hin2),qq1 hin2] at ho;cases ho;rfl) (fun k o h1 hAk ho=>by
   unfold qbu at ho;have hkb:=k2.bnd k hAk;unfold ScB at hkb;rw[qcx,jag,qa3,qbs] at hkb;have e0:S0.next=0:=rfl
   rw[qb8,hbn,jao (by omega),jam (by omega),ja4] at ho;have hd:=qr2 (jbw ho);have hsr:(ScB s y z).H k=some o:=by
    rw[hScB,ja3 (by rw[qa3,qbs];exact h1),qa3,qbs];exact ho
   obtain⟨r1,r2,r3,r4,r5⟩:=qhe (E:=E) (Er:=Er) (n:=S.next) (m:=mP s.ps) (k:=k) h1;exact⟨OR.dat_to (E:=Er) (E':=mrgR E Er S.next (mP s.ps)) (fun _ h=>h) rfl hAk (fun hA=>⟨r5 hA,r1,r2,r3,r4⟩) hd (k2.st.objs k trivial hAk _ hsr),fun hl=>⟨_,hsr,hl⟩,fun hbk=>r4.trans (k2.st.blk k trivial hAk _ hsr hbk)⟩)
end
end Go.Jx
end

section
namespace Go.Jx
open Go Go.Sx Go.RowKit
universe u

structure Beside (b:Nat) (w w':World):Prop where
 os:w'.os=w.os
 tape:w'.tape=w.tape
 output:w'.output=w.output
 size:w'.heap.size=w.heap.size
 same:∀x,x≠b->w'.heap[x]?=w.heap[x]?
theorem Beside.put(w:World)(b:Nat)(o:Obj):Beside b w (w.putObj b o):=⟨rfl,rfl,rfl,by simp,fun x hx=>jca hx⟩
theorem Beside.symm{b:Nat}{w w':World}(h:Beside b w w'):Beside b w' w:=⟨h.os.symm,h.tape.symm,h.output.symm,h.size.symm,fun x hx=>(h.same x hx).symm⟩
theorem Beside.upd{b:Nat}{w w':World}(h:Beside b w w'):Upd [b] w w':=⟨h.os,h.tape,h.output,by rw[h.size];exact jaq _,fun x _ hx=>h.same x (by simpa using hx)⟩
def qcs(E:Env)(S:IS)(b:Nat):Prop:=b∈E.m/\∀id,E.A id->Live E S.H id->E.ρ id≠b
section
variable {E E' : Env} {S S' : IS} {b : Nat} {w w' : World}
theorem Pre.beside(p:Pre T0 E S)(hb:qcs E S b)(h:Beside b E.w w):E.Le (E.at_ w)/\Pre T0 (E.at_ w) S/\qcs (E.at_ w) S b:=by
 have hle:E.Le (E.at_ w):=⟨fun _ h=>⟨h,rfl,rfl,rfl,rfl⟩,⟨fun x hx hm=>⟨hm,h.same x fun e=>hm (e▸hb.1)⟩⟩⟩
 refine⟨hle,⟨⟨fun id ht ha o ho=>(p.st.objs id ht ha o ho).mono hle ha (p.st.blk id ht ha o ho) fun hl hhb=>h.same _ (hb.2 id ha ⟨hhb,o,ho,hl⟩),fun id ht ha o ho hbk=>p.st.blk id ht ha o ho hbk,fun id ht ha hl=>p.st.own id ht ha hl,
  fun i j a b' c d e f g=>p.st.inj i j a b' c d e f g,fun x hx=>?_⟩,p.bnd,p.nw,p.gl.mono hle.tr⟩,hb⟩
 show x<w.heap.size;rw[h.size];exact p.st.lo x hx
theorem PostB.apart{B:Nat}(k:PostB B T0 E S E' S')(p:Pre T0 E S)(hb:qcs E S b):qcs E' S' b:=by
 have hlt:=p.st.lo b hb.1;refine⟨?_,fun id ha hl e=>?_⟩
 ·rcases k.mem b hb.1 hlt with h|⟨id,_,h1,h2,h3⟩
  ·exact h
  ·exact absurd h3 (hb.2 id h1 h2)
 ·rcases jbz id B with h|h
  ·have hA:=k.fr id h ha;exact hb.2 id hA (k.old id h trivial hA hl) ((k.alw id h hA).2.1.symm.trans e)
  ·rcases k.new id h ha hl with h1|⟨j,_,j1,j2,j3⟩
   ·omega
   ·exact hb.2 j j1 j2 (j3.symm.trans e)
theorem PostB.at_same{B:Nat}(k:PostB B T0 E S E' S')(p:Pre T0 E S)(hb:qcs E S b):E'.w.heap[b]?=E.w.heap[b]?:=k.same b (p.st.lo b hb.1) fun id _ ha hl=>hb.2 id ha hl
theorem PostB.beside{B:Nat}(k:PostB B T0 E S E' S')(p:Pre T0 E S)(hb:qcs E S b)(h1:Beside b E.w w)(h2:Beside b E'.w w')(h3:w'.heap[b]?=w.heap[b]?):PostB B T0 (E.at_ w) S (E'.at_ w') S':=by
 have p':Pre T0 E' S':=k.pre (fun _ _=>trivial) p;obtain⟨_,p2,_⟩:=p'.beside (k.apart p hb) h2;have es:(E.at_ w).w.heap.size=E.w.heap.size:=h1.size;refine⟨p2.st,h2.os.trans (k.os.trans h1.os.symm),h2.tape.trans (k.tape.trans h1.tape.symm),h2.output.trans (k.output.trans h1.output.symm),?_,fun x hx hn=>?_,k.alw,fun id hB ha hl=>?_,k.old,fun x hx=>?_,fun x hx hlt=>k.mem x hx (by rw[es] at hlt;exact hlt),k.bnd,k.le,k.fr⟩
 ·show w.heap.size<=w'.heap.size;rw[h1.size,h2.size];exact k.size
 ·show w'.heap[x]?=w.heap[x]?;by_cases e:x=b
  ·rw[e];exact h3
  ·rw[h2.same x e,h1.same x e];exact k.same x (by rw[es] at hx;exact hx) hn
 ·rw[es];exact k.new id hB ha hl
 ·rw[es];exact k.memo x hx
end
end Go.Jx
end

section
namespace Go.Jx
open Go Go.Sx Go.RowKit
universe u

structure LpC where
 ls:List Nat
 lp:List PK
 nm:Nat->Option Nm
def putL:List Nat->List IV->PT IV->PT IV
 | t::ts,v::vs,fr=>putL ts vs (fr.set v t)
 | _,_,fr=>fr
theorem q3h:∀{ls:List Nat} {vs:List IV} {us:List Value} {E:Env} {nt:Nat} {fr:PT IV} {tmps:Array Value},VRs E vs us->us=ls.map (fun t=>tmps.getD t undef)->FR E nt fr tmps->FR E nt (putL ls vs fr) tmps
 | [],vs,us,E,nt,fr,tmps,hv,hu,hf=>by simpa [putL] using hf
 | t::ls,[],us,E,nt,fr,tmps,hv,hu,hf=>by simpa [putL] using hf
 | t::ls,v::vs,us,E,nt,fr,tmps,hv,hu,hf=>by
  obtain⟨u,us,rfl,a1,a2⟩:=hv.inv;simp only[jdj,jd1] at hu;show FR E nt (putL ls vs (fr.set v t)) tmps;refine q3h a2 hu.2 ⟨hf.size,fun k hk=>?_⟩;rw[qd6];by_cases e:k=t
  ·subst e;rw[jam rfl,<- hu.1];exact a1
  ·rw[jao e];exact hf.get k hk
section
variable (P : Program) (tt : Nat -> Option TI)
def qe1(cfg:LpC)(c:TC)(nt lf:Nat)(cl:Cl)(pr:Nat)(assign body:Code)(d:ElP cfg.lp)(z:ElP (refs cfg.lp))(x:El c):Option (ElP (refs cfg.lp) × Option Code) :=
 match qak P tt cfg.nm (mP cfg.lp) nt cl lf none assign (qdm [pr] [asIV c x] (putL cfg.ls (qaq cfg.lp idN 0 d) .leaf)) (Sc cfg.lp (updP cfg.lp d z)) [] with
 | none=>none
 | some r1=>match r1.e with
  | .normal=>match r1.ds with
   | []=>match qak P tt cfg.nm (mP cfg.lp) nt cl lf none body r1.fr r1.S [] with
    | none=>none
    | some r2=>match r2.ds with
     | []=>match runQ (sQ cfg.lp) ⟨.tup [],r2.S,0,0⟩ with
      | none=>none
      | some y=>some (y.2,qdr r2.e)
     | _=>none
   | _=>none
  | _=>none
end
def foldB{D α:Type}(g:D->α->Option (D × Option Code)):List α->D->Option (D × Option Code)
 | [],d=>some (d,none)
 | x::xs,d=>match g d x with
  | none=>none
  | some (d',none)=>foldB g xs d'
  | some (d',some e)=>some (d',some e)
section
variable {P : Program} {tt : Nat -> Option TI}
theorem zmf{cfg:LpC}{c:TC}{nt lf:Nat}{cl:Cl}{pr:Nat}{assign body:Code}{d:ElP cfg.lp}{z z':ElP (refs cfg.lp)}{x:El c}{e:Option Code}(hm:P.follows .mixedOrders=true)(hcl:ClOK P cl)(hfr:ClFr cl)(htt:TT P tt)
  (h:qe1 P tt cfg c nt lf cl pr assign body d z x=some (z',e)) (hok:qa2 assign=true/\qa2 body=true) (hrf:qbx assign=false/\qbx body=false)
  {E:Env} {b:Nat} {rec:Loop} (p:Pre T0 E (Sc cfg.lp (updP cfg.lp d z))) (hb:qcs E (Sc cfg.lp (updP cfg.lp d z)) b) (hl:E.w.heap[b]?=some (.loop rec)) (hr:rec.state=.ready/\rec.pending=none/\rec.params=#[pr]/\rec.assign=assign/\rec.body=body/\rec.tmps.size=nt)
  (hargs:VRs E (qaq cfg.lp idN 0 d) (cfg.ls.map fun t=>rec.tmps.getD t undef)) {u:Value} (hu:VR E (asIV c x) u) :
  YieldAt Fence.wide 0 P b #[u] E.w fun en B=>∃E',PostB (mP cfg.lp) T0 E (Sc cfg.lp (updP cfg.lp d z)) E' (Sc cfg.lp (updP cfg.lp d z')) /\
   ((e=none/\en=.returned (.bool true)/\B=E'.w)\/∃cd,e=some cd/\en=.returned (.bool false)/\Upd [b] E'.w B/\B.heap[b]?=some (.loop { rec with state:=.done,pending:=some cd })):=by
 obtain⟨hr1,hr2,hr3,hr4,hr5,hr6⟩:=hr;unfold qe1 at h;split at h
 ·cases h
 rename_i r1 hrun1;split at h<;>try cases h
 rename_i he1;split at h<;>try cases h
 rename_i hds1;split at h
 ·cases h
 rename_i r2 hrun2;split at h<;>try cases h
 rename_i hds2;split at h
 ·cases h
 rename_i y hq;cases h;have hblt:b<E.w.heap.size:=qas hl;have hy:=run_yield (P:=P) (args:=#[u]) hl (by rw[hr3];rfl);refine⟨_,_,_,_,hy,roundIn_of_wpIn trivial ?_⟩;have hFp:(Fence.wide.inRound b).plain=Fence.wide:=rfl;have hfr0:FR E nt (PT.leaf) rec.tmps:=⟨hr6,fun t ht=>.unk _⟩;have hfr1:FR E nt (qdm [pr] [asIV c x] (putL cfg.ls (qaq cfg.lp idN 0 d) .leaf)) ((rec.params.zip #[u]).foldl (fun tmps (t,a)=>tmps.setIfInBounds t a) rec.tmps):=by
  have:=qtx (ps:=[pr]) (VRs.cons hu VRs.nil) (q3h hargs rfl hfr0);rw[hr3];simpa [List.zip] using this
 rw[hr4];refine qh5 (T:=T0) (E:=E) (a:={ tmps:=_,defers:=[] }) (S:=Sc cfg.lp (updP cfg.lp d z)) (ds:=[]) (round:=none) (B:=mP cfg.lp) (fun _ _=>trivial) hm hFp hcl hfr htt assign hok.1 p (by rw[qic];omega) (fun _ _=>trivial) hfr1 (DS.nil (N:=0) (jb8 _)) (fun h=>by rw[hrf.1] at h;cases h) hrun1 (fun _ _=>trivial) (fun _ _=>trivial) ?_;intro E1 a1 k1 k2 kB;rw[he1];have hb1:=kB.apart p hb;have hl1:E1.w.heap[b]?=some (.loop rec):=(kB.at_same p hb).trans hl;have p1:Pre T0 E1 r1.S:=kB.pre (fun _ _=>trivial) p;have hbg:=run_beginRound (P:=P) hl1 hr1;refine⟨_,hbg,?_⟩;generalize hW:(E1.w.putObj b (.loop { rec with state:=.busy }))=W1;have hs1:Beside b E1.w W1:=by rw[<- hW];exact Beside.put _ _ _
 have hW1:W1.heap[b]?=some (.loop { rec with state:=.busy }):=by rw[<- hW];exact jbq (qas hl1)
 obtain⟨hle2,p2,hb2⟩:=p1.beside hb1 hs1;have hs0:Beside b E.w (E.w.putObj b (.loop { rec with state:=.busy })):=Beside.put _ _ _;obtain⟨hle0,p0,hb0⟩:=p.beside hb hs0;have hw0:(E.w.putObj b (.loop { rec with state:=.busy })).heap[b]?=some (.loop { rec with state:=.busy }):=jbq hblt;have kB2:=kB.beside p hb hs0 hs1 (by rw[hW1,hw0]);rw[hr5];show body.wpIn _ 0 P _ a1 (E1.at_ W1).w;rw[hds1] at k2;refine qh5 (T:=T0) (E:=E1.at_ W1) (a:=a1) (S:=r1.S) (ds:=[]) (round:=none) (B:=mP cfg.lp) (fun _ _=>trivial) hm hFp hcl hfr htt body hok.2 p2 kB.le (fun _ _=>trivial) (k1.mono hle2) (k2.mono hle2 (by show E1.w.heap.size<=W1.heap.size;rw[<- hW];simp)) (fun h=>by rw[hrf.2] at h;cases h) hrun2 (fun _ _=>trivial) (fun _ _=>trivial) ?_;intro E3 a3 m1 m2 mB;have hall:=kB2.trans mB;have hargs0:VRs (E.at_ (E.w.putObj b (.loop { rec with state:=.busy }))) (qaq (sQ cfg.lp).ps idN 0 (updP cfg.lp d z)) (cfg.ls.map fun t=>rec.tmps.getD t undef):=by
  show VRs _ (qaq cfg.lp idN 0 (updP cfg.lp d z)) _;rw[qmy];exact hargs.mono hle0
 obtain⟨E4,e4,_,q4⟩:=q2s (s:=sQ cfg.lp) (r:=⟨.tup [],r2.S,0,0⟩) (x:=updP cfg.lp d z) (y:=y.1) (z:=y.2) (u:=.tuple #[]) hq p0 hargs0 hall (.tup (us:=[]) rfl (fun i h=>by simp at h));have hb4:=q4.apart p0 hb0;have hl4:E4.w.heap[b]?=some (.loop { rec with state:=.busy }):=(q4.at_same p0 hb0).trans hw0;have hend:=fun j=>run_endRound (P:=P) j hl4;have hs4:Beside b E4.w (E4.w.putObj b (.loop rec)):=Beside.put _ _ _;have hback:=q4.beside p0 hb0 hs0.symm hs4 (by rw[jbq (qas hl4)];exact hl.symm);have hfin:PostB (mP cfg.lp) T0 E (Sc cfg.lp (updP cfg.lp d z)) (E4.at_ (E4.w.putObj b (.loop rec))) (Sc cfg.lp (updP cfg.lp d y.2)):=by
  have e1:ScB (sQ cfg.lp) y.1 y.2=Sc cfg.lp (updP cfg.lp d y.2):=q4h cfg.lp d y.2;rw[e1] at hback;exact hback
 rw[<- e4];have hrec:({ rec with state:=.ready,pending:=none }:Loop)=rec:=by
  cases rec;cases hr1;cases hr2;rfl
 have hstop:∀cd,∃v w',(Instr.endRound b (some cd)).run P E4.w=.ok v w'/\∃E',PostB (mP cfg.lp) T0 E (Sc cfg.lp (updP cfg.lp d z)) E' (Sc cfg.lp (updP cfg.lp d y.2)) /\
   ((some cd=none/\Ending.returned v=.returned (.bool true)/\w'=E'.w)\/∃cd',some cd=some cd'/\Ending.returned v=.returned (.bool false)/\Upd [b] E'.w w'/\w'.heap[b]?=some (.loop { rec with state:=.done,pending:=some cd' })):=fun cd=>by
  refine⟨_,_,hend (some cd),E4.at_ (E4.w.putObj b (.loop rec)),hfin,.inr ⟨cd,rfl,rfl,?_,?_⟩⟩
  ·exact hs4.symm.upd.trans ((Beside.put E4.w b _).upd)
  ·exact jbq (qas hl4)
 cases he:r2.e with
 | normal =>
  refine⟨_,_,hend none,E4.at_ (E4.w.putObj b (.loop rec)),hfin,.inl ⟨rfl,rfl,?_⟩⟩;show E4.w.putObj b (.loop { rec with state:=.ready,pending:=none })=E4.w.putObj b (.loop rec);rw[hrec]
 | ret =>
  obtain⟨v,w',g1,E',g2,g3⟩:=hstop .ret;refine⟨v,w',g1,E',g2,?_⟩;rcases g3 with ⟨g3,_⟩|⟨cd,g3,g4,g5,g6⟩
  ·cases g3
  ·exact .inr ⟨cd,g3,g4,g5,by rw[hr4,hr5] at g6;exact g6⟩
 | exit i =>
  obtain⟨v,w',g1,E',g2,g3⟩:=hstop (.exit i);refine⟨v,w',g1,E',g2,?_⟩;rcases g3 with ⟨g3,_⟩|⟨cd,g3,g4,g5,g6⟩
  ·cases g3
  ·exact .inr ⟨cd,g3,g4,g5,by rw[hr4,hr5] at g6;exact g6⟩
 | goto l =>
  obtain⟨v,w',g1,E',g2,g3⟩:=hstop (.goto l);refine⟨v,w',g1,E',g2,?_⟩;rcases g3 with ⟨g3,_⟩|⟨cd,g3,g4,g5,g6⟩
  ·cases g3
  ·exact .inr ⟨cd,g3,g4,g5,by rw[hr4,hr5] at g6;exact g6⟩
end
end Go.Jx
end

section
namespace Go.Jx
open Go Go.Sx Go.RowKit
universe u

def qed(P:Program)(gf:Nat)(us:List Value)(Rd:World->Prop){α:Type}(V:α->Value->World->World->Prop)(xs:List α):Prop :=
 ∀(l:Nat) (J:List α->World->Prop) (K:World->Prop) (W:World),(∀s A B,J s A->Upd [] A B->J s B)->(∀A B,K A->Upd [] A B->K B)->(∀s A,J s A->Rd A) ->
  (∀pre x post A0 A u,xs=pre++x::post->J pre A0->Upd [] A0 A->V x u A0 A->YieldAt Fence.wide 0 P l #[u] A fun e B=>(∀b,A0.heap.size<=b->b<A.heap.size->B.heap[b]?=A.heap[b]?)/\((e=.returned (.bool true)/\J (pre++[x]) B)\/(e=.returned (.bool false)/\K B))) ->
  J [] W->CallsIn Fence.wide 0 P gf (#[.func (.yield l) #[] #[]]++us.toArray) W fun e B=>e=.returned (.tuple #[])/\(J xs B\/K B)
structure SmI where
 ips:List PK
 c:TC
 xs:ElP ips->Option (List (El c))
def qtr(E:Env)(s:SmI)(x:ElP s.ips)(us:List Value)(rows:List Nat):Prop :=
 (∀ρ k,Nums ρ k rows->VRs E (qaq s.ips ρ k x) us)/\qp0 E rows (qar s.ips idN 0 x)
structure ConI (P:Program) (f:Nat) (s:SmI):Prop where
 callable:qai P f
 ns:nP s.ips=0
 it:∀(E:Env) (x:ElP s.ips) (us:List Value) (rows:List Nat) (l:List (El s.c)),s.xs x=some l->Gl E.m E.w->qtr E s x us rows ->
  qed P f us (fun W=>E.Le (E.at_ W)/\∀id∈rows,W.heap[E.ρ id]?=E.w.heap[E.ρ id]?) (fun x u A0 A=>∀E:Env,E.w=A->(∀b∈E.m,b<A0.heap.size)->VR E (asIV s.c x) u) l
def qda:(l:List PK)->ElP l->ElP (refs l)
 | [],_=>()
 | .dat _::l,x=>qda l x.2
 | .fn _::l,x=>qda l x
 | .ref _::l,x=>(x.1,qda l x.2)
theorem qoj:∀(l:List PK) (x:ElP l),updP l x (qda l x)=x
 | [],_=>rfl
 | .dat c::l,x=>jas (fun q=>(x.1,q)) (qoj l x.2)
 | .fn _::l,x=>qoj l x
 | .ref r::l,x=>jas (fun q=>(x.1,q)) (qoj l x.2)
theorem ql8{D α:Type}(g:D->α->Option (D × Option Code)):∀(pre post:List α) (z z':D),foldB g pre z=some (z',none)->foldB g (pre++post) z=foldB g post z'
 | [],post,z,z',h=>by cases h;rfl
 | x::pre,post,z,z',h=>by
  simp only[foldB,jch] at h ⊢;cases hg:g z x with
  | none=>rw[hg] at h;cases h
  | some q =>
   obtain⟨z1,e⟩:=q;rw[hg] at h;cases e with
   | none=>exact ql8 g pre post z1 z' h
   | some e=>cases h
section
variable (P : Program) (tt : Nat -> Option TI)
def itB(S2:IS)(cfg:LpC)(id nt:Nat)(irows rows subs:List Nat)(w2:Nat)(assign body:Code):Bool :=
 ndB (id::(irows++(rows++subs)))&&(irows.all (rowB S2)&&(rows.all (rowB S2)&&(qa2 assign&&(qa2 body&&(!qbx assign&&(!qbx body&&(cfg.ls.all (fun t=>Nat.blt t nt)&&!w2.testBit id)))))))
end
section
variable {P : Program} {tt : Nat -> Option TI}
end
end Go.Jx
end

section
namespace Go.Jx
open Go Go.Sx Go.RowKit
universe u

section
variable {P : Program} {tt : Nat -> Option TI}
end
end Go.Jx
end

section
namespace Go.Jx
open Go Go.Sx Go.RowKit
universe u

section
variable (P : Program) (tt : Nat -> Option TI)
end
section
variable {P : Program} {tt : Nat -> Option TI}
def zd2:Nat->Option Nm:=fun k=>cond (Nat.beq k 999999) (some ⟨[],[],[],[],[],0,0,false⟩) none
end
end Go.Jx
end

section
namespace Go.Jx
open Go Go.Sx Go.RowKit
universe u

section
variable {P : Program} {tt : Nat -> Option TI} {ft : Nat -> Option FI}
end
end Go.Jx
end

noncomputable section
set_option maxRecDepth 100000
namespace Go.Proofs.Ytnhmanoiolfapaa
open Go Go.Sx Go.RowKit Go.Jx
abbrev qm7:Type:=Int × Unit
abbrev q8d:Nat:=29
def qxo(lf:Nat)(x1:qad):Option qm7:=(match (cond (S.inI (Int.ofNat x1.1.1.length) (Int.ofNat 0) (Int.ofNat 1000)) (some ((S.half (Int.toNat (Int.ofNat x1.1.1.length)) x1.2.1),())) none) with|none=>none|some v0=>(some ((IntKind.i64.wrap (Int.sub (IntKind.i64.wrap (Int.sub v0.1.2 v0.1.1)) x1.2.2.1)),())))
def qpc(lf:Nat)(x1:qad):Option qm7:=qxo lf x1
theorem zl8{g:ElA [qag]->Option qm7}(hsm:SmOK Try.prog [(41,qi8)])(hg:∀(x:ElA [qag]) (y:qm7),WfA [qag] x->g x=some y->∃lf,qpc lf x.1=some y):Con Try.prog 29 ⟨[qag],[(false,(.int .i64))],g⟩ :=
 conU (fi:=fi29) (hxl:=[]) (fun lf x=>qpc lf x.1) cm3 zkm trivial hsm hg
def nmz1:Nat->Option Nm:=fun k=>cond (Nat.beq k 6) (some ⟨[0,12,13,14],[],[],[],[],0,0,false⟩) (none)
def stz1:Nat->Bool:=fun k=>cond (Nat.beq k 6) true (false)
def hdz1:=stz1
abbrev Rtz1:Type:=Int × Int × Unit
def q5y:List (Nat × Sm):=[(27,qip),(28,spz8)]
def q02:List (Nat × Hx):=[]
def clz1(R:Type)(lf:Nat):ClK R:=qa4 Try.prog ttT.get ftT.get (nm1 14 nmz1) (smL q5y) (hxL q02) lf 20 R
abbrev idz1:Nat:=14
def qho(x1:(List qaa))(p:Int):NRes:=(NRes.mk (.node (some (IV.lst qac x1)) (.node none .leaf (.node none .leaf (.node (some (IV.int .i64 (Int.ofNat x1.length))) .leaf .leaf))) (.node none (.node none .leaf (.node (some (IV.lst qac x1)) .leaf .leaf)) (.node none .leaf (.node (some (IV.int .i64 p)) .leaf .leaf)))) (IS.mk .leaf 0) [] 0)
def quv(lf:Nat)(x1:(List qaa))(L6:Int->Option Rtz1):Option Rtz1:=(cond (iltI (Int.ofNat 60) (Int.ofNat x1.length)) (some ((Int.ofNat 0),((Int.ofNat 3),()))) (cond (ieqI (Int.ofNat x1.length) (Int.ofNat 0)) (some ((Int.ofNat 0),((Int.ofNat 1),()))) (L6 (Int.ofNat 0))))
def qjs(lf:Nat)(x1:(List qaa))(L6:Int->Option Rtz1)(p:Int):Option Rtz1:=(cond (iltI p (Int.ofNat x1.length)) (match (jget x1 p) with|none=>none|some v0=>(cond (Bool.not (S.inI v0.1 (Int.ofNat 0) (Int.ofNat 199))) (some ((Int.ofNat 0),((Int.ofNat 1),()))) (cond (iltI (Int.ofNat 4000) (Int.ofNat v0.2.1.size)) (some ((Int.ofNat 0),((Int.ofNat 1),()))) (cond v0.2.2 (cond (Bool.not (keqS v0.2.1 (S.lit []))) (some ((Int.ofNat 0),((Int.ofNat 1),()))) (cond (iltI (Int.ofNat 0) p) (match (jget x1 (IntKind.i64.wrap (Int.sub p (Int.ofNat 1)))) with|none=>none|some v1=>(cond (Bool.not (iltI v1.1 v0.1)) (some ((Int.ofNat 0),((Int.ofNat 1),()))) (L6 (IntKind.i64.wrap (Int.add p (Int.ofNat 1)))))) (L6 (IntKind.i64.wrap (Int.add p (Int.ofNat 1)))))) (cond (iltI (Int.ofNat 0) p) (match (jget x1 (IntKind.i64.wrap (Int.sub p (Int.ofNat 1)))) with|none=>none|some v25=>(cond (Bool.not (iltI v25.1 v0.1)) (some ((Int.ofNat 0),((Int.ofNat 1),()))) (L6 (IntKind.i64.wrap (Int.add p (Int.ofNat 1)))))) (L6 (IntKind.i64.wrap (Int.add p (Int.ofNat 1))))))))) (match (cond (S.pk x1) (some ((S.packed x1 (Int.ofNat 1)),())) none) with|none=>none|some v26=>(some ((Int.ofNat v26.1.length),((Int.ofNat 0),())))))
abbrev gz1:Type:=ElA [(.list qac)]->Option Rtz1
abbrev sz1(g:gz1):Sm:=⟨[(.list qac)],[(false,(.int .i64)),(false,(.int .i64))],g⟩
abbrev Ez1(g:gz1)(J:JT Rtz1)(lf:Nat)(x1:(List qaa)):=qb5 Try.prog ttT.get nmz1 fi14.nt (clz1 _ lf) lf stz1 J fi14.body [] (qa0 (argV [(.list qac)] (x1,())) 0 .leaf) S0 [] (qa1 ttT.get fi14 (sz1 g))
abbrev Bz1(g:gz1)(J:JT Rtz1)(lf k:Nat)(ms:List Nat)(q:NRes):=qcm Try.prog ttT.get nmz1 fi14.nt (clz1 _ lf) lf stz1 J k fi14.body [] ms q (qa1 ttT.get fi14 (sz1 g))
theorem inz1(g:gz1)(J:JT Rtz1)(lf:Nat)(x1:(List qaa)):Ez1 g J lf x1=quv lf x1 (fun q=>J 6 [lf] (qho x1 q)):=by kernel_rfl
theorem q8c(g:gz1)(J:JT Rtz1)(lf:Nat)(x1:(List qaa))(m1:Nat)(p:Int):Bz1 g J lf 6 [m1] (qho x1 p)=qjs lf x1 (fun q=>J 6 [m1] (qho x1 q)) p:=by kernel_rfl
theorem ndz1:(regs fi14.body).Nodup:=by decide +kernel
theorem okz1:okC nmz1 stz1 hdz1 fi14.body none=true:=by kernel_rfl
def Az1(g:gz1)(lf:Nat):JT Rtz1:=atN Try.prog ttT.get nmz1 fi14 (sz1 g) (clz1 _ lf) lf hdz1
def qn0(lf:Nat)(x1:(List qaa)):Nat->(Int)->Option Rtz1:=qa9 fun K p=>qjs lf x1 K p
theorem qw0(g:gz1)(lf:Nat)(x1:(List qaa)):∀(n:Nat) (p:Int),Az1 g lf 6 [n] (qho x1 p)=qn0 lf x1 n p
 | 0,p=>qb4 6 [0] rfl _
 | n+1,p=>by
  have ih:=qw0 g lf x1 n;refine(qb6 (qbh 20 _) ndz1 okz1 6 [n+1] [n] rfl _).trans ((q8c g (Az1 g lf) lf x1 n p).trans ?_);rw[(show (fun q=>Az1 g lf 6 [n] (qho x1 q))=(fun q=>qn0 lf x1 n q) from funext ih)];rfl
def Fz1(lf:Nat)(x1:(List qaa)):Option Rtz1:=quv lf x1 (fun q=>qn0 lf x1 lf q)
theorem q9t(g:gz1)(lf:Nat)(x1:(List qaa)):Ez1 g (Az1 g lf) lf x1=Fz1 lf x1:=by
  refine(inz1 g (Az1 g lf) lf x1).trans ?_;rw[(show (fun q=>Az1 g lf 6 [lf] (qho x1 q))=(fun q=>qn0 lf x1 lf q) from funext fun q=>qw0 g lf x1 lf q)];rfl
theorem zna:qbi Try.prog q02:=trivial
theorem mkz1{g:gz1}(hsm:SmOK Try.prog q5y)(hg:∀(x:ElA [(.list qac)]) (y:Rtz1),WfA [(.list qac)] x->g x=some y->∃lf,Fz1 lf x.1=some y):Con Try.prog 14 ⟨[(.list qac)],[(false,(.int .i64)),(false,(.int .i64))],g⟩ :=
 conV (st:=stz1) (fun lf x=>Fz1 lf x.1) cm3 zkl zna ndz1 okz1 (fun lf x=>q9t g lf x.1) hsm hg
abbrev qmd:Type:=Int × Unit
abbrev zkt:Nat:=22
def qys(lf:Nat)(x1:qad):Option qmd:=(cond (Bool.not (ieqI (S.checkDisk (x1.1.1,x1.1.2)) (Int.ofNat 0))) (some ((Int.ofNat 1),())) (cond (iltI (Int.ofNat 0) (Int.ofNat x1.1.2.length)) (some ((Int.ofNat 1),())) (match (cond (S.okL (x1.1.1,x1.1.2)) (some ((S.openedJ (x1.1.1,x1.1.2)).1,((S.openedJ (x1.1.1,x1.1.2)).2,()))) none) with|none=>none|some v0=>(cond (Bool.not v0.2.1) (some ((Int.ofNat 1),())) (cond (Bool.not (ieqI v0.1.2.1 x1.2.1)) (some ((Int.ofNat 1),())) (cond (Bool.not (ieqI v0.1.2.2.1 x1.2.2.1)) (some ((Int.ofNat 1),())) (cond (Bool.not (S.sameC v0.1.2.2.2 x1.2.2.2)) (some ((Int.ofNat 1),())) (some ((Int.ofNat 0),())))))))))
def qo2(lf:Nat)(x1:qad):Option qmd:=qys lf x1
theorem zjy{g:ElA [qag]->Option qmd}(hsm:SmOK Try.prog [(24,qii),(25,qgd),(40,q38)])(hg:∀(x:ElA [qag]) (y:qmd),WfA [qag] x->g x=some y->∃lf,qo2 lf x.1=some y):Con Try.prog 22 ⟨[qag],[(false,(.int .i64))],g⟩ :=
 conU (fi:=fi22) (hxl:=[]) (fun lf x=>qo2 lf x.1) cm3 zog trivial hsm hg
abbrev qm5:Type:=Int × Int × Unit
abbrev zor:Nat:=15
def q05(lf:Nat)(x1:qad):Option qm5:=(cond (Bool.not (ieqI (S.errR ((x1.1.1,x1.1.2),(x1.2.1,(x1.2.2.1,x1.2.2.2)))) (Int.ofNat 0))) (some ((Int.ofNat 0),((S.errR ((x1.1.1,x1.1.2),(x1.2.1,(x1.2.2.1,x1.2.2.2)))),()))) (match (cond (S.smallJ ((x1.1.1,x1.1.2),(x1.2.1,(x1.2.2.1,x1.2.2.2)))) (some ((S.roomOf ((x1.1.1,x1.1.2),(x1.2.1,(x1.2.2.1,x1.2.2.2)))),())) none) with|none=>none|some v0=>(some (v0.1,((Int.ofNat 0),())))))
def qlw(lf:Nat)(x1:qad):Option qm5:=q05 lf x1
theorem zni{g:ElA [qag]->Option qm5}(hsm:SmOK Try.prog [(22,qor),(29,quc)])(hg:∀(x:ElA [qag]) (y:qm5),WfA [qag] x->g x=some y->∃lf,qlw lf x.1=some y):Con Try.prog 15 ⟨[qag],[(false,(.int .i64)),(false,(.int .i64))],g⟩ :=
 conU (fi:=fi15) (hxl:=[]) (fun lf x=>qlw lf x.1) cm3 zgw trivial hsm hg
abbrev qph:Type:=Int × Unit
abbrev zi3:Nat:=30
def qwc(lf:Nat)(x1:qad)(x2:(List qaa)):Option qph:=(cond (Bool.not (ieqI (S.errR ((x1.1.1,x1.1.2),(x1.2.1,(x1.2.2.1,x1.2.2.2)))) (Int.ofNat 0))) (some ((S.errR ((x1.1.1,x1.1.2),(x1.2.1,(x1.2.2.1,x1.2.2.2)))),())) (some ((S.size x2).2,())))
def qot(lf:Nat)(x1:qad)(x2:(List qaa)):Option qph:=qwc lf x1 x2
theorem zn8{g:ElA [qag,(.list qac)]->Option qph}(hsm:SmOK Try.prog [(22,qor),(14,spz1)])(hg:∀(x:ElA [qag,(.list qac)]) (y:qph),WfA [qag,(.list qac)] x->g x=some y->∃lf,qot lf x.1 x.2.1=some y):Con Try.prog 30 ⟨[qag,(.list qac)],[(false,(.int .i64))],g⟩ :=
 conU (fi:=fi30) (hxl:=[]) (fun lf x=>qot lf x.1 x.2.1) cm3 q8y trivial hsm hg
def qy5:List (Nat × Hx):=[(42,hxR spz2),(45,hxR spz3)]
abbrev qoa:Type:=(List DAct) × Bool × Unit
abbrev zgg:Nat:=31
def q2m(lf:Nat)(x1:qad)(x2:(List qaa)):Option qoa:=(match (cond (S.pk x2) (some ((S.packed x2 (Int.ofNat 1)),())) none) with|none=>none|some v0=>(match (cond (S.smallJ ((x1.1.1,x1.1.2),(x1.2.1,(x1.2.2.1,x1.2.2.2)))) (some ((S.roomOf ((x1.1.1,x1.1.2),(x1.2.1,(x1.2.2.1,x1.2.2.2)))),())) none) with|none=>none|some v1=>(cond (iltI v1.1 (Int.ofNat v0.1.length)) (some ([],(false,()))) (match (cond (S.inI (Int.ofNat x1.1.1.length) (Int.ofNat 0) (Int.ofNat 1000)) (some ((S.half (Int.toNat (Int.ofNat x1.1.1.length)) x1.2.1),())) none) with|none=>none|some v2=>(match (jget v0.1 (Int.ofNat 0)) with|none=>none|some v3=>(match (GetElem?.getElem? v0.1 0) with|none=>none|some v4=>(match (cond (Decidable.decide (Eq v4.size 64)) (some ((qae (List.cons (Int.ofNat 0) (List.drop 1 (qab v4)))),())) none) with|none=>none|some v5=>(match (cond (Bool.and (S.inI (IntKind.i64.wrap (Int.add v2.1.1 x1.2.2.1)) (Int.ofNat 0) (Int.ofNat 1000000)) true) (some ((),(((S.app [] (S.puts (IntKind.i64.wrap (Int.add v2.1.1 x1.2.2.1)) [v5.1])),()),()))) none) with|none=>none|some v6=>(cond (lchk (Int.ofNat 1) (Int.ofNat v0.1.length) (Int.ofNat v0.1.length) (Int.ofNat v0.1.length)) (match (cond (Bool.and (S.inI (IntKind.i64.wrap (Int.add (IntKind.i64.wrap (Int.add v2.1.1 x1.2.2.1)) (Int.ofNat 1))) (Int.ofNat 0) (Int.ofNat 1000000)) (Bool.and (Nat.ble (List.length (lsub v0.1 (Int.ofNat 1) (Int.ofNat v0.1.length))) 1000000) (Nat.ble (S.lenA v6.2.1.1) 1000000))) (some ((),(((S.app v6.2.1.1 (S.puts (IntKind.i64.wrap (Int.add (IntKind.i64.wrap (Int.add v2.1.1 x1.2.2.1)) (Int.ofNat 1))) (lsub v0.1 (Int.ofNat 1) (Int.ofNat v0.1.length)))),()),()))) none) with|none=>none|some v7=>(cond (iltI (IntKind.i64.wrap (Int.add (IntKind.i64.wrap (Int.add v2.1.1 x1.2.2.1)) (Int.ofNat v0.1.length))) v2.1.2) (match (cond (Bool.and (S.inI (IntKind.i64.wrap (Int.add (IntKind.i64.wrap (Int.add v2.1.1 x1.2.2.1)) (Int.ofNat v0.1.length))) (Int.ofNat 0) (Int.ofNat 1000000)) (Nat.ble (S.lenA v7.2.1.1) 1000000)) (some ((),(((S.app v7.2.1.1 (S.puts (IntKind.i64.wrap (Int.add (IntKind.i64.wrap (Int.add v2.1.1 x1.2.2.1)) (Int.ofNat v0.1.length))) [S.blank])),()),()))) none) with|none=>none|some v8=>(match (cond (Nat.ble (S.lenA v8.2.1.1) 4000000) (some ((),(((S.app v8.2.1.1 [S.sync]),()),()))) none) with|none=>none|some v9=>(match (jget v0.1 (Int.ofNat 0)) with|none=>none|some v10=>(match (cond (Bool.and (S.inI (IntKind.i64.wrap (Int.add v2.1.1 x1.2.2.1)) (Int.ofNat 0) (Int.ofNat 1000000)) (Nat.ble (S.lenA v9.2.1.1) 1000000)) (some ((),(((S.app v9.2.1.1 (S.puts (IntKind.i64.wrap (Int.add v2.1.1 x1.2.2.1)) [v10])),()),()))) none) with|none=>none|some v11=>(match (cond (Nat.ble (S.lenA v11.2.1.1) 4000000) (some ((),(((S.app v11.2.1.1 [S.sync]),()),()))) none) with|none=>none|some v12=>(some (v12.2.1.1,(true,())))))))) (match (cond (Nat.ble (S.lenA v7.2.1.1) 4000000) (some ((),(((S.app v7.2.1.1 [S.sync]),()),()))) none) with|none=>none|some v13=>(match (jget v0.1 (Int.ofNat 0)) with|none=>none|some v14=>(match (cond (Bool.and (S.inI (IntKind.i64.wrap (Int.add v2.1.1 x1.2.2.1)) (Int.ofNat 0) (Int.ofNat 1000000)) (Nat.ble (S.lenA v13.2.1.1) 1000000)) (some ((),(((S.app v13.2.1.1 (S.puts (IntKind.i64.wrap (Int.add v2.1.1 x1.2.2.1)) [v14])),()),()))) none) with|none=>none|some v15=>(match (cond (Nat.ble (S.lenA v15.2.1.1) 4000000) (some ((),(((S.app v15.2.1.1 [S.sync]),()),()))) none) with|none=>none|some v16=>(some (v16.2.1.1,(true,()))))))))) none)))))))))
def qm4(lf:Nat)(x1:qad)(x2:(List qaa)):Option qoa:=q2m lf x1 x2
theorem zk5(hrz2:ConR Try.prog 42 spz2)(hrz3:ConR Try.prog 45 spz3):qbi Try.prog qy5:=⟨qfl hrz2,⟨qfl hrz3,trivial⟩⟩
theorem zb2{g:ElA [qag,(.list qac)]->Option qoa}(hsm:SmOK Try.prog [(28,spz8),(29,quc),(41,qi8),(46,qut),(44,qm1)])(hrz2:ConR Try.prog 42 spz2)(hrz3:ConR Try.prog 45 spz3)(hg:∀(x:ElA [qag,(.list qac)]) (y:qoa),WfA [qag,(.list qac)] x->g x=some y->∃lf,qm4 lf x.1 x.2.1=some y):Con Try.prog 31 ⟨[qag,(.list qac)],[(true,cAct),(false,.bool)],g⟩ :=
 conU (fi:=fi31) (hxl:=qy5) (fun lf x=>qm4 lf x.1 x.2.1) cm3 zjz (zk5 hrz2 hrz3) hsm hg
abbrev qnf:Type:=qad × Unit
abbrev zbg:Nat:=26
def qwq(lf:Nat)(x1:qad)(x2:(List DAct)):Option qnf:=(match (cond (S.okL ((S.doD (x1.1.1,x1.1.2) x2).1.1,(S.doD (x1.1.1,x1.1.2) x2).1.2)) (some ((S.openedJ ((S.doD (x1.1.1,x1.1.2) x2).1.1,(S.doD (x1.1.1,x1.1.2) x2).1.2)).1,((S.openedJ ((S.doD (x1.1.1,x1.1.2) x2).1.1,(S.doD (x1.1.1,x1.1.2) x2).1.2)).2,()))) none) with|none=>none|some v0=>(some (((v0.1.1.1,v0.1.1.2),(v0.1.2.1,(v0.1.2.2.1,v0.1.2.2.2))),())))
def ql3(lf:Nat)(x1:qad)(x2:(List DAct)):Option qnf:=qwq lf x1 x2
theorem znv{g:ElA [qag,(.list cAct)]->Option qnf}(hsm:SmOK Try.prog [(20,spz4),(25,qgd)])(hg:∀(x:ElA [qag,(.list cAct)]) (y:qnf),WfA [qag,(.list cAct)] x->g x=some y->∃lf,ql3 lf x.1 x.2.1=some y):Con Try.prog 26 ⟨[qag,(.list cAct)],[(false,qag)],g⟩ :=
 conU (fi:=fi26) (hxl:=[]) (fun lf x=>ql3 lf x.1 x.2.1) cm3 zh3 trivial hsm hg
abbrev qnt:Type:=(List DAct) × Int × Unit
abbrev zj9:Nat:=16
def qxk(lf:Nat)(x1:qad)(x2:(List qaa)):Option qnt:=(cond (Bool.not (ieqI (S.asked ((x1.1.1,x1.1.2),(x1.2.1,(x1.2.2.1,x1.2.2.2))) x2) (Int.ofNat 0))) (some ([],((S.asked ((x1.1.1,x1.1.2),(x1.2.1,(x1.2.2.1,x1.2.2.2))) x2),()))) (match (cond (S.comG ((x1.1.1,x1.1.2),(x1.2.1,(x1.2.2.1,x1.2.2.2))) x2) (some ((S.actsB (S.commit ((x1.1.1,x1.1.2),(x1.2.1,(x1.2.2.1,x1.2.2.2))) x2)).1,((S.actsB (S.commit ((x1.1.1,x1.1.2),(x1.2.1,(x1.2.2.1,x1.2.2.2))) x2)).2,()))) none) with|none=>none|some v0=>(cond (Bool.not v0.2.1) (some ([],((Int.ofNat 14),()))) (some (v0.1,((Int.ofNat 0),()))))))
def qpi(lf:Nat)(x1:qad)(x2:(List qaa)):Option qnt:=qxk lf x1 x2
theorem zbt{g:ElA [qag,(.list qac)]->Option qnt}(hsm:SmOK Try.prog [(30,qqv),(31,qsd)])(hg:∀(x:ElA [qag,(.list qac)]) (y:qnt),WfA [qag,(.list qac)] x->g x=some y->∃lf,qpi lf x.1 x.2.1=some y):Con Try.prog 16 ⟨[qag,(.list qac)],[(true,cAct),(false,(.int .i64))],g⟩ :=
 conU (fi:=fi16) (hxl:=[]) (fun lf x=>qpi lf x.1 x.2.1) cm3 zn2 trivial hsm hg
abbrev qlx:Type:=qad × Int × Unit
abbrev q9z:Nat:=18
def qz1(lf:Nat)(x1:qad)(x2:(List qaa)):Option qlx:=(cond (Bool.not (ieqI (S.plan ((x1.1.1,x1.1.2),(x1.2.1,(x1.2.2.1,x1.2.2.2))) x2).2 (Int.ofNat 0))) (some ((([],[]),((Int.ofNat 0),((Int.ofNat 0),[]))),((S.plan ((x1.1.1,x1.1.2),(x1.2.1,(x1.2.2.1,x1.2.2.2))) x2).2,()))) (match (cond (S.behG ((x1.1.1,x1.1.2),(x1.2.1,(x1.2.2.1,x1.2.2.2))) (S.plan ((x1.1.1,x1.1.2),(x1.2.1,(x1.2.2.1,x1.2.2.2))) x2).1) (some ((S.behind ((x1.1.1,x1.1.2),(x1.2.1,(x1.2.2.1,x1.2.2.2))) (S.plan ((x1.1.1,x1.1.2),(x1.2.1,(x1.2.2.1,x1.2.2.2))) x2).1).1,())) none) with|none=>none|some v0=>(some (((v0.1.1.1,v0.1.1.2),(v0.1.2.1,(v0.1.2.2.1,v0.1.2.2.2))),((Int.ofNat 0),())))))
def qo7(lf:Nat)(x1:qad)(x2:(List qaa)):Option qlx:=qz1 lf x1 x2
theorem zd0{g:ElA [qag,(.list qac)]->Option qlx}(hsm:SmOK Try.prog [(16,q1s),(26,qop)])(hg:∀(x:ElA [qag,(.list qac)]) (y:qlx),WfA [qag,(.list qac)] x->g x=some y->∃lf,qo7 lf x.1 x.2.1=some y):Con Try.prog 18 ⟨[qag,(.list qac)],[(false,qag),(false,(.int .i64))],g⟩ :=
 conU (fi:=fi18) (hxl:=[]) (fun lf x=>qo7 lf x.1 x.2.1) cm3 zbq trivial hsm hg
abbrev qm6:Type:=(List DAct) × Int × Unit
abbrev zlq:Nat:=8
def qzj(lf:Nat)(x1:qad):Option qm6:=(cond (Bool.not (ieqI (S.errR ((x1.1.1,x1.1.2),(x1.2.1,(x1.2.2.1,x1.2.2.2)))) (Int.ofNat 0))) (some ([],((S.errR ((x1.1.1,x1.1.2),(x1.2.1,(x1.2.2.1,x1.2.2.2)))),()))) (match (cond (S.turG ((x1.1.1,x1.1.2),(x1.2.1,(x1.2.2.1,x1.2.2.2)))) (some ((S.actsB (S.turn ((x1.1.1,x1.1.2),(x1.2.1,(x1.2.2.1,x1.2.2.2))))).1,((S.actsB (S.turn ((x1.1.1,x1.1.2),(x1.2.1,(x1.2.2.1,x1.2.2.2))))).2,()))) none) with|none=>none|some v0=>(cond (Bool.not v0.2.1) (some ([],((Int.ofNat 14),()))) (some (v0.1,((Int.ofNat 0),()))))))
def qmp(lf:Nat)(x1:qad):Option qm6:=qzj lf x1
theorem zfx{g:ElA [qag]->Option qm6}(hsm:SmOK Try.prog [(22,qor),(23,qqu)])(hg:∀(x:ElA [qag]) (y:qm6),WfA [qag] x->g x=some y->∃lf,qmp lf x.1=some y):Con Try.prog 8 ⟨[qag],[(true,cAct),(false,(.int .i64))],g⟩ :=
 conU (fi:=fi8) (hxl:=[]) (fun lf x=>qmp lf x.1) cm3 cal8 trivial hsm hg
abbrev qnu:Type:=qad × Int × Unit
abbrev zdp:Nat:=11
def q1r(lf:Nat)(x1:qad):Option qnu:=(cond (Bool.not (ieqI (S.planTurn ((x1.1.1,x1.1.2),(x1.2.1,(x1.2.2.1,x1.2.2.2)))).2 (Int.ofNat 0))) (some ((([],[]),((Int.ofNat 0),((Int.ofNat 0),[]))),((S.planTurn ((x1.1.1,x1.1.2),(x1.2.1,(x1.2.2.1,x1.2.2.2)))).2,()))) (match (cond (S.behG ((x1.1.1,x1.1.2),(x1.2.1,(x1.2.2.1,x1.2.2.2))) (S.planTurn ((x1.1.1,x1.1.2),(x1.2.1,(x1.2.2.1,x1.2.2.2)))).1) (some ((S.behind ((x1.1.1,x1.1.2),(x1.2.1,(x1.2.2.1,x1.2.2.2))) (S.planTurn ((x1.1.1,x1.1.2),(x1.2.1,(x1.2.2.1,x1.2.2.2)))).1).1,())) none) with|none=>none|some v0=>(some (((v0.1.1.1,v0.1.1.2),(v0.1.2.1,(v0.1.2.2.1,v0.1.2.2.2))),((Int.ofNat 0),())))))
def qmc(lf:Nat)(x1:qad):Option qnu:=q1r lf x1
theorem zkk{g:ElA [qag]->Option qnu}(hsm:SmOK Try.prog [(8,q13),(26,qop)])(hg:∀(x:ElA [qag]) (y:qnu),WfA [qag] x->g x=some y->∃lf,qmc lf x.1=some y):Con Try.prog 11 ⟨[qag],[(false,qag),(false,(.int .i64))],g⟩ :=
 conU (fi:=fi11) (hxl:=[]) (fun lf x=>qmc lf x.1) cm3 zcs trivial hsm hg
abbrev qpj:Type:=qad × Int × Unit
abbrev zkv:Nat:=17
def q4x(lf:Nat)(x1:qad)(x2:(List qaa)):Option qpj:=(cond (Bool.not (ieqI (S.asked ((x1.1.1,x1.1.2),(x1.2.1,(x1.2.2.1,x1.2.2.2))) x2) (Int.ofNat 0))) (some ((([],[]),((Int.ofNat 0),((Int.ofNat 0),[]))),((S.asked ((x1.1.1,x1.1.2),(x1.2.1,(x1.2.2.1,x1.2.2.2))) x2),()))) (match (cond (S.comG ((x1.1.1,x1.1.2),(x1.2.1,(x1.2.2.1,x1.2.2.2))) x2) (some ((S.actsB (S.commit ((x1.1.1,x1.1.2),(x1.2.1,(x1.2.2.1,x1.2.2.2))) x2)).1,((S.actsB (S.commit ((x1.1.1,x1.1.2),(x1.2.1,(x1.2.2.1,x1.2.2.2))) x2)).2,()))) none) with|none=>none|some v0=>(cond v0.2.1 (match (cond (S.behG ((x1.1.1,x1.1.2),(x1.2.1,(x1.2.2.1,x1.2.2.2))) v0.1) (some ((S.behind ((x1.1.1,x1.1.2),(x1.2.1,(x1.2.2.1,x1.2.2.2))) v0.1).1,())) none) with|none=>none|some v1=>(some (((v1.1.1.1,v1.1.1.2),(v1.1.2.1,(v1.1.2.2.1,v1.1.2.2.2))),((Int.ofNat 0),())))) (match (cond (S.turG ((x1.1.1,x1.1.2),(x1.2.1,(x1.2.2.1,x1.2.2.2)))) (some ((S.actsB (S.turn ((x1.1.1,x1.1.2),(x1.2.1,(x1.2.2.1,x1.2.2.2))))).1,((S.actsB (S.turn ((x1.1.1,x1.1.2),(x1.2.1,(x1.2.2.1,x1.2.2.2))))).2,()))) none) with|none=>none|some v2=>(cond (Bool.not v2.2.1) (some ((([],[]),((Int.ofNat 0),((Int.ofNat 0),[]))),((Int.ofNat 14),()))) (match (cond (S.behG ((x1.1.1,x1.1.2),(x1.2.1,(x1.2.2.1,x1.2.2.2))) v2.1) (some ((S.behind ((x1.1.1,x1.1.2),(x1.2.1,(x1.2.2.1,x1.2.2.2))) v2.1).1,())) none) with|none=>none|some v3=>(match (cond (S.comG ((v3.1.1.1,v3.1.1.2),(v3.1.2.1,(v3.1.2.2.1,v3.1.2.2.2))) x2) (some ((S.actsB (S.commit ((v3.1.1.1,v3.1.1.2),(v3.1.2.1,(v3.1.2.2.1,v3.1.2.2.2))) x2)).1,((S.actsB (S.commit ((v3.1.1.1,v3.1.1.2),(v3.1.2.1,(v3.1.2.2.1,v3.1.2.2.2))) x2)).2,()))) none) with|none=>none|some v4=>(cond (Bool.not v4.2.1) (some ((([],[]),((Int.ofNat 0),((Int.ofNat 0),[]))),((Int.ofNat 14),()))) (match (cond (S.behG ((v3.1.1.1,v3.1.1.2),(v3.1.2.1,(v3.1.2.2.1,v3.1.2.2.2))) v4.1) (some ((S.behind ((v3.1.1.1,v3.1.1.2),(v3.1.2.1,(v3.1.2.2.1,v3.1.2.2.2))) v4.1).1,())) none) with|none=>none|some v5=>(some (((v5.1.1.1,v5.1.1.2),(v5.1.2.1,(v5.1.2.2.1,v5.1.2.2.2))),((Int.ofNat 0),()))))))))))))
def qnj(lf:Nat)(x1:qad)(x2:(List qaa)):Option qpj:=q4x lf x1 x2
theorem ze3{g:ElA [qag,(.list qac)]->Option qpj}(hsm:SmOK Try.prog [(30,qqv),(31,qsd),(23,qqu),(26,qop)])(hg:∀(x:ElA [qag,(.list qac)]) (y:qpj),WfA [qag,(.list qac)] x->g x=some y->∃lf,qnj lf x.1 x.2.1=some y):Con Try.prog 17 ⟨[qag,(.list qac)],[(false,qag),(false,(.int .i64))],g⟩ :=
 conU (fi:=fi17) (hxl:=[]) (fun lf x=>qnj lf x.1 x.2.1) cm3 zoq trivial hsm hg
abbrev qnl:Type:=qad × Int × Unit
abbrev zau:Nat:=10
def q3q(lf:Nat)(x1:qah):Option qnl:=(cond (Bool.not (ieqI (S.checkDisk (x1.1,x1.2)) (Int.ofNat 0))) (some ((([],[]),((Int.ofNat 0),((Int.ofNat 0),[]))),((S.checkDisk (x1.1,x1.2)),()))) (cond (iltI (Int.ofNat 0) (Int.ofNat x1.2.length)) (some ((([],[]),((Int.ofNat 0),((Int.ofNat 0),[]))),((Int.ofNat 12),()))) (match (cond (S.okL (x1.1,x1.2)) (some ((S.openedJ (x1.1,x1.2)).1,((S.openedJ (x1.1,x1.2)).2,()))) none) with|none=>none|some v0=>(cond (Bool.not v0.2.1) (some ((([],[]),((Int.ofNat 0),((Int.ofNat 0),[]))),((Int.ofNat 15),()))) (some (((v0.1.1.1,v0.1.1.2),(v0.1.2.1,(v0.1.2.2.1,v0.1.2.2.2))),((Int.ofNat 0),())))))))
def ql9(lf:Nat)(x1:qah):Option qnl:=q3q lf x1
theorem zf5{g:ElA [qan]->Option qnl}(hsm:SmOK Try.prog [(24,qii),(25,qgd)])(hg:∀(x:ElA [qan]) (y:qnl),WfA [qan] x->g x=some y->∃lf,ql9 lf x.1=some y):Con Try.prog 10 ⟨[qan],[(false,qag),(false,(.int .i64))],g⟩ :=
 conU (fi:=fi10) (hxl:=[]) (fun lf x=>ql9 lf x.1) cm3 zbm trivial hsm hg
def nmz2:Nat->Option Nm:=fun k=>cond (Nat.beq k 1) (some ⟨[0,1,8,9,10],[],[],[],[],0,0,false⟩) (cond (Nat.beq k 999999) (some ⟨[],[],[],[],[],0,0,false⟩) none)
def stz2:Nat->Bool:=fun k=>cond (Nat.beq k 1) true (false)
def hdz2:=stz2
abbrev Rtz2:Type:=(Unit) × ((List DAct) × Unit) × Unit
def qr0:List (Nat × Sm):=[]
def qr7:List (Nat × Hx):=[]
def clz2(R:Type)(lf:Nat):ClK R:=qa4 Try.prog ttT.get ftT.get (fun _ _=>none) (smL qr0) (hxL qr7) lf 20 R
abbrev idz2:Nat:=42
def qhy(x1:(List DAct))(x2:Int)(x3:(List ByteArray))(p:Int × (List DAct)):NRes:=(NRes.mk (.node (some (IV.ptr 0 0)) (.node (some (IV.int .i64 x2)) .leaf (.node none (.node (some (IV.int .i64 (Int.ofNat x3.length))) .leaf .leaf) .leaf)) (.node none (.node none (.node (some (IV.lst TC.str x3)) .leaf .leaf) .leaf) (.node none (.node (some (IV.int .i64 p.1)) .leaf .leaf) .leaf))) (IS.mk (.node (some (IObj.row [(IV.arr 1)])) (.node (some (IObj.arr cAct p.2)) .leaf .leaf) .leaf) 2) [] 0)
def qum(lf:Nat)(x1:(List DAct))(x2:Int)(x3:(List ByteArray))(L1:(Int × (List DAct))->Option Rtz2):Option Rtz2:=(L1 ((Int.ofNat 0),x1))
def qhr(lf:Nat)(x1:(List DAct))(x2:Int)(x3:(List ByteArray))(L1:(Int × (List DAct))->Option Rtz2)(p:Int × (List DAct)):Option Rtz2:=(cond (iltI p.1 (Int.ofNat x3.length)) (match (jget x3 p.1) with|none=>none|some v0=>(cond (Nat.ble (Nat.mul (Nat.add p.2.length 1) 32) 140737488355328) (L1 ((IntKind.i64.wrap (Int.add p.1 (Int.ofNat 1))),(List.append p.2 (List.cons (false,((IntKind.i64.wrap (Int.add x2 p.1)),v0)) [])))) none)) (some ((),((p.2,()),()))))
abbrev gz2:Type:=ElP [.ref (.box [.arr cAct]),.dat (.int .i64),.dat (.list .str)]->Option Rtz2
abbrev sz2(g:gz2):SmR:=⟨[.ref (.box [.arr cAct]),.dat (.int .i64),.dat (.list .str)],[],g⟩
abbrev Ez2(g:gz2)(J:JT Rtz2)(lf:Nat)(x1:(List DAct))(x2:Int)(x3:(List ByteArray)):=qb2 Try.prog ttT.get nmz2 (mP [.ref (.box [.arr cAct]),.dat (.int .i64),.dat (.list .str)]) fi42.nt (clz2 _ lf) lf stz2 J fi42.body [] (qa0 (qaq [.ref (.box [.arr cAct]),.dat (.int .i64),.dat (.list .str)] idN 0 ((x1,()),x2,x3,())) 0 .leaf) (Sc [.ref (.box [.arr cAct]),.dat (.int .i64),.dat (.list .str)] ((x1,()),x2,x3,())) [] (qdx ttT.get fi42 (sz2 g))
abbrev Bz2(g:gz2)(J:JT Rtz2)(lf k:Nat)(ms:List Nat)(q:NRes):=qb9 Try.prog ttT.get nmz2 (mP [.ref (.box [.arr cAct]),.dat (.int .i64),.dat (.list .str)]) fi42.nt (clz2 _ lf) lf stz2 J k fi42.body [] ms q (qdx ttT.get fi42 (sz2 g))
theorem inz2(g:gz2)(J:JT Rtz2)(lf:Nat)(x1:(List DAct))(x2:Int)(x3:(List ByteArray)):Ez2 g J lf x1 x2 x3=qum lf x1 x2 x3 (fun q=>J 1 [lf] (qhy x1 x2 x3 q)):=by kernel_rfl
theorem zga(g:gz2)(J:JT Rtz2)(lf:Nat)(x1:(List DAct))(x2:Int)(x3:(List ByteArray))(m1:Nat)(p:Int × (List DAct)):Bz2 g J lf 1 [m1] (qhy x1 x2 x3 p)=qhr lf x1 x2 x3 (fun q=>J 1 [m1] (qhy x1 x2 x3 q)) p:=by kernel_rfl
theorem ndz2:(regs fi42.body).Nodup:=by decide +kernel
theorem okz2:okC nmz2 stz2 hdz2 fi42.body none=true:=by kernel_rfl
def Az2(g:gz2)(lf:Nat):JT Rtz2:=atQ Try.prog ttT.get nmz2 fi42 (sz2 g) (clz2 _ lf) lf hdz2
def qgj(lf:Nat)(x1:(List DAct))(x2:Int)(x3:(List ByteArray)):Nat->(Int × (List DAct))->Option Rtz2:=qa9 fun K p=>qhr lf x1 x2 x3 K p
theorem qzn(g:gz2)(lf:Nat)(x1:(List DAct))(x2:Int)(x3:(List ByteArray)):∀(n:Nat) (p:Int × (List DAct)),Az2 g lf 1 [n] (qhy x1 x2 x3 p)=qgj lf x1 x2 x3 n p
 | 0,p=>qxt 1 [0] rfl _
 | n+1,p=>by
  have ih:=qzn g lf x1 x2 x3 n;refine(qyi rfl (qbh 20 _) ndz2 okz2 1 [n+1] [n] rfl _).trans ((zga g (Az2 g lf) lf x1 x2 x3 n p).trans ?_);rw[(show (fun q=>Az2 g lf 1 [n] (qhy x1 x2 x3 q))=(fun q=>qgj lf x1 x2 x3 n q) from funext ih)];rfl
def Fz2(lf:Nat)(x1:(List DAct))(x2:Int)(x3:(List ByteArray)):Option Rtz2:=qum lf x1 x2 x3 (fun q=>qgj lf x1 x2 x3 lf q)
theorem zfg(g:gz2)(lf:Nat)(x1:(List DAct))(x2:Int)(x3:(List ByteArray)):Ez2 g (Az2 g lf) lf x1 x2 x3=Fz2 lf x1 x2 x3:=by
  refine(inz2 g (Az2 g lf) lf x1 x2 x3).trans ?_;rw[(show (fun q=>Az2 g lf 1 [lf] (qhy x1 x2 x3 q))=(fun q=>qgj lf x1 x2 x3 lf q) from funext fun q=>qzn g lf x1 x2 x3 lf q)];rfl
theorem zno:qbi Try.prog qr7:=trivial
theorem mkz2{g:gz2}(hsm:SmOK Try.prog qr0)(hg:∀(x:ElP [.ref (.box [.arr cAct]),.dat (.int .i64),.dat (.list .str)]) (y:Rtz2),WfP [.ref (.box [.arr cAct]),.dat (.int .i64),.dat (.list .str)] x->g x=some y->∃lf,Fz2 lf x.1.1 x.2.1 x.2.2.1=some y):ConR Try.prog 42 ⟨[.ref (.box [.arr cAct]),.dat (.int .i64),.dat (.list .str)],[],g⟩ :=
 conTR (nmf:=nmz2) (sml:=qr0) (hxl:=qr7) (st:=stz2) (hd:=hdz2) 20 mixed ttOK ftOK hsm zno zbu (by kernel_rfl) (fun x=>by kernel_rfl) ndz2 okz2 fun x y z hx hy=>by
  obtain⟨lf,h⟩:=hg x (y,z) hx hy;exact⟨lf,(zfg g lf x.1.1 x.2.1 x.2.2.1).trans h⟩
def nmz3:Nat->Option Nm:=fun k=>cond (Nat.beq k 999999) (some ⟨[],[],[],[],[],0,0,false⟩) none
def stz3:Nat->Bool:=fun k=>false
def hdz3:=stz3
abbrev Rtz3:Type:=(Unit) × ((List DAct) × Unit) × Unit
def qsa:List (Nat × Sm):=[]
def qvu:List (Nat × Hx):=[]
def clz3(R:Type)(lf:Nat):ClK R:=qa4 Try.prog ttT.get ftT.get (fun _ _=>none) (smL qsa) (hxL qvu) lf 20 R
abbrev idz3:Nat:=45
def qsb(lf:Nat)(x1:(List DAct)):Option Rtz3:=(cond (Nat.ble (Nat.mul (Nat.add x1.length 1) 32) 140737488355328) (some ((),(((List.append x1 (List.cons (true,((Int.ofNat 0),(S.lit []))) [])),()),()))) none)
abbrev gz3:Type:=ElP [.ref (.box [.arr cAct])]->Option Rtz3
abbrev sz3(g:gz3):SmR:=⟨[.ref (.box [.arr cAct])],[],g⟩
abbrev Ez3(g:gz3)(J:JT Rtz3)(lf:Nat)(x1:(List DAct)):=qb2 Try.prog ttT.get nmz3 (mP [.ref (.box [.arr cAct])]) fi45.nt (clz3 _ lf) lf stz3 J fi45.body [] (qa0 (qaq [.ref (.box [.arr cAct])] idN 0 ((x1,()),())) 0 .leaf) (Sc [.ref (.box [.arr cAct])] ((x1,()),())) [] (qdx ttT.get fi45 (sz3 g))
theorem inz3(g:gz3)(J:JT Rtz3)(lf:Nat)(x1:(List DAct)):Ez3 g J lf x1=qsb lf x1:=by kernel_rfl
theorem ndz3:(regs fi45.body).Nodup:=by decide +kernel
theorem okz3:okC nmz3 stz3 hdz3 fi45.body none=true:=by kernel_rfl
def Az3(g:gz3)(lf:Nat):JT Rtz3:=atQ Try.prog ttT.get nmz3 fi45 (sz3 g) (clz3 _ lf) lf hdz3
def Fz3(lf:Nat)(x1:(List DAct)):Option Rtz3:=qsb lf x1
theorem zez(g:gz3)(lf:Nat)(x1:(List DAct)):Ez3 g (Az3 g lf) lf x1=Fz3 lf x1:=by
  refine(inz3 g (Az3 g lf) lf x1).trans ?_;rfl
theorem zo5:qbi Try.prog qvu:=trivial
theorem mkz3{g:gz3}(hsm:SmOK Try.prog qsa)(hg:∀(x:ElP [.ref (.box [.arr cAct])]) (y:Rtz3),WfP [.ref (.box [.arr cAct])] x->g x=some y->∃lf,Fz3 lf x.1.1=some y):ConR Try.prog 45 ⟨[.ref (.box [.arr cAct])],[],g⟩ :=
 conTR (nmf:=nmz3) (sml:=qsa) (hxl:=qvu) (st:=stz3) (hd:=hdz3) 20 mixed ttOK ftOK hsm zo5 zl7 (by kernel_rfl) (fun x=>by kernel_rfl) ndz3 okz3 fun x y z hx hy=>by
  obtain⟨lf,h⟩:=hg x (y,z) hx hy;exact⟨lf,(zez g lf x.1.1).trans h⟩
def q3v:List (Nat × Hx):=[(42,hxR spz2),(45,hxR spz3)]
abbrev qoh:Type:=(List DAct) × Int × Unit
abbrev ze7:Nat:=33
def q4t(lf:Nat)(x1:qah):Option qoh:=(cond (Bool.not (ieqI (S.checkDisk (x1.1,x1.2)) (Int.ofNat 0))) (some ([],((S.checkDisk (x1.1,x1.2)),()))) (cond (iltI (Int.ofNat 0) (Int.ofNat x1.2.length)) (some ([],((Int.ofNat 12),()))) (match (cond true (some ((),(((S.app (S.app [] (S.puts (Int.ofNat 1) (List.cons S.blank [S.blank]))) [S.sync]),()),()))) none) with|none=>none|some v0=>(match (cond (S.pk []) (some ((S.packed [] (Int.ofNat 1)),())) none) with|none=>none|some v1=>(match (cond (Bool.and (S.inI (Int.ofNat 1) (Int.ofNat 0) (Int.ofNat 1000000)) (Bool.and (Nat.ble v1.1.length 1000000) (Nat.ble (S.lenA v0.2.1.1) 1000000))) (some ((),(((S.app v0.2.1.1 (S.puts (Int.ofNat 1) v1.1)),()),()))) none) with|none=>none|some v2=>(match (cond (Nat.ble (S.lenA v2.2.1.1) 4000000) (some ((),(((S.app v2.2.1.1 [S.sync]),()),()))) none) with|none=>none|some v3=>(match (cond (Bool.and (S.inI (Int.ofNat 0) (Int.ofNat 0) (Int.ofNat 1000000)) (Nat.ble (S.lenA v3.2.1.1) 1000000)) (some ((),(((S.app v3.2.1.1 (S.puts (Int.ofNat 0) [S.blank])),()),()))) none) with|none=>none|some v4=>(match (cond (Nat.ble (S.lenA v4.2.1.1) 4000000) (some ((),(((S.app v4.2.1.1 [S.sync]),()),()))) none) with|none=>none|some v5=>(some (v5.2.1.1,((Int.ofNat 0),())))))))))))
def qpl(lf:Nat)(x1:qah):Option qoh:=q4t lf x1
theorem zio(hrz2:ConR Try.prog 42 spz2)(hrz3:ConR Try.prog 45 spz3):qbi Try.prog q3v:=⟨qfl hrz2,⟨qfl hrz3,trivial⟩⟩
theorem zeg{g:ElA [qan]->Option qoh}(hsm:SmOK Try.prog [(24,qii),(44,qm1),(28,spz8)])(hrz2:ConR Try.prog 42 spz2)(hrz3:ConR Try.prog 45 spz3)(hg:∀(x:ElA [qan]) (y:qoh),WfA [qan] x->g x=some y->∃lf,qpl lf x.1=some y):Con Try.prog 33 ⟨[qan],[(true,cAct),(false,(.int .i64))],g⟩ :=
 conU (fi:=fi33) (hxl:=q3v) (fun lf x=>qpl lf x.1) cm3 zhp (zio hrz2 hrz3) hsm hg
def nmz4:Nat->Option Nm:=fun k=>cond (Nat.beq k 6) (some ⟨[4,7,23,24,25],[],[(7,0,.str),(7,1,cPut)],[],[],0,0,false⟩) (none)
def stz4:Nat->Bool:=fun k=>cond (Nat.beq k 6) true (false)
def hdz4:=stz4
abbrev Rtz4:Type:=qah × Int × Unit
def q46:List (Nat × Sm):=[(24,qii),(27,qip),(36,qrq),(37,spz6),(34,qkt),(35,qz7)]
def qxn:List (Nat × Hx):=[]
def clz4(R:Type)(lf:Nat):ClK R:=qa4 Try.prog ttT.get ftT.get (nm1 20 nmz4) (smL q46) (hxL qxn) lf 20 R
abbrev idz4:Nat:=20
def qh1(x1:qah)(x2:q2b)(p:Int × (List DPut) × (List ByteArray)):NRes:=(NRes.mk (.node none (.node none (.node none (.node (some (IV.ptr 1 0)) .leaf (.node (some (IV.lst cAct x2)) .leaf .leaf)) .leaf) (.node none (.node none .leaf (.node (some (IV.int .i64 p.1)) .leaf .leaf)) .leaf)) (.node none (.node (some (IV.ptr 0 0)) (.node none .leaf (.node (some (IV.int .i64 (Int.ofNat x2.length))) .leaf .leaf)) .leaf) .leaf)) (IS.mk (.node (some (IObj.row (List.cons IV.nilsl [IV.nilsl]))) (.node (some (IObj.row (List.cons (IV.arr 2) [(IV.arr 3)]))) (.node (some (IObj.arr cPut p.2.1)) .leaf .leaf) .leaf) (.node (some (IObj.arr TC.str p.2.2)) .leaf .leaf)) 4) [] 0)
def qqk(lf:Nat)(x1:qah)(x2:(List DAct))(L6:(Int × (List DPut) × (List ByteArray))->Option Rtz4):Option Rtz4:=(cond (Bool.not (ieqI (S.checkDisk (x1.1,x1.2)) (Int.ofNat 0))) (some (([],[]),((S.checkDisk (x1.1,x1.2)),()))) (L6 ((Int.ofNat 0),x1.2,x1.1)))
def qmq(lf:Nat)(x1:qah)(x2:(List DAct))(L6:(Int × (List DPut) × (List ByteArray))->Option Rtz4)(p:Int × (List DPut) × (List ByteArray)):Option Rtz4:=(cond (iltI p.1 (Int.ofNat x2.length)) (match (jget x2 p.1) with|none=>none|some v0=>(cond v0.1 (cond (Bool.not (Bool.and (keqI v0.2.1 (Int.ofNat 0)) (Bool.and (keqS v0.2.2 (S.lit [])) true))) (cond (Bool.not (Bool.and (keqI v0.2.1 (Int.ofNat 0)) (Bool.and (keqS v0.2.2 (S.lit [])) true))) (some (([],[]),((Int.ofNat 1),()))) (cond v0.1 (match (cond (S.fitP p.2.2 p.2.1) (some ((S.settled p.2.2 p.2.1),())) none) with|none=>none|some v1=>(L6 ((IntKind.i64.wrap (Int.add p.1 (Int.ofNat 1))),[],v1.1))) (cond (ieqI (Int.ofNat p.2.1.length) (Int.ofNat 4000)) (some (([],[]),((Int.ofNat 3),()))) (cond (Nat.ble (Nat.mul (Nat.add p.2.1.length 1) 24) 140737488355328) (L6 ((IntKind.i64.wrap (Int.add p.1 (Int.ofNat 1))),(List.append p.2.1 [(v0.2.1,v0.2.2)]),p.2.2)) none)))) (cond (Bool.not v0.1) (cond (S.short v0.2.2) (some (([],[]),((Int.ofNat 1),()))) (cond (Bool.not (S.inI v0.2.1 (Int.ofNat 0) (IntKind.i64.wrap (Int.sub (Int.ofNat p.2.2.length) (Int.ofNat 1))))) (some (([],[]),((Int.ofNat 1),()))) (cond v0.1 (match (cond (S.fitP p.2.2 p.2.1) (some ((S.settled p.2.2 p.2.1),())) none) with|none=>none|some v27=>(L6 ((IntKind.i64.wrap (Int.add p.1 (Int.ofNat 1))),[],v27.1))) (cond (ieqI (Int.ofNat p.2.1.length) (Int.ofNat 4000)) (some (([],[]),((Int.ofNat 3),()))) (cond (Nat.ble (Nat.mul (Nat.add p.2.1.length 1) 24) 140737488355328) (L6 ((IntKind.i64.wrap (Int.add p.1 (Int.ofNat 1))),(List.append p.2.1 [(v0.2.1,v0.2.2)]),p.2.2)) none))))) (cond v0.1 (match (cond (S.fitP p.2.2 p.2.1) (some ((S.settled p.2.2 p.2.1),())) none) with|none=>none|some v28=>(L6 ((IntKind.i64.wrap (Int.add p.1 (Int.ofNat 1))),[],v28.1))) (cond (ieqI (Int.ofNat p.2.1.length) (Int.ofNat 4000)) (some (([],[]),((Int.ofNat 3),()))) (cond (Nat.ble (Nat.mul (Nat.add p.2.1.length 1) 24) 140737488355328) (L6 ((IntKind.i64.wrap (Int.add p.1 (Int.ofNat 1))),(List.append p.2.1 [(v0.2.1,v0.2.2)]),p.2.2)) none))))) (cond (Bool.not v0.1) (cond (S.short v0.2.2) (some (([],[]),((Int.ofNat 1),()))) (cond (Bool.not (S.inI v0.2.1 (Int.ofNat 0) (IntKind.i64.wrap (Int.sub (Int.ofNat p.2.2.length) (Int.ofNat 1))))) (some (([],[]),((Int.ofNat 1),()))) (cond v0.1 (match (cond (S.fitP p.2.2 p.2.1) (some ((S.settled p.2.2 p.2.1),())) none) with|none=>none|some v29=>(L6 ((IntKind.i64.wrap (Int.add p.1 (Int.ofNat 1))),[],v29.1))) (cond (ieqI (Int.ofNat p.2.1.length) (Int.ofNat 4000)) (some (([],[]),((Int.ofNat 3),()))) (cond (Nat.ble (Nat.mul (Nat.add p.2.1.length 1) 24) 140737488355328) (L6 ((IntKind.i64.wrap (Int.add p.1 (Int.ofNat 1))),(List.append p.2.1 [(v0.2.1,v0.2.2)]),p.2.2)) none))))) (cond v0.1 (match (cond (S.fitP p.2.2 p.2.1) (some ((S.settled p.2.2 p.2.1),())) none) with|none=>none|some v30=>(L6 ((IntKind.i64.wrap (Int.add p.1 (Int.ofNat 1))),[],v30.1))) (cond (ieqI (Int.ofNat p.2.1.length) (Int.ofNat 4000)) (some (([],[]),((Int.ofNat 3),()))) (cond (Nat.ble (Nat.mul (Nat.add p.2.1.length 1) 24) 140737488355328) (L6 ((IntKind.i64.wrap (Int.add p.1 (Int.ofNat 1))),(List.append p.2.1 [(v0.2.1,v0.2.2)]),p.2.2)) none)))))) (some ((p.2.2,p.2.1),((Int.ofNat 0),()))))
abbrev gz4:Type:=ElA [qan,(.list cAct)]->Option Rtz4
abbrev sz4(g:gz4):Sm:=⟨[qan,(.list cAct)],[(false,qan),(false,(.int .i64))],g⟩
abbrev Ez4(g:gz4)(J:JT Rtz4)(lf:Nat)(x1:qah)(x2:(List DAct)):=qb5 Try.prog ttT.get nmz4 fi20.nt (clz4 _ lf) lf stz4 J fi20.body [] (qa0 (argV [qan,(.list cAct)] (x1,x2,())) 0 .leaf) S0 [] (qa1 ttT.get fi20 (sz4 g))
abbrev Bz4(g:gz4)(J:JT Rtz4)(lf k:Nat)(ms:List Nat)(q:NRes):=qcm Try.prog ttT.get nmz4 fi20.nt (clz4 _ lf) lf stz4 J k fi20.body [] ms q (qa1 ttT.get fi20 (sz4 g))
theorem inz4(g:gz4)(J:JT Rtz4)(lf:Nat)(x1:qah)(x2:(List DAct)):Ez4 g J lf x1 x2=qqk lf x1 x2 (fun q=>J 6 [lf] (qh1 x1 x2 q)):=by kernel_rfl
theorem q7t(g:gz4)(J:JT Rtz4)(lf:Nat)(x1:qah)(x2:(List DAct))(m1:Nat)(p:Int × (List DPut) × (List ByteArray)):Bz4 g J lf 6 [m1] (qh1 x1 x2 p)=qmq lf x1 x2 (fun q=>J 6 [m1] (qh1 x1 x2 q)) p:=by kernel_rfl
theorem ndz4:(regs fi20.body).Nodup:=by decide +kernel
theorem okz4:okC nmz4 stz4 hdz4 fi20.body none=true:=by kernel_rfl
def Az4(g:gz4)(lf:Nat):JT Rtz4:=atN Try.prog ttT.get nmz4 fi20 (sz4 g) (clz4 _ lf) lf hdz4
def qnw(lf:Nat)(x1:qah)(x2:(List DAct)):Nat->(Int × (List DPut) × (List ByteArray))->Option Rtz4:=qa9 fun K p=>qmq lf x1 x2 K p
theorem qyo(g:gz4)(lf:Nat)(x1:qah)(x2:(List DAct)):∀(n:Nat) (p:Int × (List DPut) × (List ByteArray)),Az4 g lf 6 [n] (qh1 x1 x2 p)=qnw lf x1 x2 n p
 | 0,p=>qb4 6 [0] rfl _
 | n+1,p=>by
  have ih:=qyo g lf x1 x2 n;refine(qb6 (qbh 20 _) ndz4 okz4 6 [n+1] [n] rfl _).trans ((q7t g (Az4 g lf) lf x1 x2 n p).trans ?_);rw[(show (fun q=>Az4 g lf 6 [n] (qh1 x1 x2 q))=(fun q=>qnw lf x1 x2 n q) from funext ih)];rfl
def Fz4(lf:Nat)(x1:qah)(x2:(List DAct)):Option Rtz4:=qqk lf x1 x2 (fun q=>qnw lf x1 x2 lf q)
theorem zjc(g:gz4)(lf:Nat)(x1:qah)(x2:(List DAct)):Ez4 g (Az4 g lf) lf x1 x2=Fz4 lf x1 x2:=by
  refine(inz4 g (Az4 g lf) lf x1 x2).trans ?_;rw[(show (fun q=>Az4 g lf 6 [lf] (qh1 x1 x2 q))=(fun q=>qnw lf x1 x2 lf q) from funext fun q=>qyo g lf x1 x2 lf q)];rfl
theorem zhw:qbi Try.prog qxn:=trivial
theorem mkz4{g:gz4}(hsm:SmOK Try.prog q46)(hg:∀(x:ElA [qan,(.list cAct)]) (y:Rtz4),WfA [qan,(.list cAct)] x->g x=some y->∃lf,Fz4 lf x.1 x.2.1=some y):Con Try.prog 20 ⟨[qan,(.list cAct)],[(false,qan),(false,(.int .i64))],g⟩ :=
 conV (st:=stz4) (fun lf x=>Fz4 lf x.1 x.2.1) cm3 q7j zhw ndz4 okz4 (fun lf x=>zjc g lf x.1 x.2.1) hsm hg
def nmz5:Nat->Option Nm:=fun k=>cond (Nat.beq k 8) (some ⟨[2,4,7,32,33,34],[],[(7,0,.str)],[],[],0,0,false⟩) (none)
def stz5:Nat->Bool:=fun k=>cond (Nat.beq k 8) true (false)
def hdz5:=stz5
abbrev Rtz5:Type:=qah × Int × Unit
def q6c:List (Nat × Sm):=[(24,qii),(27,qip),(34,qkt)]
def qyt:List (Nat × Hx):=[(57,qp3 (.int .i64))]
def clz5(R:Type)(lf:Nat):ClK R:=qa4 Try.prog ttT.get ftT.get (nm1 21 nmz5) (smL q6c) (hxL qyt) lf 20 R
abbrev idz5:Nat:=21
def qhq(x1:qah)(x2:(List Int))(p:Int × (List ByteArray)):NRes:=(NRes.mk (.node none (.node none (.node none (.node (some (IV.ptr 2 0)) .leaf .leaf) .leaf) (.node none (.node none (.node none (.node (some (IV.int .i64 (Int.ofNat x2.length))) .leaf .leaf) .leaf) .leaf) .leaf)) (.node (some (IV.ptr 0 0)) (.node (some (IV.ptr 1 0)) (.node none (.node none (.node (some (IV.lst (TC.int .i64) x2)) .leaf .leaf) .leaf) .leaf) .leaf) (.node none (.node none (.node none (.node (some (IV.int .i64 p.1)) .leaf .leaf) .leaf) .leaf) .leaf))) (IS.mk (.node (some (IObj.row (List.cons (IV.lst TC.str x1.1) [(IV.lst cPut x1.2)]))) (.node (some (IObj.row (List.cons IV.nilsl [IV.nilsl]))) (.node (some (IObj.arr TC.str p.2)) .leaf .leaf) .leaf) (.node (some (IObj.row (List.cons (IV.arr 3) [IV.nilsl]))) .leaf .leaf)) 4) [] 0)
def qr8(lf:Nat)(x1:qah)(x2:(List Int))(L8:(Int × (List ByteArray))->Option Rtz5):Option Rtz5:=(cond (Bool.not (ieqI (S.checkDisk (x1.1,x1.2)) (Int.ofNat 0))) (some (([],[]),((S.checkDisk (x1.1,x1.2)),()))) (cond (iltI (Int.ofNat x1.2.length) (Int.ofNat x2.length)) (some (([],[]),((Int.ofNat 1),()))) (match (idxO (fun v0=>(some (Bool.not (S.inI v0 (Int.ofNat 0) (Int.ofNat 64))))) x2 0) with|none=>none|some v1=>(cond (Bool.not (iltI v1 (Int.ofNat 0))) (some (([],[]),((Int.ofNat 1),()))) (L8 ((Int.ofNat 0),x1.1))))))
def qmb(lf:Nat)(x1:qah)(x2:(List Int))(L8:(Int × (List ByteArray))->Option Rtz5)(p:Int × (List ByteArray)):Option Rtz5:=(cond (iltI p.1 (Int.ofNat x2.length)) (match (jget x2 p.1) with|none=>none|some v0=>(match (jget x1.2 p.1) with|none=>none|some v1=>(cond (lchk (Int.ofNat 0) v0 (Int.ofNat v1.2.size) (Int.ofNat v1.2.size)) (match (jget p.2 v1.1) with|none=>none|some v2=>(match (GetElem?.getElem? p.2 (Int.toNat v1.1)) with|none=>none|some v3=>(cond (lchk v0 (Int.ofNat v3.size) (Int.ofNat v3.size) (Int.ofNat v3.size)) (cond (Nat.ble (Nat.succ (Nat.add (ByteArray.size (ByteArray.extract v1.2 0 (Int.toNat v0))) (ByteArray.size (ByteArray.extract v3 (Int.toNat v0) (Int.toNat (Int.ofNat v3.size)))))) 9223372036854775808) (match (jget p.2 v1.1) with|none=>none|some v4=>(match (GetElem?.getElem? p.2 (Int.toNat v1.1)) with|none=>none|some v5=>(L8 ((IntKind.i64.wrap (Int.add p.1 (Int.ofNat 1))),(List.set p.2 (Int.toNat v1.1) (ByteArray.append (ByteArray.extract v1.2 0 (Int.toNat v0)) (ByteArray.extract v3 (Int.toNat v0) (Int.toNat (Int.ofNat v3.size))))))))) none) none))) none))) (some ((p.2,[]),((Int.ofNat 0),()))))
abbrev gz5:Type:=ElA [qan,(.list (.int .i64))]->Option Rtz5
abbrev sz5(g:gz5):Sm:=⟨[qan,(.list (.int .i64))],[(false,qan),(false,(.int .i64))],g⟩
abbrev Ez5(g:gz5)(J:JT Rtz5)(lf:Nat)(x1:qah)(x2:(List Int)):=qb5 Try.prog ttT.get nmz5 fi21.nt (clz5 _ lf) lf stz5 J fi21.body [] (qa0 (argV [qan,(.list (.int .i64))] (x1,x2,())) 0 .leaf) S0 [] (qa1 ttT.get fi21 (sz5 g))
abbrev Bz5(g:gz5)(J:JT Rtz5)(lf k:Nat)(ms:List Nat)(q:NRes):=qcm Try.prog ttT.get nmz5 fi21.nt (clz5 _ lf) lf stz5 J k fi21.body [] ms q (qa1 ttT.get fi21 (sz5 g))
theorem inz5(g:gz5)(J:JT Rtz5)(lf:Nat)(x1:qah)(x2:(List Int)):Ez5 g J lf x1 x2=qr8 lf x1 x2 (fun q=>J 8 [lf] (qhq x1 x2 q)):=by kernel_rfl
theorem zg5(g:gz5)(J:JT Rtz5)(lf:Nat)(x1:qah)(x2:(List Int))(m1:Nat)(p:Int × (List ByteArray)):Bz5 g J lf 8 [m1] (qhq x1 x2 p)=qmb lf x1 x2 (fun q=>J 8 [m1] (qhq x1 x2 q)) p:=by kernel_rfl
theorem ndz5:(regs fi21.body).Nodup:=by decide +kernel
theorem okz5:okC nmz5 stz5 hdz5 fi21.body none=true:=by kernel_rfl
def Az5(g:gz5)(lf:Nat):JT Rtz5:=atN Try.prog ttT.get nmz5 fi21 (sz5 g) (clz5 _ lf) lf hdz5
def qos(lf:Nat)(x1:qah)(x2:(List Int)):Nat->(Int × (List ByteArray))->Option Rtz5:=qa9 fun K p=>qmb lf x1 x2 K p
theorem qyg(g:gz5)(lf:Nat)(x1:qah)(x2:(List Int)):∀(n:Nat) (p:Int × (List ByteArray)),Az5 g lf 8 [n] (qhq x1 x2 p)=qos lf x1 x2 n p
 | 0,p=>qb4 8 [0] rfl _
 | n+1,p=>by
  have ih:=qyg g lf x1 x2 n;refine(qb6 (qbh 20 _) ndz5 okz5 8 [n+1] [n] rfl _).trans ((zg5 g (Az5 g lf) lf x1 x2 n p).trans ?_);rw[(show (fun q=>Az5 g lf 8 [n] (qhq x1 x2 q))=(fun q=>qos lf x1 x2 n q) from funext ih)];rfl
def Fz5(lf:Nat)(x1:qah)(x2:(List Int)):Option Rtz5:=qr8 lf x1 x2 (fun q=>qos lf x1 x2 lf q)
theorem zox(g:gz5)(lf:Nat)(x1:qah)(x2:(List Int)):Ez5 g (Az5 g lf) lf x1 x2=Fz5 lf x1 x2:=by
  refine(inz5 g (Az5 g lf) lf x1 x2).trans ?_;rw[(show (fun q=>Az5 g lf 8 [lf] (qhq x1 x2 q))=(fun q=>qos lf x1 x2 lf q) from funext fun q=>qyg g lf x1 x2 lf q)];rfl
theorem zey:qbi Try.prog qyt:=⟨zej,trivial⟩
theorem mkz5{g:gz5}(hsm:SmOK Try.prog q6c)(hg:∀(x:ElA [qan,(.list (.int .i64))]) (y:Rtz5),WfA [qan,(.list (.int .i64))] x->g x=some y->∃lf,Fz5 lf x.1 x.2.1=some y):Con Try.prog 21 ⟨[qan,(.list (.int .i64))],[(false,qan),(false,(.int .i64))],g⟩ :=
 conV (st:=stz5) (fun lf x=>Fz5 lf x.1 x.2.1) cm3 zf8 zey ndz5 okz5 (fun lf x=>zox g lf x.1 x.2.1) hsm hg
abbrev qpe:Type:=Bool × Unit
abbrev zhr:Nat:=27
def q3u(lf:Nat)(x1:Int)(x2:Int)(x3:Int):Option qpe:=(cond (Bool.not (iltI x1 x2)) (some ((Bool.not (iltI x3 x1)),())) (some (false,())))
def qlq(lf:Nat)(x1:Int)(x2:Int)(x3:Int):Option qpe:=q3u lf x1 x2 x3
theorem zm4{g:ElA [(.int .i64),(.int .i64),(.int .i64)]->Option qpe}(hsm:SmOK Try.prog [])(hg:∀(x:ElA [(.int .i64),(.int .i64),(.int .i64)]) (y:qpe),WfA [(.int .i64),(.int .i64),(.int .i64)] x->g x=some y->∃lf,qlq lf x.1 x.2.1 x.2.2.1=some y):Con Try.prog 27 ⟨[(.int .i64),(.int .i64),(.int .i64)],[(false,.bool)],g⟩ :=
 conU (fi:=fi27) (hxl:=[]) (fun lf x=>qlq lf x.1 x.2.1 x.2.2.1) cm3 zd7 trivial hsm hg
abbrev qod:Type:=Bool × Unit
abbrev zku:Nat:=36
def q5p(lf:Nat)(x1:ByteArray):Option qod:=(some ((Bool.not (ieqI (Int.ofNat x1.size) (Int.ofNat 64))),()))
def qpo(lf:Nat)(x1:ByteArray):Option qod:=q5p lf x1
theorem zh8{g:ElA [.str]->Option qod}(hsm:SmOK Try.prog [])(hg:∀(x:ElA [.str]) (y:qod),WfA [.str] x->g x=some y->∃lf,qpo lf x.1=some y):Con Try.prog 36 ⟨[.str],[(false,.bool)],g⟩ :=
 conU (fi:=fi36) (hxl:=[]) (fun lf x=>qpo lf x.1) cm3 q7m trivial hsm hg
abbrev qo3:Type:=qah × Int × Unit
abbrev zj1:Nat:=32
def q0r(lf:Nat)(x1:Int):Option qo3:=(cond (Bool.not (S.inI x1 (Int.ofNat 8) (Int.ofNat 1000))) (some (([],[]),((Int.ofNat 1),()))) (cond (Bool.not (ieqI (Int.tmod x1 (Int.ofNat 2)) (Int.ofNat 0))) (some (([],[]),((Int.ofNat 1),()))) (match (cond (S.inI x1 (Int.ofNat 0) (Int.ofNat 1000)) (some ((List.replicate (Int.toNat x1) S.blank),())) none) with|none=>none|some v0=>(some ((v0.1,[]),((Int.ofNat 0),()))))))
def qpu(lf:Nat)(x1:Int):Option qo3:=q0r lf x1
theorem zgp{g:ElA [(.int .i64)]->Option qo3}(hsm:SmOK Try.prog [(27,qip),(44,qm1),(43,qio)])(hg:∀(x:ElA [(.int .i64)]) (y:qo3),WfA [(.int .i64)] x->g x=some y->∃lf,qpu lf x.1=some y):Con Try.prog 32 ⟨[(.int .i64)],[(false,qan),(false,(.int .i64))],g⟩ :=
 conU (fi:=fi32) (hxl:=[]) (fun lf x=>qpu lf x.1) cm3 zk1 trivial hsm hg
abbrev qp8:Type:=Int × Unit
abbrev za8:Nat:=24
def qzb(lf:Nat)(x1:qah):Option qp8:=(cond (iltI (Int.ofNat 1000) (Int.ofNat x1.1.length)) (some ((Int.ofNat 3),())) (cond (iltI (Int.ofNat 4000) (Int.ofNat x1.2.length)) (some ((Int.ofNat 3),())) (match (idxO (fun v0=>(cond (S.short v0.2) (some true) (some (Bool.not (S.inI v0.1 (Int.ofNat 0) (IntKind.i64.wrap (Int.sub (Int.ofNat x1.1.length) (Int.ofNat 1)))))))) x1.2 0) with|none=>none|some v1=>(cond (iltI (Int.ofNat x1.1.length) (Int.ofNat 8)) (some ((Int.ofNat 1),())) (cond (Bool.not (ieqI (Int.ofNat (Nat.mod x1.1.length 2)) (Int.ofNat 0))) (some ((Int.ofNat 1),())) (cond (Bool.not (iltI v1 (Int.ofNat 0))) (some ((Int.ofNat 1),())) (match (idxO (fun v2=>(some (S.short v2))) x1.1 0) with|none=>none|some v3=>(cond (Bool.not (iltI v3 (Int.ofNat 0))) (some ((Int.ofNat 1),())) (some ((Int.ofNat 0),()))))))))))
def qpb(lf:Nat)(x1:qah):Option qp8:=qzb lf x1
theorem zml{g:ElA [qan]->Option qp8}(hsm:SmOK Try.prog [(36,qrq),(27,qip)])(hg:∀(x:ElA [qan]) (y:qp8),WfA [qan] x->g x=some y->∃lf,qpb lf x.1=some y):Con Try.prog 24 ⟨[qan],[(false,(.int .i64))],g⟩ :=
 conU (fi:=fi24) (hxl:=[(60,qp3 cPut),(61,qp3 .str)]) (fun lf x=>qpb lf x.1) cm3 zbw ⟨zhk,⟨zgj,trivial⟩⟩ hsm hg
def nmz6:Nat->Option Nm:=fun k=>cond (Nat.beq k 3) (some ⟨[5,10,11,12],[],[],[],[],0,0,false⟩) (none)
def stz6:Nat->Bool:=fun k=>cond (Nat.beq k 3) true (false)
def hdz6:=stz6
abbrev Rtz6:Type:=(List ByteArray) × Unit
def q4v:List (Nat × Sm):=[(34,qkt)]
def q4l:List (Nat × Hx):=[]
def clz6(R:Type)(lf:Nat):ClK R:=qa4 Try.prog ttT.get ftT.get (nm1 37 nmz6) (smL q4v) (hxL q4l) lf 20 R
abbrev idz6:Nat:=37
def qiv(x1:(List ByteArray))(x2:(List DPut))(p:Int × (List ByteArray)):NRes:=(NRes.mk (.node none (.node none (.node none .leaf (.node (some (IV.int .i64 (Int.ofNat x2.length))) .leaf .leaf)) (.node (some (IV.arr 0)) .leaf .leaf)) (.node none (.node none .leaf (.node (some (IV.int .i64 p.1)) .leaf .leaf)) (.node none (.node (some (IV.lst cPut x2)) .leaf .leaf) .leaf))) (IS.mk (.node (some (IObj.arr TC.str p.2)) .leaf .leaf) 1) [] 0)
def q0v(lf:Nat)(x1:(List ByteArray))(x2:(List DPut))(L3:(Int × (List ByteArray))->Option Rtz6):Option Rtz6:=(L3 ((Int.ofNat 0),x1))
def qna(lf:Nat)(x1:(List ByteArray))(x2:(List DPut))(L3:(Int × (List ByteArray))->Option Rtz6)(p:Int × (List ByteArray)):Option Rtz6:=(cond (iltI p.1 (Int.ofNat x2.length)) (match (jget x2 p.1) with|none=>none|some v0=>(match (jget p.2 v0.1) with|none=>none|some v1=>(match (GetElem?.getElem? p.2 (Int.toNat v0.1)) with|none=>none|some v2=>(L3 ((IntKind.i64.wrap (Int.add p.1 (Int.ofNat 1))),(List.set p.2 (Int.toNat v0.1) v0.2)))))) (some (p.2,())))
abbrev gz6:Type:=ElA [(.list .str),(.list cPut)]->Option Rtz6
abbrev sz6(g:gz6):Sm:=⟨[(.list .str),(.list cPut)],[(true,.str)],g⟩
abbrev Ez6(g:gz6)(J:JT Rtz6)(lf:Nat)(x1:(List ByteArray))(x2:(List DPut)):=qb5 Try.prog ttT.get nmz6 fi37.nt (clz6 _ lf) lf stz6 J fi37.body [] (qa0 (argV [(.list .str),(.list cPut)] (x1,x2,())) 0 .leaf) S0 [] (qa1 ttT.get fi37 (sz6 g))
abbrev Bz6(g:gz6)(J:JT Rtz6)(lf k:Nat)(ms:List Nat)(q:NRes):=qcm Try.prog ttT.get nmz6 fi37.nt (clz6 _ lf) lf stz6 J k fi37.body [] ms q (qa1 ttT.get fi37 (sz6 g))
theorem inz6(g:gz6)(J:JT Rtz6)(lf:Nat)(x1:(List ByteArray))(x2:(List DPut)):Ez6 g J lf x1 x2=q0v lf x1 x2 (fun q=>J 3 [lf] (qiv x1 x2 q)):=by kernel_rfl
theorem zo6(g:gz6)(J:JT Rtz6)(lf:Nat)(x1:(List ByteArray))(x2:(List DPut))(m1:Nat)(p:Int × (List ByteArray)):Bz6 g J lf 3 [m1] (qiv x1 x2 p)=qna lf x1 x2 (fun q=>J 3 [m1] (qiv x1 x2 q)) p:=by kernel_rfl
theorem ndz6:(regs fi37.body).Nodup:=by decide +kernel
theorem okz6:okC nmz6 stz6 hdz6 fi37.body none=true:=by kernel_rfl
def Az6(g:gz6)(lf:Nat):JT Rtz6:=atN Try.prog ttT.get nmz6 fi37 (sz6 g) (clz6 _ lf) lf hdz6
def qoc(lf:Nat)(x1:(List ByteArray))(x2:(List DPut)):Nat->(Int × (List ByteArray))->Option Rtz6:=qa9 fun K p=>qna lf x1 x2 K p
theorem q0i(g:gz6)(lf:Nat)(x1:(List ByteArray))(x2:(List DPut)):∀(n:Nat) (p:Int × (List ByteArray)),Az6 g lf 3 [n] (qiv x1 x2 p)=qoc lf x1 x2 n p
 | 0,p=>qb4 3 [0] rfl _
 | n+1,p=>by
  have ih:=q0i g lf x1 x2 n;refine(qb6 (qbh 20 _) ndz6 okz6 3 [n+1] [n] rfl _).trans ((zo6 g (Az6 g lf) lf x1 x2 n p).trans ?_);rw[(show (fun q=>Az6 g lf 3 [n] (qiv x1 x2 q))=(fun q=>qoc lf x1 x2 n q) from funext ih)];rfl
def Fz6(lf:Nat)(x1:(List ByteArray))(x2:(List DPut)):Option Rtz6:=q0v lf x1 x2 (fun q=>qoc lf x1 x2 lf q)
theorem zms(g:gz6)(lf:Nat)(x1:(List ByteArray))(x2:(List DPut)):Ez6 g (Az6 g lf) lf x1 x2=Fz6 lf x1 x2:=by
  refine(inz6 g (Az6 g lf) lf x1 x2).trans ?_;rw[(show (fun q=>Az6 g lf 3 [lf] (qiv x1 x2 q))=(fun q=>qoc lf x1 x2 lf q) from funext fun q=>q0i g lf x1 x2 lf q)];rfl
theorem q97:qbi Try.prog q4l:=trivial
theorem mkz6{g:gz6}(hsm:SmOK Try.prog q4v)(hg:∀(x:ElA [(.list .str),(.list cPut)]) (y:Rtz6),WfA [(.list .str),(.list cPut)] x->g x=some y->∃lf,Fz6 lf x.1 x.2.1=some y):Con Try.prog 37 ⟨[(.list .str),(.list cPut)],[(true,.str)],g⟩ :=
 conV (st:=stz6) (fun lf x=>Fz6 lf x.1 x.2.1) cm3 q71 q97 ndz6 okz6 (fun lf x=>zms g lf x.1 x.2.1) hsm hg
abbrev qpm:Type:=(List ByteArray) × Unit
abbrev zch:Nat:=34
def qxv(lf:Nat)(x1:(List ByteArray)):Option qpm:=(match x1 with|.nil  => none|.cons v0 v1=>(cond (Nat.ble (Nat.mul (Nat.add 0 x1.length) 16) 140737488355328) (some (x1,())) none))
def quk(lf:Nat)(x1:(List ByteArray)):Option qpm:=qxv lf x1
theorem zim{g:ElA [(.list .str)]->Option qpm}(hsm:SmOK Try.prog [])(hg:∀(x:ElA [(.list .str)]) (y:qpm),WfA [(.list .str)] x->g x=some y->∃lf,quk lf x.1=some y):Con Try.prog 34 ⟨[(.list .str)],[(true,.str)],g⟩ :=
 conU (fi:=fi34) (hxl:=[]) (fun lf x=>quk lf x.1) cm3 q14 trivial hsm hg
abbrev qob:Type:=(List DPut) × Unit
abbrev zen:Nat:=35
def qwv(lf:Nat)(x1:(List DPut)):Option qob:=(match x1 with|.nil  => none|.cons v0 v1=>(cond (Nat.ble (Nat.mul (Nat.add 0 x1.length) 24) 140737488355328) (some (x1,())) none))
def qu7(lf:Nat)(x1:(List DPut)):Option qob:=qwv lf x1
theorem zoe{g:ElA [(.list cPut)]->Option qob}(hsm:SmOK Try.prog [])(hg:∀(x:ElA [(.list cPut)]) (y:qob),WfA [(.list cPut)] x->g x=some y->∃lf,qu7 lf x.1=some y):Con Try.prog 35 ⟨[(.list cPut)],[(true,cPut)],g⟩ :=
 conU (fi:=fi35) (hxl:=[]) (fun lf x=>qu7 lf x.1) cm3 qzs trivial hsm hg
end Go.Proofs.Ytnhmanoiolfapaa
end

section
namespace Go.Jx
open Go Go.Sx Go.RowKit
universe u
inductive NoD (n:Nat):Type
instance (n:Nat):Dat (NoD n) where
 sz:=n
 enc _ _ _ x:=nomatch x
 len {_ _ _ x} _:=nomatch x
 mono {_ _ _ _ _ x} _ _:=nomatch x
 ones {_ _ _ x} _:=nomatch x
theorem q6y{E:Env}{c:TC}{u:Value}(h:VR E (.lst c []) u):∃a cap,u=.slice a 0 cap/\cap<9223372036854775808:=by
 cases h with
 | lst0 hc=>exact⟨_,_,rfl,hc⟩
 | lst us h1 h2 h3 hb hh hc hu=>exact⟨_,_,rfl,h2⟩
theorem q1w{M:List Nat}{w w':World}{c:TC}{n:Nat}{e:Ending}(hn:n=csz c)(hu:¬c=.int .u8)(hM:∀b∈M,b<w.heap.size)(h:Ret (fun v w'=>∃a' c' m',v=.slice a' 0 c'/\Go.Sx.Own m' M w' a' c' ([]:List (NoD n))/\Evo [] w m' w') e w') :
  RetE T0 (EM M w) S0 ⟨.arr 0,addO [.arr c []] S0,0,0⟩ e w':=by
 cases e with
 | returned v =>
  obtain⟨a,k,m,rfl,ho,ev⟩:=h;have hH:∀id o,(addO [IObj.arr c []] S0).H id=some o->id=0/\o=.arr c []:=fun id o ho=>by
   rw[qb8] at ho;have e0:S0.next=0:=rfl
   rw[e0,jao (by omega)] at ho;split at ho
   ·rename_i h1;have h1:id<1:=by simpa using h1
    obtain rfl:id=0:=by omega
    exact⟨rfl,by simpa using ho.symm⟩
   ·cases ho
  have key:∃(E':Env),E'.w=w'/\E'.A=(fun id=>id=0)/\E'.hd 0=.slice a 0 k/\(∀b∈E'.m,b∈M\/w.heap.size<=b)/\(∀b∈M,b∈E'.m)/\(∀b∈E'.m,b<w'.heap.size)/\OR E' 0 (.arr c [])/\(E'.hb 0=true->E'.ρ 0∈E'.m/\w.heap.size<=E'.ρ 0):=by
   rcases ho with ⟨rfl,rfl,_⟩|⟨g,cells,rfl,g1,g2,g3,g4,g5,g6⟩
   ·exact⟨⟨fun _=>0,fun _=>0,fun _=>.slice none 0 0,fun _=>false,fun id=>id=0,M,w'⟩,rfl,rfl,rfl,fun b hb=>.inl hb,fun b hb=>hb,fun b hb=>jbi (hM b hb) ev.size,⟨none,0,rfl,jaq _,by omega,by simp,.inl ⟨rfl,rfl,fun _=>rfl⟩⟩,fun h=>by cases h⟩
   ·have hg:w.heap.size<=g:=by
     rcases ev.own g g1 with h|h
     ·cases h
     ·exact h
    obtain⟨t,g3⟩:=g3;refine⟨⟨fun _=>g,fun _=>0,fun _=>.slice (some ⟨g,0,none⟩) 0 k,fun _=>true,fun id=>id=0,g::M,w'⟩,rfl,rfl,rfl,fun b hb=>?_,fun b hb=>jba _ hb,fun b hb=>?_,⟨some ⟨g,0,none⟩,k,rfl,jb8 _,g5.2,by simp,.inr ⟨rfl,rfl,cells.toArray,t,g3,⟨?_,fun e=>absurd e hu⟩,fun _ _=>.nilFunc,fun i hi=>absurd hi (by simp),fun i hi=>absurd hi (by simp)⟩⟩,fun _=>⟨jb1,hg⟩⟩
    ·rcases jax.1 hb with h|h
     ·exact .inr (h▸hg)
     ·exact .inl h
    ·rcases jax.1 hb with h|h
     ·rw[h];exact qas g3
     ·exact jbi (hM b h) ev.size
    ·have e2:Dat.sz (NoD n)=csz c:=hn;rw[e2] at g4;simp[g4]
  obtain⟨E',rfl,hA,hd,k1,k2,k3,k4,k5⟩:=key;have hL:∀id,E'.A id->Live E' (addO [IObj.arr c []] S0).H id->id=0/\E'.ρ 0∈E'.m/\w.heap.size<=E'.ρ 0:=fun id hid ⟨h1,_⟩=>by
   rw[hA] at hid;have hid:id=0:=hid;subst hid;exact⟨rfl,k5 h1⟩
  refine⟨_,E',rfl,rfl,.arr (by rw[hA]) hd,⟨⟨fun id _ hid o ho=>?_,fun id _ hid o ho hb=>?_,fun id _ hid hl=>?_,fun i j _ _ hi hj _ _ _=>?_,k3⟩,⟨ev.os,ev.tape,ev.output,ev.size,fun b hb _=>ev.same b hb (by simp),fun id h=>h.elim,fun id h _ hl=>?_,fun id _ h=>h.elim,k1,fun b hb _=>.inl (k2 b hb)⟩,fun id hid=>?_,jb8 _⟩,⟨fun id _ _=>jb8 _⟩⟩
  ·obtain⟨rfl,rfl⟩:=hH id o ho;exact k4
  ·obtain⟨rfl,rfl⟩:=hH id o ho;cases hb
  ·obtain⟨rfl,h1,_⟩:=hL id hid hl;exact h1
  ·rw[hA] at hi hj;have hi:i=0:=hi;have hj:j=0:=hj;rw[hi,hj]
  ·obtain⟨rfl,_,h2⟩:=hL id h hl;exact .inl h2
  ·rw[hA] at hid;have hid:id=0:=hid;subst hid;exact Nat.one_pos
 | panicked c=>exact h.elim
 | outgrown=>exact h.elim
end Go.Jx
end

noncomputable section
set_option maxRecDepth 100000
namespace Go.Proofs.Ytnhmanoiolfapaa
open Go Go.Sx Go.RowKit Go.Jx
theorem ziw{M:List Nat}{w:World}{a:Option Addr}{cap:Nat}(hM:Lo M w)(hc:cap<9223372036854775808):Calls Try.prog 34 #[.slice a 0 cap] w (Ret fun v w'=>∃a' c' m',v=.slice a' 0 c'/\Go.Sx.Own m' M w' a' c' ([]:List (NoD 1))/\Evo [] w m' w'):=by
 have hS:SL M w a cap ([]:List (NoD 1)):=⟨⟨jb8 _,hc⟩,.inl rfl⟩;refine enter (l:=[.slice a 0 cap]) Try.func34 rfl Try.ntmps34 rfl ?_;refine qal fun KhK1 hK1=>?_;refine qau ?_;refine qaz (v:=.slice none 0 0) rfl rfl rfl ?_;refine jbf ?_;refine hK1 _ _ ?_;refine qal fun KhK2 hK2=>?_;refine qal fun KhK3 hK3=>?_;refine qau ?_;refine qav (v:=.slice a 0 cap) rfl rfl rfl ?_;refine qu6 ty27 rfl rfl rfl rfl ?_;refine jbf ?_;refine hK3 _ _ ?_;refine qnn rfl rfl (fun hb4=>?_) (fun hb4=>?_)
 ·refine qal fun KhK5 hK5=>?_;refine qau ?_;refine qaz (v:=.slice none 0 0) rfl rfl rfl ?_;refine jbf ?_;refine hK5 _ _ ?_;refine je9 ?_;exact ret1 Try.results34 rfl ⟨none,0,[],rfl,Go.Sx.Own.nil,Evo.refl [] w⟩
 ·refine je6 ?_;refine hK2 _ _ ?_;refine qal fun KhK7 hK7=>?_;refine qau ?_;refine qqe (α:=NoD 1) (m:=[]) (M:=M) ty27 ty9 rfl (hM.mono (Evo.refl [] w).size) fun β14 w15 hβ16 u17 hz18 ho19=>?_;have e20:=u17.evoN (m:=[]) hβ16 hz18;refine qav (v:=.slice a 0 cap) rfl rfl rfl ?_;refine qlu ty27 ty27 ty9 rfl rfl rfl rfl rfl rfl rfl ho19 (hS.mono (e20.tr M)) (hM.mono e20.size) (by simp) fun a22 c23 w24 m25 ho26 e27 u28 hbk29 hsub30=>?_;refine qaz (v:=.slice a22 (([]:List (NoD 1))++[]).length c23) rfl rfl rfl ?_;refine jbf ?_;refine hK7 _ _ ?_;refine je9 ?_;exact ret1 Try.results34 rfl ⟨a22,c23,m25,rfl,ho26,e20.trans e27⟩
theorem zht:Con Try.prog 34 ⟨[.list .str],[(true,.str)],fun x=>match x.1 with|[]=>none|v::l=>some (x.1,())⟩:=zim trivial fun x y hx h=>⟨0,by
 obtain⟨l,_⟩:=x;have hl:=qdv hx.1;have hb:=hx.1.1;cases l with
 | nil=>cases h
 | cons v l =>
  cases h;simp only[quk,qxv];exact Eq.trans (jas (fun b=>cond b (some (v::l,())) none) (jay (jbl (jdw (jas (fun z=>Nat.mul z 16) (jbm _))) hb))) rfl⟩
theorem qoi:Con Try.prog zch qkt:=by
 refine⟨q14,fun M w x us y hy hM hg hv=>?_⟩;obtain⟨l,_⟩:=x;cases l with
 | cons v l=>exact zht.calls M w (v::l,()) us y hy hM hg hv
 | nil =>
  cases hy;obtain⟨u,us2,rfl,h1,h2⟩:=hv.inv;obtain rfl:us2=[]:=ja1.1 h2.1.symm;obtain⟨a,cap,rfl,hc⟩:=q6y h1;refine jdl.2 ((ziw (M:=M) hM hc).mono fun e w' hR=>?_);exact q1w rfl (fun e=>by cases e) hM hR

theorem zex{M:List Nat}{w:World}{a:Option Addr}{cap:Nat}(hM:Lo M w)(hc:cap<9223372036854775808):Calls Try.prog 35 #[.slice a 0 cap] w (Ret fun v w'=>∃a' c' m',v=.slice a' 0 c'/\Go.Sx.Own m' M w' a' c' ([]:List (NoD 2))/\Evo [] w m' w'):=by
 have hS:SL M w a cap ([]:List (NoD 2)):=⟨⟨jb8 _,hc⟩,.inl rfl⟩;refine enter (l:=[.slice a 0 cap]) Try.func35 rfl Try.ntmps35 rfl ?_;refine qal fun KhK1 hK1=>?_;refine qau ?_;refine qaz (v:=.slice none 0 0) rfl rfl rfl ?_;refine jbf ?_;refine hK1 _ _ ?_;refine qal fun KhK2 hK2=>?_;refine qal fun KhK3 hK3=>?_;refine qau ?_;refine qav (v:=.slice a 0 cap) rfl rfl rfl ?_;refine qu6 ty28 rfl rfl rfl rfl ?_;refine jbf ?_;refine hK3 _ _ ?_;refine qnn rfl rfl (fun hb4=>?_) (fun hb4=>?_)
 ·refine qal fun KhK5 hK5=>?_;refine qau ?_;refine qaz (v:=.slice none 0 0) rfl rfl rfl ?_;refine jbf ?_;refine hK5 _ _ ?_;refine je9 ?_;exact ret1 Try.results35 rfl ⟨none,0,[],rfl,Go.Sx.Own.nil,Evo.refl [] w⟩
 ·refine je6 ?_;refine hK2 _ _ ?_;refine qal fun KhK7 hK7=>?_;refine qau ?_;refine qqe (α:=NoD 2) (m:=[]) (M:=M) ty28 ty56 rfl (hM.mono (Evo.refl [] w).size) fun β14 w15 hβ16 u17 hz18 ho19=>?_;have e20:=u17.evoN (m:=[]) hβ16 hz18;refine qav (v:=.slice a 0 cap) rfl rfl rfl ?_;refine qlu ty28 ty28 ty56 rfl rfl rfl rfl rfl rfl rfl ho19 (hS.mono (e20.tr M)) (hM.mono e20.size) (by simp) fun a22 c23 w24 m25 ho26 e27 u28 hbk29 hsub30=>?_;refine qaz (v:=.slice a22 (([]:List (NoD 2))++[]).length c23) rfl rfl rfl ?_;refine jbf ?_;refine hK7 _ _ ?_;refine je9 ?_;exact ret1 Try.results35 rfl ⟨a22,c23,m25,rfl,ho26,e20.trans e27⟩
theorem zcz:Con Try.prog 35 ⟨[.list cPut],[(true,cPut)],fun x=>match x.1 with|[]=>none|v::l=>some (x.1,())⟩:=zoe trivial fun x y hx h=>⟨0,by
 obtain⟨l,_⟩:=x;have hl:=qdv hx.1;have hb:=hx.1.1;cases l with
 | nil=>cases h
 | cons v l =>
  cases h;simp only[qu7,qwv];exact Eq.trans (jas (fun b=>cond b (some (v::l,())) none) (jay (jbl (jdw (jas (fun z=>Nat.mul z 24) (jbm _))) hb))) rfl⟩
theorem zem:Con Try.prog zen qz7:=by
 refine⟨qzs,fun M w x us y hy hM hg hv=>?_⟩;obtain⟨l,_⟩:=x;cases l with
 | cons v l=>exact zcz.calls M w (v::l,()) us y hy hM hg hv
 | nil =>
  cases hy;obtain⟨u,us2,rfl,h1,h2⟩:=hv.inv;obtain rfl:us2=[]:=ja1.1 h2.1.symm;obtain⟨a,cap,rfl,hc⟩:=q6y h1;refine jdl.2 ((zex (M:=M) hM hc).mono fun e w' hR=>?_);exact q1w rfl (fun e=>by cases e) hM hR
theorem qtn(a b:Int):decide (a<=b)=!decide (b<a):=by
 by_cases h:b<a
 ·rw[jan h,jat (by omega)];rfl
 ·rw[jat h,jan (by omega)];rfl
theorem q84(n lo hi:Int):S.inI n lo hi=(!iltI n lo&&!iltI hi n):=by unfold S.inI;rw[qtn,qtn,qbc,qbc]
theorem qbl{n lo hi:Int}:S.inI n lo hi=true↔lo<=n/\n<=hi:=by unfold S.inI;rw[jae,jea,jea]
theorem qbb{α:Type}{b:Bool}{x y:α}(h:cond b (some x) none=some y):b=true/\x=y:=by
 cases b
 ·cases h
 ·exact⟨rfl,jb7 h⟩
theorem wrap_in{n:Int}(h:-9223372036854775808<=n/\n<9223372036854775808):IntKind.i64.wrap n=n:=qfr h
theorem qbv{n:Nat}(h:n<9223372036854775808):IntKind.i64.wrap (Int.ofNat n)=Int.ofNat n:=qfr (by show -_<=(n:Int)/\(n:Int)<_;omega)
theorem q65{n:Nat}(h:n<LF):IntKind.i64.wrap (Int.sub (Int.ofNat n) (Int.ofNat 1))=(n:Int)-1:=by
 unfold LF at h;exact qfr (by show -9223372036854775808<=(n:Int)-1/\(n:Int)-1<9223372036854775808;omega)
theorem zjr(lf:Nat)(n lo hi:Int):qlq lf n lo hi=some (S.inI n lo hi,()):=by
 simp only[qlq,q3u];rw[q84];cases iltI n lo<;>rfl
theorem qjk:Con Try.prog zhr qip:=zm4 trivial fun x y hx h=>⟨0,(zjr 0 _ _ _).trans h⟩
theorem zkx(s:ByteArray):S.short s=!ieqI (Int.ofNat s.size) (Int.ofNat 64):=by
 unfold S.short;rw[q0m]
theorem zhc(lf:Nat)(s:ByteArray):qpo lf s=some (S.short s,()):=by
 simp only[qpo,q5p];rw[zkx]
theorem q3x:Con Try.prog zku qrq:=zh8 trivial fun x y hx h=>⟨0,(zhc 0 x.1).trans h⟩
theorem zeh{n:Int}(h:0<=n):Int.tmod n (Int.ofNat 2)=n % 2:=jdf h
theorem q7k(lf:Nat)(n:Int):qpu lf n=some ((S.newDisk n).1,(S.newDisk n).2,()):=by
 simp only[qpu,q0r,S.newDisk];by_cases h1:S.inI n 8 1000=true
 ·obtain⟨h2,h3⟩:=qbl.1 h1;rw[show S.inI n (Int.ofNat 8) (Int.ofNat 1000)=true from h1,jbb,jah,zeh (by omega)];by_cases h4:n % 2=0
  ·rw[qbo (show n % 2=Int.ofNat 0 from h4),jbb,jah,show S.inI n (Int.ofNat 0) (Int.ofNat 1000)=true from qbl.2 ⟨by show (0:Int)<=n;omega,h3⟩,jab,jam ⟨h1,h4⟩];rfl
  ·rw[qbn (show ¬n % 2=Int.ofNat 0 from h4),ja6,jab,jao (fun e=>h4 e.2)];rfl
 ·rw[show S.inI n (Int.ofNat 8) (Int.ofNat 1000)=false from jdg.2 h1,ja6,jab,jao (fun e=>h1 e.1)];rfl
theorem zd1:S.lit [0,0,0,0,0,0,0,0,0,0,0,0,0,0,0,0,0,0,0,0,0,0,0,0,0,0,0,0,0,0,0,0,0,0,0,0,0,0,0,0,0,0,0,0,0,0,0,0,0,0,0,0,0,0,0,0,0,0,0,0,0,0,0,0]=S.blank:=by kernel_rfl
theorem qnk{α:Type}(p:α->Bool)(l:List α):(!iltI (Go.Jx.S.idx p l) (Int.ofNat 0))=l.any p:=by
 cases h:l.any p with
 | true=>rw[qfb (by have:=(Go.Jx.S.idx_nonneg p l).2 h;show ¬_<(0:Int);omega)];rfl
 | false =>
  rw[qex (by
   show _<(0:Int);refine Int.not_le.1 fun e=>?_;rw[(Go.Jx.S.idx_nonneg p l).1 e] at h;cases h)];rfl
theorem za3(lf:Nat)(d:qah)(hl:d.1.length<LF):qpb lf d=some (S.checkDisk d,()):=by
 have e1:idxO (fun v0:DPut=>(cond (S.short v0.2) (some true) (some (!(S.inI v0.1 (Int.ofNat 0) (IntKind.i64.wrap (Int.sub (Int.ofNat d.1.length) (Int.ofNat 1)))))))) d.2 0=some (Go.Jx.S.idx (S.badPut d.1.length) d.2):=qov (S.badPut d.1.length) fun x _=>by
  rw[q65 hl];unfold S.badPut;cases S.short x.2<;>rfl
 have e2:idxO (fun v2:ByteArray=>(some (S.short v2))) d.1 0=some (Go.Jx.S.idx S.short d.1):=qov S.short fun _ _=>rfl;simp only[qpb,qzb,S.checkDisk,qcf];rw[e1];simp only[qnk];rw[e2];simp only[qnk];by_cases h1:1000<d.1.length
 ·rw[jan h1,jab,jam (.inl h1)];rfl
 rw[jat h1,jah];by_cases h2:4000<d.2.length
 ·rw[jan h2,jab,jam (.inr h2)];rfl
 rw[jat h2,jah,jao (by omega)];by_cases h3:d.1.length<8
 ·rw[jan h3,jab,jam (.inl h3)];rfl
 rw[jat h3,jah];by_cases h4:d.1.length % 2=0
 ·rw[qbo (show Int.ofNat (Nat.mod d.1.length 2)=Int.ofNat 0 from jas Int.ofNat h4),jbb,jah];cases h5:d.2.any (S.badPut d.1.length) with
  | true=>rw[jab,jam (.inr (.inr (.inl rfl)))];rfl
  | false =>
   rw[jah];cases h6:d.1.any S.short with
   | true=>rw[jab,jam (.inr (.inr (.inr rfl)))];rfl
   | false=>rw[jah,jao (by simp[h3,h4])];rfl
 ·rw[qbn (show ¬Int.ofNat (Nat.mod d.1.length 2)=Int.ofNat 0 from fun e=>h4 (jc5 e)),ja6,jab,jam (.inr (.inl h4))];rfl
theorem qjo:Con Try.prog za8 qii:=zml ⟨q3x,qjk,trivial⟩ fun x y hx h=>⟨0,(za3 0 x.1 (qdv (c:=.str) hx.1.1)).trans h⟩
theorem qvn{α:Type}{l:List α}{i:Int}{d:α}(h0:0<=i)(h1:i<l.length):jget l i=some (l.getD i.toNat d):=by
 obtain⟨x,h2,h3,_⟩:=qt7 h0 h1;rw[h2,jai,h3];rfl
theorem qlp{n:Int}{p:DPut}:S.badPut n p=false↔p.2.size=64/\0<=p.1/\p.1<n:=by
 unfold S.badPut S.short;rw[jcg,jeu,jeu,jea,qbl];omega
theorem q75(l:List ByteArray)(q:List DPut)(hq:q.length<LF)(hf:S.fitP l q=true):Fz6 LF l q=some (S.settled l q,()):=by
 have hf:=jbj.1 hf;refine range0 (σ:=List ByteArray) (R:=Rtz6) q (fun i s=>(i,s)) (fun _ s=>s.length=l.length) (fun rest _ s=>some (S.settled s rest,())) hq (fun K s _=>?_) (fun K i v rest s hs r h=>?_) l rfl
 ·simp only[qna,qc5,jah];rfl
 ·have hv:=hf v r.mem;rw[jcm] at hv;obtain⟨_,h1,h2⟩:=qlp.1 hv;obtain⟨x,h3,h4,_⟩:=qt7 (l:=s) h1 (by omega);simp only[qna,r.ilt,r.get,r.next,jab,h3,h4];exact h _ (by rw[jcj];exact hs)
theorem zel:Con Try.prog idz6 spz6:=mkz6 ⟨qoi,trivial⟩ fun x y hx h=>⟨LF,by
 obtain⟨h1,h2⟩:=qbb (show cond (S.fitP x.1 x.2.1) (some (S.settled x.1 x.2.1,())) none=some y from h);exact(q75 x.1 x.2.1 (qdv (c:=cPut) hx.2.1) h1).trans (jas some h2)⟩
def rng(l:List Int):Prop:=∀b∈l,0<=b/\b<256
theorem qfp{a b:List Int}(h:rng a)(k:rng b):rng (a++b):=fun x hx=>(jbn.1 hx).elim (h x) (k x)
theorem qgn(n:Nat):rng (List.replicate n 0):=fun b h=>by rw[(jev.1 h).2];decide
theorem qdq(s:ByteArray):rng (qab s):=fun b h=>znf h
theorem qez{a:List Int}(h:rng a)(n:Nat):rng (a.take n):=fun x hx=>h x (jb4 hx)
theorem qdz{a:List Int}(h:rng a)(n:Nat):rng (a.drop n):=fun x hx=>h x (jdy hx)
theorem qt5(n:Nat):rng (S.two n):=fun b h=>by
 unfold S.two at h;simp only[jax,jft,or_false] at h;rcases h with rfl|rfl<;>omega
theorem qbg(l:List Int):(qae l).size=l.length:=by
 unfold qae;simp[ByteArray.size]
theorem qgw(f:Nat){b:List Int}(h:0<b.length):S.chunks (f+1) b=qae (b.take 64++List.replicate (64-b.length) 0)::S.chunks f (b.drop 64):=by
 cases b with
 | nil=>cases h
 | cons x b=>rfl
theorem qx8:∀(f:Nat) (b:List Int),b.length<=f->(S.chunks f b).length=(b.length+63) / 64
 | 0,b,h=>by
  have:b=[]:=ja1.1 (by omega);subst this;rfl
 | f+1,b,h=>by
  by_cases hb:0<b.length
  ·rw[qgw f hb,jar,qx8 f _ (by rw[ja7];omega),ja7];omega
  ·have:b=[]:=ja1.1 (by omega);subst this;rfl
theorem q2h:∀(f:Nat) (b:List Int),∀s∈S.chunks f b,s.size=64
 | 0,b,s,h=>by cases h
 | f+1,b,s,h=>by
  by_cases hb:0<b.length
  ·rw[qgw f hb] at h;rcases jax.1 h with rfl|h
   ·rw[qbg,jag,jbc,ja5];omega
   ·exact q2h f _ s h
  ·have:b=[]:=ja1.1 (by omega);subst this;cases h
theorem qv7:∀(f:Nat) (b:List Int),rng b->b.length<=f->(S.chunks f b).flatMap qab=b++List.replicate (64*((b.length+63) / 64)-b.length) 0
 | 0,b,_,h=>by
  have:b=[]:=ja1.1 (by omega);subst this;rfl
 | f+1,b,hr,h=>by
  by_cases hb:0<b.length
  ·rw[qgw f hb,je0,qv7 f _ (qdz hr 64) (by rw[ja7];omega),qbr (qfp (qez hr 64) (qgn _)),ja7];by_cases h64:64<=b.length
   ·rw[show 64-b.length=0 by omega,jfe,ja9,<- ja0,jcw,show 64*((b.length-64+63) / 64)-(b.length-64)=64*((b.length+63) / 64)-b.length by omega]
   ·rw[jbp (by omega),jct (by omega),jck,ja0,List.replicate_append_replicate];rw[show 64-b.length+(64*((b.length-64+63) / 64)-(b.length-64))=64*((b.length+63) / 64)-b.length by omega]
  ·have:b=[]:=ja1.1 (by omega);subst this;rfl
theorem qbp{c:qaa}{l:List qaa}{last:Int}:S.okGo (c::l) last=true↔(0<=c.1/\c.1<=199)/\c.2.1.size<=4000/\(c.2.2=true->c.2.1=S.none_)/\last<c.1/\S.okGo l c.1=true:=by
 have hz:∀s:ByteArray,s.size=0↔s=S.none_:=fun s=>⟨fun h=>qfk (by
  have h1:=qct s;rw[h] at h1;rw[ja1.1 h1];rfl),fun h=>by rw[h];rfl⟩
 show (S.inI c.1 0 199&&(decide (c.2.1.size<=4000)&&(!(c.2.2&&!decide (c.2.1.size=0))&&(decide (last<c.1)&&S.okGo l c.1))))=true↔_;simp only[S.inI,jae,jea,jcm,Bool.and_eq_false_iff,jeu,<- hz];constructor
 ·rintro⟨h1,h2,h3,h4,h5⟩;refine⟨h1,h2,fun h=>?_,h4,h5⟩;rcases h3 with h3|h3
  ·rw[h] at h3;cases h3
  ·exact h3
 ·rintro⟨h1,h2,h3,h4,h5⟩;refine⟨h1,h2,?_,h4,h5⟩;cases hc:c.2.2 with
  | false=>exact .inl rfl
  | true=>exact .inr (h3 hc)
theorem qll(c:qaa):(S.cellB c).length=3+cond c.2.2 0 c.2.1.size:=by
 unfold S.cellB;cases c.2.2 with
 | true=>rfl
 | false =>
  rw[jah,jah,jar,jag,qct];show 2+_+1=_;omega
theorem zle(c:qaa):rng (S.cellB c):=fun b h=>by
 unfold S.cellB at h;rcases jax.1 h with rfl|h
 ·omega
 ·cases hc:c.2.2 with
  | true=>rw[hc] at h;exact qt5 0 b h
  | false=>rw[hc] at h;exact qfp (qt5 _) (qdq _) b h
theorem zl2(l:List qaa):rng (S.body l):=fun b h=>by
 obtain⟨c,_,h⟩:=List.mem_flatMap.1 h;exact zle c b h
theorem qmj(c:qaa)(l:List qaa):S.body (c::l)=S.cellB c++S.body l:=rfl
theorem qn5(f:Nat)(k a b:Int)(r:List Int)(last:Int):S.changes (f+1) (k::a::b::r) last =
  if 199<k\/k<=last\/(r.length:Int)+1<a*256+b\/4001<a*256+b then none
  else if a*256+b=0 then (match S.changes f r k with
    | some l=>some ((k,S.none_,true)::l)
    | none=>none)
  else (match S.changes f (r.drop (a*256+b-1).toNat) k with
    | some l=>some ((k,qae (r.take (a*256+b-1).toNat),false)::l)
    | none=>none):=rfl
theorem qry:∀(l:List qaa) (last:Int) (f:Nat),S.okGo l last=true->(S.body l).length<f->S.changes f (S.body l) last=some l
 | [],last,f,_,hf=>by
  cases f with
  | zero=>cases hf
  | succ f=>rfl
 | c::l,last,f,h,hf=>by
  obtain⟨⟨h1,h2⟩,h3,h4,h5,h6⟩:=qbp.1 h;rw[qmj] at hf ⊢;rw[jag,qll] at hf;cases f with
  | zero=>omega
  | succ f =>
  have hk:c.1 % 256=c.1:=by omega
  have hc:S.cellB c=c.1::cond c.2.2 (S.two 0) (S.two (c.2.1.size+1)++qab c.2.1):=by unfold S.cellB;rw[hk]
  obtain⟨k,s,g⟩:=c;simp only at h1 h2 h3 h4 h5 h6 hf hc;rw[hc];cases g with
  | true =>
   obtain rfl:=h4 rfl;simp only[jab] at hf ⊢;show S.changes (f+1) (k::0::0::S.body l) last=_;rw[qn5,jao (by omega),jam (by decide),qry l k f h6 (by omega)]
  | false =>
   simp only[jah] at hf ⊢;show S.changes (f+1) (k::(((s.size+1) / 256 % 256:Nat):Int)::(((s.size+1) % 256:Nat):Int)::(qab s++S.body l)) last=_;have hn:(((s.size+1) / 256 % 256:Nat):Int)*256+(((s.size+1) % 256:Nat):Int)=((s.size+1:Nat):Int):=by omega
   have hl:(qab s++S.body l).length=s.size+(S.body l).length:=by rw[jag,qct]
   rw[qn5,hn,jao (by rw[hl];omega),jao (by omega),show (((s.size+1:Nat):Int)-1).toNat=(qab s).length by rw[qct];omega,je3,jfm,qry l k f h6 (by omega),qfm]
theorem qsr:∀(f:Nat) (b:List Int) (last:Int) {l:List qaa},rng b->S.changes f b last=some l->S.okGo l last=true/\(S.body l).length=b.length
 | 0,b,last,l,_,h=>by cases h
 | f+1,[],last,l,_,h=>by cases h;exact⟨rfl,rfl⟩
 | f+1,[k],last,l,_,h=>by cases h
 | f+1,[k,a],last,l,_,h=>by cases h
 | f+1,k::a::b::r,last,l,hr,h=>by
  rw[qn5] at h;obtain⟨k0,k1⟩:=hr k (by simp);have hr':rng r:=fun x hx=>hr x (by simp[hx]);split at h
  ·cases h
  ·rename_i hn;split at h
   ·rename_i h0;split at h<;>cases h;rename_i l' hl;obtain⟨i1,i2⟩:=qsr f r k hr' hl;refine⟨qbp.2 ⟨⟨k0,by omega⟩,jb8 _,fun _=>rfl,by show last<k;omega,i1⟩,?_⟩;rw[qmj,jag,qll,i2];simp only[jab,jar];omega
   ·rename_i h0;obtain⟨a0,a1⟩:=hr a (by simp);obtain⟨b0,b1⟩:=hr b (by simp);split at h<;>cases h;rename_i l' hl;obtain⟨i1,i2⟩:=qsr f _ k (qdz hr' _) hl;have ht:(r.take (a*256+b-1).toNat).length=(a*256+b-1).toNat:=by rw[jbc];omega
    refine⟨qbp.2 ⟨⟨k0,by omega⟩,by rw[qbg,ht];omega,fun h=>(by cases h),by show last<k;omega,i1⟩,?_⟩;rw[qmj,jag,qll,i2];simp only[jah,jar,qbg,ht,ja7];omega
theorem qem(l:List qaa)(m:Int):(S.recB l m).length=(S.body l).length+4:=rfl
theorem qlh(l:List qaa){m:Int}(hm:0<=m/\m<256):rng (S.recB l m):=fun b h=>by
 unfold S.recB at h;rcases jax.1 h with rfl|h
 ·exact hm
 rcases jax.1 h with rfl|h
 ·omega
 ·exact qfp (qt5 _) (zl2 l) b h
theorem qbq(l:List qaa)(m:Int):(S.packed l m).length=((S.body l).length+67) / 64:=by
 unfold S.packed;rw[qx8 _ _ (jaq _),qem]
theorem qcv(l:List qaa)(m:Int):1<=(S.packed l m).length:=by rw[qbq];omega
theorem q4j(l:List qaa){m:Int}(hm:0<=m/\m<256):∃r,(qab ((S.packed l m).getD 0 S.none_))=m::(((S.body l).length / 65536 % 256:Nat):Int)::(((S.body l).length / 256 % 256:Nat):Int)::(((S.body l).length % 256:Nat):Int)::r:=by
 unfold S.packed;rw[qem,qgw _ (by rw[qem];omega),jff,qbr (qfp (qez (qlh l hm) 64) (qgn _))];exact⟨_,rfl⟩
theorem q55{α:Type}{a b:List α}(d:α)(h:0<a.length):(a++b).getD 0 d=a.getD 0 d:=by
 cases a with
 | nil=>cases h
 | cons x a=>rfl
theorem zbk(l:List qaa)(rest:List ByteArray)(h:S.okC l=true)(hb:(S.body l).length<16777216):S.readR (S.packed l 1++rest)=some (l,(S.packed l 1).length):=by
 have hm:(0:Int)<=1/\(1:Int)<256:=by decide
 obtain⟨r,hr⟩:=q4j l hm;have hn:S.recN (qab ((S.packed l 1).getD 0 S.none_))=(S.body l).length:=by
  rw[hr];unfold S.recN;simp only[List.getD_cons_succ,jff];omega
 have hM:S.recM (qab ((S.packed l 1).getD 0 S.none_))=(S.packed l 1).length:=by
  unfold S.recM;rw[hn,qbq]
 have hfl:(S.packed l 1).flatMap qab=S.recB l 1++List.replicate (64*(((S.body l).length+4+63) / 64)-((S.body l).length+4)) 0:=by
  have:=qv7 (S.recB l 1).length (S.recB l 1) (qlh l hm) (jaq _);rw[qem] at this;exact this
 have hd4:∀z:List Int,(S.recB l 1++z).drop 4=S.body l++z:=fun z=>rfl;unfold S.readR;rw[q55 _ (qcv l 1),hM,hn,jao (by rw[jag,hr];simp),jfm,hfl,hd4,jfm,qry l (-1) _ h (by omega)];simp only;rw[show (4+(S.body l).length)=(S.recB l 1).length by rw[qem];omega,je3];have hz:(List.replicate (64*(((S.body l).length+4+63) / 64)-((S.body l).length+4)) (0:Int)).all (fun b=>decide (b=0))=true:=jbj.2 fun b hb=>by rw[(jev.1 hb).2];rfl
 rw[hz,jab]
theorem qtt{l l':List ByteArray}{m:Nat}(h:l'.take m=l.take m)(hm:1<=m):l'.getD 0 S.none_=l.getD 0 S.none_:=by
 have:=jas (fun x:List ByteArray=>x[0]?) h;simp only[jaz] at this;rw[jam (by omega),jam (by omega)] at this;rw[jai,jai,this]
theorem qua:∀(l:List ByteArray),(∀s∈l,s.size=64)->(l.flatMap qab).length=64*l.length
 | [],_=>rfl
 | s::l,h=>by
  rw[je0,jag,qct,h s (by simp),qua l fun t ht=>h t (by simp[ht]),jar];omega
theorem q58(l:List ByteArray):rng (l.flatMap qab):=fun b h=>by
 obtain⟨s,_,h⟩:=List.mem_flatMap.1 h;exact qdq s b h
theorem qps{l:List Int}(h:rng l)(i:Nat):0<=l.getD i 0/\l.getD i 0<256:=by
 rw[jai];cases hi:l[i]? with
 | none=>decide
 | some b=>exact h b (jbw hi)
theorem qqm{l:List ByteArray}{x:List qaa × Nat}(hs:∀s∈l,s.size=64)(h:S.readR l=some x):1<=x.2/\x.2<=l.length/\S.okC x.1=true/\x.2=(S.packed x.1 1).length/\(S.body x.1).length<16777216/\∀l',l'.take x.2=l.take x.2->S.readR l'=some x:=by
 have h':=h;unfold S.readR at h;split at h
 ·cases h
 rename_i hc;obtain⟨N,hN⟩:∃N,S.recN (qab (l.getD 0 S.none_))=N:=⟨_,rfl⟩;obtain⟨M,hM⟩:∃M,S.recM (qab (l.getD 0 S.none_))=M:=⟨_,rfl⟩;have hMN:M=(N+67) / 64:=by rw[<- hM,<- hN];rfl
 have hNlt:N<16777216:=by
  rw[<- hN];unfold S.recN;have:=qps (qdq (l.getD 0 S.none_)) 1;have:=qps (qdq (l.getD 0 S.none_)) 2;have:=qps (qdq (l.getD 0 S.none_)) 3;omega
 rw[hN,hM] at h;have hle:M<=l.length:=by rw[hM] at hc;omega
 split at h
 ·rename_i c hch;cases hz:(((l.take M).flatMap qab).drop (4+N)).all (fun b=>decide (b=0)) with
  | false=>rw[hz] at h;cases h
  | true =>
  rw[hz] at h;cases h;obtain⟨k1,k2⟩:=qsr _ _ _ (qez (qdz (q58 _) 4) N) hch;have hfl:((l.take M).flatMap qab).length=64*M:=by
   rw[qua _ fun s h=>hs s (jb4 h),jbc,jcl hle]
  rw[jbc,ja7,hfl,jcl (by omega)] at k2;refine⟨by show 1<=M;omega,hle,k1,by show M=(S.packed c 1).length;rw[qbq,k2];exact hMN,by show (S.body c).length<_;omega,fun l' ht=>?_⟩;have ht:l'.take M=l.take M:=ht;have h0:=qtt ht (by omega);have hl:M<=l'.length:=by
   have:=jas List.length ht;rw[jbc,jbc] at this;omega
  unfold S.readR at h' ⊢;rw[h0,hM,hN,ht];rw[hM,hN] at h';rw[jao (fun e=>by rcases e with e|e;exact hc (.inl e);omega)];rw[jao (fun e=>by rcases e with e|e;exact hc (.inl e);omega)] at h';exact h'
 ·cases h
def okS(l:List qaa)(last:Int):Prop:=S.okGo l last=true/\∀c∈l,c.2.2=false
theorem q6x{α:Type}(l:List α)(n i:Nat)(d:α):(l.drop n).getD i d=l.getD (n+i) d:=by simp[jai]
theorem qs0{α:Type}(l:List α){n i:Nat}(d:α)(h:i<n):(l.take n).getD i d=l.getD i d:=by simp[jai,h]
theorem q3c:∀{l:List qaa} {a b:Int},S.okGo l a=true->b<=a->S.okGo l b=true
 | [],_,_,_,_=>rfl
 | c::l,a,b,h,hb=>by
  obtain⟨h1,h2,h3,h4,h5⟩:=qbp.1 h;exact qbp.2 ⟨h1,h2,h3,by omega,h5⟩
theorem qmw(c:qaa)(hc:(0<=c.1/\c.1<=199)/\c.2.1.size<=4000):∀{l:List qaa} {last:Int},okS l last->last<c.1->okS (S.ins1 c l) last
 | [],last,h,hl=>by
  show okS (cond c.2.2 [] [c]) last;cases hg:c.2.2 with
  | true=>exact⟨rfl,fun x hx=>by cases hx⟩
  | false=>exact⟨qbp.2 ⟨hc.1,hc.2,fun h=>(by rw[hg] at h;cases h),hl,rfl⟩,fun x hx=>by rw[jb0.1 hx];exact hg⟩
 | a::r,last,⟨h,hn⟩,hl=>by
  obtain⟨h1,h2,h3,h4,h5⟩:=qbp.1 h;have hr:okS r a.1:=⟨h5,fun x hx=>hn x (jba _ hx)⟩;show okS (if a.1<c.1 then a::S.ins1 c r else if a.1=c.1 then cond c.2.2 r (c::r) else cond c.2.2 (a::r) (c::a::r)) last;by_cases q1:a.1<c.1
  ·rw[jam q1];obtain⟨i1,i2⟩:=qmw c hc hr q1;exact⟨qbp.2 ⟨h1,h2,h3,h4,i1⟩,fun x hx=>(jax.1 hx).elim (fun e=>by rw[e];exact hn a (by simp)) (i2 x)⟩
  ·rw[jao q1];by_cases q2:a.1=c.1
   ·rw[jam q2];cases hg:c.2.2 with
    | true=>exact⟨q3c h5 (by omega),fun x hx=>hn x (jba _ hx)⟩
    | false=>exact⟨qbp.2 ⟨hc.1,hc.2,fun h=>(by rw[hg] at h;cases h),hl,by rw[<- q2];exact h5⟩,fun x hx=>(jax.1 hx).elim (fun e=>by rw[e];exact hg) fun hx=>hn x (jba _ hx)⟩
   ·rw[jao q2];cases hg:c.2.2 with
    | true=>exact⟨h,hn⟩
    | false=>exact⟨qbp.2 ⟨hc.1,hc.2,fun h=>(by rw[hg] at h;cases h),hl,qbp.2 ⟨h1,h2,h3,by omega,h5⟩⟩,fun x hx=>(jax.1 hx).elim (fun e=>by rw[e];exact hg) (hn x)⟩
theorem qxs:∀{l m:List qaa} {last:Int},okS m (-1)->S.okGo l last=true->okS (S.changed m l) (-1)
 | [],m,_,h,_=>h
 | c::l,m,last,h,hl=>by
  obtain⟨h1,h2,h3,h4,h5⟩:=qbp.1 hl;exact qxs (l:=l) (qmw c ⟨h1,h2⟩ h (by omega)) h5
theorem qfa(f:Nat)(s:ByteArray)(r:List ByteArray)(c:List qaa)(u:Nat):S.recs (f+1) (s::r) c u=if (qab s).getD 0 0=0 then some (c,u) else match S.readR (s::r) with
   | none=>none
   | some x=>cond (decide (u=0)&&x.1.any (·.2.2)) none (S.recs f ((s::r).drop x.2) (S.changed c x.1) (u+x.2)):=rfl
def szS(l:List ByteArray):Prop:=∀s∈l,s.size=64
theorem szS.drop{l:List ByteArray}(h:szS l)(n:Nat):szS (l.drop n):=fun s hs=>h s (jdy hs)
theorem szS.take{l:List ByteArray}(h:szS l)(n:Nat):szS (l.take n):=fun s hs=>h s (jb4 hs)
theorem qw7:∀(f:Nat) {l:List ByteArray} {c:List qaa} {u:Nat} {R:List qaa × Nat},szS l->S.recs f l c u=some R->∀f',l.length<f'->S.recs f' l c u=some R
 | 0,l,c,u,R,_,h,_,_=>by cases h
 | f+1,l,c,u,R,hs,h,0,hf=>by omega
 | f+1,[],c,u,R,hs,h,f'+1,hf=>h
 | f+1,s::r,c,u,R,hs,h,f'+1,hf=>by
  rw[qfa] at h ⊢;by_cases h0:(qab s).getD 0 0=0
  ·rw[jam h0] at h ⊢;exact h
  ·rw[jao h0] at h ⊢;cases hr:S.readR (s::r) with
   | none=>rw[hr] at h;cases h
   | some x =>
    rw[hr] at h;simp only at h ⊢;obtain⟨k1,k2,_⟩:=qqm hs hr;cases hb:(decide (u=0)&&x.1.any (·.2.2)) with
    | true=>rw[hb] at h;cases h
    | false =>
     rw[hb,jah] at h;rw[jah];exact qw7 f (hs.drop x.2) h f' (by rw[ja7];omega)
theorem q4z(f:Nat)(l:List qaa)(rest:List ByteArray)(c:List qaa)(u:Nat)(h:S.okC l=true)(hb:(S.body l).length<16777216) :
  S.recs (f+1) (S.packed l 1++rest) c u=cond (decide (u=0)&&l.any (·.2.2)) none (S.recs f rest (S.changed c l) (u+(S.packed l 1).length)):=by
 have hr:=zbk l rest h hb;have hd:(S.packed l 1++rest).drop (S.packed l 1).length=rest:=je3 ..;obtain⟨r,hh⟩:=q4j l (m:=1) (by decide);have hp:=qcv l 1;cases hl:S.packed l 1++rest with
 | nil=>rw[List.append_eq_nil_iff.1 hl |>.1] at hp;cases hp
 | cons s q =>
  have hs:s=(S.packed l 1).getD 0 S.none_:=by
   rw[<- q55 (b:=rest) S.none_ hp,hl];rfl
  rw[qfa,hs,hh,<- hs,<- hl,hr];rw[jao (by simp)];show cond _ none (S.recs f ((S.packed l 1++rest).drop (S.packed l 1).length) _ _)=_;rw[hd]
theorem qrs:∀(f:Nat) {l:List ByteArray} {c c':List qaa} {u u':Nat},szS l->S.recs f l c u=some (c',u') ->
  u<=u'/\u'-u<=l.length/\(l.length=u'-u\/(qab (l.getD (u'-u) S.none_)).getD 0 0=0)/\(okS c (-1)->okS c' (-1)) /\
  ∀l2,szS l2->l2.take (u'-u)=l.take (u'-u)->∀f2 R,S.recs f2 (l2.drop (u'-u)) c' u'=some R->∃f3,S.recs f3 l2 c u=some R
 | 0,l,c,c',u,u',_,h=>by cases h
 | f+1,[],c,c',u,u',_,h=>by
  cases h;refine⟨jaq _,by omega,.inl (by simp),fun h=>h,fun l2 _ _ f2 R h=>⟨f2,?_⟩⟩;rw[jee,jd8] at h;exact h
 | f+1,s::r,c,c',u,u',hs,h=>by
  rw[qfa] at h;by_cases h0:(qab s).getD 0 0=0
  ·rw[jam h0] at h;cases h;refine⟨jaq _,by omega,.inr (by rw[jee];exact h0),fun h=>h,fun l2 _ _ f2 R h=>⟨f2,?_⟩⟩;rw[jee,jd8] at h;exact h
  ·rw[jao h0] at h;cases hr:S.readR (s::r) with
   | none=>rw[hr] at h;cases h
   | some x =>
    rw[hr] at h;simp only at h;obtain⟨k1,k2,k3,k4,k5,k6⟩:=qqm hs hr;cases hb:(decide (u=0)&&x.1.any (·.2.2)) with
    | true=>rw[hb] at h;cases h
    | false =>
     rw[hb,jah] at h;obtain⟨i1,i2,i3,i4,i5⟩:=qrs f (hs.drop x.2) h;rw[ja7] at i2 i3;have e:u'-u=x.2+(u'-(u+x.2)):=by omega
     refine⟨by omega,by omega,?_,fun hc=>i4 (qxs hc k3),fun l2 h2 ht f2 R hR=>?_⟩
     ·rcases i3 with i3|i3
      ·exact .inl (by omega)
      ·refine .inr ?_;rw[q6x,<- e] at i3;exact i3
     ·have ht1:l2.take x.2=(s::r).take x.2:=by
       have:=jas (List.take x.2) ht
       rwa [jdi,jdi,jcl (by omega)] at this
      obtain⟨f3,h3⟩:=i5 (l2.drop x.2) (h2.drop _) (by
       have:=jas (List.drop x.2) ht
       rwa [jd9,jd9,show u'-u-x.2=u'-(u+x.2) by omega] at this) f2 R (by rw[jb5,<- e];exact hR)
      have hr2:=k6 l2 ht1;have hhd:=qtt ht1 k1;cases l2 with
      | nil =>
       have:=jas List.length ht1;rw[jbc,jbc] at this;simp at this;omega
      | cons s2 r2 =>
       have hhd:s2=s:=hhd;refine⟨f3+1,?_⟩;rw[qfa,hhd,jao h0,<- hhd,hr2];simp only;rw[hb,jah];exact h3
def over(L:List ByteArray)(a:Nat)(ss:List ByteArray):List ByteArray:=L.take a++(ss++L.drop (a+ss.length))
def qay:Nat->List ByteArray->List DPut
 | _,[]=>[]
 | a,s::ss=>((a:Int),s)::qay (a+1) ss
theorem qq5:∀(a:Nat) (ss:List ByteArray),(qay a ss).length=ss.length
 | _,[]=>rfl
 | a,s::ss=>jas (·+1) (qq5 (a+1) ss)
theorem qk1(a:Nat)(s:ByteArray)(ss:List ByteArray):S.puts (a:Int) (s::ss)=S.put (a:Int) s::S.puts ((a+1:Nat):Int) ss:=rfl
theorem qt6:∀(a:Nat) (x y:List ByteArray),S.puts (a:Int) (x++y)=S.puts (a:Int) x++S.puts ((a+x.length:Nat):Int) y
 | a,[],y=>rfl
 | a,s::x,y=>by
  rw[jch,qk1,qk1,qt6 (a+1) x y,jch,jar,show a+(x.length+1)=a+1+x.length by omega]
theorem qdj:∀(a:Nat) (x:List ByteArray),(S.puts (a:Int) x).length=x.length
 | _,[]=>rfl
 | a,s::x=>jas (·+1) (qdj (a+1) x)
theorem qun:∀(n a:Nat) (x:List ByteArray),(S.puts (a:Int) x).take n=S.puts (a:Int) (x.take n)
 | 0,a,x=>by rw[jd7,jd7];rfl
 | n+1,a,[]=>rfl
 | n+1,a,s::x=>by rw[qk1,jd3,jd3,qk1,qun n (a+1) x]
theorem zie(L:List ByteArray)(a:Nat):over L a []=L:=by
 unfold over;rw[jck,jaw,jb6,jcw]
theorem qcl{L:List ByteArray}{a:Nat}{ss:List ByteArray}(h:a+ss.length<=L.length):(over L a ss).length=L.length:=by
 unfold over;rw[jag,jag,jbc,ja7];omega
theorem qg8{L:List ByteArray}{a:Nat}{ss:List ByteArray}(h:a+ss.length<=L.length):(over L a ss).take a=L.take a:=by
 unfold over;rw[jc7 (by rw[jbc];omega),jdi,Nat.min_self]
theorem qgu{L:List ByteArray}{a:Nat}{ss:List ByteArray}(h:a+ss.length<=L.length):(over L a ss).drop a=ss++L.drop (a+ss.length):=by
 unfold over;rw[jd6 (by rw[jbc];omega),jct (by rw[jbc];omega),jck]
theorem qog{L:List ByteArray}{a:Nat}{ss:List ByteArray}(h:a+ss.length<=L.length):(over L a ss).drop (a+ss.length)=L.drop (a+ss.length):=by
 rw[<- jb5,qgu h,je3]
theorem zkz{L:List ByteArray}{a:Nat}{ss:List ByteArray}(hL:szS L)(hs:szS ss):szS (over L a ss):=fun s h=>by
 unfold over at h;rcases jbn.1 h with h|h
 ·exact hL s (jb4 h)
 rcases jbn.1 h with h|h
 ·exact hs s h
 ·exact hL s (jdy h)
theorem qdn:∀(ss:List ByteArray) (a:Nat) (L:List ByteArray),a+ss.length<=L.length->S.settled L (qay a ss)=over L a ss
 | [],a,L,_=>(zie L a).symm
 | s::ss,a,L,h=>by
  rw[jar] at h;show S.settled (L.set (a:Int).toNat s) (qay (a+1) ss)=_;rw[jbs,qdn ss (a+1) _ (by rw[jcj];omega)];unfold over;rw[jar,List.drop_set_of_lt (by omega),List.take_set];have:(L.take (a+1)).set a s=L.take a++[s]:=by
   rw[jdx (by omega),List.set_append_right _ _ (by rw[jbc];omega)];rw[jbc,jcl (by omega),jee];rfl
  rw[this,ja0,jch,jck,show a+1+ss.length=a+(ss.length+1) by omega];rfl
theorem qws{n a:Nat}{s:ByteArray}(hs:s.size=64)(h:a<n):S.badPut (n:Int) ((a:Int),s)=false:=by
 unfold S.badPut S.short S.inI;rw[jan hs,jan (show (0:Int)<=(a:Int) by omega),jan (show (a:Int)<=(n:Int)-1 by omega)];rfl
theorem qgx{L:List ByteArray}{a:Nat}{s:ByteArray}{q:List DPut}{r:List DAct}(hs:s.size=64)(h:a<L.length)(hq:q.length<4000):S.doGo (S.put (a:Int) s::r) L q=S.doGo r L (q++[((a:Int),s)]):=by
 show cond false _ (cond (S.badPut (L.length:Int) ((a:Int),s)) _ (if q.length=4000 then _ else _))=_;rw[qws hs h,jah,jah,jao (by omega)];rfl
theorem qgv:∀(ss:List ByteArray) (a:Nat) (r:List DAct) (L:List ByteArray) (q:List DPut),szS ss->a+ss.length<=L.length->q.length+ss.length<=4000 ->
  S.doGo (S.puts (a:Int) ss++r) L q=S.doGo r L (q++qay a ss)
 | [],a,r,L,q,_,_,_=>by
  show S.doGo r L q=S.doGo r L (q++[]);rw[ja9]
 | s::ss,a,r,L,q,hs,h,hq=>by
  rw[jar] at h hq;rw[qk1,jch,qgx (hs s (by simp)) (by omega) (by omega),qgv ss (a+1) r L _ (fun t ht=>hs t (by simp[ht])) (by omega) (by rw[jag];simp only[jar,jaw];omega),ja0];rfl
theorem qef(L:List ByteArray)(q:List DPut)(r:List DAct):S.doGo (S.sync::r) L q=S.doGo r (S.settled L q) []:=rfl
theorem qey(L:List ByteArray)(q:List DPut):S.doGo [] L q=((L,q),0):=rfl
theorem qxd{s p:ByteArray}{n:Nat}(hs:s.size=64)(hp:p.size=64)(hn:n<=64):(S.tear s p n).size=64:=by
 unfold S.tear;rw[qbg,jag,jbc,ja7,qct,qct];omega
theorem q6b(s p:ByteArray)(n:Nat):rng ((qab p).take n++(qab s).drop n):=qfp (qez (qdq p) n) (qdz (qdq s) n)
theorem zkr{s p:ByteArray}{n:Nat}(hs:s.size=64)(hp:p.size=64)(h1:(qab s).getD 0 0=0)(h2:(qab p).getD 0 0=0):(qab (S.tear s p n)).getD 0 0=0:=by
 unfold S.tear;rw[qbr (q6b s p n)];cases n with
 | zero=>exact h1
 | succ n =>
  cases hb:qab p with
  | nil=>have:=qct p;rw[hb,hp] at this;cases this
  | cons b l=>rw[hb] at h2;exact h2
theorem tear_mark{s p:ByteArray}{n:Nat}(hs:s.size=64)(hp:p.size=64)(h:(qab s).drop 1=(qab p).drop 1):S.tear s p n=if n=0 then s else p:=by
 unfold S.tear;cases n with
 | zero=>rw[jam rfl,jd7,jck,jd8,qfm]
 | succ n =>
  rw[jao (by omega)];have e:(qab s).drop (n+1)=(qab p).drop (n+1):=by
   have:=jas (List.drop n) h
   rwa [jb5,jb5,Nat.add_comm] at this
  rw[e,jcw,qfm]
theorem qvg:∀(ss:List ByteArray) (a:Nat) (kept:List Int) (L:List ByteArray),szS L->szS ss->(∀n∈kept,0<=n/\n<=64)->a+ss.length<=L.length ->
  (S.crashGo (qay a ss) kept L).length=L.length/\szS (S.crashGo (qay a ss) kept L)/\(S.crashGo (qay a ss) kept L).take a=L.take a/\(S.crashGo (qay a ss) kept L).drop (a+ss.length)=L.drop (a+ss.length) /\
  ((qab (L.getD a S.none_)).getD 0 0=0->(qab (ss.getD 0 S.blank)).getD 0 0=0->(qab ((S.crashGo (qay a ss) kept L).getD a S.none_)).getD 0 0=0)
 | [],a,kept,L,hL,_,_,_=>by
  have e:S.crashGo (qay a []) kept L=L:=by cases kept<;>rfl
  rw[e];exact⟨rfl,hL,rfl,rfl,fun h _=>h⟩
 | s::ss,a,[],L,hL,hs,hk,h=>by
  have e:S.crashGo (qay a (s::ss)) [] L=L:=rfl;rw[e];exact⟨rfl,hL,rfl,rfl,fun h _=>h⟩
 | s::ss,a,n::kept,L,hL,hs,hk,h=>by
  rw[jar] at h;have hLa:(L.getD a S.none_).size=64:=by
   rw[jai,jac (by omega)];exact hL _ (jbk _)
  have hss:=hs s (by simp);obtain⟨n0,n1⟩:=hk n (by simp);have ht:=qxd (n:=n.toNat) hLa hss (by omega);have hL2:szS (L.set a (S.tear (L.getD a S.none_) s n.toNat)):=fun t h=>by
   rcases jei h with h|rfl
   ·exact hL t h
   ·exact ht
  obtain⟨i1,i2,i3,i4,i5⟩:=qvg ss (a+1) kept (L.set a (S.tear (L.getD a S.none_) s n.toNat)) hL2 (fun t h=>hs t (by simp[h])) (fun m h=>hk m (by simp[h])) (by rw[jcj];omega);have e:S.crashGo (qay a (s::ss)) (n::kept) L=S.crashGo (qay (a+1) ss) kept (L.set a (S.tear (L.getD a S.none_) s n.toNat)):=by
   show S.crashGo _ _ (L.set (a:Int).toNat (S.tear (L.getD (a:Int).toNat S.none_) s n.toNat))=_;rw[jbs]
  rw[e];refine⟨i1.trans (jcj ..),i2,?_,?_,fun h1 h2=>?_⟩
  ·have:=jas (List.take a) i3;rw[jdi,jdi,jcl (by omega),List.take_set_of_le (by omega)] at this;exact this
  ·rw[jar,show a+(ss.length+1)=a+1+ss.length by omega,i4,List.drop_set_of_lt (by omega)]
  ·have:=jas (fun x:List ByteArray=>x[a]?) i3;simp only[jaz] at this;rw[jam (by omega),jam (by omega),List.getElem?_set_self (by omega)] at this;have hx:(S.crashGo (qay (a+1) ss) kept (L.set a (S.tear (L.getD a S.none_) s n.toNat))).getD a S.none_=S.tear (L.getD a S.none_) s n.toNat:=by rw[jai,this];rfl
   rw[hx];exact zkr hLa hss h1 h2
theorem qep{n:Nat}(h2:n % 2=0)(h8:8<=n){h:Int}(hh:h=0\/h=1):∃a:Nat,S.half n h=((a:Int),((a+(n / 2-1):Nat):Int))/\1<=a/\a+(n / 2-1)<n/\(h=0->a=1)/\(h=1->a=n / 2):=by
 rcases hh with rfl|rfl
 ·refine⟨1,?_,by omega,by omega,fun _=>rfl,fun h=>(by cases h)⟩;unfold S.half;rw[jam rfl];exact Prod.ext rfl (by show ((n / 2:Nat):Int)=((1+(n / 2-1):Nat):Int);omega)
 ·refine⟨n / 2,?_,by omega,by omega,fun h=>(by cases h),fun _=>rfl⟩;unfold S.half;rw[jao (by decide)];exact Prod.ext rfl (by show (n:Int)-1=((n / 2+(n / 2-1):Nat):Int);omega)
structure Dk (L:List ByteArray):Prop where
 sz:szS L
 ge:8<=L.length
 le:L.length<=1000
 ev:L.length % 2=0
theorem Dk.check{L:List ByteArray}(h:Dk L):S.checkDisk (L,[])=0:=by
 unfold S.checkDisk;have h1:=h.ge;have h2:=h.le;have h3:L.any S.short=false:=by
  rw[jdg];intro e;obtain⟨s,hs,e⟩:=jds.1 e;unfold S.short at e;rw[jan (h.sz s hs)] at e;cases e
 rw[jao (show ¬(1000<L.length\/4000<([]:List DPut).length) by simp;omega),jao];have:=h.ev;rintro(e|e|e|e)
 ·exact absurd e (show ¬L.length<8 by omega)
 ·exact e this
 ·cases e
 ·rw[show ((L,([]:List DPut)).1).any S.short=L.any S.short from rfl,h3] at e;cases e
def topB(h:Int):List Int:=h::List.replicate 63 0
structure Jn (L:List ByteArray) (h:Int) (a u:Nat) (c:List qaa):Prop where
 dk:Dk L
 hh:h=0\/h=1
 top:qab (L.getD 0 S.none_)=topB h
 fr:S.half L.length h=((a:Int),((a+(L.length / 2-1):Nat):Int))
 a1:1<=a
 to_:a+(L.length / 2-1)<L.length
 rc:∃f,S.recs f ((L.drop a).take (L.length / 2-1)) [] 0=some (c,u)
 u1:1<=u
theorem qwa{L:List ByteArray}{h:Int}{a K:Nat}(hf:S.half L.length h=((a:Int),((a+K:Nat):Int))):S.halfS L h=(L.drop a).take K:=by
 unfold S.halfS;rw[hf];simp only[jbs];rw[jd9,ja4]
theorem Jn.open_{L:List ByteArray}{h:Int}{a u:Nat}{c:List qaa}(j:Jn L h a u c):S.opened L=some (h,u,c):=by
 obtain⟨f,hf⟩:=j.rc;have h0:(qab (L.getD 0 S.none_)).getD 0 0=h:=by rw[j.top];rfl
 have hd:(qab (L.getD 0 S.none_)).drop 1=List.replicate 63 0:=by rw[j.top];rfl
 unfold S.opened;rw[h0,hd,jao (show ¬(1<h\/¬List.replicate 63 (0:Int)=List.replicate 63 0) from fun e=>by rcases e with e|e;(rcases j.hh with rfl|rfl<;>omega);exact e rfl),qwa j.fr];rw[qw7 f ((j.dk.sz.drop a).take _) hf (L.length+1) (by rw[jbc,ja7];omega)];have:=j.u1;simp only;rw[jao (by omega)]
theorem zbo{L:List ByteArray}(d:Dk L){h:Int}{u:Nat}{c:List qaa}(ho:S.opened L=some (h,u,c)):∃a,Jn L h a u c:=by
 unfold S.opened at ho;split at ho
 ·cases ho
 rename_i hn;have hz:(L.getD 0 S.none_).size=64:=by
  have:=d.ge;rw[jai,jac (by omega)];exact d.sz _ (jbk _)
 have hb:(qab (L.getD 0 S.none_)).length=64:=by rw[qct,hz]
 have h0:=qps (qdq (L.getD 0 S.none_)) 0;have ht:qab (L.getD 0 S.none_)=topB ((qab (L.getD 0 S.none_)).getD 0 0):=by
  cases hl:qab (L.getD 0 S.none_) with
  | nil=>rw[hl] at hb;cases hb
  | cons x r =>
   have:r=List.replicate 63 0:=by
    refine jci fun e=>hn (.inr ?_);rw[hl];exact e
   rw[this];rfl
 split at ho
 ·rename_i c' u' hr;split at ho
  ·cases ho
  rename_i hu;cases ho;have hh:(qab (L.getD 0 S.none_)).getD 0 0=0\/(qab (L.getD 0 S.none_)).getD 0 0=1:=by omega
  obtain⟨a,e1,e2,e3,_,_⟩:=qep d.ev d.ge hh;exact⟨a,d,hh,ht,e1,e2,e3,⟨_,by rw[<- qwa e1];exact hr⟩,by omega⟩
 ·cases ho
theorem Jn.kept{L L':List ByteArray}{h:Int}{a u:Nat}{c:List qaa}(j:Jn L h a u c)(d:Dk L')(hl:L'.length=L.length)(ht:L'.take (a+u)=L.take (a+u))(hu:u<=L.length / 2-1){c':List qaa}{v f:Nat}(hv:1<=v)
  (hr:S.recs f ((L'.drop (a+u)).take (L.length / 2-1-u)) c u=some (c',v)):Jn L' h a v c':=by
 obtain⟨f0,h0⟩:=j.rc;obtain⟨k1,k2,k3,k4,k5⟩:=qrs f0 ((j.dk.sz.drop a).take _) h0;rw[jde] at k2 k3 k5;have hto:=j.to_;have ha1:=j.a1;have h2:((L'.drop a).take (L.length / 2-1)).take u=((L.drop a).take (L.length / 2-1)).take u:=by
  rw[jdi,jdi,jcl hu];have:=jas (List.drop a) ht
  rwa [jd9,jd9,ja4] at this
 obtain⟨f3,h3⟩:=k5 ((L'.drop a).take (L.length / 2-1)) ((d.sz.drop a).take _) h2 f (c',v) (by
  rw[jd9,jb5];exact hr)
 refine⟨d,j.hh,?_,by rw[hl];exact j.fr,j.a1,by rw[hl];exact j.to_,⟨f3,by rw[hl];exact h3⟩,hv⟩;rw[qtt ht (by omega)];exact j.top
theorem Jn.le{L:List ByteArray}{h:Int}{a u:Nat}{c:List qaa}(j:Jn L h a u c):u<=L.length / 2-1/\okS c (-1)/\(u=L.length / 2-1\/(qab (L.getD (a+u) S.none_)).getD 0 0=0):=by
 obtain⟨f0,h0⟩:=j.rc;obtain⟨k1,k2,k3,k4,k5⟩:=qrs f0 ((j.dk.sz.drop a).take _) h0;have hto:=j.to_;have hl:((L.drop a).take (L.length / 2-1)).length=L.length / 2-1:=by rw[jbc,ja7];omega
 rw[jde,hl] at k2 k3;refine⟨k2,k4 ⟨rfl,fun x hx=>by cases hx⟩,?_⟩;rcases k3 with k3|k3
 ·exact .inl k3.symm
 ·by_cases e:u=L.length / 2-1
  ·exact .inl e
  ·refine .inr ?_;rw[qs0 _ _ (by omega),q6x] at k3;exact k3
theorem Jn.more{L L':List ByteArray}{h:Int}{a u:Nat}{c:List qaa}(j:Jn L h a u c)(d:Dk L')(hl:L'.length=L.length)(ht:L'.take (a+u)=L.take (a+u)){l:List qaa}(hc:S.okC l=true)(hb:(S.body l).length<16777216)
  (hn:u+(S.packed l 1).length<=L.length / 2-1) {rest:List ByteArray} (hr:L'.drop (a+u)=S.packed l 1++rest) (h0:u+(S.packed l 1).length=L.length / 2-1\/(qab (rest.getD 0 S.none_)).getD 0 0=0):Jn L' h a (u+(S.packed l 1).length) (S.changed c l):=by
 have hu:=j.u1;refine j.kept d hl ht (by omega) (f:=2) (by omega) ?_;rw[hr,je7,jbp (by omega),q4z 1 l _ c u hc hb,show decide (u=0)=false from jat (by omega),jdm,jah];cases hz:rest.take (L.length / 2-1-u-(S.packed l 1).length) with
 | nil=>rfl
 | cons s r =>
  rw[qfa];rcases h0 with h0|h0
  ·rw[show L.length / 2-1-u-(S.packed l 1).length=0 by omega,jd7] at hz;cases hz
  ·have:s=rest.getD 0 S.none_:=by
    cases rest with
    | nil=>rw[List.take_nil] at hz;cases hz
    | cons s' r' =>
     cases hk:L.length / 2-1-u-(S.packed l 1).length with
     | zero=>rw[hk] at hz;cases hz
     | succ k=>rw[hk,jd3] at hz;cases hz;rfl
   rw[this,jam h0]
theorem Jn.same{L L':List ByteArray}{h:Int}{a u:Nat}{c:List qaa}(j:Jn L h a u c)(d:Dk L')(hl:L'.length=L.length)(ht:L'.take (a+u)=L.take (a+u))(h0:u=L.length / 2-1\/(qab (L'.getD (a+u) S.none_)).getD 0 0=0):Jn L' h a u c:=by
 have hu:=j.le.1;have hto:=j.to_;refine j.kept d hl ht hu (f:=1) j.u1 ?_;rcases h0 with h0|h0
 ·rw[show L.length / 2-1-u=0 by omega,jd7];rfl
 ·cases hz:(L'.drop (a+u)).take (L.length / 2-1-u) with
  | nil=>rfl
  | cons s r =>
   have:s=L'.getD (a+u) S.none_:=by
    have:=jas (fun x:List ByteArray=>x[0]?) hz;simp only[jaz,jbx,jb6,jap] at this;split at this
    ·rw[jai,this];rfl
    ·cases this
   rw[qfa,this,jam h0]
structure OkD (l:List ByteArray) (q:List DPut):Prop where
 sz:szS l
 le:l.length<=1000
 fit:S.fitP l q=true
 many:q.length<=4000
theorem zou{l:List ByteArray}:S.anyShort l=false↔szS l:=by
 unfold S.anyShort S.short szS;rw[jdg];constructor
 ·intro h s hs;refine jci fun e=>h (jds.2 ⟨s,hs,by rw[jat e];rfl⟩)
 ·intro h e;obtain⟨s,hs,e⟩:=jds.1 e;rw[jan (h s hs)] at e;cases e
theorem qjl{l:List ByteArray}{q:List DPut}:S.fitP l q=true↔∀p∈q,p.2.size=64/\0<=p.1/\p.1<l.length:=by
 unfold S.fitP;rw[jbj];constructor
 ·intro h p hp;have:=h p hp;rw[jcm] at this;exact qlp.1 this
 ·intro h p hp;rw[jcm];exact qlp.2 (h p hp)
theorem qp9{d:qah}(h:S.checkDisk d=0):OkD d.1 d.2/\8<=d.1.length/\d.1.length % 2=0:=by
 unfold S.checkDisk at h;split at h
 ·cases h
 rename_i h1;split at h
 ·cases h
 rename_i h2;have h3:d.1.any S.short=false:=by rw[jdg];exact fun e=>h2 (.inr (.inr (.inr e)))
 have h4:d.2.any (S.badPut d.1.length)=false:=by rw[jdg];exact fun e=>h2 (.inr (.inr (.inl e)))
 refine⟨⟨zou.1 h3,by omega,?_,by omega⟩,by omega,jci fun e=>h2 (.inr (.inl e))⟩;unfold S.fitP;rw[jbj];intro p hp;rw[jcm,jdg];intro e;rw[jdo] at h4;exact h4 p hp e
theorem qzp:∀(q:List DPut) {l:List ByteArray},S.fitP l q=true->szS l->(S.settled l q).length=l.length/\szS (S.settled l q)
 | [],l,_,h=>⟨rfl,h⟩
 | p::q,l,hf,h=>by
  have hf:=qjl.1 hf;have hp:=hf p (by simp);obtain⟨i1,i2⟩:=qzp q (l:=l.set p.1.toNat p.2) (qjl.2 fun x hx=>by rw[jcj];exact hf x (by simp[hx])) fun s hs=>by
   rcases jei hs with hs|rfl
   ·exact h s hs
   ·exact hp.1
  exact⟨i1.trans (jcj ..),i2⟩
theorem OkD.sync{l:List ByteArray}{q:List DPut}(h:OkD l q):OkD (S.settled l q) []:=by
 obtain⟨h1,h2⟩:=qzp q h.fit h.sz;exact⟨h2,by rw[h1];exact h.le,rfl,jb8 _⟩
theorem OkD.put{l:List ByteArray}{q:List DPut}{p:DPut}(h:OkD l q)(hp:S.badPut l.length p=false)(hq:¬q.length=4000):OkD l (q++[p]):=by
 refine⟨h.sz,h.le,qjl.2 fun x hx=>?_,?_⟩
 ·rcases jbn.1 hx with hx|hx
  ·exact qjl.1 h.fit x hx
  ·rw[jb0.1 hx];exact qlp.1 hp
 ·have:=h.many;rw[jag];simp only[jar,jaw];omega
theorem q31{s:ByteArray}:s.size=0↔s=S.lit []:=⟨fun h=>qfk (by
  have h1:=qct s;rw[h] at h1;rw[ja1.1 h1];rfl),fun h=>by rw[h];rfl⟩
theorem q7o(v:DAct):(Bool.and (keqI v.2.1 (Int.ofNat 0)) (Bool.and (keqS v.2.2 (S.lit [])) true))=decide (v.2.1=0/\v.2.2.size=0):=by
 have e1:keqI v.2.1 (Int.ofNat 0)=decide (v.2.1=0):=rfl;have e2:keqS v.2.2 (S.lit [])=decide (v.2.2.size=0):=by
  show decide (v.2.2=S.lit [])=_;exact jdr.2 q31.symm
 rw[e1,e2,Bool.and_true,Bool.decide_and]
theorem zck(a:DAct)(r:List DAct)(l:List ByteArray)(q:List DPut):S.doGo (a::r) l q=cond a.1 (if a.2.1=0/\a.2.2.size=0 then S.doGo r (S.settled l q) [] else (([],[]),1))
  (cond (S.badPut l.length a.2) (([],[]),1) (if q.length=4000 then (([],[]),3) else S.doGo r l (q++[a.2]))):=rfl
theorem zf1(d:qah)(l:List DAct)(hl:l.length<LF):Fz4 LF d l=some ((S.doD d l).1,(S.doD d l).2,()):=by
 simp only[Fz4,qqk];show cond (!ieqI (S.checkDisk d) (Int.ofNat 0)) _ _=_;unfold S.doD;by_cases h0:S.checkDisk d=0
 ·rw[qbo (show _=Int.ofNat 0 from h0),jbb,jah,jam h0];refine range0 (σ:=List DPut × List ByteArray) (R:=Rtz4) l (fun i s=>(i,s.1,s.2)) (fun _ s=>OkD s.2 s.1) (fun rest _ s=>some ((S.doGo rest s.2 s.1).1,(S.doGo rest s.2 s.1).2,())) hl (fun K s _=>?_) (fun K i v rest s hs r h=>?_) (d.2,d.1) (qp9 h0).1
  ·simp only[qmq,qc5,jah];rfl
  ·obtain⟨q,t⟩:=s;simp only at hs h;have hle:=hs.le;have hm:=hs.many;have r1:Nat.ble (Nat.mul (Nat.add q.length 1) 24) 140737488355328=true:=jay (by show (q.length+1)*24<=_;omega);have hw:=q65 (n:=t.length) (by unfold LF;omega);have hb:∀p:DPut,S.badPut t.length p=(S.short p.2||!S.inI p.1 (Int.ofNat 0) ((t.length:Int)-1)):=fun _=>rfl;simp only[qmq,r.ilt,r.get,r.next,jab,hw,r1,hs.fit,q7o];rw[zck];obtain⟨sy,p1,p2⟩:=v;simp only;rw[hb];cases sy with
   | true =>
    simp only[jab,jah,jbb];by_cases hz:p1=0/\p2.size=0
    ·rw[jan hz,jam hz];exact h ([],S.settled t q) hs.sync
    ·rw[jat hz,jao hz];rfl
   | false =>
    simp only[jab,jah,ja6];cases hsh:S.short p2 with
    | true=>rfl
    | false =>
     cases hin:S.inI p1 (Int.ofNat 0) ((t.length:Int)-1) with
     | false=>rfl
     | true =>
      simp only[jab,jah,jbb,Bool.or_false];by_cases h4:q.length=4000
      ·rw[qbo (show Int.ofNat q.length=Int.ofNat 4000 from jas Int.ofNat h4),jab,jam h4];rfl
      ·rw[qbn (show ¬Int.ofNat q.length=Int.ofNat 4000 from fun e=>h4 (jc5 e)),jah,jao h4];exact h (q++[(p1,p2)],t) (hs.put (by rw[hb,hsh,hin];rfl) h4)
 ·rw[qbn (show ¬_=Int.ofNat 0 from h0),ja6,jab,jao h0]
theorem qk4:Con Try.prog idz4 spz4:=mkz4 ⟨qjo,qjk,q3x,zel,qoi,zem,trivial⟩ fun x y hx h=>⟨LF,(zf1 x.1 x.2.1 (qdv (c:=cAct) hx.2.1)).trans h⟩
theorem zi7(s p:ByteArray)(n:Nat):ByteArray.append (ByteArray.extract p 0 n) (ByteArray.extract s n s.size)=S.tear s p n:=by
 unfold S.tear;refine qfk ?_;rw[qbr (q6b s p n)];show qab (p.extract 0 n++s.extract n s.size)=_;rw[zm0,q4p,q25 s n s.size (jaq _)]
theorem zn1(p:DPut)(q:List DPut)(n:Int)(r:List Int)(l:List ByteArray):S.crashGo (p::q) (n::r) l=S.crashGo q r (l.set p.1.toNat (S.tear (l.getD p.1.toNat S.none_) p.2 n.toNat)):=rfl
theorem zmq{l:List ByteArray}(h:szS l){i:Nat}{s:ByteArray}(hs:s.size=64):szS (l.set i s):=fun t ht=>by
 rcases jei ht with ht|rfl
 ·exact h t ht
 ·exact hs
theorem zab{s p:ByteArray}{n:Int}(hs:s.size=64)(hp:p.size=64)(h0:0<=n)(h1:n<=64) :
  lchk (Int.ofNat 0) n (Int.ofNat p.size) (Int.ofNat p.size)=true/\lchk n (Int.ofNat s.size) (Int.ofNat s.size) (Int.ofNat s.size)=true /\
  Nat.ble (Nat.succ (Nat.add (ByteArray.size (ByteArray.extract p 0 (Int.toNat n))) (ByteArray.size (ByteArray.extract s (Int.toNat n) (Int.toNat (Int.ofNat s.size)))))) 9223372036854775808=true /\
  ByteArray.append (ByteArray.extract p 0 (Int.toNat n)) (ByteArray.extract s (Int.toNat n) (Int.toNat (Int.ofNat s.size)))=S.tear s p n.toNat:=by
 rw[hs,hp];refine⟨qb1.2 ⟨jbt _,h0,h1,jbt _⟩,qb1.2 ⟨h0,h1,jbt _,jbt _⟩,jay ?_,?_⟩
 ·rw[jey,jey];show _+_+1<=_;omega
 ·have:=zi7 s p n.toNat;rw[hs] at this;exact this
theorem zgq(d:qah)(l:List Int)(hl:l.length<LF):Fz5 LF d l=some ((S.crash d l).1,(S.crash d l).2,()):=by
 have e1:idxO (fun v0:Int=>(some (!(S.inI v0 (Int.ofNat 0) (Int.ofNat 64))))) l 0=some (Go.Jx.S.idx (fun n=>!S.inI n 0 64) l):=qov _ fun x _=>rfl;simp only[Fz5,qr8,qcf];show cond (!ieqI (S.checkDisk d) (Int.ofNat 0)) _ _=_;unfold S.crash;by_cases h0:S.checkDisk d=0
 ·rw[qbo (show _=Int.ofNat 0 from h0),jbb,jah,jam h0];by_cases h1:d.2.length<l.length
  ·rw[jan h1,jab,jam (.inl h1)];rfl
  rw[jat h1,jah,e1];simp only[qnk];cases h2:l.any (fun n=>!S.inI n 0 64) with
  | true=>rw[jab,jam (.inr rfl)];rfl
  | false =>
  rw[jah,jao (by simp[h1])];have hk:∀n∈l,0<=n/\n<=64:=fun n hn=>by
   rw[jdo] at h2;have:=h2 n hn;rw[Bool.not_eq_true,jeu] at this;exact qbl.1 this
  have hf:=qjl.1 (qp9 h0).1.fit;refine(range0 (σ:=List ByteArray) (R:=Rtz5) l (fun i s=>(i,s)) (fun _ s=>szS s/\s.length=d.1.length) (fun rest i s=>some ((S.crashGo (d.2.drop i) rest s,[]),0,())) hl (fun K s _=>?_) (fun K i v rest s hs r h=>?_) d.1 ⟨(qp9 h0).1.sz,rfl⟩).trans ?_
  ·simp only[qmb,qc5,jah];have:S.crashGo (d.2.drop l.length) [] s=s:=by cases d.2.drop l.length<;>rfl
   rw[this];rfl
  ·have hi:=r.lt;have hip:i<d.2.length:=by omega
   have hg:d.2[i]?=some d.2[i]:=jac hip;obtain⟨z1,z2,z3⟩:=hf d.2[i] (jbk hip);have hd:d.2.drop i=d.2[i]::d.2.drop (i+1):=jdk hip;obtain⟨x,y1,y2,y3⟩:=qt7 (l:=s) z2 (by rw[hs.2];exact z3);have hx:=hs.1 x y3;obtain⟨v0,v1⟩:=hk v r.mem;obtain⟨w1,w2,w3,w4⟩:=zab hx z1 v0 v1;simp only[qmb,r.ilt,r.get,r.next,jab,qc1,hg,y1,y2,w1,w2,w3,w4];rw[hd,zn1,jai,y2];exact h _ ⟨zmq hs.1 (qxd hx z1 (by omega)),by rw[jcj];exact hs.2⟩
  ·rfl
 ·rw[qbn (show ¬_=Int.ofNat 0 from h0),ja6,jab,jao h0]
theorem qwg:Con Try.prog idz5 spz5:=mkz5 ⟨qjo,qjk,qoi,trivial⟩ fun x y hx h=>⟨LF,(zgq x.1 x.2.1 (qdv (c:=.int .i64) hx.2.1)).trans h⟩
abbrev qny:Type:=ByteArray × Unit
abbrev znh:Nat:=56
def q6n(lf:Nat)(x1:Int):Option qny:=(some ((ByteArray.mk (Array.mk (List.cons (UInt8.ofBitVec (BitVec.ofFin (Fin.mk (Nat.mod (Int.toNat (IntKind.u8.wrap (Int.fdiv x1 (Int.ofNat 256)))) 256) (jcy (Int.toNat (IntKind.u8.wrap (Int.fdiv (x1,()).1 (HPow.hPow (OfNat.ofNat 2) (Min.min (Int.toNat (OfNat.ofNat 8)) (IntKind.bits IntKind.i64)))))) (BitVec.ofNat._proof_1 (OfNat.ofNat 8)))))) (List.cons (UInt8.ofBitVec (BitVec.ofFin (Fin.mk (Nat.mod (Int.toNat (IntKind.u8.wrap x1)) 256) (jcy (Int.toNat (IntKind.u8.wrap (x1,()).1)) (BitVec.ofNat._proof_1 (OfNat.ofNat 8)))))) [])))),()))
def qno(lf:Nat)(x1:Int):Option qny:=q6n lf x1
theorem zjx{g:ElA [(.int .i64)]->Option qny}(hsm:SmOK Try.prog [])(hg:∀(x:ElA [(.int .i64)]) (y:qny),WfA [(.int .i64)] x->g x=some y->∃lf,qno lf x.1=some y):Con Try.prog 56 ⟨[(.int .i64)],[(false,.str)],g⟩ :=
 conU (fi:=fi56) (hxl:=[]) (fun lf x=>qno lf x.1) cm3 q74 trivial hsm hg
def nmz7:Nat->Option Nm:=fun k=>cond (Nat.beq k 3) (some ⟨[3,6,7,8],[],[],[],[],0,0,false⟩) (none)
def stz7:Nat->Bool:=fun k=>cond (Nat.beq k 3) true (false)
def hdz7:=stz7
abbrev Rtz7:Type:=ByteArray × Unit
def qv6:List (Nat × Sm):=[(56,qq0)]
def q0n:List (Nat × Hx):=[]
def clz7(R:Type)(lf:Nat):ClK R:=qa4 Try.prog ttT.get ftT.get (nm1 55 nmz7) (smL qv6) (hxL q0n) lf 20 R
abbrev idz7:Nat:=55
def qhf(x1:(List qaa))(p:ByteArray × Int):NRes:=(NRes.mk (.node none (.node none (.node (some (IV.str p.1)) (.node (some (IV.int .i64 (Int.ofNat x1.length))) .leaf .leaf) .leaf) .leaf) (.node none (.node none (.node (some (IV.int .i64 p.2)) .leaf .leaf) .leaf) (.node (some (IV.lst qac x1)) .leaf .leaf))) (IS.mk .leaf 0) [] 0)
def q04(lf:Nat)(x1:(List qaa))(L3:(ByteArray × Int)->Option Rtz7):Option Rtz7:=(L3 ((S.lit []),(Int.ofNat 0)))
def qp4(lf:Nat)(x1:(List qaa))(L3:(ByteArray × Int)->Option Rtz7)(p:ByteArray × Int):Option Rtz7:=(cond (iltI p.2 (Int.ofNat x1.length)) (match (jget x1 p.2) with|none=>none|some v0=>(cond (Nat.ble (Nat.succ (Nat.add p.1.size 1)) 9223372036854775808) (cond v0.2.2 (match (cond (S.inI (Int.ofNat 0) (Int.ofNat 0) (Int.ofNat 16777215)) (some ((S.lit [0,0]),())) none) with|none=>none|some v1=>(cond (Nat.ble (Nat.succ (Nat.add (ByteArray.size (ByteArray.append p.1 (ByteArray.mk (Array.mk (List.cons (UInt8.ofBitVec (BitVec.ofFin (Fin.mk (Nat.mod (Int.toNat (IntKind.u8.wrap v0.1)) 256) (jcy (Int.toNat (IntKind.u8.wrap v0.1)) (BitVec.ofNat._proof_1 (OfNat.ofNat 8)))))) []))))) v1.1.size)) 9223372036854775808) (L3 ((ByteArray.append (ByteArray.append p.1 (ByteArray.mk (Array.mk (List.cons (UInt8.ofBitVec (BitVec.ofFin (Fin.mk (Nat.mod (Int.toNat (IntKind.u8.wrap v0.1)) 256) (jcy (Int.toNat (IntKind.u8.wrap v0.1)) (BitVec.ofNat._proof_1 (OfNat.ofNat 8)))))) [])))) v1.1),(IntKind.i64.wrap (Int.add p.2 (Int.ofNat 1))))) none)) (match (cond (S.inI (IntKind.i64.wrap (Int.ofNat (Nat.add v0.2.1.size 1))) (Int.ofNat 0) (Int.ofNat 16777215)) (some ((qae (S.two (Int.toNat (IntKind.i64.wrap (Int.ofNat (Nat.add v0.2.1.size 1)))))),())) none) with|none=>none|some v37=>(cond (Nat.ble (Nat.succ (Nat.add v37.1.size v0.2.1.size)) 9223372036854775808) (cond (Nat.ble (Nat.succ (Nat.add (ByteArray.size (ByteArray.append p.1 (ByteArray.mk (Array.mk (List.cons (UInt8.ofBitVec (BitVec.ofFin (Fin.mk (Nat.mod (Int.toNat (IntKind.u8.wrap v0.1)) 256) (jcy (Int.toNat (IntKind.u8.wrap v0.1)) (BitVec.ofNat._proof_1 (OfNat.ofNat 8)))))) []))))) (ByteArray.size (ByteArray.append v37.1 v0.2.1)))) 9223372036854775808) (L3 ((ByteArray.append (ByteArray.append p.1 (ByteArray.mk (Array.mk (List.cons (UInt8.ofBitVec (BitVec.ofFin (Fin.mk (Nat.mod (Int.toNat (IntKind.u8.wrap v0.1)) 256) (jcy (Int.toNat (IntKind.u8.wrap v0.1)) (BitVec.ofNat._proof_1 (OfNat.ofNat 8)))))) [])))) (ByteArray.append v37.1 v0.2.1)),(IntKind.i64.wrap (Int.add p.2 (Int.ofNat 1))))) none) none))) none)) (some (p.1,())))
abbrev gz7:Type:=ElA [(.list qac)]->Option Rtz7
abbrev sz7(g:gz7):Sm:=⟨[(.list qac)],[(false,.str)],g⟩
abbrev Ez7(g:gz7)(J:JT Rtz7)(lf:Nat)(x1:(List qaa)):=qb5 Try.prog ttT.get nmz7 fi55.nt (clz7 _ lf) lf stz7 J fi55.body [] (qa0 (argV [(.list qac)] (x1,())) 0 .leaf) S0 [] (qa1 ttT.get fi55 (sz7 g))
abbrev Bz7(g:gz7)(J:JT Rtz7)(lf k:Nat)(ms:List Nat)(q:NRes):=qcm Try.prog ttT.get nmz7 fi55.nt (clz7 _ lf) lf stz7 J k fi55.body [] ms q (qa1 ttT.get fi55 (sz7 g))
theorem inz7(g:gz7)(J:JT Rtz7)(lf:Nat)(x1:(List qaa)):Ez7 g J lf x1=q04 lf x1 (fun q=>J 3 [lf] (qhf x1 q)):=by kernel_rfl
theorem zkb(g:gz7)(J:JT Rtz7)(lf:Nat)(x1:(List qaa))(m1:Nat)(p:ByteArray × Int):Bz7 g J lf 3 [m1] (qhf x1 p)=qp4 lf x1 (fun q=>J 3 [m1] (qhf x1 q)) p:=by kernel_rfl
theorem ndz7:(regs fi55.body).Nodup:=by decide +kernel
theorem okz7:okC nmz7 stz7 hdz7 fi55.body none=true:=by kernel_rfl
def Az7(g:gz7)(lf:Nat):JT Rtz7:=atN Try.prog ttT.get nmz7 fi55 (sz7 g) (clz7 _ lf) lf hdz7
def qmk(lf:Nat)(x1:(List qaa)):Nat->(ByteArray × Int)->Option Rtz7:=qa9 fun K p=>qp4 lf x1 K p
theorem qyv(g:gz7)(lf:Nat)(x1:(List qaa)):∀(n:Nat) (p:ByteArray × Int),Az7 g lf 3 [n] (qhf x1 p)=qmk lf x1 n p
 | 0,p=>qb4 3 [0] rfl _
 | n+1,p=>by
  have ih:=qyv g lf x1 n;refine(qb6 (qbh 20 _) ndz7 okz7 3 [n+1] [n] rfl _).trans ((zkb g (Az7 g lf) lf x1 n p).trans ?_);rw[(show (fun q=>Az7 g lf 3 [n] (qhf x1 q))=(fun q=>qmk lf x1 n q) from funext ih)];rfl
def Fz7(lf:Nat)(x1:(List qaa)):Option Rtz7:=q04 lf x1 (fun q=>qmk lf x1 lf q)
theorem zj2(g:gz7)(lf:Nat)(x1:(List qaa)):Ez7 g (Az7 g lf) lf x1=Fz7 lf x1:=by
  refine(inz7 g (Az7 g lf) lf x1).trans ?_;rw[(show (fun q=>Az7 g lf 3 [lf] (qhf x1 q))=(fun q=>qmk lf x1 lf q) from funext fun q=>qyv g lf x1 lf q)];rfl
theorem zov:qbi Try.prog q0n:=trivial
theorem mkz7{g:gz7}(hsm:SmOK Try.prog qv6)(hg:∀(x:ElA [(.list qac)]) (y:Rtz7),WfA [(.list qac)] x->g x=some y->∃lf,Fz7 lf x.1=some y):Con Try.prog 55 ⟨[(.list qac)],[(false,.str)],g⟩ :=
 conV (st:=stz7) (fun lf x=>Fz7 lf x.1) cm3 zaf zov ndz7 okz7 (fun lf x=>zj2 g lf x.1) hsm hg
def nmz8:Nat->Option Nm:=fun k=>cond (Nat.beq k 3) (some ⟨[4],[],[],[],[],0,0,false⟩) (cond (Nat.beq k 6) (some ⟨[4,5],[(5,.str)],[],[],[],0,0,false⟩) (none))
def stz8:Nat->Bool:=fun k=>cond (Nat.beq k 3) true (cond (Nat.beq k 6) true (false))
def hdz8:=stz8
abbrev Rtz8:Type:=(List ByteArray) × Unit
def qwu:List (Nat × Sm):=[(55,spz7),(56,qq0)]
def q10:List (Nat × Hx):=[]
def clz8(R:Type)(lf:Nat):ClK R:=qa4 Try.prog ttT.get ftT.get (nm1 28 nmz8) (smL qwu) (hxL q10) lf 20 R
abbrev idz8:Nat:=28
def qiu(x1:(List qaa))(p:ByteArray):NRes:=(NRes.mk (.node none .leaf (.node none (.node (some (IV.str p)) .leaf .leaf) .leaf)) (IS.mk .leaf 0) [] 0)
def qhp(x1:(List qaa))(p:ByteArray × (List ByteArray)):NRes:=(NRes.mk (.node none (.node none .leaf (.node (some (IV.arr 0)) .leaf .leaf)) (.node none (.node (some (IV.str p.1)) .leaf .leaf) .leaf)) (IS.mk (.node (some (IObj.arr TC.str p.2)) .leaf .leaf) 1) [] 0)
def qq8(lf:Nat)(x1:(List qaa))(L3:ByteArray->Option Rtz8):Option Rtz8:=(match (cond (S.pk x1) (some ((qae (S.body x1)),())) none) with|none=>none|some v0=>(match (cond (S.inI (Int.ofNat v0.1.size) (Int.ofNat 0) (Int.ofNat 16777215)) (some ((qae (S.two (Int.toNat (Int.ofNat v0.1.size)))),())) none) with|none=>none|some v1=>(cond (Nat.ble (Nat.succ (Nat.add 2 v1.1.size)) 9223372036854775808) (cond (Nat.ble (Nat.succ (Nat.add (ByteArray.size (ByteArray.append (ByteArray.mk (Array.mk (List.cons (UInt8.ofBitVec (BitVec.ofFin (Fin.mk 1 (jcy (Int.toNat (OfNat.ofNat 1)) (BitVec.ofNat._proof_1 (OfNat.ofNat 8)))))) (List.cons (UInt8.ofBitVec (BitVec.ofFin (Fin.mk (Nat.mod (Int.toNat (IntKind.u8.wrap (Int.fdiv (Int.ofNat v0.1.size) (Int.ofNat 65536)))) 256) (jcy (Int.toNat (IntKind.u8.wrap (Int.fdiv (Nat.cast v0.1.size) (HPow.hPow (OfNat.ofNat 2) (Min.min (Int.toNat (OfNat.ofNat 16)) (IntKind.bits IntKind.i64)))))) (BitVec.ofNat._proof_1 (OfNat.ofNat 8)))))) [])))) v1.1)) v0.1.size)) 9223372036854775808) (L3 (ByteArray.append (ByteArray.append (ByteArray.mk (Array.mk (List.cons (UInt8.ofBitVec (BitVec.ofFin (Fin.mk 1 (jcy (Int.toNat (OfNat.ofNat 1)) (BitVec.ofNat._proof_1 (OfNat.ofNat 8)))))) (List.cons (UInt8.ofBitVec (BitVec.ofFin (Fin.mk (Nat.mod (Int.toNat (IntKind.u8.wrap (Int.fdiv (Int.ofNat v0.1.size) (Int.ofNat 65536)))) 256) (jcy (Int.toNat (IntKind.u8.wrap (Int.fdiv (Nat.cast v0.1.size) (HPow.hPow (OfNat.ofNat 2) (Min.min (Int.toNat (OfNat.ofNat 16)) (IntKind.bits IntKind.i64)))))) (BitVec.ofNat._proof_1 (OfNat.ofNat 8)))))) [])))) v1.1) v0.1)) none) none)))
def qij(lf:Nat)(x1:(List qaa))(L3:ByteArray->Option Rtz8)(L6:(ByteArray × (List ByteArray))->Option Rtz8)(p:ByteArray):Option Rtz8:=(cond (Bool.not (ieqI (Int.ofNat (Nat.mod p.size 64)) (Int.ofNat 0))) (cond (Nat.ble (Nat.succ (Nat.add p.size 1)) 9223372036854775808) (L3 (ByteArray.append p (S.lit [0]))) none) (L6 (p,[])))
def qhg(lf:Nat)(x1:(List qaa))(L6:(ByteArray × (List ByteArray))->Option Rtz8)(p:ByteArray × (List ByteArray)):Option Rtz8:=(cond (iltI (Int.ofNat 0) (Int.ofNat p.1.size)) (cond (lchk (Int.ofNat 0) (Int.ofNat 64) (Int.ofNat p.1.size) (Int.ofNat p.1.size)) (cond (Nat.ble (Nat.mul (Nat.add p.2.length 1) 16) 140737488355328) (cond (lchk (Int.ofNat 64) (Int.ofNat p.1.size) (Int.ofNat p.1.size) (Int.ofNat p.1.size)) (L6 ((ByteArray.extract p.1 64 (Int.toNat (Int.ofNat p.1.size))),(List.append p.2 [(ByteArray.extract p.1 0 64)]))) none) none) none) (some (p.2,())))
abbrev gz8:Type:=ElA [(.list qac)]->Option Rtz8
abbrev sz8(g:gz8):Sm:=⟨[(.list qac)],[(true,.str)],g⟩
abbrev Ez8(g:gz8)(J:JT Rtz8)(lf:Nat)(x1:(List qaa)):=qb5 Try.prog ttT.get nmz8 fi28.nt (clz8 _ lf) lf stz8 J fi28.body [] (qa0 (argV [(.list qac)] (x1,())) 0 .leaf) S0 [] (qa1 ttT.get fi28 (sz8 g))
abbrev Bz8(g:gz8)(J:JT Rtz8)(lf k:Nat)(ms:List Nat)(q:NRes):=qcm Try.prog ttT.get nmz8 fi28.nt (clz8 _ lf) lf stz8 J k fi28.body [] ms q (qa1 ttT.get fi28 (sz8 g))
theorem inz8(g:gz8)(J:JT Rtz8)(lf:Nat)(x1:(List qaa)):Ez8 g J lf x1=qq8 lf x1 (fun q=>J 3 [lf] (qiu x1 q)):=by kernel_rfl
theorem zgr(g:gz8)(J:JT Rtz8)(lf:Nat)(x1:(List qaa))(m1:Nat)(p:ByteArray):Bz8 g J lf 3 [m1] (qiu x1 p)=qij lf x1 (fun q=>J 3 [m1] (qiu x1 q)) (fun q=>J 6 [lf] (qhp x1 q)) p:=by kernel_rfl
theorem zji(g:gz8)(J:JT Rtz8)(lf:Nat)(x1:(List qaa))(m1:Nat)(p:ByteArray × (List ByteArray)):Bz8 g J lf 6 [m1] (qhp x1 p)=qhg lf x1 (fun q=>J 6 [m1] (qhp x1 q)) p:=by kernel_rfl
theorem ndz8:(regs fi28.body).Nodup:=by decide +kernel
theorem okz8:okC nmz8 stz8 hdz8 fi28.body none=true:=by kernel_rfl
def Az8(g:gz8)(lf:Nat):JT Rtz8:=atN Try.prog ttT.get nmz8 fi28 (sz8 g) (clz8 _ lf) lf hdz8
def qdt(lf:Nat)(x1:(List qaa)):Nat->(ByteArray × (List ByteArray))->Option Rtz8:=qa9 fun K p=>qhg lf x1 K p
theorem q3f(g:gz8)(lf:Nat)(x1:(List qaa)):∀(n:Nat) (p:ByteArray × (List ByteArray)),Az8 g lf 6 [n] (qhp x1 p)=qdt lf x1 n p
 | 0,p=>qb4 6 [0] rfl _
 | n+1,p=>by
  have ih:=q3f g lf x1 n;refine(qb6 (qbh 20 _) ndz8 okz8 6 [n+1] [n] rfl _).trans ((zji g (Az8 g lf) lf x1 n p).trans ?_);rw[(show (fun q=>Az8 g lf 6 [n] (qhp x1 q))=(fun q=>qdt lf x1 n q) from funext ih)];rfl
def qg3(lf:Nat)(x1:(List qaa)):Nat->(ByteArray)->Option Rtz8:=qa9 fun K p=>qij lf x1 K (fun q=>qdt lf x1 lf q) p
theorem q28(g:gz8)(lf:Nat)(x1:(List qaa)):∀(n:Nat) (p:ByteArray),Az8 g lf 3 [n] (qiu x1 p)=qg3 lf x1 n p
 | 0,p=>qb4 3 [0] rfl _
 | n+1,p=>by
  have ih:=q28 g lf x1 n;refine(qb6 (qbh 20 _) ndz8 okz8 3 [n+1] [n] rfl _).trans ((zgr g (Az8 g lf) lf x1 n p).trans ?_);rw[(show (fun q=>Az8 g lf 6 [lf] (qhp x1 q))=(fun q=>qdt lf x1 lf q) from funext fun q=>q3f g lf x1 lf q),(show (fun q=>Az8 g lf 3 [n] (qiu x1 q))=(fun q=>qg3 lf x1 n q) from funext ih)];rfl
def Fz8(lf:Nat)(x1:(List qaa)):Option Rtz8:=qq8 lf x1 (fun q=>qg3 lf x1 lf q)
theorem zcm(g:gz8)(lf:Nat)(x1:(List qaa)):Ez8 g (Az8 g lf) lf x1=Fz8 lf x1:=by
  refine(inz8 g (Az8 g lf) lf x1).trans ?_;rw[(show (fun q=>Az8 g lf 3 [lf] (qiu x1 q))=(fun q=>qg3 lf x1 lf q) from funext fun q=>q28 g lf x1 lf q)];rfl
theorem zew:qbi Try.prog q10:=trivial
theorem mkz8{g:gz8}(hsm:SmOK Try.prog qwu)(hg:∀(x:ElA [(.list qac)]) (y:Rtz8),WfA [(.list qac)] x->g x=some y->∃lf,Fz8 lf x.1=some y):Con Try.prog 28 ⟨[(.list qac)],[(true,.str)],g⟩ :=
 conV (st:=stz8) (fun lf x=>Fz8 lf x.1) cm3 zc7 zew ndz8 okz8 (fun lf x=>zcm g lf x.1) hsm hg
abbrev qmg:Type:=ByteArray × Unit
abbrev q8g:Nat:=46
def q1b(lf:Nat)(x1:ByteArray):Option qmg:=(cond (lchk (Int.ofNat 1) (Int.ofNat x1.size) (Int.ofNat x1.size) (Int.ofNat x1.size)) (cond (Nat.ble (Nat.succ (Nat.add 1 (ByteArray.size (ByteArray.extract x1 1 (Int.toNat (Int.ofNat x1.size)))))) 9223372036854775808) (some ((ByteArray.append (S.lit [0]) (ByteArray.extract x1 1 (Int.toNat (Int.ofNat x1.size)))),())) none) none)
def qpq(lf:Nat)(x1:ByteArray):Option qmg:=q1b lf x1
theorem zdw{g:ElA [.str]->Option qmg}(hsm:SmOK Try.prog [])(hg:∀(x:ElA [.str]) (y:qmg),WfA [.str] x->g x=some y->∃lf,qpq lf x.1=some y):Con Try.prog 46 ⟨[.str],[(false,.str)],g⟩ :=
 conU (fi:=fi46) (hxl:=[]) (fun lf x=>qpq lf x.1) cm3 zj3 trivial hsm hg
abbrev qng:Type:=zay × Unit
abbrev zaw:Nat:=41
def qy0(lf:Nat)(x1:Int)(x2:Int):Option qng:=(cond (ieqI x2 (Int.ofNat 0)) (some (((Int.ofNat 1),(IntKind.i64.wrap (Int.tdiv x1 (Int.ofNat 2)))),())) (some (((IntKind.i64.wrap (Int.tdiv x1 (Int.ofNat 2))),(IntKind.i64.wrap (Int.sub x1 (Int.ofNat 1)))),())))
def qm9(lf:Nat)(x1:Int)(x2:Int):Option qng:=qy0 lf x1 x2
theorem zj6{g:ElA [(.int .i64),(.int .i64)]->Option qng}(hsm:SmOK Try.prog [])(hg:∀(x:ElA [(.int .i64),(.int .i64)]) (y:qng),WfA [(.int .i64),(.int .i64)] x->g x=some y->∃lf,qm9 lf x.1 x.2.1=some y):Con Try.prog 41 ⟨[(.int .i64),(.int .i64)],[(false,q2i)],g⟩ :=
 conU (fi:=fi41) (hxl:=[]) (fun lf x=>qm9 lf x.1 x.2.1) cm3 zo4 trivial hsm hg
theorem qi5(n:Int):IntKind.u8.wrap n=n % 256:=by
 unfold IntKind.wrap;simp[IntKind.signed,IntKind.bits]
theorem qth(n:Int)(h:Nat.mod (Int.toNat n) 256<2 ^ 8):ByteArray.mk (Array.mk (List.cons (UInt8.ofBitVec (BitVec.ofFin (Fin.mk (Nat.mod (Int.toNat n) 256) h))) []))=qae [n]:=rfl
theorem zc8(a b:Int)(h:Nat.mod (Int.toNat a) 256<2 ^ 8)(k:Nat.mod (Int.toNat b) 256<2 ^ 8):ByteArray.mk (Array.mk (List.cons (UInt8.ofBitVec (BitVec.ofFin (Fin.mk (Nat.mod (Int.toNat a) 256) h))) (List.cons (UInt8.ofBitVec (BitVec.ofFin (Fin.mk (Nat.mod (Int.toNat b) 256) k))) [])))=qae [a,b]:=rfl
theorem zf4(b:Int)(h:1<2 ^ 8)(k:Nat.mod (Int.toNat b) 256<2 ^ 8):ByteArray.mk (Array.mk (List.cons (UInt8.ofBitVec (BitVec.ofFin (Fin.mk 1 h))) (List.cons (UInt8.ofBitVec (BitVec.ofFin (Fin.mk (Nat.mod (Int.toNat b) 256) k))) [])))=qae [1,b]:=rfl
theorem qeo(a b:List Int):ByteArray.append (qae a) (qae b)=qae (a++b):=by
 show qae a++qae b=_;apply ByteArray.ext;simp[qae]
theorem quj(s:ByteArray):∃b,rng b/\s=qae b/\s.size=b.length/\qab s=b:=⟨qab s,qdq s,(qfm s).symm,(qct s).symm,rfl⟩
theorem q6s{b:List Int}(h:rng b)(n:Nat):ByteArray.extract (qae b) 0 n=qae (b.take n):=by
 refine qfk ?_;rw[q4p,qbr h,qbr (qez h n)]
theorem qlf{b:List Int}(h:rng b)(n:Nat):ByteArray.extract (qae b) n b.length=qae (b.drop n):=by
 refine qfk ?_;rw[q25 _ _ _ (by rw[qbg];exact jaq _),qbr h,qbr (qdz h n)]
theorem zlw(lf:Nat)(n:Int)(h:S.inI n 0 16777215=true):qno lf n=some (qae (S.two n.toNat),()):=by
 obtain⟨h1,h2⟩:=qbl.1 h;obtain⟨k,rfl⟩:∃k:Nat,n=Int.ofNat k:=⟨n.toNat,by show n=((n.toNat:Nat):Int);omega⟩;simp only[qno,q6n,zc8,qi5];refine jas (fun l=>some (qae l,())) ?_;show [Int.fdiv (k:Int) 256 % 256,(k:Int) % 256]=S.two k;unfold S.two;rw[jeg _ (by decide)];simp only[jd1,and_true];omega
theorem qxy:Con Try.prog znh qq0:=zjx trivial fun x y hx h=>⟨0,by
 obtain⟨h1,h2⟩:=qbb (show cond (S.inI x.1 0 16777215) (some (qae (S.two (Int.toNat x.1)),())) none=some y from h);exact(zlw 0 x.1 h1).trans (jas some h2)⟩
theorem qq9{l:List qaa}(h:S.pk l=true):S.okC l=true/\l.length<=250:=by
 unfold S.pk at h;rw[jae] at h;exact⟨h.1,jak h.2⟩
theorem qnc:∀{l:List qaa} {last:Int},S.okGo l last=true->∀c∈l,(0<=c.1/\c.1<=199)/\c.2.1.size<=4000/\(c.2.2=true->c.2.1=S.none_)
 | [],_,_,c,hc=>by cases hc
 | a::l,last,h,c,hc=>by
  obtain⟨h1,h2,h3,h4,h5⟩:=qbp.1 h;rcases jax.1 hc with rfl|hc
  ·exact⟨h1,h2,h3⟩
  ·exact qnc h5 c hc
theorem que:∀{l:List qaa},(∀c∈l,c.2.1.size<=4000)->(S.body l).length<=4003*l.length
 | [],_=>jb8 _
 | c::l,h=>by
  have h1:=h c (by simp);have h2:=que (l:=l) fun x hx=>h x (by simp[hx]);have h3:cond c.2.2 0 c.2.1.size<=4000:=by
   cases c.2.2
   ·exact h1
   ·exact jb8 _
  rw[qmj,jag,qll,jar];omega
theorem qlt{l:List qaa}(h:S.pk l=true):(S.body l).length<=1000750:=by
 obtain⟨h1,h2⟩:=qq9 h;have:=que fun c hc=>(qnc h1 c hc).2.1;omega
theorem zgd(l:List qaa)(c:qaa):S.body (l++[c])=S.body l++S.cellB c:=by
 unfold S.body;rw[List.flatMap_append];simp
theorem zgy{l:List qaa}(h:S.pk l=true)(i:Nat):(S.body (l.take i)).length<=1000750:=by
 obtain⟨h1,h2⟩:=qq9 h;have:=que (l:=l.take i) fun c hc=>(qnc h1 c (jb4 hc)).2.1;rw[jbc] at this;omega
theorem qes{n:Nat}(h:n<9223372036854775808):Nat.ble (Nat.succ n) 9223372036854775808=true:=jay h
theorem q8t(l:List qaa)(h:S.pk l=true):Fz7 LF l=some (qae (S.body l),()):=by
 obtain⟨hok,hlen⟩:=qq9 h;refine(range0 (σ:=ByteArray) (R:=Rtz7) l (fun i s=>(s,i)) (fun i s=>s=qae (S.body (l.take i))) (fun _ _ _=>some (qae (S.body l),())) (by unfold LF;omega) (fun K s hs=>?_) (fun K i v rest s hs r hk=>?_) (S.lit []) rfl).trans rfl
 ·rw[List.take_length] at hs;simp only[qp4,qc5,jah];rw[hs]
 ·obtain⟨⟨v1,v2⟩,v3,v4⟩:=qnc hok v r.mem;have hB:=zgy h i;have hnext:qae (S.body (l.take (i+1)))=qae (S.body (l.take i)++S.cellB v):=by rw[r.take,zgd]
  obtain⟨k,s0,g⟩:=v;simp only at v1 v2 v3 v4;have hkw:IntKind.u8.wrap k=k % 256:=qi5 k;subst hs;generalize S.body (l.take i)=B at *;have hsB:(qae B).size=B.length:=qbg B;simp only[qp4,r.ilt,r.get,r.next,jab,qth,hkw,qeo,qbg];rw[qes (n:=Nat.add B.length 1) (by show B.length+1<_;omega),jab];cases g with
  | true =>
   rw[jab,show S.inI (Int.ofNat 0) (Int.ofNat 0) (Int.ofNat 16777215)=true from rfl,jab];simp only;rw[show S.lit [0,0]=qae [0,0] from rfl,qbg,qeo,qes (by simp only[jag,jar,jaw];show _+2<_;omega),jab];refine hk _ ?_;rw[hnext,ja0];rfl
  | false =>
   obtain⟨b,hb1,hb2,hb3,_⟩:=quj s0;subst hb2;rw[hb3] at v3;have hw:IntKind.i64.wrap (Int.ofNat (Nat.add (qae b).size 1))=Int.ofNat (b.length+1):=by
    rw[hb3];exact qbv (n:=b.length+1) (by omega)
   rw[jah,hw,show S.inI (Int.ofNat (b.length+1)) (Int.ofNat 0) (Int.ofNat 16777215)=true from qbl.2 ⟨jb2 _,by show ((b.length+1:Nat):Int)<=16777215;omega⟩,jab];simp only[qeo,qbg];have h2:(S.two (Int.toNat (Int.ofNat (b.length+1)))).length=2:=rfl;rw[qes (by show _+b.length<_;rw[h2];omega),jab,qes (by simp only[jag,jar,jaw,h2];show (_:Nat)+(_:Nat)<_;omega),jab];refine hk _ ?_;rw[hnext];have:S.cellB (k,qae b,false)=[k % 256]++(S.two (Int.toNat (Int.ofNat (b.length+1)))++b):=by
    unfold S.cellB;simp only[jah];rw[hb3,qbr hb1];rfl
   rw[this,ja0]
theorem zbr:Con Try.prog idz7 spz7:=mkz7 ⟨qxy,trivial⟩ fun x y hx h=>⟨LF,by
 obtain⟨h1,h2⟩:=qbb (show cond (S.pk x.1) (some (qae (S.body x.1),())) none=some y from h);exact(q8t x.1 h1).trans (jas some h2)⟩
def cut:Nat->List Int->List ByteArray
 | 0,_=>[]
 | m+1,b=>qae (b.take 64)::cut m (b.drop 64)
theorem q39:∀(f:Nat) (b:List Int),b.length<=f->S.chunks f b=cut ((b.length+63) / 64) (b++List.replicate (64*((b.length+63) / 64)-b.length) 0)
 | 0,b,h=>by
  have:b=[]:=ja1.1 (by omega);subst this;rfl
 | f+1,b,h=>by
  by_cases hb:0<b.length
  ·have ih:=q39 f (b.drop 64) (by rw[ja7];omega);rw[ja7] at ih;rw[qgw f hb,ih,show (b.length+63) / 64=(b.length-64+63) / 64+1 by omega];show _=qae ((b++_).take 64)::cut _ ((b++_).drop 64);by_cases h64:64<=b.length
   ·rw[jc7 h64,jd6 h64,show 64-b.length=0 by omega,jfe,ja9,show 64*((b.length-64+63) / 64+1)-b.length=64*((b.length-64+63) / 64)-(b.length-64) by omega]
   ·have e1:b.drop 64=[]:=jct (by omega);rw[show (b.length-64+63) / 64=0 by omega,jbp (by omega:b.length<=64),jbp (by rw[jag,ja5];omega),show 64*(0+1)-b.length=64-b.length by omega];rfl
  ·have:b=[]:=ja1.1 (by omega);subst this;rfl
theorem q5z(l:List qaa):∀(m f:Nat) (b:List Int) (out:List ByteArray),rng b->b.length=64*m->m<f->out.length+m<=1000000->qdt LF l f (qae b,out)=some (out++cut m b,())
 | 0,f+1,b,out,hr,hb,hf,ho=>by
  have:b=[]:=ja1.1 (by omega);subst this;show qhg LF l (qdt LF l f) (qae [],out)=_;simp only[qhg];rw[qbg];show some (out,())=some (out++[],());rw[ja9]
 | m+1,f+1,b,out,hr,hb,hf,ho=>by
  show qhg LF l (qdt LF l f) _=_;simp only[qhg];have l1:lchk (Int.ofNat 0) (Int.ofNat 64) (Int.ofNat b.length) (Int.ofNat b.length)=true:=qb1.2 ⟨jbt _,by decide,by show (64:Int)<=(b.length:Int);omega,jbt _⟩;have l2:lchk (Int.ofNat 64) (Int.ofNat b.length) (Int.ofNat b.length) (Int.ofNat b.length)=true:=qb1.2 ⟨by decide,by show (64:Int)<=(b.length:Int);omega,jbt _,jbt _⟩
  rw[qbg,qex (show Int.ofNat 0<Int.ofNat b.length by show (0:Int)<(b.length:Int);omega),jab,l1,jab,jay (by show (out.length+1)*16<=_;omega),jab,
   l2,jab,q6s hr,show Int.toNat (Int.ofNat b.length)=b.length from rfl,qlf hr]
  rw[q5z l m f (b.drop 64) _ (qdz hr 64) (by rw[ja7];omega) (by omega) (by simp only[jej,jag,jar,jaw];omega)];show some ((out++[_])++cut m _,())=some (out++_::cut m _,());rw[ja0];rfl
theorem qv2(l:List qaa):∀(k f:Nat) (b:List Int),k=(64-b.length % 64) % 64->k<f->b.length<=2000000->qg3 LF l f (qae b)=qdt LF l LF (qae (b++List.replicate k 0),[])
 | 0,f+1,b,hk,hf,hb=>by
  show qij LF l (qg3 LF l f) (fun q=>qdt LF l LF q) (qae b)=_;simp only[qij];rw[qbg,qbo (show Int.ofNat (Nat.mod b.length 64)=Int.ofNat 0 from jas Int.ofNat (show b.length % 64=0 by omega))];show qdt LF l LF (qae b,[])=qdt LF l LF (qae (b++[]),[]);rw[ja9]
 | k+1,f+1,b,hk,hf,hb=>by
  show qij LF l (qg3 LF l f) (fun q=>qdt LF l LF q) (qae b)=_;simp only[qij]
  rw[qbg,qbn (show ¬Int.ofNat (Nat.mod b.length 64)=Int.ofNat 0 from fun e=>by have:=jc5 e;have:b.length % 64=0:=this;omega),ja6,jab,qes (by show b.length+1<_;omega),jab,show S.lit [0]=qae [0] from rfl,qeo,
   qv2 l k f (b++[0]) (by rw[jag,jar,jaw];omega) (by omega) (by rw[jag,jar,jaw];have:b.length<=2000000:=hb;omega),ja0]
  rfl
theorem zmd(l:List qaa)(h:S.pk l=true):Fz8 LF l=some (S.packed l 1,()):=by
 have hb:=qlt h;simp only[Fz8,qq8,h,jab,qbg];rw[show S.inI (Int.ofNat (S.body l).length) (Int.ofNat 0) (Int.ofNat 16777215)=true from qbl.2 ⟨jb2 _,by show (((S.body l).length:Nat):Int)<=16777215;omega⟩];simp only[jab,zf4,qi5,qeo,qbg];have h2:(S.two (Int.toNat (Int.ofNat (S.body l).length))).length=2:=rfl;rw[qes (by show 2+_<_;rw[h2];decide),jab,qes (by simp only[jag,jar,jaw,h2];show (_:Nat)+(_:Nat)<_;omega),jab];have hrec:[1,Int.fdiv (Int.ofNat (S.body l).length) (Int.ofNat 65536) % 256]++S.two (Int.toNat (Int.ofNat (S.body l).length))++S.body l=S.recB l 1:=by
  unfold S.recB;have:Int.fdiv (Int.ofNat (S.body l).length) (Int.ofNat 65536) % 256=(((S.body l).length / 65536 % 256:Nat):Int):=by
   rw[jeg _ (by decide)];show ((S.body l).length:Int) / 65536 % 256=_;omega
  rw[this,ja0];rfl
 rw[hrec,qv2 l _ LF (S.recB l 1) rfl (by unfold LF;omega) (by rw[qem];omega)];have hl:=qem l 1;have hp:S.packed l 1=_:=q39 (S.recB l 1).length (S.recB l 1) (jaq _);rw[hp,show (64-(S.recB l 1).length % 64) % 64=64*(((S.recB l 1).length+63) / 64)-(S.recB l 1).length by omega];rw[q5z l (((S.recB l 1).length+63) / 64) LF _ [] (qfp (qlh l (by decide)) (qgn _)) (by rw[jag,ja5];omega) (by unfold LF;omega) (by rw[jaw];omega)];rfl
theorem qnq:Con Try.prog idz8 spz8:=mkz8 ⟨zbr,qxy,trivial⟩ fun x y hx h=>⟨LF,by
 obtain⟨h1,h2⟩:=qbb (show cond (S.pk x.1) (some (S.packed x.1 1,())) none=some y from h);exact(zmd x.1 h1).trans (jas some h2)⟩
theorem zlg(lf:Nat)(s:ByteArray)(h:s.size=64):qpq lf s=some (qae (0::(qab s).drop 1),()):=by
 obtain⟨b,hb1,rfl,hb3,hb4⟩:=quj s;rw[hb3] at h;simp only[qpq,q1b];have l1:lchk (Int.ofNat 1) (Int.ofNat b.length) (Int.ofNat b.length) (Int.ofNat b.length)=true:=qb1.2 ⟨by decide,by show (1:Int)<=(b.length:Int);omega,jbt _,jbt _⟩;rw[hb3,hb4,l1,jab,show Int.toNat (Int.ofNat b.length)=b.length from rfl,qlf hb1,qbg,qes (by show 1+_<_;rw[ja7];omega),jab,show S.lit [0]=qae [0] from rfl,qeo];rfl
theorem q5u:Con Try.prog q8g qut:=zdw trivial fun x y hx h=>⟨0,by
 obtain⟨h1,h2⟩:=qbb (show cond (decide (ByteArray.size x.1=64)) (some (qae (0::(qab x.1).drop 1),())) none=some y from h);exact(zlg 0 x.1 (ja2 h1)).trans (jas some h2)⟩
theorem zc0(lf:Nat)(n h:Int)(hn:S.inI n 0 1000=true):qm9 lf n h=some (S.half n.toNat h,()):=by
 obtain⟨h1,h2⟩:=qbl.1 hn;have e1:Int.tdiv n (Int.ofNat 2)=((n.toNat / 2:Nat):Int):=by
  rw[Int.tdiv_eq_ediv_of_nonneg h1];show n / 2=_;omega
 simp only[qm9,qy0,e1];rw[wrap_in (n:=((n.toNat / 2:Nat):Int)) (by omega),wrap_in (n:=Int.sub n (Int.ofNat 1)) (by show -9223372036854775808<=n-1/\n-1<9223372036854775808;omega)];unfold S.half;by_cases h0:h=0
 ·rw[qbo (show h=Int.ofNat 0 from h0),jab,jam h0];rfl
 ·rw[qbn (show ¬h=Int.ofNat 0 from h0),jah,jao h0];refine jas (fun z:Int=>some ((_,z),())) ?_;show n-1=(n.toNat:Int)-1;omega
theorem qn1:Con Try.prog zaw qi8:=zj6 trivial fun x y hx h=>⟨0,by
 obtain⟨h1,h2⟩:=qbb (show cond (S.inI x.1 0 1000) (some (S.half (Int.toNat x.1) x.2.1,())) none=some y from h);exact(zc0 0 x.1 x.2.1 h1).trans (jas some h2)⟩
theorem q73{l:List ByteArray}{i:Nat}(h:i<l.length)(a:Int):S.puts (a+i) (l.drop i)=S.put (a+i) (l.getD i S.none_)::S.puts (a+((i+1:Nat):Int)) (l.drop (i+1)):=by
 rw[jdk h,jai,jac h];show S.put (a+i) _::S.puts (a+i+1) _=_;rw[show a+(i:Int)+1=a+((i+1:Nat):Int) by omega];rfl
theorem q1o(x1:List DAct)(a:Int)(l:List ByteArray)(ha:S.inI a 0 1000000=true)(hl:l.length<=1000000):∀(k f i:Nat) (out:List DAct),i+k=l.length->k<f->out.length+k<=2000000->qgj LF x1 a l f (Int.ofNat i,out)=some ((),((out++S.puts (a+i) (l.drop i),()),()))
 | 0,f+1,i,out,hi,hf,ho=>by
  show qhr LF x1 a l (qgj LF x1 a l f) _=_;simp only[qhr];rw[qcf,jat (by omega),jah,jct (by omega)];show some ((),((out,()),()))=some ((),((out++[],()),()));rw[ja9]
 | k+1,f+1,i,out,hi,hf,ho=>by
  obtain⟨h1,h2⟩:=qbl.1 ha;show qhr LF x1 a l (qgj LF x1 a l f) _=_;simp only[qhr];rw[qcf,jan (by omega),jab,qvn (i:=Int.ofNat i) (d:=S.none_) (jb2 i) (by show (i:Int)<(l.length:Int);omega)];simp only
  rw[jay (by show (out.length+1)*32<=_;omega),jab,show IntKind.i64.wrap (Int.add (Int.ofNat i) (Int.ofNat 1))=Int.ofNat (i+1) from qbv (n:=i+1) (by omega),
   show IntKind.i64.wrap (Int.add a (Int.ofNat i))=a+i from wrap_in (by show -_<=a+(i:Int)/\a+(i:Int)<_;omega),
   q1o x1 a l ha hl k f (i+1) _ (by omega) (by omega) (by simp only[jej,jag,jar,jaw];omega),q73 (l:=l) (i:=i) (by omega) a]
  show some ((),(((out++[_])++_,()),()))=some ((),((out++_::_,()),()));rw[ja0];rfl
theorem zae(x1:List DAct)(a:Int)(l:List ByteArray)(ha:S.inI a 0 1000000=true)(hl:l.length<=1000000)(hx:x1.length<=1000000):Fz2 LF x1 a l=some ((),((S.app x1 (S.puts a l),()),())):=by
 simp only[Fz2,qum];refine(q1o x1 a l ha hl l.length LF 0 x1 (by omega) (by unfold LF;omega) (by omega)).trans ?_;rw[jd8,show a+((0:Nat):Int)=a by omega];rfl
theorem qqg:ConR Try.prog idz2 spz2:=mkz2 trivial fun x y hx h=>⟨LF,by
 obtain⟨h1,h2⟩:=qbb (show cond (S.inI x.2.1 0 1000000&&(Nat.ble x.2.2.1.length 1000000&&Nat.ble (S.lenA x.1.1) 1000000)) (some ((),((S.app x.1.1 (S.puts x.2.1 x.2.2.1),()),()))) none=some y from h);rw[jae,jae] at h1;exact(zae x.1.1 x.2.1 x.2.2.1 h1.1 (jak h1.2.1) (jak h1.2.2)).trans (jas some h2)⟩
theorem zgt(x1:List DAct)(hx:x1.length<=4000000):Fz3 LF x1=some ((),((S.app x1 [S.sync],()),())):=by
 simp only[Fz3,qsb];rw[jay (by show (x1.length+1)*32<=_;omega),jab];rfl
theorem qvc:ConR Try.prog idz3 spz3:=mkz3 trivial fun x y hx h=>⟨LF,by
 obtain⟨h1,h2⟩:=qbb (show cond (Nat.ble (S.lenA x.1.1) 4000000) (some ((),((S.app x.1.1 [S.sync],()),()))) none=some y from h);exact(zgt x.1.1 (jak h1)).trans (jas some h2)⟩
end Go.Proofs.Ytnhmanoiolfapaa
end

section
namespace Go.Jx
open Go Go.Sx Go.RowKit
end Go.Jx
end

section
namespace Go.Jx
open Go Go.Sx Go.RowKit
def omap{α β:Type}(f:α->β):Option α->Option β
 | none=>none
 | some a=>some (f a)
def hxG(a:Hx):Hx:=⟨fun cl vs S=>omap (igc S) (a.f cl vs S),fun clP R vs S kk=>a.k clP R vs S fun r=>kk (igc S r),fun cl clP h R vs S kk=>by
 rw[a.eq cl clP h R vs S];cases a.f cl vs S<;>rfl⟩
theorem zff{P:Program}{f:Nat}{a:Hx}(ha:HxOK P f a.f):HxOK P f (hxG a).f:=by
 have inv:∀{cl vs S r},(hxG a).f cl vs S=some r->∃q,a.f cl vs S=some q/\r=igc S q:=by
  intro cl vs S r hr;have hr:omap (igc S) (a.f cl vs S)=some r:=hr;cases hq:a.f cl vs S with
  | none=>rw[hq] at hr;cases hr
  | some q=>rw[hq] at hr;cases hr;exact⟨q,rfl,rfl⟩
 refine⟨fun cl h1 h2 h3 vs S r hr T E us p hrd hwr hv=>?_,fun cl h1 vs S r hr=>?_,fun cl h1 vs S r hr hw hl=>?_⟩
 ·obtain⟨q,hq,rfl⟩:=inv hr;obtain⟨T',p',t1,t2,hback⟩:=q3w p hrd hwr;obtain⟨c1,c2⟩:=ha.fn cl h1 h2 h3 vs S q hq T' E us p' t1 t2 hv;exact⟨c1,c2.mono fun e w h=>hback e w h⟩
 ·obtain⟨q,hq,rfl⟩:=inv hr;exact q22 (ha.fr cl h1 vs S q hq)
 ·obtain⟨q,hq,rfl⟩:=inv hr;exact q0q hw hl
end Go.Jx
end

noncomputable section
set_option maxRecDepth 100000
namespace Go.Proofs.Ytnhmanoiolfapaa
open Go Go.Sx Go.RowKit Go.Jx
def q5w:List (Nat × Hx):=[(45,hxR spz3),(42,hxG (hxR spz2))]
abbrev qnp:Type:=(List DAct) × Bool × Unit
abbrev zg6:Nat:=23
def q32(lf:Nat)(x1:qad):Option qnp:=(match (cond (S.pk x1.2.2.2) (some ((S.packed x1.2.2.2 (Int.ofNat 1)),())) none) with|none=>none|some v0=>(match (cond (S.inI (Int.ofNat x1.1.1.length) (Int.ofNat 0) (Int.ofNat 1000)) (some ((S.half (Int.toNat (Int.ofNat x1.1.1.length)) (IntKind.i64.wrap (Int.sub (Int.ofNat 1) x1.2.1))),())) none) with|none=>none|some v1=>(cond (iltI (IntKind.i64.wrap (Int.sub v1.1.2 v1.1.1)) (Int.ofNat v0.1.length)) (some ([],(false,()))) (match (cond (S.inI (IntKind.i64.wrap (Int.sub v1.1.2 v1.1.1)) (Int.ofNat 0) (Int.ofNat 1000)) (some ((List.replicate (Int.toNat (IntKind.i64.wrap (Int.sub v1.1.2 v1.1.1))) (S.lit [0,0,0,0,0,0,0,0,0,0,0,0,0,0,0,0,0,0,0,0,0,0,0,0,0,0,0,0,0,0,0,0,0,0,0,0,0,0,0,0,0,0,0,0,0,0,0,0,0,0,0,0,0,0,0,0,0,0,0,0,0,0,0,0])),())) none) with|none=>none|some v2=>(match (cond (Bool.and (S.inI v1.1.1 (Int.ofNat 0) (Int.ofNat 1000000)) (Bool.and (Nat.ble v2.1.length 1000000) true)) (some ((),(((S.app [] (S.puts v1.1.1 v2.1)),()),()))) none) with|none=>none|some v3=>(match (cond (Nat.ble (S.lenA v3.2.1.1) 4000000) (some ((),(((S.app v3.2.1.1 [S.sync]),()),()))) none) with|none=>none|some v4=>(match (jget v0.1 (Int.ofNat 0)) with|none=>none|some v5=>(match (GetElem?.getElem? v0.1 0) with|none=>none|some v6=>(match (cond (Decidable.decide (Eq v6.size 64)) (some ((qae (List.cons (Int.ofNat 0) (List.drop 1 (qab v6)))),())) none) with|none=>none|some v7=>(match (cond (Bool.and (S.inI v1.1.1 (Int.ofNat 0) (Int.ofNat 1000000)) (Nat.ble (S.lenA v4.2.1.1) 1000000)) (some ((),(((S.app v4.2.1.1 (S.puts v1.1.1 [v7.1])),()),()))) none) with|none=>none|some v8=>(cond (lchk (Int.ofNat 1) (Int.ofNat v0.1.length) (Int.ofNat v0.1.length) (Int.ofNat v0.1.length)) (match (cond (Bool.and (S.inI (IntKind.i64.wrap (Int.add v1.1.1 (Int.ofNat 1))) (Int.ofNat 0) (Int.ofNat 1000000)) (Bool.and (Nat.ble (List.length (lsub v0.1 (Int.ofNat 1) (Int.ofNat v0.1.length))) 1000000) (Nat.ble (S.lenA v8.2.1.1) 1000000))) (some ((),(((S.app v8.2.1.1 (S.puts (IntKind.i64.wrap (Int.add v1.1.1 (Int.ofNat 1))) (lsub v0.1 (Int.ofNat 1) (Int.ofNat v0.1.length)))),()),()))) none) with|none=>none|some v9=>(match (cond (Nat.ble (S.lenA v9.2.1.1) 4000000) (some ((),(((S.app v9.2.1.1 [S.sync]),()),()))) none) with|none=>none|some v10=>(match (jget v0.1 (Int.ofNat 0)) with|none=>none|some v11=>(match (cond (Bool.and (S.inI v1.1.1 (Int.ofNat 0) (Int.ofNat 1000000)) (Nat.ble (S.lenA v10.2.1.1) 1000000)) (some ((),(((S.app v10.2.1.1 (S.puts v1.1.1 [v11])),()),()))) none) with|none=>none|some v12=>(match (cond (Nat.ble (S.lenA v12.2.1.1) 4000000) (some ((),(((S.app v12.2.1.1 [S.sync]),()),()))) none) with|none=>none|some v13=>(match (cond (Bool.and (S.inI (Int.ofNat 0) (Int.ofNat 0) (Int.ofNat 1000000)) (Nat.ble (S.lenA v13.2.1.1) 1000000)) (some ((),(((S.app v13.2.1.1 (S.puts (Int.ofNat 0) (List.cons (ByteArray.append (ByteArray.mk (Array.mk (List.cons (UInt8.ofBitVec (BitVec.ofFin (Fin.mk (Nat.mod (Int.toNat (IntKind.u8.wrap (IntKind.i64.wrap (Int.sub (Int.ofNat 1) x1.2.1)))) 256) (jcy (Int.toNat (IntKind.u8.wrap (IntKind.i64.wrap (HSub.hSub (OfNat.ofNat 1) (x1,()).1.2.1)))) (BitVec.ofNat._proof_1 (OfNat.ofNat 8)))))) []))) (S.lit [0,0,0,0,0,0,0,0,0,0,0,0,0,0,0,0,0,0,0,0,0,0,0,0,0,0,0,0,0,0,0,0,0,0,0,0,0,0,0,0,0,0,0,0,0,0,0,0,0,0,0,0,0,0,0,0,0,0,0,0,0,0,0])) []))),()),()))) none) with|none=>none|some v14=>(match (cond (Nat.ble (S.lenA v14.2.1.1) 4000000) (some ((),(((S.app v14.2.1.1 [S.sync]),()),()))) none) with|none=>none|some v15=>(some (v15.2.1.1,(true,())))))))))) none)))))))))))
def qmf(lf:Nat)(x1:qad):Option qnp:=q32 lf x1
theorem q81(hrz3:ConR Try.prog 45 spz3):qbi Try.prog q5w:=⟨qfl hrz3,⟨zff (qfl qqg),trivial⟩⟩
theorem zoh{g:ElA [qag]->Option qnp}(hsm:SmOK Try.prog [(28,spz8),(41,qi8),(46,qut),(44,q5n),(43,qio)])(hrz3:ConR Try.prog 45 spz3)(hg:∀(x:ElA [qag]) (y:qnp),WfA [qag] x->g x=some y->∃lf,qmf lf x.1=some y):Con Try.prog 23 ⟨[qag],[(true,cAct),(false,.bool)],g⟩ :=
 conU (fi:=fi23) (hxl:=q5w) (fun lf x=>qmf lf x.1) cm3 zjt (q81 hrz3) hsm hg
def nmz9:Nat->Option Nm:=fun k=>cond (Nat.beq k 4) (some ⟨[0,1,5],[],[],[],[],0,0,false⟩) (none)
def stz9:Nat->Bool:=fun k=>cond (Nat.beq k 4) true (false)
def hdz9:=stz9
abbrev Rtz9:Type:=Bool × Unit
def q1u:List (Nat × Sm):=[]
def qz0:List (Nat × Hx):=[]
def clz9(R:Type)(lf:Nat):ClK R:=qa4 Try.prog ttT.get ftT.get (nm1 12 nmz9) (smL q1u) (hxL qz0) lf 20 R
abbrev idz9:Nat:=12
def qhh(x1:(List qaa))(x2:(List qaa))(p:Int):NRes:=(NRes.mk (.node (some (IV.lst qac x1)) (.node (some (IV.lst qac x2)) .leaf (.node (some (IV.int .i64 p)) .leaf .leaf)) .leaf) (IS.mk .leaf 0) [] 0)
def qvs(lf:Nat)(x1:(List qaa))(x2:(List qaa))(L4:Int->Option Rtz9):Option Rtz9:=(cond (Bool.not (ieqI (Int.ofNat x1.length) (Int.ofNat x2.length))) (some (false,())) (L4 (Int.ofNat 0)))
def qlz(lf:Nat)(x1:(List qaa))(x2:(List qaa))(L4:Int->Option Rtz9)(p:Int):Option Rtz9:=(cond (iltI p (Int.ofNat x1.length)) (match (jget x1 p) with|none=>none|some v0=>(match (jget x2 p) with|none=>none|some v1=>(cond (Bool.not (Bool.and (keqI v0.1 v1.1) (Bool.and (keqS v0.2.1 v1.2.1) (Bool.and (keqB v0.2.2 v1.2.2) true)))) (some (false,())) (L4 (IntKind.i64.wrap (Int.add p (Int.ofNat 1))))))) (some (true,())))
abbrev gz9:Type:=ElA [(.list qac),(.list qac)]->Option Rtz9
abbrev sz9(g:gz9):Sm:=⟨[(.list qac),(.list qac)],[(false,.bool)],g⟩
abbrev Ez9(g:gz9)(J:JT Rtz9)(lf:Nat)(x1:(List qaa))(x2:(List qaa)):=qb5 Try.prog ttT.get nmz9 fi12.nt (clz9 _ lf) lf stz9 J fi12.body [] (qa0 (argV [(.list qac),(.list qac)] (x1,x2,())) 0 .leaf) S0 [] (qa1 ttT.get fi12 (sz9 g))
abbrev Bz9(g:gz9)(J:JT Rtz9)(lf k:Nat)(ms:List Nat)(q:NRes):=qcm Try.prog ttT.get nmz9 fi12.nt (clz9 _ lf) lf stz9 J k fi12.body [] ms q (qa1 ttT.get fi12 (sz9 g))
theorem inz9(g:gz9)(J:JT Rtz9)(lf:Nat)(x1:(List qaa))(x2:(List qaa)):Ez9 g J lf x1 x2=qvs lf x1 x2 (fun q=>J 4 [lf] (qhh x1 x2 q)):=by kernel_rfl
theorem zl1(g:gz9)(J:JT Rtz9)(lf:Nat)(x1:(List qaa))(x2:(List qaa))(m1:Nat)(p:Int):Bz9 g J lf 4 [m1] (qhh x1 x2 p)=qlz lf x1 x2 (fun q=>J 4 [m1] (qhh x1 x2 q)) p:=by kernel_rfl
theorem ndz9:(regs fi12.body).Nodup:=by decide +kernel
theorem okz9:okC nmz9 stz9 hdz9 fi12.body none=true:=by kernel_rfl
def Az9(g:gz9)(lf:Nat):JT Rtz9:=atN Try.prog ttT.get nmz9 fi12 (sz9 g) (clz9 _ lf) lf hdz9
def qn6(lf:Nat)(x1:(List qaa))(x2:(List qaa)):Nat->(Int)->Option Rtz9:=qa9 fun K p=>qlz lf x1 x2 K p
theorem qzg(g:gz9)(lf:Nat)(x1:(List qaa))(x2:(List qaa)):∀(n:Nat) (p:Int),Az9 g lf 4 [n] (qhh x1 x2 p)=qn6 lf x1 x2 n p
 | 0,p=>qb4 4 [0] rfl _
 | n+1,p=>by
  have ih:=qzg g lf x1 x2 n;refine(qb6 (qbh 20 _) ndz9 okz9 4 [n+1] [n] rfl _).trans ((zl1 g (Az9 g lf) lf x1 x2 n p).trans ?_);rw[(show (fun q=>Az9 g lf 4 [n] (qhh x1 x2 q))=(fun q=>qn6 lf x1 x2 n q) from funext ih)];rfl
def Fz9(lf:Nat)(x1:(List qaa))(x2:(List qaa)):Option Rtz9:=qvs lf x1 x2 (fun q=>qn6 lf x1 x2 lf q)
theorem zbf(g:gz9)(lf:Nat)(x1:(List qaa))(x2:(List qaa)):Ez9 g (Az9 g lf) lf x1 x2=Fz9 lf x1 x2:=by
  refine(inz9 g (Az9 g lf) lf x1 x2).trans ?_;rw[(show (fun q=>Az9 g lf 4 [lf] (qhh x1 x2 q))=(fun q=>qn6 lf x1 x2 lf q) from funext fun q=>qzg g lf x1 x2 lf q)];rfl
theorem zbc:qbi Try.prog qz0:=trivial
theorem mkz9{g:gz9}(hsm:SmOK Try.prog q1u)(hg:∀(x:ElA [(.list qac),(.list qac)]) (y:Rtz9),WfA [(.list qac),(.list qac)] x->g x=some y->∃lf,Fz9 lf x.1 x.2.1=some y):Con Try.prog 12 ⟨[(.list qac),(.list qac)],[(false,.bool)],g⟩ :=
 conV (st:=stz9) (fun lf x=>Fz9 lf x.1 x.2.1) cm3 zct zbc ndz9 okz9 (fun lf x=>zbf g lf x.1 x.2.1) hsm hg
def qlc:Nat->Option Nm:=fun k=>cond (Nat.beq k 2) (some ⟨[0,4],[(4,qac)],[],[],[],0,0,false⟩) (none)
def qk2:Nat->Bool:=fun k=>cond (Nat.beq k 2) true (false)
def qzt:=qk2
abbrev qc2:Type:=(List qaa) × Bool × Unit
def qzq:List (Nat × Sm):=[]
def q1h:List (Nat × Hx):=[]
def quf(R:Type)(lf:Nat):ClK R:=qa4 Try.prog ttT.get ftT.get (nm1 74 qlc) (smL qzq) (hxL q1h) lf 20 R
abbrev zme:Nat:=74
def qhm(x1:ByteArray)(p:ByteArray × (List qaa)):NRes:=(NRes.mk (.node (some (IV.str p.1)) .leaf (.node none (.node (some (IV.arr 0)) .leaf .leaf) .leaf)) (IS.mk (.node (some (IObj.arr qac p.2)) .leaf .leaf) 1) [] 0)
def qvr(lf:Nat)(x1:ByteArray)(L2:(ByteArray × (List qaa))->Option qc2):Option qc2:=(L2 (x1,[]))
def qo6(lf:Nat)(x1:ByteArray)(L2:(ByteArray × (List qaa))->Option qc2)(p:ByteArray × (List qaa)):Option qc2:=(cond (iltI (Int.ofNat 0) (Int.ofNat p.1.size)) (cond (iltI (Int.ofNat p.1.size) (Int.ofNat 3)) (some ([],(false,()))) (match (jget (qab p.1) (Int.ofNat 0)) with|none=>none|some v0=>(match (jget (qab p.1) (Int.ofNat 1)) with|none=>none|some v1=>(match (jget (qab p.1) (Int.ofNat 2)) with|none=>none|some v2=>(cond (lchk (Int.ofNat 3) (Int.ofNat p.1.size) (Int.ofNat p.1.size) (Int.ofNat p.1.size)) (cond (iltI (Int.ofNat 199) (IntKind.i64.wrap v0)) (some ([],(false,()))) (cond (iltI (Int.ofNat 0) (Int.ofNat p.2.length)) (match (jget p.2 (IntKind.i64.wrap (Int.sub (Int.ofNat p.2.length) (Int.ofNat 1)))) with|none=>none|some v3=>(match (GetElem?.getElem? p.2 (Int.toNat (IntKind.i64.wrap (Int.sub (Int.ofNat p.2.length) (Int.ofNat 1))))) with|none=>none|some v4=>(cond (Bool.not (iltI v4.1 (IntKind.i64.wrap v0))) (some ([],(false,()))) (cond (iltI (IntKind.i64.wrap (Int.ofNat (Nat.add (ByteArray.size (ByteArray.extract p.1 3 (Int.toNat (Int.ofNat p.1.size)))) 1))) (IntKind.i64.wrap (Int.add (IntKind.i64.wrap (Int.mul (IntKind.i64.wrap v1) (Int.ofNat 256))) (IntKind.i64.wrap v2)))) (some ([],(false,()))) (cond (iltI (Int.ofNat 4001) (IntKind.i64.wrap (Int.add (IntKind.i64.wrap (Int.mul (IntKind.i64.wrap v1) (Int.ofNat 256))) (IntKind.i64.wrap v2)))) (some ([],(false,()))) (cond (ieqI (IntKind.i64.wrap (Int.add (IntKind.i64.wrap (Int.mul (IntKind.i64.wrap v1) (Int.ofNat 256))) (IntKind.i64.wrap v2))) (Int.ofNat 0)) (cond (Nat.ble (Nat.mul (Nat.add p.2.length 1) 32) 140737488355328) (L2 ((ByteArray.extract p.1 3 (Int.toNat (Int.ofNat p.1.size))),(List.append p.2 (List.cons ((IntKind.i64.wrap v0),((S.lit []),true)) [])))) none) (cond (lchk (Int.ofNat 0) (IntKind.i64.wrap (Int.sub (IntKind.i64.wrap (Int.add (IntKind.i64.wrap (Int.mul (IntKind.i64.wrap v1) (Int.ofNat 256))) (IntKind.i64.wrap v2))) (Int.ofNat 1))) (Int.ofNat (ByteArray.size (ByteArray.extract p.1 3 (Int.toNat (Int.ofNat p.1.size))))) (Int.ofNat (ByteArray.size (ByteArray.extract p.1 3 (Int.toNat (Int.ofNat p.1.size)))))) (cond (lchk (IntKind.i64.wrap (Int.sub (IntKind.i64.wrap (Int.add (IntKind.i64.wrap (Int.mul (IntKind.i64.wrap v1) (Int.ofNat 256))) (IntKind.i64.wrap v2))) (Int.ofNat 1))) (Int.ofNat (ByteArray.size (ByteArray.extract p.1 3 (Int.toNat (Int.ofNat p.1.size))))) (Int.ofNat (ByteArray.size (ByteArray.extract p.1 3 (Int.toNat (Int.ofNat p.1.size))))) (Int.ofNat (ByteArray.size (ByteArray.extract p.1 3 (Int.toNat (Int.ofNat p.1.size)))))) (cond (Nat.ble (Nat.mul (Nat.add p.2.length 1) 32) 140737488355328) (L2 ((ByteArray.extract (ByteArray.extract p.1 3 (Int.toNat (Int.ofNat p.1.size))) (Int.toNat (IntKind.i64.wrap (Int.sub (IntKind.i64.wrap (Int.add (IntKind.i64.wrap (Int.mul (IntKind.i64.wrap v1) (Int.ofNat 256))) (IntKind.i64.wrap v2))) (Int.ofNat 1)))) (Int.toNat (Int.ofNat (ByteArray.size (ByteArray.extract p.1 3 (Int.toNat (Int.ofNat p.1.size))))))),(List.append p.2 (List.cons ((IntKind.i64.wrap v0),((ByteArray.extract (ByteArray.extract p.1 3 (Int.toNat (Int.ofNat p.1.size))) 0 (Int.toNat (IntKind.i64.wrap (Int.sub (IntKind.i64.wrap (Int.add (IntKind.i64.wrap (Int.mul (IntKind.i64.wrap v1) (Int.ofNat 256))) (IntKind.i64.wrap v2))) (Int.ofNat 1))))),false)) [])))) none) none) none))))))) (cond (iltI (IntKind.i64.wrap (Int.ofNat (Nat.add (ByteArray.size (ByteArray.extract p.1 3 (Int.toNat (Int.ofNat p.1.size)))) 1))) (IntKind.i64.wrap (Int.add (IntKind.i64.wrap (Int.mul (IntKind.i64.wrap v1) (Int.ofNat 256))) (IntKind.i64.wrap v2)))) (some ([],(false,()))) (cond (iltI (Int.ofNat 4001) (IntKind.i64.wrap (Int.add (IntKind.i64.wrap (Int.mul (IntKind.i64.wrap v1) (Int.ofNat 256))) (IntKind.i64.wrap v2)))) (some ([],(false,()))) (cond (ieqI (IntKind.i64.wrap (Int.add (IntKind.i64.wrap (Int.mul (IntKind.i64.wrap v1) (Int.ofNat 256))) (IntKind.i64.wrap v2))) (Int.ofNat 0)) (cond (Nat.ble (Nat.mul (Nat.add p.2.length 1) 32) 140737488355328) (L2 ((ByteArray.extract p.1 3 (Int.toNat (Int.ofNat p.1.size))),(List.append p.2 (List.cons ((IntKind.i64.wrap v0),((S.lit []),true)) [])))) none) (cond (lchk (Int.ofNat 0) (IntKind.i64.wrap (Int.sub (IntKind.i64.wrap (Int.add (IntKind.i64.wrap (Int.mul (IntKind.i64.wrap v1) (Int.ofNat 256))) (IntKind.i64.wrap v2))) (Int.ofNat 1))) (Int.ofNat (ByteArray.size (ByteArray.extract p.1 3 (Int.toNat (Int.ofNat p.1.size))))) (Int.ofNat (ByteArray.size (ByteArray.extract p.1 3 (Int.toNat (Int.ofNat p.1.size)))))) (cond (lchk (IntKind.i64.wrap (Int.sub (IntKind.i64.wrap (Int.add (IntKind.i64.wrap (Int.mul (IntKind.i64.wrap v1) (Int.ofNat 256))) (IntKind.i64.wrap v2))) (Int.ofNat 1))) (Int.ofNat (ByteArray.size (ByteArray.extract p.1 3 (Int.toNat (Int.ofNat p.1.size))))) (Int.ofNat (ByteArray.size (ByteArray.extract p.1 3 (Int.toNat (Int.ofNat p.1.size))))) (Int.ofNat (ByteArray.size (ByteArray.extract p.1 3 (Int.toNat (Int.ofNat p.1.size)))))) (cond (Nat.ble (Nat.mul (Nat.add p.2.length 1) 32) 140737488355328) (L2 ((ByteArray.extract (ByteArray.extract p.1 3 (Int.toNat (Int.ofNat p.1.size))) (Int.toNat (IntKind.i64.wrap (Int.sub (IntKind.i64.wrap (Int.add (IntKind.i64.wrap (Int.mul (IntKind.i64.wrap v1) (Int.ofNat 256))) (IntKind.i64.wrap v2))) (Int.ofNat 1)))) (Int.toNat (Int.ofNat (ByteArray.size (ByteArray.extract p.1 3 (Int.toNat (Int.ofNat p.1.size))))))),(List.append p.2 (List.cons ((IntKind.i64.wrap v0),((ByteArray.extract (ByteArray.extract p.1 3 (Int.toNat (Int.ofNat p.1.size))) 0 (Int.toNat (IntKind.i64.wrap (Int.sub (IntKind.i64.wrap (Int.add (IntKind.i64.wrap (Int.mul (IntKind.i64.wrap v1) (Int.ofNat 256))) (IntKind.i64.wrap v2))) (Int.ofNat 1))))),false)) [])))) none) none) none)))))) none))))) (some (p.2,(true,()))))
abbrev gz10:Type:=ElA [.str]->Option qc2
abbrev sz10(g:gz10):Sm:=⟨[.str],[(true,qac),(false,.bool)],g⟩
abbrev Ez10(g:gz10)(J:JT qc2)(lf:Nat)(x1:ByteArray):=qb5 Try.prog ttT.get qlc fi74.nt (quf _ lf) lf qk2 J fi74.body [] (qa0 (argV [.str] (x1,())) 0 .leaf) S0 [] (qa1 ttT.get fi74 (sz10 g))
abbrev Bz10(g:gz10)(J:JT qc2)(lf k:Nat)(ms:List Nat)(q:NRes):=qcm Try.prog ttT.get qlc fi74.nt (quf _ lf) lf qk2 J k fi74.body [] ms q (qa1 ttT.get fi74 (sz10 g))
theorem zbx(g:gz10)(J:JT qc2)(lf:Nat)(x1:ByteArray):Ez10 g J lf x1=qvr lf x1 (fun q=>J 2 [lf] (qhm x1 q)):=by kernel_rfl
theorem zl5(g:gz10)(J:JT qc2)(lf:Nat)(x1:ByteArray)(m1:Nat)(p:ByteArray × (List qaa)):Bz10 g J lf 2 [m1] (qhm x1 p)=qo6 lf x1 (fun q=>J 2 [m1] (qhm x1 q)) p:=by kernel_rfl
theorem q08:(regs fi74.body).Nodup:=by decide +kernel
theorem q59:okC qlc qk2 qzt fi74.body none=true:=by kernel_rfl
def Az10(g:gz10)(lf:Nat):JT qc2:=atN Try.prog ttT.get qlc fi74 (sz10 g) (quf _ lf) lf qzt
def qis(lf:Nat)(x1:ByteArray):Nat->(ByteArray × (List qaa))->Option qc2:=qa9 fun K p=>qo6 lf x1 K p
theorem q1m(g:gz10)(lf:Nat)(x1:ByteArray):∀(n:Nat) (p:ByteArray × (List qaa)),Az10 g lf 2 [n] (qhm x1 p)=qis lf x1 n p
 | 0,p=>qb4 2 [0] rfl _
 | n+1,p=>by
  have ih:=q1m g lf x1 n;refine(qb6 (qbh 20 _) q08 q59 2 [n+1] [n] rfl _).trans ((zl5 g (Az10 g lf) lf x1 n p).trans ?_);rw[(show (fun q=>Az10 g lf 2 [n] (qhm x1 q))=(fun q=>qis lf x1 n q) from funext ih)];rfl
def Fz10(lf:Nat)(x1:ByteArray):Option qc2:=qvr lf x1 (fun q=>qis lf x1 lf q)
theorem zh9(g:gz10)(lf:Nat)(x1:ByteArray):Ez10 g (Az10 g lf) lf x1=Fz10 lf x1:=by
  refine(zbx g (Az10 g lf) lf x1).trans ?_;rw[(show (fun q=>Az10 g lf 2 [lf] (qhm x1 q))=(fun q=>qis lf x1 lf q) from funext fun q=>q1m g lf x1 lf q)];rfl
theorem zoj:qbi Try.prog q1h:=trivial
theorem zl0{g:gz10}(hsm:SmOK Try.prog qzq)(hg:∀(x:ElA [.str]) (y:qc2),WfA [.str] x->g x=some y->∃lf,Fz10 lf x.1=some y):Con Try.prog 74 ⟨[.str],[(true,qac),(false,.bool)],g⟩ :=
 conV (st:=qk2) (fun lf x=>Fz10 lf x.1) cm3 zof zoj q08 q59 (fun lf x=>zh9 g lf x.1) hsm hg
def qjq:Nat->Option Nm:=fun k=>cond (Nat.beq k 8) (some ⟨[2,4,5,6,46,47,48],[],[],[],[],0,0,false⟩) (cond (Nat.beq k 14) (some ⟨[2,5,6,9,10,11],[(9,qac)],[],[],[],0,0,false⟩) (none))
def qk3:Nat->Bool:=fun k=>cond (Nat.beq k 8) true (cond (Nat.beq k 14) true (false))
def q36:=qk3
abbrev qbt:Type:=qfo × Unit
def qy8:List (Nat × Sm):=[(74,q2y)]
def qw4:List (Nat × Hx):=[]
def qvk(R:Type)(lf:Nat):ClK R:=qa4 Try.prog ttT.get ftT.get (nm1 63 qjq) (smL qy8) (hxL qw4) lf 20 R
abbrev zac:Nat:=63
def qil(x1:(List ByteArray))(p:Int × Int × ByteArray):NRes:=(NRes.mk (.node none (.node none (.node none (.node none (.node none .leaf (.node (some (IV.int .i64 (Int.ofNat (List.length (lsub x1 (Int.ofNat 0) (IntKind.i64.wrap (Int.tdiv (IntKind.i64.wrap (Int.sub (IntKind.i64.wrap (Int.add (IntKind.i64.wrap (Int.add p.1 (Int.ofNat 4))) (Int.ofNat 64))) (Int.ofNat 1))) (Int.ofNat 64)))))))) .leaf .leaf)) .leaf) .leaf) (.node (some (IV.int .i64 (IntKind.i64.wrap (Int.tdiv (IntKind.i64.wrap (Int.sub (IntKind.i64.wrap (Int.add (IntKind.i64.wrap (Int.add p.1 (Int.ofNat 4))) (Int.ofNat 64))) (Int.ofNat 1))) (Int.ofNat 64))))) .leaf .leaf)) (.node (some (IV.ptr 0 0)) (.node (some (IV.int .i64 p.1)) (.node none (.node none .leaf (.node (some (IV.int .i64 p.2.1)) .leaf .leaf)) .leaf) .leaf) (.node (some (IV.str p.2.2)) .leaf (.node none .leaf (.node none (.node (some (IV.lst TC.str (lsub x1 (Int.ofNat 0) (IntKind.i64.wrap (Int.tdiv (IntKind.i64.wrap (Int.sub (IntKind.i64.wrap (Int.add (IntKind.i64.wrap (Int.add p.1 (Int.ofNat 4))) (Int.ofNat 64))) (Int.ofNat 1))) (Int.ofNat 64)))))) .leaf .leaf) .leaf))))) (IS.mk (.node (some (IObj.row (List.cons IV.nilsl (List.cons (IV.int .i64 (Int.ofNat 0)) [(IV.bool false)])))) .leaf .leaf) 1) [] 0)
def qh4(x1:(List ByteArray))(p:(List qaa) × Bool × Int × Int × ByteArray):NRes:=(NRes.mk (.node none (.node none (.node none .leaf (.node (some (IV.int .i64 p.2.2.1)) .leaf .leaf)) (.node (some (IV.int .i64 p.2.2.2.1)) (.node (some (IV.arr 1)) .leaf .leaf) .leaf)) (.node (some (IV.ptr 0 0)) .leaf (.node (some (IV.str p.2.2.2.2)) (.node (some (IV.bool p.2.1)) .leaf .leaf) .leaf))) (IS.mk (.node (some (IObj.row (List.cons IV.nilsl (List.cons (IV.int .i64 (Int.ofNat 0)) [(IV.bool false)])))) (.node (some (IObj.arr qac p.1)) .leaf .leaf) .leaf) 2) [] 0)
def qsl(lf:Nat)(x1:(List ByteArray))(L8:(Int × Int × ByteArray)->Option qbt):Option qbt:=(match (jget x1 (Int.ofNat 0)) with|none=>none|some v0=>(match (jget (qab v0) (Int.ofNat 1)) with|none=>none|some v1=>(match (jget (qab v0) (Int.ofNat 2)) with|none=>none|some v2=>(match (jget (qab v0) (Int.ofNat 3)) with|none=>none|some v3=>(match (jget (qab v0) (Int.ofNat 0)) with|none=>none|some v4=>(cond (Bool.not (ieqI v4 (Int.ofNat 1))) (some (([],((Int.ofNat 0),true)),())) (cond (iltI (Int.ofNat x1.length) (IntKind.i64.wrap (Int.tdiv (IntKind.i64.wrap (Int.sub (IntKind.i64.wrap (Int.add (IntKind.i64.wrap (Int.add (IntKind.i64.wrap (Int.add (IntKind.i64.wrap (Int.add (IntKind.i64.wrap (Int.mul (IntKind.i64.wrap v1) (Int.ofNat 65536))) (IntKind.i64.wrap (Int.mul (IntKind.i64.wrap v2) (Int.ofNat 256))))) (IntKind.i64.wrap v3))) (Int.ofNat 4))) (Int.ofNat 64))) (Int.ofNat 1))) (Int.ofNat 64)))) (some (([],((Int.ofNat 0),true)),())) (cond (lchk (Int.ofNat 0) (IntKind.i64.wrap (Int.tdiv (IntKind.i64.wrap (Int.sub (IntKind.i64.wrap (Int.add (IntKind.i64.wrap (Int.add (IntKind.i64.wrap (Int.add (IntKind.i64.wrap (Int.add (IntKind.i64.wrap (Int.mul (IntKind.i64.wrap v1) (Int.ofNat 65536))) (IntKind.i64.wrap (Int.mul (IntKind.i64.wrap v2) (Int.ofNat 256))))) (IntKind.i64.wrap v3))) (Int.ofNat 4))) (Int.ofNat 64))) (Int.ofNat 1))) (Int.ofNat 64))) (IntKind.i64.wrap (Int.tdiv (IntKind.i64.wrap (Int.sub (IntKind.i64.wrap (Int.add (IntKind.i64.wrap (Int.add (IntKind.i64.wrap (Int.add (IntKind.i64.wrap (Int.add (IntKind.i64.wrap (Int.mul (IntKind.i64.wrap v1) (Int.ofNat 65536))) (IntKind.i64.wrap (Int.mul (IntKind.i64.wrap v2) (Int.ofNat 256))))) (IntKind.i64.wrap v3))) (Int.ofNat 4))) (Int.ofNat 64))) (Int.ofNat 1))) (Int.ofNat 64))) (Int.ofNat x1.length)) (L8 ((IntKind.i64.wrap (Int.add (IntKind.i64.wrap (Int.add (IntKind.i64.wrap (Int.mul (IntKind.i64.wrap v1) (Int.ofNat 65536))) (IntKind.i64.wrap (Int.mul (IntKind.i64.wrap v2) (Int.ofNat 256))))) (IntKind.i64.wrap v3))),(Int.ofNat 0),(S.lit []))) none))))))))
def qkr(lf:Nat)(x1:(List ByteArray))(L8:(Int × Int × ByteArray)->Option qbt)(L14:((List qaa) × Bool × Int × Int × ByteArray)->Option qbt)(p:Int × Int × ByteArray):Option qbt:=(cond (iltI p.2.1 (Int.ofNat (List.length (lsub x1 (Int.ofNat 0) (IntKind.i64.wrap (Int.tdiv (IntKind.i64.wrap (Int.sub (IntKind.i64.wrap (Int.add (IntKind.i64.wrap (Int.add p.1 (Int.ofNat 4))) (Int.ofNat 64))) (Int.ofNat 1))) (Int.ofNat 64))))))) (match (jget (lsub x1 (Int.ofNat 0) (IntKind.i64.wrap (Int.tdiv (IntKind.i64.wrap (Int.sub (IntKind.i64.wrap (Int.add (IntKind.i64.wrap (Int.add p.1 (Int.ofNat 4))) (Int.ofNat 64))) (Int.ofNat 1))) (Int.ofNat 64)))) p.2.1) with|none=>none|some v0=>(cond (Nat.ble (Nat.succ (Nat.add p.2.2.size v0.size)) 9223372036854775808) (L8 (p.1,(IntKind.i64.wrap (Int.add p.2.1 (Int.ofNat 1))),(ByteArray.append p.2.2 v0))) none)) (cond (lchk (Int.ofNat 4) (IntKind.i64.wrap (Int.add (Int.ofNat 4) p.1)) (Int.ofNat p.2.2.size) (Int.ofNat p.2.2.size)) (match (cond (Nat.ble (ByteArray.size (ByteArray.extract p.2.2 4 (Int.toNat (IntKind.i64.wrap (Int.add (Int.ofNat 4) p.1))))) 1000000) (some ((S.chg (ByteArray.extract p.2.2 4 (Int.toNat (IntKind.i64.wrap (Int.add (Int.ofNat 4) p.1))))).1,((S.chg (ByteArray.extract p.2.2 4 (Int.toNat (IntKind.i64.wrap (Int.add (Int.ofNat 4) p.1))))).2,()))) none) with|none=>none|some v127=>(L14 (v127.1,v127.2.1,(IntKind.i64.wrap (Int.add (Int.ofNat 4) p.1)),(IntKind.i64.wrap (Int.tdiv (IntKind.i64.wrap (Int.sub (IntKind.i64.wrap (Int.add (IntKind.i64.wrap (Int.add p.1 (Int.ofNat 4))) (Int.ofNat 64))) (Int.ofNat 1))) (Int.ofNat 64))),p.2.2))) none))
def qh8(lf:Nat)(x1:(List ByteArray))(L14:((List qaa) × Bool × Int × Int × ByteArray)->Option qbt)(p:(List qaa) × Bool × Int × Int × ByteArray):Option qbt:=(cond (iltI p.2.2.1 (Int.ofNat p.2.2.2.2.size)) (cond p.2.1 (match (jget (qab p.2.2.2.2) p.2.2.1) with|none=>none|some v0=>(L14 (p.1,(ieqI v0 (Int.ofNat 0)),(IntKind.i64.wrap (Int.add p.2.2.1 (Int.ofNat 1))),p.2.2.2.1,p.2.2.2.2))) (L14 (p.1,false,(IntKind.i64.wrap (Int.add p.2.2.1 (Int.ofNat 1))),p.2.2.2.1,p.2.2.2.2))) (some ((p.1,(p.2.2.2.1,(Bool.not p.2.1))),())))
abbrev gz11:Type:=ElA [(.list .str)]->Option qbt
abbrev sz11(g:gz11):Sm:=⟨[(.list .str)],[(false,cKeepRecord)],g⟩
abbrev Ez11(g:gz11)(J:JT qbt)(lf:Nat)(x1:(List ByteArray)):=qb5 Try.prog ttT.get qjq fi63.nt (qvk _ lf) lf qk3 J fi63.body [] (qa0 (argV [(.list .str)] (x1,())) 0 .leaf) S0 [] (qa1 ttT.get fi63 (sz11 g))
abbrev Bz11(g:gz11)(J:JT qbt)(lf k:Nat)(ms:List Nat)(q:NRes):=qcm Try.prog ttT.get qjq fi63.nt (qvk _ lf) lf qk3 J k fi63.body [] ms q (qa1 ttT.get fi63 (sz11 g))
theorem q9d(g:gz11)(J:JT qbt)(lf:Nat)(x1:(List ByteArray)):Ez11 g J lf x1=qsl lf x1 (fun q=>J 8 [lf] (qil x1 q)):=by kernel_rfl
theorem zgl(g:gz11)(J:JT qbt)(lf:Nat)(x1:(List ByteArray))(m1:Nat)(p:Int × Int × ByteArray):Bz11 g J lf 8 [m1] (qil x1 p)=qkr lf x1 (fun q=>J 8 [m1] (qil x1 q)) (fun q=>J 14 [lf] (qh4 x1 q)) p:=by kernel_rfl
theorem zlv(g:gz11)(J:JT qbt)(lf:Nat)(x1:(List ByteArray))(m1:Nat)(p:(List qaa) × Bool × Int × Int × ByteArray):Bz11 g J lf 14 [m1] (qh4 x1 p)=qh8 lf x1 (fun q=>J 14 [m1] (qh4 x1 q)) p:=by kernel_rfl
theorem qrv:(regs fi63.body).Nodup:=by decide +kernel
theorem qqz:okC qjq qk3 q36 fi63.body none=true:=by kernel_rfl
def Az11(g:gz11)(lf:Nat):JT qbt:=atN Try.prog ttT.get qjq fi63 (sz11 g) (qvk _ lf) lf q36
def qe6(lf:Nat)(x1:(List ByteArray)):Nat->((List qaa) × Bool × Int × Int × ByteArray)->Option qbt:=qa9 fun K p=>qh8 lf x1 K p
theorem q4i(g:gz11)(lf:Nat)(x1:(List ByteArray)):∀(n:Nat) (p:(List qaa) × Bool × Int × Int × ByteArray),Az11 g lf 14 [n] (qh4 x1 p)=qe6 lf x1 n p
 | 0,p=>qb4 14 [0] rfl _
 | n+1,p=>by
  have ih:=q4i g lf x1 n;refine(qb6 (qbh 20 _) qrv qqz 14 [n+1] [n] rfl _).trans ((zlv g (Az11 g lf) lf x1 n p).trans ?_);rw[(show (fun q=>Az11 g lf 14 [n] (qh4 x1 q))=(fun q=>qe6 lf x1 n q) from funext ih)];rfl
def qmn(lf:Nat)(x1:(List ByteArray)):Nat->(Int × Int × ByteArray)->Option qbt:=qa9 fun K p=>qkr lf x1 K (fun q=>qe6 lf x1 lf q) p
theorem qxi(g:gz11)(lf:Nat)(x1:(List ByteArray)):∀(n:Nat) (p:Int × Int × ByteArray),Az11 g lf 8 [n] (qil x1 p)=qmn lf x1 n p
 | 0,p=>qb4 8 [0] rfl _
 | n+1,p=>by
  have ih:=qxi g lf x1 n;refine(qb6 (qbh 20 _) qrv qqz 8 [n+1] [n] rfl _).trans ((zgl g (Az11 g lf) lf x1 n p).trans ?_);rw[(show (fun q=>Az11 g lf 14 [lf] (qh4 x1 q))=(fun q=>qe6 lf x1 lf q) from funext fun q=>q4i g lf x1 lf q),(show (fun q=>Az11 g lf 8 [n] (qil x1 q))=(fun q=>qmn lf x1 n q) from funext ih)];rfl
def Fz11(lf:Nat)(x1:(List ByteArray)):Option qbt:=qsl lf x1 (fun q=>qmn lf x1 lf q)
theorem zg0(g:gz11)(lf:Nat)(x1:(List ByteArray)):Ez11 g (Az11 g lf) lf x1=Fz11 lf x1:=by
  refine(q9d g (Az11 g lf) lf x1).trans ?_;rw[(show (fun q=>Az11 g lf 8 [lf] (qil x1 q))=(fun q=>qmn lf x1 lf q) from funext fun q=>qxi g lf x1 lf q)];rfl
theorem zmp:qbi Try.prog qw4:=trivial
theorem q9o{g:gz11}(hsm:SmOK Try.prog qy8)(hg:∀(x:ElA [(.list .str)]) (y:qbt),WfA [(.list .str)] x->g x=some y->∃lf,Fz11 lf x.1=some y):Con Try.prog 63 ⟨[(.list .str)],[(false,cKeepRecord)],g⟩ :=
 conV (st:=qk3) (fun lf x=>Fz11 lf x.1) cm3 q4u zmp qrv qqz (fun lf x=>zg0 g lf x.1) hsm hg
def qgg(out:List qaa):Int:=(out.getLast?.map (·.1)).getD (-1)
theorem qsw(out:List qaa)(c:qaa):qgg (out++[c])=c.1:=by simp[qgg]
theorem zjh{R:Type}{out:List qaa}{k:Int}(hk:0<=k)(hl:out.length<1000000000)(N T:Option R) :
  cond (iltI (Int.ofNat 0) (Int.ofNat out.length)) (match jget out (IntKind.i64.wrap (Int.sub (Int.ofNat out.length) (Int.ofNat 1))) with
   | none=>none
   | some v3=>match out[Int.toNat (IntKind.i64.wrap (Int.sub (Int.ofNat out.length) (Int.ofNat 1)))]? with
    | none=>none
    | some v4=>cond (!iltI v4.1 k) N T) T=cond (decide (k<=qgg out)) N T:=by
 rcases List.eq_nil_or_concat out with rfl|⟨o,c,rfl⟩
 ·have:decide (k<=qgg [])=false:=jat (by show ¬k<=-1;omega);rw[this];rfl
 ·rw[List.concat_eq_append] at *;have hlen:(o++[c]).length=o.length+1:=by simp
  rw[hlen] at hl ⊢;have e:IntKind.i64.wrap (Int.sub (Int.ofNat (o.length+1)) (Int.ofNat 1))=Int.ofNat o.length:=by
   have:Int.sub (Int.ofNat (o.length+1)) (Int.ofNat 1)=Int.ofNat o.length:=by
    show ((o.length+1:Nat):Int)-1=(o.length:Int);omega
   rw[this];exact qbv (by omega)
  rw[e,qc1];have h1:(o++[c])[o.length]?=some c:=by simp
  have h2:(o++[c])[Int.toNat (Int.ofNat o.length)]?=some c:=h1;rw[h1,h2,qcf,jan (by omega),jab,qsw];show cond (!iltI c.1 k) N T=_;rw[qbc,qtn]
def chgR(out:List qaa):Option (List qaa)->List qaa × Bool
 | some l=>(out++l,true)
 | none=>([],false)
theorem qu0(x1:ByteArray):∀(f F:Nat) (r:List Int) (out:List qaa),rng r->r.length<f->f<=F->out.length+r.length<=3000000->qis LF x1 F (qae r,out)=some ((chgR out (S.changes f r (qgg out))).1,(chgR out (S.changes f r (qgg out))).2,())
 | 0,_,r,out,hr,hf,hF,ho=>by omega
 | f+1,0,r,out,hr,hf,hF,ho=>by omega
 | f+1,F+1,r,out,hr,hf,hF,ho=>by
  show qo6 LF x1 (qis LF x1 F) _=_;simp only[qo6,qbr hr,qbg];rcases r with _|⟨k,_|⟨a,_|⟨b,r⟩⟩⟩
  ·show some (out,true,())=some (out++[],true,());rw[ja9]
  ·rfl
  ·rfl
  ·have hk:=hr k (by simp);have ha:=hr a (by simp);have hb:=hr b (by simp);have hr':rng r:=fun x hx=>hr x (by simp[hx]);have hlen:(k::a::b::r).length=r.length+3:=rfl;rw[hlen] at hf ho;have l1:lchk (Int.ofNat 3) (Int.ofNat (k::a::b::r).length) (Int.ofNat (k::a::b::r).length) (Int.ofNat (k::a::b::r).length)=true:=qb1.2 ⟨by decide,by show (3:Int)<=((r.length+3:Nat):Int);omega,jbt _,jbt _⟩;have he:ByteArray.extract (qae (k::a::b::r)) 3 (Int.toNat (Int.ofNat (k::a::b::r).length))=qae r:=qlf hr 3;have wk:IntKind.i64.wrap k=k:=wrap_in (by omega);have wn:IntKind.i64.wrap (Int.add (IntKind.i64.wrap (Int.mul (IntKind.i64.wrap a) (Int.ofNat 256))) (IntKind.i64.wrap b))=a*256+b:=by
    rw[wrap_in (n:=a) (by omega),wrap_in (n:=b) (by omega),wrap_in (n:=Int.mul a (Int.ofNat 256)) (by show -_<=a*256/\a*256<_;omega)];exact wrap_in (by show -_<=a*256+b/\a*256+b<_;omega)
   have hn:0<=a*256+b/\a*256+b<65536:=by omega
   rw[qn5];rw[qcf,jan (show 0<(k::a::b::r).length by rw[hlen];omega),jab,qcf,jat (show ¬(k::a::b::r).length<3 by rw[hlen];omega),jah,qc1,qc1,qc1];show cond (lchk _ _ _ _) _ _=_;rw[l1,jab,he,wk,wn];generalize a*256+b=n at hn;by_cases c1:199<k
   ·rw[qex (show Int.ofNat 199<k from c1),jab,jam (.inl c1)];rfl
   rw[qfb (show ¬Int.ofNat 199<k from c1),jah];refine(zjh (out:=out) hk.1 (by omega) _ _).trans ?_;by_cases c2:k<=qgg out
   ·rw[jan c2,jab,jam (.inr (.inl c2))];rfl
   rw[jat c2,jah,qbg,qbv (n:=Nat.add r.length 1) (by show r.length+1<_;omega)];by_cases c3:(r.length:Int)+1<n
   ·rw[qex (show Int.ofNat (Nat.add r.length 1)<n from by show ((r.length+1:Nat):Int)<n;omega),jab,jam (.inr (.inr (.inl c3)))];rfl
   rw[qfb (show ¬Int.ofNat (Nat.add r.length 1)<n from by show ¬((r.length+1:Nat):Int)<n;omega),jah];by_cases c4:4001<n
   ·rw[qex (show Int.ofNat 4001<n from c4),jab,jam (.inr (.inr (.inr c4)))];rfl
   rw[qfb (show ¬Int.ofNat 4001<n from c4),jah,jao (by omega)];rw[jay (show Nat.mul (Nat.add out.length 1) 32<=140737488355328 by show (out.length+1)*32<=_;omega),jab];by_cases c5:n=0
   ·rw[qbo (show n=Int.ofNat 0 from c5),jab,jam c5,qu0 x1 f F r _ hr' (by omega) (by omega) (by simp only[jej,jag,jar,jaw];omega)];rw[jej,qsw];show some ((chgR (out++[(k,S.none_,true)]) (S.changes f r k)).1,_,())=_;cases S.changes f r k with
    | none=>rfl
    | some l=>show some (out++[_]++l,true,())=some (out++_::l,true,());rw[ja0];rfl
   ·rw[qbn (show ¬n=Int.ofNat 0 from c5),jah,jao c5];have e1:IntKind.i64.wrap (Int.sub n (Int.ofNat 1))=n-1:=wrap_in (by show -_<=n-1/\n-1<_;omega);have l2:lchk (Int.ofNat 0) (n-1) (Int.ofNat r.length) (Int.ofNat r.length)=true:=qb1.2 ⟨jbt _,by show (0:Int)<=n-1;omega,by show n-1<=(r.length:Int);omega,jbt _⟩;have l3:lchk (n-1) (Int.ofNat r.length) (Int.ofNat r.length) (Int.ofNat r.length)=true:=qb1.2 ⟨by omega,by show n-1<=(r.length:Int);omega,jbt _,jbt _⟩;rw[e1,l2,jab,l3,jab,show Int.toNat (Int.ofNat r.length)=r.length from rfl,qlf hr',q6s hr'];rw[qu0 x1 f F (r.drop (n-1).toNat) _ (qdz hr' _) (by rw[ja7];omega) (by omega) (by simp only[jej,jag,jar,jaw,ja7];omega)];rw[jej,qsw];cases S.changes f (r.drop (n-1).toNat) k with
    | none=>rfl
    | some l=>show some (out++[_]++l,true,())=some (out++_::l,true,());rw[ja0];rfl
theorem zlb(b:ByteArray)(h:b.size<=1000000):Fz10 LF b=some ((S.chg b).1,(S.chg b).2,()):=by
 obtain⟨r,h1,rfl,h3,h4⟩:=quj b;rw[h3] at h;simp only[Fz10,qvr];refine(qu0 (qae r) (r.length+1) LF r [] h1 (by omega) (by unfold LF;omega) (by rw[jaw];omega)).trans ?_;unfold S.chg;rw[h3,h4];show some ((chgR [] (S.changes (r.length+1) r (-1))).1,(chgR [] (S.changes (r.length+1) r (-1))).2,())=_;cases S.changes (r.length+1) r (-1)<;>rfl
theorem q9m:Con Try.prog zme q2y:=zl0 trivial fun x y hx h=>⟨LF,by
 obtain⟨h1,h2⟩:=qbb (show cond (Nat.ble x.1.size 1000000) (some ((S.chg x.1).1,(S.chg x.1).2,())) none=some y from h);exact(zlb x.1 (jak h1)).trans (jas some h2)⟩
theorem quq:∀{l:List qaa} {last:Int},S.okGo l last=true->-1<=last->(l.length:Int)<=max 0 (199-last)
 | [],_,_,_=>by rw[jaw];omega
 | c::l,last,h,hl=>by
  obtain⟨h1,h2,h3,h4,h5⟩:=qbp.1 h;have:=quq h5 (by omega);rw[jar];omega
theorem q9p{l:List qaa}(h:S.okC l=true):l.length<=200:=by
 have:=quq (l:=l) (last:=-1) h (jbt _);omega
theorem zfi(x c:qaa)(h:x.1<c.1)(a:List qaa):S.ins1 c (x::a)=x::S.ins1 c a:=by
 show (if x.1<c.1 then x::S.ins1 c a else _)=_;rw[jam h]
theorem q48(x:qaa):∀(b a:List qaa) (last:Int),S.okGo b last=true->x.1<=last->S.changed (x::a) b=x::S.changed a b
 | [],a,_,_,_=>rfl
 | c::b,a,last,h,hx=>by
  obtain⟨h1,h2,h3,h4,h5⟩:=qbp.1 h;show S.changed (S.ins1 c (x::a)) b=x::S.changed (S.ins1 c a) b;rw[zfi x c (by omega)];exact q48 x b _ c.1 h5 (by omega)
theorem q9f{c:qaa}{b:List qaa}{last:Int}(h:S.okGo (c::b) last=true):S.changed [] (c::b)=cond c.2.2 (S.changed [] b) (c::S.changed [] b):=by
 obtain⟨h1,h2,h3,h4,h5⟩:=qbp.1 h;show S.changed (cond c.2.2 [] [c]) b=_;cases c.2.2 with
 | true=>rfl
 | false=>exact q48 c b [] c.1 h5 (jbt _)
theorem q0l{l:List qaa}(h:S.pk l=true)(m:Int):(S.packed l m).length<=20000:=by
 have:=qlt h;rw[qbq];omega
theorem qpv{α:Type}{l:List α}{d:α}(h:1<=l.length):jget l (Int.ofNat 0)=some (l.getD 0 d):=qvn (i:=Int.ofNat 0) (d:=d) (jbt _) (by show (0:Int)<(l.length:Int);omega)
theorem get0{α:Type}{l:List α}{d:α}(h:1<=l.length):l[0]?=some (l.getD 0 d):=by
 cases l with
 | nil=>exact absurd h (Nat.not_succ_le_zero 0)
 | cons a l=>rfl
theorem zgn:S.packed [] 1=[qae (1::List.replicate 63 0)]:=by kernel_rfl
theorem zjv(lf:Nat)(d:qah):qpl lf d=some ((S.format d).1,(S.format d).2,()):=by
 simp only[qpl,q4t];unfold S.format;show cond (!ieqI (S.checkDisk d) _) _ _=_;by_cases h0:S.checkDisk d=0
 ·rw[qbo (show S.checkDisk d=Int.ofNat 0 from h0),jbb,jah,jam h0,qcf];by_cases h1:d.2.length=0
  ·rw[jat (by omega),jah,jam h1,jab,show S.pk []=true from rfl,jab];simp only[show S.packed [] (Int.ofNat 1)=S.packed [] 1 from rfl,zgn];rfl
  ·rw[jan (by omega),jab,jao h1];rfl
 ·rw[qbn (show ¬S.checkDisk d=Int.ofNat 0 from h0),jao h0,ja6,jab]
theorem qk8{l:List ByteArray}(h:S.secs l=true):l.length<=1000/\∀s∈l,s.size=64:=by
 unfold S.secs at h;rw[jae,jcm] at h;refine⟨jak h.1,fun s hs=>?_⟩;have:=jdo.1 h.2 s hs;unfold S.short at this;simpa using this
theorem q5l{l:List ByteArray}(h:S.secs1 l=true):1<=l.length/\l.length<=1000/\∀s∈l,s.size=64:=by
 unfold S.secs1 at h;rw[jae] at h;exact⟨jak h.1,qk8 h.2⟩
theorem qeh{l:List ByteArray}{i:Nat}(h:i<l.length):l.getD i S.none_∈l:=by
 rw[jai,jac h];exact jbk h
theorem q6h{s:ByteArray}(h:s.size=64):∃b0 b1 b2 b3 r,qab s=b0::b1::b2::b3::r:=by
 have:=qct s;rcases hs:qab s with _|⟨b0,_|⟨b1,_|⟨b2,_|⟨b3,r⟩⟩⟩⟩
 case cons.cons.cons.cons=>exact⟨_,_,_,_,_,rfl⟩
 all_goals rw[hs] at this;simp only[jar,jaw] at this;omega
theorem zf6(l:List ByteArray)(v:ByteArray):(l++[v]).flatMap qab=l.flatMap qab++qab v:=by simp
theorem q8o(l:List ByteArray)(v:ByteArray):ByteArray.append (qae (l.flatMap qab)) v=qae ((l++[v]).flatMap qab):=by
 rw[zf6,<- qeo,qfm]
theorem q9k{N:Nat}(h:N<100000000):IntKind.i64.wrap (Int.tdiv (Int.ofNat (N+63)) (Int.ofNat 64))=Int.ofNat ((N+63) / 64):=qbv (n:=(N+63) / 64) (by omega)
theorem qub{N:Nat}(h:N<100000000):IntKind.i64.wrap (Int.tdiv (IntKind.i64.wrap (Int.sub (IntKind.i64.wrap (Int.add (Int.ofNat N) (Int.ofNat 64))) (Int.ofNat 1))) (Int.ofNat 64))=Int.ofNat ((N+63) / 64):=by
 rw[show IntKind.i64.wrap (Int.add (Int.ofNat N) (Int.ofNat 64))=Int.ofNat (N+64) from qbv (n:=N+64) (by omega)];have:Int.sub (Int.ofNat (N+64)) (Int.ofNat 1)=Int.ofNat (N+63):=by
  show ((N+64:Nat):Int)-1=((N+63:Nat):Int);omega
 rw[this,qbv (n:=N+63) (by omega)];exact q9k h
theorem za2{b0 b1 b2 b3:Int}{r:List Int}(h:rng (b0::b1::b2::b3::r)):b1*65536+b2*256+b3=((S.recN (b0::b1::b2::b3::r):Nat):Int)/\S.recN (b0::b1::b2::b3::r)<16777216:=by
 have h1:=h b1 (by simp);have h2:=h b2 (by simp);have h3:=h b3 (by simp);have e:S.recN (b0::b1::b2::b3::r)=(b1*65536+b2*256+b3).toNat:=rfl;rw[e];omega
def q3a(l:List Int):Bool:=l.all fun b=>decide (b=0)
theorem qvt(l:List ByteArray)(cells:List qaa)(M:Int)(f:List Int)(hr:rng f)(hf:f.length<=1000000):∀(k F i:Nat) (is:Bool),i+k=f.length->k<F->qe6 LF l F (cells,is,Int.ofNat i,M,qae f)=some ((cells,M,!(is&&q3a (f.drop i))),())
 | 0,F+1,i,is,hi,hF=>by
  show qh8 LF l (qe6 LF l F) _=_;simp only[qh8];rw[qbg,qcf,jat (by omega),jah,jct (by omega)];cases is<;>rfl
 | k+1,F+1,i,is,hi,hF=>by
  show qh8 LF l (qe6 LF l F) _=_;simp only[qh8];have hlt:i<f.length:=by omega
  rw[qbg,qcf,jan hlt,jab,qbr hr,qc1,jac hlt,jdk hlt,show IntKind.i64.wrap (Int.add (Int.ofNat i) (Int.ofNat 1))=Int.ofNat (i+1) from qbv (n:=i+1) (by omega)];simp only;rw[qvt l cells M f hr hf k F (i+1) _ (by omega) (by omega),qvt l cells M f hr hf k F (i+1) _ (by omega) (by omega)];show _=some ((cells,M,!(is&&(decide (f[i]=0)&&q3a (f.drop (i+1))))),());cases is with
  | false=>rfl
  | true =>
   rw[jab,qdh];rfl
theorem znd(l:List ByteArray)(h:S.secs1 l=true):Fz11 LF l=some (S.readK l,()):=by
 obtain⟨h1,h2,h3⟩:=q5l h;have hs:=h3 _ (qeh (i:=0) (by omega));obtain⟨b0,b1,b2,b3,r,hb⟩:=q6h hs;have hrb:rng (b0::b1::b2::b3::r):=hb▸qdq _;obtain⟨n1,n2⟩:=za2 hrb;have hM:S.recM (b0::b1::b2::b3::r)=(S.recN (b0::b1::b2::b3::r)+4+63) / 64:=rfl;have r1:=hrb b1 (by simp);have r2:=hrb b2 (by simp);have r3:=hrb b3 (by simp);unfold S.readK;simp only[Fz11,qsl,qpv (d:=S.none_) h1,hb];rw[hM];generalize S.recN (b0::b1::b2::b3::r)=N at n1 n2;have wn:IntKind.i64.wrap (Int.add (IntKind.i64.wrap (Int.add (IntKind.i64.wrap (Int.mul (IntKind.i64.wrap b1) (Int.ofNat 65536))) (IntKind.i64.wrap (Int.mul (IntKind.i64.wrap b2) (Int.ofNat 256))))) (IntKind.i64.wrap b3))=Int.ofNat N:=by
  rw[wrap_in (n:=b1) (by omega),wrap_in (n:=b2) (by omega),wrap_in (n:=b3) (by omega),wrap_in (n:=Int.mul b1 (Int.ofNat 65536)) (by show -_<=b1*65536/\b1*65536<_;omega),wrap_in (n:=Int.mul b2 (Int.ofNat 256)) (by show -_<=b2*256/\b2*256<_;omega),
   wrap_in (n:=Int.add (Int.mul b1 (Int.ofNat 65536)) (Int.mul b2 (Int.ofNat 256))) (by show -_<=b1*65536+b2*256/\b1*65536+b2*256<_;omega)]
  rw[show Int.add (Int.add (Int.mul b1 (Int.ofNat 65536)) (Int.mul b2 (Int.ofNat 256))) b3=Int.ofNat N from n1];exact qbv (by omega)
 have w4:IntKind.i64.wrap (Int.add (Int.ofNat N) (Int.ofNat 4))=Int.ofNat (N+4):=qbv (n:=N+4) (by omega);simp only[qc1,jap,jav,wn,w4,qub (N:=N+4) (by omega)];by_cases c0:b0=1
 ·have e0:ieqI b0 (Int.ofNat 1)=true:=qbo c0;rw[e0,jbb,jah];by_cases c1:l.length<(N+4+63) / 64
  ·rw[qex (show Int.ofNat l.length<Int.ofNat ((N+4+63) / 64) from jfw.2 c1),jab,jam (.inr c1)];rfl
  ·rw[qfb (show ¬Int.ofNat l.length<Int.ofNat ((N+4+63) / 64) from fun h=>c1 (jfw.1 h)),jah,jao (show ¬(¬(b0::b1::b2::b3::r).getD 0 0=1\/l.length<(N+4+63) / 64) from fun h=>h.elim (fun h=>h c0) c1)];obtain⟨M,hMe⟩:∃M,(N+4+63) / 64=M:=⟨_,rfl⟩;rw[hMe] at c1 ⊢;have l1:lchk (Int.ofNat 0) (Int.ofNat M) (Int.ofNat M) (Int.ofNat l.length)=true:=qb1.2 ⟨jbt _,jb2 _,jbt _,by show (M:Int)<=(l.length:Int);omega⟩;rw[l1,jab];have hL:(l.take M).length=M:=by rw[jbc,jcl (by omega)]
   have hfl:∀i,((((l.take M).take i).flatMap qab).length)=64*min i M:=fun i=>by
    rw[qua _ fun s hs=>h3 s (jb4 (jb4 hs)),jbc,hL]
   refine(range0 (σ:=ByteArray) (R:=qbt) (T:=fun K p=>qkr LF l K (fun q=>qe6 LF l LF q) p) (l.take M) (fun i s=>(Int.ofNat N,i,s)) (fun i s=>s=qae (((l.take M).take i).flatMap qab)) (fun _ _ _=>some ((match S.changes (N+1) ((((l.take M).flatMap qab).drop 4).take N) (-1) with
     | some c=>(c,(M:Int),!((((l.take M).flatMap qab).drop (4+N)).all fun b=>decide (b=0)))
     | none=>([],(M:Int),true)),())) (by rw[hL];unfold LF;omega) (fun K s hs=>?_) (fun K i v rest s hs r hk=>?_) (S.lit []) rfl).trans rfl
   ·rw[hL,jbp (by rw[hL];exact jaq _)] at hs;have hf:=hfl M;rw[Nat.min_self,jbp (by rw[hL];exact jaq _)] at hf;have hrf:=q58 (l.take M);simp only[qkr,w4,qub (N:=N+4) (by omega),hMe];rw[show lsub l (Int.ofNat 0) (Int.ofNat M)=l.take M from rfl,qc5,jah,hs];generalize (l.take M).flatMap qab=f at hf hrf;have w4':IntKind.i64.wrap (Int.add (Int.ofNat 4) (Int.ofNat N))=Int.ofNat (4+N):=qbv (n:=4+N) (by omega);have l2:lchk (Int.ofNat 4) (Int.ofNat (4+N)) (Int.ofNat f.length) (Int.ofNat f.length)=true:=qb1.2 ⟨by decide,by show (4:Int)<=((4+N:Nat):Int);omega,by show ((4+N:Nat):Int)<=((f.length:Nat):Int);omega,jbt _⟩;have hext:ByteArray.extract (qae f) 4 (Int.toNat (Int.ofNat (4+N)))=qae ((f.drop 4).take N):=by
     refine qfk ?_;rw[qr1,qbr hrf,qbr (qez (qdz hrf 4) N),jc4];show (f.drop 4).take (4+N-4)=_;rw[ja4]
    have hszN:((f.drop 4).take N).length=N:=by rw[jbc,ja7,jcl (by omega)]
    rw[w4',qbg,l2,jab,hext,qbg,jay (by rw[hszN];omega),jab];simp only;rw[qvt l _ _ f hrf (by omega) (f.length-(4+N)) LF (4+N) _ (by omega) (by unfold LF;omega)];unfold S.chg;rw[qbg,hszN,qbr (qez (qdz hrf 4) N)];cases S.changes (N+1) ((f.drop 4).take N) (-1)<;>rfl
   ·have hi:=r.lt;rw[hL] at hi;subst hs;have hfi:=hfl i;rw[jcl (by omega)] at hfi;have hvs:=h3 v (jb4 r.mem);simp only[qkr,w4,qub (N:=N+4) (by omega),hMe];rw[show lsub l (Int.ofNat 0) (Int.ofNat M)=l.take M from rfl,r.ilt,jab,r.get];simp only;rw[qbg,hfi,hvs,qes (by show 64*i+64<_;omega),jab,r.next,q8o,<- r.take];exact hk _ rfl
 ·have e0:ieqI b0 (Int.ofNat 1)=false:=qbn c0;rw[e0,ja6,jab,jam (.inl (show ¬(b0::b1::b2::b3::r).getD 0 0=1 from c0))];rfl
theorem zbn:Con Try.prog zac zig:=q9o ⟨q9m,trivial⟩ fun x y hx h=>⟨LF,by
 obtain⟨h1,h2⟩:=qbb (show cond (S.secs1 x.1) (some (S.readK x.1,())) none=some y from h);exact(znd x.1 h1).trans (jas some h2)⟩

theorem q3y:S.lit [0,0,0,0,0,0,0,0,0,0,0,0,0,0,0,0,0,0,0,0,0,0,0,0,0,0,0,0,0,0,0,0,0,0,0,0,0,0,0,0,0,0,0,0,0,0,0,0,0,0,0,0,0,0,0,0,0,0,0,0,0,0,0]=qae (List.replicate 63 0):=by kernel_rfl
theorem qwn{d:qah}(h:S.checkDisk d=0):Dk d.1:=by
 obtain⟨ok,h8,h2⟩:=qp9 h;exact⟨ok.sz,h8,ok.le,h2⟩
theorem Jn.opened_{L:List ByteArray}{h:Int}{a u:Nat}{c:List qaa}(j:Jn L h a u c):S.open_ (L,[])=(((L,[]),h,(u:Int),c),0):=by
 unfold S.open_;rw[jam j.dk.check,jam (show (L,([]:List DPut)).2.length=0 from rfl)]
 show (match S.opened L with
  | some (h,u,c)=>(((L,([]:List DPut)),h,(u:Int),c),(0:Int))
  | none=>(S.noJ,15))=_
 rw[j.open_]
theorem qt0{d:qah}(h:(S.open_ d).2=0):∃hf a u c,Jn d.1 hf a u c/\d.2=[]/\S.open_ d=(((d.1,[]),hf,(u:Int),c),0):=by
 unfold S.open_ at h ⊢;by_cases h0:S.checkDisk d=0
 ·rw[jam h0] at h ⊢;by_cases h1:d.2.length=0
  ·rw[jam h1] at h ⊢;cases ho:S.opened d.1 with
   | none=>rw[ho] at h;cases h
   | some x =>
    obtain⟨hf,u,c⟩:=x;obtain⟨a,j⟩:=zbo (qwn h0) ho;exact⟨hf,a,u,c,j,ja1.1 h1,rfl⟩
  ·rw[jao h1] at h;cases h
 ·rw[jao h0] at h;exact absurd h h0
theorem qrb{j:qad}(h:S.right j=true):∃a u,Jn j.1.1 j.2.1 a u j.2.2.2/\j.1.2=[]/\j.2.2.1=((u:Nat):Int):=by
 unfold S.right at h;rw[jae] at h;obtain⟨hf,a,u,c,k,h1,h2⟩:=qt0 (ja2 h.1);have h3:=ja2 h.2;rw[h2] at h3;obtain⟨⟨l,q⟩,hh,uu,cc⟩:=j;cases h3;exact⟨a,u,k,rfl,rfl⟩
theorem Jn.right{L:List ByteArray}{h:Int}{a u:Nat}{c:List qaa}(j:Jn L h a u c):S.right ((L,[]),h,(u:Int),c)=true:=by
 unfold S.right;rw[jae];show decide ((S.open_ (L,[])).2=0)=true/\decide ((S.open_ (L,[])).1=_)=true;rw[j.opened_];exact⟨jan rfl,jan rfl⟩
theorem qli{l:List qaa}(h:S.okC l=true):S.pk l=true:=by
 unfold S.pk;rw[h,jay (by have:=q9p h;omega)];rfl
theorem zi9(l:List qaa)(m m':Int):(S.packed l m).drop 1=(S.packed l m').drop 1:=by
 have e:∀x:Int,S.packed l x=qae ((S.recB l x).take 64++List.replicate (64-(S.recB l x).length) 0)::S.chunks ((S.body l).length+3) ((S.recB l x).drop 64):=fun x=>qgw ((S.body l).length+3) (b:=S.recB l x) (by rw[qem];omega);rw[e m,e m'];rfl
theorem qfz(l:List qaa)(m:Int):S.packed l m=(S.packed l m).getD 0 S.none_::(S.packed l 1).drop 1:=by
 have hp:=qcv l m;rw[<- zi9 l m 1];cases h:S.packed l m with
 | nil=>rw[h] at hp;cases hp
 | cons s r=>rfl
theorem qds(l:List qaa)(m:Int):szS (S.packed l m):=q2h _ _
theorem qvh:S.blank.size=64:=by kernel_rfl
theorem qrl:(qab S.blank).getD 0 0=0:=by kernel_rfl
theorem qzv{L:List ByteArray}{a:Nat}{x y:ByteArray}{r:List ByteArray}(h:a+(r.length+1)<=L.length):over (over L a (x::r)) a [y]=over L a (y::r):=by
 have h':a+(x::r).length<=L.length:=h;have h1:=qg8 h';have h2:=qgu h';show (over L a (x::r)).take a++([y]++(over L a (x::r)).drop (a+1))=L.take a++((y::r)++L.drop (a+(r.length+1)));rw[h1,<- jb5,h2];rfl
theorem za4(X:List ByteArray)(t:ByteArray):∀{b:Nat},1<=b->(over X 0 [t]).drop b=X.drop b
 | 0,h=>by omega
 | b+1,_=>by
  show (t::X.drop (0+1)).drop (b+1)=_;rw[List.drop_succ_cons,jb5,show 0+1+b=b+1 by omega]
theorem Dk.over{L:List ByteArray}(d:Dk L){a:Nat}{ss:List ByteArray}(h:a+ss.length<=L.length)(hs:szS ss):Dk (over L a ss):=by
 refine⟨zkz d.sz hs,?_,?_,?_⟩<;>rw[qcl h]
 ·exact d.ge
 ·exact d.le
 ·exact d.ev
theorem qsp{L:List ByteArray}{a:Nat}{l:List qaa}{tail:List ByteArray}{r:List DAct}(ht:szS tail)(h:a+((S.packed l 1).length+tail.length)<=L.length)(hL:L.length<=1000) :
  S.doGo (S.puts (a:Int) (S.packed l 0++tail)++(S.sync::S.put (a:Int) ((S.packed l 1).getD 0 S.none_)::S.sync::r)) L []=S.doGo r (over L a (S.packed l 1++tail)) []:=by
 have e1:(S.packed l 0).length=(S.packed l 1).length:=by rw[qbq,qbq]
 have hp:=qcv l 1;have h':a+(S.packed l 0++tail).length<=L.length:=by rw[jag,e1];exact h
 have hs:szS (S.packed l 0++tail):=fun s hs=>(jbn.1 hs).elim (qds l 0 s) (ht s);have hol:(over L a (S.packed l 0++tail)).length=L.length:=qcl h';rw[qgv _ _ _ _ _ hs h' (by rw[jaw];omega),jck,qef,qdn _ _ _ h',qgx (qds l 1 _ (qeh (by omega))) (by omega) (by rw[jaw];omega),qef];have:S.settled (over L a (S.packed l 0++tail)) ([]++[(((a:Nat):Int),(S.packed l 1).getD 0 S.none_)])=over L a (S.packed l 1++tail):=by
  refine(qdn [(S.packed l 1).getD 0 S.none_] a _ (by rw[hol];simp only[jar,jaw];omega)).trans ?_;have hlen:a+(((S.packed l 1).drop 1++tail).length+1)<=L.length:=by rw[jag,ja7];omega
  have s1:=qfz l 1;rw[qfz l 0,jch];refine(qzv hlen).trans (jas (over L a) ?_);rw[<- jch,<- s1]
 rw[this]
def qet(b:Bool):List ByteArray:=cond b [S.blank] []
theorem q6k(b:Bool):szS (qet b):=fun s h=>by
 cases b with
 | true=>rw[jb0.1 h];exact qvh
 | false=>cases h
theorem zg3(l:List qaa)(a:Nat)(e:Int)(b:Bool):S.laid l (a:Int) e b=S.puts (a:Int) (S.packed l 0++qet (b&&decide ((a:Int)+(S.packed l 1).length<e)))++[S.sync,S.put (a:Int) ((S.packed l 1).getD 0 S.none_),S.sync]:=by
 have e1:(S.packed l 0).length=(S.packed l 1).length:=by rw[qbq,qbq]
 unfold S.laid;rw[qt6,e1,ja0];cases (b&&decide ((a:Int)+(S.packed l 1).length<e))<;>rfl
theorem q7f{j:qad}{l:List qaa}(h:¬S.roomOf j<(S.packed l 1).length):S.commit j l=some (S.laid l ((S.half j.1.1.length j.2.1).1+j.2.2.1) (S.half j.1.1.length j.2.1).2 true):=by
 unfold S.commit S.laid;rw[jao h,jcb,ja0]
theorem qsm{L:List ByteArray}{h:Int}{a u:Nat}{c:List qaa}(j:Jn L h a u c):S.roomOf ((L,[]),h,(u:Int),c)=((L.length / 2-1-u:Nat):Int):=by
 have:=j.le.1;unfold S.roomOf;show (S.half L.length h).2-(S.half L.length h).1-(u:Int)=_;rw[j.fr];show ((a+(L.length / 2-1):Nat):Int)-(a:Int)-(u:Int)=_;omega
def comL(L:List ByteArray)(a u:Nat)(l:List qaa):List ByteArray:=over L (a+u) (S.packed l 1++qet (decide (u+(S.packed l 1).length<L.length / 2-1)))
theorem qm0{L:List ByteArray}{h:Int}{a u:Nat}{c l:List qaa}(j:Jn L h a u c)(hl:S.okC l=true)(hr:u+(S.packed l 1).length<=L.length / 2-1) :
  S.commit ((L,[]),h,(u:Int),c) l=some (S.laid l ((a+u:Nat):Int) ((a+(L.length / 2-1):Nat):Int) true) /\
  S.doD (L,[]) (S.laid l ((a+u:Nat):Int) ((a+(L.length / 2-1):Nat):Int) true)=((comL L a u l,[]),0) /\
  Jn (comL L a u l) h a (u+(S.packed l 1).length) (S.changed c l)/\(comL L a u l).length=L.length:=by
 have hto:=j.to_;have hle:=j.dk.le;have hb:=qlt (qli hl);have hd:decide (((a+u:Nat):Int)+(S.packed l 1).length<((a+(L.length / 2-1):Nat):Int))=decide (u+(S.packed l 1).length<L.length / 2-1):=jdr.2 (by omega);have htl:(qet (decide (u+(S.packed l 1).length<L.length / 2-1))).length=if u+(S.packed l 1).length<L.length / 2-1 then 1 else 0:=by
  by_cases e:u+(S.packed l 1).length<L.length / 2-1
  ·rw[jam e,jan e];rfl
  ·rw[jao e,jat e];rfl
 have hfit:a+u+((S.packed l 1).length+(qet (decide (u+(S.packed l 1).length<L.length / 2-1))).length)<=L.length:=by
  rw[htl];split<;>omega
 have hfit':a+u+(S.packed l 1++qet (decide (u+(S.packed l 1).length<L.length / 2-1))).length<=L.length:=by rw[jag];exact hfit
 have hsz:szS (S.packed l 1++qet (decide (u+(S.packed l 1).length<L.length / 2-1))):=fun s hs=>(jbn.1 hs).elim (qds l 1 s) (q6k _ s);refine⟨?_,?_,?_,qcl hfit'⟩
 ·rw[q7f (by rw[qsm j];omega)];show some (S.laid l ((S.half L.length h).1+(u:Int)) (S.half L.length h).2 true)=_;rw[j.fr];rfl
 ·unfold S.doD;rw[jam j.dk.check,zg3,jcb,hd];exact(qsp (r:=[]) (q6k _) hfit hle).trans (qey _ _)
 ·refine j.more (j.dk.over hfit' hsz) (qcl hfit') (qg8 hfit') hl (by omega) hr (rest:=qet (decide (u+(S.packed l 1).length<L.length / 2-1))++L.drop (a+u+(S.packed l 1++qet (decide (u+(S.packed l 1).length<L.length / 2-1))).length)) ?_ ?_
  ·show (over L (a+u) _).drop (a+u)=_;rw[qgu hfit',ja0]
  ·by_cases e:u+(S.packed l 1).length<L.length / 2-1
   ·right;rw[jan e];exact qrl
   ·left;omega
theorem q6z:∀{c:List qaa} {last:Int},okS c last->S.changed [] c=c
 | [],_,_=>rfl
 | x::c,last,h=>by
  have hx:=h.2 x (by simp);have h5:=(qbp.1 h.1).2.2.2.2;rw[q9f h.1,hx,jah,q6z (c:=c) ⟨h5,fun y hy=>h.2 y (by simp[hy])⟩]
theorem q20{j:qad}(h:¬(S.half j.1.1.length (1-j.2.1)).2-(S.half j.1.1.length (1-j.2.1)).1<(S.packed j.2.2.2 1).length):S.turn j=some (S.puts (S.half j.1.1.length (1-j.2.1)).1 (List.replicate ((S.half j.1.1.length (1-j.2.1)).2-(S.half j.1.1.length (1-j.2.1)).1).toNat S.blank)++[S.sync]++S.puts (S.half j.1.1.length (1-j.2.1)).1 (S.packed j.2.2.2 0) ++
  [S.sync,S.put (S.half j.1.1.length (1-j.2.1)).1 ((S.packed j.2.2.2 1).getD 0 S.none_),S.sync,S.put 0 (qae ((1-j.2.1)::List.replicate 63 0)),S.sync]):=by
 unfold S.turn;rw[jao h]
def topS(h:Int):ByteArray:=qae (h::List.replicate 63 0)
def turL(L:List ByteArray)(h:Int)(b:Nat)(c:List qaa):List ByteArray:=over (over (over L b (List.replicate (L.length / 2-1) S.blank)) b (S.packed c 1)) 0 [topS h]
def turA(L:List ByteArray)(h:Int)(b:Nat)(c:List qaa):List DAct:=S.puts (b:Int) (List.replicate (L.length / 2-1) S.blank)++[S.sync]++S.puts (b:Int) (S.packed c 0)++[S.sync,S.put (b:Int) ((S.packed c 1).getD 0 S.none_),S.sync,S.put 0 (topS h),S.sync]
theorem qhd{h:Int}:(topS h).size=64:=by
 unfold topS;rw[qbg,jar,ja5]
theorem q1a{h:Int}(hh:h=0\/h=1):qab (topS h)=topB h:=qbr fun x hx=>by
 rcases jax.1 hx with rfl|hx
 ·omega
 ·exact qgn 63 x hx
theorem qsg{L:List ByteArray}{h:Int}{a u:Nat}{c:List qaa}(j:Jn L h a u c)(hr:(S.packed c 1).length<=L.length / 2-1):∃b:Nat,S.half L.length (1-h)=((b:Int),((b+(L.length / 2-1):Nat):Int)) /\
  S.turn ((L,[]),h,(u:Int),c)=some (turA L (1-h) b c)/\S.doD (L,[]) (turA L (1-h) b c)=((turL L (1-h) b c,[]),0)/\Jn (turL L (1-h) b c) (1-h) b (S.packed c 1).length c/\(turL L (1-h) b c).length=L.length:=by
 have hh:=j.hh;have hle:=j.dk.le;have hge:=j.dk.ge;have hok:=j.le.2.1;have hb:=qlt (qli hok.1);obtain⟨b,e1,e2,e3,_,_⟩:=qep j.dk.ev hge (h:=1-h) (by omega);have hK:(List.replicate (L.length / 2-1) S.blank).length=L.length / 2-1:=ja5;have hf1:b+(List.replicate (L.length / 2-1) S.blank).length<=L.length:=by rw[hK];omega
 have hs1:szS (List.replicate (L.length / 2-1) S.blank):=fun s hs=>by rw[(jev.1 hs).2];exact qvh
 have d1:=j.dk.over hf1 hs1;have l1:(over L b (List.replicate (L.length / 2-1) S.blank)).length=L.length:=qcl hf1;have hf2:b+(S.packed c 1).length<=(over L b (List.replicate (L.length / 2-1) S.blank)).length:=by rw[l1];omega
 have d2:=d1.over hf2 (qds c 1);have l2:=(qcl hf2).trans l1;have hf3:0+[topS (1-h)].length<=(over (over L b (List.replicate (L.length / 2-1) S.blank)) b (S.packed c 1)).length:=by rw[l2];show 0+1<=_;omega
 have hs3:szS [topS (1-h)]:=fun s hs=>by rw[jb0.1 hs];exact qhd
 have d3:=d2.over hf3 hs3;have l3:(turL L (1-h) b c).length=L.length:=(qcl hf3).trans l2;have hmem:(S.packed c 1).getD 0 S.none_∈S.packed c 1:=qeh (qcv c 1);refine⟨b,e1,?_,?_,?_,l3⟩
 ·rw[q20]
  ·show some (S.puts (S.half L.length (1-h)).1 (List.replicate ((S.half L.length (1-h)).2-(S.half L.length (1-h)).1).toNat S.blank)++[S.sync]++S.puts (S.half L.length (1-h)).1 (S.packed c 0)++_)=_;rw[e1];have:(((b+(L.length / 2-1):Nat):Int)-(b:Int)).toNat=L.length / 2-1:=by omega
   simp only[this];rfl
  ·show ¬(S.half L.length (1-h)).2-(S.half L.length (1-h)).1<_;rw[e1];show ¬((b+(L.length / 2-1):Nat):Int)-(b:Int)<((S.packed c 1).length:Int);omega
 ·unfold S.doD;rw[jam j.dk.check];show S.doGo (turA L (1-h) b c) L []=_;unfold turA;rw[ja0,ja0,qgv _ _ _ _ _ hs1 hf1 (by rw[jaw,hK];omega),jck];show S.doGo (S.sync::_) _ _=_;rw[qef,qdn _ _ _ hf1];have:=qsp (L:=over L b (List.replicate (L.length / 2-1) S.blank)) (a:=b) (l:=c) (tail:=[]) (r:=[S.put ((0:Nat):Int) (topS (1-h)),S.sync]) (fun s hs=>by cases hs) (by rw[l1,jaw];omega) (by rw[l1];exact hle);rw[ja9,ja9] at this;refine this.trans ?_;rw[qgx qhd (by rw[l2];omega) (by rw[jaw];omega),qef,qey];refine jas (fun z=>((z,[]),0)) ?_;exact qdn [topS (1-h)] 0 _ hf3
 ·have hh':1-h=0\/1-h=1:=by omega
  have htop:(turL L (1-h) b c).getD 0 S.none_=topS (1-h):=rfl;refine⟨d3,hh',by rw[htop];exact q1a hh',by rw[l3];exact e1,e2,by rw[l3];exact e3,⟨2,?_⟩,qcv c 1⟩;rw[l3];have hdr:(turL L (1-h) b c).drop b=S.packed c 1++(over L b (List.replicate (L.length / 2-1) S.blank)).drop (b+(S.packed c 1).length):=by
   rw[<- qgu hf2];show (over _ 0 [topS (1-h)]).drop b=_;exact za4 _ _ e2
  rw[hdr,je7,jbp hr,q4z 1 c _ [] 0 hok.1 (by omega)];have hng:c.any (·.2.2)=false:=jdo.2 fun x hx=>by rw[hok.2 x hx];decide
  rw[hng,Bool.and_false,jah,q6z hok,jbm];have hrest:((over L b (List.replicate (L.length / 2-1) S.blank)).drop (b+(S.packed c 1).length)).take (L.length / 2-1-(S.packed c 1).length)=List.replicate (L.length / 2-1-(S.packed c 1).length) S.blank:=by
   rw[<- jb5,qgu hf1,jd6 (by rw[hK];exact hr),List.drop_replicate,jc7 (by rw[ja5];exact jaq _),jbp (by rw[ja5];exact jaq _)]
  rw[hrest];cases L.length / 2-1-(S.packed c 1).length with
  | zero=>rfl
  | succ n=>rw[jfg,qfa,jam qrl]
theorem q2q(a b:qaa):(keqI a.1 b.1&&(keqS a.2.1 b.2.1&&(keqB a.2.2 b.2.2&&true)))=decide (a=b):=by
 obtain⟨a1,a2,a3⟩:=a;obtain⟨b1,b2,b3⟩:=b;rw[jdc];simp[keqI,keqS,keqB]
theorem q26{α R:Type}[DecidableEq α]{T:(Int->Option R)->Int->Option R}(a b:List α)(hl:a.length=b.length)(ha:a.length<LF)(Y N:Option R)
  (h0:∀K,T K (Int.ofNat a.length)=Y)
  (h1:∀K i v w,iltI (Int.ofNat i) (Int.ofNat a.length)=true->jget a (Int.ofNat i)=some v->jget b (Int.ofNat i)=some w->IntKind.i64.wrap (Int.add (Int.ofNat i) (Int.ofNat 1))=Int.ofNat (i+1)->T K (Int.ofNat i)=cond (decide (v=w)) (K (Int.ofNat (i+1))) N) :
  qa9 T LF (Int.ofNat 0)=cond (decide (a=b)) Y N:=by
 refine(q5s (T:=T) a (fun rest i=>cond (decide (rest=b.drop i)) Y N) ha (fun K=>?_) (fun K i v rest r h=>?_)).trans ?_
 ·rw[h0,hl,jct (jaq _)];rfl
 ·have hi:=r.lt;obtain⟨w,w1,w2⟩:∃w,b[i]?=some w/\b.drop i=w::b.drop (i+1):=⟨b[i],jac (by omega),jdk (by omega)⟩;rw[h1 K i v w r.ilt r.get (by rw[qc1];exact w1) r.next,h,w2];by_cases e:v=w
  ·rw[jan e,jab];have:decide (rest=b.drop (i+1))=decide (v::rest=w::b.drop (i+1)):=jdr.2 (by rw[e];simp);rw[this]
  ·rw[jat e,jah,jat (fun h=>e (List.cons.inj h).1),jah]
 ·rfl
theorem zke(a b:List qaa)(ha:a.length<LF):Fz9 LF a b=some (S.sameC a b,()):=by
 simp only[Fz9,qvs];unfold S.sameC;by_cases e:a.length=b.length
 ·rw[qbo (show Int.ofNat a.length=Int.ofNat b.length from jas Int.ofNat e),jbb,jah];refine(q26 a b e ha (some (true,())) (some (false,())) (fun K=>?_) (fun K i v w h1 h2 h3 h4=>?_)).trans ?_
  ·simp only[qlz,qc5,jah]
  ·simp only[qlz,h1,h2,h3,h4,jab,q2q];cases decide (v=w)<;>rfl
  ·cases decide (a=b)<;>rfl
 ·rw[qbn (show ¬Int.ofNat a.length=Int.ofNat b.length from fun h=>e (jc5 h)),ja6,jab,jat (fun h=>e (jas List.length h))]
theorem zn0:Con Try.prog idz9 spz9:=mkz9 trivial fun x y hx h=>⟨LF,(zke x.1 x.2.1 (qdv (c:=qac) hx.1)).trans h⟩
def qcu(l:List qaa)(i:Nat):Int:=if i=0 then -1 else ((l.getD (i-1) (0,S.none_,false)).1)
theorem qyu{R:Type}{l:List qaa}{i:Nat}{k:Int}(hk:0<=k)(hi:i<=l.length)(hl:l.length<1000000)(N T:Option R) :
  cond (iltI (Int.ofNat 0) (Int.ofNat i)) (match jget l (IntKind.i64.wrap (Int.sub (Int.ofNat i) (Int.ofNat 1))) with
   | none=>none
   | some v=>cond (!iltI v.1 k) N T) T=cond (decide (qcu l i<k)) T N:=by
 unfold qcu;cases i with
 | zero =>
  rw[jam rfl,jan (show (-1:Int)<k by omega)];rfl
 | succ i =>
  rw[jao (by omega),qcf,jan (by omega),jab];have e:IntKind.i64.wrap (Int.sub (Int.ofNat (i+1)) (Int.ofNat 1))=Int.ofNat i:=by
   have:Int.sub (Int.ofNat (i+1)) (Int.ofNat 1)=Int.ofNat i:=by
    show ((i+1:Nat):Int)-1=(i:Int);omega
   rw[this];exact qbv (by omega)
  rw[e,qvn (i:=Int.ofNat i) (d:=(0,S.none_,false)) (jb2 _) (by show (i:Int)<(l.length:Int);omega)];show cond (!iltI (l.getD i (0,S.none_,false)).1 k) N T=cond (decide ((l.getD i (0,S.none_,false)).1<k)) T N;rw[qbc];cases decide ((l.getD i (0,S.none_,false)).1<k)<;>rfl
theorem q7u{l:List qaa}{i:Nat}{v:qaa}(h:l[i]?=some v):qcu l (i+1)=v.1:=by
 unfold qcu;rw[jao (by omega),jai,Nat.add_sub_cancel,h];rfl
theorem znr(s:ByteArray):keqS s (S.lit [])=decide (s.size=0):=by
 unfold keqS;exact jdr.2 q31.symm
theorem quy{j:qad}(h:S.smallJ j=true):j.1.1.length<=1000/\j.1.1.length % 2=0/\-1000<=j.2.2.1/\j.2.2.1<=1000:=by
 unfold S.smallJ at h;rw[jae,jae,qbl] at h;exact⟨jak h.1,ja2 h.2.1,h.2.2.1,h.2.2.2⟩
structure RJ (j:qad) (a u:Nat):Prop where
 jn:Jn j.1.1 j.2.1 a u j.2.2.2
 eq:j=((j.1.1,[]),j.2.1,(u:Int),j.2.2.2)
 small:S.smallJ j=true
 room:S.roomR j=((j.1.1.length / 2-1-u:Nat):Int)
 room2:S.roomOf j=((j.1.1.length / 2-1-u:Nat):Int)
 halfG:(Nat.ble j.1.1.length 1000&&decide (j.1.1.length % 2=0))=true
 used:j.2.2.1=(u:Int)
theorem qfw{j:qad}(h:S.right j=true):∃a u,RJ j a u:=by
 obtain⟨a,u,jn,h1,h2⟩:=qrb h;have hle:=jn.dk.le;have hge:=jn.dk.ge;have hev:=jn.dk.ev;have hu:=jn.le.1;refine⟨a,u,jn,?_,?_,?_,?_,?_,h2⟩
 ·obtain⟨⟨l,q⟩,hh,uu,cc⟩:=j;simp only at h1 h2;rw[h1,h2]
 ·unfold S.smallJ;rw[jay hle,jan hev,jcb,jcb,qbl,h2];omega
 ·unfold S.roomR;rw[h2];omega
 ·have:=qsm jn;obtain⟨⟨l,q⟩,hh,uu,cc⟩:=j;simp only at h1 h2;subst h1 h2;exact this
 ·rw[jay hle,jan hev];rfl
theorem qud{l:List qaa}(h:(S.size l).2=0):S.okC l=true/\(S.size l).1=((S.packed l 1).length:Int)/\1<=l.length:=by
 unfold S.size at h ⊢;by_cases h1:60<l.length
 ·rw[jam h1] at h;cases h
 rw[jao h1] at h ⊢;by_cases h2:l.length=0
 ·rw[jam h2] at h;cases h
 rw[jao h2] at h ⊢;cases hc:S.okC l with
 | false=>rw[hc] at h;cases h
 | true=>exact⟨rfl,rfl,by omega⟩
theorem q3s{j:qad}{l:List qaa}(h:S.roomOf j<(S.packed l 1).length):S.commit j l=none:=by
 unfold S.commit;rw[jam h]
theorem qv1{j:qad}(h:(S.half j.1.1.length (1-j.2.1)).2-(S.half j.1.1.length (1-j.2.1)).1<(S.packed j.2.2.2 1).length):S.turn j=none:=by
 unfold S.turn;rw[jam h]
theorem zm8:S.lit [0,0,0,0,0,0,0,0,0,0,0,0,0,0,0,0,0,0,0,0,0,0,0,0,0,0,0,0,0,0,0,0,0,0,0,0,0,0,0,0,0,0,0,0,0,0,0,0,0,0,0,0,0,0,0,0,0,0,0,0,0,0,0]=qae (List.replicate 63 0):=q3y
theorem qwy{j:qad}{a u:Nat}(r:RJ j a u)(h1:S.right j=true):(S.turn j=none/\S.turnJ j=(S.noJ,14)/\S.planTurn j=([],14)/\j.1.1.length / 2-1<(S.packed j.2.2.2 1).length) \/
  ∃b:Nat,S.half j.1.1.length (1-j.2.1)=((b:Int),((b+(j.1.1.length / 2-1):Nat):Int))/\S.turn j=some (turA j.1.1 (1-j.2.1) b j.2.2.2)/\S.planTurn j=(turA j.1.1 (1-j.2.1) b j.2.2.2,0)/\S.doD j.1 (turA j.1.1 (1-j.2.1) b j.2.2.2)=((turL j.1.1 (1-j.2.1) b j.2.2.2,[]),0) /\
   S.turnJ j=(((turL j.1.1 (1-j.2.1) b j.2.2.2,[]),1-j.2.1,((S.packed j.2.2.2 1).length:Int),j.2.2.2),0)/\Jn (turL j.1.1 (1-j.2.1) b j.2.2.2) (1-j.2.1) b (S.packed j.2.2.2 1).length j.2.2.2:=by
 by_cases h3:j.1.1.length / 2-1<(S.packed j.2.2.2 1).length
 ·left;have hh:=r.jn.hh;obtain⟨b,e1,e2,e3,_,_⟩:=qep r.jn.dk.ev r.jn.dk.ge (h:=1-j.2.1) (by omega);have hn:S.turn j=none:=qv1 (by rw[e1];show ((b+(j.1.1.length / 2-1):Nat):Int)-(b:Int)<_;omega);have hp:S.planTurn j=([],14):=by
   unfold S.planTurn;rw[jam h1,hn]
  refine⟨hn,?_,hp,h3⟩;unfold S.turnJ;rw[hp];rfl
 ·right;obtain⟨b,f1,f2,f3,f4,f5⟩:=qsg r.jn (by omega);rw[<- r.eq] at f2;have hq:j.1=(j.1.1,[]):=jas (·.1) r.eq;rw[<- hq] at f3;have hp:S.planTurn j=(turA j.1.1 (1-j.2.1) b j.2.2.2,0):=by
   unfold S.planTurn;rw[jam h1,f2]
  refine⟨b,f1,f2,hp,f3,?_,f4⟩;unfold S.turnJ;rw[hp];show S.open_ (S.doD j.1 (turA j.1.1 (1-j.2.1) b j.2.2.2)).1=_;rw[f3];exact f4.opened_
theorem qri{j:qad}{a u:Nat}(r:RJ j a u){l:List qaa}(hl:S.okC l=true):(S.commit j l=none/\j.1.1.length / 2-1<u+(S.packed l 1).length) \/
  ∃A,S.commit j l=some A/\A=S.laid l ((a+u:Nat):Int) ((a+(j.1.1.length / 2-1):Nat):Int) true/\u+(S.packed l 1).length<=j.1.1.length / 2-1/\S.doD j.1 A=((comL j.1.1 a u l,[]),0) /\
   S.behind j A=(((comL j.1.1 a u l,[]),j.2.1,((u+(S.packed l 1).length:Nat):Int),S.changed j.2.2.2 l),0)/\Jn (comL j.1.1 a u l) j.2.1 a (u+(S.packed l 1).length) (S.changed j.2.2.2 l):=by
 have hu:=r.jn.le.1;by_cases h3:j.1.1.length / 2-1<u+(S.packed l 1).length
 ·exact .inl ⟨q3s (by rw[r.room2];omega),h3⟩
 ·right;obtain⟨c1,c2,c3,_⟩:=qm0 r.jn hl (by omega);rw[<- r.eq] at c1;have hq:j.1=(j.1.1,[]):=jas (·.1) r.eq;rw[<- hq] at c2;refine⟨_,c1,rfl,by omega,c2,?_,c3⟩;unfold S.behind;rw[c2];exact c3.opened_
theorem q8z(lf:Nat)(j:qad)(h:S.smallJ j=true):qpc lf j=some (S.roomOf j,()):=by
 obtain⟨h1,h2,h3,h4⟩:=quy h;simp only[qpc,qxo];rw[show S.inI (Int.ofNat j.1.1.length) (Int.ofNat 0) (Int.ofNat 1000)=true from qbl.2 ⟨jb2 _,by show (j.1.1.length:Int)<=1000;omega⟩,jab];simp only;unfold S.roomOf;show some (IntKind.i64.wrap (Int.sub (IntKind.i64.wrap ((S.half j.1.1.length j.2.1).2-(S.half j.1.1.length j.2.1).1)) j.2.2.1),())=_;have hb:-1000<=(S.half j.1.1.length j.2.1).2-(S.half j.1.1.length j.2.1).1/\(S.half j.1.1.length j.2.1).2-(S.half j.1.1.length j.2.1).1<=1000:=by
  unfold S.half;split
  ·show -1000<=((j.1.1.length / 2:Nat):Int)-1/\((j.1.1.length / 2:Nat):Int)-1<=1000;omega
  ·show -1000<=(j.1.1.length:Int)-1-((j.1.1.length / 2:Nat):Int)/\(j.1.1.length:Int)-1-((j.1.1.length / 2:Nat):Int)<=1000;omega
 rw[wrap_in (n:=(S.half j.1.1.length j.2.1).2-(S.half j.1.1.length j.2.1).1) (by omega)];refine jas (fun z=>some (z,())) (wrap_in ?_);show -_<=(S.half j.1.1.length j.2.1).2-(S.half j.1.1.length j.2.1).1-j.2.2.1/\(S.half j.1.1.length j.2.1).2-(S.half j.1.1.length j.2.1).1-j.2.2.1<_;omega
theorem q5h:Con Try.prog q8d quc:=zl8 ⟨qn1,trivial⟩ fun x y hx h=>⟨0,by
 obtain⟨h1,h2⟩:=qbb (show cond (S.smallJ x.1) (some (S.roomOf x.1,())) none=some y from h);exact(q8z 0 x.1 h1).trans (jas some h2)⟩
theorem zeu(l:List qaa):Fz1 LF l=some ((S.size l).1,(S.size l).2,()):=by
 simp only[Fz1,quv];unfold S.size;rw[qcf,q0m];by_cases h1:60<l.length
 ·rw[jan h1,jab,jam h1];rfl
 rw[jat h1,jah,jao h1];by_cases h2:l.length=0
 ·rw[jan h2,jab,jam h2];rfl
 rw[jat h2,jah,jao h2];have hfin:∀b:Bool,b=S.okC l->(cond b (some (((S.packed l 1).length:Int),(0:Int),())) (some ((0:Int),(1:Int),())))=some ((cond (S.okC l) (((S.packed l 1).length:Int),(0:Int)) ((0:Int),(1:Int))).1,(cond (S.okC l) (((S.packed l 1).length:Int),(0:Int)) ((0:Int),(1:Int))).2,()):=fun b hb=>by
  subst hb;cases S.okC l<;>rfl
 refine(range0 (σ:=Unit) (R:=Rtz1) (T:=fun K p=>qjs LF l K p) l (fun i _=>i) (fun i _=>S.okGo (l.drop i) (qcu l i)=S.okC l\/S.okC l=S.okGo (l.drop i) (qcu l i)) (fun rest i _=>cond (S.okGo rest (qcu l i)) (some (((S.packed l 1).length:Int),(0:Int),())) (some ((0:Int),(1:Int),()))) (by unfold LF;omega) (fun K s hs=>?_) (fun K i v rest s hs r hk=>?_) () (.inl rfl)).trans (hfin _ rfl)
 ·rw[jct (jaq _)] at hs;have hok:S.okC l=true:=hs.elim (fun h=>h.symm) id;simp only[qjs,qc5,jah];rw[qli hok,jab];rfl
 ·have hd:=r.drop;have hi:=r.lt;have hgi:l[i]?=some v:=by
   have:=r.get
   rwa [qc1] at this
  have hst:S.okGo (v::rest) (qcu l i)=(S.inI v.1 0 199&&(decide (v.2.1.size<=4000)&&(!(v.2.2&&!decide (v.2.1.size=0))&&(decide (qcu l i<v.1)&&S.okGo rest v.1)))):=rfl;have hs':S.okC l=S.okGo (v::rest) (qcu l i):=by rw[hd] at hs;exact hs.elim (fun h=>h.symm) id
  have hnext:qcu l (i+1)=v.1:=q7u hgi;rw[hnext] at hk;simp only[qjs,r.ilt,r.get,r.next,jab];rw[hst];by_cases c1:S.inI v.1 0 199=true
  ·rw[show S.inI v.1 (Int.ofNat 0) (Int.ofNat 199)=true from c1,jbb,jah,c1,jcb,qcf];by_cases c2:v.2.1.size<=4000
   ·rw[jat (show ¬4000<v.2.1.size by omega),jah,jan c2,jcb,znr];have hv0:0<=v.1:=(qbl.1 c1).1;have hfinal:cond (decide (qcu l i<v.1)) (K (Int.ofNat (i+1))) (some (Int.ofNat 0,Int.ofNat 1,()))=cond (decide (qcu l i<v.1)&&S.okGo rest v.1) (some (((S.packed l 1).length:Int),(0:Int),())) (some ((0:Int),(1:Int),()))\/¬(v.2.2&&!decide (v.2.1.size=0))=false:=by
     by_cases cg:(v.2.2&&!decide (v.2.1.size=0))=false
     ·left;by_cases c4:qcu l i<v.1
      ·rw[jan c4,jab,jcb];refine hk () ?_;rw[r.tail];left;rw[hs',hst,c1,jan c2,cg,jan c4];rfl
      ·rw[jat c4,jah,jdm,jah];rfl
     ·exact .inr cg
    cases hg:v.2.2 with
    | true =>
     rw[jab,jcb];by_cases c3:v.2.1.size=0
     ·rw[jan c3,jbb,jah,ja6,jcb];refine(qyu (l:=l) hv0 (by omega) (by omega) _ _).trans ?_;refine hfinal.resolve_right ?_;rw[jan c3,jbb,Bool.and_false];decide
     ·rw[jat c3,ja6,jab,jbb,jdm,jah];rfl
    | false =>
     rw[jah,jdm,ja6,jcb];refine(qyu (l:=l) hv0 (by omega) (by omega) _ _).trans ?_;refine hfinal.resolve_right ?_;rw[hg,jdm];decide
   ·rw[jan (show 4000<v.2.1.size by omega),jab,jat c2,jdm,jah];rfl
  ·have c1:=jdg.2 c1;rw[show S.inI v.1 (Int.ofNat 0) (Int.ofNat 199)=false from c1,ja6,jab,c1,jdm,jah];rfl
theorem q4q:Con Try.prog idz1 spz1:=mkz1 ⟨qjk,qnq,trivial⟩ fun x y hx h=>⟨LF,(zeu x.1).trans h⟩
theorem qs1{j:qad}(h:S.right j=true):S.errR j=0:=by unfold S.errR;rw[jam h]
theorem qe4{j:qad}(h:¬S.right j=true):S.errR j=1:=by unfold S.errR;rw[jao h]
theorem qra{d:qah}(h:S.checkDisk d=0):S.okL d=true:=by
 have k:=qwn h;unfold S.okL S.secs;rw[jae,jae,jae,jcm];refine⟨⟨jay k.le,jdo.2 fun s q=>?_⟩,jay k.ge,jan k.ev⟩;unfold S.short;rw[k.sz s q];decide
theorem q9b(lf:Nat)(j:qad):qo2 lf j=some (S.errR j,()):=by
 simp only[qo2,qys];show cond (!ieqI (S.checkDisk j.1) _) _ (cond (iltI (Int.ofNat 0) (Int.ofNat j.1.2.length)) _ (match (cond (S.okL j.1) (some ((S.openedJ j.1).1,((S.openedJ j.1).2,()))) none) with|none=>none|some v=>_))=_;by_cases h0:S.checkDisk j.1=0
 ·rw[qbo (show _=Int.ofNat 0 from h0),jbb,jah,qcf];by_cases h1:j.1.2.length=0
  ·have hq:j.1.2=[]:=ja1.1 h1;rw[jat (by omega),jah,qra h0,jab];simp only;unfold S.openedJ;cases ho:S.opened j.1.1 with
   | none =>
    have hr:¬S.right j=true:=fun h=>by
     obtain⟨a,u,r⟩:=qfw h;rw[r.jn.open_] at ho;cases ho
    rw[qe4 hr];rfl
   | some x =>
    obtain⟨hf,u,c⟩:=x;simp only;rw[jbb,jah,qdh,qdh];have hop:S.open_ j.1=(((j.1.1,[]),hf,(u:Int),c),0):=by
     unfold S.open_;rw[jam h0,jam h1,ho]
    have hre:S.right j=decide ((((j.1.1,[]),hf,(u:Int),c):qad)=j):=by
     unfold S.right;rw[hop];rfl
    obtain⟨⟨L,q⟩,h',u',c'⟩:=j;simp only at hq;subst hq;show cond (!decide (hf=h')) _ (cond (!decide ((u:Int)=u')) _ (cond (!decide (c=c')) _ _))=_;by_cases e1:hf=h'
    ·by_cases e2:(u:Int)=u'
     ·by_cases e3:c=c'
      ·rw[jan e1,jan e2,jan e3,qs1 (by rw[hre,e1,e2,e3];exact jan rfl)];rfl
      ·rw[jan e1,jan e2,jat e3,qe4 (fun h=>by rw[hre] at h;exact e3 (jas (fun z:qad=>z.2.2.2) (ja2 h)))];rfl
     ·rw[jan e1,jat e2,qe4 (fun h=>by rw[hre] at h;exact e2 (jas (fun z:qad=>z.2.2.1) (ja2 h)))];rfl
    ·rw[jat e1,qe4 (fun h=>by rw[hre] at h;exact e1 (jas (fun z:qad=>z.2.1) (ja2 h)))];rfl
  ·have hr:¬S.right j=true:=fun h=>by
    obtain⟨a,u,jn,h2,_⟩:=qrb h;rw[h2] at h1;exact h1 rfl
   rw[jan (by omega),jab,qe4 hr];rfl
 ·have hr:¬S.right j=true:=fun h=>by
   obtain⟨a,u,jn,h2,_⟩:=qrb h;have:=jn.dk.check;rw[show j.1=(j.1.1,[]) from Prod.ext rfl h2] at h0;exact h0 this
  rw[qbn (show ¬_=Int.ofNat 0 from h0),ja6,jab,qe4 hr];rfl
theorem zb4(lf:Nat)(d:qah):ql9 lf d=some ((S.open_ d).1,(S.open_ d).2,()):=by
 simp only[ql9,q3q];unfold S.open_;show cond (!ieqI (S.checkDisk d) _) _ (cond (iltI (Int.ofNat 0) (Int.ofNat d.2.length)) _ (match (cond (S.okL d) (some ((S.openedJ d).1,((S.openedJ d).2,()))) none) with|none=>none|some v=>_))=_;by_cases h0:S.checkDisk d=0
 ·rw[qbo (show _=Int.ofNat 0 from h0),jbb,jah,qcf,jam h0];by_cases h1:d.2.length=0
  ·rw[jat (by omega),jah,qra h0,jab,jam h1];simp only;unfold S.openedJ;cases S.opened d.1<;>rfl
  ·rw[jan (by omega),jab,jao h1];rfl
 ·rw[qbn (show ¬_=Int.ofNat 0 from h0),ja6,jab,jao h0];rfl
theorem zes(lf:Nat)(j:qad):qlw lf j=some ((S.room j).1,(S.room j).2,()):=by
 simp only[qlw,q05];unfold S.room;show cond (!ieqI (S.errR j) _) (some (_,S.errR j,())) (match (cond (S.smallJ j) (some (S.roomOf j,())) none) with|none=>none|some v=>_)=_;by_cases h1:S.right j=true
 ·obtain⟨a,u,r⟩:=qfw h1;rw[qs1 h1,show ieqI 0 (Int.ofNat 0)=true from rfl,jbb,jah,r.small,jab,jam h1];rfl
 ·rw[qe4 h1,show ieqI 1 (Int.ofNat 0)=false from rfl,ja6,jab,jao h1];rfl
theorem zdr(lf:Nat)(j:qad)(l:List qaa):qot lf j l=some (S.asked j l,()):=by
 simp only[qot,qwc];unfold S.asked;show cond (!ieqI (S.errR j) _) (some (S.errR j,())) _=_;by_cases h1:S.right j=true
 ·rw[qs1 h1,show ieqI 0 (Int.ofNat 0)=true from rfl,jbb,jah,jam h1]
 ·rw[qe4 h1,show ieqI 1 (Int.ofNat 0)=false from rfl,ja6,jab,jao h1]
theorem q1e(a b:List DAct):S.app a b=a++b:=rfl
theorem qcg{a:List DAct}{n:Nat}(h:a.length<=n):Nat.ble (S.lenA a) n=true:=jay h
theorem qul(a:Int)(s:ByteArray):S.puts a [s]=[S.put a s]:=rfl
theorem unm(l:List qaa):qae (0::(qab ((S.packed l 1).getD 0 S.none_)).drop 1)=(S.packed l 0).getD 0 S.none_:=by
 have e:∀m:Int,0<=m/\m<256->qab ((S.packed l m).getD 0 S.none_)=m::((S.recB l 0).drop 1).take 63++List.replicate (64-(S.recB l 0).length) 0:=fun m hm=>by
  have h:=qgw ((S.body l).length+3) (b:=S.recB l m) (by rw[qem];omega);have:S.packed l m=qae ((S.recB l m).take 64++List.replicate (64-(S.recB l m).length) 0)::S.chunks ((S.body l).length+3) ((S.recB l m).drop 64):=h;rw[this];exact qbr (qfp (qez (qlh l hm) 64) (qgn _))
 refine qfk ?_;rw[e 1 (by omega),e 0 (by omega)];have hr:rng ((0:Int)::(((S.recB l 0).drop 1).take 63++List.replicate (64-(S.recB l 0).length) 0)):=fun x hx=>by
  rcases jax.1 hx with rfl|hx
  ·decide
  ·exact qfp (qez (qdz (qlh l (by decide)) 1) 63) (qgn _) x hx
 exact qbr hr
theorem unm2(l:List qaa):qae (Int.ofNat 0::(qab ((S.packed l 1).getD 0 S.none_)).drop 1)=(S.packed l 0).getD 0 S.none_:=unm l
theorem q6p(l:List ByteArray):lsub l (Int.ofNat 1) (Int.ofNat l.length)=l.drop 1:=by
 unfold lsub;show (l.take l.length).drop 1=_;rw[List.take_length]
theorem qz3(l:List qaa)(a:Nat):S.puts (a:Int) [(S.packed l 0).getD 0 S.none_]++S.puts ((a+1:Nat):Int) ((S.packed l 1).drop 1)=S.puts (a:Int) (S.packed l 0):=by
 rw[qfz l 0];exact(qt6 a [(S.packed l 0).getD 0 S.none_] ((S.packed l 1).drop 1)).symm
theorem in0{n:Nat}(h:n<=1000000):S.inI ((n:Nat):Int) (Int.ofNat 0) (Int.ofNat 1000000)=true:=qbl.2 ⟨jb2 _,by show (n:Int)<=1000000;omega⟩
theorem ziu{j:qad}{l:List qaa}(h:S.comG j l=true):S.smallJ j=true/\S.pk l=true/\0<=j.2.2.1/\j.2.2.1<=1000:=by
 unfold S.comG at h;rw[jae,jae,qbl] at h;exact⟨h.1,h.2.1,h.2.2⟩
theorem q8w(n:Nat)(hn:n<=1000)(h:Int)(h1:0<n\/h=0):∃a b:Nat,(S.half n h).1=(a:Int)/\(S.half n h).2=(b:Int)/\a<=1000/\b<=1000:=by
 unfold S.half;by_cases e:h=0
 ·rw[jam e];exact⟨1,n / 2,rfl,rfl,by omega,by omega⟩
 ·rw[jao e];have:0<n:=h1.resolve_right e;exact⟨n / 2,n-1,rfl,by show (n:Int)-1=((n-1:Nat):Int);omega,by omega,by omega⟩
theorem zld(lf:Nat)(j:qad)(l:List qaa)(h:S.comG j l=true):qm4 lf j l=some ((S.actsB (S.commit j l)).1,(S.actsB (S.commit j l)).2,()):=by
 obtain⟨hs,hp,hu0,hu1⟩:=ziu h;obtain⟨h1,h2,_,_⟩:=quy hs;have hpl:=q0l hp 1;have hpos:=qcv l 1;have hp0:(S.packed l 0).length=(S.packed l 1).length:=by rw[qbq,qbq]
 simp only[qm4,q2m];show (match (cond (S.pk l) (some ((S.packed l 1),())) none) with|none=>none|some v0=>(match (cond (S.smallJ j) (some (S.roomOf j,())) none) with|none=>none|some v1=>_))=_;rw[hp,jab,hs,jab];simp only;by_cases c0:S.roomOf j<((S.packed l 1).length:Int)
 ·rw[qex (show S.roomOf j<Int.ofNat (S.packed l 1).length from c0),jab,q3s c0];rfl
 rw[qfb (show ¬S.roomOf j<Int.ofNat (S.packed l 1).length from c0),jah,q7f c0,show S.inI (Int.ofNat j.1.1.length) (Int.ofNat 0) (Int.ofNat 1000)=true from qbl.2 ⟨jb2 _,by show (j.1.1.length:Int)<=1000;omega⟩,jab];simp only;obtain⟨a,b,ea,eb,ha,hb⟩:=q8w j.1.1.length h1 j.2.1 (by
  refine jet j.1.1.length |>.elim (fun e=>?_) (fun e=>.inl e);refine jci fun hc=>?_;have hc:¬j.2.1=0:=fun h=>hc (.inr h);have:S.roomOf j=-1-j.2.2.1:=by
   unfold S.roomOf S.half;rw[e,jao hc];show ((0:Nat):Int)-1-((0 / 2:Nat):Int)-j.2.2.1=_;omega
  rw[this] at c0;omega)
 obtain⟨u,hu⟩:∃u:Nat,j.2.2.1=(u:Int):=⟨j.2.2.1.toNat,by omega⟩;have huu:u<=1000:=by omega
 rw[show Int.toNat (Int.ofNat j.1.1.length)=j.1.1.length from rfl,ea,eb,hu];have w1:IntKind.i64.wrap (Int.add (a:Int) (u:Int))=((a+u:Nat):Int):=qbv (n:=a+u) (by omega);have w2:IntKind.i64.wrap (Int.add ((a+u:Nat):Int) (Int.ofNat 1))=((a+u+1:Nat):Int):=qbv (n:=a+u+1) (by omega);have w3:IntKind.i64.wrap (Int.add ((a+u:Nat):Int) (Int.ofNat (S.packed l 1).length))=((a+u+(S.packed l 1).length:Nat):Int):=qbv (n:=a+u+(S.packed l 1).length) (by omega);have hsz:=qds l 1 _ (qeh (i:=0) (show 0<(S.packed l 1).length by omega));have l1:lchk (Int.ofNat 1) (Int.ofNat (S.packed l 1).length) (Int.ofNat (S.packed l 1).length) (Int.ofNat (S.packed l 1).length)=true:=qb1.2 ⟨by decide,by show (1:Int)<=((S.packed l 1).length:Int);omega,jbt _,jbt _⟩;have hdl:Nat.ble ((S.packed l 1).drop 1).length 1000000=true:=jay (by rw[ja7];omega);have hpl0:(S.puts ((a+u:Nat):Int) (S.packed l 0)).length<=20000:=by rw[qdj];omega
 rw[w1,w3];simp only[qpv (d:=S.none_) hpos,get0 (d:=S.none_) hpos,hsz,decide_true,jab,unm2,w2,in0 (show a+u<=1000000 by omega),in0 (show a+u+1<=1000000 by omega),in0 (show a+u+(S.packed l 1).length<=1000000 by omega),l1,q6p,hdl,Bool.and_true,jcb,q1e,jck];rw[qcg (show (S.puts ((a+u:Nat):Int) [(S.packed l 0).getD 0 S.none_]).length<=1000000 by rw[qdj];show 1<=_;omega),jab];simp only;rw[qz3 l (a+u),qcg (show (S.puts ((a+u:Nat):Int) (S.packed l 0)).length<=1000000 by omega),jab];simp only;rw[qcg (show (S.puts ((a+u:Nat):Int) (S.packed l 0)).length<=4000000 by omega),jab];simp only;rw[qcg (show (S.puts ((a+u:Nat):Int) (S.packed l 0)++[S.sync]).length<=1000000 by rw[jag];show _+1<=_;omega),jab];simp only;rw[qcg (show (S.puts ((a+u:Nat):Int) (S.packed l 0)++[S.sync]++S.puts ((a+u:Nat):Int) [(S.packed l 1).getD 0 S.none_]).length<=4000000 by rw[jag,jag];show _+1+1<=_;omega),jab];simp only;rw[qcg (show (S.puts ((a+u:Nat):Int) (S.packed l 0)++S.puts ((a+u+(S.packed l 1).length:Nat):Int) [S.blank]).length<=4000000 by rw[jag];show _+1<=_;omega),jab];simp only;rw[qcg (show (S.puts ((a+u:Nat):Int) (S.packed l 0)++S.puts ((a+u+(S.packed l 1).length:Nat):Int) [S.blank]++[S.sync]).length<=1000000 by rw[jag,jag];show _+1+1<=_;omega),jab];simp only;rw[qcg (show (S.puts ((a+u:Nat):Int) (S.packed l 0)++S.puts ((a+u+(S.packed l 1).length:Nat):Int) [S.blank]++[S.sync]++S.puts ((a+u:Nat):Int) [(S.packed l 1).getD 0 S.none_]).length<=4000000 by rw[jag,jag,jag];show _+1+1+1<=_;omega),jab,qbc];unfold S.laid;rw[jcb];have hc2:(a:Int)+(u:Int)=((a+u:Nat):Int):=by omega
 have hc3:((a+u:Nat):Int)+((S.packed l 1).length:Int)=((a+u+(S.packed l 1).length:Nat):Int):=by omega
 rw[hc2,hc3];cases decide (((a+u+(S.packed l 1).length:Nat):Int)<(b:Int)) with
 | true =>
  simp only[jab,qul,ja0];rfl
 | false =>
  simp only[jah,qul,ja0,jck];rfl
theorem zby{d:qah}(h:(S.open_ d).2=0):S.okL d=true/\S.openedJ d=((S.open_ d).1,true):=by
 obtain⟨hf,a,u,c,jn,h1,h2⟩:=qt0 h;have hd:d=(d.1,[]):=Prod.ext rfl h1;refine⟨qra (by rw[hd];exact jn.dk.check),?_⟩;unfold S.openedJ;rw[jn.open_,h2]
theorem zdj(lf:Nat)(j:qad)(a:List DAct)(h:S.behG j a=true):ql3 lf j a=some ((S.behind j a).1,()):=by
 unfold S.behG at h;rw[jae] at h;have h1:=ja2 h.1;simp only[ql3,qwq];unfold S.behind at h1 ⊢;obtain⟨h2,h3⟩:=zby h1;show (match (cond (S.okL (S.doD j.1 a).1) (some ((S.openedJ (S.doD j.1 a).1).1,((S.openedJ (S.doD j.1 a).1).2,()))) none) with|none=>none|some v=>_)=_;rw[h2,jab,h3]
theorem q7g{n:Nat}:∀(ss:List ByteArray) (b:Nat),szS ss->b+ss.length<=n->(qay b ss).any (S.badPut n)=false
 | [],_,_,_=>rfl
 | s::ss,b,hs,h=>by
  rw[jar] at h;show (S.badPut n ((b:Int),s)||(qay (b+1) ss).any (S.badPut n))=false;rw[qws (hs s (by simp)) (by omega),q7g ss (b+1) (fun t ht=>hs t (by simp[ht])) (by omega)];rfl
theorem zai{L:List ByteArray}(d:Dk L){ss:List ByteArray}{b:Nat}(hs:szS ss)(h:b+ss.length<=L.length):S.checkDisk (L,qay b ss)=0:=by
 have h0:=d.check;have h2:=d.le;unfold S.checkDisk at h0 ⊢;rw[jao (show ¬(1000<L.length\/4000<([]:List DPut).length) by simp;omega)] at h0;rw[jao (show ¬(1000<L.length\/4000<(qay b ss).length) by rw[qq5];omega)];have e:(qay b ss).any (S.badPut L.length)=([]:List DPut).any (S.badPut L.length):=by rw[q7g ss b hs h];rfl
 show (if L.length<8\/¬L.length % 2=0\/(qay b ss).any (S.badPut L.length)=true\/L.any S.short=true then (1:Int) else 0)=0;rw[e];exact h0
def S.kept(k:List Int)(n:Nat):List Int:=(k.take n).map (· % 65)
theorem qu1{k:List Int}{n:Nat}:∀x∈S.kept k n,0<=x/\x<=64:=fun x h=>by
 obtain⟨y,_,rfl⟩:=jb9.1 h;omega
theorem qgs{L L1:List ByteArray}{A:List DAct}{n b:Nat}{ss:List ByteArray}{kept:List Int}(ho:S.doD (L,[]) (A.take n)=((L1,qay b ss),0))(d:Dk L1)(hs:szS ss)(h:b+ss.length<=L1.length) :
  S.cut (L,[]) A (n:Int) kept=((S.crashGo (qay b ss) (S.kept kept ss.length) L1,[]),0):=by
 unfold S.cut;rw[jbs,ho];show S.crash (L1,qay b ss) (S.kept kept (qay b ss).length)=_;unfold S.crash;rw[jam (zai d hs h),qq5,jao];rintro(e|e)
 ·have e:ss.length<(S.kept kept ss.length).length:=e;unfold S.kept at e;rw[jby,jbc] at e;omega
 ·obtain⟨x,hx,e⟩:=jds.1 e;have:=qu1 x hx;unfold S.inI at e;rw[jan this.1,jan this.2] at e;cases e
theorem qf1{L:List ByteArray}{A:List DAct}{n:Nat}{x:qah}(hn:n<=A.length)(ho:S.doD (L,[]) (A.take n)=(x,0)):S.cutG (L,[]) A (n:Int)=true:=by
 unfold S.cutG S.inI;rw[jbs,ho,jan (show (0:Int)<=(n:Int) by omega),jan (show (n:Int)<=(A.length:Int) by omega)];rfl
theorem q40(l:List qaa):qab ((S.packed l 0).getD 0 S.none_)=0::(qab ((S.packed l 1).getD 0 S.none_)).drop 1:=by
 rw[<- unm l,qbr];intro x hx;rcases jax.1 hx with rfl|hx
 ·omega
 ·exact qdz (qdq _) 1 x hx
theorem zn9{L:List ByteArray}(d:Dk L){b:Nat}{M:List ByteArray}(hM:szS M)(h:b+M.length<=L.length)(h0:(qab (M.getD 0 S.blank)).getD 0 0=0)(hL:(qab (L.getD b S.none_)).getD 0 0=0){A r:List DAct}(hA:A=S.puts (b:Int) M++r){n:Nat}(hn:n<=M.length)(kept:List Int) :
  ∃L1,S.cut (L,[]) A (n:Int) kept=((L1,[]),0)/\S.cutG (L,[]) A (n:Int)=true/\L1.length=L.length/\Dk L1/\L1.take b=L.take b/\L1.drop (b+M.length)=L.drop (b+M.length)/\(qab (L1.getD b S.none_)).getD 0 0=0:=by
 have hlen:=qdj b M;have hle:=d.le;have hs:szS (M.take n):=fun s hs=>hM s (jb4 hs);have hl:(M.take n).length=n:=by rw[jbc];omega
 have e:A.take n=S.puts (b:Int) (M.take n):=by rw[hA,jc7 (by omega),qun]
 have hfit:b+(M.take n).length<=L.length:=by omega
 have ho:S.doD (L,[]) (A.take n)=((L,qay b (M.take n)),0):=by
  unfold S.doD;rw[jam d.check,e];have:=qgv (M.take n) b [] L [] hs hfit (by rw[jaw];omega);rw[ja9] at this;exact this.trans (qey _ _)
 have hx:=qgs (kept:=kept) ho d hs hfit;obtain⟨c1,c2,c3,c4,c5⟩:=qvg (M.take n) b (S.kept kept (M.take n).length) L d.sz hs qu1 hfit;refine⟨_,hx,qf1 (by rw[hA,jag];omega) ho,c1,⟨c2,?_,?_,?_⟩,c3,?_,c5 hL ?_⟩
 ·rw[c1];exact d.ge
 ·rw[c1];exact hle
 ·rw[c1];exact d.ev
 ·have:=jas (List.drop (M.length-n)) c4;rw[jb5,jb5,show b+(M.take n).length+(M.length-n)=b+M.length by omega] at this;exact this
 ·cases n with
  | zero=>rfl
  | succ n =>
   cases M with
   | nil=>rfl
   | cons s M=>exact h0
theorem qku{α:Type}{X Y:List α}{n i:Nat}(h:n=X.length+i):(X++Y).take n=X++Y.take i:=by
 rw[h,je7,jbp (by omega),show X.length+i-X.length=i by omega]
theorem ze9(l:List qaa)(n:Nat):S.tear ((S.packed l 0).getD 0 S.none_) ((S.packed l 1).getD 0 S.none_) n=if n=0 then (S.packed l 0).getD 0 S.none_ else (S.packed l 1).getD 0 S.none_ :=
 tear_mark (qds l 0 _ (qeh (qcv l 0))) (qds l 1 _ (qeh (qcv l 1))) (by rw[q40];rfl)
theorem q3z{L:List ByteArray}{b:Nat}{l:List qaa}{t:List ByteArray}(h:b+(S.packed l 0++t).length<=L.length):S.settled (over L b (S.packed l 0++t)) [(((b:Nat):Int),(S.packed l 1).getD 0 S.none_)]=over L b (S.packed l 1++t):=by
 have e1:(S.packed l 0).length=(S.packed l 1).length:=by rw[qbq,qbq]
 have hp:=qcv l 1;rw[jag] at h;refine(qdn [(S.packed l 1).getD 0 S.none_] b _ (by rw[qcl (by rw[jag];exact h)];simp only[jar,jaw];omega)).trans ?_;have hlen:b+(((S.packed l 1).drop 1++t).length+1)<=L.length:=by rw[jag,ja7];omega
 have s1:=qfz l 1;rw[qfz l 0,jch];refine(qzv hlen).trans (jas (over L b) ?_);rw[<- jch,<- s1]
theorem qt9{L:List ByteArray}{b:Nat}{s:ByteArray}{r:List ByteArray}(h:b+(r.length+1)<=L.length):(over L b (s::r)).getD b S.none_=s:=by
 have:=jas (fun x:List ByteArray=>x[0]?) (qgu (a:=b) (ss:=s::r) h);simp only[jbx,jb6] at this;rw[jai,this];rfl
theorem zdb{L:List ByteArray}{b:Nat}{l:List qaa}{t:List ByteArray}(h:b+(S.packed l 0++t).length<=L.length)(k:List Int) :
  S.crashGo (qay b [(S.packed l 1).getD 0 S.none_]) k (over L b (S.packed l 0++t))=over L b (S.packed l 0++t)\/S.crashGo (qay b [(S.packed l 1).getD 0 S.none_]) k (over L b (S.packed l 0++t))=over L b (S.packed l 1++t):=by
 cases k with
 | nil=>exact .inl rfl
 | cons n k =>
  have e:S.crashGo (qay b [(S.packed l 1).getD 0 S.none_]) (n::k) (over L b (S.packed l 0++t))=(over L b (S.packed l 0++t)).set b (S.tear ((over L b (S.packed l 0++t)).getD b S.none_) ((S.packed l 1).getD 0 S.none_) n.toNat):=by
   show S.crashGo [] k (List.set _ (b:Int).toNat (S.tear (List.getD _ (b:Int).toNat S.none_) _ n.toNat))=_;rw[jbs];cases k<;>rfl
  have hg:(over L b (S.packed l 0++t)).getD b S.none_=(S.packed l 0).getD 0 S.none_:=by
   have s0:=qfz l 0;rw[jag] at h;rw[s0] at h ⊢;rw[jch];exact qt9 (by rw[jag];simp only[jar] at h;omega)
  rw[e,hg,ze9];by_cases hn:n.toNat=0
  ·left;rw[jam hn,<- hg,jai];have hb:b<(over L b (S.packed l 0++t)).length:=by
    have:=qcv l 0;rw[qcl h];rw[jag] at h;omega
   rw[jac hb];exact List.set_getElem_self hb
  ·right;rw[jao hn];have:=q3z h;show List.set _ b _=_;rw[<- this];show _=List.set _ (b:Int).toNat _;rw[jbs]
theorem zk7{L:List ByteArray}(d:Dk L){b:Nat}{l:List qaa}{t:List ByteArray}(ht:szS t)(h:b+(S.packed l 0++t).length<=L.length)(hL:(qab (L.getD b S.none_)).getD 0 0=0){A r:List DAct}
  (hA:A=S.puts (b:Int) (S.packed l 0++t)++(S.sync::S.put (b:Int) ((S.packed l 1).getD 0 S.none_)::S.sync::r)) {n:Nat} (hn:n<=(S.packed l 0++t).length+3) (kept:List Int) :
  ∃L1,S.cut (L,[]) A (n:Int) kept=((L1,[]),0)/\S.cutG (L,[]) A (n:Int)=true/\L1.length=L.length/\Dk L1 /\
   (L1=over L b (S.packed l 1++t)\/n≠(S.packed l 0++t).length+3/\L1.take b=L.take b/\L1.drop (b+(S.packed l 0++t).length)=L.drop (b+(S.packed l 0++t).length)/\(qab (L1.getD b S.none_)).getD 0 0=0):=by
 have e1:(S.packed l 0).length=(S.packed l 1).length:=by rw[qbq,qbq]
 have hle:=d.le;have hM:szS (S.packed l 0++t):=fun s hs=>(jbn.1 hs).elim (qds l 0 s) (ht s);have hM1:szS (S.packed l 1++t):=fun s hs=>(jbn.1 hs).elim (qds l 1 s) (ht s);have h1:b+(S.packed l 1++t).length<=L.length:=by rw[jag,<- e1,<- jag];exact h
 have hA2:A.length=(S.packed l 0++t).length+(3+r.length):=by rw[hA,jag,qdj];simp only[jar];omega
 have hpl:=qdj b (S.packed l 0++t);have hz:(qab ((S.packed l 0).getD 0 S.none_)).getD 0 0=0:=by rw[q40];rfl
 have hs0:=qfz l 0;have hp:=qcv l 0;have hd:∀q,S.doD (L,[]) (S.puts (b:Int) (S.packed l 0++t)++q)=S.doGo q L (qay b (S.packed l 0++t)):=fun q=>by
  unfold S.doD;rw[jam d.check];exact(qgv _ b q L [] hM h (by rw[jaw];omega)).trans rfl
 have ol:(over L b (S.packed l 0++t)).length=L.length:=qcl h;have hx:szS [(S.packed l 1).getD 0 S.none_]:=fun s hs=>by rw[jb0.1 hs];exact qds l 1 _ (qeh (qcv l 1))
 have hb1:b+[(S.packed l 1).getD 0 S.none_].length<=(over L b (S.packed l 0++t)).length:=by
  rw[ol];rw[jag] at h;show b+1<=_;omega
 have dO:=d.over h hM;have g0:(over L b (S.packed l 0++t)).take b=L.take b/\(over L b (S.packed l 0++t)).drop (b+(S.packed l 0++t).length)=L.drop (b+(S.packed l 0++t).length)/\(qab ((over L b (S.packed l 0++t)).getD b S.none_)).getD 0 0=0:=by
  refine⟨qg8 h,qog h,?_⟩;have:=qgu h;rw[hs0,jch] at h ⊢;rw[qt9 h];exact hz
 by_cases c1:n<=(S.packed l 0++t).length
 ·obtain⟨L1,x1,x2,x3,x4,x5,x6,x7⟩:=zn9 d hM h (by rw[hs0];exact hz) hL hA c1 kept;exact⟨L1,x1,x2,x3,x4,.inr ⟨by omega,x5,x6,x7⟩⟩
 ·by_cases c2:n=(S.packed l 0++t).length+1
  ·have ho:S.doD (L,[]) (A.take n)=((over L b (S.packed l 0++t),qay b []),0):=by
    rw[hA,qku (i:=1) (by omega),hd];show S.doGo [S.sync] _ _=_;rw[qef,qdn _ _ _ h,qey];rfl
   exact⟨_,qgs ho dO (fun s hs=>by cases hs) (by rw[ol,jaw];omega),qf1 (by omega) ho,ol,dO,.inr ⟨by omega,g0⟩⟩
  ·by_cases c3:n=(S.packed l 0++t).length+2
   ·have ho:S.doD (L,[]) (A.take n)=((over L b (S.packed l 0++t),qay b [(S.packed l 1).getD 0 S.none_]),0):=by
     rw[hA,qku (i:=2) (by omega),hd];show S.doGo [S.sync,S.put (b:Int) _] _ _=_;rw[qef,qdn _ _ _ h,qgx (hx _ (by simp)) (by have:b+1<=_:=hb1;omega) (by rw[jaw];omega),qey];rfl
    have hc:=qgs (kept:=kept) ho dO hx hb1;rcases zdb h (S.kept kept 1) with e|e
    ·refine⟨_,hc.trans (by rw[show [(S.packed l 1).getD 0 S.none_].length=1 from rfl,e]),qf1 (by omega) ho,ol,dO,.inr ⟨by omega,g0⟩⟩
    ·exact⟨_,hc.trans (by rw[show [(S.packed l 1).getD 0 S.none_].length=1 from rfl,e]),qf1 (by omega) ho,qcl h1,d.over h1 hM1,.inl rfl⟩
   ·have c4:n=(S.packed l 0++t).length+3:=by omega
    have ho:S.doD (L,[]) (A.take n)=((over L b (S.packed l 1++t),qay b []),0):=by
     rw[hA,qku (i:=3) (by omega),hd];show S.doGo [S.sync,S.put (b:Int) _,S.sync] _ _=_;rw[qef,qdn _ _ _ h,qgx (hx _ (by simp)) (by have:b+1<=_:=hb1;omega) (by rw[jaw];omega),qef,qey];exact jas (fun z=>((z,[]),0)) (q3z h)
    exact⟨_,qgs ho (d.over h1 hM1) (fun s hs=>by cases hs) (by rw[qcl h1,jaw];omega),qf1 (by omega) ho,qcl h1,d.over h1 hM1,.inl rfl⟩
theorem zd9{l:List qaa}(hl:S.okC l=true)(h0:l.length≠0)(h60:l.length<=60):S.size l=(((S.packed l 1).length:Int),0):=by
 unfold S.size;rw[jao (by omega),jao h0,hl,jab]
theorem q1z{L:List ByteArray}{h:Int}{a u:Nat}{c l:List qaa}(j:Jn L h a u c)(hr:¬u+(S.packed l 1).length<=L.length / 2-1):S.commit ((L,[]),h,(u:Int),c) l=none:=by
 have:=j.le.1;unfold S.commit;rw[jam (by rw[qsm j];omega)]
theorem q12{L:List ByteArray}{h:Int}{a u:Nat}{c l:List qaa}(j:Jn L h a u c)(hl:S.okC l=true)(hr:u+(S.packed l 1).length<=L.length / 2-1) :
  S.behind ((L,[]),h,(u:Int),c) (S.laid l ((a+u:Nat):Int) ((a+(L.length / 2-1):Nat):Int) true)=(((comL L a u l,[]),h,((u+(S.packed l 1).length:Nat):Int),S.changed c l),0):=by
 obtain⟨_,h2,h3,_⟩:=qm0 j hl hr;unfold S.behind;rw[h2];exact h3.opened_
theorem znt{L:List ByteArray}{h:Int}{a u:Nat}{c:List qaa}(j:Jn L h a u c)(hr:¬(S.packed c 1).length<=L.length / 2-1):S.turn ((L,[]),h,(u:Int),c)=none:=by
 have hh:=j.hh;obtain⟨b,e1,_⟩:=qep j.dk.ev j.dk.ge (h:=1-h) (by omega);unfold S.turn;rw[jam];show (S.half L.length (1-h)).2-(S.half L.length (1-h)).1<((S.packed c 1).length:Int);rw[e1];show ((b+(L.length / 2-1):Nat):Int)-(b:Int)<_;omega
theorem qqd{L:List ByteArray}{h:Int}{a u:Nat}{c:List qaa}(j:Jn L h a u c)(hr:(S.packed c 1).length<=L.length / 2-1):∃b,S.turnJ ((L,[]),h,(u:Int),c)=(((turL L (1-h) b c,[]),1-h,(((S.packed c 1).length:Nat):Int),c),0) /\
  S.planTurn ((L,[]),h,(u:Int),c)=(turA L (1-h) b c,0)/\Jn (turL L (1-h) b c) (1-h) b (S.packed c 1).length c/\(turL L (1-h) b c).length=L.length/\S.half L.length (1-h)=((b:Int),((b+(L.length / 2-1):Nat):Int)):=by
 obtain⟨b,h1,h2,h3,h4,h5⟩:=qsg j hr;have hp:S.planTurn ((L,[]),h,(u:Int),c)=(turA L (1-h) b c,0):=by
  unfold S.planTurn;rw[jam j.right,h2]
 refine⟨b,?_,hp,h4,h5,h1⟩;unfold S.turnJ;rw[hp,jam rfl];unfold S.behind;rw[h3];exact h4.opened_
theorem q1p{L:List ByteArray}{h:Int}{a u:Nat}{c:List qaa}(j:Jn L h a u c)(hr:¬(S.packed c 1).length<=L.length / 2-1):S.planTurn ((L,[]),h,(u:Int),c)=([],14)/\S.turnJ ((L,[]),h,(u:Int),c)=(S.noJ,14):=by
 have hp:S.planTurn ((L,[]),h,(u:Int),c)=([],14):=by
  unfold S.planTurn;rw[jam j.right,znt j hr]
 refine⟨hp,?_⟩;unfold S.turnJ;rw[hp,jao (by show ¬(14:Int)=0;decide)]
theorem zcf{L:List ByteArray}{h:Int}{a u:Nat}{c l:List qaa}(j:Jn L h a u c)(hl:S.okC l=true)(h0:l.length≠0)(h60:l.length<=60) :
  (∃L' h' a' u',S.save ((L,[]),h,(u:Int),c) l=(((L',[]),h',((u':Nat):Int),S.changed c l),0)/\Jn L' h' a' u' (S.changed c l)/\L'.length=L.length /\
   (u+(S.packed l 1).length<=L.length / 2-1\/(S.packed c 1).length+(S.packed l 1).length<=L.length / 2-1)) \/
  S.save ((L,[]),h,(u:Int),c) l=(S.noJ,14)/\¬u+(S.packed l 1).length<=L.length / 2-1/\¬(S.packed c 1).length+(S.packed l 1).length<=L.length / 2-1:=by
 unfold S.save;rw[jam j.right,zd9 hl h0 h60,jam rfl];by_cases hr:u+(S.packed l 1).length<=L.length / 2-1
 ·obtain⟨h1,_,h3,h4⟩:=qm0 j hl hr;rw[h1];exact .inl ⟨_,_,_,_,q12 j hl hr,h3,h4,.inl hr⟩
 ·rw[q1z j hr];by_cases ht:(S.packed c 1).length<=L.length / 2-1
  ·obtain⟨b,t1,_,t3,t4,_⟩:=qqd j ht;simp only;rw[t1,jam rfl];by_cases hr2:(S.packed c 1).length+(S.packed l 1).length<=L.length / 2-1
   ·have hr3:(S.packed c 1).length+(S.packed l 1).length<=(turL L (1-h) b c).length / 2-1:=by rw[t4];exact hr2
    obtain⟨h1,_,h3,h4⟩:=qm0 t3 hl hr3;rw[h1];exact .inl ⟨_,_,_,_,q12 t3 hl hr3,h3,h4.trans t4,.inr hr2⟩
   ·rw[q1z t3 (by rw[t4];exact hr2)];exact .inr ⟨rfl,hr,hr2⟩
  ·simp only;rw[(q1p j ht).2,jao (by show ¬(14:Int)=0;decide)];exact .inr ⟨rfl,hr,by omega⟩
end Go.Proofs.Ytnhmanoiolfapaa
end

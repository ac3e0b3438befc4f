/- Texts: Jce, Jcf, Kss, Kst, Ksu, Ksv, Ksl, Klb, Jhx, Kgc, Jcg, Jch, Jci, Jcj, Jck, Jcp, Jcm, Kg7, Kg4, Kg2, Kg1, Kg0, Jcl, Kp0, Kp1, Kw1, Kw2, Kw3, Kp2, Kg3, Kp3, Kp4, Xhs, Xhg, Kg8, Kg6, Kg5, Kp6, Kp5, Kp7, Kp8, Kp9, Kw4, Kpa, Kpb, Kpc, Kpd, Kpe, Kw5, Kw6, Jcr. -/
import Derived.Test.YtnhmanoiolfapaaMb3
set_option linter.unusedVariables false
section
namespace Go.Jx
open Go Go.Sx Go.RowKit
universe u

def WfC:(c:CT)->ElC c->Prop
 | .dat c=>fun x=>WfE c x
 | .arr c=>fun(l:List (El c))=>l.length*bsz c<=140737488355328/\∀x∈l,WfE c x
 | .map k v=>fun(es:List (El k × El v))=>∀e∈es,WfE k e.1/\WfE v e.2
 | .fn _=>fun _=>True
def WfR:(r:List CT)->qb9 r->Prop
 | [],_=>True
 | c::cs,x=>WfC c x.1/\WfR cs x.2
def WfK:(r:RK)->ElK r->Prop
 | .box r,x=>WfR r x
 | .sl c,x=>match x with
  | some l=>l.length*bsz c<=140737488355328/\∀y∈l,WfE c y
  | none=>True
 | .mp k v,x=>match x with
  | some (es:List (El k × El v))=>∀e∈es,WfE k e.1/\WfE v e.2
  | none=>True
def WfP:(l:List PK)->ElP l->Prop
 | [],_=>True
 | .dat c::l,x=>WfE c x.1/\WfP l x.2
 | .fn _::l,x=>WfP l x
 | .ref r::l,x=>WfK r x.1/\WfP l x.2
section
variable {E : Env}
theorem zdb{c:TC}{x:El c}{us:List Value}(h:VRs E (cel c x) us):WfE c x :=
 wf_cells (E:=E) c x (fun j=>us.getD j .nilFunc) fun j hj=>by
  have hj2:j<us.length:=by rw[<- h.1];exact hj
  show VR E _ (us.getD j .nilFunc);rw[jai,jac hj2];exact h.2 j hj hj2
theorem q5p{k v:TC}{id:Nat}{x:List (El k × El v)}(h:OR E id (.tmap k v x)):∀e∈x,WfE k e.1/\WfE v e.2:=by
 obtain⟨ents,cl,h1,h2,h3,_⟩:=h;intro e he;obtain⟨i,hi,rfl⟩:=jco.1 he;have hl:(tmEs k v x).length=List.length x:=jb2 _;have hi1:i<((tmEs k v x).map (·.1)).length:=by rw[jb2,hl];exact hi
 have hi2:i<((tmEs k v x).map (·.2)).length:=by rw[jb2,hl];exact hi
 have q1:=h2.2 i hi1 (by rw[<- h2.1];exact hi1);have q2:=h3.2 i hi2 (by rw[<- h3.1];exact hi2);have e:(tmEs k v x)[i]'(by rw[hl];exact hi)=(asIV k (List.get x ⟨i,hi⟩).1,asIV v (List.get x ⟨i,hi⟩).2):=jca _;rw[jca,e] at q1;rw[jca,e] at q2;exact⟨qo3 q1,qo3 q2⟩
theorem wfC{H:Nat->Option IObj}{ι:Nat->Nat}(hH:∀id o,E.A id->H id=some o->OR E id o):∀(c:CT) {n:Nat} {x:ElC c} {us:List Value},VRs E (qc4 c ι n x) us->(∀j:Nat,j<nC c->H (ι (n+j))=(subC c x)[j]?)->WfC c x
 | .dat c,n,x,us,h,_=>zdb h
 | .arr c,n,x,us,h,hs=>by
  obtain⟨u,us,rfl,a1,a2⟩:=VRs.inv (v:=.arr (ι n)) (cs:=[]) h;have hA:E.A (ι n):=by cases a1;assumption
  have h0:=hs 0 (Nat.one_pos);rw[jb5] at h0;obtain⟨a,cap,h1,h2,h3,h4,h5⟩:=hH _ (.arr c x) hA h0;refine⟨h4,fun y hy=>?_⟩;obtain⟨i,hi,rfl⟩:=jco.1 hy;rcases h5 with ⟨_,h5,_⟩|⟨_,_,cells,t,_,_,us,_,h6⟩
  ·omega
  ·exact wf_cells c _ (us i) (h6 i hi)
 | .map k v,n,x,us,h,hs=>by
  obtain⟨u,us,rfl,a1,a2⟩:=VRs.inv (v:=.map (ι n)) (cs:=[]) h;have hA:E.A (ι n):=by cases a1;assumption
  have h0:=hs 0 (Nat.one_pos);rw[jb5] at h0;exact q5p (hH _ (.tmap k v x) hA h0)
 | .fn _,n,x,us,h,hs=>trivial
theorem zm0{c:TC}{id:Nat}{l:List (El c)}(h:OR E id (.arr c l)):l.length*bsz c<=140737488355328/\∀y∈l,WfE c y:=by
 obtain⟨a,cap,h1,h2,h3,h4,h5⟩:=h;refine⟨h4,fun y hy=>?_⟩;obtain⟨i,hi,rfl⟩:=jco.1 hy;rcases h5 with ⟨_,h5,_⟩|⟨_,_,cells,t,_,_,us,_,h6⟩
 ·omega
 ·exact wf_cells c _ (us i) (h6 i hi)
theorem wfR{H:Nat->Option IObj}{ι:Nat->Nat}(hH:∀id o,E.A id->H id=some o->OR E id o):∀(r:List CT) {n:Nat} {x:qb9 r} {us:List Value},VRs E (qbu r ι n x) us->(∀j:Nat,j<nR r->H (ι (n+j))=(subR r x)[j]?)->WfR r x
 | [],n,x,us,h,hs=>trivial
 | c::cs,n,x,us,h,hs=>by
  obtain⟨us1,us2,rfl,h1,h2⟩:=VRs.split (cs:=qc4 c ι n x.1) (ds:=qbu cs ι (n+nC c) x.2) h;refine⟨wfC hH c h1 fun j hj=>?_,wfR hH cs h2 fun j hj=>?_⟩
  ·rw[hs j (by simp only[nR];omega)];simp only[subR];rw[jas (by rw[qkr];exact hj)]
  ·have:=hs (nC c+j) (by simp only[nR];omega);rw[<- jct] at this;rw[this];simp only[subR];rw[jax (by rw[qkr];omega),qkr,ja1]
theorem wfP{H:Nat->Option IObj}(hH:∀id o,E.A id->H id=some o->OR E id o):∀(l:List PK) {k n:Nat} {x:ElP l} {us:List Value},VRs E (qaq l idN k x) us ->
  (∀j:Nat,j<mP l->H (k+j)=(qar l idN n x)[j]?)->(∀j:Nat,j<nP l->H (n+j)=(qbv l x)[j]?)->WfP l x
 | [],k,n,x,us,h,_,_=>trivial
 | .dat c::l,k,n,x,us,h,h1,h2=>by
  obtain⟨u,us,rfl,a1,a2⟩:=VRs.inv (v:=asIV c x.1) (cs:=qaq l idN k x.2) h;exact⟨qo3 a1,wfP hH l a2 h1 h2⟩
 | .fn f::l,k,n,x,us,h,h1,h2=>by
  obtain⟨u,us,rfl,a1,a2⟩:=VRs.inv (v:=.fn f []) (cs:=qaq l idN k x) h;exact wfP (x:=x) hH l a2 h1 h2
 | .ref r::l,k,n,x,us,h,h1,h2=>by
  obtain⟨u,us,rfl,a1,a2⟩:=VRs.inv (v:=argK r (idN k)) (cs:=qaq l idN (k+1) x.2) h;have hA:E.A k:=qx9 a1;have h0:=h1 0 (by simp only[mP];omega);rw[jb5] at h0;have h0:H k=some (objK r idN n x.1):=h0;refine⟨?_,wfP hH l (n:=n+nK r) a2 (fun j hj=>?_) fun j hj=>?_⟩
  ·match r,x,h0,h2 with
   | .box r,x,h0,h2 =>
    obtain⟨cells,t,k1,k2,k3,k4⟩:=hH k _ hA (h0.trans (show _=some (.row (qbu r idN n x.1)) from rfl));refine wfR (ι:=idN) hH r k4 fun j hj=>?_;have:=h2 j (by simp only[nP,nK];omega);show H (n+j)=_;rw[this];exact jas (l₂:=qbv l x.2) (jfa hj (qnj r x.1).symm)
   | .sl c,(some l,x),h0,h2=>exact zm0 (c:=c) (l:=l) (hH k _ hA (h0.trans rfl))
   | .sl c,(none,x),h0,h2=>trivial
   | .mp kc vc,(some l,x),h0,h2=>exact q5p (k:=kc) (v:=vc) (x:=l) (hH k _ hA (h0.trans rfl))
   | .mp kc vc,(none,x),h0,h2=>trivial
  ·have:=h1 (j+1) (by simp only[mP];omega);rw[show k+1+j=k+(j+1) by omega,this];simp only[qar,jau]
  ·have:=h2 (nK r+j) (by simp only[nP];omega);rw[<- jct] at this;rw[this];simp only[qbv];rw[jax (by rw[qqn];omega),qqn,ja1]
end
theorem q65{l:List PK}{x:ElP l}{E:Env}{us:List Value}(p:Pre T0 E (Sc l x))(h:VRs E (qaq l idN 0 x) us):WfP l x:=by
 refine wfP (H:=(Sc l x).H) (n:=mP l) (fun id o hA ho=>p.st.objs id trivial hA o ho) l h (fun j hj=>?_) fun j hj=>?_
 ·unfold Sc;rw[jbk,qgg,jas (by rw[qa0];exact hj)]
 ·unfold Sc;rw[qgg,jax (by rw[qa0];omega),qa0,ja1]

def qdo(tt:Nat->Option TI)(fi:FI)(s:SmR)(r:CRes):Option (ElR s.rts × ElP (refs s.ps)) :=
 cond r.e.leaves (match qfi r.ds r.S with
  | none=>none
  | some (S',_)=>match ires tt fi.nt r.fr S' fi.res with
   | none=>none
   | some (vs,_)=>runQ s ⟨tupI vs,S',0,0⟩) none
section
variable {P : Program} {tt : Nat -> Option TI} {ft : Nat -> Option FI}
theorem zg3{fi:FI}{f:Nat}{nm:Nat->Option Nm}{cl:Cl}{lf:Nat}{s:SmR}{x:ElP s.ps}{y:ElR s.rts}{z:ElP (refs s.ps)}{r1:CRes}(hm:P.follows .mixedOrders=true)(htt:TT P tt)
  (hfi:∃fn,P.funcs[f]?=some fn/\fn.body=some fi.body/\fn.ntmps=fi.nt/\fn.results=fi.res.toArray/\(fn.name == "runtime.NumGoroutine") = false/\qa1 fi.body=true) (hcl:ClOK P cl) (hfr:ClFr cl)
  (hb:Nat.ble (qaq s.ps idN 0 x).length fi.nt=true) (hr1:qaj P tt nm (mP s.ps) fi.nt cl lf none fi.body (qaz (qaq s.ps idN 0 x) 0 .leaf) (Sc s.ps x) []=some r1) (h:qdo tt fi s r1=some (y,z))
  {E:Env} {us:List Value} (p:Pre T0 E (Sc s.ps x)) (hv:VRs E (qaq s.ps idN 0 x) us) :
  CallsIn Fence.wide 0 P f us.toArray E.w (RetB (mP s.ps) T0 E (Sc s.ps x) ⟨vB s (mP s.ps) y,ScB s y z,0,0⟩):=by
 unfold qdo at h;cases hl:r1.e.leaves with
 | false=>rw[hl] at h;cases h
 | true =>
 rw[hl,jab] at h;split at h
 ·cases h
 rename_i S' wr hmk;split at h
 ·cases h
 rename_i vs' rd' hres;obtain⟨fn,f1,f2,f3,f4,f5,f6⟩:=hfi;refine callsIn_of_wp_marks f1 f2 trivial ?_;refine qh7 (T:=T0) (E:=E) (S:=Sc s.ps x) (ds:=[]) (round:=none) (B:=mP s.ps) (fun _ _=>trivial) hm rfl hcl hfr htt fi.body f6 p (by rw[qhp];omega) (fun _ _=>trivial) ?_ (DS.nil (N:=E.w.heap.size) (jaq _)) (fun _=>rfl) hr1 (fun _ _=>trivial) (fun _ _=>trivial) ?_
 ·have:=FR.enter (nt:=fi.nt) hv (jak hb);rw[f3];exact this
 intro E1 a1 k1 k2 kB;have p1:=kB.pre (fun _ _=>trivial) p;have hlv:LeavesInM Fence.wide 0 P fn a1.tmps (RetB (mP s.ps) T0 E (Sc s.ps x) ⟨vB s (mP s.ps) y,ScB s y z,0,0⟩) a1.defers .returning E1.w:=by
  refine qrq (E0:=E) (S0':=Sc s.ps x) (B:=mP s.ps) (jaq _) (fun _ _=>trivial) p1 k2 kB hmk (fun _ _=>trivial) fun E2 hq0 p2 hv2=>?_;obtain⟨us',h1,h2⟩:=ql7 htt p2 ⟨k1.size,fun t ht=>hv2 _ _ (k1.get t ht)⟩ hres (fun _ _=>trivial);have h3:=qxb (P:=P) (w:=E2.w) f4 h1;refine⟨qhd us',h3,?_⟩;have hq:=hq0;obtain⟨E3,e3,v3,q3⟩:=q2o (r:=⟨tupI vs',S',0,0⟩) h p hv hq (qyp h2);exact⟨_,E3,rfl,e3,v3,q3⟩
 cases he:r1.e with
 | normal=>rw[he] at *;exact hlv
 | ret=>exact hlv
 | exit i=>rw[he] at hl;cases hl
 | goto l=>rw[he] at hl;cases hl
theorem conTR{sml:List (Nat × Sm)}{hxl:List (Nat × Hx)}{f:Nat}{s:SmR}{fi:FI}{nmf:Nat->Option Nm}{st hd:Nat->Bool}(n:Nat)(hm:P.follows .mixedOrders=true)(htt:TT P tt)(hft:FT P ft)(hsm:SmOK P sml)
  (hhx:qbg P hxl) (hC:qah P f) (h3:ft f=some fi) (h4:∀x,Nat.ble (qaq s.ps idN 0 x).length fi.nt=true) (hn:(regs fi.body).Nodup) (hl:okC nmf st hd fi.body none=true)
  (hrun:∀(x:ElP s.ps) (y:ElR s.rts) (z:ElP (refs s.ps)),WfP s.ps x->s.f x=some (y,z)->∃lf,
   qb1 P tt nmf (mP s.ps) fi.nt (qa8 P tt ft (fun _ _=>none) (smL sml) (hxL hxl) lf n (ElR s.rts × ElP (refs s.ps))) lf st
    (atNB P tt nmf (mP s.ps) fi.nt fi.body (qa8 P tt ft (fun _ _=>none) (smL sml) (hxL hxl) lf n (ElR s.rts × ElP (refs s.ps))) lf hd (qdo tt fi s)) fi.body [] (qaz (qaq s.ps idN 0 x) 0 .leaf) (Sc s.ps x) [] (qdo tt fi s)=some (y,z))
  (hz:frzF nmf=true:=by rfl):ConR P f s:=by
 have hB0:mB nmf (mP s.ps)=0:=by unfold mB;rw[hz];rfl
 have hex:ExOK P (exH (smL sml) (hxL hxl)):=q32 (qra hsm) (qtt hhx);refine⟨hC,fun E x us y z hy p hv=>?_⟩;obtain⟨lf,hr⟩:=hrun x y z (q65 p hv) hy;rw[<- qzj hB0 (qbh n _) hn hl,qeu (qbh n _)] at hr;cases hr1:qaj P tt nmf (mP s.ps) fi.nt (qce P tt ft (fun _ _=>none) (exH (smL sml) (hxL hxl)) lf n) lf none fi.body (qaz (qaq s.ps idN 0 x) 0 .leaf) (Sc s.ps x) [] with
 | none=>rw[hr1] at hr;cases hr
 | some r1 =>
  rw[hr1] at hr;exact zg3 hm htt (hft f fi h3) (qj8 hm htt hft hex n) (qfu hex n) (h4 x) hr1 hr p hv
end
end Go.Jx
end

section
namespace Go.Jx
open Go Go.Sx Go.RowKit
universe u

section
variable {P : Program} {tt : Nat -> Option TI} {nm : Nat -> Option Nm} {lf : Nat} {st hd : Nat -> Bool} {cl : Cl}
def atQ(P:Program)(tt:Nat->Option TI)(nm:Nat->Option Nm)(fi:FI)(s:SmR)(clK:ClK (ElR s.rts × ElP (refs s.ps)))(lf:Nat)(hd:Nat->Bool)(k:Nat)(ns:List Nat)(x:NRes):Option (ElR s.rts × ElP (refs s.ps)) :=
 atNB P tt nm (mP s.ps) fi.nt fi.body clK lf hd (qdo tt fi s) k ns x
theorem znd{B:Nat}(hz:frzF nm=true):mB nm B=0:=by unfold mB;rw[hz];rfl
theorem q3u(hz:frzF nm=true){fi:FI}{s:SmR}{clK:ClK (ElR s.rts × ElP (refs s.ps))}(h:ClEq cl clK)(hn:(regs fi.body).Nodup)(hl:okC nm st hd fi.body none=true)(k:Nat)(ns ns':List Nat)(hd':dn (hd k) ns=some ns')(x:NRes) :
  atQ P tt nm fi s clK lf hd k ns x=qb4 P tt nm (mP s.ps) fi.nt clK lf st (atQ P tt nm fi s clK lf hd) k fi.body [] ns' x (qdo tt fi s):=qwz (znd hz) h hn hl k ns ns' hd' x
theorem qzl{fi:FI}{s:SmR}{clK:ClK (ElR s.rts × ElP (refs s.ps))}(k:Nat)(ns:List Nat)(hd':dn (hd k) ns=none)(x:NRes):atQ P tt nm fi s clK lf hd k ns x=none:=qyc k ns hd' x
end
end Go.Jx
end

noncomputable section
set_option maxRecDepth 100000
namespace Go.Proofs.Ytnhmanoiolfapaa
open Go Go.Sx Go.RowKit Go.Jx
def qix:Sm:=⟨[.list .str],[(true,.str)],fun x=>some (x.1,())⟩
def q33:Sm:=⟨[.list cPut],[(true,cPut)],fun x=>some (x.1,())⟩
def qic:Sm:=⟨[.list .str,.int .i64],[(false,.list .str)],fun x=>cond (decide (x.1.length=1)&&S.inI x.2.1 0 1000) (some (List.replicate x.2.1.toNat (x.1.getD 0 S.none_),())) none⟩
def qib:Sm:=⟨[.int .i64,.int .i64,.int .i64],[(false,.bool)],fun x=>some (S.inI x.1 x.2.1 x.2.2.1,())⟩
def qmf:Sm:=⟨[],[(false,.str)],fun _=>some (S.blank,())⟩
def qs3:Sm:=⟨[.str],[(false,.bool)],fun x=>some (S.short x.1,())⟩
def q2r:Sm:=⟨[.int .i64],[(false,qav),(false,.int .i64)],fun x=>some ((S.newDisk x.1).1,(S.newDisk x.1).2,())⟩
def qg4:Sm:=⟨[qav],[(false,.int .i64)],fun x=>some (S.checkDisk x.1,())⟩
def S.fitP(l:List ByteArray)(q:List DPut):Bool:=q.all fun p=>!S.badPut l.length p
def spz9:Sm:=⟨[.list .str,.list cPut],[(true,.str)],fun x=>cond (S.fitP x.1 x.2.1) (some (S.settled x.1 x.2.1,())) none⟩
def spz7:Sm:=⟨[qav,.list cAct],[(false,qav),(false,.int .i64)],fun x=>some ((S.doD x.1 x.2.1).1,(S.doD x.1 x.2.1).2,())⟩
def spz8:Sm:=⟨[qav,.list (.int .i64)],[(false,qav),(false,.int .i64)],fun x=>some ((S.crash x.1 x.2.1).1,(S.crash x.1 x.2.1).2,())⟩
def S.anyShort(l:List ByteArray):Bool:=l.any S.short
def S.pk(l:List qaa):Bool:=S.okC l&&Nat.ble l.length 250
def quz:Sm:=⟨[.int .i64],[(false,.str)],fun x=>cond (S.inI x.1 0 16777215) (some (qae (S.two x.1.toNat),())) none⟩
def qzx:Sm:=⟨[.list qad],[(false,.str)],fun x=>cond (S.pk x.1) (some (qae (S.body x.1),())) none⟩
def qk0:Sm:=⟨[.list qad],[(true,.str)],fun x=>cond (S.pk x.1) (some (S.packed x.1 1,())) none⟩
def qu0:Sm:=⟨[.str],[(false,.str)],fun x=>cond (decide (x.1.size=64)) (some (qae (0::(qab x.1).drop 1),())) none⟩
def qkb:Sm:=⟨[.int .i64,.int .i64],[(false,q5r)],fun x=>cond (S.inI x.1 0 1000) (some (S.half x.1.toNat x.2.1,())) none⟩
def S.laid(l:List qaa)(at_ e:Int)(b:Bool):List DAct:=S.puts at_ (S.packed l 0)++(cond (b&&decide (at_+(S.packed l 1).length<e)) [S.put (at_+(S.packed l 1).length) S.blank] []++[S.sync,S.put at_ ((S.packed l 1).getD 0 S.none_),S.sync])
def qyl:Sm:=⟨[qav],[(true,cAct),(false,.int .i64)],fun x=>some ((S.format x.1).1,(S.format x.1).2,())⟩
def S.lenA(a:List DAct):Nat:=a.length
def S.app(a b:List DAct):List DAct:=a++b
def spz5:SmR:=⟨[.ref (.box [.arr cAct]),.dat (.int .i64),.dat (.list .str)],[],fun x=>cond (S.inI x.2.1 0 1000000&&(Nat.ble x.2.2.1.length 1000000&&Nat.ble (S.lenA x.1.1) 1000000)) (some ((),((S.app x.1.1 (S.puts x.2.1 x.2.2.1),()),()))) none⟩
def spz6:SmR:=⟨[.ref (.box [.arr cAct])],[],fun x=>cond (Nat.ble (S.lenA x.1.1) 4000000) (some ((),((S.app x.1.1 [S.sync],()),()))) none⟩
def S.chg(b:ByteArray):List qaa × Bool:=match S.changes (b.size+1) (qab b) (-1) with
 | some l=>(l,true)
 | none=>([],false)
def qwp:Sm:=⟨[.str],[(true,qad),(false,.bool)],fun x=>cond (Nat.ble x.1.size 1000000) (some ((S.chg x.1).1,(S.chg x.1).2,())) none⟩
def S.readK(l:List ByteArray):qe0 :=
 if ¬(qab (l.getD 0 S.none_)).getD 0 0=1\/l.length<S.recM (qab (l.getD 0 S.none_)) then ([],0,true)
 else match S.changes (S.recN (qab (l.getD 0 S.none_))+1) ((((l.take (S.recM (qab (l.getD 0 S.none_)))).flatMap qab).drop 4).take (S.recN (qab (l.getD 0 S.none_)))) (-1) with
  | some c=>(c,(S.recM (qab (l.getD 0 S.none_)):Int),!((((l.take (S.recM (qab (l.getD 0 S.none_)))).flatMap qab).drop (4+S.recN (qab (l.getD 0 S.none_)))).all fun b=>decide (b=0)))
  | none=>([],(S.recM (qab (l.getD 0 S.none_)):Int),true)
def S.secs(l:List ByteArray):Bool:=Nat.ble l.length 1000&&!S.anyShort l
def S.secs1(l:List ByteArray):Bool:=Nat.ble 1 l.length&&S.secs l
def q7l:Sm:=⟨[.list .str],[(false,cKeepRecord)],fun x=>cond (S.secs1 x.1) (some (S.readK x.1,())) none⟩
def S.val(b:ByteArray):Int:=(qab b).foldl (fun n b=>256*n+b) 0
def S.sameC(a b:List qaa):Bool:=decide (a=b)
def S.sameD(a b:qak):Bool:=decide (a=b)
def S.sameJ(a b:qac):Bool:=decide (a=b)
def S.sameA(a b:List DAct):Bool:=decide (a=b)
def spz4:Sm:=⟨[.list qad],[(false,.int .i64),(false,.int .i64)],fun x=>some ((S.size x.1).1,(S.size x.1).2,())⟩
def S.smallJ(j:qac):Bool:=Nat.ble j.1.1.length 1000&&(decide (j.1.1.length % 2=0)&&S.inI j.2.2.1 (-1000) 1000)
def S.roomR(j:qac):Int:=((j.1.1.length / 2:Nat):Int)-1-j.2.2.1
def qq3:Sm:=⟨[qag],[(false,.int .i64)],fun x=>cond (S.smallJ x.1) (some (S.roomOf x.1,())) none⟩
def q4f:Sm:=⟨[],[(false,.str)],fun _=>some (qae (List.replicate 64 0),())⟩
def q53:Sm:=⟨[.list qad,.list qad],[(false,.bool)],fun x=>some (S.sameC x.1 x.2.1,())⟩
def qxm:Sm:=⟨[qav],[(false,qag),(false,.int .i64)],fun x=>some ((S.open_ x.1).1,(S.open_ x.1).2,())⟩
def S.openedJ(d:qak):qac × Bool:=match S.opened d.1 with
 | some (h,u,c)=>(((d.1,[]),h,(u:Int),c),true)
 | none=>(S.noJ,false)
def S.okL(d:qak):Bool:=S.secs d.1&&(Nat.ble 8 d.1.length&&decide (d.1.length % 2=0))
def qfv:Sm:=⟨[qav],[(false,qag),(false,.bool)],fun x=>cond (S.okL x.1) (some ((S.openedJ x.1).1,(S.openedJ x.1).2,())) none⟩
def S.errR(j:qac):Int:=if S.right j=true then 0 else 1
def qli:Sm:=⟨[qag],[(false,.int .i64)],fun x=>some (S.errR x.1,())⟩
def zan:Sm:=⟨[qag],[(false,.int .i64),(false,.int .i64)],fun x=>some ((S.room x.1).1,(S.room x.1).2,())⟩
def S.asked(j:qac)(l:List qaa):Int:=if S.right j=true then (S.size l).2 else 1
def qp1:Sm:=⟨[qag,.list qad],[(false,.int .i64)],fun x=>some (S.asked x.1 x.2.1,())⟩
def S.comG(j:qac)(l:List qaa):Bool:=S.smallJ j&&(S.pk l&&S.inI j.2.2.1 0 1000)
def S.actsB(o:Option (List DAct)):List DAct × Bool:=match o with
 | some a=>(a,true)
 | none=>([],false)
def qt5:Sm:=⟨[qag,.list qad],[(true,cAct),(false,.bool)],fun x=>cond (S.comG x.1 x.2.1) (some ((S.actsB (S.commit x.1 x.2.1)).1,(S.actsB (S.commit x.1 x.2.1)).2,())) none⟩
def S.turG(j:qac):Bool:=S.smallJ j&&(S.pk j.2.2.2&&(S.inI j.2.1 0 1&&Nat.ble 8 j.1.1.length))
def qsn:Sm:=⟨[qag],[(true,cAct),(false,.bool)],fun x=>cond (S.turG x.1) (some ((S.actsB (S.turn x.1)).1,(S.actsB (S.turn x.1)).2,())) none⟩
def S.behG(j:qac)(a:List DAct):Bool:=decide ((S.behind j a).2=0)&&decide ((S.doD j.1 a).2=0)
def ql8:Sm:=⟨[qag,.list cAct],[(false,qag)],fun x=>cond (S.behG x.1 x.2.1) (some ((S.behind x.1 x.2.1).1,())) none⟩
def qxy:Sm:=⟨[qag,.list qad],[(true,cAct),(false,.int .i64)],fun x=>some ((S.plan x.1 x.2.1).1,(S.plan x.1 x.2.1).2,())⟩
def zd2:Sm:=⟨[qag,.list qad],[(false,qag),(false,.int .i64)],fun x=>some ((S.commitJ x.1 x.2.1).1,(S.commitJ x.1 x.2.1).2,())⟩
def qz6:Sm:=⟨[qag],[(true,cAct),(false,.int .i64)],fun x=>some ((S.planTurn x.1).1,(S.planTurn x.1).2,())⟩
def zad:Sm:=⟨[qag],[(false,qag),(false,.int .i64)],fun x=>some ((S.turnJ x.1).1,(S.turnJ x.1).2,())⟩
def za0:Sm:=⟨[qag,.list qad],[(false,qag),(false,.int .i64)],fun x=>some ((S.save x.1 x.2.1).1,(S.save x.1 x.2.1).2,())⟩
def S.oneN(s:ByteArray)(n:Int):Bool:=keqS s (S.lit [0])&&decide (n=64)
def q52:Sm:=⟨[.str,.int .i64],[(false,.str)],fun x=>cond (S.oneN x.1 x.2.1) (some (S.blank,())) none⟩
def S.applied(m:List (Int × ByteArray))(l:List qaa):List (Int × ByteArray):=l.foldl (fun m c=>cond c.2.2 (mdel (vc:=.str) (.int .i64) c.1 m) (mset (vc:=.str) (.int .i64) c.1 c.2.1 m)) m
def qpn:SmR:=⟨[.ref (.mp (.int .i64) .str),.dat (.list qad)],[],fun x=>match x.1 with
 | some m=>some ((),(some (S.applied m x.2.1),()))
 | none=>none⟩
def S.madeD:qak:=(S.doD (S.newDisk 8).1 (S.format (S.newDisk 8).1).1).1
def S.madeJ:qac:=(S.open_ S.madeD).1
def q4u:Sm:=⟨[.int .i64],[(false,qag),(false,.bool)],fun x=>cond (S.inI x.1 8 8) (some (S.madeJ,true,())) none⟩
def qzm:Sm:=⟨[],[(false,.bool)],fun _=>some (true,())⟩
abbrev DChg:Type:=qan
abbrev cChg:TC:=cCosignerlaw23Change
namespace S
def brief(l:List (List DChg)):Bool:=l.all (fun x=>Nat.ble x.length 10)&&Nat.ble l.length 12
def cellOf(k:Nat)(c:DChg):qaa:=((k:Int),cond c.2.2.2 none_ (qae (List.replicate c.2.1.toNat c.2.2.1)),c.2.2.2)
def cells(l:List DChg):List qaa:=(List.range 25).filterMap fun(k:Nat)=>(l.reverse.find? fun c=>decide (c.1 % 25=(k:Int))).map (cellOf (k:Nat))
def evn(n:Int):Bool:=inI n 8 40&&decide (n % 2=0)
def madeD_(n:Int):qak:=(doD (newDisk n).1 (format (newDisk n).1).1).1
def madeN(n:Int):qac:=(open_ (madeD_ n)).1
def playStep(j:qac)(l:List DChg):qac:=if (cells l).length=0 then j else if (save j (cells l)).2=0 then (save j (cells l)).1 else j
def played(s:Int)(l:List (List DChg)):qac:=l.foldl playStep (madeN (8+2*(s % 17)))
def cut(d:qak)(l:List DAct)(m:Int)(k:List Int):qak × Int:=crash (doD d (l.take m.toNat)).1 ((k.take (doD d (l.take m.toNat)).1.2.length).map (· % 65))
def planO(j:qac)(l:List qaa):Option (List DAct × Int × Unit):=cond (sameJ j j) (some ((plan j l).1,(plan j l).2,())) none
def saveO(j:qac)(l:List qaa):Option (qac × Int × Unit):=cond (sameJ j j) (some ((save j l).1,(save j l).2,())) none
def turnO(j:qac):Option (qac × Int × Unit):=cond (sameJ j j) (some ((turnJ j).1,(turnJ j).2,())) none
def commitO(j:qac)(l:List qaa):Option (qac × Int × Unit):=cond (sameJ j j) (some ((commitJ j l).1,(commitJ j l).2,())) none
def roomO(j:qac):Option (Int × Int × Unit):=cond (sameJ j j) (some ((room j).1,(room j).2,())) none
def playedO(s:Int)(l:List (List DChg)):Option (qac × Bool × Unit):=cond (brief l) (some (played s l,true,())) none
end S
def spz1:Sm:=⟨[.list (.list cChg)],[(false,.bool)],fun x=>some (S.brief x.1,())⟩
def spz2:Sm:=⟨[.list cChg],[(true,qad)],fun x=>some (S.cells x.1,())⟩
def q05:Sm:=⟨[.int .i64],[(false,qag),(false,.bool)],fun x=>cond (S.evn x.1) (some (S.madeN x.1,true,())) none⟩
def spz3:Sm:=⟨[.int .u8,.list (.list cChg)],[(false,qag),(false,.bool)],fun x=>S.playedO x.1 x.2.1⟩
def qv4:Sm:=⟨[qag,.list qad],[(true,cAct),(false,.int .i64)],fun x=>S.planO x.1 x.2.1⟩
def quc:Sm:=⟨[qag,.list qad],[(false,qag),(false,.int .i64)],fun x=>S.saveO x.1 x.2.1⟩
def qya:Sm:=⟨[qag,.list qad],[(false,qag),(false,.int .i64)],fun x=>S.commitO x.1 x.2.1⟩
def qwm:Sm:=⟨[qag],[(false,qag),(false,.int .i64)],fun x=>S.turnO x.1⟩
def qz7:Sm:=⟨[qag],[(false,.int .i64),(false,.int .i64)],fun x=>S.roomO x.1⟩
theorem zm9:IdxFacts Try.prog ttT.get (.int .i64) fi57 (cL fb57) (cL (cL (cR fb57))) (cB (cB (cR (cL (cR fb57))))) (cR (cR fb57)) :=
 ⟨by kernel_rfl,by kernel_rfl,fun mr=>by kernel_rfl,fun R clK B0 mr lf l g caps S kk=>by kernel_rfl,fun R clK B0 mr lf l g caps S kk=>by kernel_rfl,fun R clK B0 mr lf l g caps S i kk=>by kernel_rfl,fun R clK B0 mr lf fr S kk=>by kernel_rfl,by kernel_rfl,by kernel_rfl,fun mr=>by kernel_rfl⟩
theorem zdv:HxOK Try.prog 57 (idxF (.int .i64)):=qno zm9 mixed ttOK fo57
theorem zab:IdxFacts Try.prog ttT.get cPut fi60 (cL fb60) (cL (cL (cR fb60))) (cB (cB (cR (cL (cR fb60))))) (cR (cR fb60)) :=
 ⟨by kernel_rfl,by kernel_rfl,fun mr=>by kernel_rfl,fun R clK B0 mr lf l g caps S kk=>by kernel_rfl,fun R clK B0 mr lf l g caps S kk=>by kernel_rfl,fun R clK B0 mr lf l g caps S i kk=>by kernel_rfl,fun R clK B0 mr lf fr S kk=>by kernel_rfl,by kernel_rfl,by kernel_rfl,fun mr=>by kernel_rfl⟩
theorem zim:HxOK Try.prog 60 (idxF cPut):=qno zab mixed ttOK fo60
theorem q95:IdxFacts Try.prog ttT.get .str fi61 (cL fb61) (cL (cL (cR fb61))) (cB (cB (cR (cL (cR fb61))))) (cR (cR fb61)) :=
 ⟨by kernel_rfl,by kernel_rfl,fun mr=>by kernel_rfl,fun R clK B0 mr lf l g caps S kk=>by kernel_rfl,fun R clK B0 mr lf l g caps S kk=>by kernel_rfl,fun R clK B0 mr lf l g caps S i kk=>by kernel_rfl,fun R clK B0 mr lf fr S kk=>by kernel_rfl,by kernel_rfl,by kernel_rfl,fun mr=>by kernel_rfl⟩
theorem zcz:HxOK Try.prog 61 (idxF .str):=qno q95 mixed ttOK fo61
theorem q92:IdxFacts Try.prog ttT.get qad fi64 (cL fb64) (cL (cL (cR fb64))) (cB (cB (cR (cL (cR fb64))))) (cR (cR fb64)) :=
 ⟨by kernel_rfl,by kernel_rfl,fun mr=>by kernel_rfl,fun R clK B0 mr lf l g caps S kk=>by kernel_rfl,fun R clK B0 mr lf l g caps S kk=>by kernel_rfl,fun R clK B0 mr lf l g caps S i kk=>by kernel_rfl,fun R clK B0 mr lf fr S kk=>by kernel_rfl,by kernel_rfl,by kernel_rfl,fun mr=>by kernel_rfl⟩
theorem q88:HxOK Try.prog 64 (idxF qad):=qno q92 mixed ttOK fo64
def nmz1:Nat->Option Nm:=fun k=>cond (Nat.beq k 2) (some ⟨[0,3],[],[],[],[],0,0,false⟩) (none)
def stz1:Nat->Bool:=fun k=>cond (Nat.beq k 2) true (false)
def hdz1:=stz1
abbrev Rtz1:Type:=Bool × Unit
def qwq:List (Nat × Sm):=[]
def q1l:List (Nat × Hx):=[]
def clz1(R:Type)(lf:Nat):ClK R:=qa8 Try.prog ttT.get ftT.get (nm1 6 nmz1) (smL qwq) (hxL q1l) lf 20 R
abbrev idz1:Nat:=6
def qhk(x1:(List (List qan)))(p:Int):NRes:=(NRes.mk (.node (some (IV.lst (TC.list cCosignerlaw23Change) x1)) (.node none (.node (some (IV.int .i64 p)) .leaf .leaf) .leaf) .leaf) (IS.mk .leaf 0) [] 0)
def qtd(lf:Nat)(x1:(List (List qan)))(L2:Int->Option Rtz1):Option Rtz1:=(L2 (Int.ofNat 0))
def qjz(lf:Nat)(x1:(List (List qan)))(L2:Int->Option Rtz1)(p:Int):Option Rtz1:=(cond (iltI p (Int.ofNat x1.length)) (match (jget x1 p) with|none=>none|some v0=>(cond (iltI (Int.ofNat 10) (Int.ofNat v0.length)) (some (false,())) (L2 (IntKind.i64.wrap (Int.add p (Int.ofNat 1)))))) (some ((Bool.not (iltI (Int.ofNat 12) (Int.ofNat x1.length))),())))
abbrev gz1:Type:=ElA [(.list (.list cCosignerlaw23Change))]->Option Rtz1
abbrev sz1(g:gz1):Sm:=⟨[(.list (.list cCosignerlaw23Change))],[(false,.bool)],g⟩
abbrev Ez1(g:gz1)(J:JT Rtz1)(lf:Nat)(x1:(List (List qan))):=qb6 Try.prog ttT.get nmz1 fi6.nt (clz1 _ lf) lf stz1 J fi6.body [] (qaz (argV [(.list (.list cCosignerlaw23Change))] (x1,())) 0 .leaf) S0 [] (qa2 ttT.get fi6 (sz1 g))
abbrev Bz1(g:gz1)(J:JT Rtz1)(lf k:Nat)(ms:List Nat)(q:NRes):=qct Try.prog ttT.get nmz1 fi6.nt (clz1 _ lf) lf stz1 J k fi6.body [] ms q (qa2 ttT.get fi6 (sz1 g))
theorem inz1(g:gz1)(J:JT Rtz1)(lf:Nat)(x1:(List (List qan))):Ez1 g J lf x1=qtd lf x1 (fun q=>J 2 [lf] (qhk x1 q)):=by kernel_rfl
theorem zm7(g:gz1)(J:JT Rtz1)(lf:Nat)(x1:(List (List qan)))(m1:Nat)(p:Int):Bz1 g J lf 2 [m1] (qhk x1 p)=qjz lf x1 (fun q=>J 2 [m1] (qhk x1 q)) p:=by kernel_rfl
theorem ndz1:(regs fi6.body).Nodup:=by decide +kernel
theorem okz1:okC nmz1 stz1 hdz1 fi6.body none=true:=by kernel_rfl
def Az1(g:gz1)(lf:Nat):JT Rtz1:=atN Try.prog ttT.get nmz1 fi6 (sz1 g) (clz1 _ lf) lf hdz1
def qmb(lf:Nat)(x1:(List (List qan))):Nat->(Int)->Option Rtz1:=qa9 fun K p=>qjz lf x1 K p
theorem q0e(g:gz1)(lf:Nat)(x1:(List (List qan))):∀(n:Nat) (p:Int),Az1 g lf 2 [n] (qhk x1 p)=qmb lf x1 n p
 | 0,p=>qb5 2 [0] rfl _
 | n+1,p=>by
  have ih:=q0e g lf x1 n;refine(qb3 (qbh 20 _) ndz1 okz1 2 [n+1] [n] rfl _).trans ((zm7 g (Az1 g lf) lf x1 n p).trans ?_);rw[(show (fun q=>Az1 g lf 2 [n] (qhk x1 q))=(fun q=>qmb lf x1 n q) from funext ih)];rfl
def Fz1(lf:Nat)(x1:(List (List qan))):Option Rtz1:=qtd lf x1 (fun q=>qmb lf x1 lf q)
theorem zec(g:gz1)(lf:Nat)(x1:(List (List qan))):Ez1 g (Az1 g lf) lf x1=Fz1 lf x1:=by
  refine(inz1 g (Az1 g lf) lf x1).trans ?_;rw[(show (fun q=>Az1 g lf 2 [lf] (qhk x1 q))=(fun q=>qmb lf x1 lf q) from funext fun q=>q0e g lf x1 lf q)];rfl
theorem zmq:qbg Try.prog q1l:=trivial
theorem mkz1{g:gz1}(hsm:SmOK Try.prog qwq)(hg:∀(x:ElA [(.list (.list cCosignerlaw23Change))]) (y:Rtz1),WfA [(.list (.list cCosignerlaw23Change))] x->g x=some y->∃lf,Fz1 lf x.1=some y):Con Try.prog 6 ⟨[(.list (.list cCosignerlaw23Change))],[(false,.bool)],g⟩ :=
 conV (st:=stz1) (fun lf x=>Fz1 lf x.1) cm3 cal6 zmq ndz1 okz1 (fun lf x=>zec g lf x.1) hsm hg
def nmz2:Nat->Option Nm:=fun k=>cond (Nat.beq k 3) (some ⟨[0,3,4],[(3,qad)],[],[],[],0,0,false⟩) (cond (Nat.beq k 6) (some ⟨[0,3,4,5],[(3,qad)],[],[],[],0,0,false⟩) (cond (Nat.beq k 11) (some ⟨[0,3,4,5,6,7],[(3,qad)],[],[],[],0,0,false⟩) (none)))
def stz2:Nat->Bool:=fun k=>cond (Nat.beq k 3) true (cond (Nat.beq k 6) true (cond (Nat.beq k 11) true (false)))
def hdz2:=stz2
abbrev Rtz2:Type:=(List qaa) × Unit
def q4o:List (Nat × Sm):=[]
def qzy:List (Nat × Hx):=[]
def clz2(R:Type)(lf:Nat):ClK R:=qa8 Try.prog ttT.get ftT.get (nm1 13 nmz2) (smL q4o) (hxL qzy) lf 20 R
abbrev idz2:Nat:=13
def qc9(x1:(List qan))(p:Int × (List qaa)):NRes:=(NRes.mk (.node (some (IV.lst cCosignerlaw23Change x1)) (.node none (.node (some (IV.arr 0)) .leaf .leaf) .leaf) (.node none (.node (some (IV.int .i64 p.1)) .leaf .leaf) .leaf)) (IS.mk (.node (some (IObj.arr qad p.2)) .leaf .leaf) 1) [] 0)
def qeh(x1:(List qan))(p:Int × Int × (List qaa)):NRes:=(NRes.mk (.node (some (IV.lst cCosignerlaw23Change x1)) (.node none (.node (some (IV.arr 0)) .leaf .leaf) (.node (some (IV.int .i64 p.1)) .leaf .leaf)) (.node none (.node (some (IV.int .i64 p.2.1)) .leaf .leaf) .leaf)) (IS.mk (.node (some (IObj.arr qad p.2.2)) .leaf .leaf) 1) [] 0)
def qhl(x1:(List qan))(p:Bool × Int × Int × ByteArray × Int × (List qaa) × Int):NRes:=(NRes.mk (.node (some (IV.lst cCosignerlaw23Change x1)) (.node none (.node (some (IV.arr 0)) (.node (some (IV.int .i64 p.2.2.1)) .leaf .leaf) .leaf) (.node (some (IV.int .i64 p.2.1)) .leaf .leaf)) (.node none (.node (some (IV.int .i64 p.2.2.2.2.1)) .leaf .leaf) (.node (some (IV.ptr 1 0)) .leaf .leaf))) (IS.mk (.node (some (IObj.arr qad p.2.2.2.2.2.1)) (.node (some (IObj.row (List.cons (IV.int .i64 p.2.2.2.2.2.2) (List.cons (IV.str p.2.2.2.1) [(IV.bool p.1)])))) .leaf .leaf) .leaf) 2) [] 0)
def qt4(lf:Nat)(x1:(List qan))(L3:(Int × (List qaa))->Option Rtz2):Option Rtz2:=(L3 ((Int.ofNat 0),[]))
def qnq(lf:Nat)(x1:(List qan))(L6:(Int × Int × (List qaa))->Option Rtz2)(p:Int × (List qaa)):Option Rtz2:=(cond (Bool.not (iltI (Int.ofNat 24) p.1)) (L6 ((IntKind.i64.wrap (Int.sub (Int.ofNat x1.length) (Int.ofNat 1))),p.1,p.2)) (some (p.2,())))
def qnh(lf:Nat)(x1:(List qan))(L6:(Int × Int × (List qaa))->Option Rtz2)(L11:(Bool × Int × Int × ByteArray × Int × (List qaa) × Int)->Option Rtz2)(L3:(Int × (List qaa))->Option Rtz2)(p:Int × Int × (List qaa)):Option Rtz2:=(cond (Bool.not (iltI p.1 (Int.ofNat 0))) (match (jget x1 p.1) with|none=>none|some v0=>(cond (Bool.not (ieqI (Int.tmod (IntKind.i64.wrap v0.1) (Int.ofNat 25)) p.2.1)) (L6 ((IntKind.i64.wrap (Int.sub p.1 (Int.ofNat 1))),p.2.1,p.2.2)) (match (jget x1 p.1) with|none=>none|some v26=>(L11 (v26.2.2.2,p.1,(Int.ofNat 0),(S.lit []),p.2.1,p.2.2,p.2.1))))) (L3 ((IntKind.i64.wrap (Int.add p.2.1 (Int.ofNat 1))),p.2.2)))
def qlp(lf:Nat)(x1:(List qan))(L11:(Bool × Int × Int × ByteArray × Int × (List qaa) × Int)->Option Rtz2)(L3:(Int × (List qaa))->Option Rtz2)(p:Bool × Int × Int × ByteArray × Int × (List qaa) × Int):Option Rtz2:=(match (jget x1 p.2.1) with|none=>none|some v0=>(cond (iltI p.2.2.1 (IntKind.i64.wrap v0.2.1)) (cond (Bool.not p.1) (match (jget x1 p.2.1) with|none=>none|some v1=>(cond (Nat.ble (Nat.succ (Nat.add p.2.2.2.1.size 1)) 9223372036854775808) (L11 (p.1,p.2.1,(IntKind.i64.wrap (Int.add p.2.2.1 (Int.ofNat 1))),(ByteArray.append p.2.2.2.1 (ByteArray.mk (Array.mk (List.cons (UInt8.ofBitVec (BitVec.ofFin (Fin.mk (Nat.mod (Int.toNat v1.2.2.1) 256) (jcx (Int.toNat v1.2.2.1) (BitVec.ofNat._proof_1 (OfNat.ofNat 8)))))) [])))),p.2.2.2.2.1,p.2.2.2.2.2.1,p.2.2.2.2.2.2)) none)) (cond (Nat.ble (Nat.mul (Nat.add p.2.2.2.2.2.1.length 1) 32) 140737488355328) (L3 ((IntKind.i64.wrap (Int.add p.2.2.2.2.1 (Int.ofNat 1))),(List.append p.2.2.2.2.2.1 [(p.2.2.2.2.2.2,(p.2.2.2.1,p.1))]))) none)) (cond (Nat.ble (Nat.mul (Nat.add p.2.2.2.2.2.1.length 1) 32) 140737488355328) (L3 ((IntKind.i64.wrap (Int.add p.2.2.2.2.1 (Int.ofNat 1))),(List.append p.2.2.2.2.2.1 [(p.2.2.2.2.2.2,(p.2.2.2.1,p.1))]))) none)))
abbrev gz2:Type:=ElA [(.list cCosignerlaw23Change)]->Option Rtz2
abbrev sz2(g:gz2):Sm:=⟨[(.list cCosignerlaw23Change)],[(true,qad)],g⟩
abbrev Ez2(g:gz2)(J:JT Rtz2)(lf:Nat)(x1:(List qan)):=qb6 Try.prog ttT.get nmz2 fi13.nt (clz2 _ lf) lf stz2 J fi13.body [] (qaz (argV [(.list cCosignerlaw23Change)] (x1,())) 0 .leaf) S0 [] (qa2 ttT.get fi13 (sz2 g))
abbrev Bz2(g:gz2)(J:JT Rtz2)(lf k:Nat)(ms:List Nat)(q:NRes):=qct Try.prog ttT.get nmz2 fi13.nt (clz2 _ lf) lf stz2 J k fi13.body [] ms q (qa2 ttT.get fi13 (sz2 g))
theorem inz2(g:gz2)(J:JT Rtz2)(lf:Nat)(x1:(List qan)):Ez2 g J lf x1=qt4 lf x1 (fun q=>J 3 [lf] (qc9 x1 q)):=by kernel_rfl
theorem zci(g:gz2)(J:JT Rtz2)(lf:Nat)(x1:(List qan))(m1:Nat)(p:Int × (List qaa)):Bz2 g J lf 3 [m1] (qc9 x1 p)=qnq lf x1 (fun q=>J 6 [m1,lf] (qeh x1 q)) p:=by kernel_rfl
theorem zgq(g:gz2)(J:JT Rtz2)(lf:Nat)(x1:(List qan))(m1:Nat)(m2:Nat)(p:Int × Int × (List qaa)):Bz2 g J lf 6 [m1,m2] (qeh x1 p)=qnh lf x1 (fun q=>J 6 [m1,m2] (qeh x1 q)) (fun q=>J 11 [m1,m2,lf] (qhl x1 q)) (fun q=>J 3 [m1] (qc9 x1 q)) p:=by kernel_rfl
theorem zbs(g:gz2)(J:JT Rtz2)(lf:Nat)(x1:(List qan))(m1:Nat)(m2:Nat)(m3:Nat)(p:Bool × Int × Int × ByteArray × Int × (List qaa) × Int):Bz2 g J lf 11 [m1,m2,m3] (qhl x1 p)=qlp lf x1 (fun q=>J 11 [m1,m2,m3] (qhl x1 q)) (fun q=>J 3 [m1] (qc9 x1 q)) p:=by kernel_rfl
theorem ndz2:(regs fi13.body).Nodup:=by decide +kernel
theorem okz2:okC nmz2 stz2 hdz2 fi13.body none=true:=by kernel_rfl
def Az2(g:gz2)(lf:Nat):JT Rtz2:=atN Try.prog ttT.get nmz2 fi13 (sz2 g) (clz2 _ lf) lf hdz2
def qgu(lf:Nat)(x1:(List qan))(K3:(Int × (List qaa))->Option Rtz2)(K6:(Int × Int × (List qaa))->Option Rtz2):Nat->(Bool × Int × Int × ByteArray × Int × (List qaa) × Int)->Option Rtz2:=qa9 fun K p=>qlp lf x1 K K3 p
theorem q44(g:gz2)(lf:Nat)(x1:(List qan))(m1:Nat)(m2:Nat):∀(n:Nat) (p:Bool × Int × Int × ByteArray × Int × (List qaa) × Int),Az2 g lf 11 [m1,m2,n] (qhl x1 p)=qgu lf x1 (fun q=>Az2 g lf 3 [m1] (qc9 x1 q)) (fun q=>Az2 g lf 6 [m1,m2] (qeh x1 q)) n p
 | 0,p=>qb5 11 [m1,m2,0] rfl _
 | n+1,p=>by
  have ih:=q44 g lf x1 m1 m2 n;refine(qb3 (qbh 20 _) ndz2 okz2 11 [m1,m2,n+1] [m1,m2,n] rfl _).trans ((zbs g (Az2 g lf) lf x1 m1 m2 n p).trans ?_);rw[(show (fun q=>Az2 g lf 11 [m1,m2,n] (qhl x1 q))=(fun q=>qgu lf x1 (fun q=>Az2 g lf 3 [m1] (qc9 x1 q)) (fun q=>Az2 g lf 6 [m1,m2] (qeh x1 q)) n q) from funext ih)];rfl
def qfd(lf:Nat)(x1:(List qan))(K3:(Int × (List qaa))->Option Rtz2):Nat->(Int × Int × (List qaa))->Option Rtz2:=qa9 fun K p=>qnh lf x1 K (fun q=>qgu lf x1 K3 K lf q) K3 p
theorem qzh(g:gz2)(lf:Nat)(x1:(List qan))(m1:Nat):∀(n:Nat) (p:Int × Int × (List qaa)),Az2 g lf 6 [m1,n] (qeh x1 p)=qfd lf x1 (fun q=>Az2 g lf 3 [m1] (qc9 x1 q)) n p
 | 0,p=>qb5 6 [m1,0] rfl _
 | n+1,p=>by
  have ih:=qzh g lf x1 m1 n;refine(qb3 (qbh 20 _) ndz2 okz2 6 [m1,n+1] [m1,n] rfl _).trans ((zgq g (Az2 g lf) lf x1 m1 n p).trans ?_);rw[(show (fun q=>Az2 g lf 11 [m1,n,lf] (qhl x1 q))=(fun q=>qgu lf x1 (fun q=>Az2 g lf 3 [m1] (qc9 x1 q)) (fun q=>Az2 g lf 6 [m1,n] (qeh x1 q)) lf q) from funext fun q=>q44 g lf x1 m1 n lf q),(show (fun q=>Az2 g lf 6 [m1,n] (qeh x1 q))=(fun q=>qfd lf x1 (fun q=>Az2 g lf 3 [m1] (qc9 x1 q)) n q) from funext ih)];rfl
def qgv(lf:Nat)(x1:(List qan)):Nat->(Int × (List qaa))->Option Rtz2:=qa9 fun K p=>qnq lf x1 (fun q=>qfd lf x1 K lf q) p
theorem q40(g:gz2)(lf:Nat)(x1:(List qan)):∀(n:Nat) (p:Int × (List qaa)),Az2 g lf 3 [n] (qc9 x1 p)=qgv lf x1 n p
 | 0,p=>qb5 3 [0] rfl _
 | n+1,p=>by
  have ih:=q40 g lf x1 n;refine(qb3 (qbh 20 _) ndz2 okz2 3 [n+1] [n] rfl _).trans ((zci g (Az2 g lf) lf x1 n p).trans ?_);rw[(show (fun q=>Az2 g lf 6 [n,lf] (qeh x1 q))=(fun q=>qfd lf x1 (fun q=>Az2 g lf 3 [n] (qc9 x1 q)) lf q) from funext fun q=>qzh g lf x1 n lf q),(show (fun q=>Az2 g lf 3 [n] (qc9 x1 q))=(fun q=>qgv lf x1 n q) from funext ih)];rfl
def Fz2(lf:Nat)(x1:(List qan)):Option Rtz2:=qt4 lf x1 (fun q=>qgv lf x1 lf q)
theorem zcp(g:gz2)(lf:Nat)(x1:(List qan)):Ez2 g (Az2 g lf) lf x1=Fz2 lf x1:=by
  refine(inz2 g (Az2 g lf) lf x1).trans ?_;rw[(show (fun q=>Az2 g lf 3 [lf] (qc9 x1 q))=(fun q=>qgv lf x1 lf q) from funext fun q=>q40 g lf x1 lf q)];rfl
theorem zhs:qbg Try.prog qzy:=trivial
theorem mkz2{g:gz2}(hsm:SmOK Try.prog q4o)(hg:∀(x:ElA [(.list cCosignerlaw23Change)]) (y:Rtz2),WfA [(.list cCosignerlaw23Change)] x->g x=some y->∃lf,Fz2 lf x.1=some y):Con Try.prog 13 ⟨[(.list cCosignerlaw23Change)],[(true,qad)],g⟩ :=
 conV (st:=stz2) (fun lf x=>Fz2 lf x.1) cm3 zd4 zhs ndz2 okz2 (fun lf x=>zcp g lf x.1) hsm hg
def nmz3:Nat->Option Nm:=fun k=>cond (Nat.beq k 3) (some ⟨[1,4,6,7,8],[],[],[],[],0,0,false⟩) (none)
def stz3:Nat->Bool:=fun k=>cond (Nat.beq k 3) true (false)
def hdz3:=stz3
abbrev Rtz3:Type:=qac × Bool × Unit
def q4z:List (Nat × Sm):=[(19,q05),(13,spz2),(17,quc)]
def q0w:List (Nat × Hx):=[]
def clz3(R:Type)(lf:Nat):ClK R:=qa8 Try.prog ttT.get ftT.get (nm1 7 nmz3) (smL q4z) (hxL q0w) lf 20 R
abbrev idz3:Nat:=7
def qg3(x1:Int)(x2:(List (List qan)))(p:Bool × (List DPut) × (List ByteArray) × Int × (List qaa) × Int × Int):NRes:=(NRes.mk (.node none (.node (some (IV.lst (TC.list cCosignerlaw23Change) x2)) (.node none (.node (some (IV.bool p.1)) .leaf .leaf) .leaf) .leaf) (.node none (.node (some (IV.ptr 0 0)) (.node (some (IV.int .i64 p.2.2.2.2.2.2)) .leaf .leaf) .leaf) (.node (some (IV.ptr 1 0)) .leaf .leaf))) (IS.mk (.node (some (IObj.row (List.cons IV.nilsl (List.cons IV.nilsl (List.cons (IV.int .i64 (Int.ofNat 0)) (List.cons (IV.int .i64 (Int.ofNat 0)) [IV.nilsl])))))) (.node (some (IObj.row (List.cons (IV.lst TC.str p.2.2.1) (List.cons (IV.lst cPut p.2.1) (List.cons (IV.int .i64 p.2.2.2.1) (List.cons (IV.int .i64 p.2.2.2.2.2.1) [(IV.lst qad p.2.2.2.2.1)])))))) .leaf .leaf) .leaf) 2) [] 0)
def qth(lf:Nat)(x1:Int)(x2:(List (List qan)))(L3:(Bool × (List DPut) × (List ByteArray) × Int × (List qaa) × Int × Int)->Option Rtz3):Option Rtz3:=(match (cond (S.evn (IntKind.i64.wrap (Int.add (Int.ofNat 8) (IntKind.i64.wrap (Int.mul (Int.ofNat 2) (IntKind.i64.wrap (Int.tmod x1 (Int.ofNat 17)))))))) (some ((S.madeN (IntKind.i64.wrap (Int.add (Int.ofNat 8) (IntKind.i64.wrap (Int.mul (Int.ofNat 2) (IntKind.i64.wrap (Int.tmod x1 (Int.ofNat 17)))))))),(true,()))) none) with|none=>none|some v0=>(L3 (v0.2.1,v0.1.1.2,v0.1.1.1,v0.1.2.1,v0.1.2.2.2,v0.1.2.2.1,(Int.ofNat 0))))
def qje(lf:Nat)(x1:Int)(x2:(List (List qan)))(L3:(Bool × (List DPut) × (List ByteArray) × Int × (List qaa) × Int × Int)->Option Rtz3)(p:Bool × (List DPut) × (List ByteArray) × Int × (List qaa) × Int × Int):Option Rtz3:=(cond (iltI p.2.2.2.2.2.2 (Int.ofNat x2.length)) (cond p.1 (match (jget x2 p.2.2.2.2.2.2) with|none=>none|some v0=>(cond (ieqI (Int.ofNat (List.length (S.cells v0))) (Int.ofNat 0)) (L3 (p.1,p.2.1,p.2.2.1,p.2.2.2.1,p.2.2.2.2.1,p.2.2.2.2.2.1,(IntKind.i64.wrap (Int.add p.2.2.2.2.2.2 (Int.ofNat 1))))) (match (S.saveO ((p.2.2.1,p.2.1),(p.2.2.2.1,(p.2.2.2.2.2.1,p.2.2.2.2.1))) (S.cells v0)) with|none=>none|some v24=>(cond (ieqI v24.2.1 (Int.ofNat 0)) (cond (ieqI v24.2.1 (Int.ofNat 0)) (L3 (true,v24.1.1.2,v24.1.1.1,v24.1.2.1,v24.1.2.2.2,v24.1.2.2.1,(IntKind.i64.wrap (Int.add p.2.2.2.2.2.2 (Int.ofNat 1))))) (L3 ((ieqI v24.2.1 (Int.ofNat 14)),v24.1.1.2,v24.1.1.1,v24.1.2.1,v24.1.2.2.2,v24.1.2.2.1,(IntKind.i64.wrap (Int.add p.2.2.2.2.2.2 (Int.ofNat 1)))))) (cond (ieqI v24.2.1 (Int.ofNat 0)) (L3 (true,p.2.1,p.2.2.1,p.2.2.2.1,p.2.2.2.2.1,p.2.2.2.2.2.1,(IntKind.i64.wrap (Int.add p.2.2.2.2.2.2 (Int.ofNat 1))))) (L3 ((ieqI v24.2.1 (Int.ofNat 14)),p.2.1,p.2.2.1,p.2.2.2.1,p.2.2.2.2.1,p.2.2.2.2.2.1,(IntKind.i64.wrap (Int.add p.2.2.2.2.2.2 (Int.ofNat 1)))))))))) (some (((p.2.2.1,p.2.1),(p.2.2.2.1,(p.2.2.2.2.2.1,p.2.2.2.2.1))),(p.1,())))) (some (((p.2.2.1,p.2.1),(p.2.2.2.1,(p.2.2.2.2.2.1,p.2.2.2.2.1))),(p.1,()))))
abbrev gz3:Type:=ElA [(.int .u8),(.list (.list cCosignerlaw23Change))]->Option Rtz3
abbrev sz3(g:gz3):Sm:=⟨[(.int .u8),(.list (.list cCosignerlaw23Change))],[(false,qag),(false,.bool)],g⟩
abbrev Ez3(g:gz3)(J:JT Rtz3)(lf:Nat)(x1:Int)(x2:(List (List qan))):=qb6 Try.prog ttT.get nmz3 fi7.nt (clz3 _ lf) lf stz3 J fi7.body [] (qaz (argV [(.int .u8),(.list (.list cCosignerlaw23Change))] (x1,x2,())) 0 .leaf) S0 [] (qa2 ttT.get fi7 (sz3 g))
abbrev Bz3(g:gz3)(J:JT Rtz3)(lf k:Nat)(ms:List Nat)(q:NRes):=qct Try.prog ttT.get nmz3 fi7.nt (clz3 _ lf) lf stz3 J k fi7.body [] ms q (qa2 ttT.get fi7 (sz3 g))
theorem inz3(g:gz3)(J:JT Rtz3)(lf:Nat)(x1:Int)(x2:(List (List qan))):Ez3 g J lf x1 x2=qth lf x1 x2 (fun q=>J 3 [lf] (qg3 x1 x2 q)):=by kernel_rfl
theorem zbz(g:gz3)(J:JT Rtz3)(lf:Nat)(x1:Int)(x2:(List (List qan)))(m1:Nat)(p:Bool × (List DPut) × (List ByteArray) × Int × (List qaa) × Int × Int):Bz3 g J lf 3 [m1] (qg3 x1 x2 p)=qje lf x1 x2 (fun q=>J 3 [m1] (qg3 x1 x2 q)) p:=by kernel_rfl
theorem ndz3:(regs fi7.body).Nodup:=by decide +kernel
theorem okz3:okC nmz3 stz3 hdz3 fi7.body none=true:=by kernel_rfl
def Az3(g:gz3)(lf:Nat):JT Rtz3:=atN Try.prog ttT.get nmz3 fi7 (sz3 g) (clz3 _ lf) lf hdz3
def qlo(lf:Nat)(x1:Int)(x2:(List (List qan))):Nat->(Bool × (List DPut) × (List ByteArray) × Int × (List qaa) × Int × Int)->Option Rtz3:=qa9 fun K p=>qje lf x1 x2 K p
theorem q1b(g:gz3)(lf:Nat)(x1:Int)(x2:(List (List qan))):∀(n:Nat) (p:Bool × (List DPut) × (List ByteArray) × Int × (List qaa) × Int × Int),Az3 g lf 3 [n] (qg3 x1 x2 p)=qlo lf x1 x2 n p
 | 0,p=>qb5 3 [0] rfl _
 | n+1,p=>by
  have ih:=q1b g lf x1 x2 n;refine(qb3 (qbh 20 _) ndz3 okz3 3 [n+1] [n] rfl _).trans ((zbz g (Az3 g lf) lf x1 x2 n p).trans ?_);rw[(show (fun q=>Az3 g lf 3 [n] (qg3 x1 x2 q))=(fun q=>qlo lf x1 x2 n q) from funext ih)];rfl
def Fz3(lf:Nat)(x1:Int)(x2:(List (List qan))):Option Rtz3:=qth lf x1 x2 (fun q=>qlo lf x1 x2 lf q)
theorem zco(g:gz3)(lf:Nat)(x1:Int)(x2:(List (List qan))):Ez3 g (Az3 g lf) lf x1 x2=Fz3 lf x1 x2:=by
  refine(inz3 g (Az3 g lf) lf x1 x2).trans ?_;rw[(show (fun q=>Az3 g lf 3 [lf] (qg3 x1 x2 q))=(fun q=>qlo lf x1 x2 lf q) from funext fun q=>q1b g lf x1 x2 lf q)];rfl
theorem q7y:qbg Try.prog q0w:=trivial
theorem mkz3{g:gz3}(hsm:SmOK Try.prog q4z)(hg:∀(x:ElA [(.int .u8),(.list (.list cCosignerlaw23Change))]) (y:Rtz3),WfA [(.int .u8),(.list (.list cCosignerlaw23Change))] x->g x=some y->∃lf,Fz3 lf x.1 x.2.1=some y):Con Try.prog 7 ⟨[(.int .u8),(.list (.list cCosignerlaw23Change))],[(false,qag),(false,.bool)],g⟩ :=
 conV (st:=stz3) (fun lf x=>Fz3 lf x.1 x.2.1) cm3 cal7 q7y ndz3 okz3 (fun lf x=>zco g lf x.1 x.2.1) hsm hg
end Go.Proofs.Ytnhmanoiolfapaa
end

section
namespace Go.Jx
open Go Go.Sx Go.RowKit
universe u

def updP:(l:List PK)->ElP l->ElP (refs l)->ElP l
 | [],_,_=>()
 | .dat _::l,x,z=>(x.1,updP l x.2 z)
 | .fn _::l,x,z=>updP l x z
 | .ref _::l,x,z=>(z.1,updP l x.2 z.2)
theorem qow:∀(l:List PK) (ι:Nat->Nat) (n:Nat) (x:ElP l) (z:ElP (refs l)),qar l ι n (updP l x z)=qar (refs l) ι n z
 | [],_,_,_,_=>rfl
 | .dat _::l,ι,n,x,z=>qow l ι n x.2 z
 | .fn _::l,ι,n,x,z=>qow l ι n x z
 | .ref r::l,ι,n,x,z=>by
  show objK r ι n z.1::qar l ι (n+nK r) (updP l x.2 z.2)=_;rw[qow l];rfl
theorem qlc:∀(l:List PK) (x:ElP l) (z:ElP (refs l)),qbv l (updP l x z)=qbv (refs l) z
 | [],_,_=>rfl
 | .dat _::l,x,z=>qlc l x.2 z
 | .fn _::l,x,z=>qlc l x z
 | .ref r::l,x,z=>by
  show subK r z.1++qbv l (updP l x.2 z.2)=_;rw[qlc l];rfl
theorem qpu:∀(l:List PK) (ρ:Nat->Nat) (k:Nat) (x:ElP l) (z:ElP (refs l)),qaq l ρ k (updP l x z)=qaq l ρ k x
 | [],_,_,_,_=>rfl
 | .dat c::l,ρ,k,x,z=>jaw (fun q=>asIV c x.1::q) (qpu l ρ k x.2 z)
 | .fn f::l,ρ,k,x,z=>jaw (fun q=>IV.fn f []::q) (qpu l ρ k x z)
 | .ref r::l,ρ,k,x,z=>jaw (fun q=>argK r (ρ k)::q) (qpu l ρ (k+1) x.2 z.2)
def sQ(l:List PK):SmR:=⟨l,[],fun _=>none⟩
theorem q13(l:List PK)(x:ElP l)(z:ElP (refs l)):ScB (sQ l) () z=Sc l (updP l x z):=by
 unfold ScB Sc newO;rw[qow,qlc];show addO (qar (refs l) idN (mP l) z++(qbv (refs l) z++[])) S0=_;rw[jbo]
structure Held (T:TW) (E:Env) (S:IS) (l:List PK) (x:ElP l) (rows subs:List Nat):Prop where
 l1:rows.length=mP l
 l2:subs.length=nP l
 nd:(rows++subs).Nodup
 w:∀id∈rows++subs,T.w id
 A:∀id∈subs,E.A id
 at_:∀ι,Nums ι (mP l) subs->qoh E rows (qar l ι (mP l) x)
 row:∀id∈rows,∃cs,S.H id=some (.row cs)
 sub:∀j:Nat,(qbv l x)[j]?=(subs[j]?).bind fun id=>S.heap.get id
section
variable {T : TW} {E : Env} {S : IS} {l : List PK} {x : ElP l} {rows subs : List Nat}
theorem Held.num(h:Held T E S l x rows subs):Nums (ol 0 (rows++subs)) 0 rows/\Nums (ol 0 (rows++subs)) (mP l) subs:=by
 have hnq:Nums (ol 0 (rows++subs)) 0 (rows++subs):=fun j id hj=>by
  rw[jbk];unfold ol;rw[jan (by omega),jda,jai,hj];rfl
 refine⟨hnq.fst,?_⟩;have:=hnq.snd
 rwa [jbk,h.l1] at this
theorem Held.len(h:Held T E S l x rows subs):(rows++subs).length=mP l+nP l:=by rw[jag,h.l1,h.l2]
theorem Held.rk(h:Held T E S l x rows subs){k:Nat}(hk:k<mP l):rows[k]?=some (ol 0 (rows++subs) k):=by
 have h1:k<rows.length:=by rw[h.l1];exact hk
 rw[jac h1,<- h.num.1 k _ (jac h1),jbk]
theorem Held.sk(h:Held T E S l x rows subs){k:Nat}(h1:mP l<=k)(h2:k<(rows++subs).length):subs[k-mP l]?=some (ol 0 (rows++subs) k):=by
 have h3:k-mP l<subs.length:=by rw[h.len] at h2;rw[h.l2];omega
 rw[jac h3,<- h.num.2 _ _ (jac h3),Nat.add_sub_cancel' h1]
theorem Held.rowA(h:Held T E S l x rows subs){k:Nat}(hk:k<mP l):∃r nj xj,(∀ι,(qar l ι (mP l) x)[k]?=some (objK r ι nj xj))/\mP l<=nj/\nj+nK r<=(rows++subs).length/\E.A (ol 0 (rows++subs) k)/\((objK r (ol 0 (rows++subs)) nj xj).blk=true->E.hb (ol 0 (rows++subs) k)=true)/\OR E (ol 0 (rows++subs) k) (objK r (ol 0 (rows++subs)) nj xj):=by
 have h1:k<(qar l (ol 0 (rows++subs)) (mP l) x).length:=by rw[qa0];exact hk
 obtain⟨r,nj,xj,d1,d2,d3,d4⟩:=qff l (ol 0 (rows++subs)) (mP l) x k _ (jac h1);obtain⟨id,i1,i2,i3,i4⟩:=h.at_ _ h.num.2 k _ (d4 (ol 0 (rows++subs)));rw[h.rk hk] at i1;cases i1;exact⟨r,nj,xj,d4,d2,by rw[h.len];omega,i2,i3,i4⟩
theorem Held.allA(h:Held T E S l x rows subs):∀id∈rows++subs,E.A id:=fun id hid=>by
 rcases jbq.1 hid with hid|hid
 ·obtain⟨k,hk,rfl⟩:=jco.1 hid;obtain⟨_,_,_,_,_,_,i2,_,_⟩:=h.rowA (k:=k) (by rw[<- h.l1];exact hk);have:=h.rk (k:=k) (by rw[<- h.l1];exact hk);rw[jac hk,jbd] at this;rw[this];exact i2
 ·exact h.A id hid
theorem Held.numTo(E:Env)(q:List Nat){k:Nat}(hk:k<q.length):qcf E (renE 0 q E) (ol 0 q k) k:=fun hA=>⟨⟨by omega,hA⟩,rfl,rfl,rfl,rfl⟩
theorem Held.obj(h:Held T E S l x rows subs)(p:Pre T E S){k:Nat}{o:IObj}(hk:k<(rows++subs).length)(hAk:E.A (ol 0 (rows++subs) k))(ho:(Sc l x).H k=some o):ObjTo E S (renE 0 (rows++subs) E) (ol 0 (rows++subs) k) k o:=by
 unfold Sc at ho;rw[qgg] at ho;have hnum:∀j,j<(rows++subs).length->qcf E (renE 0 (rows++subs) E) (ol 0 (rows++subs) j) j:=fun j hj=>Held.numTo E _ hj;by_cases hkm:k<mP l
 ·rw[jas (by rw[qa0];exact hkm)] at ho;obtain⟨r,nj,xj,d1,d2,d3,d4,d5,d6⟩:=h.rowA hkm;rw[d1 idN] at ho;cases ho;obtain⟨cs,hcs⟩:=h.row _ (jbu (h.rk hkm));exact⟨OR.objK_to (E:=E) (E':=renE 0 (rows++subs) E) (fun _ h=>h) rfl hAk (hnum k hk) (fun j a b=>hnum j (by omega)) d6,fun _=>⟨_,hcs,rfl⟩,fun hb=>d5 (qit.trans hb)⟩
 ·rw[jax (by rw[qa0];omega),qa0] at ho;have hd:=qrf _ _ _ (jbu ho);rw[h.sub,h.sk (by omega) hk] at ho;have hid:=(qbw hk).1;exact⟨OR.dat_to (E:=E) (E':=renE 0 (rows++subs) E) (fun _ h=>h) rfl hAk (hnum k hk) hd (p.st.objs _ (T.sub _ (h.w _ hid)) hAk _ ho),fun hl=>⟨_,ho,hl⟩,fun hbk=>p.st.blk _ (T.sub _ (h.w _ hid)) hAk _ ho hbk⟩
theorem Held.pre(h:Held T E S l x rows subs)(p:Pre T E S):Pre T0 (renE 0 (rows++subs) E) (Sc l x) :=
 Pre.re p h.nd (fun id hi=>T.sub _ (h.w id hi)) (by rw[qhp,h.len]) fun k o hk hAk ho=>h.obj p hk hAk ho
theorem Held.back{s:SmR}{x:ElP s.ps}{y:ElR s.rts}{z:ElP (refs s.ps)}{Er:Env}(h:Held T E S s.ps x rows subs)(p:Pre T E S)(k2:PostB (mP s.ps) T0 (renE 0 (rows++subs) E) (Sc s.ps x) Er (ScB s y z)) :
  Post T E S (mrgR E Er S.next (mP s.ps)) (qbs s S.next rows subs y z S)/\Fresh E S (mrgR E Er S.next (mP s.ps)):=by
 have hA:=h.allA;have hlt:∀id,id∈rows++subs->id<S.next:=fun id hi=>p.bnd id (hA id hi)
 have hsb:∀k,k<(rows++subs).length->Live (renE 0 (rows++subs) E) (Sc s.ps x).H k->Live E S.H (ol 0 (rows++subs) k):=fun k hk ⟨h0,o,h1,h2⟩=>⟨h0,(h.obj p hk (hA _ (qbw hk).1) h1).live h2⟩;have hbn:(setL rows (qar (refs s.ps) (fun k=>S.next+(k-mP s.ps)) (mP s.ps) z) (qd2 subs S)).next=S.next:=by rw[qlm,qo4]
 have hndr:rows.Nodup:=(jcv.1 h.nd).1;have hrs:∀id,id∈rows->id ∉ subs:=fun id h1 h2=>(jcv.1 h.nd).2.2 id h1 id h2 rfl;have hScB:∀k,(ScB s y z).H k=(qar (refs s.ps) idN (mP s.ps) z++newO s y z)[k]?:=fun k=>qgg _ k;have hql:=h.len;have l1:=h.l1;have hrk:=fun k (hk:k<mP s.ps)=>h.rk hk;have hsk:=fun k (h1:mP s.ps<=k) (h2:k<(rows++subs).length)=>h.sk h1 h2;have hrowA:=fun k (hk:k<mP s.ps)=>h.rowA hk;have hnd:=h.nd;have hT:=h.w;have hinr:∀id,id∈rows->id∈rows++subs:=fun id h=>jb0 _ h;have hins:∀id,id∈subs->id∈rows++subs:=fun id h=>jb8 _ h;generalize hq:rows++subs=q at *;have hEA:∀k,k<mP s.ps->Er.A k/\Er.ρ k=E.ρ (ol 0 q k)/\Er.κ k=E.κ (ol 0 q k)/\Er.hd k=E.hd (ol 0 q k)/\Er.hb k=E.hb (ol 0 q k):=fun k hk=>by
  obtain⟨a1,a2,a3,a4,a5⟩:=k2.alw k hk ⟨by omega,hA _ (qbw (by omega)).1⟩;exact⟨a1,a2,a3,a4,a5⟩
 exact q1y (n:=S.next) (m:=mP s.ps) (S':=qbs s S.next rows subs y z S) p hnd hT hA (by omega) rfl hsb k2 (by
   unfold qbs ScB;rw[qcm,qcm,hbn,jag,qa0,qbp];have:S0.next=0:=rfl
   omega) (fun id hid hnq=>by
   unfold qbs;rw[qb8,hbn,jam hid,qf8 (fun h=>hnq (hinr _ h)),qke (fun h=>hnq (hins _ h))]) (fun k o hk ho=>by
   unfold qbs at ho;have hin:=(qbw (q:=q) (k:=k) (by omega)).1;rw[qb8,hbn,jam (hlt _ hin),quq hndr (by rw[qa0,qbp,l1]) (hrk k hk)] at ho;obtain⟨r,nj,xj,rfl,d2,d3,d4⟩:=qff _ _ _ _ _ _ ho;have hsr:(ScB s y z).H k=some (objK r idN nj xj):=by
    rw[hScB,jas (by rw[qa0,qbp];exact hk)];exact d4 idN
   obtain⟨a1,a2,a3,a4,a5⟩:=hEA k hk;obtain⟨o1,o2,o3,o4⟩:=qdg (E:=E) (Er:=Er) (n:=S.next) (m:=mP s.ps) (hlt _ hin);obtain⟨_,_,_,_,_,_,i2,_⟩:=hrowA k hk;exact⟨OR.objK_to (E:=Er) (E':=mrgR E Er S.next (mP s.ps)) (fun _ h=>h) rfl a1 (fun _=>⟨.inl ⟨hlt _ hin,i2⟩,o1.trans a2.symm,o2.trans a3.symm,o3.trans a4.symm,o4.trans a5.symm⟩) (fun j a b hAj=>by
    obtain⟨r1,r2,r3,r4,r5⟩:=qh0 (E:=E) (Er:=Er) (n:=S.next) (m:=mP s.ps) (k:=j) (by omega);exact⟨r5 hAj,r1,r2,r3,r4⟩) (k2.st.objs k trivial a1 _ hsr),fun hl=>⟨_,hsr,qn4.trans hl⟩,fun hb=>(o4.trans a5.symm).trans (k2.st.blk k trivial a1 _ hsr (qit.trans hb))⟩) (fun k o h1 h2 ho=>by
   unfold qbs at ho;have hin:=(qbw (q:=q) (k:=k) h2).1;have hin2:=jbu (hsk k h1 h2);rw[qb8,hbn,jam (hlt _ hin),qf8 (fun h=>hrs _ h hin2),qtl hin2] at ho;cases ho;rfl) (fun k o h1 hAk ho=>by
   unfold qbs at ho;have hkb:=k2.bnd k hAk;unfold ScB at hkb;rw[qcm,jag,qa0,qbp] at hkb;have e0:S0.next=0:=rfl
   rw[qb8,hbn,jan (by omega),jam (by omega),ja1] at ho;have hd:=qrr (jbu ho);have hsr:(ScB s y z).H k=some o:=by
    rw[hScB,jax (by rw[qa0,qbp];exact h1),qa0,qbp];exact ho
   obtain⟨r1,r2,r3,r4,r5⟩:=qh0 (E:=E) (Er:=Er) (n:=S.next) (m:=mP s.ps) (k:=k) h1;exact⟨OR.dat_to (E:=Er) (E':=mrgR E Er S.next (mP s.ps)) (fun _ h=>h) rfl hAk (fun hA=>⟨r5 hA,r1,r2,r3,r4⟩) hd (k2.st.objs k trivial hAk _ hsr),fun hl=>⟨_,hsr,hl⟩,fun hbk=>r4.trans (k2.st.blk k trivial hAk _ hsr hbk)⟩)
end
end Go.Jx
end

section
namespace Go.Jx
open Go Go.Sx Go.RowKit
universe u

structure Beside (b:Nat) (w w':World):Prop where
 os:w'.os=w.os
 tape:w'.tape=w.tape
 output:w'.output=w.output
 size:w'.heap.size=w.heap.size
 same:∀x,x≠b->w'.heap[x]?=w.heap[x]?
theorem Beside.put(w:World)(b:Nat)(o:Obj):Beside b w (w.putObj b o):=⟨rfl,rfl,rfl,by simp,fun x hx=>jb6 hx⟩
theorem Beside.symm{b:Nat}{w w':World}(h:Beside b w w'):Beside b w' w:=⟨h.os.symm,h.tape.symm,h.output.symm,h.size.symm,fun x hx=>(h.same x hx).symm⟩
theorem Beside.upd{b:Nat}{w w':World}(h:Beside b w w'):Upd [b] w w':=⟨h.os,h.tape,h.output,by rw[h.size];exact jaq _,fun x _ hx=>h.same x (by simpa using hx)⟩
def qcr(E:Env)(S:IS)(b:Nat):Prop:=b∈E.m/\∀id,E.A id->Live E S.H id->E.ρ id≠b
section
variable {E E' : Env} {S S' : IS} {b : Nat} {w w' : World}
theorem Pre.beside(p:Pre T0 E S)(hb:qcr E S b)(h:Beside b E.w w):E.Le (E.at_ w)/\Pre T0 (E.at_ w) S/\qcr (E.at_ w) S b:=by
 have hle:E.Le (E.at_ w):=⟨fun _ h=>⟨h,rfl,rfl,rfl,rfl⟩,⟨fun x hx hm=>⟨hm,h.same x fun e=>hm (e▸hb.1)⟩⟩⟩
 refine⟨hle,⟨⟨fun id ht ha o ho=>(p.st.objs id ht ha o ho).mono hle ha (p.st.blk id ht ha o ho) fun hl hhb=>h.same _ (hb.2 id ha ⟨hhb,o,ho,hl⟩),fun id ht ha o ho hbk=>p.st.blk id ht ha o ho hbk,fun id ht ha hl=>p.st.own id ht ha hl,
  fun i j a b' c d e f g=>p.st.inj i j a b' c d e f g,fun x hx=>?_⟩,p.bnd,p.nw,p.gl.mono hle.tr⟩,hb⟩
 show x<w.heap.size;rw[h.size];exact p.st.lo x hx
theorem PostB.apart{B:Nat}(k:PostB B T0 E S E' S')(p:Pre T0 E S)(hb:qcr E S b):qcr E' S' b:=by
 have hlt:=p.st.lo b hb.1;refine⟨?_,fun id ha hl e=>?_⟩
 ·rcases k.mem b hb.1 hlt with h|⟨id,_,h1,h2,h3⟩
  ·exact h
  ·exact absurd h3 (hb.2 id h1 h2)
 ·rcases jbw id B with h|h
  ·have hA:=k.fr id h ha;exact hb.2 id hA (k.old id h trivial hA hl) ((k.alw id h hA).2.1.symm.trans e)
  ·rcases k.new id h ha hl with h1|⟨j,_,j1,j2,j3⟩
   ·omega
   ·exact hb.2 j j1 j2 (j3.symm.trans e)
theorem PostB.at_same{B:Nat}(k:PostB B T0 E S E' S')(p:Pre T0 E S)(hb:qcr E S b):E'.w.heap[b]?=E.w.heap[b]?:=k.same b (p.st.lo b hb.1) fun id _ ha hl=>hb.2 id ha hl
theorem PostB.beside{B:Nat}(k:PostB B T0 E S E' S')(p:Pre T0 E S)(hb:qcr E S b)(h1:Beside b E.w w)(h2:Beside b E'.w w')(h3:w'.heap[b]?=w.heap[b]?):PostB B T0 (E.at_ w) S (E'.at_ w') S':=by
 have p':Pre T0 E' S':=k.pre (fun _ _=>trivial) p;obtain⟨_,p2,_⟩:=p'.beside (k.apart p hb) h2;have es:(E.at_ w).w.heap.size=E.w.heap.size:=h1.size;refine⟨p2.st,h2.os.trans (k.os.trans h1.os.symm),h2.tape.trans (k.tape.trans h1.tape.symm),h2.output.trans (k.output.trans h1.output.symm),?_,fun x hx hn=>?_,k.alw,fun id hB ha hl=>?_,k.old,fun x hx=>?_,fun x hx hlt=>k.mem x hx (by rw[es] at hlt;exact hlt),k.bnd,k.le,k.fr⟩
 ·show w.heap.size<=w'.heap.size;rw[h1.size,h2.size];exact k.size
 ·show w'.heap[x]?=w.heap[x]?;by_cases e:x=b
  ·rw[e];exact h3
  ·rw[h2.same x e,h1.same x e];exact k.same x (by rw[es] at hx;exact hx) hn
 ·rw[es];exact k.new id hB ha hl
 ·rw[es];exact k.memo x hx
end
end Go.Jx
end

section
namespace Go.Jx
open Go Go.Sx Go.RowKit
universe u

structure LpC where
 ls:List Nat
 lp:List PK
 nm:Nat->Option Nm
def putL:List Nat->List IV->PT IV->PT IV
 | t::ts,v::vs,fr=>putL ts vs (fr.set v t)
 | _,_,fr=>fr
theorem q35:∀{ls:List Nat} {vs:List IV} {us:List Value} {E:Env} {nt:Nat} {fr:PT IV} {tmps:Array Value},VRs E vs us->us=ls.map (fun t=>tmps.getD t undef)->FR E nt fr tmps->FR E nt (putL ls vs fr) tmps
 | [],vs,us,E,nt,fr,tmps,hv,hu,hf=>by simpa [putL] using hf
 | t::ls,[],us,E,nt,fr,tmps,hv,hu,hf=>by simpa [putL] using hf
 | t::ls,v::vs,us,E,nt,fr,tmps,hv,hu,hf=>by
  obtain⟨u,us,rfl,a1,a2⟩:=hv.inv;simp only[jdc,jdv] at hu;show FR E nt (putL ls vs (fr.set v t)) tmps;refine q35 a2 hu.2 ⟨hf.size,fun k hk=>?_⟩;rw[qd0];by_cases e:k=t
  ·subst e;rw[jam rfl,<- hu.1];exact a1
  ·rw[jan e];exact hf.get k hk
section
variable (P : Program) (tt : Nat -> Option TI)
def qew(cfg:LpC)(c:TC)(nt lf:Nat)(cl:Cl)(pr:Nat)(assign body:Code)(d:ElP cfg.lp)(z:ElP (refs cfg.lp))(x:El c):Option (ElP (refs cfg.lp) × Option Code) :=
 match qaj P tt cfg.nm (mP cfg.lp) nt cl lf none assign (qdl [pr] [asIV c x] (putL cfg.ls (qaq cfg.lp idN 0 d) .leaf)) (Sc cfg.lp (updP cfg.lp d z)) [] with
 | none=>none
 | some r1=>match r1.e with
  | .normal=>match r1.ds with
   | []=>match qaj P tt cfg.nm (mP cfg.lp) nt cl lf none body r1.fr r1.S [] with
    | none=>none
    | some r2=>match r2.ds with
     | []=>match runQ (sQ cfg.lp) ⟨.tup [],r2.S,0,0⟩ with
      | none=>none
      | some y=>some (y.2,qdc r2.e)
     | _=>none
   | _=>none
  | _=>none
end
def foldB{D α:Type}(g:D->α->Option (D × Option Code)):List α->D->Option (D × Option Code)
 | [],d=>some (d,none)
 | x::xs,d=>match g d x with
  | none=>none
  | some (d',none)=>foldB g xs d'
  | some (d',some e)=>some (d',some e)
section
variable {P : Program} {tt : Nat -> Option TI}
theorem zne{cfg:LpC}{c:TC}{nt lf:Nat}{cl:Cl}{pr:Nat}{assign body:Code}{d:ElP cfg.lp}{z z':ElP (refs cfg.lp)}{x:El c}{e:Option Code}(hm:P.follows .mixedOrders=true)(hcl:ClOK P cl)(hfr:ClFr cl)(htt:TT P tt)
  (h:qew P tt cfg c nt lf cl pr assign body d z x=some (z',e)) (hok:qa1 assign=true/\qa1 body=true) (hrf:qbq assign=false/\qbq body=false)
  {E:Env} {b:Nat} {rec:Loop} (p:Pre T0 E (Sc cfg.lp (updP cfg.lp d z))) (hb:qcr E (Sc cfg.lp (updP cfg.lp d z)) b) (hl:E.w.heap[b]?=some (.loop rec)) (hr:rec.state=.ready/\rec.pending=none/\rec.params=#[pr]/\rec.assign=assign/\rec.body=body/\rec.tmps.size=nt)
  (hargs:VRs E (qaq cfg.lp idN 0 d) (cfg.ls.map fun t=>rec.tmps.getD t undef)) {u:Value} (hu:VR E (asIV c x) u) :
  YieldAt Fence.wide 0 P b #[u] E.w fun en B=>∃E',PostB (mP cfg.lp) T0 E (Sc cfg.lp (updP cfg.lp d z)) E' (Sc cfg.lp (updP cfg.lp d z')) /\
   ((e=none/\en=.returned (.bool true)/\B=E'.w)\/∃cd,e=some cd/\en=.returned (.bool false)/\Upd [b] E'.w B/\B.heap[b]?=some (.loop { rec with state:=.done,pending:=some cd })):=by
 obtain⟨hr1,hr2,hr3,hr4,hr5,hr6⟩:=hr;unfold qew at h;split at h
 ·cases h
 rename_i r1 hrun1;split at h<;>try cases h
 rename_i he1;split at h<;>try cases h
 rename_i hds1;split at h
 ·cases h
 rename_i r2 hrun2;split at h<;>try cases h
 rename_i hds2;split at h
 ·cases h
 rename_i y hq;cases h;have hblt:b<E.w.heap.size:=qas hl;have hy:=run_yield (P:=P) (args:=#[u]) hl (by rw[hr3];rfl);refine⟨_,_,_,_,hy,roundIn_of_wpIn trivial ?_⟩;have hFp:(Fence.wide.inRound b).plain=Fence.wide:=rfl;have hfr0:FR E nt (PT.leaf) rec.tmps:=⟨hr6,fun t ht=>.unk _⟩;have hfr1:FR E nt (qdl [pr] [asIV c x] (putL cfg.ls (qaq cfg.lp idN 0 d) .leaf)) ((rec.params.zip #[u]).foldl (fun tmps (t,a)=>tmps.setIfInBounds t a) rec.tmps):=by
  have:=qsg (ps:=[pr]) (VRs.cons hu VRs.nil) (q35 hargs rfl hfr0);rw[hr3];simpa [List.zip] using this
 rw[hr4];refine qh7 (T:=T0) (E:=E) (a:={ tmps:=_,defers:=[] }) (S:=Sc cfg.lp (updP cfg.lp d z)) (ds:=[]) (round:=none) (B:=mP cfg.lp) (fun _ _=>trivial) hm hFp hcl hfr htt assign hok.1 p (by rw[qhp];omega) (fun _ _=>trivial) hfr1 (DS.nil (N:=0) (jb3 _)) (fun h=>by rw[hrf.1] at h;cases h) hrun1 (fun _ _=>trivial) (fun _ _=>trivial) ?_;intro E1 a1 k1 k2 kB;rw[he1];have hb1:=kB.apart p hb;have hl1:E1.w.heap[b]?=some (.loop rec):=(kB.at_same p hb).trans hl;have p1:Pre T0 E1 r1.S:=kB.pre (fun _ _=>trivial) p;have hbg:=run_beginRound (P:=P) hl1 hr1;refine⟨_,hbg,?_⟩;generalize hW:(E1.w.putObj b (.loop { rec with state:=.busy }))=W1;have hs1:Beside b E1.w W1:=by rw[<- hW];exact Beside.put _ _ _
 have hW1:W1.heap[b]?=some (.loop { rec with state:=.busy }):=by rw[<- hW];exact jbn (qas hl1)
 obtain⟨hle2,p2,hb2⟩:=p1.beside hb1 hs1;have hs0:Beside b E.w (E.w.putObj b (.loop { rec with state:=.busy })):=Beside.put _ _ _;obtain⟨hle0,p0,hb0⟩:=p.beside hb hs0;have hw0:(E.w.putObj b (.loop { rec with state:=.busy })).heap[b]?=some (.loop { rec with state:=.busy }):=jbn hblt;have kB2:=kB.beside p hb hs0 hs1 (by rw[hW1,hw0]);rw[hr5];show body.wpIn _ 0 P _ a1 (E1.at_ W1).w;rw[hds1] at k2;refine qh7 (T:=T0) (E:=E1.at_ W1) (a:=a1) (S:=r1.S) (ds:=[]) (round:=none) (B:=mP cfg.lp) (fun _ _=>trivial) hm hFp hcl hfr htt body hok.2 p2 kB.le (fun _ _=>trivial) (k1.mono hle2) (k2.mono hle2 (by show E1.w.heap.size<=W1.heap.size;rw[<- hW];simp)) (fun h=>by rw[hrf.2] at h;cases h) hrun2 (fun _ _=>trivial) (fun _ _=>trivial) ?_;intro E3 a3 m1 m2 mB;have hall:=kB2.trans mB;have hargs0:VRs (E.at_ (E.w.putObj b (.loop { rec with state:=.busy }))) (qaq (sQ cfg.lp).ps idN 0 (updP cfg.lp d z)) (cfg.ls.map fun t=>rec.tmps.getD t undef):=by
  show VRs _ (qaq cfg.lp idN 0 (updP cfg.lp d z)) _;rw[qpu];exact hargs.mono hle0
 obtain⟨E4,e4,_,q4⟩:=q2o (s:=sQ cfg.lp) (r:=⟨.tup [],r2.S,0,0⟩) (x:=updP cfg.lp d z) (y:=y.1) (z:=y.2) (u:=.tuple #[]) hq p0 hargs0 hall (.tup (us:=[]) rfl (fun i h=>by simp at h));have hb4:=q4.apart p0 hb0;have hl4:E4.w.heap[b]?=some (.loop { rec with state:=.busy }):=(q4.at_same p0 hb0).trans hw0;have hend:=fun j=>run_endRound (P:=P) j hl4;have hs4:Beside b E4.w (E4.w.putObj b (.loop rec)):=Beside.put _ _ _;have hback:=q4.beside p0 hb0 hs0.symm hs4 (by rw[jbn (qas hl4)];exact hl.symm);have hfin:PostB (mP cfg.lp) T0 E (Sc cfg.lp (updP cfg.lp d z)) (E4.at_ (E4.w.putObj b (.loop rec))) (Sc cfg.lp (updP cfg.lp d y.2)):=by
  have e1:ScB (sQ cfg.lp) y.1 y.2=Sc cfg.lp (updP cfg.lp d y.2):=q13 cfg.lp d y.2;rw[e1] at hback;exact hback
 rw[<- e4];have hrec:({ rec with state:=.ready,pending:=none }:Loop)=rec:=by
  cases rec;cases hr1;cases hr2;rfl
 have hstop:∀cd,∃v w',(Instr.endRound b (some cd)).run P E4.w=.ok v w'/\∃E',PostB (mP cfg.lp) T0 E (Sc cfg.lp (updP cfg.lp d z)) E' (Sc cfg.lp (updP cfg.lp d y.2)) /\
   ((some cd=none/\Ending.returned v=.returned (.bool true)/\w'=E'.w)\/∃cd',some cd=some cd'/\Ending.returned v=.returned (.bool false)/\Upd [b] E'.w w'/\w'.heap[b]?=some (.loop { rec with state:=.done,pending:=some cd' })):=fun cd=>by
  refine⟨_,_,hend (some cd),E4.at_ (E4.w.putObj b (.loop rec)),hfin,.inr ⟨cd,rfl,rfl,?_,?_⟩⟩
  ·exact hs4.symm.upd.trans ((Beside.put E4.w b _).upd)
  ·exact jbn (qas hl4)
 cases he:r2.e with
 | normal =>
  refine⟨_,_,hend none,E4.at_ (E4.w.putObj b (.loop rec)),hfin,.inl ⟨rfl,rfl,?_⟩⟩;show E4.w.putObj b (.loop { rec with state:=.ready,pending:=none })=E4.w.putObj b (.loop rec);rw[hrec]
 | ret =>
  obtain⟨v,w',g1,E',g2,g3⟩:=hstop .ret;refine⟨v,w',g1,E',g2,?_⟩;rcases g3 with ⟨g3,_⟩|⟨cd,g3,g4,g5,g6⟩
  ·cases g3
  ·exact .inr ⟨cd,g3,g4,g5,by rw[hr4,hr5] at g6;exact g6⟩
 | exit i =>
  obtain⟨v,w',g1,E',g2,g3⟩:=hstop (.exit i);refine⟨v,w',g1,E',g2,?_⟩;rcases g3 with ⟨g3,_⟩|⟨cd,g3,g4,g5,g6⟩
  ·cases g3
  ·exact .inr ⟨cd,g3,g4,g5,by rw[hr4,hr5] at g6;exact g6⟩
 | goto l =>
  obtain⟨v,w',g1,E',g2,g3⟩:=hstop (.goto l);refine⟨v,w',g1,E',g2,?_⟩;rcases g3 with ⟨g3,_⟩|⟨cd,g3,g4,g5,g6⟩
  ·cases g3
  ·exact .inr ⟨cd,g3,g4,g5,by rw[hr4,hr5] at g6;exact g6⟩
end
end Go.Jx
end

section
namespace Go.Jx
open Go Go.Sx Go.RowKit
universe u

def qd5(P:Program)(gf:Nat)(us:List Value)(Rd:World->Prop){α:Type}(V:α->Value->World->World->Prop)(xs:List α):Prop :=
 ∀(l:Nat) (J:List α->World->Prop) (K:World->Prop) (W:World),(∀s A B,J s A->Upd [] A B->J s B)->(∀A B,K A->Upd [] A B->K B)->(∀s A,J s A->Rd A) ->
  (∀pre x post A0 A u,xs=pre++x::post->J pre A0->Upd [] A0 A->V x u A0 A->YieldAt Fence.wide 0 P l #[u] A fun e B=>(∀b,A0.heap.size<=b->b<A.heap.size->B.heap[b]?=A.heap[b]?)/\((e=.returned (.bool true)/\J (pre++[x]) B)\/(e=.returned (.bool false)/\K B))) ->
  J [] W->CallsIn Fence.wide 0 P gf (#[.func (.yield l) #[] #[]]++us.toArray) W fun e B=>e=.returned (.tuple #[])/\(J xs B\/K B)
structure SmI where
 ips:List PK
 c:TC
 xs:ElP ips->Option (List (El c))
def qrc(E:Env)(s:SmI)(x:ElP s.ips)(us:List Value)(rows:List Nat):Prop :=
 (∀ρ k,Nums ρ k rows->VRs E (qaq s.ips ρ k x) us)/\qoh E rows (qar s.ips idN 0 x)
structure ConI (P:Program) (f:Nat) (s:SmI):Prop where
 callable:qah P f
 ns:nP s.ips=0
 it:∀(E:Env) (x:ElP s.ips) (us:List Value) (rows:List Nat) (l:List (El s.c)),s.xs x=some l->Gl E.m E.w->qrc E s x us rows ->
  qd5 P f us (fun W=>E.Le (E.at_ W)/\∀id∈rows,W.heap[E.ρ id]?=E.w.heap[E.ρ id]?) (fun x u A0 A=>∀E:Env,E.w=A->(∀b∈E.m,b<A0.heap.size)->VR E (asIV s.c x) u) l
def qc5:(l:List PK)->ElP l->ElP (refs l)
 | [],_=>()
 | .dat _::l,x=>qc5 l x.2
 | .fn _::l,x=>qc5 l x
 | .ref _::l,x=>(x.1,qc5 l x.2)
theorem qmn:∀(l:List PK) (x:ElP l),updP l x (qc5 l x)=x
 | [],_=>rfl
 | .dat c::l,x=>jaw (fun q=>(x.1,q)) (qmn l x.2)
 | .fn _::l,x=>qmn l x
 | .ref r::l,x=>jaw (fun q=>(x.1,q)) (qmn l x.2)
theorem qla{D α:Type}(g:D->α->Option (D × Option Code)):∀(pre post:List α) (z z':D),foldB g pre z=some (z',none)->foldB g (pre++post) z=foldB g post z'
 | [],post,z,z',h=>by cases h;rfl
 | x::pre,post,z,z',h=>by
  simp only[foldB,jc0] at h ⊢;cases hg:g z x with
  | none=>rw[hg] at h;cases h
  | some q =>
   obtain⟨z1,e⟩:=q;rw[hg] at h;cases e with
   | none=>exact qla g pre post z1 z' h
   | some e=>cases h
section
variable (P : Program) (tt : Nat -> Option TI)
def itB(S2:IS)(cfg:LpC)(id nt:Nat)(irows rows subs:List Nat)(w2:Nat)(assign body:Code):Bool :=
 ndB (id::(irows++(rows++subs)))&&(irows.all (rowB S2)&&(rows.all (rowB S2)&&(qa1 assign&&(qa1 body&&(!qbq assign&&(!qbq body&&(cfg.ls.all (fun t=>Nat.blt t nt)&&!w2.testBit id)))))))
end
section
variable {P : Program} {tt : Nat -> Option TI}
end
end Go.Jx
end

section
namespace Go.Jx
open Go Go.Sx Go.RowKit
universe u

section
variable {P : Program} {tt : Nat -> Option TI}
end
end Go.Jx
end

section
namespace Go.Jx
open Go Go.Sx Go.RowKit
universe u

section
variable (P : Program) (tt : Nat -> Option TI)
end
section
variable {P : Program} {tt : Nat -> Option TI}
def zdu:Nat->Option Nm:=fun k=>cond (Nat.beq k 999999) (some ⟨[],[],[],[],[],0,0,false⟩) none
end
end Go.Jx
end

section
namespace Go.Jx
open Go Go.Sx Go.RowKit
universe u

section
variable {P : Program} {tt : Nat -> Option TI} {ft : Nat -> Option FI}
end
end Go.Jx
end

noncomputable section
set_option maxRecDepth 100000
namespace Go.Proofs.Ytnhmanoiolfapaa
open Go Go.Sx Go.RowKit Go.Jx
abbrev qnv:Type:=Int × Unit
abbrev zd0:Nat:=29
def qwy(lf:Nat)(x1:qac):Option qnv:=(match (cond (S.inI (Int.ofNat x1.1.1.length) (Int.ofNat 0) (Int.ofNat 1000)) (some ((S.half (Int.toNat (Int.ofNat x1.1.1.length)) x1.2.1),())) none) with|none=>none|some v0=>(some ((IntKind.i64.wrap (Int.sub (IntKind.i64.wrap (Int.sub v0.1.2 v0.1.1)) x1.2.2.1)),())))
def qom(lf:Nat)(x1:qac):Option qnv:=qwy lf x1
theorem zd9{g:ElA [qag]->Option qnv}(hsm:SmOK Try.prog [(41,qkb)])(hg:∀(x:ElA [qag]) (y:qnv),WfA [qag] x->g x=some y->∃lf,qom lf x.1=some y):Con Try.prog 29 ⟨[qag],[(false,(.int .i64))],g⟩ :=
 conU (fi:=fi29) (hxl:=[]) (fun lf x=>qom lf x.1) cm3 zcy trivial hsm hg
def nmz4:Nat->Option Nm:=fun k=>cond (Nat.beq k 6) (some ⟨[0,12,13,14],[],[],[],[],0,0,false⟩) (none)
def stz4:Nat->Bool:=fun k=>cond (Nat.beq k 6) true (false)
def hdz4:=stz4
abbrev Rtz4:Type:=Int × Int × Unit
def q0n:List (Nat × Sm):=[(27,qib),(28,qk0)]
def qza:List (Nat × Hx):=[]
def clz4(R:Type)(lf:Nat):ClK R:=qa8 Try.prog ttT.get ftT.get (nm1 14 nmz4) (smL q0n) (hxL qza) lf 20 R
abbrev idz4:Nat:=14
def qig(x1:(List qaa))(p:Int):NRes:=(NRes.mk (.node (some (IV.lst qad x1)) (.node none .leaf (.node none .leaf (.node (some (IV.int .i64 (Int.ofNat x1.length))) .leaf .leaf))) (.node none (.node none .leaf (.node (some (IV.lst qad x1)) .leaf .leaf)) (.node none .leaf (.node (some (IV.int .i64 p)) .leaf .leaf)))) (IS.mk .leaf 0) [] 0)
def qrs(lf:Nat)(x1:(List qaa))(L6:Int->Option Rtz4):Option Rtz4:=(cond (iltI (Int.ofNat 60) (Int.ofNat x1.length)) (some ((Int.ofNat 0),((Int.ofNat 3),()))) (cond (ieqI (Int.ofNat x1.length) (Int.ofNat 0)) (some ((Int.ofNat 0),((Int.ofNat 1),()))) (L6 (Int.ofNat 0))))
def qj4(lf:Nat)(x1:(List qaa))(L6:Int->Option Rtz4)(p:Int):Option Rtz4:=(cond (iltI p (Int.ofNat x1.length)) (match (jget x1 p) with|none=>none|some v0=>(cond (Bool.not (S.inI v0.1 (Int.ofNat 0) (Int.ofNat 199))) (some ((Int.ofNat 0),((Int.ofNat 1),()))) (cond (iltI (Int.ofNat 4000) (Int.ofNat v0.2.1.size)) (some ((Int.ofNat 0),((Int.ofNat 1),()))) (cond v0.2.2 (cond (Bool.not (keqS v0.2.1 (S.lit []))) (some ((Int.ofNat 0),((Int.ofNat 1),()))) (cond (iltI (Int.ofNat 0) p) (match (jget x1 (IntKind.i64.wrap (Int.sub p (Int.ofNat 1)))) with|none=>none|some v1=>(cond (Bool.not (iltI v1.1 v0.1)) (some ((Int.ofNat 0),((Int.ofNat 1),()))) (L6 (IntKind.i64.wrap (Int.add p (Int.ofNat 1)))))) (L6 (IntKind.i64.wrap (Int.add p (Int.ofNat 1)))))) (cond (iltI (Int.ofNat 0) p) (match (jget x1 (IntKind.i64.wrap (Int.sub p (Int.ofNat 1)))) with|none=>none|some v25=>(cond (Bool.not (iltI v25.1 v0.1)) (some ((Int.ofNat 0),((Int.ofNat 1),()))) (L6 (IntKind.i64.wrap (Int.add p (Int.ofNat 1)))))) (L6 (IntKind.i64.wrap (Int.add p (Int.ofNat 1))))))))) (match (cond (S.pk x1) (some ((S.packed x1 (Int.ofNat 1)),())) none) with|none=>none|some v26=>(some ((Int.ofNat v26.1.length),((Int.ofNat 0),())))))
abbrev gz4:Type:=ElA [(.list qad)]->Option Rtz4
abbrev sz4(g:gz4):Sm:=⟨[(.list qad)],[(false,(.int .i64)),(false,(.int .i64))],g⟩
abbrev Ez4(g:gz4)(J:JT Rtz4)(lf:Nat)(x1:(List qaa)):=qb6 Try.prog ttT.get nmz4 fi14.nt (clz4 _ lf) lf stz4 J fi14.body [] (qaz (argV [(.list qad)] (x1,())) 0 .leaf) S0 [] (qa2 ttT.get fi14 (sz4 g))
abbrev Bz4(g:gz4)(J:JT Rtz4)(lf k:Nat)(ms:List Nat)(q:NRes):=qct Try.prog ttT.get nmz4 fi14.nt (clz4 _ lf) lf stz4 J k fi14.body [] ms q (qa2 ttT.get fi14 (sz4 g))
theorem inz4(g:gz4)(J:JT Rtz4)(lf:Nat)(x1:(List qaa)):Ez4 g J lf x1=qrs lf x1 (fun q=>J 6 [lf] (qig x1 q)):=by kernel_rfl
theorem zke(g:gz4)(J:JT Rtz4)(lf:Nat)(x1:(List qaa))(m1:Nat)(p:Int):Bz4 g J lf 6 [m1] (qig x1 p)=qj4 lf x1 (fun q=>J 6 [m1] (qig x1 q)) p:=by kernel_rfl
theorem ndz4:(regs fi14.body).Nodup:=by decide +kernel
theorem okz4:okC nmz4 stz4 hdz4 fi14.body none=true:=by kernel_rfl
def Az4(g:gz4)(lf:Nat):JT Rtz4:=atN Try.prog ttT.get nmz4 fi14 (sz4 g) (clz4 _ lf) lf hdz4
def qlj(lf:Nat)(x1:(List qaa)):Nat->(Int)->Option Rtz4:=qa9 fun K p=>qj4 lf x1 K p
theorem q0q(g:gz4)(lf:Nat)(x1:(List qaa)):∀(n:Nat) (p:Int),Az4 g lf 6 [n] (qig x1 p)=qlj lf x1 n p
 | 0,p=>qb5 6 [0] rfl _
 | n+1,p=>by
  have ih:=q0q g lf x1 n;refine(qb3 (qbh 20 _) ndz4 okz4 6 [n+1] [n] rfl _).trans ((zke g (Az4 g lf) lf x1 n p).trans ?_);rw[(show (fun q=>Az4 g lf 6 [n] (qig x1 q))=(fun q=>qlj lf x1 n q) from funext ih)];rfl
def Fz4(lf:Nat)(x1:(List qaa)):Option Rtz4:=qrs lf x1 (fun q=>qlj lf x1 lf q)
theorem zj5(g:gz4)(lf:Nat)(x1:(List qaa)):Ez4 g (Az4 g lf) lf x1=Fz4 lf x1:=by
  refine(inz4 g (Az4 g lf) lf x1).trans ?_;rw[(show (fun q=>Az4 g lf 6 [lf] (qig x1 q))=(fun q=>qlj lf x1 lf q) from funext fun q=>q0q g lf x1 lf q)];rfl
theorem zff:qbg Try.prog qza:=trivial
theorem mkz4{g:gz4}(hsm:SmOK Try.prog q0n)(hg:∀(x:ElA [(.list qad)]) (y:Rtz4),WfA [(.list qad)] x->g x=some y->∃lf,Fz4 lf x.1=some y):Con Try.prog 14 ⟨[(.list qad)],[(false,(.int .i64)),(false,(.int .i64))],g⟩ :=
 conV (st:=stz4) (fun lf x=>Fz4 lf x.1) cm3 q70 zff ndz4 okz4 (fun lf x=>zj5 g lf x.1) hsm hg
abbrev qpq:Type:=Int × Unit
abbrev zbe:Nat:=22
def q1f(lf:Nat)(x1:qac):Option qpq:=(cond (Bool.not (ieqI (S.checkDisk (x1.1.1,x1.1.2)) (Int.ofNat 0))) (some ((Int.ofNat 1),())) (cond (iltI (Int.ofNat 0) (Int.ofNat x1.1.2.length)) (some ((Int.ofNat 1),())) (match (cond (S.okL (x1.1.1,x1.1.2)) (some ((S.openedJ (x1.1.1,x1.1.2)).1,((S.openedJ (x1.1.1,x1.1.2)).2,()))) none) with|none=>none|some v0=>(cond (Bool.not v0.2.1) (some ((Int.ofNat 1),())) (cond (Bool.not (ieqI v0.1.2.1 x1.2.1)) (some ((Int.ofNat 1),())) (cond (Bool.not (ieqI v0.1.2.2.1 x1.2.2.1)) (some ((Int.ofNat 1),())) (cond (Bool.not (S.sameC v0.1.2.2.2 x1.2.2.2)) (some ((Int.ofNat 1),())) (some ((Int.ofNat 0),())))))))))
def qnr(lf:Nat)(x1:qac):Option qpq:=q1f lf x1
theorem zkb{g:ElA [qag]->Option qpq}(hsm:SmOK Try.prog [(24,qg4),(25,qfv),(40,q53)])(hg:∀(x:ElA [qag]) (y:qpq),WfA [qag] x->g x=some y->∃lf,qnr lf x.1=some y):Con Try.prog 22 ⟨[qag],[(false,(.int .i64))],g⟩ :=
 conU (fi:=fi22) (hxl:=[]) (fun lf x=>qnr lf x.1) cm3 zed trivial hsm hg
abbrev qn1:Type:=Int × Int × Unit
abbrev zk9:Nat:=15
def qyj(lf:Nat)(x1:qac):Option qn1:=(cond (Bool.not (ieqI (S.errR ((x1.1.1,x1.1.2),(x1.2.1,(x1.2.2.1,x1.2.2.2)))) (Int.ofNat 0))) (some ((Int.ofNat 0),((S.errR ((x1.1.1,x1.1.2),(x1.2.1,(x1.2.2.1,x1.2.2.2)))),()))) (match (cond (S.smallJ ((x1.1.1,x1.1.2),(x1.2.1,(x1.2.2.1,x1.2.2.2)))) (some ((S.roomOf ((x1.1.1,x1.1.2),(x1.2.1,(x1.2.2.1,x1.2.2.2)))),())) none) with|none=>none|some v0=>(some (v0.1,((Int.ofNat 0),())))))
def qll(lf:Nat)(x1:qac):Option qn1:=qyj lf x1
theorem zj6{g:ElA [qag]->Option qn1}(hsm:SmOK Try.prog [(22,qli),(29,qq3)])(hg:∀(x:ElA [qag]) (y:qn1),WfA [qag] x->g x=some y->∃lf,qll lf x.1=some y):Con Try.prog 15 ⟨[qag],[(false,(.int .i64)),(false,(.int .i64))],g⟩ :=
 conU (fi:=fi15) (hxl:=[]) (fun lf x=>qll lf x.1) cm3 zgs trivial hsm hg
abbrev qoc:Type:=Int × Unit
abbrev q7d:Nat:=30
def q3w(lf:Nat)(x1:qac)(x2:(List qaa)):Option qoc:=(cond (Bool.not (ieqI (S.errR ((x1.1.1,x1.1.2),(x1.2.1,(x1.2.2.1,x1.2.2.2)))) (Int.ofNat 0))) (some ((S.errR ((x1.1.1,x1.1.2),(x1.2.1,(x1.2.2.1,x1.2.2.2)))),())) (some ((S.size x2).2,())))
def qpm(lf:Nat)(x1:qac)(x2:(List qaa)):Option qoc:=q3w lf x1 x2
theorem q67{g:ElA [qag,(.list qad)]->Option qoc}(hsm:SmOK Try.prog [(22,qli),(14,spz4)])(hg:∀(x:ElA [qag,(.list qad)]) (y:qoc),WfA [qag,(.list qad)] x->g x=some y->∃lf,qpm lf x.1 x.2.1=some y):Con Try.prog 30 ⟨[qag,(.list qad)],[(false,(.int .i64))],g⟩ :=
 conU (fi:=fi30) (hxl:=[]) (fun lf x=>qpm lf x.1 x.2.1) cm3 zn0 trivial hsm hg
def qv6:List (Nat × Hx):=[(42,hxR spz5),(45,hxR spz6)]
abbrev qnu:Type:=(List DAct) × Bool × Unit
abbrev zc3:Nat:=31
def q2p(lf:Nat)(x1:qac)(x2:(List qaa)):Option qnu:=(match (cond (S.pk x2) (some ((S.packed x2 (Int.ofNat 1)),())) none) with|none=>none|some v0=>(match (cond (S.smallJ ((x1.1.1,x1.1.2),(x1.2.1,(x1.2.2.1,x1.2.2.2)))) (some ((S.roomOf ((x1.1.1,x1.1.2),(x1.2.1,(x1.2.2.1,x1.2.2.2)))),())) none) with|none=>none|some v1=>(cond (iltI v1.1 (Int.ofNat v0.1.length)) (some ([],(false,()))) (match (cond (S.inI (Int.ofNat x1.1.1.length) (Int.ofNat 0) (Int.ofNat 1000)) (some ((S.half (Int.toNat (Int.ofNat x1.1.1.length)) x1.2.1),())) none) with|none=>none|some v2=>(match (jget v0.1 (Int.ofNat 0)) with|none=>none|some v3=>(match (GetElem?.getElem? v0.1 0) with|none=>none|some v4=>(match (cond (Decidable.decide (Eq v4.size 64)) (some ((qae (List.cons (Int.ofNat 0) (List.drop 1 (qab v4)))),())) none) with|none=>none|some v5=>(match (cond (Bool.and (S.inI (IntKind.i64.wrap (Int.add v2.1.1 x1.2.2.1)) (Int.ofNat 0) (Int.ofNat 1000000)) true) (some ((),(((S.app [] (S.puts (IntKind.i64.wrap (Int.add v2.1.1 x1.2.2.1)) [v5.1])),()),()))) none) with|none=>none|some v6=>(cond (lchk (Int.ofNat 1) (Int.ofNat v0.1.length) (Int.ofNat v0.1.length) (Int.ofNat v0.1.length)) (match (cond (Bool.and (S.inI (IntKind.i64.wrap (Int.add (IntKind.i64.wrap (Int.add v2.1.1 x1.2.2.1)) (Int.ofNat 1))) (Int.ofNat 0) (Int.ofNat 1000000)) (Bool.and (Nat.ble (List.length (lsub v0.1 (Int.ofNat 1) (Int.ofNat v0.1.length))) 1000000) (Nat.ble (S.lenA v6.2.1.1) 1000000))) (some ((),(((S.app v6.2.1.1 (S.puts (IntKind.i64.wrap (Int.add (IntKind.i64.wrap (Int.add v2.1.1 x1.2.2.1)) (Int.ofNat 1))) (lsub v0.1 (Int.ofNat 1) (Int.ofNat v0.1.length)))),()),()))) none) with|none=>none|some v7=>(cond (iltI (IntKind.i64.wrap (Int.add (IntKind.i64.wrap (Int.add v2.1.1 x1.2.2.1)) (Int.ofNat v0.1.length))) v2.1.2) (match (cond (Bool.and (S.inI (IntKind.i64.wrap (Int.add (IntKind.i64.wrap (Int.add v2.1.1 x1.2.2.1)) (Int.ofNat v0.1.length))) (Int.ofNat 0) (Int.ofNat 1000000)) (Nat.ble (S.lenA v7.2.1.1) 1000000)) (some ((),(((S.app v7.2.1.1 (S.puts (IntKind.i64.wrap (Int.add (IntKind.i64.wrap (Int.add v2.1.1 x1.2.2.1)) (Int.ofNat v0.1.length))) [S.blank])),()),()))) none) with|none=>none|some v8=>(match (cond (Nat.ble (S.lenA v8.2.1.1) 4000000) (some ((),(((S.app v8.2.1.1 [S.sync]),()),()))) none) with|none=>none|some v9=>(match (jget v0.1 (Int.ofNat 0)) with|none=>none|some v10=>(match (cond (Bool.and (S.inI (IntKind.i64.wrap (Int.add v2.1.1 x1.2.2.1)) (Int.ofNat 0) (Int.ofNat 1000000)) (Nat.ble (S.lenA v9.2.1.1) 1000000)) (some ((),(((S.app v9.2.1.1 (S.puts (IntKind.i64.wrap (Int.add v2.1.1 x1.2.2.1)) [v10])),()),()))) none) with|none=>none|some v11=>(match (cond (Nat.ble (S.lenA v11.2.1.1) 4000000) (some ((),(((S.app v11.2.1.1 [S.sync]),()),()))) none) with|none=>none|some v12=>(some (v12.2.1.1,(true,())))))))) (match (cond (Nat.ble (S.lenA v7.2.1.1) 4000000) (some ((),(((S.app v7.2.1.1 [S.sync]),()),()))) none) with|none=>none|some v13=>(match (jget v0.1 (Int.ofNat 0)) with|none=>none|some v14=>(match (cond (Bool.and (S.inI (IntKind.i64.wrap (Int.add v2.1.1 x1.2.2.1)) (Int.ofNat 0) (Int.ofNat 1000000)) (Nat.ble (S.lenA v13.2.1.1) 1000000)) (some ((),(((S.app v13.2.1.1 (S.puts (IntKind.i64.wrap (Int.add v2.1.1 x1.2.2.1)) [v14])),()),()))) none) with|none=>none|some v15=>(match (cond (Nat.ble (S.lenA v15.2.1.1) 4000000) (some ((),(((S.app v15.2.1.1 [S.sync]),()),()))) none) with|none=>none|some v16=>(some (v16.2.1.1,(true,()))))))))) none)))))))))
def ql5(lf:Nat)(x1:qac)(x2:(List qaa)):Option qnu:=q2p lf x1 x2
theorem q89(hrz5:ConR Try.prog 42 spz5)(hrz6:ConR Try.prog 45 spz6):qbg Try.prog qv6:=⟨qfg hrz5,⟨qfg hrz6,trivial⟩⟩
theorem zni{g:ElA [qag,(.list qad)]->Option qnu}(hsm:SmOK Try.prog [(28,qk0),(29,qq3),(41,qkb),(46,qu0),(44,qmf)])(hrz5:ConR Try.prog 42 spz5)(hrz6:ConR Try.prog 45 spz6)(hg:∀(x:ElA [qag,(.list qad)]) (y:qnu),WfA [qag,(.list qad)] x->g x=some y->∃lf,ql5 lf x.1 x.2.1=some y):Con Try.prog 31 ⟨[qag,(.list qad)],[(true,cAct),(false,.bool)],g⟩ :=
 conU (fi:=fi31) (hxl:=qv6) (fun lf x=>ql5 lf x.1 x.2.1) cm3 znr (q89 hrz5 hrz6) hsm hg
abbrev qm4:Type:=qac × Unit
abbrev zhd:Nat:=26
def qx2(lf:Nat)(x1:qac)(x2:(List DAct)):Option qm4:=(match (cond (S.okL ((S.doD (x1.1.1,x1.1.2) x2).1.1,(S.doD (x1.1.1,x1.1.2) x2).1.2)) (some ((S.openedJ ((S.doD (x1.1.1,x1.1.2) x2).1.1,(S.doD (x1.1.1,x1.1.2) x2).1.2)).1,((S.openedJ ((S.doD (x1.1.1,x1.1.2) x2).1.1,(S.doD (x1.1.1,x1.1.2) x2).1.2)).2,()))) none) with|none=>none|some v0=>(some (((v0.1.1.1,v0.1.1.2),(v0.1.2.1,(v0.1.2.2.1,v0.1.2.2.2))),())))
def qpe(lf:Nat)(x1:qac)(x2:(List DAct)):Option qm4:=qx2 lf x1 x2
theorem zfx{g:ElA [qag,(.list cAct)]->Option qm4}(hsm:SmOK Try.prog [(20,spz7),(25,qfv)])(hg:∀(x:ElA [qag,(.list cAct)]) (y:qm4),WfA [qag,(.list cAct)] x->g x=some y->∃lf,qpe lf x.1 x.2.1=some y):Con Try.prog 26 ⟨[qag,(.list cAct)],[(false,qag)],g⟩ :=
 conU (fi:=fi26) (hxl:=[]) (fun lf x=>qpe lf x.1 x.2.1) cm3 zj9 trivial hsm hg
abbrev qmi:Type:=(List DAct) × Int × Unit
abbrev zbt:Nat:=16
def qzo(lf:Nat)(x1:qac)(x2:(List qaa)):Option qmi:=(cond (Bool.not (ieqI (S.asked ((x1.1.1,x1.1.2),(x1.2.1,(x1.2.2.1,x1.2.2.2))) x2) (Int.ofNat 0))) (some ([],((S.asked ((x1.1.1,x1.1.2),(x1.2.1,(x1.2.2.1,x1.2.2.2))) x2),()))) (match (cond (S.comG ((x1.1.1,x1.1.2),(x1.2.1,(x1.2.2.1,x1.2.2.2))) x2) (some ((S.actsB (S.commit ((x1.1.1,x1.1.2),(x1.2.1,(x1.2.2.1,x1.2.2.2))) x2)).1,((S.actsB (S.commit ((x1.1.1,x1.1.2),(x1.2.1,(x1.2.2.1,x1.2.2.2))) x2)).2,()))) none) with|none=>none|some v0=>(cond (Bool.not v0.2.1) (some ([],((Int.ofNat 14),()))) (some (v0.1,((Int.ofNat 0),()))))))
def qlb(lf:Nat)(x1:qac)(x2:(List qaa)):Option qmi:=qzo lf x1 x2
theorem zny{g:ElA [qag,(.list qad)]->Option qmi}(hsm:SmOK Try.prog [(30,qp1),(31,qt5)])(hg:∀(x:ElA [qag,(.list qad)]) (y:qmi),WfA [qag,(.list qad)] x->g x=some y->∃lf,qlb lf x.1 x.2.1=some y):Con Try.prog 16 ⟨[qag,(.list qad)],[(true,cAct),(false,(.int .i64))],g⟩ :=
 conU (fi:=fi16) (hxl:=[]) (fun lf x=>qlb lf x.1 x.2.1) cm3 q6r trivial hsm hg
abbrev qoe:Type:=qac × Int × Unit
abbrev zf7:Nat:=18
def q07(lf:Nat)(x1:qac)(x2:(List qaa)):Option qoe:=(cond (Bool.not (ieqI (S.plan ((x1.1.1,x1.1.2),(x1.2.1,(x1.2.2.1,x1.2.2.2))) x2).2 (Int.ofNat 0))) (some ((([],[]),((Int.ofNat 0),((Int.ofNat 0),[]))),((S.plan ((x1.1.1,x1.1.2),(x1.2.1,(x1.2.2.1,x1.2.2.2))) x2).2,()))) (match (cond (S.behG ((x1.1.1,x1.1.2),(x1.2.1,(x1.2.2.1,x1.2.2.2))) (S.plan ((x1.1.1,x1.1.2),(x1.2.1,(x1.2.2.1,x1.2.2.2))) x2).1) (some ((S.behind ((x1.1.1,x1.1.2),(x1.2.1,(x1.2.2.1,x1.2.2.2))) (S.plan ((x1.1.1,x1.1.2),(x1.2.1,(x1.2.2.1,x1.2.2.2))) x2).1).1,())) none) with|none=>none|some v0=>(some (((v0.1.1.1,v0.1.1.2),(v0.1.2.1,(v0.1.2.2.1,v0.1.2.2.2))),((Int.ofNat 0),())))))
def qn8(lf:Nat)(x1:qac)(x2:(List qaa)):Option qoe:=q07 lf x1 x2
theorem q69{g:ElA [qag,(.list qad)]->Option qoe}(hsm:SmOK Try.prog [(16,qxy),(26,ql8)])(hg:∀(x:ElA [qag,(.list qad)]) (y:qoe),WfA [qag,(.list qad)] x->g x=some y->∃lf,qn8 lf x.1 x.2.1=some y):Con Try.prog 18 ⟨[qag,(.list qad)],[(false,qag),(false,(.int .i64))],g⟩ :=
 conU (fi:=fi18) (hxl:=[]) (fun lf x=>qn8 lf x.1 x.2.1) cm3 zg1 trivial hsm hg
abbrev qop:Type:=(List DAct) × Int × Unit
abbrev zmh:Nat:=8
def q2j(lf:Nat)(x1:qac):Option qop:=(cond (Bool.not (ieqI (S.errR ((x1.1.1,x1.1.2),(x1.2.1,(x1.2.2.1,x1.2.2.2)))) (Int.ofNat 0))) (some ([],((S.errR ((x1.1.1,x1.1.2),(x1.2.1,(x1.2.2.1,x1.2.2.2)))),()))) (match (cond (S.turG ((x1.1.1,x1.1.2),(x1.2.1,(x1.2.2.1,x1.2.2.2)))) (some ((S.actsB (S.turn ((x1.1.1,x1.1.2),(x1.2.1,(x1.2.2.1,x1.2.2.2))))).1,((S.actsB (S.turn ((x1.1.1,x1.1.2),(x1.2.1,(x1.2.2.1,x1.2.2.2))))).2,()))) none) with|none=>none|some v0=>(cond (Bool.not v0.2.1) (some ([],((Int.ofNat 14),()))) (some (v0.1,((Int.ofNat 0),()))))))
def qlw(lf:Nat)(x1:qac):Option qop:=q2j lf x1
theorem zlc{g:ElA [qag]->Option qop}(hsm:SmOK Try.prog [(22,qli),(23,qsn)])(hg:∀(x:ElA [qag]) (y:qop),WfA [qag] x->g x=some y->∃lf,qlw lf x.1=some y):Con Try.prog 8 ⟨[qag],[(true,cAct),(false,(.int .i64))],g⟩ :=
 conU (fi:=fi8) (hxl:=[]) (fun lf x=>qlw lf x.1) cm3 cal8 trivial hsm hg
abbrev qlv:Type:=qac × Int × Unit
abbrev q9g:Nat:=11
def q37(lf:Nat)(x1:qac):Option qlv:=(cond (Bool.not (ieqI (S.planTurn ((x1.1.1,x1.1.2),(x1.2.1,(x1.2.2.1,x1.2.2.2)))).2 (Int.ofNat 0))) (some ((([],[]),((Int.ofNat 0),((Int.ofNat 0),[]))),((S.planTurn ((x1.1.1,x1.1.2),(x1.2.1,(x1.2.2.1,x1.2.2.2)))).2,()))) (match (cond (S.behG ((x1.1.1,x1.1.2),(x1.2.1,(x1.2.2.1,x1.2.2.2))) (S.planTurn ((x1.1.1,x1.1.2),(x1.2.1,(x1.2.2.1,x1.2.2.2)))).1) (some ((S.behind ((x1.1.1,x1.1.2),(x1.2.1,(x1.2.2.1,x1.2.2.2))) (S.planTurn ((x1.1.1,x1.1.2),(x1.2.1,(x1.2.2.1,x1.2.2.2)))).1).1,())) none) with|none=>none|some v0=>(some (((v0.1.1.1,v0.1.1.2),(v0.1.2.1,(v0.1.2.2.1,v0.1.2.2.2))),((Int.ofNat 0),())))))
def qng(lf:Nat)(x1:qac):Option qlv:=q37 lf x1
theorem zcn{g:ElA [qag]->Option qlv}(hsm:SmOK Try.prog [(8,qz6),(26,ql8)])(hg:∀(x:ElA [qag]) (y:qlv),WfA [qag] x->g x=some y->∃lf,qng lf x.1=some y):Con Try.prog 11 ⟨[qag],[(false,qag),(false,(.int .i64))],g⟩ :=
 conU (fi:=fi11) (hxl:=[]) (fun lf x=>qng lf x.1) cm3 zn1 trivial hsm hg
abbrev qpd:Type:=qac × Int × Unit
abbrev zeq:Nat:=17
def q34(lf:Nat)(x1:qac)(x2:(List qaa)):Option qpd:=(cond (Bool.not (ieqI (S.asked ((x1.1.1,x1.1.2),(x1.2.1,(x1.2.2.1,x1.2.2.2))) x2) (Int.ofNat 0))) (some ((([],[]),((Int.ofNat 0),((Int.ofNat 0),[]))),((S.asked ((x1.1.1,x1.1.2),(x1.2.1,(x1.2.2.1,x1.2.2.2))) x2),()))) (match (cond (S.comG ((x1.1.1,x1.1.2),(x1.2.1,(x1.2.2.1,x1.2.2.2))) x2) (some ((S.actsB (S.commit ((x1.1.1,x1.1.2),(x1.2.1,(x1.2.2.1,x1.2.2.2))) x2)).1,((S.actsB (S.commit ((x1.1.1,x1.1.2),(x1.2.1,(x1.2.2.1,x1.2.2.2))) x2)).2,()))) none) with|none=>none|some v0=>(cond v0.2.1 (match (cond (S.behG ((x1.1.1,x1.1.2),(x1.2.1,(x1.2.2.1,x1.2.2.2))) v0.1) (some ((S.behind ((x1.1.1,x1.1.2),(x1.2.1,(x1.2.2.1,x1.2.2.2))) v0.1).1,())) none) with|none=>none|some v1=>(some (((v1.1.1.1,v1.1.1.2),(v1.1.2.1,(v1.1.2.2.1,v1.1.2.2.2))),((Int.ofNat 0),())))) (match (cond (S.turG ((x1.1.1,x1.1.2),(x1.2.1,(x1.2.2.1,x1.2.2.2)))) (some ((S.actsB (S.turn ((x1.1.1,x1.1.2),(x1.2.1,(x1.2.2.1,x1.2.2.2))))).1,((S.actsB (S.turn ((x1.1.1,x1.1.2),(x1.2.1,(x1.2.2.1,x1.2.2.2))))).2,()))) none) with|none=>none|some v2=>(cond (Bool.not v2.2.1) (some ((([],[]),((Int.ofNat 0),((Int.ofNat 0),[]))),((Int.ofNat 14),()))) (match (cond (S.behG ((x1.1.1,x1.1.2),(x1.2.1,(x1.2.2.1,x1.2.2.2))) v2.1) (some ((S.behind ((x1.1.1,x1.1.2),(x1.2.1,(x1.2.2.1,x1.2.2.2))) v2.1).1,())) none) with|none=>none|some v3=>(match (cond (S.comG ((v3.1.1.1,v3.1.1.2),(v3.1.2.1,(v3.1.2.2.1,v3.1.2.2.2))) x2) (some ((S.actsB (S.commit ((v3.1.1.1,v3.1.1.2),(v3.1.2.1,(v3.1.2.2.1,v3.1.2.2.2))) x2)).1,((S.actsB (S.commit ((v3.1.1.1,v3.1.1.2),(v3.1.2.1,(v3.1.2.2.1,v3.1.2.2.2))) x2)).2,()))) none) with|none=>none|some v4=>(cond (Bool.not v4.2.1) (some ((([],[]),((Int.ofNat 0),((Int.ofNat 0),[]))),((Int.ofNat 14),()))) (match (cond (S.behG ((v3.1.1.1,v3.1.1.2),(v3.1.2.1,(v3.1.2.2.1,v3.1.2.2.2))) v4.1) (some ((S.behind ((v3.1.1.1,v3.1.1.2),(v3.1.2.1,(v3.1.2.2.1,v3.1.2.2.2))) v4.1).1,())) none) with|none=>none|some v5=>(some (((v5.1.1.1,v5.1.1.2),(v5.1.2.1,(v5.1.2.2.1,v5.1.2.2.2))),((Int.ofNat 0),()))))))))))))
def qly(lf:Nat)(x1:qac)(x2:(List qaa)):Option qpd:=q34 lf x1 x2
theorem zfk{g:ElA [qag,(.list qad)]->Option qpd}(hsm:SmOK Try.prog [(30,qp1),(31,qt5),(23,qsn),(26,ql8)])(hg:∀(x:ElA [qag,(.list qad)]) (y:qpd),WfA [qag,(.list qad)] x->g x=some y->∃lf,qly lf x.1 x.2.1=some y):Con Try.prog 17 ⟨[qag,(.list qad)],[(false,qag),(false,(.int .i64))],g⟩ :=
 conU (fi:=fi17) (hxl:=[]) (fun lf x=>qly lf x.1 x.2.1) cm3 zi3 trivial hsm hg
abbrev qms:Type:=qac × Int × Unit
abbrev zkd:Nat:=10
def qyh(lf:Nat)(x1:qak):Option qms:=(cond (Bool.not (ieqI (S.checkDisk (x1.1,x1.2)) (Int.ofNat 0))) (some ((([],[]),((Int.ofNat 0),((Int.ofNat 0),[]))),((S.checkDisk (x1.1,x1.2)),()))) (cond (iltI (Int.ofNat 0) (Int.ofNat x1.2.length)) (some ((([],[]),((Int.ofNat 0),((Int.ofNat 0),[]))),((Int.ofNat 12),()))) (match (cond (S.okL (x1.1,x1.2)) (some ((S.openedJ (x1.1,x1.2)).1,((S.openedJ (x1.1,x1.2)).2,()))) none) with|none=>none|some v0=>(cond (Bool.not v0.2.1) (some ((([],[]),((Int.ofNat 0),((Int.ofNat 0),[]))),((Int.ofNat 15),()))) (some (((v0.1.1.1,v0.1.1.2),(v0.1.2.1,(v0.1.2.2.1,v0.1.2.2.2))),((Int.ofNat 0),())))))))
def qn9(lf:Nat)(x1:qak):Option qms:=qyh lf x1
theorem zd8{g:ElA [qav]->Option qms}(hsm:SmOK Try.prog [(24,qg4),(25,qfv)])(hg:∀(x:ElA [qav]) (y:qms),WfA [qav] x->g x=some y->∃lf,qn9 lf x.1=some y):Con Try.prog 10 ⟨[qav],[(false,qag),(false,(.int .i64))],g⟩ :=
 conU (fi:=fi10) (hxl:=[]) (fun lf x=>qn9 lf x.1) cm3 zeh trivial hsm hg
def nmz5:Nat->Option Nm:=fun k=>cond (Nat.beq k 1) (some ⟨[0,1,8,9,10],[],[],[],[],0,0,false⟩) (cond (Nat.beq k 999999) (some ⟨[],[],[],[],[],0,0,false⟩) none)
def stz5:Nat->Bool:=fun k=>cond (Nat.beq k 1) true (false)
def hdz5:=stz5
abbrev Rtz5:Type:=(Unit) × ((List DAct) × Unit) × Unit
def qrj:List (Nat × Sm):=[]
def qs7:List (Nat × Hx):=[]
def clz5(R:Type)(lf:Nat):ClK R:=qa8 Try.prog ttT.get ftT.get (fun _ _=>none) (smL qrj) (hxL qs7) lf 20 R
abbrev idz5:Nat:=42
def qh5(x1:(List DAct))(x2:Int)(x3:(List ByteArray))(p:Int × (List DAct)):NRes:=(NRes.mk (.node (some (IV.ptr 0 0)) (.node (some (IV.int .i64 x2)) .leaf (.node none (.node (some (IV.int .i64 (Int.ofNat x3.length))) .leaf .leaf) .leaf)) (.node none (.node none (.node (some (IV.lst TC.str x3)) .leaf .leaf) .leaf) (.node none (.node (some (IV.int .i64 p.1)) .leaf .leaf) .leaf))) (IS.mk (.node (some (IObj.row [(IV.arr 1)])) (.node (some (IObj.arr cAct p.2)) .leaf .leaf) .leaf) 2) [] 0)
def quv(lf:Nat)(x1:(List DAct))(x2:Int)(x3:(List ByteArray))(L1:(Int × (List DAct))->Option Rtz5):Option Rtz5:=(L1 ((Int.ofNat 0),x1))
def qg2(lf:Nat)(x1:(List DAct))(x2:Int)(x3:(List ByteArray))(L1:(Int × (List DAct))->Option Rtz5)(p:Int × (List DAct)):Option Rtz5:=(cond (iltI p.1 (Int.ofNat x3.length)) (match (jget x3 p.1) with|none=>none|some v0=>(cond (Nat.ble (Nat.mul (Nat.add p.2.length 1) 32) 140737488355328) (L1 ((IntKind.i64.wrap (Int.add p.1 (Int.ofNat 1))),(List.append p.2 (List.cons (false,((IntKind.i64.wrap (Int.add x2 p.1)),v0)) [])))) none)) (some ((),((p.2,()),()))))
abbrev gz5:Type:=ElP [.ref (.box [.arr cAct]),.dat (.int .i64),.dat (.list .str)]->Option Rtz5
abbrev sz5(g:gz5):SmR:=⟨[.ref (.box [.arr cAct]),.dat (.int .i64),.dat (.list .str)],[],g⟩
abbrev Ez5(g:gz5)(J:JT Rtz5)(lf:Nat)(x1:(List DAct))(x2:Int)(x3:(List ByteArray)):=qb1 Try.prog ttT.get nmz5 (mP [.ref (.box [.arr cAct]),.dat (.int .i64),.dat (.list .str)]) fi42.nt (clz5 _ lf) lf stz5 J fi42.body [] (qaz (qaq [.ref (.box [.arr cAct]),.dat (.int .i64),.dat (.list .str)] idN 0 ((x1,()),x2,x3,())) 0 .leaf) (Sc [.ref (.box [.arr cAct]),.dat (.int .i64),.dat (.list .str)] ((x1,()),x2,x3,())) [] (qdo ttT.get fi42 (sz5 g))
abbrev Bz5(g:gz5)(J:JT Rtz5)(lf k:Nat)(ms:List Nat)(q:NRes):=qb4 Try.prog ttT.get nmz5 (mP [.ref (.box [.arr cAct]),.dat (.int .i64),.dat (.list .str)]) fi42.nt (clz5 _ lf) lf stz5 J k fi42.body [] ms q (qdo ttT.get fi42 (sz5 g))
theorem inz5(g:gz5)(J:JT Rtz5)(lf:Nat)(x1:(List DAct))(x2:Int)(x3:(List ByteArray)):Ez5 g J lf x1 x2 x3=quv lf x1 x2 x3 (fun q=>J 1 [lf] (qh5 x1 x2 x3 q)):=by kernel_rfl
theorem zjv(g:gz5)(J:JT Rtz5)(lf:Nat)(x1:(List DAct))(x2:Int)(x3:(List ByteArray))(m1:Nat)(p:Int × (List DAct)):Bz5 g J lf 1 [m1] (qh5 x1 x2 x3 p)=qg2 lf x1 x2 x3 (fun q=>J 1 [m1] (qh5 x1 x2 x3 q)) p:=by kernel_rfl
theorem ndz5:(regs fi42.body).Nodup:=by decide +kernel
theorem okz5:okC nmz5 stz5 hdz5 fi42.body none=true:=by kernel_rfl
def Az5(g:gz5)(lf:Nat):JT Rtz5:=atQ Try.prog ttT.get nmz5 fi42 (sz5 g) (clz5 _ lf) lf hdz5
def qf6(lf:Nat)(x1:(List DAct))(x2:Int)(x3:(List ByteArray)):Nat->(Int × (List DAct))->Option Rtz5:=qa9 fun K p=>qg2 lf x1 x2 x3 K p
theorem qy2(g:gz5)(lf:Nat)(x1:(List DAct))(x2:Int)(x3:(List ByteArray)):∀(n:Nat) (p:Int × (List DAct)),Az5 g lf 1 [n] (qh5 x1 x2 x3 p)=qf6 lf x1 x2 x3 n p
 | 0,p=>qzl 1 [0] rfl _
 | n+1,p=>by
  have ih:=qy2 g lf x1 x2 x3 n;refine(q3u rfl (qbh 20 _) ndz5 okz5 1 [n+1] [n] rfl _).trans ((zjv g (Az5 g lf) lf x1 x2 x3 n p).trans ?_);rw[(show (fun q=>Az5 g lf 1 [n] (qh5 x1 x2 x3 q))=(fun q=>qf6 lf x1 x2 x3 n q) from funext ih)];rfl
def Fz5(lf:Nat)(x1:(List DAct))(x2:Int)(x3:(List ByteArray)):Option Rtz5:=quv lf x1 x2 x3 (fun q=>qf6 lf x1 x2 x3 lf q)
theorem q73(g:gz5)(lf:Nat)(x1:(List DAct))(x2:Int)(x3:(List ByteArray)):Ez5 g (Az5 g lf) lf x1 x2 x3=Fz5 lf x1 x2 x3:=by
  refine(inz5 g (Az5 g lf) lf x1 x2 x3).trans ?_;rw[(show (fun q=>Az5 g lf 1 [lf] (qh5 x1 x2 x3 q))=(fun q=>qf6 lf x1 x2 x3 lf q) from funext fun q=>qy2 g lf x1 x2 x3 lf q)];rfl
theorem zh4:qbg Try.prog qs7:=trivial
theorem mkz5{g:gz5}(hsm:SmOK Try.prog qrj)(hg:∀(x:ElP [.ref (.box [.arr cAct]),.dat (.int .i64),.dat (.list .str)]) (y:Rtz5),WfP [.ref (.box [.arr cAct]),.dat (.int .i64),.dat (.list .str)] x->g x=some y->∃lf,Fz5 lf x.1.1 x.2.1 x.2.2.1=some y):ConR Try.prog 42 ⟨[.ref (.box [.arr cAct]),.dat (.int .i64),.dat (.list .str)],[],g⟩ :=
 conTR (nmf:=nmz5) (sml:=qrj) (hxl:=qs7) (st:=stz5) (hd:=hdz5) 20 mixed ttOK ftOK hsm zh4 zbw (by kernel_rfl) (fun x=>by kernel_rfl) ndz5 okz5 fun x y z hx hy=>by
  obtain⟨lf,h⟩:=hg x (y,z) hx hy;exact⟨lf,(q73 g lf x.1.1 x.2.1 x.2.2.1).trans h⟩
def nmz6:Nat->Option Nm:=fun k=>cond (Nat.beq k 999999) (some ⟨[],[],[],[],[],0,0,false⟩) none
def stz6:Nat->Bool:=fun k=>false
def hdz6:=stz6
abbrev Rtz6:Type:=(Unit) × ((List DAct) × Unit) × Unit
def quk:List (Nat × Sm):=[]
def qsv:List (Nat × Hx):=[]
def clz6(R:Type)(lf:Nat):ClK R:=qa8 Try.prog ttT.get ftT.get (fun _ _=>none) (smL quk) (hxL qsv) lf 20 R
abbrev idz6:Nat:=45
def qus(lf:Nat)(x1:(List DAct)):Option Rtz6:=(cond (Nat.ble (Nat.mul (Nat.add x1.length 1) 32) 140737488355328) (some ((),(((List.append x1 (List.cons (true,((Int.ofNat 0),(S.lit []))) [])),()),()))) none)
abbrev gz6:Type:=ElP [.ref (.box [.arr cAct])]->Option Rtz6
abbrev sz6(g:gz6):SmR:=⟨[.ref (.box [.arr cAct])],[],g⟩
abbrev Ez6(g:gz6)(J:JT Rtz6)(lf:Nat)(x1:(List DAct)):=qb1 Try.prog ttT.get nmz6 (mP [.ref (.box [.arr cAct])]) fi45.nt (clz6 _ lf) lf stz6 J fi45.body [] (qaz (qaq [.ref (.box [.arr cAct])] idN 0 ((x1,()),())) 0 .leaf) (Sc [.ref (.box [.arr cAct])] ((x1,()),())) [] (qdo ttT.get fi45 (sz6 g))
theorem inz6(g:gz6)(J:JT Rtz6)(lf:Nat)(x1:(List DAct)):Ez6 g J lf x1=qus lf x1:=by kernel_rfl
theorem ndz6:(regs fi45.body).Nodup:=by decide +kernel
theorem okz6:okC nmz6 stz6 hdz6 fi45.body none=true:=by kernel_rfl
def Az6(g:gz6)(lf:Nat):JT Rtz6:=atQ Try.prog ttT.get nmz6 fi45 (sz6 g) (clz6 _ lf) lf hdz6
def Fz6(lf:Nat)(x1:(List DAct)):Option Rtz6:=qus lf x1
theorem q8y(g:gz6)(lf:Nat)(x1:(List DAct)):Ez6 g (Az6 g lf) lf x1=Fz6 lf x1:=by
  refine(inz6 g (Az6 g lf) lf x1).trans ?_;rfl
theorem zdi:qbg Try.prog qsv:=trivial
theorem mkz6{g:gz6}(hsm:SmOK Try.prog quk)(hg:∀(x:ElP [.ref (.box [.arr cAct])]) (y:Rtz6),WfP [.ref (.box [.arr cAct])] x->g x=some y->∃lf,Fz6 lf x.1.1=some y):ConR Try.prog 45 ⟨[.ref (.box [.arr cAct])],[],g⟩ :=
 conTR (nmf:=nmz6) (sml:=quk) (hxl:=qsv) (st:=stz6) (hd:=hdz6) 20 mixed ttOK ftOK hsm zdi q8d (by kernel_rfl) (fun x=>by kernel_rfl) ndz6 okz6 fun x y z hx hy=>by
  obtain⟨lf,h⟩:=hg x (y,z) hx hy;exact⟨lf,(q8y g lf x.1.1).trans h⟩
def q2q:List (Nat × Hx):=[(42,hxR spz5),(45,hxR spz6)]
abbrev qoz:Type:=(List DAct) × Int × Unit
abbrev zkt:Nat:=33
def q3s(lf:Nat)(x1:qak):Option qoz:=(cond (Bool.not (ieqI (S.checkDisk (x1.1,x1.2)) (Int.ofNat 0))) (some ([],((S.checkDisk (x1.1,x1.2)),()))) (cond (iltI (Int.ofNat 0) (Int.ofNat x1.2.length)) (some ([],((Int.ofNat 12),()))) (match (cond true (some ((),(((S.app (S.app [] (S.puts (Int.ofNat 1) (List.cons S.blank [S.blank]))) [S.sync]),()),()))) none) with|none=>none|some v0=>(match (cond (S.pk []) (some ((S.packed [] (Int.ofNat 1)),())) none) with|none=>none|some v1=>(match (cond (Bool.and (S.inI (Int.ofNat 1) (Int.ofNat 0) (Int.ofNat 1000000)) (Bool.and (Nat.ble v1.1.length 1000000) (Nat.ble (S.lenA v0.2.1.1) 1000000))) (some ((),(((S.app v0.2.1.1 (S.puts (Int.ofNat 1) v1.1)),()),()))) none) with|none=>none|some v2=>(match (cond (Nat.ble (S.lenA v2.2.1.1) 4000000) (some ((),(((S.app v2.2.1.1 [S.sync]),()),()))) none) with|none=>none|some v3=>(match (cond (Bool.and (S.inI (Int.ofNat 0) (Int.ofNat 0) (Int.ofNat 1000000)) (Nat.ble (S.lenA v3.2.1.1) 1000000)) (some ((),(((S.app v3.2.1.1 (S.puts (Int.ofNat 0) [S.blank])),()),()))) none) with|none=>none|some v4=>(match (cond (Nat.ble (S.lenA v4.2.1.1) 4000000) (some ((),(((S.app v4.2.1.1 [S.sync]),()),()))) none) with|none=>none|some v5=>(some (v5.2.1.1,((Int.ofNat 0),())))))))))))
def qle(lf:Nat)(x1:qak):Option qoz:=q3s lf x1
theorem zb6(hrz5:ConR Try.prog 42 spz5)(hrz6:ConR Try.prog 45 spz6):qbg Try.prog q2q:=⟨qfg hrz5,⟨qfg hrz6,trivial⟩⟩
theorem ze5{g:ElA [qav]->Option qoz}(hsm:SmOK Try.prog [(24,qg4),(44,qmf),(28,qk0)])(hrz5:ConR Try.prog 42 spz5)(hrz6:ConR Try.prog 45 spz6)(hg:∀(x:ElA [qav]) (y:qoz),WfA [qav] x->g x=some y->∃lf,qle lf x.1=some y):Con Try.prog 33 ⟨[qav],[(true,cAct),(false,(.int .i64))],g⟩ :=
 conU (fi:=fi33) (hxl:=q2q) (fun lf x=>qle lf x.1) cm3 zh7 (zb6 hrz5 hrz6) hsm hg
def nmz7:Nat->Option Nm:=fun k=>cond (Nat.beq k 6) (some ⟨[4,7,23,24,25],[],[(7,0,.str),(7,1,cPut)],[],[],0,0,false⟩) (none)
def stz7:Nat->Bool:=fun k=>cond (Nat.beq k 6) true (false)
def hdz7:=stz7
abbrev Rtz7:Type:=qak × Int × Unit
def q2e:List (Nat × Sm):=[(24,qg4),(27,qib),(36,qs3),(37,spz9),(34,qix),(35,q33)]
def qzg:List (Nat × Hx):=[]
def clz7(R:Type)(lf:Nat):ClK R:=qa8 Try.prog ttT.get ftT.get (nm1 20 nmz7) (smL q2e) (hxL qzg) lf 20 R
abbrev idz7:Nat:=20
def qhh(x1:qak)(x2:q7q)(p:Int × (List DPut) × (List ByteArray)):NRes:=(NRes.mk (.node none (.node none (.node none (.node (some (IV.ptr 1 0)) .leaf (.node (some (IV.lst cAct x2)) .leaf .leaf)) .leaf) (.node none (.node none .leaf (.node (some (IV.int .i64 p.1)) .leaf .leaf)) .leaf)) (.node none (.node (some (IV.ptr 0 0)) (.node none .leaf (.node (some (IV.int .i64 (Int.ofNat x2.length))) .leaf .leaf)) .leaf) .leaf)) (IS.mk (.node (some (IObj.row (List.cons IV.nilsl [IV.nilsl]))) (.node (some (IObj.row (List.cons (IV.arr 2) [(IV.arr 3)]))) (.node (some (IObj.arr cPut p.2.1)) .leaf .leaf) .leaf) (.node (some (IObj.arr TC.str p.2.2)) .leaf .leaf)) 4) [] 0)
def qru(lf:Nat)(x1:qak)(x2:(List DAct))(L6:(Int × (List DPut) × (List ByteArray))->Option Rtz7):Option Rtz7:=(cond (Bool.not (ieqI (S.checkDisk (x1.1,x1.2)) (Int.ofNat 0))) (some (([],[]),((S.checkDisk (x1.1,x1.2)),()))) (L6 ((Int.ofNat 0),x1.2,x1.1)))
def qme(lf:Nat)(x1:qak)(x2:(List DAct))(L6:(Int × (List DPut) × (List ByteArray))->Option Rtz7)(p:Int × (List DPut) × (List ByteArray)):Option Rtz7:=(cond (iltI p.1 (Int.ofNat x2.length)) (match (jget x2 p.1) with|none=>none|some v0=>(cond v0.1 (cond (Bool.not (Bool.and (keqI v0.2.1 (Int.ofNat 0)) (Bool.and (keqS v0.2.2 (S.lit [])) true))) (cond (Bool.not (Bool.and (keqI v0.2.1 (Int.ofNat 0)) (Bool.and (keqS v0.2.2 (S.lit [])) true))) (some (([],[]),((Int.ofNat 1),()))) (cond v0.1 (match (cond (S.fitP p.2.2 p.2.1) (some ((S.settled p.2.2 p.2.1),())) none) with|none=>none|some v1=>(L6 ((IntKind.i64.wrap (Int.add p.1 (Int.ofNat 1))),[],v1.1))) (cond (ieqI (Int.ofNat p.2.1.length) (Int.ofNat 4000)) (some (([],[]),((Int.ofNat 3),()))) (cond (Nat.ble (Nat.mul (Nat.add p.2.1.length 1) 24) 140737488355328) (L6 ((IntKind.i64.wrap (Int.add p.1 (Int.ofNat 1))),(List.append p.2.1 [(v0.2.1,v0.2.2)]),p.2.2)) none)))) (cond (Bool.not v0.1) (cond (S.short v0.2.2) (some (([],[]),((Int.ofNat 1),()))) (cond (Bool.not (S.inI v0.2.1 (Int.ofNat 0) (IntKind.i64.wrap (Int.sub (Int.ofNat p.2.2.length) (Int.ofNat 1))))) (some (([],[]),((Int.ofNat 1),()))) (cond v0.1 (match (cond (S.fitP p.2.2 p.2.1) (some ((S.settled p.2.2 p.2.1),())) none) with|none=>none|some v27=>(L6 ((IntKind.i64.wrap (Int.add p.1 (Int.ofNat 1))),[],v27.1))) (cond (ieqI (Int.ofNat p.2.1.length) (Int.ofNat 4000)) (some (([],[]),((Int.ofNat 3),()))) (cond (Nat.ble (Nat.mul (Nat.add p.2.1.length 1) 24) 140737488355328) (L6 ((IntKind.i64.wrap (Int.add p.1 (Int.ofNat 1))),(List.append p.2.1 [(v0.2.1,v0.2.2)]),p.2.2)) none))))) (cond v0.1 (match (cond (S.fitP p.2.2 p.2.1) (some ((S.settled p.2.2 p.2.1),())) none) with|none=>none|some v28=>(L6 ((IntKind.i64.wrap (Int.add p.1 (Int.ofNat 1))),[],v28.1))) (cond (ieqI (Int.ofNat p.2.1.length) (Int.ofNat 4000)) (some (([],[]),((Int.ofNat 3),()))) (cond (Nat.ble (Nat.mul (Nat.add p.2.1.length 1) 24) 140737488355328) (L6 ((IntKind.i64.wrap (Int.add p.1 (Int.ofNat 1))),(List.append p.2.1 [(v0.2.1,v0.2.2)]),p.2.2)) none))))) (cond (Bool.not v0.1) (cond (S.short v0.2.2) (some (([],[]),((Int.ofNat 1),()))) (cond (Bool.not (S.inI v0.2.1 (Int.ofNat 0) (IntKind.i64.wrap (Int.sub (Int.ofNat p.2.2.length) (Int.ofNat 1))))) (some (([],[]),((Int.ofNat 1),()))) (cond v0.1 (match (cond (S.fitP p.2.2 p.2.1) (some ((S.settled p.2.2 p.2.1),())) none) with|none=>none|some v29=>(L6 ((IntKind.i64.wrap (Int.add p.1 (Int.ofNat 1))),[],v29.1))) (cond (ieqI (Int.ofNat p.2.1.length) (Int.ofNat 4000)) (some (([],[]),((Int.ofNat 3),()))) (cond (Nat.ble (Nat.mul (Nat.add p.2.1.length 1) 24) 140737488355328) (L6 ((IntKind.i64.wrap (Int.add p.1 (Int.ofNat 1))),(List.append p.2.1 [(v0.2.1,v0.2.2)]),p.2.2)) none))))) (cond v0.1 (match (cond (S.fitP p.2.2 p.2.1) (some ((S.settled p.2.2 p.2.1),())) none) with|none=>none|some v30=>(L6 ((IntKind.i64.wrap (Int.add p.1 (Int.ofNat 1))),[],v30.1))) (cond (ieqI (Int.ofNat p.2.1.length) (Int.ofNat 4000)) (some (([],[]),((Int.ofNat 3),()))) (cond (Nat.ble (Nat.mul (Nat.add p.2.1.length 1) 24) 140737488355328) (L6 ((IntKind.i64.wrap (Int.add p.1 (Int.ofNat 1))),(List.append p.2.1 [(v0.2.1,v0.2.2)]),p.2.2)) none)))))) (some ((p.2.2,p.2.1),((Int.ofNat 0),()))))
abbrev gz7:Type:=ElA [qav,(.list cAct)]->Option Rtz7
abbrev sz7(g:gz7):Sm:=⟨[qav,(.list cAct)],[(false,qav),(false,(.int .i64))],g⟩
abbrev Ez7(g:gz7)(J:JT Rtz7)(lf:Nat)(x1:qak)(x2:(List DAct)):=qb6 Try.prog ttT.get nmz7 fi20.nt (clz7 _ lf) lf stz7 J fi20.body [] (qaz (argV [qav,(.list cAct)] (x1,x2,())) 0 .leaf) S0 [] (qa2 ttT.get fi20 (sz7 g))
abbrev Bz7(g:gz7)(J:JT Rtz7)(lf k:Nat)(ms:List Nat)(q:NRes):=qct Try.prog ttT.get nmz7 fi20.nt (clz7 _ lf) lf stz7 J k fi20.body [] ms q (qa2 ttT.get fi20 (sz7 g))
theorem inz7(g:gz7)(J:JT Rtz7)(lf:Nat)(x1:qak)(x2:(List DAct)):Ez7 g J lf x1 x2=qru lf x1 x2 (fun q=>J 6 [lf] (qhh x1 x2 q)):=by kernel_rfl
theorem zfg(g:gz7)(J:JT Rtz7)(lf:Nat)(x1:qak)(x2:(List DAct))(m1:Nat)(p:Int × (List DPut) × (List ByteArray)):Bz7 g J lf 6 [m1] (qhh x1 x2 p)=qme lf x1 x2 (fun q=>J 6 [m1] (qhh x1 x2 q)) p:=by kernel_rfl
theorem ndz7:(regs fi20.body).Nodup:=by decide +kernel
theorem okz7:okC nmz7 stz7 hdz7 fi20.body none=true:=by kernel_rfl
def Az7(g:gz7)(lf:Nat):JT Rtz7:=atN Try.prog ttT.get nmz7 fi20 (sz7 g) (clz7 _ lf) lf hdz7
def qmu(lf:Nat)(x1:qak)(x2:(List DAct)):Nat->(Int × (List DPut) × (List ByteArray))->Option Rtz7:=qa9 fun K p=>qme lf x1 x2 K p
theorem q3x(g:gz7)(lf:Nat)(x1:qak)(x2:(List DAct)):∀(n:Nat) (p:Int × (List DPut) × (List ByteArray)),Az7 g lf 6 [n] (qhh x1 x2 p)=qmu lf x1 x2 n p
 | 0,p=>qb5 6 [0] rfl _
 | n+1,p=>by
  have ih:=q3x g lf x1 x2 n;refine(qb3 (qbh 20 _) ndz7 okz7 6 [n+1] [n] rfl _).trans ((zfg g (Az7 g lf) lf x1 x2 n p).trans ?_);rw[(show (fun q=>Az7 g lf 6 [n] (qhh x1 x2 q))=(fun q=>qmu lf x1 x2 n q) from funext ih)];rfl
def Fz7(lf:Nat)(x1:qak)(x2:(List DAct)):Option Rtz7:=qru lf x1 x2 (fun q=>qmu lf x1 x2 lf q)
theorem zbf(g:gz7)(lf:Nat)(x1:qak)(x2:(List DAct)):Ez7 g (Az7 g lf) lf x1 x2=Fz7 lf x1 x2:=by
  refine(inz7 g (Az7 g lf) lf x1 x2).trans ?_;rw[(show (fun q=>Az7 g lf 6 [lf] (qhh x1 x2 q))=(fun q=>qmu lf x1 x2 lf q) from funext fun q=>q3x g lf x1 x2 lf q)];rfl
theorem zgj:qbg Try.prog qzg:=trivial
theorem mkz7{g:gz7}(hsm:SmOK Try.prog q2e)(hg:∀(x:ElA [qav,(.list cAct)]) (y:Rtz7),WfA [qav,(.list cAct)] x->g x=some y->∃lf,Fz7 lf x.1 x.2.1=some y):Con Try.prog 20 ⟨[qav,(.list cAct)],[(false,qav),(false,(.int .i64))],g⟩ :=
 conV (st:=stz7) (fun lf x=>Fz7 lf x.1 x.2.1) cm3 zg6 zgj ndz7 okz7 (fun lf x=>zbf g lf x.1 x.2.1) hsm hg
def nmz8:Nat->Option Nm:=fun k=>cond (Nat.beq k 8) (some ⟨[2,4,7,32,33,34],[],[(7,0,.str)],[],[],0,0,false⟩) (none)
def stz8:Nat->Bool:=fun k=>cond (Nat.beq k 8) true (false)
def hdz8:=stz8
abbrev Rtz8:Type:=qak × Int × Unit
def qx6:List (Nat × Sm):=[(24,qg4),(27,qib),(34,qix)]
def qwn:List (Nat × Hx):=[(57,qm9 (.int .i64))]
def clz8(R:Type)(lf:Nat):ClK R:=qa8 Try.prog ttT.get ftT.get (nm1 21 nmz8) (smL qx6) (hxL qwn) lf 20 R
abbrev idz8:Nat:=21
def qh2(x1:qak)(x2:(List Int))(p:Int × (List ByteArray)):NRes:=(NRes.mk (.node none (.node none (.node none (.node (some (IV.ptr 2 0)) .leaf .leaf) .leaf) (.node none (.node none (.node none (.node (some (IV.int .i64 (Int.ofNat x2.length))) .leaf .leaf) .leaf) .leaf) .leaf)) (.node (some (IV.ptr 0 0)) (.node (some (IV.ptr 1 0)) (.node none (.node none (.node (some (IV.lst (TC.int .i64) x2)) .leaf .leaf) .leaf) .leaf) .leaf) (.node none (.node none (.node none (.node (some (IV.int .i64 p.1)) .leaf .leaf) .leaf) .leaf) .leaf))) (IS.mk (.node (some (IObj.row (List.cons (IV.lst TC.str x1.1) [(IV.lst cPut x1.2)]))) (.node (some (IObj.row (List.cons IV.nilsl [IV.nilsl]))) (.node (some (IObj.arr TC.str p.2)) .leaf .leaf) .leaf) (.node (some (IObj.row (List.cons (IV.arr 3) [IV.nilsl]))) .leaf .leaf)) 4) [] 0)
def qvf(lf:Nat)(x1:qak)(x2:(List Int))(L8:(Int × (List ByteArray))->Option Rtz8):Option Rtz8:=(cond (Bool.not (ieqI (S.checkDisk (x1.1,x1.2)) (Int.ofNat 0))) (some (([],[]),((S.checkDisk (x1.1,x1.2)),()))) (cond (iltI (Int.ofNat x1.2.length) (Int.ofNat x2.length)) (some (([],[]),((Int.ofNat 1),()))) (match (idxO (fun v0=>(some (Bool.not (S.inI v0 (Int.ofNat 0) (Int.ofNat 64))))) x2 0) with|none=>none|some v1=>(cond (Bool.not (iltI v1 (Int.ofNat 0))) (some (([],[]),((Int.ofNat 1),()))) (L8 ((Int.ofNat 0),x1.1))))))
def qor(lf:Nat)(x1:qak)(x2:(List Int))(L8:(Int × (List ByteArray))->Option Rtz8)(p:Int × (List ByteArray)):Option Rtz8:=(cond (iltI p.1 (Int.ofNat x2.length)) (match (jget x2 p.1) with|none=>none|some v0=>(match (jget x1.2 p.1) with|none=>none|some v1=>(cond (lchk (Int.ofNat 0) v0 (Int.ofNat v1.2.size) (Int.ofNat v1.2.size)) (match (jget p.2 v1.1) with|none=>none|some v2=>(match (GetElem?.getElem? p.2 (Int.toNat v1.1)) with|none=>none|some v3=>(cond (lchk v0 (Int.ofNat v3.size) (Int.ofNat v3.size) (Int.ofNat v3.size)) (cond (Nat.ble (Nat.succ (Nat.add (ByteArray.size (ByteArray.extract v1.2 0 (Int.toNat v0))) (ByteArray.size (ByteArray.extract v3 (Int.toNat v0) (Int.toNat (Int.ofNat v3.size)))))) 9223372036854775808) (match (jget p.2 v1.1) with|none=>none|some v4=>(match (GetElem?.getElem? p.2 (Int.toNat v1.1)) with|none=>none|some v5=>(L8 ((IntKind.i64.wrap (Int.add p.1 (Int.ofNat 1))),(List.set p.2 (Int.toNat v1.1) (ByteArray.append (ByteArray.extract v1.2 0 (Int.toNat v0)) (ByteArray.extract v3 (Int.toNat v0) (Int.toNat (Int.ofNat v3.size))))))))) none) none))) none))) (some ((p.2,[]),((Int.ofNat 0),()))))
abbrev gz8:Type:=ElA [qav,(.list (.int .i64))]->Option Rtz8
abbrev sz8(g:gz8):Sm:=⟨[qav,(.list (.int .i64))],[(false,qav),(false,(.int .i64))],g⟩
abbrev Ez8(g:gz8)(J:JT Rtz8)(lf:Nat)(x1:qak)(x2:(List Int)):=qb6 Try.prog ttT.get nmz8 fi21.nt (clz8 _ lf) lf stz8 J fi21.body [] (qaz (argV [qav,(.list (.int .i64))] (x1,x2,())) 0 .leaf) S0 [] (qa2 ttT.get fi21 (sz8 g))
abbrev Bz8(g:gz8)(J:JT Rtz8)(lf k:Nat)(ms:List Nat)(q:NRes):=qct Try.prog ttT.get nmz8 fi21.nt (clz8 _ lf) lf stz8 J k fi21.body [] ms q (qa2 ttT.get fi21 (sz8 g))
theorem inz8(g:gz8)(J:JT Rtz8)(lf:Nat)(x1:qak)(x2:(List Int)):Ez8 g J lf x1 x2=qvf lf x1 x2 (fun q=>J 8 [lf] (qh2 x1 x2 q)):=by kernel_rfl
theorem zfy(g:gz8)(J:JT Rtz8)(lf:Nat)(x1:qak)(x2:(List Int))(m1:Nat)(p:Int × (List ByteArray)):Bz8 g J lf 8 [m1] (qh2 x1 x2 p)=qor lf x1 x2 (fun q=>J 8 [m1] (qh2 x1 x2 q)) p:=by kernel_rfl
theorem ndz8:(regs fi21.body).Nodup:=by decide +kernel
theorem okz8:okC nmz8 stz8 hdz8 fi21.body none=true:=by kernel_rfl
def Az8(g:gz8)(lf:Nat):JT Rtz8:=atN Try.prog ttT.get nmz8 fi21 (sz8 g) (clz8 _ lf) lf hdz8
def qm1(lf:Nat)(x1:qak)(x2:(List Int)):Nat->(Int × (List ByteArray))->Option Rtz8:=qa9 fun K p=>qor lf x1 x2 K p
theorem q3r(g:gz8)(lf:Nat)(x1:qak)(x2:(List Int)):∀(n:Nat) (p:Int × (List ByteArray)),Az8 g lf 8 [n] (qh2 x1 x2 p)=qm1 lf x1 x2 n p
 | 0,p=>qb5 8 [0] rfl _
 | n+1,p=>by
  have ih:=q3r g lf x1 x2 n;refine(qb3 (qbh 20 _) ndz8 okz8 8 [n+1] [n] rfl _).trans ((zfy g (Az8 g lf) lf x1 x2 n p).trans ?_);rw[(show (fun q=>Az8 g lf 8 [n] (qh2 x1 x2 q))=(fun q=>qm1 lf x1 x2 n q) from funext ih)];rfl
def Fz8(lf:Nat)(x1:qak)(x2:(List Int)):Option Rtz8:=qvf lf x1 x2 (fun q=>qm1 lf x1 x2 lf q)
theorem zh5(g:gz8)(lf:Nat)(x1:qak)(x2:(List Int)):Ez8 g (Az8 g lf) lf x1 x2=Fz8 lf x1 x2:=by
  refine(inz8 g (Az8 g lf) lf x1 x2).trans ?_;rw[(show (fun q=>Az8 g lf 8 [lf] (qh2 x1 x2 q))=(fun q=>qm1 lf x1 x2 lf q) from funext fun q=>q3r g lf x1 x2 lf q)];rfl
theorem zc7:qbg Try.prog qwn:=⟨zdv,trivial⟩
theorem mkz8{g:gz8}(hsm:SmOK Try.prog qx6)(hg:∀(x:ElA [qav,(.list (.int .i64))]) (y:Rtz8),WfA [qav,(.list (.int .i64))] x->g x=some y->∃lf,Fz8 lf x.1 x.2.1=some y):Con Try.prog 21 ⟨[qav,(.list (.int .i64))],[(false,qav),(false,(.int .i64))],g⟩ :=
 conV (st:=stz8) (fun lf x=>Fz8 lf x.1 x.2.1) cm3 zk3 zc7 ndz8 okz8 (fun lf x=>zh5 g lf x.1 x.2.1) hsm hg
abbrev qo6:Type:=Bool × Unit
abbrev zc8:Nat:=27
def qx0(lf:Nat)(x1:Int)(x2:Int)(x3:Int):Option qo6:=(cond (Bool.not (iltI x1 x2)) (some ((Bool.not (iltI x3 x1)),())) (some (false,())))
def qnb(lf:Nat)(x1:Int)(x2:Int)(x3:Int):Option qo6:=qx0 lf x1 x2 x3
theorem zhw{g:ElA [(.int .i64),(.int .i64),(.int .i64)]->Option qo6}(hsm:SmOK Try.prog [])(hg:∀(x:ElA [(.int .i64),(.int .i64),(.int .i64)]) (y:qo6),WfA [(.int .i64),(.int .i64),(.int .i64)] x->g x=some y->∃lf,qnb lf x.1 x.2.1 x.2.2.1=some y):Con Try.prog 27 ⟨[(.int .i64),(.int .i64),(.int .i64)],[(false,.bool)],g⟩ :=
 conU (fi:=fi27) (hxl:=[]) (fun lf x=>qnb lf x.1 x.2.1 x.2.2.1) cm3 zca trivial hsm hg
abbrev qmy:Type:=Bool × Unit
abbrev q7j:Nat:=36
def qxu(lf:Nat)(x1:ByteArray):Option qmy:=(some ((Bool.not (ieqI (Int.ofNat x1.size) (Int.ofNat 64))),()))
def qod(lf:Nat)(x1:ByteArray):Option qmy:=qxu lf x1
theorem zjm{g:ElA [.str]->Option qmy}(hsm:SmOK Try.prog [])(hg:∀(x:ElA [.str]) (y:qmy),WfA [.str] x->g x=some y->∃lf,qod lf x.1=some y):Con Try.prog 36 ⟨[.str],[(false,.bool)],g⟩ :=
 conU (fi:=fi36) (hxl:=[]) (fun lf x=>qod lf x.1) cm3 zew trivial hsm hg
abbrev qpc:Type:=qak × Int × Unit
abbrev zdm:Nat:=32
def qx7(lf:Nat)(x1:Int):Option qpc:=(cond (Bool.not (S.inI x1 (Int.ofNat 8) (Int.ofNat 1000))) (some (([],[]),((Int.ofNat 1),()))) (cond (Bool.not (ieqI (Int.tmod x1 (Int.ofNat 2)) (Int.ofNat 0))) (some (([],[]),((Int.ofNat 1),()))) (match (cond (S.inI x1 (Int.ofNat 0) (Int.ofNat 1000)) (some ((List.replicate (Int.toNat x1) S.blank),())) none) with|none=>none|some v0=>(some ((v0.1,[]),((Int.ofNat 0),()))))))
def qlk(lf:Nat)(x1:Int):Option qpc:=qx7 lf x1
theorem zai{g:ElA [(.int .i64)]->Option qpc}(hsm:SmOK Try.prog [(27,qib),(44,qmf),(43,qic)])(hg:∀(x:ElA [(.int .i64)]) (y:qpc),WfA [(.int .i64)] x->g x=some y->∃lf,qlk lf x.1=some y):Con Try.prog 32 ⟨[(.int .i64)],[(false,qav),(false,(.int .i64))],g⟩ :=
 conU (fi:=fi32) (hxl:=[]) (fun lf x=>qlk lf x.1) cm3 zdq trivial hsm hg
abbrev qlz:Type:=Int × Unit
abbrev zfm:Nat:=24
def qxg(lf:Nat)(x1:qak):Option qlz:=(cond (iltI (Int.ofNat 1000) (Int.ofNat x1.1.length)) (some ((Int.ofNat 3),())) (cond (iltI (Int.ofNat 4000) (Int.ofNat x1.2.length)) (some ((Int.ofNat 3),())) (match (idxO (fun v0=>(cond (S.short v0.2) (some true) (some (Bool.not (S.inI v0.1 (Int.ofNat 0) (IntKind.i64.wrap (Int.sub (Int.ofNat x1.1.length) (Int.ofNat 1)))))))) x1.2 0) with|none=>none|some v1=>(cond (iltI (Int.ofNat x1.1.length) (Int.ofNat 8)) (some ((Int.ofNat 1),())) (cond (Bool.not (ieqI (Int.ofNat (Nat.mod x1.1.length 2)) (Int.ofNat 0))) (some ((Int.ofNat 1),())) (cond (Bool.not (iltI v1 (Int.ofNat 0))) (some ((Int.ofNat 1),())) (match (idxO (fun v2=>(some (S.short v2))) x1.1 0) with|none=>none|some v3=>(cond (Bool.not (iltI v3 (Int.ofNat 0))) (some ((Int.ofNat 1),())) (some ((Int.ofNat 0),()))))))))))
def ql1(lf:Nat)(x1:qak):Option qlz:=qxg lf x1
theorem zig{g:ElA [qav]->Option qlz}(hsm:SmOK Try.prog [(36,qs3),(27,qib)])(hg:∀(x:ElA [qav]) (y:qlz),WfA [qav] x->g x=some y->∃lf,ql1 lf x.1=some y):Con Try.prog 24 ⟨[qav],[(false,(.int .i64))],g⟩ :=
 conU (fi:=fi24) (hxl:=[(60,qm9 cPut),(61,qm9 .str)]) (fun lf x=>ql1 lf x.1) cm3 zl2 ⟨zim,⟨zcz,trivial⟩⟩ hsm hg
def nmz9:Nat->Option Nm:=fun k=>cond (Nat.beq k 3) (some ⟨[5,10,11,12],[],[],[],[],0,0,false⟩) (none)
def stz9:Nat->Bool:=fun k=>cond (Nat.beq k 3) true (false)
def hdz9:=stz9
abbrev Rtz9:Type:=(List ByteArray) × Unit
def q36:List (Nat × Sm):=[(34,qix)]
def qwk:List (Nat × Hx):=[]
def clz9(R:Type)(lf:Nat):ClK R:=qa8 Try.prog ttT.get ftT.get (nm1 37 nmz9) (smL q36) (hxL qwk) lf 20 R
abbrev idz9:Nat:=37
def qid(x1:(List ByteArray))(x2:(List DPut))(p:Int × (List ByteArray)):NRes:=(NRes.mk (.node none (.node none (.node none .leaf (.node (some (IV.int .i64 (Int.ofNat x2.length))) .leaf .leaf)) (.node (some (IV.arr 0)) .leaf .leaf)) (.node none (.node none .leaf (.node (some (IV.int .i64 p.1)) .leaf .leaf)) (.node none (.node (some (IV.lst cPut x2)) .leaf .leaf) .leaf))) (IS.mk (.node (some (IObj.arr TC.str p.2)) .leaf .leaf) 1) [] 0)
def qvr(lf:Nat)(x1:(List ByteArray))(x2:(List DPut))(L3:(Int × (List ByteArray))->Option Rtz9):Option Rtz9:=(L3 ((Int.ofNat 0),x1))
def qo7(lf:Nat)(x1:(List ByteArray))(x2:(List DPut))(L3:(Int × (List ByteArray))->Option Rtz9)(p:Int × (List ByteArray)):Option Rtz9:=(cond (iltI p.1 (Int.ofNat x2.length)) (match (jget x2 p.1) with|none=>none|some v0=>(match (jget p.2 v0.1) with|none=>none|some v1=>(match (GetElem?.getElem? p.2 (Int.toNat v0.1)) with|none=>none|some v2=>(L3 ((IntKind.i64.wrap (Int.add p.1 (Int.ofNat 1))),(List.set p.2 (Int.toNat v0.1) v0.2)))))) (some (p.2,())))
abbrev gz9:Type:=ElA [(.list .str),(.list cPut)]->Option Rtz9
abbrev sz9(g:gz9):Sm:=⟨[(.list .str),(.list cPut)],[(true,.str)],g⟩
abbrev Ez9(g:gz9)(J:JT Rtz9)(lf:Nat)(x1:(List ByteArray))(x2:(List DPut)):=qb6 Try.prog ttT.get nmz9 fi37.nt (clz9 _ lf) lf stz9 J fi37.body [] (qaz (argV [(.list .str),(.list cPut)] (x1,x2,())) 0 .leaf) S0 [] (qa2 ttT.get fi37 (sz9 g))
abbrev Bz9(g:gz9)(J:JT Rtz9)(lf k:Nat)(ms:List Nat)(q:NRes):=qct Try.prog ttT.get nmz9 fi37.nt (clz9 _ lf) lf stz9 J k fi37.body [] ms q (qa2 ttT.get fi37 (sz9 g))
theorem inz9(g:gz9)(J:JT Rtz9)(lf:Nat)(x1:(List ByteArray))(x2:(List DPut)):Ez9 g J lf x1 x2=qvr lf x1 x2 (fun q=>J 3 [lf] (qid x1 x2 q)):=by kernel_rfl
theorem zmc(g:gz9)(J:JT Rtz9)(lf:Nat)(x1:(List ByteArray))(x2:(List DPut))(m1:Nat)(p:Int × (List ByteArray)):Bz9 g J lf 3 [m1] (qid x1 x2 p)=qo7 lf x1 x2 (fun q=>J 3 [m1] (qid x1 x2 q)) p:=by kernel_rfl
theorem ndz9:(regs fi37.body).Nodup:=by decide +kernel
theorem okz9:okC nmz9 stz9 hdz9 fi37.body none=true:=by kernel_rfl
def Az9(g:gz9)(lf:Nat):JT Rtz9:=atN Try.prog ttT.get nmz9 fi37 (sz9 g) (clz9 _ lf) lf hdz9
def qmc(lf:Nat)(x1:(List ByteArray))(x2:(List DPut)):Nat->(Int × (List ByteArray))->Option Rtz9:=qa9 fun K p=>qo7 lf x1 x2 K p
theorem q0h(g:gz9)(lf:Nat)(x1:(List ByteArray))(x2:(List DPut)):∀(n:Nat) (p:Int × (List ByteArray)),Az9 g lf 3 [n] (qid x1 x2 p)=qmc lf x1 x2 n p
 | 0,p=>qb5 3 [0] rfl _
 | n+1,p=>by
  have ih:=q0h g lf x1 x2 n;refine(qb3 (qbh 20 _) ndz9 okz9 3 [n+1] [n] rfl _).trans ((zmc g (Az9 g lf) lf x1 x2 n p).trans ?_);rw[(show (fun q=>Az9 g lf 3 [n] (qid x1 x2 q))=(fun q=>qmc lf x1 x2 n q) from funext ih)];rfl
def Fz9(lf:Nat)(x1:(List ByteArray))(x2:(List DPut)):Option Rtz9:=qvr lf x1 x2 (fun q=>qmc lf x1 x2 lf q)
theorem zbk(g:gz9)(lf:Nat)(x1:(List ByteArray))(x2:(List DPut)):Ez9 g (Az9 g lf) lf x1 x2=Fz9 lf x1 x2:=by
  refine(inz9 g (Az9 g lf) lf x1 x2).trans ?_;rw[(show (fun q=>Az9 g lf 3 [lf] (qid x1 x2 q))=(fun q=>qmc lf x1 x2 lf q) from funext fun q=>q0h g lf x1 x2 lf q)];rfl
theorem q97:qbg Try.prog qwk:=trivial
theorem mkz9{g:gz9}(hsm:SmOK Try.prog q36)(hg:∀(x:ElA [(.list .str),(.list cPut)]) (y:Rtz9),WfA [(.list .str),(.list cPut)] x->g x=some y->∃lf,Fz9 lf x.1 x.2.1=some y):Con Try.prog 37 ⟨[(.list .str),(.list cPut)],[(true,.str)],g⟩ :=
 conV (st:=stz9) (fun lf x=>Fz9 lf x.1 x.2.1) cm3 zda q97 ndz9 okz9 (fun lf x=>zbk g lf x.1 x.2.1) hsm hg
abbrev qnd:Type:=(List ByteArray) × Unit
abbrev zbq:Nat:=34
def q4k(lf:Nat)(x1:(List ByteArray)):Option qnd:=(match x1 with|.nil  => none|.cons v0 v1=>(cond (Nat.ble (Nat.mul (Nat.add 0 x1.length) 16) 140737488355328) (some (x1,())) none))
def qqw(lf:Nat)(x1:(List ByteArray)):Option qnd:=q4k lf x1
theorem zbp{g:ElA [(.list .str)]->Option qnd}(hsm:SmOK Try.prog [])(hg:∀(x:ElA [(.list .str)]) (y:qnd),WfA [(.list .str)] x->g x=some y->∃lf,qqw lf x.1=some y):Con Try.prog 34 ⟨[(.list .str)],[(true,.str)],g⟩ :=
 conU (fi:=fi34) (hxl:=[]) (fun lf x=>qqw lf x.1) cm3 qvq trivial hsm hg
abbrev qok:Type:=(List DPut) × Unit
abbrev zd1:Nat:=35
def qzt(lf:Nat)(x1:(List DPut)):Option qok:=(match x1 with|.nil  => none|.cons v0 v1=>(cond (Nat.ble (Nat.mul (Nat.add 0 x1.length) 24) 140737488355328) (some (x1,())) none))
def qqf(lf:Nat)(x1:(List DPut)):Option qok:=qzt lf x1
theorem q80{g:ElA [(.list cPut)]->Option qok}(hsm:SmOK Try.prog [])(hg:∀(x:ElA [(.list cPut)]) (y:qok),WfA [(.list cPut)] x->g x=some y->∃lf,qqf lf x.1=some y):Con Try.prog 35 ⟨[(.list cPut)],[(true,cPut)],g⟩ :=
 conU (fi:=fi35) (hxl:=[]) (fun lf x=>qqf lf x.1) cm3 qwo trivial hsm hg
end Go.Proofs.Ytnhmanoiolfapaa
end

section
namespace Go.Jx
open Go Go.Sx Go.RowKit
universe u
inductive NoD (n:Nat):Type
instance (n:Nat):Dat (NoD n) where
 sz:=n
 enc _ _ _ x:=nomatch x
 len {_ _ _ x} _:=nomatch x
 mono {_ _ _ _ _ x} _ _:=nomatch x
 ones {_ _ _ x} _:=nomatch x
theorem q5u{E:Env}{c:TC}{u:Value}(h:VR E (.lst c []) u):∃a cap,u=.slice a 0 cap/\cap<9223372036854775808:=by
 cases h with
 | lst0 hc=>exact⟨_,_,rfl,hc⟩
 | lst us h1 h2 h3 hb hh hc hu=>exact⟨_,_,rfl,h2⟩
theorem q5o{M:List Nat}{w w':World}{c:TC}{n:Nat}{e:Ending}(hn:n=csz c)(hu:¬c=.int .u8)(hM:∀b∈M,b<w.heap.size)(h:Ret (fun v w'=>∃a' c' m',v=.slice a' 0 c'/\Go.Sx.Own m' M w' a' c' ([]:List (NoD n))/\Evo [] w m' w') e w') :
  RetE T0 (EM M w) S0 ⟨.arr 0,addO [.arr c []] S0,0,0⟩ e w':=by
 cases e with
 | returned v =>
  obtain⟨a,k,m,rfl,ho,ev⟩:=h;have hH:∀id o,(addO [IObj.arr c []] S0).H id=some o->id=0/\o=.arr c []:=fun id o ho=>by
   rw[qb8] at ho;have e0:S0.next=0:=rfl
   rw[e0,jan (by omega)] at ho;split at ho
   ·rename_i h1;have h1:id<1:=by simpa using h1
    obtain rfl:id=0:=by omega
    exact⟨rfl,by simpa using ho.symm⟩
   ·cases ho
  have key:∃(E':Env),E'.w=w'/\E'.A=(fun id=>id=0)/\E'.hd 0=.slice a 0 k/\(∀b∈E'.m,b∈M\/w.heap.size<=b)/\(∀b∈M,b∈E'.m)/\(∀b∈E'.m,b<w'.heap.size)/\OR E' 0 (.arr c [])/\(E'.hb 0=true->E'.ρ 0∈E'.m/\w.heap.size<=E'.ρ 0):=by
   rcases ho with ⟨rfl,rfl,_⟩|⟨g,cells,rfl,g1,g2,g3,g4,g5,g6⟩
   ·exact⟨⟨fun _=>0,fun _=>0,fun _=>.slice none 0 0,fun _=>false,fun id=>id=0,M,w'⟩,rfl,rfl,rfl,fun b hb=>.inl hb,fun b hb=>hb,fun b hb=>jbf (hM b hb) ev.size,⟨none,0,rfl,jaq _,by omega,by simp,.inl ⟨rfl,rfl,fun _=>rfl⟩⟩,fun h=>by cases h⟩
   ·have hg:w.heap.size<=g:=by
     rcases ev.own g g1 with h|h
     ·cases h
     ·exact h
    obtain⟨t,g3⟩:=g3;refine⟨⟨fun _=>g,fun _=>0,fun _=>.slice (some ⟨g,0,none⟩) 0 k,fun _=>true,fun id=>id=0,g::M,w'⟩,rfl,rfl,rfl,fun b hb=>?_,fun b hb=>ja7 _ hb,fun b hb=>?_,⟨some ⟨g,0,none⟩,k,rfl,jb3 _,g5.2,by simp,.inr ⟨rfl,rfl,cells.toArray,t,g3,⟨?_,fun e=>absurd e hu⟩,fun _ _=>.nilFunc,fun i hi=>absurd hi (by simp),fun i hi=>absurd hi (by simp)⟩⟩,fun _=>⟨jby,hg⟩⟩
    ·rcases jav.1 hb with h|h
     ·exact .inr (h▸hg)
     ·exact .inl h
    ·rcases jav.1 hb with h|h
     ·rw[h];exact qas g3
     ·exact jbf (hM b h) ev.size
    ·have e2:Dat.sz (NoD n)=csz c:=hn;rw[e2] at g4;simp[g4]
  obtain⟨E',rfl,hA,hd,k1,k2,k3,k4,k5⟩:=key;have hL:∀id,E'.A id->Live E' (addO [IObj.arr c []] S0).H id->id=0/\E'.ρ 0∈E'.m/\w.heap.size<=E'.ρ 0:=fun id hid ⟨h1,_⟩=>by
   rw[hA] at hid;have hid:id=0:=hid;subst hid;exact⟨rfl,k5 h1⟩
  refine⟨_,E',rfl,rfl,.arr (by rw[hA]) hd,⟨⟨fun id _ hid o ho=>?_,fun id _ hid o ho hb=>?_,fun id _ hid hl=>?_,fun i j _ _ hi hj _ _ _=>?_,k3⟩,⟨ev.os,ev.tape,ev.output,ev.size,fun b hb _=>ev.same b hb (by simp),fun id h=>h.elim,fun id h _ hl=>?_,fun id _ h=>h.elim,k1,fun b hb _=>.inl (k2 b hb)⟩,fun id hid=>?_,jb3 _⟩,⟨fun id _ _=>jb3 _⟩⟩
  ·obtain⟨rfl,rfl⟩:=hH id o ho;exact k4
  ·obtain⟨rfl,rfl⟩:=hH id o ho;cases hb
  ·obtain⟨rfl,h1,_⟩:=hL id hid hl;exact h1
  ·rw[hA] at hi hj;have hi:i=0:=hi;have hj:j=0:=hj;rw[hi,hj]
  ·obtain⟨rfl,_,h2⟩:=hL id h hl;exact .inl h2
  ·rw[hA] at hid;have hid:id=0:=hid;subst hid;exact Nat.one_pos
 | panicked c=>exact h.elim
 | outgrown=>exact h.elim
end Go.Jx
end

noncomputable section
set_option maxRecDepth 100000
namespace Go.Proofs.Ytnhmanoiolfapaa
open Go Go.Sx Go.RowKit Go.Jx
theorem zfu{M:List Nat}{w:World}{a:Option Addr}{cap:Nat}(hM:Lo M w)(hc:cap<9223372036854775808):Calls Try.prog 34 #[.slice a 0 cap] w (Ret fun v w'=>∃a' c' m',v=.slice a' 0 c'/\Go.Sx.Own m' M w' a' c' ([]:List (NoD 1))/\Evo [] w m' w'):=by
 have hS:SL M w a cap ([]:List (NoD 1)):=⟨⟨jb3 _,hc⟩,.inl rfl⟩;refine enter (l:=[.slice a 0 cap]) Try.func34 rfl Try.ntmps34 rfl ?_;refine qal fun KhK1 hK1=>?_;refine qau ?_;refine qay (v:=.slice none 0 0) rfl rfl rfl ?_;refine jbc ?_;refine hK1 _ _ ?_;refine qal fun KhK2 hK2=>?_;refine qal fun KhK3 hK3=>?_;refine qau ?_;refine qaw (v:=.slice a 0 cap) rfl rfl rfl ?_;refine qr1 ty27 rfl rfl rfl rfl ?_;refine jbc ?_;refine hK3 _ _ ?_;refine qo1 rfl rfl (fun hb4=>?_) (fun hb4=>?_)
 ·refine qal fun KhK5 hK5=>?_;refine qau ?_;refine qay (v:=.slice none 0 0) rfl rfl rfl ?_;refine jbc ?_;refine hK5 _ _ ?_;refine je3 ?_;exact ret1 Try.results34 rfl ⟨none,0,[],rfl,Go.Sx.Own.nil,Evo.refl [] w⟩
 ·refine je1 ?_;refine hK2 _ _ ?_;refine qal fun KhK7 hK7=>?_;refine qau ?_;refine qrt (α:=NoD 1) (m:=[]) (M:=M) ty27 ty9 rfl (hM.mono (Evo.refl [] w).size) fun β14 w15 hβ16 u17 hz18 ho19=>?_;have e20:=u17.evoN (m:=[]) hβ16 hz18;refine qaw (v:=.slice a 0 cap) rfl rfl rfl ?_;refine qmj ty27 ty27 ty9 rfl rfl rfl rfl rfl rfl rfl ho19 (hS.mono (e20.tr M)) (hM.mono e20.size) (by simp) fun a22 c23 w24 m25 ho26 e27 u28 hbk29 hsub30=>?_;refine qay (v:=.slice a22 (([]:List (NoD 1))++[]).length c23) rfl rfl rfl ?_;refine jbc ?_;refine hK7 _ _ ?_;refine je3 ?_;exact ret1 Try.results34 rfl ⟨a22,c23,m25,rfl,ho26,e20.trans e27⟩
theorem zcv:Con Try.prog 34 ⟨[.list .str],[(true,.str)],fun x=>match x.1 with|[]=>none|v::l=>some (x.1,())⟩:=zbp trivial fun x y hx h=>⟨0,by
 obtain⟨l,_⟩:=x;have hl:=qdw hx.1;have hb:=hx.1.1;cases l with
 | nil=>cases h
 | cons v l =>
  cases h;simp only[qqw,q4k];exact Eq.trans (jaw (fun b=>cond b (some (v::l,())) none) (ja0 (jbj (jdj (jaw (fun z=>Nat.mul z 16) (jbk _))) hb))) rfl⟩
theorem qnn:Con Try.prog zbq qix:=by
 refine⟨qvq,fun M w x us y hy hM hg hv=>?_⟩;obtain⟨l,_⟩:=x;cases l with
 | cons v l=>exact zcv.calls M w (v::l,()) us y hy hM hg hv
 | nil =>
  cases hy;obtain⟨u,us2,rfl,h1,h2⟩:=hv.inv;obtain rfl:us2=[]:=jay.1 h2.1.symm;obtain⟨a,cap,rfl,hc⟩:=q5u h1;refine jde.2 ((zfu (M:=M) hM hc).mono fun e w' hR=>?_);exact q5o rfl (fun e=>by cases e) hM hR

theorem zgh{M:List Nat}{w:World}{a:Option Addr}{cap:Nat}(hM:Lo M w)(hc:cap<9223372036854775808):Calls Try.prog 35 #[.slice a 0 cap] w (Ret fun v w'=>∃a' c' m',v=.slice a' 0 c'/\Go.Sx.Own m' M w' a' c' ([]:List (NoD 2))/\Evo [] w m' w'):=by
 have hS:SL M w a cap ([]:List (NoD 2)):=⟨⟨jb3 _,hc⟩,.inl rfl⟩;refine enter (l:=[.slice a 0 cap]) Try.func35 rfl Try.ntmps35 rfl ?_;refine qal fun KhK1 hK1=>?_;refine qau ?_;refine qay (v:=.slice none 0 0) rfl rfl rfl ?_;refine jbc ?_;refine hK1 _ _ ?_;refine qal fun KhK2 hK2=>?_;refine qal fun KhK3 hK3=>?_;refine qau ?_;refine qaw (v:=.slice a 0 cap) rfl rfl rfl ?_;refine qr1 ty28 rfl rfl rfl rfl ?_;refine jbc ?_;refine hK3 _ _ ?_;refine qo1 rfl rfl (fun hb4=>?_) (fun hb4=>?_)
 ·refine qal fun KhK5 hK5=>?_;refine qau ?_;refine qay (v:=.slice none 0 0) rfl rfl rfl ?_;refine jbc ?_;refine hK5 _ _ ?_;refine je3 ?_;exact ret1 Try.results35 rfl ⟨none,0,[],rfl,Go.Sx.Own.nil,Evo.refl [] w⟩
 ·refine je1 ?_;refine hK2 _ _ ?_;refine qal fun KhK7 hK7=>?_;refine qau ?_;refine qrt (α:=NoD 2) (m:=[]) (M:=M) ty28 ty56 rfl (hM.mono (Evo.refl [] w).size) fun β14 w15 hβ16 u17 hz18 ho19=>?_;have e20:=u17.evoN (m:=[]) hβ16 hz18;refine qaw (v:=.slice a 0 cap) rfl rfl rfl ?_;refine qmj ty28 ty28 ty56 rfl rfl rfl rfl rfl rfl rfl ho19 (hS.mono (e20.tr M)) (hM.mono e20.size) (by simp) fun a22 c23 w24 m25 ho26 e27 u28 hbk29 hsub30=>?_;refine qay (v:=.slice a22 (([]:List (NoD 2))++[]).length c23) rfl rfl rfl ?_;refine jbc ?_;refine hK7 _ _ ?_;refine je3 ?_;exact ret1 Try.results35 rfl ⟨a22,c23,m25,rfl,ho26,e20.trans e27⟩
theorem zk0:Con Try.prog 35 ⟨[.list cPut],[(true,cPut)],fun x=>match x.1 with|[]=>none|v::l=>some (x.1,())⟩:=q80 trivial fun x y hx h=>⟨0,by
 obtain⟨l,_⟩:=x;have hl:=qdw hx.1;have hb:=hx.1.1;cases l with
 | nil=>cases h
 | cons v l =>
  cases h;simp only[qqf,qzt];exact Eq.trans (jaw (fun b=>cond b (some (v::l,())) none) (ja0 (jbj (jdj (jaw (fun z=>Nat.mul z 24) (jbk _))) hb))) rfl⟩
theorem zin:Con Try.prog zd1 q33:=by
 refine⟨qwo,fun M w x us y hy hM hg hv=>?_⟩;obtain⟨l,_⟩:=x;cases l with
 | cons v l=>exact zk0.calls M w (v::l,()) us y hy hM hg hv
 | nil =>
  cases hy;obtain⟨u,us2,rfl,h1,h2⟩:=hv.inv;obtain rfl:us2=[]:=jay.1 h2.1.symm;obtain⟨a,cap,rfl,hc⟩:=q5u h1;refine jde.2 ((zgh (M:=M) hM hc).mono fun e w' hR=>?_);exact q5o rfl (fun e=>by cases e) hM hR
theorem qsz(a b:Int):decide (a<=b)=!decide (b<a):=by
 by_cases h:b<a
 ·rw[jao h,jar (by omega)];rfl
 ·rw[jar h,jao (by omega)];rfl
theorem zgf(n lo hi:Int):S.inI n lo hi=(!iltI n lo&&!iltI hi n):=by unfold S.inI;rw[qsz,qsz,qa5,qa5]
theorem qbk{n lo hi:Int}:S.inI n lo hi=true↔lo<=n/\n<=hi:=by unfold S.inI;rw[jae,jd5,jd5]
theorem qba{α:Type}{b:Bool}{x y:α}(h:cond b (some x) none=some y):b=true/\x=y:=by
 cases b
 ·cases h
 ·exact⟨rfl,jb1 h⟩
theorem wrap_in{n:Int}(h:-9223372036854775808<=n/\n<9223372036854775808):IntKind.i64.wrap n=n:=qez h
theorem qbl{n:Nat}(h:n<9223372036854775808):IntKind.i64.wrap (Int.ofNat n)=Int.ofNat n:=qez (by show -_<=(n:Int)/\(n:Int)<_;omega)
theorem qzq{n:Nat}(h:n<LF):IntKind.i64.wrap (Int.sub (Int.ofNat n) (Int.ofNat 1))=(n:Int)-1:=by
 unfold LF at h;exact qez (by show -9223372036854775808<=(n:Int)-1/\(n:Int)-1<9223372036854775808;omega)
theorem zh2(lf:Nat)(n lo hi:Int):qnb lf n lo hi=some (S.inI n lo hi,()):=by
 simp only[qnb,qx0];rw[zgf];cases iltI n lo<;>rfl
theorem qkx:Con Try.prog zc8 qib:=zhw trivial fun x y hx h=>⟨0,(zh2 0 _ _ _).trans h⟩
theorem q7p(s:ByteArray):S.short s=!ieqI (Int.ofNat s.size) (Int.ofNat 64):=by
 unfold S.short;rw[q27]
theorem zkj(lf:Nat)(s:ByteArray):qod lf s=some (S.short s,()):=by
 simp only[qod,qxu];rw[q7p]
theorem q29:Con Try.prog q7j qs3:=zjm trivial fun x y hx h=>⟨0,(zkj 0 x.1).trans h⟩
theorem zg0{n:Int}(h:0<=n):Int.tmod n (Int.ofNat 2)=n % 2:=jef h
theorem q84(lf:Nat)(n:Int):qlk lf n=some ((S.newDisk n).1,(S.newDisk n).2,()):=by
 simp only[qlk,qx7,S.newDisk];by_cases h1:S.inI n 8 1000=true
 ·obtain⟨h2,h3⟩:=qbk.1 h1;rw[show S.inI n (Int.ofNat 8) (Int.ofNat 1000)=true from h1,jbb,jah,zg0 (by omega)];by_cases h4:n % 2=0
  ·rw[qbm (show n % 2=Int.ofNat 0 from h4),jbb,jah,show S.inI n (Int.ofNat 0) (Int.ofNat 1000)=true from qbk.2 ⟨by show (0:Int)<=n;omega,h3⟩,jab,jam ⟨h1,h4⟩];rfl
  ·rw[qbn (show ¬n % 2=Int.ofNat 0 from h4),ja4,jab,jan (fun e=>h4 e.2)];rfl
 ·rw[show S.inI n (Int.ofNat 8) (Int.ofNat 1000)=false from jdb.2 h1,ja4,jab,jan (fun e=>h1 e.1)];rfl
theorem zi0:S.lit [0,0,0,0,0,0,0,0,0,0,0,0,0,0,0,0,0,0,0,0,0,0,0,0,0,0,0,0,0,0,0,0,0,0,0,0,0,0,0,0,0,0,0,0,0,0,0,0,0,0,0,0,0,0,0,0,0,0,0,0,0,0,0,0]=S.blank:=by kernel_rfl
theorem qmq{α:Type}(p:α->Bool)(l:List α):(!iltI (Go.Jx.S.idx p l) (Int.ofNat 0))=l.any p:=by
 cases h:l.any p with
 | true=>rw[qfj (by have:=(Go.Jx.S.idx_nonneg p l).2 h;show ¬_<(0:Int);omega)];rfl
 | false =>
  rw[qei (by
   show _<(0:Int);refine Int.not_le.1 fun e=>?_;rw[(Go.Jx.S.idx_nonneg p l).1 e] at h;cases h)];rfl
theorem zgm(lf:Nat)(d:qak)(hl:d.1.length<LF):ql1 lf d=some (S.checkDisk d,()):=by
 have e1:idxO (fun v0:DPut=>(cond (S.short v0.2) (some true) (some (!(S.inI v0.1 (Int.ofNat 0) (IntKind.i64.wrap (Int.sub (Int.ofNat d.1.length) (Int.ofNat 1)))))))) d.2 0=some (Go.Jx.S.idx (S.badPut d.1.length) d.2):=qps (S.badPut d.1.length) fun x _=>by
  rw[qzq hl];unfold S.badPut;cases S.short x.2<;>rfl
 have e2:idxO (fun v2:ByteArray=>(some (S.short v2))) d.1 0=some (Go.Jx.S.idx S.short d.1):=qps S.short fun _ _=>rfl;simp only[ql1,qxg,S.checkDisk,qcb];rw[e1];simp only[qmq];rw[e2];simp only[qmq];by_cases h1:1000<d.1.length
 ·rw[jao h1,jab,jam (.inl h1)];rfl
 rw[jar h1,jah];by_cases h2:4000<d.2.length
 ·rw[jao h2,jab,jam (.inr h2)];rfl
 rw[jar h2,jah,jan (by omega)];by_cases h3:d.1.length<8
 ·rw[jao h3,jab,jam (.inl h3)];rfl
 rw[jar h3,jah];by_cases h4:d.1.length % 2=0
 ·rw[qbm (show Int.ofNat (Nat.mod d.1.length 2)=Int.ofNat 0 from jaw Int.ofNat h4),jbb,jah];cases h5:d.2.any (S.badPut d.1.length) with
  | true=>rw[jab,jam (.inr (.inr (.inl rfl)))];rfl
  | false =>
   rw[jah];cases h6:d.1.any S.short with
   | true=>rw[jab,jam (.inr (.inr (.inr rfl)))];rfl
   | false=>rw[jah,jan (by simp[h3,h4])];rfl
 ·rw[qbn (show ¬Int.ofNat (Nat.mod d.1.length 2)=Int.ofNat 0 from fun e=>h4 (jdw e)),ja4,jab,jam (.inr (.inl h4))];rfl
theorem qjk:Con Try.prog zfm qg4:=zig ⟨q29,qkx,trivial⟩ fun x y hx h=>⟨0,(zgm 0 x.1 (qdw (c:=.str) hx.1.1)).trans h⟩
theorem qtp{α:Type}{l:List α}{i:Int}{d:α}(h0:0<=i)(h1:i<l.length):jget l i=some (l.getD i.toNat d):=by
 obtain⟨x,h2,h3,_⟩:=quf h0 h1;rw[h2,jai,h3];rfl
theorem ql4{n:Int}{p:DPut}:S.badPut n p=false↔p.2.size=64/\0<=p.1/\p.1<n:=by
 unfold S.badPut S.short;rw[jcd,jes,jes,jd5,qbk];omega
theorem za8(l:List ByteArray)(q:List DPut)(hq:q.length<LF)(hf:S.fitP l q=true):Fz9 LF l q=some (S.settled l q,()):=by
 have hf:=jbg.1 hf;refine range0 (σ:=List ByteArray) (R:=Rtz9) q (fun i s=>(i,s)) (fun _ s=>s.length=l.length) (fun rest _ s=>some (S.settled s rest,())) hq (fun K s _=>?_) (fun K i v rest s hs r h=>?_) l rfl
 ·simp only[qo7,qdn,jah];rfl
 ·have hv:=hf v r.mem;rw[jch] at hv;obtain⟨_,h1,h2⟩:=ql4.1 hv;obtain⟨x,h3,h4,_⟩:=quf (l:=s) h1 (by omega);simp only[qo7,r.ilt,r.get,r.next,jab,h3,h4];exact h _ (by rw[jcs];exact hs)
theorem zgx:Con Try.prog idz9 spz9:=mkz9 ⟨qnn,trivial⟩ fun x y hx h=>⟨LF,by
 obtain⟨h1,h2⟩:=qba (show cond (S.fitP x.1 x.2.1) (some (S.settled x.1 x.2.1,())) none=some y from h);exact(za8 x.1 x.2.1 (qdw (c:=cPut) hx.2.1) h1).trans (jaw some h2)⟩
def rng(l:List Int):Prop:=∀b∈l,0<=b/\b<256
theorem qfh{a b:List Int}(h:rng a)(k:rng b):rng (a++b):=fun x hx=>(jbq.1 hx).elim (h x) (k x)
theorem qfy(n:Nat):rng (List.replicate n 0):=fun b h=>by rw[(jfd.1 h).2];decide
theorem qdu(s:ByteArray):rng (qab s):=fun b h=>q7k h
theorem qej{a:List Int}(h:rng a)(n:Nat):rng (a.take n):=fun x hx=>h x (jcg hx)
theorem qd9{a:List Int}(h:rng a)(n:Nat):rng (a.drop n):=fun x hx=>h x (jds hx)
theorem qs9(n:Nat):rng (S.two n):=fun b h=>by
 unfold S.two at h;simp only[jav,jfp,or_false] at h;rcases h with rfl|rfl<;>omega
theorem qbe(l:List Int):(qae l).size=l.length:=by
 unfold qae;simp[ByteArray.size]
theorem qf2(f:Nat){b:List Int}(h:0<b.length):S.chunks (f+1) b=qae (b.take 64++List.replicate (64-b.length) 0)::S.chunks f (b.drop 64):=by
 cases b with
 | nil=>cases h
 | cons x b=>rfl
theorem qyy:∀(f:Nat) (b:List Int),b.length<=f->(S.chunks f b).length=(b.length+63) / 64
 | 0,b,h=>by
  have:b=[]:=jay.1 (by omega);subst this;rfl
 | f+1,b,h=>by
  by_cases hb:0<b.length
  ·rw[qf2 f hb,jat,qyy f _ (by rw[ja6];omega),ja6];omega
  ·have:b=[]:=jay.1 (by omega);subst this;rfl
theorem q09:∀(f:Nat) (b:List Int),∀s∈S.chunks f b,s.size=64
 | 0,b,s,h=>by cases h
 | f+1,b,s,h=>by
  by_cases hb:0<b.length
  ·rw[qf2 f hb] at h;rcases jav.1 h with rfl|h
   ·rw[qbe,jag,jbl,jba];omega
   ·exact q09 f _ s h
  ·have:b=[]:=jay.1 (by omega);subst this;cases h
theorem q5x:∀(f:Nat) (b:List Int),rng b->b.length<=f->(S.chunks f b).flatMap qab=b++List.replicate (64*((b.length+63) / 64)-b.length) 0
 | 0,b,_,h=>by
  have:b=[]:=jay.1 (by omega);subst this;rfl
 | f+1,b,hr,h=>by
  by_cases hb:0<b.length
  ·rw[qf2 f hb,jeb,q5x f _ (qd9 hr 64) (by rw[ja6];omega),qbz (qfh (qej hr 64) (qfy _)),ja6];by_cases h64:64<=b.length
   ·rw[show 64-b.length=0 by omega,je8,jbo,<- ja2,jc4,show 64*((b.length-64+63) / 64)-(b.length-64)=64*((b.length+63) / 64)-b.length by omega]
   ·rw[jbv (by omega),jcp (by omega),jcj,ja2,List.replicate_append_replicate];rw[show 64-b.length+(64*((b.length-64+63) / 64)-(b.length-64))=64*((b.length+63) / 64)-b.length by omega]
  ·have:b=[]:=jay.1 (by omega);subst this;rfl
theorem qbo{c:qaa}{l:List qaa}{last:Int}:S.okGo (c::l) last=true↔(0<=c.1/\c.1<=199)/\c.2.1.size<=4000/\(c.2.2=true->c.2.1=S.none_)/\last<c.1/\S.okGo l c.1=true:=by
 have hz:∀s:ByteArray,s.size=0↔s=S.none_:=fun s=>⟨fun h=>qfn (by
  have h1:=qcv s;rw[h] at h1;rw[jay.1 h1];rfl),fun h=>by rw[h];rfl⟩
 show (S.inI c.1 0 199&&(decide (c.2.1.size<=4000)&&(!(c.2.2&&!decide (c.2.1.size=0))&&(decide (last<c.1)&&S.okGo l c.1))))=true↔_;simp only[S.inI,jae,jd5,jch,Bool.and_eq_false_iff,jes,<- hz];constructor
 ·rintro⟨h1,h2,h3,h4,h5⟩;refine⟨h1,h2,fun h=>?_,h4,h5⟩;rcases h3 with h3|h3
  ·rw[h] at h3;cases h3
  ·exact h3
 ·rintro⟨h1,h2,h3,h4,h5⟩;refine⟨h1,h2,?_,h4,h5⟩;cases hc:c.2.2 with
  | false=>exact .inl rfl
  | true=>exact .inr (h3 hc)
theorem qpo(c:qaa):(S.cellB c).length=3+cond c.2.2 0 c.2.1.size:=by
 unfold S.cellB;cases c.2.2 with
 | true=>rfl
 | false =>
  rw[jah,jah,jat,jag,qcv];show 2+_+1=_;omega
theorem za6(c:qaa):rng (S.cellB c):=fun b h=>by
 unfold S.cellB at h;rcases jav.1 h with rfl|h
 ·omega
 ·cases hc:c.2.2 with
  | true=>rw[hc] at h;exact qs9 0 b h
  | false=>rw[hc] at h;exact qfh (qs9 _) (qdu _) b h
theorem zl6(l:List qaa):rng (S.body l):=fun b h=>by
 obtain⟨c,_,h⟩:=List.mem_flatMap.1 h;exact za6 c b h
theorem qoi(c:qaa)(l:List qaa):S.body (c::l)=S.cellB c++S.body l:=rfl
theorem qln(f:Nat)(k a b:Int)(r:List Int)(last:Int):S.changes (f+1) (k::a::b::r) last =
  if 199<k\/k<=last\/(r.length:Int)+1<a*256+b\/4001<a*256+b then none
  else if a*256+b=0 then (match S.changes f r k with
    | some l=>some ((k,S.none_,true)::l)
    | none=>none)
  else (match S.changes f (r.drop (a*256+b-1).toNat) k with
    | some l=>some ((k,qae (r.take (a*256+b-1).toNat),false)::l)
    | none=>none):=rfl
theorem qp7:∀(l:List qaa) (last:Int) (f:Nat),S.okGo l last=true->(S.body l).length<f->S.changes f (S.body l) last=some l
 | [],last,f,_,hf=>by
  cases f with
  | zero=>cases hf
  | succ f=>rfl
 | c::l,last,f,h,hf=>by
  obtain⟨⟨h1,h2⟩,h3,h4,h5,h6⟩:=qbo.1 h;rw[qoi] at hf ⊢;rw[jag,qpo] at hf;cases f with
  | zero=>omega
  | succ f =>
  have hk:c.1 % 256=c.1:=by omega
  have hc:S.cellB c=c.1::cond c.2.2 (S.two 0) (S.two (c.2.1.size+1)++qab c.2.1):=by unfold S.cellB;rw[hk]
  obtain⟨k,s,g⟩:=c;simp only at h1 h2 h3 h4 h5 h6 hf hc;rw[hc];cases g with
  | true =>
   obtain rfl:=h4 rfl;simp only[jab] at hf ⊢;show S.changes (f+1) (k::0::0::S.body l) last=_;rw[qln,jan (by omega),jam (by decide),qp7 l k f h6 (by omega)]
  | false =>
   simp only[jah] at hf ⊢;show S.changes (f+1) (k::(((s.size+1) / 256 % 256:Nat):Int)::(((s.size+1) % 256:Nat):Int)::(qab s++S.body l)) last=_;have hn:(((s.size+1) / 256 % 256:Nat):Int)*256+(((s.size+1) % 256:Nat):Int)=((s.size+1:Nat):Int):=by omega
   have hl:(qab s++S.body l).length=s.size+(S.body l).length:=by rw[jag,qcv]
   rw[qln,hn,jan (by rw[hl];omega),jan (by omega),show (((s.size+1:Nat):Int)-1).toNat=(qab s).length by rw[qcv];omega,jfi,jfh,qp7 l k f h6 (by omega),qhg]
theorem qrx:∀(f:Nat) (b:List Int) (last:Int) {l:List qaa},rng b->S.changes f b last=some l->S.okGo l last=true/\(S.body l).length=b.length
 | 0,b,last,l,_,h=>by cases h
 | f+1,[],last,l,_,h=>by cases h;exact⟨rfl,rfl⟩
 | f+1,[k],last,l,_,h=>by cases h
 | f+1,[k,a],last,l,_,h=>by cases h
 | f+1,k::a::b::r,last,l,hr,h=>by
  rw[qln] at h;obtain⟨k0,k1⟩:=hr k (by simp);have hr':rng r:=fun x hx=>hr x (by simp[hx]);split at h
  ·cases h
  ·rename_i hn;split at h
   ·rename_i h0;split at h<;>cases h;rename_i l' hl;obtain⟨i1,i2⟩:=qrx f r k hr' hl;refine⟨qbo.2 ⟨⟨k0,by omega⟩,jb3 _,fun _=>rfl,by show last<k;omega,i1⟩,?_⟩;rw[qoi,jag,qpo,i2];simp only[jab,jat];omega
   ·rename_i h0;obtain⟨a0,a1⟩:=hr a (by simp);obtain⟨b0,b1⟩:=hr b (by simp);split at h<;>cases h;rename_i l' hl;obtain⟨i1,i2⟩:=qrx f _ k (qd9 hr' _) hl;have ht:(r.take (a*256+b-1).toNat).length=(a*256+b-1).toNat:=by rw[jbl];omega
    refine⟨qbo.2 ⟨⟨k0,by omega⟩,by rw[qbe,ht];omega,fun h=>(by cases h),by show last<k;omega,i1⟩,?_⟩;rw[qoi,jag,qpo,i2];simp only[jah,jat,qbe,ht,ja6];omega
theorem qeg(l:List qaa)(m:Int):(S.recB l m).length=(S.body l).length+4:=rfl
theorem qkj(l:List qaa){m:Int}(hm:0<=m/\m<256):rng (S.recB l m):=fun b h=>by
 unfold S.recB at h;rcases jav.1 h with rfl|h
 ·exact hm
 rcases jav.1 h with rfl|h
 ·omega
 ·exact qfh (qs9 _) (zl6 l) b h
theorem qbx(l:List qaa)(m:Int):(S.packed l m).length=((S.body l).length+67) / 64:=by
 unfold S.packed;rw[qyy _ _ (jaq _),qeg]
theorem qel(l:List qaa)(m:Int):1<=(S.packed l m).length:=by rw[qbx];omega
theorem qw1(l:List qaa){m:Int}(hm:0<=m/\m<256):∃r,(qab ((S.packed l m).getD 0 S.none_))=m::(((S.body l).length / 65536 % 256:Nat):Int)::(((S.body l).length / 256 % 256:Nat):Int)::(((S.body l).length % 256:Nat):Int)::r:=by
 unfold S.packed;rw[qeg,qf2 _ (by rw[qeg];omega),je9,qbz (qfh (qej (qkj l hm) 64) (qfy _))];exact⟨_,rfl⟩
theorem q4s{α:Type}{a b:List α}(d:α)(h:0<a.length):(a++b).getD 0 d=a.getD 0 d:=by
 cases a with
 | nil=>cases h
 | cons x a=>rfl
theorem zjx(l:List qaa)(rest:List ByteArray)(h:S.okC l=true)(hb:(S.body l).length<16777216):S.readR (S.packed l 1++rest)=some (l,(S.packed l 1).length):=by
 have hm:(0:Int)<=1/\(1:Int)<256:=by decide
 obtain⟨r,hr⟩:=qw1 l hm;have hn:S.recN (qab ((S.packed l 1).getD 0 S.none_))=(S.body l).length:=by
  rw[hr];unfold S.recN;simp only[List.getD_cons_succ,je9];omega
 have hM:S.recM (qab ((S.packed l 1).getD 0 S.none_))=(S.packed l 1).length:=by
  unfold S.recM;rw[hn,qbx]
 have hfl:(S.packed l 1).flatMap qab=S.recB l 1++List.replicate (64*(((S.body l).length+4+63) / 64)-((S.body l).length+4)) 0:=by
  have:=q5x (S.recB l 1).length (S.recB l 1) (qkj l hm) (jaq _);rw[qeg] at this;exact this
 have hd4:∀z:List Int,(S.recB l 1++z).drop 4=S.body l++z:=fun z=>rfl;unfold S.readR;rw[q4s _ (qel l 1),hM,hn,jan (by rw[jag,hr];simp),jfh,hfl,hd4,jfh,qp7 l (-1) _ h (by omega)];simp only;rw[show (4+(S.body l).length)=(S.recB l 1).length by rw[qeg];omega,jfi];have hz:(List.replicate (64*(((S.body l).length+4+63) / 64)-((S.body l).length+4)) (0:Int)).all (fun b=>decide (b=0))=true:=jbg.2 fun b hb=>by rw[(jfd.1 hb).2];rfl
 rw[hz,jab]
theorem qrb{l l':List ByteArray}{m:Nat}(h:l'.take m=l.take m)(hm:1<=m):l'.getD 0 S.none_=l.getD 0 S.none_:=by
 have:=jaw (fun x:List ByteArray=>x[0]?) h;simp only[jaz] at this;rw[jam (by omega),jam (by omega)] at this;rw[jai,jai,this]
theorem qsa:∀(l:List ByteArray),(∀s∈l,s.size=64)->(l.flatMap qab).length=64*l.length
 | [],_=>rfl
 | s::l,h=>by
  rw[jeb,jag,qcv,h s (by simp),qsa l fun t ht=>h t (by simp[ht]),jat];omega
theorem q16(l:List ByteArray):rng (l.flatMap qab):=fun b h=>by
 obtain⟨s,_,h⟩:=List.mem_flatMap.1 h;exact qdu s b h
theorem qpv{l:List Int}(h:rng l)(i:Nat):0<=l.getD i 0/\l.getD i 0<256:=by
 rw[jai];cases hi:l[i]? with
 | none=>decide
 | some b=>exact h b (jbu hi)
theorem qlt{l:List ByteArray}{x:List qaa × Nat}(hs:∀s∈l,s.size=64)(h:S.readR l=some x):1<=x.2/\x.2<=l.length/\S.okC x.1=true/\x.2=(S.packed x.1 1).length/\(S.body x.1).length<16777216/\∀l',l'.take x.2=l.take x.2->S.readR l'=some x:=by
 have h':=h;unfold S.readR at h;split at h
 ·cases h
 rename_i hc;obtain⟨N,hN⟩:∃N,S.recN (qab (l.getD 0 S.none_))=N:=⟨_,rfl⟩;obtain⟨M,hM⟩:∃M,S.recM (qab (l.getD 0 S.none_))=M:=⟨_,rfl⟩;have hMN:M=(N+67) / 64:=by rw[<- hM,<- hN];rfl
 have hNlt:N<16777216:=by
  rw[<- hN];unfold S.recN;have:=qpv (qdu (l.getD 0 S.none_)) 1;have:=qpv (qdu (l.getD 0 S.none_)) 2;have:=qpv (qdu (l.getD 0 S.none_)) 3;omega
 rw[hN,hM] at h;have hle:M<=l.length:=by rw[hM] at hc;omega
 split at h
 ·rename_i c hch;cases hz:(((l.take M).flatMap qab).drop (4+N)).all (fun b=>decide (b=0)) with
  | false=>rw[hz] at h;cases h
  | true =>
  rw[hz] at h;cases h;obtain⟨k1,k2⟩:=qrx _ _ _ (qej (qd9 (q16 _) 4) N) hch;have hfl:((l.take M).flatMap qab).length=64*M:=by
   rw[qsa _ fun s h=>hs s (jcg h),jbl,jc9 hle]
  rw[jbl,ja6,hfl,jc9 (by omega)] at k2;refine⟨by show 1<=M;omega,hle,k1,by show M=(S.packed c 1).length;rw[qbx,k2];exact hMN,by show (S.body c).length<_;omega,fun l' ht=>?_⟩;have ht:l'.take M=l.take M:=ht;have h0:=qrb ht (by omega);have hl:M<=l'.length:=by
   have:=jaw List.length ht;rw[jbl,jbl] at this;omega
  unfold S.readR at h' ⊢;rw[h0,hM,hN,ht];rw[hM,hN] at h';rw[jan (fun e=>by rcases e with e|e;exact hc (.inl e);omega)];rw[jan (fun e=>by rcases e with e|e;exact hc (.inl e);omega)] at h';exact h'
 ·cases h
def okS(l:List qaa)(last:Int):Prop:=S.okGo l last=true/\∀c∈l,c.2.2=false
theorem qwb{α:Type}(l:List α)(n i:Nat)(d:α):(l.drop n).getD i d=l.getD (n+i) d:=by simp[jai]
theorem zbc{α:Type}(l:List α){n i:Nat}(d:α)(h:i<n):(l.take n).getD i d=l.getD i d:=by simp[jai,h]
theorem q5l:∀{l:List qaa} {a b:Int},S.okGo l a=true->b<=a->S.okGo l b=true
 | [],_,_,_,_=>rfl
 | c::l,a,b,h,hb=>by
  obtain⟨h1,h2,h3,h4,h5⟩:=qbo.1 h;exact qbo.2 ⟨h1,h2,h3,by omega,h5⟩
theorem qn6(c:qaa)(hc:(0<=c.1/\c.1<=199)/\c.2.1.size<=4000):∀{l:List qaa} {last:Int},okS l last->last<c.1->okS (S.ins1 c l) last
 | [],last,h,hl=>by
  show okS (cond c.2.2 [] [c]) last;cases hg:c.2.2 with
  | true=>exact⟨rfl,fun x hx=>by cases hx⟩
  | false=>exact⟨qbo.2 ⟨hc.1,hc.2,fun h=>(by rw[hg] at h;cases h),hl,rfl⟩,fun x hx=>by rw[jcb.1 hx];exact hg⟩
 | a::r,last,⟨h,hn⟩,hl=>by
  obtain⟨h1,h2,h3,h4,h5⟩:=qbo.1 h;have hr:okS r a.1:=⟨h5,fun x hx=>hn x (ja7 _ hx)⟩;show okS (if a.1<c.1 then a::S.ins1 c r else if a.1=c.1 then cond c.2.2 r (c::r) else cond c.2.2 (a::r) (c::a::r)) last;by_cases q1:a.1<c.1
  ·rw[jam q1];obtain⟨i1,i2⟩:=qn6 c hc hr q1;exact⟨qbo.2 ⟨h1,h2,h3,h4,i1⟩,fun x hx=>(jav.1 hx).elim (fun e=>by rw[e];exact hn a (by simp)) (i2 x)⟩
  ·rw[jan q1];by_cases q2:a.1=c.1
   ·rw[jam q2];cases hg:c.2.2 with
    | true=>exact⟨q5l h5 (by omega),fun x hx=>hn x (ja7 _ hx)⟩
    | false=>exact⟨qbo.2 ⟨hc.1,hc.2,fun h=>(by rw[hg] at h;cases h),hl,by rw[<- q2];exact h5⟩,fun x hx=>(jav.1 hx).elim (fun e=>by rw[e];exact hg) fun hx=>hn x (ja7 _ hx)⟩
   ·rw[jan q2];cases hg:c.2.2 with
    | true=>exact⟨h,hn⟩
    | false=>exact⟨qbo.2 ⟨hc.1,hc.2,fun h=>(by rw[hg] at h;cases h),hl,qbo.2 ⟨h1,h2,h3,by omega,h5⟩⟩,fun x hx=>(jav.1 hx).elim (fun e=>by rw[e];exact hg) (hn x)⟩
theorem qv0:∀{l m:List qaa} {last:Int},okS m (-1)->S.okGo l last=true->okS (S.changed m l) (-1)
 | [],m,_,h,_=>h
 | c::l,m,last,h,hl=>by
  obtain⟨h1,h2,h3,h4,h5⟩:=qbo.1 hl;exact qv0 (l:=l) (qn6 c ⟨h1,h2⟩ h (by omega)) h5
theorem qee(f:Nat)(s:ByteArray)(r:List ByteArray)(c:List qaa)(u:Nat):S.recs (f+1) (s::r) c u=if (qab s).getD 0 0=0 then some (c,u) else match S.readR (s::r) with
   | none=>none
   | some x=>cond (decide (u=0)&&x.1.any (·.2.2)) none (S.recs f ((s::r).drop x.2) (S.changed c x.1) (u+x.2)):=rfl
def szS(l:List ByteArray):Prop:=∀s∈l,s.size=64
theorem szS.drop{l:List ByteArray}(h:szS l)(n:Nat):szS (l.drop n):=fun s hs=>h s (jds hs)
theorem szS.take{l:List ByteArray}(h:szS l)(n:Nat):szS (l.take n):=fun s hs=>h s (jcg hs)
theorem qwx:∀(f:Nat) {l:List ByteArray} {c:List qaa} {u:Nat} {R:List qaa × Nat},szS l->S.recs f l c u=some R->∀f',l.length<f'->S.recs f' l c u=some R
 | 0,l,c,u,R,_,h,_,_=>by cases h
 | f+1,l,c,u,R,hs,h,0,hf=>by omega
 | f+1,[],c,u,R,hs,h,f'+1,hf=>h
 | f+1,s::r,c,u,R,hs,h,f'+1,hf=>by
  rw[qee] at h ⊢;by_cases h0:(qab s).getD 0 0=0
  ·rw[jam h0] at h ⊢;exact h
  ·rw[jan h0] at h ⊢;cases hr:S.readR (s::r) with
   | none=>rw[hr] at h;cases h
   | some x =>
    rw[hr] at h;simp only at h ⊢;obtain⟨k1,k2,_⟩:=qlt hs hr;cases hb:(decide (u=0)&&x.1.any (·.2.2)) with
    | true=>rw[hb] at h;cases h
    | false =>
     rw[hb,jah] at h;rw[jah];exact qwx f (hs.drop x.2) h f' (by rw[ja6];omega)
theorem q51(f:Nat)(l:List qaa)(rest:List ByteArray)(c:List qaa)(u:Nat)(h:S.okC l=true)(hb:(S.body l).length<16777216) :
  S.recs (f+1) (S.packed l 1++rest) c u=cond (decide (u=0)&&l.any (·.2.2)) none (S.recs f rest (S.changed c l) (u+(S.packed l 1).length)):=by
 have hr:=zjx l rest h hb;have hd:(S.packed l 1++rest).drop (S.packed l 1).length=rest:=jfi ..;obtain⟨r,hh⟩:=qw1 l (m:=1) (by decide);have hp:=qel l 1;cases hl:S.packed l 1++rest with
 | nil=>rw[List.append_eq_nil_iff.1 hl |>.1] at hp;cases hp
 | cons s q =>
  have hs:s=(S.packed l 1).getD 0 S.none_:=by
   rw[<- q4s (b:=rest) S.none_ hp,hl];rfl
  rw[qee,hs,hh,<- hs,<- hl,hr];rw[jan (by simp)];show cond _ none (S.recs f ((S.packed l 1++rest).drop (S.packed l 1).length) _ _)=_;rw[hd]
theorem qp4:∀(f:Nat) {l:List ByteArray} {c c':List qaa} {u u':Nat},szS l->S.recs f l c u=some (c',u') ->
  u<=u'/\u'-u<=l.length/\(l.length=u'-u\/(qab (l.getD (u'-u) S.none_)).getD 0 0=0)/\(okS c (-1)->okS c' (-1)) /\
  ∀l2,szS l2->l2.take (u'-u)=l.take (u'-u)->∀f2 R,S.recs f2 (l2.drop (u'-u)) c' u'=some R->∃f3,S.recs f3 l2 c u=some R
 | 0,l,c,c',u,u',_,h=>by cases h
 | f+1,[],c,c',u,u',_,h=>by
  cases h;refine⟨jaq _,by omega,.inl (by simp),fun h=>h,fun l2 _ _ f2 R h=>⟨f2,?_⟩⟩;rw[jea,jeg] at h;exact h
 | f+1,s::r,c,c',u,u',hs,h=>by
  rw[qee] at h;by_cases h0:(qab s).getD 0 0=0
  ·rw[jam h0] at h;cases h;refine⟨jaq _,by omega,.inr (by rw[jea];exact h0),fun h=>h,fun l2 _ _ f2 R h=>⟨f2,?_⟩⟩;rw[jea,jeg] at h;exact h
  ·rw[jan h0] at h;cases hr:S.readR (s::r) with
   | none=>rw[hr] at h;cases h
   | some x =>
    rw[hr] at h;simp only at h;obtain⟨k1,k2,k3,k4,k5,k6⟩:=qlt hs hr;cases hb:(decide (u=0)&&x.1.any (·.2.2)) with
    | true=>rw[hb] at h;cases h
    | false =>
     rw[hb,jah] at h;obtain⟨i1,i2,i3,i4,i5⟩:=qp4 f (hs.drop x.2) h;rw[ja6] at i2 i3;have e:u'-u=x.2+(u'-(u+x.2)):=by omega
     refine⟨by omega,by omega,?_,fun hc=>i4 (qv0 hc k3),fun l2 h2 ht f2 R hR=>?_⟩
     ·rcases i3 with i3|i3
      ·exact .inl (by omega)
      ·refine .inr ?_;rw[qwb,<- e] at i3;exact i3
     ·have ht1:l2.take x.2=(s::r).take x.2:=by
       have:=jaw (List.take x.2) ht
       rwa [jd4,jd4,jc9 (by omega)] at this
      obtain⟨f3,h3⟩:=i5 (l2.drop x.2) (h2.drop _) (by
       have:=jaw (List.drop x.2) ht
       rwa [jeh,jeh,show u'-u-x.2=u'-(u+x.2) by omega] at this) f2 R (by rw[jdq,<- e];exact hR)
      have hr2:=k6 l2 ht1;have hhd:=qrb ht1 k1;cases l2 with
      | nil =>
       have:=jaw List.length ht1;rw[jbl,jbl] at this;simp at this;omega
      | cons s2 r2 =>
       have hhd:s2=s:=hhd;refine⟨f3+1,?_⟩;rw[qee,hhd,jan h0,<- hhd,hr2];simp only;rw[hb,jah];exact h3
def over(L:List ByteArray)(a:Nat)(ss:List ByteArray):List ByteArray:=L.take a++(ss++L.drop (a+ss.length))
def qne:Nat->List ByteArray->List DPut
 | _,[]=>[]
 | a,s::ss=>((a:Int),s)::qne (a+1) ss
theorem qnm(a:Nat)(s:ByteArray)(ss:List ByteArray):S.puts (a:Int) (s::ss)=S.put (a:Int) s::S.puts ((a+1:Nat):Int) ss:=rfl
theorem qul:∀(a:Nat) (x y:List ByteArray),S.puts (a:Int) (x++y)=S.puts (a:Int) x++S.puts ((a+x.length:Nat):Int) y
 | a,[],y=>rfl
 | a,s::x,y=>by
  rw[jc0,qnm,qnm,qul (a+1) x y,jc0,jat,show a+(x.length+1)=a+1+x.length by omega]
theorem qf0:∀(a:Nat) (x:List ByteArray),(S.puts (a:Int) x).length=x.length
 | _,[]=>rfl
 | a,s::x=>jaw (·+1) (qf0 (a+1) x)
theorem zgu(L:List ByteArray)(a:Nat):over L a []=L:=by
 unfold over;rw[jcj,jbi,jb5,jc4]
theorem qfs{L:List ByteArray}{a:Nat}{ss:List ByteArray}(h:a+ss.length<=L.length):(over L a ss).length=L.length:=by
 unfold over;rw[jag,jag,jbl,ja6];omega
theorem q4a{L:List ByteArray}{a:Nat}{ss:List ByteArray}(h:a+ss.length<=L.length):(over L a ss).take a=L.take a:=by
 unfold over;rw[jd2 (by rw[jbl];omega),jd4,Nat.min_self]
theorem qlq{L:List ByteArray}{a:Nat}{ss:List ByteArray}(h:a+ss.length<=L.length):(over L a ss).drop a=ss++L.drop (a+ss.length):=by
 unfold over;rw[jd3 (by rw[jbl];omega),jcp (by rw[jbl];omega),jcj]
theorem q8o{L:List ByteArray}{a:Nat}{ss:List ByteArray}(hL:szS L)(hs:szS ss):szS (over L a ss):=fun s h=>by
 unfold over at h;rcases jbq.1 h with h|h
 ·exact hL s (jcg h)
 rcases jbq.1 h with h|h
 ·exact hs s h
 ·exact hL s (jds h)
theorem qiv:∀(ss:List ByteArray) (a:Nat) (L:List ByteArray),a+ss.length<=L.length->S.settled L (qne a ss)=over L a ss
 | [],a,L,_=>(zgu L a).symm
 | s::ss,a,L,h=>by
  rw[jat] at h;show S.settled (L.set (a:Int).toNat s) (qne (a+1) ss)=_;rw[jce,qiv ss (a+1) _ (by rw[jcs];omega)];unfold over;rw[jat,List.drop_set_of_lt (by omega),List.take_set];have:(L.take (a+1)).set a s=L.take a++[s]:=by
   rw[jdr (by omega),List.set_append_right _ _ (by rw[jbl];omega)];rw[jbl,jc9 (by omega),jea];rfl
  rw[this,ja2,jc0,jcj,show a+1+ss.length=a+(ss.length+1) by omega];rfl
theorem zbl{n a:Nat}{s:ByteArray}(hs:s.size=64)(h:a<n):S.badPut (n:Int) ((a:Int),s)=false:=by
 unfold S.badPut S.short S.inI;rw[jao hs,jao (show (0:Int)<=(a:Int) by omega),jao (show (a:Int)<=(n:Int)-1 by omega)];rfl
theorem qse{L:List ByteArray}{a:Nat}{s:ByteArray}{q:List DPut}{r:List DAct}(hs:s.size=64)(h:a<L.length)(hq:q.length<4000):S.doGo (S.put (a:Int) s::r) L q=S.doGo r L (q++[((a:Int),s)]):=by
 show cond false _ (cond (S.badPut (L.length:Int) ((a:Int),s)) _ (if q.length=4000 then _ else _))=_;rw[zbl hs h,jah,jah,jan (by omega)];rfl
theorem qsu:∀(ss:List ByteArray) (a:Nat) (r:List DAct) (L:List ByteArray) (q:List DPut),szS ss->a+ss.length<=L.length->q.length+ss.length<=4000 ->
  S.doGo (S.puts (a:Int) ss++r) L q=S.doGo r L (q++qne a ss)
 | [],a,r,L,q,_,_,_=>by
  show S.doGo r L q=S.doGo r L (q++[]);rw[jbo]
 | s::ss,a,r,L,q,hs,h,hq=>by
  rw[jat] at h hq;rw[qnm,jc0,qse (hs s (by simp)) (by omega) (by omega),qsu ss (a+1) r L _ (fun t ht=>hs t (by simp[ht])) (by omega) (by rw[jag];simp only[jat,jbi];omega),ja2];rfl
theorem qn5(L:List ByteArray)(q:List DPut)(r:List DAct):S.doGo (S.sync::r) L q=S.doGo r (S.settled L q) []:=rfl
theorem q02(L:List ByteArray)(q:List DPut):S.doGo [] L q=((L,q),0):=rfl
theorem q9f{s p:ByteArray}{n:Nat}(hs:s.size=64)(hp:p.size=64)(hn:n<=64):(S.tear s p n).size=64:=by
 unfold S.tear;rw[qbe,jag,jbl,ja6,qcv,qcv];omega
theorem zh1(s p:ByteArray)(n:Nat):rng ((qab p).take n++(qab s).drop n):=qfh (qej (qdu p) n) (qd9 (qdu s) n)
theorem qgj{n:Nat}(h2:n % 2=0)(h8:8<=n){h:Int}(hh:h=0\/h=1):∃a:Nat,S.half n h=((a:Int),((a+(n / 2-1):Nat):Int))/\1<=a/\a+(n / 2-1)<n/\(h=0->a=1)/\(h=1->a=n / 2):=by
 rcases hh with rfl|rfl
 ·refine⟨1,?_,by omega,by omega,fun _=>rfl,fun h=>(by cases h)⟩;unfold S.half;rw[jam rfl];exact Prod.ext rfl (by show ((n / 2:Nat):Int)=((1+(n / 2-1):Nat):Int);omega)
 ·refine⟨n / 2,?_,by omega,by omega,fun h=>(by cases h),fun _=>rfl⟩;unfold S.half;rw[jan (by decide)];exact Prod.ext rfl (by show (n:Int)-1=((n / 2+(n / 2-1):Nat):Int);omega)
structure Dk (L:List ByteArray):Prop where
 sz:szS L
 ge:8<=L.length
 le:L.length<=1000
 ev:L.length % 2=0
theorem Dk.check{L:List ByteArray}(h:Dk L):S.checkDisk (L,[])=0:=by
 unfold S.checkDisk;have h1:=h.ge;have h2:=h.le;have h3:L.any S.short=false:=by
  rw[jdb];intro e;obtain⟨s,hs,e⟩:=jd1.1 e;unfold S.short at e;rw[jao (h.sz s hs)] at e;cases e
 rw[jan (show ¬(1000<L.length\/4000<([]:List DPut).length) by simp;omega),jan];have:=h.ev;rintro(e|e|e|e)
 ·exact absurd e (show ¬L.length<8 by omega)
 ·exact e this
 ·cases e
 ·rw[show ((L,([]:List DPut)).1).any S.short=L.any S.short from rfl,h3] at e;cases e
def topB(h:Int):List Int:=h::List.replicate 63 0
structure Jn (L:List ByteArray) (h:Int) (a u:Nat) (c:List qaa):Prop where
 dk:Dk L
 hh:h=0\/h=1
 top:qab (L.getD 0 S.none_)=topB h
 fr:S.half L.length h=((a:Int),((a+(L.length / 2-1):Nat):Int))
 a1:1<=a
 to_:a+(L.length / 2-1)<L.length
 rc:∃f,S.recs f ((L.drop a).take (L.length / 2-1)) [] 0=some (c,u)
 u1:1<=u
theorem qz2{L:List ByteArray}{h:Int}{a K:Nat}(hf:S.half L.length h=((a:Int),((a+K:Nat):Int))):S.halfS L h=(L.drop a).take K:=by
 unfold S.halfS;rw[hf];simp only[jce];rw[jeh,ja1]
theorem Jn.open_{L:List ByteArray}{h:Int}{a u:Nat}{c:List qaa}(j:Jn L h a u c):S.opened L=some (h,u,c):=by
 obtain⟨f,hf⟩:=j.rc;have h0:(qab (L.getD 0 S.none_)).getD 0 0=h:=by rw[j.top];rfl
 have hd:(qab (L.getD 0 S.none_)).drop 1=List.replicate 63 0:=by rw[j.top];rfl
 unfold S.opened;rw[h0,hd,jan (show ¬(1<h\/¬List.replicate 63 (0:Int)=List.replicate 63 0) from fun e=>by rcases e with e|e;(rcases j.hh with rfl|rfl<;>omega);exact e rfl),qz2 j.fr];rw[qwx f ((j.dk.sz.drop a).take _) hf (L.length+1) (by rw[jbl,ja6];omega)];have:=j.u1;simp only;rw[jan (by omega)]
theorem zko{L:List ByteArray}(d:Dk L){h:Int}{u:Nat}{c:List qaa}(ho:S.opened L=some (h,u,c)):∃a,Jn L h a u c:=by
 unfold S.opened at ho;split at ho
 ·cases ho
 rename_i hn;have hz:(L.getD 0 S.none_).size=64:=by
  have:=d.ge;rw[jai,jac (by omega)];exact d.sz _ (jbh _)
 have hb:(qab (L.getD 0 S.none_)).length=64:=by rw[qcv,hz]
 have h0:=qpv (qdu (L.getD 0 S.none_)) 0;have ht:qab (L.getD 0 S.none_)=topB ((qab (L.getD 0 S.none_)).getD 0 0):=by
  cases hl:qab (L.getD 0 S.none_) with
  | nil=>rw[hl] at hb;cases hb
  | cons x r =>
   have:r=List.replicate 63 0:=by
    refine jcf fun e=>hn (.inr ?_);rw[hl];exact e
   rw[this];rfl
 split at ho
 ·rename_i c' u' hr;split at ho
  ·cases ho
  rename_i hu;cases ho;have hh:(qab (L.getD 0 S.none_)).getD 0 0=0\/(qab (L.getD 0 S.none_)).getD 0 0=1:=by omega
  obtain⟨a,e1,e2,e3,_,_⟩:=qgj d.ev d.ge hh;exact⟨a,d,hh,ht,e1,e2,e3,⟨_,by rw[<- qz2 e1];exact hr⟩,by omega⟩
 ·cases ho
theorem Jn.kept{L L':List ByteArray}{h:Int}{a u:Nat}{c:List qaa}(j:Jn L h a u c)(d:Dk L')(hl:L'.length=L.length)(ht:L'.take (a+u)=L.take (a+u))(hu:u<=L.length / 2-1){c':List qaa}{v f:Nat}(hv:1<=v)
  (hr:S.recs f ((L'.drop (a+u)).take (L.length / 2-1-u)) c u=some (c',v)):Jn L' h a v c':=by
 obtain⟨f0,h0⟩:=j.rc;obtain⟨k1,k2,k3,k4,k5⟩:=qp4 f0 ((j.dk.sz.drop a).take _) h0;rw[jda] at k2 k3 k5;have hto:=j.to_;have ha1:=j.a1;have h2:((L'.drop a).take (L.length / 2-1)).take u=((L.drop a).take (L.length / 2-1)).take u:=by
  rw[jd4,jd4,jc9 hu];have:=jaw (List.drop a) ht
  rwa [jeh,jeh,ja1] at this
 obtain⟨f3,h3⟩:=k5 ((L'.drop a).take (L.length / 2-1)) ((d.sz.drop a).take _) h2 f (c',v) (by
  rw[jeh,jdq];exact hr)
 refine⟨d,j.hh,?_,by rw[hl];exact j.fr,j.a1,by rw[hl];exact j.to_,⟨f3,by rw[hl];exact h3⟩,hv⟩;rw[qrb ht (by omega)];exact j.top
theorem Jn.le{L:List ByteArray}{h:Int}{a u:Nat}{c:List qaa}(j:Jn L h a u c):u<=L.length / 2-1/\okS c (-1)/\(u=L.length / 2-1\/(qab (L.getD (a+u) S.none_)).getD 0 0=0):=by
 obtain⟨f0,h0⟩:=j.rc;obtain⟨k1,k2,k3,k4,k5⟩:=qp4 f0 ((j.dk.sz.drop a).take _) h0;have hto:=j.to_;have hl:((L.drop a).take (L.length / 2-1)).length=L.length / 2-1:=by rw[jbl,ja6];omega
 rw[jda,hl] at k2 k3;refine⟨k2,k4 ⟨rfl,fun x hx=>by cases hx⟩,?_⟩;rcases k3 with k3|k3
 ·exact .inl k3.symm
 ·by_cases e:u=L.length / 2-1
  ·exact .inl e
  ·refine .inr ?_;rw[zbc _ _ (by omega),qwb] at k3;exact k3
theorem Jn.more{L L':List ByteArray}{h:Int}{a u:Nat}{c:List qaa}(j:Jn L h a u c)(d:Dk L')(hl:L'.length=L.length)(ht:L'.take (a+u)=L.take (a+u)){l:List qaa}(hc:S.okC l=true)(hb:(S.body l).length<16777216)
  (hn:u+(S.packed l 1).length<=L.length / 2-1) {rest:List ByteArray} (hr:L'.drop (a+u)=S.packed l 1++rest) (h0:u+(S.packed l 1).length=L.length / 2-1\/(qab (rest.getD 0 S.none_)).getD 0 0=0):Jn L' h a (u+(S.packed l 1).length) (S.changed c l):=by
 have hu:=j.u1;refine j.kept d hl ht (by omega) (f:=2) (by omega) ?_;rw[hr,List.take_append,jbv (by omega),q51 1 l _ c u hc hb,show decide (u=0)=false from jar (by omega),jdh,jah];cases hz:rest.take (L.length / 2-1-u-(S.packed l 1).length) with
 | nil=>rfl
 | cons s r =>
  rw[qee];rcases h0 with h0|h0
  ·rw[show L.length / 2-1-u-(S.packed l 1).length=0 by omega,jfg] at hz;cases hz
  ·have:s=rest.getD 0 S.none_:=by
    cases rest with
    | nil=>rw[List.take_nil] at hz;cases hz
    | cons s' r' =>
     cases hk:L.length / 2-1-u-(S.packed l 1).length with
     | zero=>rw[hk] at hz;cases hz
     | succ k=>rw[hk,List.take_succ_cons] at hz;cases hz;rfl
   rw[this,jam h0]
theorem Jn.same{L L':List ByteArray}{h:Int}{a u:Nat}{c:List qaa}(j:Jn L h a u c)(d:Dk L')(hl:L'.length=L.length)(ht:L'.take (a+u)=L.take (a+u))(h0:u=L.length / 2-1\/(qab (L'.getD (a+u) S.none_)).getD 0 0=0):Jn L' h a u c:=by
 have hu:=j.le.1;have hto:=j.to_;refine j.kept d hl ht hu (f:=1) j.u1 ?_;rcases h0 with h0|h0
 ·rw[show L.length / 2-1-u=0 by omega,jfg];rfl
 ·cases hz:(L'.drop (a+u)).take (L.length / 2-1-u) with
  | nil=>rfl
  | cons s r =>
   have:s=L'.getD (a+u) S.none_:=by
    have:=jaw (fun x:List ByteArray=>x[0]?) hz;simp only[jaz,jbx,jb5,jap] at this;split at this
    ·rw[jai,this];rfl
    ·cases this
   rw[qee,this,jam h0]
structure OkD (l:List ByteArray) (q:List DPut):Prop where
 sz:szS l
 le:l.length<=1000
 fit:S.fitP l q=true
 many:q.length<=4000
theorem zao{l:List ByteArray}:S.anyShort l=false↔szS l:=by
 unfold S.anyShort S.short szS;rw[jdb];constructor
 ·intro h s hs;refine jcf fun e=>h (jd1.2 ⟨s,hs,by rw[jar e];rfl⟩)
 ·intro h e;obtain⟨s,hs,e⟩:=jd1.1 e;rw[jao (h s hs)] at e;cases e
theorem qka{l:List ByteArray}{q:List DPut}:S.fitP l q=true↔∀p∈q,p.2.size=64/\0<=p.1/\p.1<l.length:=by
 unfold S.fitP;rw[jbg];constructor
 ·intro h p hp;have:=h p hp;rw[jch] at this;exact ql4.1 this
 ·intro h p hp;rw[jch];exact ql4.2 (h p hp)
theorem qmm{d:qak}(h:S.checkDisk d=0):OkD d.1 d.2/\8<=d.1.length/\d.1.length % 2=0:=by
 unfold S.checkDisk at h;split at h
 ·cases h
 rename_i h1;split at h
 ·cases h
 rename_i h2;have h3:d.1.any S.short=false:=by rw[jdb];exact fun e=>h2 (.inr (.inr (.inr e)))
 have h4:d.2.any (S.badPut d.1.length)=false:=by rw[jdb];exact fun e=>h2 (.inr (.inr (.inl e)))
 refine⟨⟨zao.1 h3,by omega,?_,by omega⟩,by omega,jcf fun e=>h2 (.inr (.inl e))⟩;unfold S.fitP;rw[jbg];intro p hp;rw[jch,jdb];intro e;rw[jdk] at h4;exact h4 p hp e
theorem qz9:∀(q:List DPut) {l:List ByteArray},S.fitP l q=true->szS l->(S.settled l q).length=l.length/\szS (S.settled l q)
 | [],l,_,h=>⟨rfl,h⟩
 | p::q,l,hf,h=>by
  have hf:=qka.1 hf;have hp:=hf p (by simp);obtain⟨i1,i2⟩:=qz9 q (l:=l.set p.1.toNat p.2) (qka.2 fun x hx=>by rw[jcs];exact hf x (by simp[hx])) fun s hs=>by
   rcases List.mem_or_eq_of_mem_set hs with hs|rfl
   ·exact h s hs
   ·exact hp.1
  exact⟨i1.trans (jcs ..),i2⟩
theorem OkD.sync{l:List ByteArray}{q:List DPut}(h:OkD l q):OkD (S.settled l q) []:=by
 obtain⟨h1,h2⟩:=qz9 q h.fit h.sz;exact⟨h2,by rw[h1];exact h.le,rfl,jb3 _⟩
theorem OkD.put{l:List ByteArray}{q:List DPut}{p:DPut}(h:OkD l q)(hp:S.badPut l.length p=false)(hq:¬q.length=4000):OkD l (q++[p]):=by
 refine⟨h.sz,h.le,qka.2 fun x hx=>?_,?_⟩
 ·rcases jbq.1 hx with hx|hx
  ·exact qka.1 h.fit x hx
  ·rw[jcb.1 hx];exact ql4.1 hp
 ·have:=h.many;rw[jag];simp only[jat,jbi];omega
theorem q59{s:ByteArray}:s.size=0↔s=S.lit []:=⟨fun h=>qfn (by
  have h1:=qcv s;rw[h] at h1;rw[jay.1 h1];rfl),fun h=>by rw[h];rfl⟩
theorem zlo(v:DAct):(Bool.and (keqI v.2.1 (Int.ofNat 0)) (Bool.and (keqS v.2.2 (S.lit [])) true))=decide (v.2.1=0/\v.2.2.size=0):=by
 have e1:keqI v.2.1 (Int.ofNat 0)=decide (v.2.1=0):=rfl;have e2:keqS v.2.2 (S.lit [])=decide (v.2.2.size=0):=by
  show decide (v.2.2=S.lit [])=_;exact jdg.2 q59.symm
 rw[e1,e2,Bool.and_true,Bool.decide_and]
theorem zak(a:DAct)(r:List DAct)(l:List ByteArray)(q:List DPut):S.doGo (a::r) l q=cond a.1 (if a.2.1=0/\a.2.2.size=0 then S.doGo r (S.settled l q) [] else (([],[]),1))
  (cond (S.badPut l.length a.2) (([],[]),1) (if q.length=4000 then (([],[]),3) else S.doGo r l (q++[a.2]))):=rfl
theorem zlf(d:qak)(l:List DAct)(hl:l.length<LF):Fz7 LF d l=some ((S.doD d l).1,(S.doD d l).2,()):=by
 simp only[Fz7,qru];show cond (!ieqI (S.checkDisk d) (Int.ofNat 0)) _ _=_;unfold S.doD;by_cases h0:S.checkDisk d=0
 ·rw[qbm (show _=Int.ofNat 0 from h0),jbb,jah,jam h0];refine range0 (σ:=List DPut × List ByteArray) (R:=Rtz7) l (fun i s=>(i,s.1,s.2)) (fun _ s=>OkD s.2 s.1) (fun rest _ s=>some ((S.doGo rest s.2 s.1).1,(S.doGo rest s.2 s.1).2,())) hl (fun K s _=>?_) (fun K i v rest s hs r h=>?_) (d.2,d.1) (qmm h0).1
  ·simp only[qme,qdn,jah];rfl
  ·obtain⟨q,t⟩:=s;simp only at hs h;have hle:=hs.le;have hm:=hs.many;have r1:Nat.ble (Nat.mul (Nat.add q.length 1) 24) 140737488355328=true:=ja0 (by show (q.length+1)*24<=_;omega);have hw:=qzq (n:=t.length) (by unfold LF;omega);have hb:∀p:DPut,S.badPut t.length p=(S.short p.2||!S.inI p.1 (Int.ofNat 0) ((t.length:Int)-1)):=fun _=>rfl;simp only[qme,r.ilt,r.get,r.next,jab,hw,r1,hs.fit,zlo];rw[zak];obtain⟨sy,p1,p2⟩:=v;simp only;rw[hb];cases sy with
   | true =>
    simp only[jab,jah,jbb];by_cases hz:p1=0/\p2.size=0
    ·rw[jao hz,jam hz];exact h ([],S.settled t q) hs.sync
    ·rw[jar hz,jan hz];rfl
   | false =>
    simp only[jab,jah,ja4];cases hsh:S.short p2 with
    | true=>rfl
    | false =>
     cases hin:S.inI p1 (Int.ofNat 0) ((t.length:Int)-1) with
     | false=>rfl
     | true =>
      simp only[jab,jah,jbb,Bool.or_false];by_cases h4:q.length=4000
      ·rw[qbm (show Int.ofNat q.length=Int.ofNat 4000 from jaw Int.ofNat h4),jab,jam h4];rfl
      ·rw[qbn (show ¬Int.ofNat q.length=Int.ofNat 4000 from fun e=>h4 (jdw e)),jah,jan h4];exact h (q++[(p1,p2)],t) (hs.put (by rw[hb,hsh,hin];rfl) h4)
 ·rw[qbn (show ¬_=Int.ofNat 0 from h0),ja4,jab,jan h0]
theorem qou:Con Try.prog idz7 spz7:=mkz7 ⟨qjk,qkx,q29,zgx,qnn,zin,trivial⟩ fun x y hx h=>⟨LF,(zlf x.1 x.2.1 (qdw (c:=cAct) hx.2.1)).trans h⟩
theorem zfv(s p:ByteArray)(n:Nat):ByteArray.append (ByteArray.extract p 0 n) (ByteArray.extract s n s.size)=S.tear s p n:=by
 unfold S.tear;refine qfn ?_;rw[qbz (zh1 s p n)];show qab (p.extract 0 n++s.extract n s.size)=_;rw[zav,qyq,q4p s n s.size (jaq _)]
theorem zdf(p:DPut)(q:List DPut)(n:Int)(r:List Int)(l:List ByteArray):S.crashGo (p::q) (n::r) l=S.crashGo q r (l.set p.1.toNat (S.tear (l.getD p.1.toNat S.none_) p.2 n.toNat)):=rfl
theorem zgz{l:List ByteArray}(h:szS l){i:Nat}{s:ByteArray}(hs:s.size=64):szS (l.set i s):=fun t ht=>by
 rcases List.mem_or_eq_of_mem_set ht with ht|rfl
 ·exact h t ht
 ·exact hs
theorem zkx{s p:ByteArray}{n:Int}(hs:s.size=64)(hp:p.size=64)(h0:0<=n)(h1:n<=64) :
  lchk (Int.ofNat 0) n (Int.ofNat p.size) (Int.ofNat p.size)=true/\lchk n (Int.ofNat s.size) (Int.ofNat s.size) (Int.ofNat s.size)=true /\
  Nat.ble (Nat.succ (Nat.add (ByteArray.size (ByteArray.extract p 0 (Int.toNat n))) (ByteArray.size (ByteArray.extract s (Int.toNat n) (Int.toNat (Int.ofNat s.size)))))) 9223372036854775808=true /\
  ByteArray.append (ByteArray.extract p 0 (Int.toNat n)) (ByteArray.extract s (Int.toNat n) (Int.toNat (Int.ofNat s.size)))=S.tear s p n.toNat:=by
 rw[hs,hp];refine⟨qby.2 ⟨jbr _,h0,h1,jbr _⟩,qby.2 ⟨h0,h1,jbr _,jbr _⟩,ja0 ?_,?_⟩
 ·rw[jev,jev];show _+_+1<=_;omega
 ·have:=zfv s p n.toNat;rw[hs] at this;exact this
theorem zh6(d:qak)(l:List Int)(hl:l.length<LF):Fz8 LF d l=some ((S.crash d l).1,(S.crash d l).2,()):=by
 have e1:idxO (fun v0:Int=>(some (!(S.inI v0 (Int.ofNat 0) (Int.ofNat 64))))) l 0=some (Go.Jx.S.idx (fun n=>!S.inI n 0 64) l):=qps _ fun x _=>rfl;simp only[Fz8,qvf,qcb];show cond (!ieqI (S.checkDisk d) (Int.ofNat 0)) _ _=_;unfold S.crash;by_cases h0:S.checkDisk d=0
 ·rw[qbm (show _=Int.ofNat 0 from h0),jbb,jah,jam h0];by_cases h1:d.2.length<l.length
  ·rw[jao h1,jab,jam (.inl h1)];rfl
  rw[jar h1,jah,e1];simp only[qmq];cases h2:l.any (fun n=>!S.inI n 0 64) with
  | true=>rw[jab,jam (.inr rfl)];rfl
  | false =>
  rw[jah,jan (by simp[h1])];have hk:∀n∈l,0<=n/\n<=64:=fun n hn=>by
   rw[jdk] at h2;have:=h2 n hn;rw[Bool.not_eq_true,jes] at this;exact qbk.1 this
  have hf:=qka.1 (qmm h0).1.fit;refine(range0 (σ:=List ByteArray) (R:=Rtz8) l (fun i s=>(i,s)) (fun _ s=>szS s/\s.length=d.1.length) (fun rest i s=>some ((S.crashGo (d.2.drop i) rest s,[]),0,())) hl (fun K s _=>?_) (fun K i v rest s hs r h=>?_) d.1 ⟨(qmm h0).1.sz,rfl⟩).trans ?_
  ·simp only[qor,qdn,jah];have:S.crashGo (d.2.drop l.length) [] s=s:=by cases d.2.drop l.length<;>rfl
   rw[this];rfl
  ·have hi:=r.lt;have hip:i<d.2.length:=by omega
   have hg:d.2[i]?=some d.2[i]:=jac hip;obtain⟨z1,z2,z3⟩:=hf d.2[i] (jbh hip);have hd:d.2.drop i=d.2[i]::d.2.drop (i+1):=jdd hip;obtain⟨x,y1,y2,y3⟩:=quf (l:=s) z2 (by rw[hs.2];exact z3);have hx:=hs.1 x y3;obtain⟨v0,v1⟩:=hk v r.mem;obtain⟨w1,w2,w3,w4⟩:=zkx hx z1 v0 v1;simp only[qor,r.ilt,r.get,r.next,jab,qdk,hg,y1,y2,w1,w2,w3,w4];rw[hd,zdf,jai,y2];exact h _ ⟨zgz hs.1 (q9f hx z1 (by omega)),by rw[jcs];exact hs.2⟩
  ·rfl
 ·rw[qbn (show ¬_=Int.ofNat 0 from h0),ja4,jab,jan h0]
theorem zhb:Con Try.prog idz8 spz8:=mkz8 ⟨qjk,qkx,qnn,trivial⟩ fun x y hx h=>⟨LF,(zh6 x.1 x.2.1 (qdw (c:=.int .i64) hx.2.1)).trans h⟩
abbrev qml:Type:=ByteArray × Unit
abbrev zdl:Nat:=56
def q2f(lf:Nat)(x1:Int):Option qml:=(some ((ByteArray.mk (Array.mk (List.cons (UInt8.ofBitVec (BitVec.ofFin (Fin.mk (Nat.mod (Int.toNat (IntKind.u8.wrap (Int.fdiv x1 (Int.ofNat 256)))) 256) (jcx (Int.toNat (IntKind.u8.wrap (Int.fdiv (x1,()).1 (HPow.hPow (OfNat.ofNat 2) (Min.min (Int.toNat (OfNat.ofNat 8)) (IntKind.bits IntKind.i64)))))) (BitVec.ofNat._proof_1 (OfNat.ofNat 8)))))) (List.cons (UInt8.ofBitVec (BitVec.ofFin (Fin.mk (Nat.mod (Int.toNat (IntKind.u8.wrap x1)) 256) (jcx (Int.toNat (IntKind.u8.wrap (x1,()).1)) (BitVec.ofNat._proof_1 (OfNat.ofNat 8)))))) [])))),()))
def qm6(lf:Nat)(x1:Int):Option qml:=q2f lf x1
theorem znv{g:ElA [(.int .i64)]->Option qml}(hsm:SmOK Try.prog [])(hg:∀(x:ElA [(.int .i64)]) (y:qml),WfA [(.int .i64)] x->g x=some y->∃lf,qm6 lf x.1=some y):Con Try.prog 56 ⟨[(.int .i64)],[(false,.str)],g⟩ :=
 conU (fi:=fi56) (hxl:=[]) (fun lf x=>qm6 lf x.1) cm3 zlj trivial hsm hg
def qkw:Nat->Option Nm:=fun k=>cond (Nat.beq k 3) (some ⟨[3,6,7,8],[],[],[],[],0,0,false⟩) (none)
def qkg:Nat->Bool:=fun k=>cond (Nat.beq k 3) true (false)
def q6o:=qkg
abbrev qcs:Type:=ByteArray × Unit
def qxt:List (Nat × Sm):=[(56,quz)]
def q22:List (Nat × Hx):=[]
def qr7(R:Type)(lf:Nat):ClK R:=qa8 Try.prog ttT.get ftT.get (nm1 55 qkw) (smL qxt) (hxL q22) lf 20 R
abbrev zkh:Nat:=55
def qik(x1:(List qaa))(p:ByteArray × Int):NRes:=(NRes.mk (.node none (.node none (.node (some (IV.str p.1)) (.node (some (IV.int .i64 (Int.ofNat x1.length))) .leaf .leaf) .leaf) .leaf) (.node none (.node none (.node (some (IV.int .i64 p.2)) .leaf .leaf) .leaf) (.node (some (IV.lst qad x1)) .leaf .leaf))) (IS.mk .leaf 0) [] 0)
def qy3(lf:Nat)(x1:(List qaa))(L3:(ByteArray × Int)->Option qcs):Option qcs:=(L3 ((S.lit []),(Int.ofNat 0)))
def qmh(lf:Nat)(x1:(List qaa))(L3:(ByteArray × Int)->Option qcs)(p:ByteArray × Int):Option qcs:=(cond (iltI p.2 (Int.ofNat x1.length)) (match (jget x1 p.2) with|none=>none|some v0=>(cond (Nat.ble (Nat.succ (Nat.add p.1.size 1)) 9223372036854775808) (cond v0.2.2 (match (cond (S.inI (Int.ofNat 0) (Int.ofNat 0) (Int.ofNat 16777215)) (some ((S.lit [0,0]),())) none) with|none=>none|some v1=>(cond (Nat.ble (Nat.succ (Nat.add (ByteArray.size (ByteArray.append p.1 (ByteArray.mk (Array.mk (List.cons (UInt8.ofBitVec (BitVec.ofFin (Fin.mk (Nat.mod (Int.toNat (IntKind.u8.wrap v0.1)) 256) (jcx (Int.toNat (IntKind.u8.wrap v0.1)) (BitVec.ofNat._proof_1 (OfNat.ofNat 8)))))) []))))) v1.1.size)) 9223372036854775808) (L3 ((ByteArray.append (ByteArray.append p.1 (ByteArray.mk (Array.mk (List.cons (UInt8.ofBitVec (BitVec.ofFin (Fin.mk (Nat.mod (Int.toNat (IntKind.u8.wrap v0.1)) 256) (jcx (Int.toNat (IntKind.u8.wrap v0.1)) (BitVec.ofNat._proof_1 (OfNat.ofNat 8)))))) [])))) v1.1),(IntKind.i64.wrap (Int.add p.2 (Int.ofNat 1))))) none)) (match (cond (S.inI (IntKind.i64.wrap (Int.ofNat (Nat.add v0.2.1.size 1))) (Int.ofNat 0) (Int.ofNat 16777215)) (some ((qae (S.two (Int.toNat (IntKind.i64.wrap (Int.ofNat (Nat.add v0.2.1.size 1)))))),())) none) with|none=>none|some v37=>(cond (Nat.ble (Nat.succ (Nat.add v37.1.size v0.2.1.size)) 9223372036854775808) (cond (Nat.ble (Nat.succ (Nat.add (ByteArray.size (ByteArray.append p.1 (ByteArray.mk (Array.mk (List.cons (UInt8.ofBitVec (BitVec.ofFin (Fin.mk (Nat.mod (Int.toNat (IntKind.u8.wrap v0.1)) 256) (jcx (Int.toNat (IntKind.u8.wrap v0.1)) (BitVec.ofNat._proof_1 (OfNat.ofNat 8)))))) []))))) (ByteArray.size (ByteArray.append v37.1 v0.2.1)))) 9223372036854775808) (L3 ((ByteArray.append (ByteArray.append p.1 (ByteArray.mk (Array.mk (List.cons (UInt8.ofBitVec (BitVec.ofFin (Fin.mk (Nat.mod (Int.toNat (IntKind.u8.wrap v0.1)) 256) (jcx (Int.toNat (IntKind.u8.wrap v0.1)) (BitVec.ofNat._proof_1 (OfNat.ofNat 8)))))) [])))) (ByteArray.append v37.1 v0.2.1)),(IntKind.i64.wrap (Int.add p.2 (Int.ofNat 1))))) none) none))) none)) (some (p.1,())))
abbrev gz10:Type:=ElA [(.list qad)]->Option qcs
abbrev sz10(g:gz10):Sm:=⟨[(.list qad)],[(false,.str)],g⟩
abbrev Ez10(g:gz10)(J:JT qcs)(lf:Nat)(x1:(List qaa)):=qb6 Try.prog ttT.get qkw fi55.nt (qr7 _ lf) lf qkg J fi55.body [] (qaz (argV [(.list qad)] (x1,())) 0 .leaf) S0 [] (qa2 ttT.get fi55 (sz10 g))
abbrev Bz10(g:gz10)(J:JT qcs)(lf k:Nat)(ms:List Nat)(q:NRes):=qct Try.prog ttT.get qkw fi55.nt (qr7 _ lf) lf qkg J k fi55.body [] ms q (qa2 ttT.get fi55 (sz10 g))
theorem ziq(g:gz10)(J:JT qcs)(lf:Nat)(x1:(List qaa)):Ez10 g J lf x1=qy3 lf x1 (fun q=>J 3 [lf] (qik x1 q)):=by kernel_rfl
theorem zib(g:gz10)(J:JT qcs)(lf:Nat)(x1:(List qaa))(m1:Nat)(p:ByteArray × Int):Bz10 g J lf 3 [m1] (qik x1 p)=qmh lf x1 (fun q=>J 3 [m1] (qik x1 q)) p:=by kernel_rfl
theorem q47:(regs fi55.body).Nodup:=by decide +kernel
theorem q5z:okC qkw qkg q6o fi55.body none=true:=by kernel_rfl
def Az10(g:gz10)(lf:Nat):JT qcs:=atN Try.prog ttT.get qkw fi55 (sz10 g) (qr7 _ lf) lf q6o
def qmd(lf:Nat)(x1:(List qaa)):Nat->(ByteArray × Int)->Option qcs:=qa9 fun K p=>qmh lf x1 K p
theorem qyt(g:gz10)(lf:Nat)(x1:(List qaa)):∀(n:Nat) (p:ByteArray × Int),Az10 g lf 3 [n] (qik x1 p)=qmd lf x1 n p
 | 0,p=>qb5 3 [0] rfl _
 | n+1,p=>by
  have ih:=qyt g lf x1 n;refine(qb3 (qbh 20 _) q47 q5z 3 [n+1] [n] rfl _).trans ((zib g (Az10 g lf) lf x1 n p).trans ?_);rw[(show (fun q=>Az10 g lf 3 [n] (qik x1 q))=(fun q=>qmd lf x1 n q) from funext ih)];rfl
def Fz10(lf:Nat)(x1:(List qaa)):Option qcs:=qy3 lf x1 (fun q=>qmd lf x1 lf q)
theorem q9x(g:gz10)(lf:Nat)(x1:(List qaa)):Ez10 g (Az10 g lf) lf x1=Fz10 lf x1:=by
  refine(ziq g (Az10 g lf) lf x1).trans ?_;rw[(show (fun q=>Az10 g lf 3 [lf] (qik x1 q))=(fun q=>qmd lf x1 lf q) from funext fun q=>qyt g lf x1 lf q)];rfl
theorem zhi:qbg Try.prog q22:=trivial
theorem zl7{g:gz10}(hsm:SmOK Try.prog qxt)(hg:∀(x:ElA [(.list qad)]) (y:qcs),WfA [(.list qad)] x->g x=some y->∃lf,Fz10 lf x.1=some y):Con Try.prog 55 ⟨[(.list qad)],[(false,.str)],g⟩ :=
 conV (st:=qkg) (fun lf x=>Fz10 lf x.1) cm3 zgp zhi q47 q5z (fun lf x=>q9x g lf x.1) hsm hg
def qkv:Nat->Option Nm:=fun k=>cond (Nat.beq k 3) (some ⟨[4],[],[],[],[],0,0,false⟩) (cond (Nat.beq k 6) (some ⟨[4,5],[(5,.str)],[],[],[],0,0,false⟩) (none))
def qi7:Nat->Bool:=fun k=>cond (Nat.beq k 3) true (cond (Nat.beq k 6) true (false))
def q03:=qi7
abbrev qb2:Type:=(List ByteArray) × Unit
def q26:List (Nat × Sm):=[(55,qzx),(56,quz)]
def q3y:List (Nat × Hx):=[]
def qqy(R:Type)(lf:Nat):ClK R:=qa8 Try.prog ttT.get ftT.get (nm1 28 qkv) (smL q26) (hxL q3y) lf 20 R
abbrev q90:Nat:=28
def qhr(x1:(List qaa))(p:ByteArray):NRes:=(NRes.mk (.node none .leaf (.node none (.node (some (IV.str p)) .leaf .leaf) .leaf)) (IS.mk .leaf 0) [] 0)
def qhb(x1:(List qaa))(p:ByteArray × (List ByteArray)):NRes:=(NRes.mk (.node none (.node none .leaf (.node (some (IV.arr 0)) .leaf .leaf)) (.node none (.node (some (IV.str p.1)) .leaf .leaf) .leaf)) (IS.mk (.node (some (IObj.arr TC.str p.2)) .leaf .leaf) 1) [] 0)
def qsc(lf:Nat)(x1:(List qaa))(L3:ByteArray->Option qb2):Option qb2:=(match (cond (S.pk x1) (some ((qae (S.body x1)),())) none) with|none=>none|some v0=>(match (cond (S.inI (Int.ofNat v0.1.size) (Int.ofNat 0) (Int.ofNat 16777215)) (some ((qae (S.two (Int.toNat (Int.ofNat v0.1.size)))),())) none) with|none=>none|some v1=>(cond (Nat.ble (Nat.succ (Nat.add 2 v1.1.size)) 9223372036854775808) (cond (Nat.ble (Nat.succ (Nat.add (ByteArray.size (ByteArray.append (ByteArray.mk (Array.mk (List.cons (UInt8.ofBitVec (BitVec.ofFin (Fin.mk 1 (jcx (Int.toNat (OfNat.ofNat 1)) (BitVec.ofNat._proof_1 (OfNat.ofNat 8)))))) (List.cons (UInt8.ofBitVec (BitVec.ofFin (Fin.mk (Nat.mod (Int.toNat (IntKind.u8.wrap (Int.fdiv (Int.ofNat v0.1.size) (Int.ofNat 65536)))) 256) (jcx (Int.toNat (IntKind.u8.wrap (Int.fdiv (Nat.cast v0.1.size) (HPow.hPow (OfNat.ofNat 2) (Min.min (Int.toNat (OfNat.ofNat 16)) (IntKind.bits IntKind.i64)))))) (BitVec.ofNat._proof_1 (OfNat.ofNat 8)))))) [])))) v1.1)) v0.1.size)) 9223372036854775808) (L3 (ByteArray.append (ByteArray.append (ByteArray.mk (Array.mk (List.cons (UInt8.ofBitVec (BitVec.ofFin (Fin.mk 1 (jcx (Int.toNat (OfNat.ofNat 1)) (BitVec.ofNat._proof_1 (OfNat.ofNat 8)))))) (List.cons (UInt8.ofBitVec (BitVec.ofFin (Fin.mk (Nat.mod (Int.toNat (IntKind.u8.wrap (Int.fdiv (Int.ofNat v0.1.size) (Int.ofNat 65536)))) 256) (jcx (Int.toNat (IntKind.u8.wrap (Int.fdiv (Nat.cast v0.1.size) (HPow.hPow (OfNat.ofNat 2) (Min.min (Int.toNat (OfNat.ofNat 16)) (IntKind.bits IntKind.i64)))))) (BitVec.ofNat._proof_1 (OfNat.ofNat 8)))))) [])))) v1.1) v0.1)) none) none)))
def qha(lf:Nat)(x1:(List qaa))(L3:ByteArray->Option qb2)(L6:(ByteArray × (List ByteArray))->Option qb2)(p:ByteArray):Option qb2:=(cond (Bool.not (ieqI (Int.ofNat (Nat.mod p.size 64)) (Int.ofNat 0))) (cond (Nat.ble (Nat.succ (Nat.add p.size 1)) 9223372036854775808) (L3 (ByteArray.append p (S.lit [0]))) none) (L6 (p,[])))
def qii(lf:Nat)(x1:(List qaa))(L6:(ByteArray × (List ByteArray))->Option qb2)(p:ByteArray × (List ByteArray)):Option qb2:=(cond (iltI (Int.ofNat 0) (Int.ofNat p.1.size)) (cond (lchk (Int.ofNat 0) (Int.ofNat 64) (Int.ofNat p.1.size) (Int.ofNat p.1.size)) (cond (Nat.ble (Nat.mul (Nat.add p.2.length 1) 16) 140737488355328) (cond (lchk (Int.ofNat 64) (Int.ofNat p.1.size) (Int.ofNat p.1.size) (Int.ofNat p.1.size)) (L6 ((ByteArray.extract p.1 64 (Int.toNat (Int.ofNat p.1.size))),(List.append p.2 [(ByteArray.extract p.1 0 64)]))) none) none) none) (some (p.2,())))
abbrev gz11:Type:=ElA [(.list qad)]->Option qb2
abbrev sz11(g:gz11):Sm:=⟨[(.list qad)],[(true,.str)],g⟩
abbrev Ez11(g:gz11)(J:JT qb2)(lf:Nat)(x1:(List qaa)):=qb6 Try.prog ttT.get qkv fi28.nt (qqy _ lf) lf qi7 J fi28.body [] (qaz (argV [(.list qad)] (x1,())) 0 .leaf) S0 [] (qa2 ttT.get fi28 (sz11 g))
abbrev Bz11(g:gz11)(J:JT qb2)(lf k:Nat)(ms:List Nat)(q:NRes):=qct Try.prog ttT.get qkv fi28.nt (qqy _ lf) lf qi7 J k fi28.body [] ms q (qa2 ttT.get fi28 (sz11 g))
theorem zek(g:gz11)(J:JT qb2)(lf:Nat)(x1:(List qaa)):Ez11 g J lf x1=qsc lf x1 (fun q=>J 3 [lf] (qhr x1 q)):=by kernel_rfl
theorem zct(g:gz11)(J:JT qb2)(lf:Nat)(x1:(List qaa))(m1:Nat)(p:ByteArray):Bz11 g J lf 3 [m1] (qhr x1 p)=qha lf x1 (fun q=>J 3 [m1] (qhr x1 q)) (fun q=>J 6 [lf] (qhb x1 q)) p:=by kernel_rfl
theorem zhe(g:gz11)(J:JT qb2)(lf:Nat)(x1:(List qaa))(m1:Nat)(p:ByteArray × (List ByteArray)):Bz11 g J lf 6 [m1] (qhb x1 p)=qii lf x1 (fun q=>J 6 [m1] (qhb x1 q)) p:=by kernel_rfl
theorem qro:(regs fi28.body).Nodup:=by decide +kernel
theorem quw:okC qkv qi7 q03 fi28.body none=true:=by kernel_rfl
def Az11(g:gz11)(lf:Nat):JT qb2:=atN Try.prog ttT.get qkv fi28 (sz11 g) (qqy _ lf) lf q03
def qdh(lf:Nat)(x1:(List qaa)):Nat->(ByteArray × (List ByteArray))->Option qb2:=qa9 fun K p=>qii lf x1 K p
theorem q41(g:gz11)(lf:Nat)(x1:(List qaa)):∀(n:Nat) (p:ByteArray × (List ByteArray)),Az11 g lf 6 [n] (qhb x1 p)=qdh lf x1 n p
 | 0,p=>qb5 6 [0] rfl _
 | n+1,p=>by
  have ih:=q41 g lf x1 n;refine(qb3 (qbh 20 _) qro quw 6 [n+1] [n] rfl _).trans ((zhe g (Az11 g lf) lf x1 n p).trans ?_);rw[(show (fun q=>Az11 g lf 6 [n] (qhb x1 q))=(fun q=>qdh lf x1 n q) from funext ih)];rfl
def qf5(lf:Nat)(x1:(List qaa)):Nat->(ByteArray)->Option qb2:=qa9 fun K p=>qha lf x1 K (fun q=>qdh lf x1 lf q) p
theorem q6n(g:gz11)(lf:Nat)(x1:(List qaa)):∀(n:Nat) (p:ByteArray),Az11 g lf 3 [n] (qhr x1 p)=qf5 lf x1 n p
 | 0,p=>qb5 3 [0] rfl _
 | n+1,p=>by
  have ih:=q6n g lf x1 n;refine(qb3 (qbh 20 _) qro quw 3 [n+1] [n] rfl _).trans ((zct g (Az11 g lf) lf x1 n p).trans ?_);rw[(show (fun q=>Az11 g lf 6 [lf] (qhb x1 q))=(fun q=>qdh lf x1 lf q) from funext fun q=>q41 g lf x1 lf q),(show (fun q=>Az11 g lf 3 [n] (qhr x1 q))=(fun q=>qf5 lf x1 n q) from funext ih)];rfl
def Fz11(lf:Nat)(x1:(List qaa)):Option qb2:=qsc lf x1 (fun q=>qf5 lf x1 lf q)
theorem zng(g:gz11)(lf:Nat)(x1:(List qaa)):Ez11 g (Az11 g lf) lf x1=Fz11 lf x1:=by
  refine(zek g (Az11 g lf) lf x1).trans ?_;rw[(show (fun q=>Az11 g lf 3 [lf] (qhr x1 q))=(fun q=>qf5 lf x1 lf q) from funext fun q=>q6n g lf x1 lf q)];rfl
theorem zho:qbg Try.prog q3y:=trivial
theorem zmz{g:gz11}(hsm:SmOK Try.prog q26)(hg:∀(x:ElA [(.list qad)]) (y:qb2),WfA [(.list qad)] x->g x=some y->∃lf,Fz11 lf x.1=some y):Con Try.prog 28 ⟨[(.list qad)],[(true,.str)],g⟩ :=
 conV (st:=qi7) (fun lf x=>Fz11 lf x.1) cm3 zka zho qro quw (fun lf x=>zng g lf x.1) hsm hg
abbrev qnk:Type:=ByteArray × Unit
abbrev zbu:Nat:=46
def q4i(lf:Nat)(x1:ByteArray):Option qnk:=(cond (lchk (Int.ofNat 1) (Int.ofNat x1.size) (Int.ofNat x1.size) (Int.ofNat x1.size)) (cond (Nat.ble (Nat.succ (Nat.add 1 (ByteArray.size (ByteArray.extract x1 1 (Int.toNat (Int.ofNat x1.size)))))) 9223372036854775808) (some ((ByteArray.append (S.lit [0]) (ByteArray.extract x1 1 (Int.toNat (Int.ofNat x1.size)))),())) none) none)
def qo2(lf:Nat)(x1:ByteArray):Option qnk:=q4i lf x1
theorem zcg{g:ElA [.str]->Option qnk}(hsm:SmOK Try.prog [])(hg:∀(x:ElA [.str]) (y:qnk),WfA [.str] x->g x=some y->∃lf,qo2 lf x.1=some y):Con Try.prog 46 ⟨[.str],[(false,.str)],g⟩ :=
 conU (fi:=fi46) (hxl:=[]) (fun lf x=>qo2 lf x.1) cm3 znq trivial hsm hg
abbrev qnt:Type:=zif × Unit
abbrev q7w:Nat:=41
def qzp(lf:Nat)(x1:Int)(x2:Int):Option qnt:=(cond (ieqI x2 (Int.ofNat 0)) (some (((Int.ofNat 1),(IntKind.i64.wrap (Int.tdiv x1 (Int.ofNat 2)))),())) (some (((IntKind.i64.wrap (Int.tdiv x1 (Int.ofNat 2))),(IntKind.i64.wrap (Int.sub x1 (Int.ofNat 1)))),())))
def qnw(lf:Nat)(x1:Int)(x2:Int):Option qnt:=qzp lf x1 x2
theorem zb5{g:ElA [(.int .i64),(.int .i64)]->Option qnt}(hsm:SmOK Try.prog [])(hg:∀(x:ElA [(.int .i64),(.int .i64)]) (y:qnt),WfA [(.int .i64),(.int .i64)] x->g x=some y->∃lf,qnw lf x.1 x.2.1=some y):Con Try.prog 41 ⟨[(.int .i64),(.int .i64)],[(false,q5r)],g⟩ :=
 conU (fi:=fi41) (hxl:=[]) (fun lf x=>qnw lf x.1 x.2.1) cm3 zj2 trivial hsm hg
theorem qir(n:Int):IntKind.u8.wrap n=n % 256:=by
 unfold IntKind.wrap;simp[IntKind.signed,IntKind.bits]
theorem qt6(n:Int)(h:Nat.mod (Int.toNat n) 256<2 ^ 8):ByteArray.mk (Array.mk (List.cons (UInt8.ofBitVec (BitVec.ofFin (Fin.mk (Nat.mod (Int.toNat n) 256) h))) []))=qae [n]:=rfl
theorem zax(a b:Int)(h:Nat.mod (Int.toNat a) 256<2 ^ 8)(k:Nat.mod (Int.toNat b) 256<2 ^ 8):ByteArray.mk (Array.mk (List.cons (UInt8.ofBitVec (BitVec.ofFin (Fin.mk (Nat.mod (Int.toNat a) 256) h))) (List.cons (UInt8.ofBitVec (BitVec.ofFin (Fin.mk (Nat.mod (Int.toNat b) 256) k))) [])))=qae [a,b]:=rfl
theorem q60(b:Int)(h:1<2 ^ 8)(k:Nat.mod (Int.toNat b) 256<2 ^ 8):ByteArray.mk (Array.mk (List.cons (UInt8.ofBitVec (BitVec.ofFin (Fin.mk 1 h))) (List.cons (UInt8.ofBitVec (BitVec.ofFin (Fin.mk (Nat.mod (Int.toNat b) 256) k))) [])))=qae [1,b]:=rfl
theorem qev(a b:List Int):ByteArray.append (qae a) (qae b)=qae (a++b):=by
 show qae a++qae b=_;apply ByteArray.ext;simp[qae]
theorem qtq(s:ByteArray):∃b,rng b/\s=qae b/\s.size=b.length/\qab s=b:=⟨qab s,qdu s,(qhg s).symm,(qcv s).symm,rfl⟩
theorem qzf{b:List Int}(h:rng b)(n:Nat):ByteArray.extract (qae b) 0 n=qae (b.take n):=by
 refine qfn ?_;rw[qyq,qbz h,qbz (qej h n)]
theorem qj5{b:List Int}(h:rng b)(n:Nat):ByteArray.extract (qae b) n b.length=qae (b.drop n):=by
 refine qfn ?_;rw[q4p _ _ _ (by rw[qbe];exact jaq _),qbz h,qbz (qd9 h n)]
theorem zj3(lf:Nat)(n:Int)(h:S.inI n 0 16777215=true):qm6 lf n=some (qae (S.two n.toNat),()):=by
 obtain⟨h1,h2⟩:=qbk.1 h;obtain⟨k,rfl⟩:∃k:Nat,n=Int.ofNat k:=⟨n.toNat,by show n=((n.toNat:Nat):Int);omega⟩;simp only[qm6,q2f,zax,qir];refine jaw (fun l=>some (qae l,())) ?_;show [Int.fdiv (k:Int) 256 % 256,(k:Int) % 256]=S.two k;unfold S.two;rw[jed _ (by decide)];simp only[jdv,and_true];omega
theorem q56:Con Try.prog zdl quz:=znv trivial fun x y hx h=>⟨0,by
 obtain⟨h1,h2⟩:=qba (show cond (S.inI x.1 0 16777215) (some (qae (S.two (Int.toNat x.1)),())) none=some y from h);exact(zj3 0 x.1 h1).trans (jaw some h2)⟩
theorem qs5{l:List qaa}(h:S.pk l=true):S.okC l=true/\l.length<=250:=by
 unfold S.pk at h;rw[jae] at h;exact⟨h.1,jak h.2⟩
theorem qof:∀{l:List qaa} {last:Int},S.okGo l last=true->∀c∈l,(0<=c.1/\c.1<=199)/\c.2.1.size<=4000/\(c.2.2=true->c.2.1=S.none_)
 | [],_,_,c,hc=>by cases hc
 | a::l,last,h,c,hc=>by
  obtain⟨h1,h2,h3,h4,h5⟩:=qbo.1 h;rcases jav.1 hc with rfl|hc
  ·exact⟨h1,h2,h3⟩
  ·exact qof h5 c hc
theorem qs2:∀{l:List qaa},(∀c∈l,c.2.1.size<=4000)->(S.body l).length<=4003*l.length
 | [],_=>jb3 _
 | c::l,h=>by
  have h1:=h c (by simp);have h2:=qs2 (l:=l) fun x hx=>h x (by simp[hx]);have h3:cond c.2.2 0 c.2.1.size<=4000:=by
   cases c.2.2
   ·exact h1
   ·exact jb3 _
  rw[qoi,jag,qpo,jat];omega
theorem qoo{l:List qaa}(h:S.pk l=true):(S.body l).length<=1000750:=by
 obtain⟨h1,h2⟩:=qs5 h;have:=qs2 fun c hc=>(qof h1 c hc).2.1;omega
theorem zlx(l:List qaa)(c:qaa):S.body (l++[c])=S.body l++S.cellB c:=by
 unfold S.body;rw[List.flatMap_append];simp
theorem zfz{l:List qaa}(h:S.pk l=true)(i:Nat):(S.body (l.take i)).length<=1000750:=by
 obtain⟨h1,h2⟩:=qs5 h;have:=qs2 (l:=l.take i) fun c hc=>(qof h1 c (jcg hc)).2.1;rw[jbl] at this;omega
theorem qec{n:Nat}(h:n<9223372036854775808):Nat.ble (Nat.succ n) 9223372036854775808=true:=ja0 h
theorem q9e(l:List qaa)(h:S.pk l=true):Fz10 LF l=some (qae (S.body l),()):=by
 obtain⟨hok,hlen⟩:=qs5 h;refine(range0 (σ:=ByteArray) (R:=qcs) l (fun i s=>(s,i)) (fun i s=>s=qae (S.body (l.take i))) (fun _ _ _=>some (qae (S.body l),())) (by unfold LF;omega) (fun K s hs=>?_) (fun K i v rest s hs r hk=>?_) (S.lit []) rfl).trans rfl
 ·rw[List.take_length] at hs;simp only[qmh,qdn,jah];rw[hs]
 ·obtain⟨⟨v1,v2⟩,v3,v4⟩:=qof hok v r.mem;have hB:=zfz h i;have hnext:qae (S.body (l.take (i+1)))=qae (S.body (l.take i)++S.cellB v):=by rw[r.take,zlx]
  obtain⟨k,s0,g⟩:=v;simp only at v1 v2 v3 v4;have hkw:IntKind.u8.wrap k=k % 256:=qir k;subst hs;generalize S.body (l.take i)=B at *;have hsB:(qae B).size=B.length:=qbe B;simp only[qmh,r.ilt,r.get,r.next,jab,qt6,hkw,qev,qbe];rw[qec (n:=Nat.add B.length 1) (by show B.length+1<_;omega),jab];cases g with
  | true =>
   rw[jab,show S.inI (Int.ofNat 0) (Int.ofNat 0) (Int.ofNat 16777215)=true from rfl,jab];simp only;rw[show S.lit [0,0]=qae [0,0] from rfl,qbe,qev,qec (by simp only[jag,jat,jbi];show _+2<_;omega),jab];refine hk _ ?_;rw[hnext,ja2];rfl
  | false =>
   obtain⟨b,hb1,hb2,hb3,_⟩:=qtq s0;subst hb2;rw[hb3] at v3;have hw:IntKind.i64.wrap (Int.ofNat (Nat.add (qae b).size 1))=Int.ofNat (b.length+1):=by
    rw[hb3];exact qbl (n:=b.length+1) (by omega)
   rw[jah,hw,show S.inI (Int.ofNat (b.length+1)) (Int.ofNat 0) (Int.ofNat 16777215)=true from qbk.2 ⟨jbz _,by show ((b.length+1:Nat):Int)<=16777215;omega⟩,jab];simp only[qev,qbe];have h2:(S.two (Int.toNat (Int.ofNat (b.length+1)))).length=2:=rfl;rw[qec (by show _+b.length<_;rw[h2];omega),jab,qec (by simp only[jag,jat,jbi,h2];show (_:Nat)+(_:Nat)<_;omega),jab];refine hk _ ?_;rw[hnext];have:S.cellB (k,qae b,false)=[k % 256]++(S.two (Int.toNat (Int.ofNat (b.length+1)))++b):=by
    unfold S.cellB;simp only[jah];rw[hb3,qbz hb1];rfl
   rw[this,ja2]
theorem zds:Con Try.prog zkh qzx:=zl7 ⟨q56,trivial⟩ fun x y hx h=>⟨LF,by
 obtain⟨h1,h2⟩:=qba (show cond (S.pk x.1) (some (qae (S.body x.1),())) none=some y from h);exact(q9e x.1 h1).trans (jaw some h2)⟩
def cut:Nat->List Int->List ByteArray
 | 0,_=>[]
 | m+1,b=>qae (b.take 64)::cut m (b.drop 64)
theorem q1h:∀(f:Nat) (b:List Int),b.length<=f->S.chunks f b=cut ((b.length+63) / 64) (b++List.replicate (64*((b.length+63) / 64)-b.length) 0)
 | 0,b,h=>by
  have:b=[]:=jay.1 (by omega);subst this;rfl
 | f+1,b,h=>by
  by_cases hb:0<b.length
  ·have ih:=q1h f (b.drop 64) (by rw[ja6];omega);rw[ja6] at ih;rw[qf2 f hb,ih,show (b.length+63) / 64=(b.length-64+63) / 64+1 by omega];show _=qae ((b++_).take 64)::cut _ ((b++_).drop 64);by_cases h64:64<=b.length
   ·rw[jd2 h64,jd3 h64,show 64-b.length=0 by omega,je8,jbo,show 64*((b.length-64+63) / 64+1)-b.length=64*((b.length-64+63) / 64)-(b.length-64) by omega]
   ·have e1:b.drop 64=[]:=jcp (by omega);rw[show (b.length-64+63) / 64=0 by omega,jbv (by omega:b.length<=64),jbv (by rw[jag,jba];omega),show 64*(0+1)-b.length=64-b.length by omega];rfl
  ·have:b=[]:=jay.1 (by omega);subst this;rfl
theorem q2a(l:List qaa):∀(m f:Nat) (b:List Int) (out:List ByteArray),rng b->b.length=64*m->m<f->out.length+m<=1000000->qdh LF l f (qae b,out)=some (out++cut m b,())
 | 0,f+1,b,out,hr,hb,hf,ho=>by
  have:b=[]:=jay.1 (by omega);subst this;show qii LF l (qdh LF l f) (qae [],out)=_;simp only[qii];rw[qbe];show some (out,())=some (out++[],());rw[jbo]
 | m+1,f+1,b,out,hr,hb,hf,ho=>by
  show qii LF l (qdh LF l f) _=_;simp only[qii];have l1:lchk (Int.ofNat 0) (Int.ofNat 64) (Int.ofNat b.length) (Int.ofNat b.length)=true:=qby.2 ⟨jbr _,by decide,by show (64:Int)<=(b.length:Int);omega,jbr _⟩;have l2:lchk (Int.ofNat 64) (Int.ofNat b.length) (Int.ofNat b.length) (Int.ofNat b.length)=true:=qby.2 ⟨by decide,by show (64:Int)<=(b.length:Int);omega,jbr _,jbr _⟩
  rw[qbe,qei (show Int.ofNat 0<Int.ofNat b.length by show (0:Int)<(b.length:Int);omega),jab,l1,jab,ja0 (by show (out.length+1)*16<=_;omega),jab,
   l2,jab,qzf hr,show Int.toNat (Int.ofNat b.length)=b.length from rfl,qj5 hr]
  rw[q2a l m f (b.drop 64) _ (qd9 hr 64) (by rw[ja6];omega) (by omega) (by simp only[jei,jag,jat,jbi];omega)];show some ((out++[_])++cut m _,())=some (out++_::cut m _,());rw[ja2];rfl
theorem q3b(l:List qaa):∀(k f:Nat) (b:List Int),k=(64-b.length % 64) % 64->k<f->b.length<=2000000->qf5 LF l f (qae b)=qdh LF l LF (qae (b++List.replicate k 0),[])
 | 0,f+1,b,hk,hf,hb=>by
  show qha LF l (qf5 LF l f) (fun q=>qdh LF l LF q) (qae b)=_;simp only[qha];rw[qbe,qbm (show Int.ofNat (Nat.mod b.length 64)=Int.ofNat 0 from jaw Int.ofNat (show b.length % 64=0 by omega))];show qdh LF l LF (qae b,[])=qdh LF l LF (qae (b++[]),[]);rw[jbo]
 | k+1,f+1,b,hk,hf,hb=>by
  show qha LF l (qf5 LF l f) (fun q=>qdh LF l LF q) (qae b)=_;simp only[qha]
  rw[qbe,qbn (show ¬Int.ofNat (Nat.mod b.length 64)=Int.ofNat 0 from fun e=>by have:=jdw e;have:b.length % 64=0:=this;omega),ja4,jab,qec (by show b.length+1<_;omega),jab,show S.lit [0]=qae [0] from rfl,qev,
   q3b l k f (b++[0]) (by rw[jag,jat,jbi];omega) (by omega) (by rw[jag,jat,jbi];have:b.length<=2000000:=hb;omega),ja2]
  rfl
theorem zde(l:List qaa)(h:S.pk l=true):Fz11 LF l=some (S.packed l 1,()):=by
 have hb:=qoo h;simp only[Fz11,qsc,h,jab,qbe];rw[show S.inI (Int.ofNat (S.body l).length) (Int.ofNat 0) (Int.ofNat 16777215)=true from qbk.2 ⟨jbz _,by show (((S.body l).length:Nat):Int)<=16777215;omega⟩];simp only[jab,q60,qir,qev,qbe];have h2:(S.two (Int.toNat (Int.ofNat (S.body l).length))).length=2:=rfl;rw[qec (by show 2+_<_;rw[h2];decide),jab,qec (by simp only[jag,jat,jbi,h2];show (_:Nat)+(_:Nat)<_;omega),jab];have hrec:[1,Int.fdiv (Int.ofNat (S.body l).length) (Int.ofNat 65536) % 256]++S.two (Int.toNat (Int.ofNat (S.body l).length))++S.body l=S.recB l 1:=by
  unfold S.recB;have:Int.fdiv (Int.ofNat (S.body l).length) (Int.ofNat 65536) % 256=(((S.body l).length / 65536 % 256:Nat):Int):=by
   rw[jed _ (by decide)];show ((S.body l).length:Int) / 65536 % 256=_;omega
  rw[this,ja2];rfl
 rw[hrec,q3b l _ LF (S.recB l 1) rfl (by unfold LF;omega) (by rw[qeg];omega)];have hl:=qeg l 1;have hp:S.packed l 1=_:=q1h (S.recB l 1).length (S.recB l 1) (jaq _);rw[hp,show (64-(S.recB l 1).length % 64) % 64=64*(((S.recB l 1).length+63) / 64)-(S.recB l 1).length by omega];rw[q2a l (((S.recB l 1).length+63) / 64) LF _ [] (qfh (qkj l (by decide)) (qfy _)) (by rw[jag,jba];omega) (by unfold LF;omega) (by rw[jbi];omega)];rfl
theorem qm0:Con Try.prog q90 qk0:=zmz ⟨zds,q56,trivial⟩ fun x y hx h=>⟨LF,by
 obtain⟨h1,h2⟩:=qba (show cond (S.pk x.1) (some (S.packed x.1 1,())) none=some y from h);exact(zde x.1 h1).trans (jaw some h2)⟩
theorem zj1(lf:Nat)(s:ByteArray)(h:s.size=64):qo2 lf s=some (qae (0::(qab s).drop 1),()):=by
 obtain⟨b,hb1,rfl,hb3,hb4⟩:=qtq s;rw[hb3] at h;simp only[qo2,q4i];have l1:lchk (Int.ofNat 1) (Int.ofNat b.length) (Int.ofNat b.length) (Int.ofNat b.length)=true:=qby.2 ⟨by decide,by show (1:Int)<=(b.length:Int);omega,jbr _,jbr _⟩;rw[hb3,hb4,l1,jab,show Int.toNat (Int.ofNat b.length)=b.length from rfl,qj5 hb1,qbe,qec (by show 1+_<_;rw[ja6];omega),jab,show S.lit [0]=qae [0] from rfl,qev];rfl
theorem q6h:Con Try.prog zbu qu0:=zcg trivial fun x y hx h=>⟨0,by
 obtain⟨h1,h2⟩:=qba (show cond (decide (ByteArray.size x.1=64)) (some (qae (0::(qab x.1).drop 1),())) none=some y from h);exact(zj1 0 x.1 (ja3 h1)).trans (jaw some h2)⟩
theorem zl5(lf:Nat)(n h:Int)(hn:S.inI n 0 1000=true):qnw lf n h=some (S.half n.toNat h,()):=by
 obtain⟨h1,h2⟩:=qbk.1 hn;have e1:Int.tdiv n (Int.ofNat 2)=((n.toNat / 2:Nat):Int):=by
  rw[Int.tdiv_eq_ediv_of_nonneg h1];show n / 2=_;omega
 simp only[qnw,qzp,e1];rw[wrap_in (n:=((n.toNat / 2:Nat):Int)) (by omega),wrap_in (n:=Int.sub n (Int.ofNat 1)) (by show -9223372036854775808<=n-1/\n-1<9223372036854775808;omega)];unfold S.half;by_cases h0:h=0
 ·rw[qbm (show h=Int.ofNat 0 from h0),jab,jam h0];rfl
 ·rw[qbn (show ¬h=Int.ofNat 0 from h0),jah,jan h0];refine jaw (fun z:Int=>some ((_,z),())) ?_;show n-1=(n.toNat:Int)-1;omega
theorem qns:Con Try.prog q7w qkb:=zb5 trivial fun x y hx h=>⟨0,by
 obtain⟨h1,h2⟩:=qba (show cond (S.inI x.1 0 1000) (some (S.half (Int.toNat x.1) x.2.1,())) none=some y from h);exact(zl5 0 x.1 x.2.1 h1).trans (jaw some h2)⟩
theorem zdk{l:List ByteArray}{i:Nat}(h:i<l.length)(a:Int):S.puts (a+i) (l.drop i)=S.put (a+i) (l.getD i S.none_)::S.puts (a+((i+1:Nat):Int)) (l.drop (i+1)):=by
 rw[jdd h,jai,jac h];show S.put (a+i) _::S.puts (a+i+1) _=_;rw[show a+(i:Int)+1=a+((i+1:Nat):Int) by omega];rfl
theorem q2k(x1:List DAct)(a:Int)(l:List ByteArray)(ha:S.inI a 0 1000000=true)(hl:l.length<=1000000):∀(k f i:Nat) (out:List DAct),i+k=l.length->k<f->out.length+k<=2000000->qf6 LF x1 a l f (Int.ofNat i,out)=some ((),((out++S.puts (a+i) (l.drop i),()),()))
 | 0,f+1,i,out,hi,hf,ho=>by
  show qg2 LF x1 a l (qf6 LF x1 a l f) _=_;simp only[qg2];rw[qcb,jar (by omega),jah,jcp (by omega)];show some ((),((out,()),()))=some ((),((out++[],()),()));rw[jbo]
 | k+1,f+1,i,out,hi,hf,ho=>by
  obtain⟨h1,h2⟩:=qbk.1 ha;show qg2 LF x1 a l (qf6 LF x1 a l f) _=_;simp only[qg2];rw[qcb,jao (by omega),jab,qtp (i:=Int.ofNat i) (d:=S.none_) (jbz i) (by show (i:Int)<(l.length:Int);omega)];simp only
  rw[ja0 (by show (out.length+1)*32<=_;omega),jab,show IntKind.i64.wrap (Int.add (Int.ofNat i) (Int.ofNat 1))=Int.ofNat (i+1) from qbl (n:=i+1) (by omega),
   show IntKind.i64.wrap (Int.add a (Int.ofNat i))=a+i from wrap_in (by show -_<=a+(i:Int)/\a+(i:Int)<_;omega),
   q2k x1 a l ha hl k f (i+1) _ (by omega) (by omega) (by simp only[jei,jag,jat,jbi];omega),zdk (l:=l) (i:=i) (by omega) a]
  show some ((),(((out++[_])++_,()),()))=some ((),((out++_::_,()),()));rw[ja2];rfl
theorem zi7(x1:List DAct)(a:Int)(l:List ByteArray)(ha:S.inI a 0 1000000=true)(hl:l.length<=1000000)(hx:x1.length<=1000000):Fz5 LF x1 a l=some ((),((S.app x1 (S.puts a l),()),())):=by
 simp only[Fz5,quv];refine(q2k x1 a l ha hl l.length LF 0 x1 (by omega) (by unfold LF;omega) (by omega)).trans ?_;rw[jeg,show a+((0:Nat):Int)=a by omega];rfl
theorem qqp:ConR Try.prog idz5 spz5:=mkz5 trivial fun x y hx h=>⟨LF,by
 obtain⟨h1,h2⟩:=qba (show cond (S.inI x.2.1 0 1000000&&(Nat.ble x.2.2.1.length 1000000&&Nat.ble (S.lenA x.1.1) 1000000)) (some ((),((S.app x.1.1 (S.puts x.2.1 x.2.2.1),()),()))) none=some y from h);rw[jae,jae] at h1;exact(zi7 x.1.1 x.2.1 x.2.2.1 h1.1 (jak h1.2.1) (jak h1.2.2)).trans (jaw some h2)⟩
theorem q6u(x1:List DAct)(hx:x1.length<=4000000):Fz6 LF x1=some ((),((S.app x1 [S.sync],()),())):=by
 simp only[Fz6,qus];rw[ja0 (by show (x1.length+1)*32<=_;omega),jab];rfl
theorem qsx:ConR Try.prog idz6 spz6:=mkz6 trivial fun x y hx h=>⟨LF,by
 obtain⟨h1,h2⟩:=qba (show cond (Nat.ble (S.lenA x.1.1) 4000000) (some ((),((S.app x.1.1 [S.sync],()),()))) none=some y from h);exact(q6u x.1.1 (jak h1)).trans (jaw some h2)⟩
end Go.Proofs.Ytnhmanoiolfapaa
end

section
namespace Go.Jx
open Go Go.Sx Go.RowKit
end Go.Jx
end

section
namespace Go.Jx
open Go Go.Sx Go.RowKit
def omap{α β:Type}(f:α->β):Option α->Option β
 | none=>none
 | some a=>some (f a)
def hxG(a:Hx):Hx:=⟨fun cl vs S=>omap (igc S) (a.f cl vs S),fun clP R vs S kk=>a.k clP R vs S fun r=>kk (igc S r),fun cl clP h R vs S kk=>by
 rw[a.eq cl clP h R vs S];cases a.f cl vs S<;>rfl⟩
theorem zk7{P:Program}{f:Nat}{a:Hx}(ha:HxOK P f a.f):HxOK P f (hxG a).f:=by
 have inv:∀{cl vs S r},(hxG a).f cl vs S=some r->∃q,a.f cl vs S=some q/\r=igc S q:=by
  intro cl vs S r hr;have hr:omap (igc S) (a.f cl vs S)=some r:=hr;cases hq:a.f cl vs S with
  | none=>rw[hq] at hr;cases hr
  | some q=>rw[hq] at hr;cases hr;exact⟨q,rfl,rfl⟩
 refine⟨fun cl h1 h2 h3 vs S r hr T E us p hrd hwr hv=>?_,fun cl h1 vs S r hr=>?_,fun cl h1 vs S r hr hw hl=>?_⟩
 ·obtain⟨q,hq,rfl⟩:=inv hr;obtain⟨T',p',t1,t2,hback⟩:=qxi p hrd hwr;obtain⟨c1,c2⟩:=ha.fn cl h1 h2 h3 vs S q hq T' E us p' t1 t2 hv;exact⟨c1,c2.mono fun e w h=>hback e w h⟩
 ·obtain⟨q,hq,rfl⟩:=inv hr;exact q50 (ha.fr cl h1 vs S q hq)
 ·obtain⟨q,hq,rfl⟩:=inv hr;exact q2l hw hl
end Go.Jx
end

noncomputable section
set_option maxRecDepth 100000
namespace Go.Proofs.Ytnhmanoiolfapaa
open Go Go.Sx Go.RowKit Go.Jx
def qxp:List (Nat × Hx):=[(45,hxR spz6),(42,hxG (hxR spz5))]
abbrev qot:Type:=(List DAct) × Bool × Unit
abbrev q99:Nat:=23
def q5c(lf:Nat)(x1:qac):Option qot:=(match (cond (S.pk x1.2.2.2) (some ((S.packed x1.2.2.2 (Int.ofNat 1)),())) none) with|none=>none|some v0=>(match (cond (S.inI (Int.ofNat x1.1.1.length) (Int.ofNat 0) (Int.ofNat 1000)) (some ((S.half (Int.toNat (Int.ofNat x1.1.1.length)) (IntKind.i64.wrap (Int.sub (Int.ofNat 1) x1.2.1))),())) none) with|none=>none|some v1=>(cond (iltI (IntKind.i64.wrap (Int.sub v1.1.2 v1.1.1)) (Int.ofNat v0.1.length)) (some ([],(false,()))) (match (cond (S.inI (IntKind.i64.wrap (Int.sub v1.1.2 v1.1.1)) (Int.ofNat 0) (Int.ofNat 1000)) (some ((List.replicate (Int.toNat (IntKind.i64.wrap (Int.sub v1.1.2 v1.1.1))) (S.lit [0,0,0,0,0,0,0,0,0,0,0,0,0,0,0,0,0,0,0,0,0,0,0,0,0,0,0,0,0,0,0,0,0,0,0,0,0,0,0,0,0,0,0,0,0,0,0,0,0,0,0,0,0,0,0,0,0,0,0,0,0,0,0,0])),())) none) with|none=>none|some v2=>(match (cond (Bool.and (S.inI v1.1.1 (Int.ofNat 0) (Int.ofNat 1000000)) (Bool.and (Nat.ble v2.1.length 1000000) true)) (some ((),(((S.app [] (S.puts v1.1.1 v2.1)),()),()))) none) with|none=>none|some v3=>(match (cond (Nat.ble (S.lenA v3.2.1.1) 4000000) (some ((),(((S.app v3.2.1.1 [S.sync]),()),()))) none) with|none=>none|some v4=>(match (jget v0.1 (Int.ofNat 0)) with|none=>none|some v5=>(match (GetElem?.getElem? v0.1 0) with|none=>none|some v6=>(match (cond (Decidable.decide (Eq v6.size 64)) (some ((qae (List.cons (Int.ofNat 0) (List.drop 1 (qab v6)))),())) none) with|none=>none|some v7=>(match (cond (Bool.and (S.inI v1.1.1 (Int.ofNat 0) (Int.ofNat 1000000)) (Nat.ble (S.lenA v4.2.1.1) 1000000)) (some ((),(((S.app v4.2.1.1 (S.puts v1.1.1 [v7.1])),()),()))) none) with|none=>none|some v8=>(cond (lchk (Int.ofNat 1) (Int.ofNat v0.1.length) (Int.ofNat v0.1.length) (Int.ofNat v0.1.length)) (match (cond (Bool.and (S.inI (IntKind.i64.wrap (Int.add v1.1.1 (Int.ofNat 1))) (Int.ofNat 0) (Int.ofNat 1000000)) (Bool.and (Nat.ble (List.length (lsub v0.1 (Int.ofNat 1) (Int.ofNat v0.1.length))) 1000000) (Nat.ble (S.lenA v8.2.1.1) 1000000))) (some ((),(((S.app v8.2.1.1 (S.puts (IntKind.i64.wrap (Int.add v1.1.1 (Int.ofNat 1))) (lsub v0.1 (Int.ofNat 1) (Int.ofNat v0.1.length)))),()),()))) none) with|none=>none|some v9=>(match (cond (Nat.ble (S.lenA v9.2.1.1) 4000000) (some ((),(((S.app v9.2.1.1 [S.sync]),()),()))) none) with|none=>none|some v10=>(match (jget v0.1 (Int.ofNat 0)) with|none=>none|some v11=>(match (cond (Bool.and (S.inI v1.1.1 (Int.ofNat 0) (Int.ofNat 1000000)) (Nat.ble (S.lenA v10.2.1.1) 1000000)) (some ((),(((S.app v10.2.1.1 (S.puts v1.1.1 [v11])),()),()))) none) with|none=>none|some v12=>(match (cond (Nat.ble (S.lenA v12.2.1.1) 4000000) (some ((),(((S.app v12.2.1.1 [S.sync]),()),()))) none) with|none=>none|some v13=>(match (cond (Bool.and (S.inI (Int.ofNat 0) (Int.ofNat 0) (Int.ofNat 1000000)) (Nat.ble (S.lenA v13.2.1.1) 1000000)) (some ((),(((S.app v13.2.1.1 (S.puts (Int.ofNat 0) (List.cons (ByteArray.append (ByteArray.mk (Array.mk (List.cons (UInt8.ofBitVec (BitVec.ofFin (Fin.mk (Nat.mod (Int.toNat (IntKind.u8.wrap (IntKind.i64.wrap (Int.sub (Int.ofNat 1) x1.2.1)))) 256) (jcx (Int.toNat (IntKind.u8.wrap (IntKind.i64.wrap (HSub.hSub (OfNat.ofNat 1) (x1,()).1.2.1)))) (BitVec.ofNat._proof_1 (OfNat.ofNat 8)))))) []))) (S.lit [0,0,0,0,0,0,0,0,0,0,0,0,0,0,0,0,0,0,0,0,0,0,0,0,0,0,0,0,0,0,0,0,0,0,0,0,0,0,0,0,0,0,0,0,0,0,0,0,0,0,0,0,0,0,0,0,0,0,0,0,0,0,0])) []))),()),()))) none) with|none=>none|some v14=>(match (cond (Nat.ble (S.lenA v14.2.1.1) 4000000) (some ((),(((S.app v14.2.1.1 [S.sync]),()),()))) none) with|none=>none|some v15=>(some (v15.2.1.1,(true,())))))))))) none)))))))))))
def qk8(lf:Nat)(x1:qac):Option qot:=q5c lf x1
theorem zgc(hrz6:ConR Try.prog 45 spz6):qbg Try.prog qxp:=⟨qfg hrz6,⟨zk7 (qfg qqp),trivial⟩⟩
theorem zf4{g:ElA [qag]->Option qot}(hsm:SmOK Try.prog [(28,qk0),(41,qkb),(46,qu0),(44,q4f),(43,qic)])(hrz6:ConR Try.prog 45 spz6)(hg:∀(x:ElA [qag]) (y:qot),WfA [qag] x->g x=some y->∃lf,qk8 lf x.1=some y):Con Try.prog 23 ⟨[qag],[(true,cAct),(false,.bool)],g⟩ :=
 conU (fi:=fi23) (hxl:=qxp) (fun lf x=>qk8 lf x.1) cm3 zb2 (zgc hrz6) hsm hg

def qks:Nat->Option Nm:=fun k=>cond (Nat.beq k 2) (some ⟨[0,4],[(4,qad)],[],[],[],0,0,false⟩) (none)
def qj9:Nat->Bool:=fun k=>cond (Nat.beq k 2) true (false)
def q6j:=qj9
abbrev qc0:Type:=(List qaa) × Bool × Unit
def qyg:List (Nat × Sm):=[]
def q57:List (Nat × Hx):=[]
def qsi(R:Type)(lf:Nat):ClK R:=qa8 Try.prog ttT.get ftT.get (nm1 74 qks) (smL qyg) (hxL q57) lf 20 R
abbrev zdg:Nat:=74
def qhj(x1:ByteArray)(p:ByteArray × (List qaa)):NRes:=(NRes.mk (.node (some (IV.str p.1)) .leaf (.node none (.node (some (IV.arr 0)) .leaf .leaf) .leaf)) (IS.mk (.node (some (IObj.arr qad p.2)) .leaf .leaf) 1) [] 0)
def qup(lf:Nat)(x1:ByteArray)(L2:(ByteArray × (List qaa))->Option qc0):Option qc0:=(L2 (x1,[]))
def ql2(lf:Nat)(x1:ByteArray)(L2:(ByteArray × (List qaa))->Option qc0)(p:ByteArray × (List qaa)):Option qc0:=(cond (iltI (Int.ofNat 0) (Int.ofNat p.1.size)) (cond (iltI (Int.ofNat p.1.size) (Int.ofNat 3)) (some ([],(false,()))) (match (jget (qab p.1) (Int.ofNat 0)) with|none=>none|some v0=>(match (jget (qab p.1) (Int.ofNat 1)) with|none=>none|some v1=>(match (jget (qab p.1) (Int.ofNat 2)) with|none=>none|some v2=>(cond (lchk (Int.ofNat 3) (Int.ofNat p.1.size) (Int.ofNat p.1.size) (Int.ofNat p.1.size)) (cond (iltI (Int.ofNat 199) (IntKind.i64.wrap v0)) (some ([],(false,()))) (cond (iltI (Int.ofNat 0) (Int.ofNat p.2.length)) (match (jget p.2 (IntKind.i64.wrap (Int.sub (Int.ofNat p.2.length) (Int.ofNat 1)))) with|none=>none|some v3=>(match (GetElem?.getElem? p.2 (Int.toNat (IntKind.i64.wrap (Int.sub (Int.ofNat p.2.length) (Int.ofNat 1))))) with|none=>none|some v4=>(cond (Bool.not (iltI v4.1 (IntKind.i64.wrap v0))) (some ([],(false,()))) (cond (iltI (IntKind.i64.wrap (Int.ofNat (Nat.add (ByteArray.size (ByteArray.extract p.1 3 (Int.toNat (Int.ofNat p.1.size)))) 1))) (IntKind.i64.wrap (Int.add (IntKind.i64.wrap (Int.mul (IntKind.i64.wrap v1) (Int.ofNat 256))) (IntKind.i64.wrap v2)))) (some ([],(false,()))) (cond (iltI (Int.ofNat 4001) (IntKind.i64.wrap (Int.add (IntKind.i64.wrap (Int.mul (IntKind.i64.wrap v1) (Int.ofNat 256))) (IntKind.i64.wrap v2)))) (some ([],(false,()))) (cond (ieqI (IntKind.i64.wrap (Int.add (IntKind.i64.wrap (Int.mul (IntKind.i64.wrap v1) (Int.ofNat 256))) (IntKind.i64.wrap v2))) (Int.ofNat 0)) (cond (Nat.ble (Nat.mul (Nat.add p.2.length 1) 32) 140737488355328) (L2 ((ByteArray.extract p.1 3 (Int.toNat (Int.ofNat p.1.size))),(List.append p.2 (List.cons ((IntKind.i64.wrap v0),((S.lit []),true)) [])))) none) (cond (lchk (Int.ofNat 0) (IntKind.i64.wrap (Int.sub (IntKind.i64.wrap (Int.add (IntKind.i64.wrap (Int.mul (IntKind.i64.wrap v1) (Int.ofNat 256))) (IntKind.i64.wrap v2))) (Int.ofNat 1))) (Int.ofNat (ByteArray.size (ByteArray.extract p.1 3 (Int.toNat (Int.ofNat p.1.size))))) (Int.ofNat (ByteArray.size (ByteArray.extract p.1 3 (Int.toNat (Int.ofNat p.1.size)))))) (cond (lchk (IntKind.i64.wrap (Int.sub (IntKind.i64.wrap (Int.add (IntKind.i64.wrap (Int.mul (IntKind.i64.wrap v1) (Int.ofNat 256))) (IntKind.i64.wrap v2))) (Int.ofNat 1))) (Int.ofNat (ByteArray.size (ByteArray.extract p.1 3 (Int.toNat (Int.ofNat p.1.size))))) (Int.ofNat (ByteArray.size (ByteArray.extract p.1 3 (Int.toNat (Int.ofNat p.1.size))))) (Int.ofNat (ByteArray.size (ByteArray.extract p.1 3 (Int.toNat (Int.ofNat p.1.size)))))) (cond (Nat.ble (Nat.mul (Nat.add p.2.length 1) 32) 140737488355328) (L2 ((ByteArray.extract (ByteArray.extract p.1 3 (Int.toNat (Int.ofNat p.1.size))) (Int.toNat (IntKind.i64.wrap (Int.sub (IntKind.i64.wrap (Int.add (IntKind.i64.wrap (Int.mul (IntKind.i64.wrap v1) (Int.ofNat 256))) (IntKind.i64.wrap v2))) (Int.ofNat 1)))) (Int.toNat (Int.ofNat (ByteArray.size (ByteArray.extract p.1 3 (Int.toNat (Int.ofNat p.1.size))))))),(List.append p.2 (List.cons ((IntKind.i64.wrap v0),((ByteArray.extract (ByteArray.extract p.1 3 (Int.toNat (Int.ofNat p.1.size))) 0 (Int.toNat (IntKind.i64.wrap (Int.sub (IntKind.i64.wrap (Int.add (IntKind.i64.wrap (Int.mul (IntKind.i64.wrap v1) (Int.ofNat 256))) (IntKind.i64.wrap v2))) (Int.ofNat 1))))),false)) [])))) none) none) none))))))) (cond (iltI (IntKind.i64.wrap (Int.ofNat (Nat.add (ByteArray.size (ByteArray.extract p.1 3 (Int.toNat (Int.ofNat p.1.size)))) 1))) (IntKind.i64.wrap (Int.add (IntKind.i64.wrap (Int.mul (IntKind.i64.wrap v1) (Int.ofNat 256))) (IntKind.i64.wrap v2)))) (some ([],(false,()))) (cond (iltI (Int.ofNat 4001) (IntKind.i64.wrap (Int.add (IntKind.i64.wrap (Int.mul (IntKind.i64.wrap v1) (Int.ofNat 256))) (IntKind.i64.wrap v2)))) (some ([],(false,()))) (cond (ieqI (IntKind.i64.wrap (Int.add (IntKind.i64.wrap (Int.mul (IntKind.i64.wrap v1) (Int.ofNat 256))) (IntKind.i64.wrap v2))) (Int.ofNat 0)) (cond (Nat.ble (Nat.mul (Nat.add p.2.length 1) 32) 140737488355328) (L2 ((ByteArray.extract p.1 3 (Int.toNat (Int.ofNat p.1.size))),(List.append p.2 (List.cons ((IntKind.i64.wrap v0),((S.lit []),true)) [])))) none) (cond (lchk (Int.ofNat 0) (IntKind.i64.wrap (Int.sub (IntKind.i64.wrap (Int.add (IntKind.i64.wrap (Int.mul (IntKind.i64.wrap v1) (Int.ofNat 256))) (IntKind.i64.wrap v2))) (Int.ofNat 1))) (Int.ofNat (ByteArray.size (ByteArray.extract p.1 3 (Int.toNat (Int.ofNat p.1.size))))) (Int.ofNat (ByteArray.size (ByteArray.extract p.1 3 (Int.toNat (Int.ofNat p.1.size)))))) (cond (lchk (IntKind.i64.wrap (Int.sub (IntKind.i64.wrap (Int.add (IntKind.i64.wrap (Int.mul (IntKind.i64.wrap v1) (Int.ofNat 256))) (IntKind.i64.wrap v2))) (Int.ofNat 1))) (Int.ofNat (ByteArray.size (ByteArray.extract p.1 3 (Int.toNat (Int.ofNat p.1.size))))) (Int.ofNat (ByteArray.size (ByteArray.extract p.1 3 (Int.toNat (Int.ofNat p.1.size))))) (Int.ofNat (ByteArray.size (ByteArray.extract p.1 3 (Int.toNat (Int.ofNat p.1.size)))))) (cond (Nat.ble (Nat.mul (Nat.add p.2.length 1) 32) 140737488355328) (L2 ((ByteArray.extract (ByteArray.extract p.1 3 (Int.toNat (Int.ofNat p.1.size))) (Int.toNat (IntKind.i64.wrap (Int.sub (IntKind.i64.wrap (Int.add (IntKind.i64.wrap (Int.mul (IntKind.i64.wrap v1) (Int.ofNat 256))) (IntKind.i64.wrap v2))) (Int.ofNat 1)))) (Int.toNat (Int.ofNat (ByteArray.size (ByteArray.extract p.1 3 (Int.toNat (Int.ofNat p.1.size))))))),(List.append p.2 (List.cons ((IntKind.i64.wrap v0),((ByteArray.extract (ByteArray.extract p.1 3 (Int.toNat (Int.ofNat p.1.size))) 0 (Int.toNat (IntKind.i64.wrap (Int.sub (IntKind.i64.wrap (Int.add (IntKind.i64.wrap (Int.mul (IntKind.i64.wrap v1) (Int.ofNat 256))) (IntKind.i64.wrap v2))) (Int.ofNat 1))))),false)) [])))) none) none) none)))))) none))))) (some (p.2,(true,()))))
abbrev gz12:Type:=ElA [.str]->Option qc0
abbrev sz12(g:gz12):Sm:=⟨[.str],[(true,qad),(false,.bool)],g⟩
abbrev Ez12(g:gz12)(J:JT qc0)(lf:Nat)(x1:ByteArray):=qb6 Try.prog ttT.get qks fi74.nt (qsi _ lf) lf qj9 J fi74.body [] (qaz (argV [.str] (x1,())) 0 .leaf) S0 [] (qa2 ttT.get fi74 (sz12 g))
abbrev Bz12(g:gz12)(J:JT qc0)(lf k:Nat)(ms:List Nat)(q:NRes):=qct Try.prog ttT.get qks fi74.nt (qsi _ lf) lf qj9 J k fi74.body [] ms q (qa2 ttT.get fi74 (sz12 g))
theorem zgi(g:gz12)(J:JT qc0)(lf:Nat)(x1:ByteArray):Ez12 g J lf x1=qup lf x1 (fun q=>J 2 [lf] (qhj x1 q)):=by kernel_rfl
theorem q9c(g:gz12)(J:JT qc0)(lf:Nat)(x1:ByteArray)(m1:Nat)(p:ByteArray × (List qaa)):Bz12 g J lf 2 [m1] (qhj x1 p)=ql2 lf x1 (fun q=>J 2 [m1] (qhj x1 q)) p:=by kernel_rfl
theorem qvk:(regs fi74.body).Nodup:=by decide +kernel
theorem qz0:okC qks qj9 q6j fi74.body none=true:=by kernel_rfl
def Az12(g:gz12)(lf:Nat):JT qc0:=atN Try.prog ttT.get qks fi74 (sz12 g) (qsi _ lf) lf q6j
def qhw(lf:Nat)(x1:ByteArray):Nat->(ByteArray × (List qaa))->Option qc0:=qa9 fun K p=>ql2 lf x1 K p
theorem qw3(g:gz12)(lf:Nat)(x1:ByteArray):∀(n:Nat) (p:ByteArray × (List qaa)),Az12 g lf 2 [n] (qhj x1 p)=qhw lf x1 n p
 | 0,p=>qb5 2 [0] rfl _
 | n+1,p=>by
  have ih:=qw3 g lf x1 n;refine(qb3 (qbh 20 _) qvk qz0 2 [n+1] [n] rfl _).trans ((q9c g (Az12 g lf) lf x1 n p).trans ?_);rw[(show (fun q=>Az12 g lf 2 [n] (qhj x1 q))=(fun q=>qhw lf x1 n q) from funext ih)];rfl
def Fz12(lf:Nat)(x1:ByteArray):Option qc0:=qup lf x1 (fun q=>qhw lf x1 lf q)
theorem zcx(g:gz12)(lf:Nat)(x1:ByteArray):Ez12 g (Az12 g lf) lf x1=Fz12 lf x1:=by
  refine(zgi g (Az12 g lf) lf x1).trans ?_;rw[(show (fun q=>Az12 g lf 2 [lf] (qhj x1 q))=(fun q=>qhw lf x1 lf q) from funext fun q=>qw3 g lf x1 lf q)];rfl
theorem zap:qbg Try.prog q57:=trivial
theorem zmi{g:gz12}(hsm:SmOK Try.prog qyg)(hg:∀(x:ElA [.str]) (y:qc0),WfA [.str] x->g x=some y->∃lf,Fz12 lf x.1=some y):Con Try.prog 74 ⟨[.str],[(true,qad),(false,.bool)],g⟩ :=
 conV (st:=qj9) (fun lf x=>Fz12 lf x.1) cm3 q71 zap qvk qz0 (fun lf x=>zcx g lf x.1) hsm hg
def qio:Nat->Option Nm:=fun k=>cond (Nat.beq k 8) (some ⟨[2,4,5,6,46,47,48],[],[],[],[],0,0,false⟩) (cond (Nat.beq k 14) (some ⟨[2,5,6,9,10,11],[(9,qad)],[],[],[],0,0,false⟩) (none))
def qjb:Nat->Bool:=fun k=>cond (Nat.beq k 8) true (cond (Nat.beq k 14) true (false))
def q1i:=qjb
abbrev qbr:Type:=qe0 × Unit
def qvn:List (Nat × Sm):=[(74,qwp)]
def qyu:List (Nat × Hx):=[]
def qt1(R:Type)(lf:Nat):ClK R:=qa8 Try.prog ttT.get ftT.get (nm1 63 qio) (smL qvn) (hxL qyu) lf 20 R
abbrev q9t:Nat:=63
def qil(x1:(List ByteArray))(p:Int × Int × ByteArray):NRes:=(NRes.mk (.node none (.node none (.node none (.node none (.node none .leaf (.node (some (IV.int .i64 (Int.ofNat (List.length (lsub x1 (Int.ofNat 0) (IntKind.i64.wrap (Int.tdiv (IntKind.i64.wrap (Int.sub (IntKind.i64.wrap (Int.add (IntKind.i64.wrap (Int.add p.1 (Int.ofNat 4))) (Int.ofNat 64))) (Int.ofNat 1))) (Int.ofNat 64)))))))) .leaf .leaf)) .leaf) .leaf) (.node (some (IV.int .i64 (IntKind.i64.wrap (Int.tdiv (IntKind.i64.wrap (Int.sub (IntKind.i64.wrap (Int.add (IntKind.i64.wrap (Int.add p.1 (Int.ofNat 4))) (Int.ofNat 64))) (Int.ofNat 1))) (Int.ofNat 64))))) .leaf .leaf)) (.node (some (IV.ptr 0 0)) (.node (some (IV.int .i64 p.1)) (.node none (.node none .leaf (.node (some (IV.int .i64 p.2.1)) .leaf .leaf)) .leaf) .leaf) (.node (some (IV.str p.2.2)) .leaf (.node none .leaf (.node none (.node (some (IV.lst TC.str (lsub x1 (Int.ofNat 0) (IntKind.i64.wrap (Int.tdiv (IntKind.i64.wrap (Int.sub (IntKind.i64.wrap (Int.add (IntKind.i64.wrap (Int.add p.1 (Int.ofNat 4))) (Int.ofNat 64))) (Int.ofNat 1))) (Int.ofNat 64)))))) .leaf .leaf) .leaf))))) (IS.mk (.node (some (IObj.row (List.cons IV.nilsl (List.cons (IV.int .i64 (Int.ofNat 0)) [(IV.bool false)])))) .leaf .leaf) 1) [] 0)
def qg5(x1:(List ByteArray))(p:(List qaa) × Bool × Int × Int × ByteArray):NRes:=(NRes.mk (.node none (.node none (.node none .leaf (.node (some (IV.int .i64 p.2.2.1)) .leaf .leaf)) (.node (some (IV.int .i64 p.2.2.2.1)) (.node (some (IV.arr 1)) .leaf .leaf) .leaf)) (.node (some (IV.ptr 0 0)) .leaf (.node (some (IV.str p.2.2.2.2)) (.node (some (IV.bool p.2.1)) .leaf .leaf) .leaf))) (IS.mk (.node (some (IObj.row (List.cons IV.nilsl (List.cons (IV.int .i64 (Int.ofNat 0)) [(IV.bool false)])))) (.node (some (IObj.arr qad p.1)) .leaf .leaf) .leaf) 2) [] 0)
def qts(lf:Nat)(x1:(List ByteArray))(L8:(Int × Int × ByteArray)->Option qbr):Option qbr:=(match (jget x1 (Int.ofNat 0)) with|none=>none|some v0=>(match (jget (qab v0) (Int.ofNat 1)) with|none=>none|some v1=>(match (jget (qab v0) (Int.ofNat 2)) with|none=>none|some v2=>(match (jget (qab v0) (Int.ofNat 3)) with|none=>none|some v3=>(match (jget (qab v0) (Int.ofNat 0)) with|none=>none|some v4=>(cond (Bool.not (ieqI v4 (Int.ofNat 1))) (some (([],((Int.ofNat 0),true)),())) (cond (iltI (Int.ofNat x1.length) (IntKind.i64.wrap (Int.tdiv (IntKind.i64.wrap (Int.sub (IntKind.i64.wrap (Int.add (IntKind.i64.wrap (Int.add (IntKind.i64.wrap (Int.add (IntKind.i64.wrap (Int.add (IntKind.i64.wrap (Int.mul (IntKind.i64.wrap v1) (Int.ofNat 65536))) (IntKind.i64.wrap (Int.mul (IntKind.i64.wrap v2) (Int.ofNat 256))))) (IntKind.i64.wrap v3))) (Int.ofNat 4))) (Int.ofNat 64))) (Int.ofNat 1))) (Int.ofNat 64)))) (some (([],((Int.ofNat 0),true)),())) (cond (lchk (Int.ofNat 0) (IntKind.i64.wrap (Int.tdiv (IntKind.i64.wrap (Int.sub (IntKind.i64.wrap (Int.add (IntKind.i64.wrap (Int.add (IntKind.i64.wrap (Int.add (IntKind.i64.wrap (Int.add (IntKind.i64.wrap (Int.mul (IntKind.i64.wrap v1) (Int.ofNat 65536))) (IntKind.i64.wrap (Int.mul (IntKind.i64.wrap v2) (Int.ofNat 256))))) (IntKind.i64.wrap v3))) (Int.ofNat 4))) (Int.ofNat 64))) (Int.ofNat 1))) (Int.ofNat 64))) (IntKind.i64.wrap (Int.tdiv (IntKind.i64.wrap (Int.sub (IntKind.i64.wrap (Int.add (IntKind.i64.wrap (Int.add (IntKind.i64.wrap (Int.add (IntKind.i64.wrap (Int.add (IntKind.i64.wrap (Int.mul (IntKind.i64.wrap v1) (Int.ofNat 65536))) (IntKind.i64.wrap (Int.mul (IntKind.i64.wrap v2) (Int.ofNat 256))))) (IntKind.i64.wrap v3))) (Int.ofNat 4))) (Int.ofNat 64))) (Int.ofNat 1))) (Int.ofNat 64))) (Int.ofNat x1.length)) (L8 ((IntKind.i64.wrap (Int.add (IntKind.i64.wrap (Int.add (IntKind.i64.wrap (Int.mul (IntKind.i64.wrap v1) (Int.ofNat 65536))) (IntKind.i64.wrap (Int.mul (IntKind.i64.wrap v2) (Int.ofNat 256))))) (IntKind.i64.wrap v3))),(Int.ofNat 0),(S.lit []))) none))))))))
def qi3(lf:Nat)(x1:(List ByteArray))(L8:(Int × Int × ByteArray)->Option qbr)(L14:((List qaa) × Bool × Int × Int × ByteArray)->Option qbr)(p:Int × Int × ByteArray):Option qbr:=(cond (iltI p.2.1 (Int.ofNat (List.length (lsub x1 (Int.ofNat 0) (IntKind.i64.wrap (Int.tdiv (IntKind.i64.wrap (Int.sub (IntKind.i64.wrap (Int.add (IntKind.i64.wrap (Int.add p.1 (Int.ofNat 4))) (Int.ofNat 64))) (Int.ofNat 1))) (Int.ofNat 64))))))) (match (jget (lsub x1 (Int.ofNat 0) (IntKind.i64.wrap (Int.tdiv (IntKind.i64.wrap (Int.sub (IntKind.i64.wrap (Int.add (IntKind.i64.wrap (Int.add p.1 (Int.ofNat 4))) (Int.ofNat 64))) (Int.ofNat 1))) (Int.ofNat 64)))) p.2.1) with|none=>none|some v0=>(cond (Nat.ble (Nat.succ (Nat.add p.2.2.size v0.size)) 9223372036854775808) (L8 (p.1,(IntKind.i64.wrap (Int.add p.2.1 (Int.ofNat 1))),(ByteArray.append p.2.2 v0))) none)) (cond (lchk (Int.ofNat 4) (IntKind.i64.wrap (Int.add (Int.ofNat 4) p.1)) (Int.ofNat p.2.2.size) (Int.ofNat p.2.2.size)) (match (cond (Nat.ble (ByteArray.size (ByteArray.extract p.2.2 4 (Int.toNat (IntKind.i64.wrap (Int.add (Int.ofNat 4) p.1))))) 1000000) (some ((S.chg (ByteArray.extract p.2.2 4 (Int.toNat (IntKind.i64.wrap (Int.add (Int.ofNat 4) p.1))))).1,((S.chg (ByteArray.extract p.2.2 4 (Int.toNat (IntKind.i64.wrap (Int.add (Int.ofNat 4) p.1))))).2,()))) none) with|none=>none|some v127=>(L14 (v127.1,v127.2.1,(IntKind.i64.wrap (Int.add (Int.ofNat 4) p.1)),(IntKind.i64.wrap (Int.tdiv (IntKind.i64.wrap (Int.sub (IntKind.i64.wrap (Int.add (IntKind.i64.wrap (Int.add p.1 (Int.ofNat 4))) (Int.ofNat 64))) (Int.ofNat 1))) (Int.ofNat 64))),p.2.2))) none))
def qhv(lf:Nat)(x1:(List ByteArray))(L14:((List qaa) × Bool × Int × Int × ByteArray)->Option qbr)(p:(List qaa) × Bool × Int × Int × ByteArray):Option qbr:=(cond (iltI p.2.2.1 (Int.ofNat p.2.2.2.2.size)) (cond p.2.1 (match (jget (qab p.2.2.2.2) p.2.2.1) with|none=>none|some v0=>(L14 (p.1,(ieqI v0 (Int.ofNat 0)),(IntKind.i64.wrap (Int.add p.2.2.1 (Int.ofNat 1))),p.2.2.2.1,p.2.2.2.2))) (L14 (p.1,false,(IntKind.i64.wrap (Int.add p.2.2.1 (Int.ofNat 1))),p.2.2.2.1,p.2.2.2.2))) (some ((p.1,(p.2.2.2.1,(Bool.not p.2.1))),())))
abbrev gz13:Type:=ElA [(.list .str)]->Option qbr
abbrev sz13(g:gz13):Sm:=⟨[(.list .str)],[(false,cKeepRecord)],g⟩
abbrev Ez13(g:gz13)(J:JT qbr)(lf:Nat)(x1:(List ByteArray)):=qb6 Try.prog ttT.get qio fi63.nt (qt1 _ lf) lf qjb J fi63.body [] (qaz (argV [(.list .str)] (x1,())) 0 .leaf) S0 [] (qa2 ttT.get fi63 (sz13 g))
abbrev Bz13(g:gz13)(J:JT qbr)(lf k:Nat)(ms:List Nat)(q:NRes):=qct Try.prog ttT.get qio fi63.nt (qt1 _ lf) lf qjb J k fi63.body [] ms q (qa2 ttT.get fi63 (sz13 g))
theorem ziu(g:gz13)(J:JT qbr)(lf:Nat)(x1:(List ByteArray)):Ez13 g J lf x1=qts lf x1 (fun q=>J 8 [lf] (qil x1 q)):=by kernel_rfl
theorem zg8(g:gz13)(J:JT qbr)(lf:Nat)(x1:(List ByteArray))(m1:Nat)(p:Int × Int × ByteArray):Bz13 g J lf 8 [m1] (qil x1 p)=qi3 lf x1 (fun q=>J 8 [m1] (qil x1 q)) (fun q=>J 14 [lf] (qg5 x1 q)) p:=by kernel_rfl
theorem q74(g:gz13)(J:JT qbr)(lf:Nat)(x1:(List ByteArray))(m1:Nat)(p:(List qaa) × Bool × Int × Int × ByteArray):Bz13 g J lf 14 [m1] (qg5 x1 p)=qhv lf x1 (fun q=>J 14 [m1] (qg5 x1 q)) p:=by kernel_rfl
theorem qsl:(regs fi63.body).Nodup:=by decide +kernel
theorem qug:okC qio qjb q1i fi63.body none=true:=by kernel_rfl
def Az13(g:gz13)(lf:Nat):JT qbr:=atN Try.prog ttT.get qio fi63 (sz13 g) (qt1 _ lf) lf q1i
def qfe(lf:Nat)(x1:(List ByteArray)):Nat->((List qaa) × Bool × Int × Int × ByteArray)->Option qbr:=qa9 fun K p=>qhv lf x1 K p
theorem qw6(g:gz13)(lf:Nat)(x1:(List ByteArray)):∀(n:Nat) (p:(List qaa) × Bool × Int × Int × ByteArray),Az13 g lf 14 [n] (qg5 x1 p)=qfe lf x1 n p
 | 0,p=>qb5 14 [0] rfl _
 | n+1,p=>by
  have ih:=qw6 g lf x1 n;refine(qb3 (qbh 20 _) qsl qug 14 [n+1] [n] rfl _).trans ((q74 g (Az13 g lf) lf x1 n p).trans ?_);rw[(show (fun q=>Az13 g lf 14 [n] (qg5 x1 q))=(fun q=>qfe lf x1 n q) from funext ih)];rfl
def qoy(lf:Nat)(x1:(List ByteArray)):Nat->(Int × Int × ByteArray)->Option qbr:=qa9 fun K p=>qi3 lf x1 K (fun q=>qfe lf x1 lf q) p
theorem qws(g:gz13)(lf:Nat)(x1:(List ByteArray)):∀(n:Nat) (p:Int × Int × ByteArray),Az13 g lf 8 [n] (qil x1 p)=qoy lf x1 n p
 | 0,p=>qb5 8 [0] rfl _
 | n+1,p=>by
  have ih:=qws g lf x1 n;refine(qb3 (qbh 20 _) qsl qug 8 [n+1] [n] rfl _).trans ((zg8 g (Az13 g lf) lf x1 n p).trans ?_);rw[(show (fun q=>Az13 g lf 14 [lf] (qg5 x1 q))=(fun q=>qfe lf x1 lf q) from funext fun q=>qw6 g lf x1 lf q),(show (fun q=>Az13 g lf 8 [n] (qil x1 q))=(fun q=>qoy lf x1 n q) from funext ih)];rfl
def Fz13(lf:Nat)(x1:(List ByteArray)):Option qbr:=qts lf x1 (fun q=>qoy lf x1 lf q)
theorem q63(g:gz13)(lf:Nat)(x1:(List ByteArray)):Ez13 g (Az13 g lf) lf x1=Fz13 lf x1:=by
  refine(ziu g (Az13 g lf) lf x1).trans ?_;rw[(show (fun q=>Az13 g lf 8 [lf] (qil x1 q))=(fun q=>qoy lf x1 lf q) from funext fun q=>qws g lf x1 lf q)];rfl
theorem zc5:qbg Try.prog qyu:=trivial
theorem zic{g:gz13}(hsm:SmOK Try.prog qvn)(hg:∀(x:ElA [(.list .str)]) (y:qbr),WfA [(.list .str)] x->g x=some y->∃lf,Fz13 lf x.1=some y):Con Try.prog 63 ⟨[(.list .str)],[(false,cKeepRecord)],g⟩ :=
 conV (st:=qjb) (fun lf x=>Fz13 lf x.1) cm3 q5y zc5 qsl qug (fun lf x=>q63 g lf x.1) hsm hg
def qge(out:List qaa):Int:=(out.getLast?.map (·.1)).getD (-1)
theorem quy(out:List qaa)(c:qaa):qge (out++[c])=c.1:=by simp[qge]
theorem zik{R:Type}{out:List qaa}{k:Int}(hk:0<=k)(hl:out.length<1000000000)(N T:Option R) :
  cond (iltI (Int.ofNat 0) (Int.ofNat out.length)) (match jget out (IntKind.i64.wrap (Int.sub (Int.ofNat out.length) (Int.ofNat 1))) with
   | none=>none
   | some v3=>match out[Int.toNat (IntKind.i64.wrap (Int.sub (Int.ofNat out.length) (Int.ofNat 1)))]? with
    | none=>none
    | some v4=>cond (!iltI v4.1 k) N T) T=cond (decide (k<=qge out)) N T:=by
 rcases List.eq_nil_or_concat out with rfl|⟨o,c,rfl⟩
 ·have:decide (k<=qge [])=false:=jar (by show ¬k<=-1;omega);rw[this];rfl
 ·rw[List.concat_eq_append] at *;have hlen:(o++[c]).length=o.length+1:=by simp
  rw[hlen] at hl ⊢;have e:IntKind.i64.wrap (Int.sub (Int.ofNat (o.length+1)) (Int.ofNat 1))=Int.ofNat o.length:=by
   have:Int.sub (Int.ofNat (o.length+1)) (Int.ofNat 1)=Int.ofNat o.length:=by
    show ((o.length+1:Nat):Int)-1=(o.length:Int);omega
   rw[this];exact qbl (by omega)
  rw[e,qdk];have h1:(o++[c])[o.length]?=some c:=by simp
  have h2:(o++[c])[Int.toNat (Int.ofNat o.length)]?=some c:=h1;rw[h1,h2,qcb,jao (by omega),jab,quy];show cond (!iltI c.1 k) N T=_;rw[qa5,qsz]
def chgR(out:List qaa):Option (List qaa)->List qaa × Bool
 | some l=>(out++l,true)
 | none=>([],false)
theorem qqa(x1:ByteArray):∀(f F:Nat) (r:List Int) (out:List qaa),rng r->r.length<f->f<=F->out.length+r.length<=3000000->qhw LF x1 F (qae r,out)=some ((chgR out (S.changes f r (qge out))).1,(chgR out (S.changes f r (qge out))).2,())
 | 0,_,r,out,hr,hf,hF,ho=>by omega
 | f+1,0,r,out,hr,hf,hF,ho=>by omega
 | f+1,F+1,r,out,hr,hf,hF,ho=>by
  show ql2 LF x1 (qhw LF x1 F) _=_;simp only[ql2,qbz hr,qbe];rcases r with _|⟨k,_|⟨a,_|⟨b,r⟩⟩⟩
  ·show some (out,true,())=some (out++[],true,());rw[jbo]
  ·rfl
  ·rfl
  ·have hk:=hr k (by simp);have ha:=hr a (by simp);have hb:=hr b (by simp);have hr':rng r:=fun x hx=>hr x (by simp[hx]);have hlen:(k::a::b::r).length=r.length+3:=rfl;rw[hlen] at hf ho;have l1:lchk (Int.ofNat 3) (Int.ofNat (k::a::b::r).length) (Int.ofNat (k::a::b::r).length) (Int.ofNat (k::a::b::r).length)=true:=qby.2 ⟨by decide,by show (3:Int)<=((r.length+3:Nat):Int);omega,jbr _,jbr _⟩;have he:ByteArray.extract (qae (k::a::b::r)) 3 (Int.toNat (Int.ofNat (k::a::b::r).length))=qae r:=qj5 hr 3;have wk:IntKind.i64.wrap k=k:=wrap_in (by omega);have wn:IntKind.i64.wrap (Int.add (IntKind.i64.wrap (Int.mul (IntKind.i64.wrap a) (Int.ofNat 256))) (IntKind.i64.wrap b))=a*256+b:=by
    rw[wrap_in (n:=a) (by omega),wrap_in (n:=b) (by omega),wrap_in (n:=Int.mul a (Int.ofNat 256)) (by show -_<=a*256/\a*256<_;omega)];exact wrap_in (by show -_<=a*256+b/\a*256+b<_;omega)
   have hn:0<=a*256+b/\a*256+b<65536:=by omega
   rw[qln];rw[qcb,jao (show 0<(k::a::b::r).length by rw[hlen];omega),jab,qcb,jar (show ¬(k::a::b::r).length<3 by rw[hlen];omega),jah,qdk,qdk,qdk];show cond (lchk _ _ _ _) _ _=_;rw[l1,jab,he,wk,wn];generalize a*256+b=n at hn;by_cases c1:199<k
   ·rw[qei (show Int.ofNat 199<k from c1),jab,jam (.inl c1)];rfl
   rw[qfj (show ¬Int.ofNat 199<k from c1),jah];refine(zik (out:=out) hk.1 (by omega) _ _).trans ?_;by_cases c2:k<=qge out
   ·rw[jao c2,jab,jam (.inr (.inl c2))];rfl
   rw[jar c2,jah,qbe,qbl (n:=Nat.add r.length 1) (by show r.length+1<_;omega)];by_cases c3:(r.length:Int)+1<n
   ·rw[qei (show Int.ofNat (Nat.add r.length 1)<n from by show ((r.length+1:Nat):Int)<n;omega),jab,jam (.inr (.inr (.inl c3)))];rfl
   rw[qfj (show ¬Int.ofNat (Nat.add r.length 1)<n from by show ¬((r.length+1:Nat):Int)<n;omega),jah];by_cases c4:4001<n
   ·rw[qei (show Int.ofNat 4001<n from c4),jab,jam (.inr (.inr (.inr c4)))];rfl
   rw[qfj (show ¬Int.ofNat 4001<n from c4),jah,jan (by omega)];rw[ja0 (show Nat.mul (Nat.add out.length 1) 32<=140737488355328 by show (out.length+1)*32<=_;omega),jab];by_cases c5:n=0
   ·rw[qbm (show n=Int.ofNat 0 from c5),jab,jam c5,qqa x1 f F r _ hr' (by omega) (by omega) (by simp only[jei,jag,jat,jbi];omega)];rw[jei,quy];show some ((chgR (out++[(k,S.none_,true)]) (S.changes f r k)).1,_,())=_;cases S.changes f r k with
    | none=>rfl
    | some l=>show some (out++[_]++l,true,())=some (out++_::l,true,());rw[ja2];rfl
   ·rw[qbn (show ¬n=Int.ofNat 0 from c5),jah,jan c5];have e1:IntKind.i64.wrap (Int.sub n (Int.ofNat 1))=n-1:=wrap_in (by show -_<=n-1/\n-1<_;omega);have l2:lchk (Int.ofNat 0) (n-1) (Int.ofNat r.length) (Int.ofNat r.length)=true:=qby.2 ⟨jbr _,by show (0:Int)<=n-1;omega,by show n-1<=(r.length:Int);omega,jbr _⟩;have l3:lchk (n-1) (Int.ofNat r.length) (Int.ofNat r.length) (Int.ofNat r.length)=true:=qby.2 ⟨by omega,by show n-1<=(r.length:Int);omega,jbr _,jbr _⟩;rw[e1,l2,jab,l3,jab,show Int.toNat (Int.ofNat r.length)=r.length from rfl,qj5 hr',qzf hr'];rw[qqa x1 f F (r.drop (n-1).toNat) _ (qd9 hr' _) (by rw[ja6];omega) (by omega) (by simp only[jei,jag,jat,jbi,ja6];omega)];rw[jei,quy];cases S.changes f (r.drop (n-1).toNat) k with
    | none=>rfl
    | some l=>show some (out++[_]++l,true,())=some (out++_::l,true,());rw[ja2];rfl
theorem zd5(b:ByteArray)(h:b.size<=1000000):Fz12 LF b=some ((S.chg b).1,(S.chg b).2,()):=by
 obtain⟨r,h1,rfl,h3,h4⟩:=qtq b;rw[h3] at h;simp only[Fz12,qup];refine(qqa (qae r) (r.length+1) LF r [] h1 (by omega) (by unfold LF;omega) (by rw[jbi];omega)).trans ?_;unfold S.chg;rw[h3,h4];show some ((chgR [] (S.changes (r.length+1) r (-1))).1,(chgR [] (S.changes (r.length+1) r (-1))).2,())=_;cases S.changes (r.length+1) r (-1)<;>rfl
theorem zk5:Con Try.prog zdg qwp:=zmi trivial fun x y hx h=>⟨LF,by
 obtain⟨h1,h2⟩:=qba (show cond (Nat.ble x.1.size 1000000) (some ((S.chg x.1).1,(S.chg x.1).2,())) none=some y from h);exact(zd5 x.1 (jak h1)).trans (jaw some h2)⟩
theorem qqj:∀{l:List qaa} {last:Int},S.okGo l last=true->-1<=last->(l.length:Int)<=max 0 (199-last)
 | [],_,_,_=>by rw[jbi];omega
 | c::l,last,h,hl=>by
  obtain⟨h1,h2,h3,h4,h5⟩:=qbo.1 h;have:=qqj h5 (by omega);rw[jat];omega
theorem zcd{l:List qaa}(h:S.okC l=true):l.length<=200:=by
 have:=qqj (l:=l) (last:=-1) h (jbr _);omega
theorem zmm(x c:qaa)(h:x.1<c.1)(a:List qaa):S.ins1 c (x::a)=x::S.ins1 c a:=by
 show (if x.1<c.1 then x::S.ins1 c a else _)=_;rw[jam h]
theorem q0j(x:qaa):∀(b a:List qaa) (last:Int),S.okGo b last=true->x.1<=last->S.changed (x::a) b=x::S.changed a b
 | [],a,_,_,_=>rfl
 | c::b,a,last,h,hx=>by
  obtain⟨h1,h2,h3,h4,h5⟩:=qbo.1 h;show S.changed (S.ins1 c (x::a)) b=x::S.changed (S.ins1 c a) b;rw[zmm x c (by omega)];exact q0j x b _ c.1 h5 (by omega)
theorem q76{c:qaa}{b:List qaa}{last:Int}(h:S.okGo (c::b) last=true):S.changed [] (c::b)=cond c.2.2 (S.changed [] b) (c::S.changed [] b):=by
 obtain⟨h1,h2,h3,h4,h5⟩:=qbo.1 h;show S.changed (cond c.2.2 [] [c]) b=_;cases c.2.2 with
 | true=>rfl
 | false=>exact q0j c b [] c.1 h5 (jbr _)
theorem q2n{l:List qaa}(h:S.pk l=true)(m:Int):(S.packed l m).length<=20000:=by
 have:=qoo h;rw[qbx];omega
theorem qpl{α:Type}{l:List α}{d:α}(h:1<=l.length):jget l (Int.ofNat 0)=some (l.getD 0 d):=qtp (i:=Int.ofNat 0) (d:=d) (jbr _) (by show (0:Int)<(l.length:Int);omega)
theorem get0{α:Type}{l:List α}{d:α}(h:1<=l.length):l[0]?=some (l.getD 0 d):=by
 cases l with
 | nil=>exact absurd h (Nat.not_succ_le_zero 0)
 | cons a l=>rfl
theorem zkg:S.packed [] 1=[qae (1::List.replicate 63 0)]:=by kernel_rfl
theorem zah(lf:Nat)(d:qak):qle lf d=some ((S.format d).1,(S.format d).2,()):=by
 simp only[qle,q3s];unfold S.format;show cond (!ieqI (S.checkDisk d) _) _ _=_;by_cases h0:S.checkDisk d=0
 ·rw[qbm (show S.checkDisk d=Int.ofNat 0 from h0),jbb,jah,jam h0,qcb];by_cases h1:d.2.length=0
  ·rw[jar (by omega),jah,jam h1,jab,show S.pk []=true from rfl,jab];simp only[show S.packed [] (Int.ofNat 1)=S.packed [] 1 from rfl,zkg];rfl
  ·rw[jao (by omega),jab,jan h1];rfl
 ·rw[qbn (show ¬S.checkDisk d=Int.ofNat 0 from h0),jan h0,ja4,jab]
theorem qjh{l:List ByteArray}(h:S.secs l=true):l.length<=1000/\∀s∈l,s.size=64:=by
 unfold S.secs at h;rw[jae,jch] at h;refine⟨jak h.1,fun s hs=>?_⟩;have:=jdk.1 h.2 s hs;unfold S.short at this;simpa using this
theorem qzb{l:List ByteArray}(h:S.secs1 l=true):1<=l.length/\l.length<=1000/\∀s∈l,s.size=64:=by
 unfold S.secs1 at h;rw[jae] at h;exact⟨jak h.1,qjh h.2⟩
theorem qh9{l:List ByteArray}{i:Nat}(h:i<l.length):l.getD i S.none_∈l:=by
 rw[jai,jac h];exact jbh h
theorem q0z{s:ByteArray}(h:s.size=64):∃b0 b1 b2 b3 r,qab s=b0::b1::b2::b3::r:=by
 have:=qcv s;rcases hs:qab s with _|⟨b0,_|⟨b1,_|⟨b2,_|⟨b3,r⟩⟩⟩⟩
 case cons.cons.cons.cons=>exact⟨_,_,_,_,_,rfl⟩
 all_goals rw[hs] at this;simp only[jat,jbi] at this;omega
theorem zcu(l:List ByteArray)(v:ByteArray):(l++[v]).flatMap qab=l.flatMap qab++qab v:=by simp
theorem zix(l:List ByteArray)(v:ByteArray):ByteArray.append (qae (l.flatMap qab)) v=qae ((l++[v]).flatMap qab):=by
 rw[zcu,<- qev,qhg]
theorem zit{N:Nat}(h:N<100000000):IntKind.i64.wrap (Int.tdiv (Int.ofNat (N+63)) (Int.ofNat 64))=Int.ofNat ((N+63) / 64):=qbl (n:=(N+63) / 64) (by omega)
theorem qu8{N:Nat}(h:N<100000000):IntKind.i64.wrap (Int.tdiv (IntKind.i64.wrap (Int.sub (IntKind.i64.wrap (Int.add (Int.ofNat N) (Int.ofNat 64))) (Int.ofNat 1))) (Int.ofNat 64))=Int.ofNat ((N+63) / 64):=by
 rw[show IntKind.i64.wrap (Int.add (Int.ofNat N) (Int.ofNat 64))=Int.ofNat (N+64) from qbl (n:=N+64) (by omega)];have:Int.sub (Int.ofNat (N+64)) (Int.ofNat 1)=Int.ofNat (N+63):=by
  show ((N+64:Nat):Int)-1=((N+63:Nat):Int);omega
 rw[this,qbl (n:=N+63) (by omega)];exact zit h
theorem zhp{b0 b1 b2 b3:Int}{r:List Int}(h:rng (b0::b1::b2::b3::r)):b1*65536+b2*256+b3=((S.recN (b0::b1::b2::b3::r):Nat):Int)/\S.recN (b0::b1::b2::b3::r)<16777216:=by
 have h1:=h b1 (by simp);have h2:=h b2 (by simp);have h3:=h b3 (by simp);have e:S.recN (b0::b1::b2::b3::r)=(b1*65536+b2*256+b3).toNat:=rfl;rw[e];omega
def qvy(l:List Int):Bool:=l.all fun b=>decide (b=0)
theorem qs1(l:List ByteArray)(cells:List qaa)(M:Int)(f:List Int)(hr:rng f)(hf:f.length<=1000000):∀(k F i:Nat) (is:Bool),i+k=f.length->k<F->qfe LF l F (cells,is,Int.ofNat i,M,qae f)=some ((cells,M,!(is&&qvy (f.drop i))),())
 | 0,F+1,i,is,hi,hF=>by
  show qhv LF l (qfe LF l F) _=_;simp only[qhv];rw[qbe,qcb,jar (by omega),jah,jcp (by omega)];cases is<;>rfl
 | k+1,F+1,i,is,hi,hF=>by
  show qhv LF l (qfe LF l F) _=_;simp only[qhv];have hlt:i<f.length:=by omega
  rw[qbe,qcb,jao hlt,jab,qbz hr,qdk,jac hlt,jdd hlt,show IntKind.i64.wrap (Int.add (Int.ofNat i) (Int.ofNat 1))=Int.ofNat (i+1) from qbl (n:=i+1) (by omega)];simp only;rw[qs1 l cells M f hr hf k F (i+1) _ (by omega) (by omega),qs1 l cells M f hr hf k F (i+1) _ (by omega) (by omega)];show _=some ((cells,M,!(is&&(decide (f[i]=0)&&qvy (f.drop (i+1))))),());cases is with
  | false=>rfl
  | true =>
   rw[jab,qdr];rfl
theorem q9a(l:List ByteArray)(h:S.secs1 l=true):Fz13 LF l=some (S.readK l,()):=by
 obtain⟨h1,h2,h3⟩:=qzb h;have hs:=h3 _ (qh9 (i:=0) (by omega));obtain⟨b0,b1,b2,b3,r,hb⟩:=q0z hs;have hrb:rng (b0::b1::b2::b3::r):=hb▸qdu _;obtain⟨n1,n2⟩:=zhp hrb;have hM:S.recM (b0::b1::b2::b3::r)=(S.recN (b0::b1::b2::b3::r)+4+63) / 64:=rfl;have r1:=hrb b1 (by simp);have r2:=hrb b2 (by simp);have r3:=hrb b3 (by simp);unfold S.readK;simp only[Fz13,qts,qpl (d:=S.none_) h1,hb];rw[hM];generalize S.recN (b0::b1::b2::b3::r)=N at n1 n2;have wn:IntKind.i64.wrap (Int.add (IntKind.i64.wrap (Int.add (IntKind.i64.wrap (Int.mul (IntKind.i64.wrap b1) (Int.ofNat 65536))) (IntKind.i64.wrap (Int.mul (IntKind.i64.wrap b2) (Int.ofNat 256))))) (IntKind.i64.wrap b3))=Int.ofNat N:=by
  rw[wrap_in (n:=b1) (by omega),wrap_in (n:=b2) (by omega),wrap_in (n:=b3) (by omega),wrap_in (n:=Int.mul b1 (Int.ofNat 65536)) (by show -_<=b1*65536/\b1*65536<_;omega),wrap_in (n:=Int.mul b2 (Int.ofNat 256)) (by show -_<=b2*256/\b2*256<_;omega),
   wrap_in (n:=Int.add (Int.mul b1 (Int.ofNat 65536)) (Int.mul b2 (Int.ofNat 256))) (by show -_<=b1*65536+b2*256/\b1*65536+b2*256<_;omega)]
  rw[show Int.add (Int.add (Int.mul b1 (Int.ofNat 65536)) (Int.mul b2 (Int.ofNat 256))) b3=Int.ofNat N from n1];exact qbl (by omega)
 have w4:IntKind.i64.wrap (Int.add (Int.ofNat N) (Int.ofNat 4))=Int.ofNat (N+4):=qbl (n:=N+4) (by omega);simp only[qdk,jap,jau,wn,w4,qu8 (N:=N+4) (by omega)];by_cases c0:b0=1
 ·have e0:ieqI b0 (Int.ofNat 1)=true:=qbm c0;rw[e0,jbb,jah];by_cases c1:l.length<(N+4+63) / 64
  ·rw[qei (show Int.ofNat l.length<Int.ofNat ((N+4+63) / 64) from jfs.2 c1),jab,jam (.inr c1)];rfl
  ·rw[qfj (show ¬Int.ofNat l.length<Int.ofNat ((N+4+63) / 64) from fun h=>c1 (jfs.1 h)),jah,jan (show ¬(¬(b0::b1::b2::b3::r).getD 0 0=1\/l.length<(N+4+63) / 64) from fun h=>h.elim (fun h=>h c0) c1)];obtain⟨M,hMe⟩:∃M,(N+4+63) / 64=M:=⟨_,rfl⟩;rw[hMe] at c1 ⊢;have l1:lchk (Int.ofNat 0) (Int.ofNat M) (Int.ofNat M) (Int.ofNat l.length)=true:=qby.2 ⟨jbr _,jbz _,jbr _,by show (M:Int)<=(l.length:Int);omega⟩;rw[l1,jab];have hL:(l.take M).length=M:=by rw[jbl,jc9 (by omega)]
   have hfl:∀i,((((l.take M).take i).flatMap qab).length)=64*min i M:=fun i=>by
    rw[qsa _ fun s hs=>h3 s (jcg (jcg hs)),jbl,hL]
   refine(range0 (σ:=ByteArray) (R:=qbr) (T:=fun K p=>qi3 LF l K (fun q=>qfe LF l LF q) p) (l.take M) (fun i s=>(Int.ofNat N,i,s)) (fun i s=>s=qae (((l.take M).take i).flatMap qab)) (fun _ _ _=>some ((match S.changes (N+1) ((((l.take M).flatMap qab).drop 4).take N) (-1) with
     | some c=>(c,(M:Int),!((((l.take M).flatMap qab).drop (4+N)).all fun b=>decide (b=0)))
     | none=>([],(M:Int),true)),())) (by rw[hL];unfold LF;omega) (fun K s hs=>?_) (fun K i v rest s hs r hk=>?_) (S.lit []) rfl).trans rfl
   ·rw[hL,jbv (by rw[hL];exact jaq _)] at hs;have hf:=hfl M;rw[Nat.min_self,jbv (by rw[hL];exact jaq _)] at hf;have hrf:=q16 (l.take M);simp only[qi3,w4,qu8 (N:=N+4) (by omega),hMe];rw[show lsub l (Int.ofNat 0) (Int.ofNat M)=l.take M from rfl,qdn,jah,hs];generalize (l.take M).flatMap qab=f at hf hrf;have w4':IntKind.i64.wrap (Int.add (Int.ofNat 4) (Int.ofNat N))=Int.ofNat (4+N):=qbl (n:=4+N) (by omega);have l2:lchk (Int.ofNat 4) (Int.ofNat (4+N)) (Int.ofNat f.length) (Int.ofNat f.length)=true:=qby.2 ⟨by decide,by show (4:Int)<=((4+N:Nat):Int);omega,by show ((4+N:Nat):Int)<=((f.length:Nat):Int);omega,jbr _⟩;have hext:ByteArray.extract (qae f) 4 (Int.toNat (Int.ofNat (4+N)))=qae ((f.drop 4).take N):=by
     refine qfn ?_;rw[qrl,qbz hrf,qbz (qej (qd9 hrf 4) N),jcz];show (f.drop 4).take (4+N-4)=_;rw[ja1]
    have hszN:((f.drop 4).take N).length=N:=by rw[jbl,ja6,jc9 (by omega)]
    rw[w4',qbe,l2,jab,hext,qbe,ja0 (by rw[hszN];omega),jab];simp only;rw[qs1 l _ _ f hrf (by omega) (f.length-(4+N)) LF (4+N) _ (by omega) (by unfold LF;omega)];unfold S.chg;rw[qbe,hszN,qbz (qej (qd9 hrf 4) N)];cases S.changes (N+1) ((f.drop 4).take N) (-1)<;>rfl
   ·have hi:=r.lt;rw[hL] at hi;subst hs;have hfi:=hfl i;rw[jc9 (by omega)] at hfi;have hvs:=h3 v (jcg r.mem);simp only[qi3,w4,qu8 (N:=N+4) (by omega),hMe];rw[show lsub l (Int.ofNat 0) (Int.ofNat M)=l.take M from rfl,r.ilt,jab,r.get];simp only;rw[qbe,hfi,hvs,qec (by show 64*i+64<_;omega),jab,r.next,zix,<- r.take];exact hk _ rfl
 ·have e0:ieqI b0 (Int.ofNat 1)=false:=qbn c0;rw[e0,ja4,jab,jam (.inl (show ¬(b0::b1::b2::b3::r).getD 0 0=1 from c0))];rfl
theorem zfi:Con Try.prog q9t q7l:=zic ⟨zk5,trivial⟩ fun x y hx h=>⟨LF,by
 obtain⟨h1,h2⟩:=qba (show cond (S.secs1 x.1) (some (S.readK x.1,())) none=some y from h);exact(q9a x.1 h1).trans (jaw some h2)⟩

theorem qw5:S.lit [0,0,0,0,0,0,0,0,0,0,0,0,0,0,0,0,0,0,0,0,0,0,0,0,0,0,0,0,0,0,0,0,0,0,0,0,0,0,0,0,0,0,0,0,0,0,0,0,0,0,0,0,0,0,0,0,0,0,0,0,0,0,0]=qae (List.replicate 63 0):=by kernel_rfl
theorem q48{d:qak}(h:S.checkDisk d=0):Dk d.1:=by
 obtain⟨ok,h8,h2⟩:=qmm h;exact⟨ok.sz,h8,ok.le,h2⟩
theorem Jn.opened_{L:List ByteArray}{h:Int}{a u:Nat}{c:List qaa}(j:Jn L h a u c):S.open_ (L,[])=(((L,[]),h,(u:Int),c),0):=by
 unfold S.open_;rw[jam j.dk.check,jam (show (L,([]:List DPut)).2.length=0 from rfl)]
 show (match S.opened L with
  | some (h,u,c)=>(((L,([]:List DPut)),h,(u:Int),c),(0:Int))
  | none=>(S.noJ,15))=_
 rw[j.open_]
theorem qtm{d:qak}(h:(S.open_ d).2=0):∃hf a u c,Jn d.1 hf a u c/\d.2=[]/\S.open_ d=(((d.1,[]),hf,(u:Int),c),0):=by
 unfold S.open_ at h ⊢;by_cases h0:S.checkDisk d=0
 ·rw[jam h0] at h ⊢;by_cases h1:d.2.length=0
  ·rw[jam h1] at h ⊢;cases ho:S.opened d.1 with
   | none=>rw[ho] at h;cases h
   | some x =>
    obtain⟨hf,u,c⟩:=x;obtain⟨a,j⟩:=zko (q48 h0) ho;exact⟨hf,a,u,c,j,jay.1 h1,rfl⟩
  ·rw[jan h1] at h;cases h
 ·rw[jan h0] at h;exact absurd h h0
theorem quu{j:qac}(h:S.right j=true):∃a u,Jn j.1.1 j.2.1 a u j.2.2.2/\j.1.2=[]/\j.2.2.1=((u:Nat):Int):=by
 unfold S.right at h;rw[jae] at h;obtain⟨hf,a,u,c,k,h1,h2⟩:=qtm (ja3 h.1);have h3:=ja3 h.2;rw[h2] at h3;obtain⟨⟨l,q⟩,hh,uu,cc⟩:=j;cases h3;exact⟨a,u,k,rfl,rfl⟩
theorem Jn.right{L:List ByteArray}{h:Int}{a u:Nat}{c:List qaa}(j:Jn L h a u c):S.right ((L,[]),h,(u:Int),c)=true:=by
 unfold S.right;rw[jae];show decide ((S.open_ (L,[])).2=0)=true/\decide ((S.open_ (L,[])).1=_)=true;rw[j.opened_];exact⟨jao rfl,jao rfl⟩
theorem qi0{l:List qaa}(h:S.okC l=true):S.pk l=true:=by
 unfold S.pk;rw[h,ja0 (by have:=zcd h;omega)];rfl
theorem zay(l:List qaa)(m m':Int):(S.packed l m).drop 1=(S.packed l m').drop 1:=by
 have e:∀x:Int,S.packed l x=qae ((S.recB l x).take 64++List.replicate (64-(S.recB l x).length) 0)::S.chunks ((S.body l).length+3) ((S.recB l x).drop 64):=fun x=>qf2 ((S.body l).length+3) (b:=S.recB l x) (by rw[qeg];omega);rw[e m,e m'];rfl
theorem qu6(l:List qaa)(m:Int):S.packed l m=(S.packed l m).getD 0 S.none_::(S.packed l 1).drop 1:=by
 have hp:=qel l m;rw[<- zay l m 1];cases h:S.packed l m with
 | nil=>rw[h] at hp;cases hp
 | cons s r=>rfl
theorem qh6(l:List qaa)(m:Int):szS (S.packed l m):=q09 _ _
theorem q1p:S.blank.size=64:=by kernel_rfl
theorem q1u:(qab S.blank).getD 0 0=0:=by kernel_rfl
theorem zkv{L:List ByteArray}{a:Nat}{x y:ByteArray}{r:List ByteArray}(h:a+(r.length+1)<=L.length):over (over L a (x::r)) a [y]=over L a (y::r):=by
 have h':a+(x::r).length<=L.length:=h;have h1:=q4a h';have h2:=qlq h';show (over L a (x::r)).take a++([y]++(over L a (x::r)).drop (a+1))=L.take a++((y::r)++L.drop (a+(r.length+1)));rw[h1,<- jdq,h2];rfl
theorem zal(X:List ByteArray)(t:ByteArray):∀{b:Nat},1<=b->(over X 0 [t]).drop b=X.drop b
 | 0,h=>by omega
 | b+1,_=>by
  show (t::X.drop (0+1)).drop (b+1)=_;rw[List.drop_succ_cons,jdq,show 0+1+b=b+1 by omega]
theorem Dk.over{L:List ByteArray}(d:Dk L){a:Nat}{ss:List ByteArray}(h:a+ss.length<=L.length)(hs:szS ss):Dk (over L a ss):=by
 refine⟨q8o d.sz hs,?_,?_,?_⟩<;>rw[qfs h]
 ·exact d.ge
 ·exact d.le
 ·exact d.ev
theorem qv3{L:List ByteArray}{a:Nat}{l:List qaa}{tail:List ByteArray}{r:List DAct}(ht:szS tail)(h:a+((S.packed l 1).length+tail.length)<=L.length)(hL:L.length<=1000) :
  S.doGo (S.puts (a:Int) (S.packed l 0++tail)++(S.sync::S.put (a:Int) ((S.packed l 1).getD 0 S.none_)::S.sync::r)) L []=S.doGo r (over L a (S.packed l 1++tail)) []:=by
 have e1:(S.packed l 0).length=(S.packed l 1).length:=by rw[qbx,qbx]
 have hp:=qel l 1;have h':a+(S.packed l 0++tail).length<=L.length:=by rw[jag,e1];exact h
 have hs:szS (S.packed l 0++tail):=fun s hs=>(jbq.1 hs).elim (qh6 l 0 s) (ht s);have hol:(over L a (S.packed l 0++tail)).length=L.length:=qfs h';rw[qsu _ _ _ _ _ hs h' (by rw[jbi];omega),jcj,qn5,qiv _ _ _ h',qse (qh6 l 1 _ (qh9 (by omega))) (by omega) (by rw[jbi];omega),qn5];have:S.settled (over L a (S.packed l 0++tail)) ([]++[(((a:Nat):Int),(S.packed l 1).getD 0 S.none_)])=over L a (S.packed l 1++tail):=by
  refine(qiv [(S.packed l 1).getD 0 S.none_] a _ (by rw[hol];simp only[jat,jbi];omega)).trans ?_;have hlen:a+(((S.packed l 1).drop 1++tail).length+1)<=L.length:=by rw[jag,ja6];omega
  have s1:=qu6 l 1;rw[qu6 l 0,jc0];refine(zkv hlen).trans (jaw (over L a) ?_);rw[<- jc0,<- s1]
 rw[this]
def qd1(b:Bool):List ByteArray:=cond b [S.blank] []
theorem qsb(b:Bool):szS (qd1 b):=fun s h=>by
 cases b with
 | true=>rw[jcb.1 h];exact q1p
 | false=>cases h
theorem qwu(l:List qaa)(a:Nat)(e:Int)(b:Bool):S.laid l (a:Int) e b=S.puts (a:Int) (S.packed l 0++qd1 (b&&decide ((a:Int)+(S.packed l 1).length<e)))++[S.sync,S.put (a:Int) ((S.packed l 1).getD 0 S.none_),S.sync]:=by
 have e1:(S.packed l 0).length=(S.packed l 1).length:=by rw[qbx,qbx]
 unfold S.laid;rw[qul,e1,ja2];cases (b&&decide ((a:Int)+(S.packed l 1).length<e))<;>rfl
theorem q4v{j:qac}{l:List qaa}(h:¬S.roomOf j<(S.packed l 1).length):S.commit j l=some (S.laid l ((S.half j.1.1.length j.2.1).1+j.2.2.1) (S.half j.1.1.length j.2.1).2 true):=by
 unfold S.commit S.laid;rw[jan h,jb4,ja2]
theorem qon{L:List ByteArray}{h:Int}{a u:Nat}{c:List qaa}(j:Jn L h a u c):S.roomOf ((L,[]),h,(u:Int),c)=((L.length / 2-1-u:Nat):Int):=by
 have:=j.le.1;unfold S.roomOf;show (S.half L.length h).2-(S.half L.length h).1-(u:Int)=_;rw[j.fr];show ((a+(L.length / 2-1):Nat):Int)-(a:Int)-(u:Int)=_;omega
def comL(L:List ByteArray)(a u:Nat)(l:List qaa):List ByteArray:=over L (a+u) (S.packed l 1++qd1 (decide (u+(S.packed l 1).length<L.length / 2-1)))
theorem qg1{L:List ByteArray}{h:Int}{a u:Nat}{c l:List qaa}(j:Jn L h a u c)(hl:S.okC l=true)(hr:u+(S.packed l 1).length<=L.length / 2-1) :
  S.commit ((L,[]),h,(u:Int),c) l=some (S.laid l ((a+u:Nat):Int) ((a+(L.length / 2-1):Nat):Int) true) /\
  S.doD (L,[]) (S.laid l ((a+u:Nat):Int) ((a+(L.length / 2-1):Nat):Int) true)=((comL L a u l,[]),0) /\
  Jn (comL L a u l) h a (u+(S.packed l 1).length) (S.changed c l)/\(comL L a u l).length=L.length:=by
 have hto:=j.to_;have hle:=j.dk.le;have hb:=qoo (qi0 hl);have hd:decide (((a+u:Nat):Int)+(S.packed l 1).length<((a+(L.length / 2-1):Nat):Int))=decide (u+(S.packed l 1).length<L.length / 2-1):=jdg.2 (by omega);have htl:(qd1 (decide (u+(S.packed l 1).length<L.length / 2-1))).length=if u+(S.packed l 1).length<L.length / 2-1 then 1 else 0:=by
  by_cases e:u+(S.packed l 1).length<L.length / 2-1
  ·rw[jam e,jao e];rfl
  ·rw[jan e,jar e];rfl
 have hfit:a+u+((S.packed l 1).length+(qd1 (decide (u+(S.packed l 1).length<L.length / 2-1))).length)<=L.length:=by
  rw[htl];split<;>omega
 have hfit':a+u+(S.packed l 1++qd1 (decide (u+(S.packed l 1).length<L.length / 2-1))).length<=L.length:=by rw[jag];exact hfit
 have hsz:szS (S.packed l 1++qd1 (decide (u+(S.packed l 1).length<L.length / 2-1))):=fun s hs=>(jbq.1 hs).elim (qh6 l 1 s) (qsb _ s);refine⟨?_,?_,?_,qfs hfit'⟩
 ·rw[q4v (by rw[qon j];omega)];show some (S.laid l ((S.half L.length h).1+(u:Int)) (S.half L.length h).2 true)=_;rw[j.fr];rfl
 ·unfold S.doD;rw[jam j.dk.check,qwu,jb4,hd];exact(qv3 (r:=[]) (qsb _) hfit hle).trans (q02 _ _)
 ·refine j.more (j.dk.over hfit' hsz) (qfs hfit') (q4a hfit') hl (by omega) hr (rest:=qd1 (decide (u+(S.packed l 1).length<L.length / 2-1))++L.drop (a+u+(S.packed l 1++qd1 (decide (u+(S.packed l 1).length<L.length / 2-1))).length)) ?_ ?_
  ·show (over L (a+u) _).drop (a+u)=_;rw[qlq hfit',ja2]
  ·by_cases e:u+(S.packed l 1).length<L.length / 2-1
   ·right;rw[jao e];exact q1u
   ·left;omega
theorem qy7:∀{c:List qaa} {last:Int},okS c last->S.changed [] c=c
 | [],_,_=>rfl
 | x::c,last,h=>by
  have hx:=h.2 x (by simp);have h5:=(qbo.1 h.1).2.2.2.2;rw[q76 h.1,hx,jah,qy7 (c:=c) ⟨h5,fun y hy=>h.2 y (by simp[hy])⟩]
theorem qzn{j:qac}(h:¬(S.half j.1.1.length (1-j.2.1)).2-(S.half j.1.1.length (1-j.2.1)).1<(S.packed j.2.2.2 1).length):S.turn j=some (S.puts (S.half j.1.1.length (1-j.2.1)).1 (List.replicate ((S.half j.1.1.length (1-j.2.1)).2-(S.half j.1.1.length (1-j.2.1)).1).toNat S.blank)++[S.sync]++S.puts (S.half j.1.1.length (1-j.2.1)).1 (S.packed j.2.2.2 0) ++
  [S.sync,S.put (S.half j.1.1.length (1-j.2.1)).1 ((S.packed j.2.2.2 1).getD 0 S.none_),S.sync,S.put 0 (qae ((1-j.2.1)::List.replicate 63 0)),S.sync]):=by
 unfold S.turn;rw[jan h]
def topS(h:Int):ByteArray:=qae (h::List.replicate 63 0)
def turL(L:List ByteArray)(h:Int)(b:Nat)(c:List qaa):List ByteArray:=over (over (over L b (List.replicate (L.length / 2-1) S.blank)) b (S.packed c 1)) 0 [topS h]
def turA(L:List ByteArray)(h:Int)(b:Nat)(c:List qaa):List DAct:=S.puts (b:Int) (List.replicate (L.length / 2-1) S.blank)++[S.sync]++S.puts (b:Int) (S.packed c 0)++[S.sync,S.put (b:Int) ((S.packed c 1).getD 0 S.none_),S.sync,S.put 0 (topS h),S.sync]
theorem qyz{h:Int}:(topS h).size=64:=by
 unfold topS;rw[qbe,jat,jba]
theorem q9r{h:Int}(hh:h=0\/h=1):qab (topS h)=topB h:=qbz fun x hx=>by
 rcases jav.1 hx with rfl|hx
 ·omega
 ·exact qfy 63 x hx
theorem qyf{L:List ByteArray}{h:Int}{a u:Nat}{c:List qaa}(j:Jn L h a u c)(hr:(S.packed c 1).length<=L.length / 2-1):∃b:Nat,S.half L.length (1-h)=((b:Int),((b+(L.length / 2-1):Nat):Int)) /\
  S.turn ((L,[]),h,(u:Int),c)=some (turA L (1-h) b c)/\S.doD (L,[]) (turA L (1-h) b c)=((turL L (1-h) b c,[]),0)/\Jn (turL L (1-h) b c) (1-h) b (S.packed c 1).length c/\(turL L (1-h) b c).length=L.length:=by
 have hh:=j.hh;have hle:=j.dk.le;have hge:=j.dk.ge;have hok:=j.le.2.1;have hb:=qoo (qi0 hok.1);obtain⟨b,e1,e2,e3,_,_⟩:=qgj j.dk.ev hge (h:=1-h) (by omega);have hK:(List.replicate (L.length / 2-1) S.blank).length=L.length / 2-1:=jba;have hf1:b+(List.replicate (L.length / 2-1) S.blank).length<=L.length:=by rw[hK];omega
 have hs1:szS (List.replicate (L.length / 2-1) S.blank):=fun s hs=>by rw[(jfd.1 hs).2];exact q1p
 have d1:=j.dk.over hf1 hs1;have l1:(over L b (List.replicate (L.length / 2-1) S.blank)).length=L.length:=qfs hf1;have hf2:b+(S.packed c 1).length<=(over L b (List.replicate (L.length / 2-1) S.blank)).length:=by rw[l1];omega
 have d2:=d1.over hf2 (qh6 c 1);have l2:=(qfs hf2).trans l1;have hf3:0+[topS (1-h)].length<=(over (over L b (List.replicate (L.length / 2-1) S.blank)) b (S.packed c 1)).length:=by rw[l2];show 0+1<=_;omega
 have hs3:szS [topS (1-h)]:=fun s hs=>by rw[jcb.1 hs];exact qyz
 have d3:=d2.over hf3 hs3;have l3:(turL L (1-h) b c).length=L.length:=(qfs hf3).trans l2;have hmem:(S.packed c 1).getD 0 S.none_∈S.packed c 1:=qh9 (qel c 1);refine⟨b,e1,?_,?_,?_,l3⟩
 ·rw[qzn]
  ·show some (S.puts (S.half L.length (1-h)).1 (List.replicate ((S.half L.length (1-h)).2-(S.half L.length (1-h)).1).toNat S.blank)++[S.sync]++S.puts (S.half L.length (1-h)).1 (S.packed c 0)++_)=_;rw[e1];have:(((b+(L.length / 2-1):Nat):Int)-(b:Int)).toNat=L.length / 2-1:=by omega
   simp only[this];rfl
  ·show ¬(S.half L.length (1-h)).2-(S.half L.length (1-h)).1<_;rw[e1];show ¬((b+(L.length / 2-1):Nat):Int)-(b:Int)<((S.packed c 1).length:Int);omega
 ·unfold S.doD;rw[jam j.dk.check];show S.doGo (turA L (1-h) b c) L []=_;unfold turA;rw[ja2,ja2,qsu _ _ _ _ _ hs1 hf1 (by rw[jbi,hK];omega),jcj];show S.doGo (S.sync::_) _ _=_;rw[qn5,qiv _ _ _ hf1];have:=qv3 (L:=over L b (List.replicate (L.length / 2-1) S.blank)) (a:=b) (l:=c) (tail:=[]) (r:=[S.put ((0:Nat):Int) (topS (1-h)),S.sync]) (fun s hs=>by cases hs) (by rw[l1,jbi];omega) (by rw[l1];exact hle);rw[jbo,jbo] at this;refine this.trans ?_;rw[qse qyz (by rw[l2];omega) (by rw[jbi];omega),qn5,q02];refine jaw (fun z=>((z,[]),0)) ?_;exact qiv [topS (1-h)] 0 _ hf3
 ·have hh':1-h=0\/1-h=1:=by omega
  have htop:(turL L (1-h) b c).getD 0 S.none_=topS (1-h):=rfl;refine⟨d3,hh',by rw[htop];exact q9r hh',by rw[l3];exact e1,e2,by rw[l3];exact e3,⟨2,?_⟩,qel c 1⟩;rw[l3];have hdr:(turL L (1-h) b c).drop b=S.packed c 1++(over L b (List.replicate (L.length / 2-1) S.blank)).drop (b+(S.packed c 1).length):=by
   rw[<- qlq hf2];show (over _ 0 [topS (1-h)]).drop b=_;exact zal _ _ e2
  rw[hdr,List.take_append,jbv hr,q51 1 c _ [] 0 hok.1 (by omega)];have hng:c.any (·.2.2)=false:=jdk.2 fun x hx=>by rw[hok.2 x hx];decide
  rw[hng,Bool.and_false,jah,qy7 hok,jbk];have hrest:((over L b (List.replicate (L.length / 2-1) S.blank)).drop (b+(S.packed c 1).length)).take (L.length / 2-1-(S.packed c 1).length)=List.replicate (L.length / 2-1-(S.packed c 1).length) S.blank:=by
   rw[<- jdq,qlq hf1,jd3 (by rw[hK];exact hr),List.drop_replicate,jd2 (by rw[jba];exact jaq _),jbv (by rw[jba];exact jaq _)]
  rw[hrest];cases L.length / 2-1-(S.packed c 1).length with
  | zero=>rfl
  | succ n=>rw[List.replicate_succ,qee,jam q1u]
theorem zfq(a b:qaa):(keqI a.1 b.1&&(keqS a.2.1 b.2.1&&(keqB a.2.2 b.2.2&&true)))=decide (a=b):=by
 obtain⟨a1,a2,a3⟩:=a;obtain⟨b1,b2,b3⟩:=b;rw[jc7];simp[keqI,keqS,keqB]
theorem q9l{α R:Type}[DecidableEq α]{T:(Int->Option R)->Int->Option R}(a b:List α)(hl:a.length=b.length)(ha:a.length<LF)(Y N:Option R)
  (h0:∀K,T K (Int.ofNat a.length)=Y)
  (h1:∀K i v w,iltI (Int.ofNat i) (Int.ofNat a.length)=true->jget a (Int.ofNat i)=some v->jget b (Int.ofNat i)=some w->IntKind.i64.wrap (Int.add (Int.ofNat i) (Int.ofNat 1))=Int.ofNat (i+1)->T K (Int.ofNat i)=cond (decide (v=w)) (K (Int.ofNat (i+1))) N) :
  qa9 T LF (Int.ofNat 0)=cond (decide (a=b)) Y N:=by
 refine(q3t (T:=T) a (fun rest i=>cond (decide (rest=b.drop i)) Y N) ha (fun K=>?_) (fun K i v rest r h=>?_)).trans ?_
 ·rw[h0,hl,jcp (jaq _)];rfl
 ·have hi:=r.lt;obtain⟨w,w1,w2⟩:∃w,b[i]?=some w/\b.drop i=w::b.drop (i+1):=⟨b[i],jac (by omega),jdd (by omega)⟩;rw[h1 K i v w r.ilt r.get (by rw[qdk];exact w1) r.next,h,w2];by_cases e:v=w
  ·rw[jao e,jab];have:decide (rest=b.drop (i+1))=decide (v::rest=w::b.drop (i+1)):=jdg.2 (by rw[e];simp);rw[this]
  ·rw[jar e,jah,jar (fun h=>e (List.cons.inj h).1),jah]
 ·rfl
def qcu(l:List qaa)(i:Nat):Int:=if i=0 then -1 else ((l.getD (i-1) (0,S.none_,false)).1)
theorem q2x{R:Type}{l:List qaa}{i:Nat}{k:Int}(hk:0<=k)(hi:i<=l.length)(hl:l.length<1000000)(N T:Option R) :
  cond (iltI (Int.ofNat 0) (Int.ofNat i)) (match jget l (IntKind.i64.wrap (Int.sub (Int.ofNat i) (Int.ofNat 1))) with
   | none=>none
   | some v=>cond (!iltI v.1 k) N T) T=cond (decide (qcu l i<k)) T N:=by
 unfold qcu;cases i with
 | zero =>
  rw[jam rfl,jao (show (-1:Int)<k by omega)];rfl
 | succ i =>
  rw[jan (by omega),qcb,jao (by omega),jab];have e:IntKind.i64.wrap (Int.sub (Int.ofNat (i+1)) (Int.ofNat 1))=Int.ofNat i:=by
   have:Int.sub (Int.ofNat (i+1)) (Int.ofNat 1)=Int.ofNat i:=by
    show ((i+1:Nat):Int)-1=(i:Int);omega
   rw[this];exact qbl (by omega)
  rw[e,qtp (i:=Int.ofNat i) (d:=(0,S.none_,false)) (jbz _) (by show (i:Int)<(l.length:Int);omega)];show cond (!iltI (l.getD i (0,S.none_,false)).1 k) N T=cond (decide ((l.getD i (0,S.none_,false)).1<k)) T N;rw[qa5];cases decide ((l.getD i (0,S.none_,false)).1<k)<;>rfl
theorem q8z{l:List qaa}{i:Nat}{v:qaa}(h:l[i]?=some v):qcu l (i+1)=v.1:=by
 unfold qcu;rw[jan (by omega),jai,Nat.add_sub_cancel,h];rfl
theorem zdn(s:ByteArray):keqS s (S.lit [])=decide (s.size=0):=by
 unfold keqS;exact jdg.2 q59.symm
theorem qt8{j:qac}(h:S.smallJ j=true):j.1.1.length<=1000/\j.1.1.length % 2=0/\-1000<=j.2.2.1/\j.2.2.1<=1000:=by
 unfold S.smallJ at h;rw[jae,jae,qbk] at h;exact⟨jak h.1,ja3 h.2.1,h.2.2.1,h.2.2.2⟩
structure RJ (j:qac) (a u:Nat):Prop where
 jn:Jn j.1.1 j.2.1 a u j.2.2.2
 eq:j=((j.1.1,[]),j.2.1,(u:Int),j.2.2.2)
 small:S.smallJ j=true
 room:S.roomR j=((j.1.1.length / 2-1-u:Nat):Int)
 room2:S.roomOf j=((j.1.1.length / 2-1-u:Nat):Int)
 halfG:(Nat.ble j.1.1.length 1000&&decide (j.1.1.length % 2=0))=true
 used:j.2.2.1=(u:Int)
theorem qfc{j:qac}(h:S.right j=true):∃a u,RJ j a u:=by
 obtain⟨a,u,jn,h1,h2⟩:=quu h;have hle:=jn.dk.le;have hge:=jn.dk.ge;have hev:=jn.dk.ev;have hu:=jn.le.1;refine⟨a,u,jn,?_,?_,?_,?_,?_,h2⟩
 ·obtain⟨⟨l,q⟩,hh,uu,cc⟩:=j;simp only at h1 h2;rw[h1,h2]
 ·unfold S.smallJ;rw[ja0 hle,jao hev,jb4,jb4,qbk,h2];omega
 ·unfold S.roomR;rw[h2];omega
 ·have:=qon jn;obtain⟨⟨l,q⟩,hh,uu,cc⟩:=j;simp only at h1 h2;subst h1 h2;exact this
 ·rw[ja0 hle,jao hev];rfl
theorem qqb{l:List qaa}(h:(S.size l).2=0):S.okC l=true/\(S.size l).1=((S.packed l 1).length:Int)/\1<=l.length:=by
 unfold S.size at h ⊢;by_cases h1:60<l.length
 ·rw[jam h1] at h;cases h
 rw[jan h1] at h ⊢;by_cases h2:l.length=0
 ·rw[jam h2] at h;cases h
 rw[jan h2] at h ⊢;cases hc:S.okC l with
 | false=>rw[hc] at h;cases h
 | true=>exact⟨rfl,rfl,by omega⟩
theorem q21{j:qac}{l:List qaa}(h:S.roomOf j<(S.packed l 1).length):S.commit j l=none:=by
 unfold S.commit;rw[jam h]
theorem q31{j:qac}(h:(S.half j.1.1.length (1-j.2.1)).2-(S.half j.1.1.length (1-j.2.1)).1<(S.packed j.2.2.2 1).length):S.turn j=none:=by
 unfold S.turn;rw[jam h]
theorem zlk:S.lit [0,0,0,0,0,0,0,0,0,0,0,0,0,0,0,0,0,0,0,0,0,0,0,0,0,0,0,0,0,0,0,0,0,0,0,0,0,0,0,0,0,0,0,0,0,0,0,0,0,0,0,0,0,0,0,0,0,0,0,0,0,0,0]=qae (List.replicate 63 0):=qw5
theorem q0p{j:qac}{a u:Nat}(r:RJ j a u)(h1:S.right j=true):(S.turn j=none/\S.turnJ j=(S.noJ,14)/\S.planTurn j=([],14)/\j.1.1.length / 2-1<(S.packed j.2.2.2 1).length) \/
  ∃b:Nat,S.half j.1.1.length (1-j.2.1)=((b:Int),((b+(j.1.1.length / 2-1):Nat):Int))/\S.turn j=some (turA j.1.1 (1-j.2.1) b j.2.2.2)/\S.planTurn j=(turA j.1.1 (1-j.2.1) b j.2.2.2,0)/\S.doD j.1 (turA j.1.1 (1-j.2.1) b j.2.2.2)=((turL j.1.1 (1-j.2.1) b j.2.2.2,[]),0) /\
   S.turnJ j=(((turL j.1.1 (1-j.2.1) b j.2.2.2,[]),1-j.2.1,((S.packed j.2.2.2 1).length:Int),j.2.2.2),0)/\Jn (turL j.1.1 (1-j.2.1) b j.2.2.2) (1-j.2.1) b (S.packed j.2.2.2 1).length j.2.2.2:=by
 by_cases h3:j.1.1.length / 2-1<(S.packed j.2.2.2 1).length
 ·left;have hh:=r.jn.hh;obtain⟨b,e1,e2,e3,_,_⟩:=qgj r.jn.dk.ev r.jn.dk.ge (h:=1-j.2.1) (by omega);have hn:S.turn j=none:=q31 (by rw[e1];show ((b+(j.1.1.length / 2-1):Nat):Int)-(b:Int)<_;omega);have hp:S.planTurn j=([],14):=by
   unfold S.planTurn;rw[jam h1,hn]
  refine⟨hn,?_,hp,h3⟩;unfold S.turnJ;rw[hp];rfl
 ·right;obtain⟨b,f1,f2,f3,f4,f5⟩:=qyf r.jn (by omega);rw[<- r.eq] at f2;have hq:j.1=(j.1.1,[]):=jaw (·.1) r.eq;rw[<- hq] at f3;have hp:S.planTurn j=(turA j.1.1 (1-j.2.1) b j.2.2.2,0):=by
   unfold S.planTurn;rw[jam h1,f2]
  refine⟨b,f1,f2,hp,f3,?_,f4⟩;unfold S.turnJ;rw[hp];show S.open_ (S.doD j.1 (turA j.1.1 (1-j.2.1) b j.2.2.2)).1=_;rw[f3];exact f4.opened_
theorem qua{j:qac}{a u:Nat}(r:RJ j a u){l:List qaa}(hl:S.okC l=true):(S.commit j l=none/\j.1.1.length / 2-1<u+(S.packed l 1).length) \/
  ∃A,S.commit j l=some A/\A=S.laid l ((a+u:Nat):Int) ((a+(j.1.1.length / 2-1):Nat):Int) true/\u+(S.packed l 1).length<=j.1.1.length / 2-1/\S.doD j.1 A=((comL j.1.1 a u l,[]),0) /\
   S.behind j A=(((comL j.1.1 a u l,[]),j.2.1,((u+(S.packed l 1).length:Nat):Int),S.changed j.2.2.2 l),0)/\Jn (comL j.1.1 a u l) j.2.1 a (u+(S.packed l 1).length) (S.changed j.2.2.2 l):=by
 have hu:=r.jn.le.1;by_cases h3:j.1.1.length / 2-1<u+(S.packed l 1).length
 ·exact .inl ⟨q21 (by rw[r.room2];omega),h3⟩
 ·right;obtain⟨c1,c2,c3,_⟩:=qg1 r.jn hl (by omega);rw[<- r.eq] at c1;have hq:j.1=(j.1.1,[]):=jaw (·.1) r.eq;rw[<- hq] at c2;refine⟨_,c1,rfl,by omega,c2,?_,c3⟩;unfold S.behind;rw[c2];exact c3.opened_
theorem zhy(lf:Nat)(j:qac)(h:S.smallJ j=true):qom lf j=some (S.roomOf j,()):=by
 obtain⟨h1,h2,h3,h4⟩:=qt8 h;simp only[qom,qwy];rw[show S.inI (Int.ofNat j.1.1.length) (Int.ofNat 0) (Int.ofNat 1000)=true from qbk.2 ⟨jbz _,by show (j.1.1.length:Int)<=1000;omega⟩,jab];simp only;unfold S.roomOf;show some (IntKind.i64.wrap (Int.sub (IntKind.i64.wrap ((S.half j.1.1.length j.2.1).2-(S.half j.1.1.length j.2.1).1)) j.2.2.1),())=_;have hb:-1000<=(S.half j.1.1.length j.2.1).2-(S.half j.1.1.length j.2.1).1/\(S.half j.1.1.length j.2.1).2-(S.half j.1.1.length j.2.1).1<=1000:=by
  unfold S.half;split
  ·show -1000<=((j.1.1.length / 2:Nat):Int)-1/\((j.1.1.length / 2:Nat):Int)-1<=1000;omega
  ·show -1000<=(j.1.1.length:Int)-1-((j.1.1.length / 2:Nat):Int)/\(j.1.1.length:Int)-1-((j.1.1.length / 2:Nat):Int)<=1000;omega
 rw[wrap_in (n:=(S.half j.1.1.length j.2.1).2-(S.half j.1.1.length j.2.1).1) (by omega)];refine jaw (fun z=>some (z,())) (wrap_in ?_);show -_<=(S.half j.1.1.length j.2.1).2-(S.half j.1.1.length j.2.1).1-j.2.2.1/\(S.half j.1.1.length j.2.1).2-(S.half j.1.1.length j.2.1).1-j.2.2.1<_;omega
theorem q5h:Con Try.prog zd0 qq3:=zd9 ⟨qns,trivial⟩ fun x y hx h=>⟨0,by
 obtain⟨h1,h2⟩:=qba (show cond (S.smallJ x.1) (some (S.roomOf x.1,())) none=some y from h);exact(zhy 0 x.1 h1).trans (jaw some h2)⟩
theorem q83(l:List qaa):Fz4 LF l=some ((S.size l).1,(S.size l).2,()):=by
 simp only[Fz4,qrs];unfold S.size;rw[qcb,q27];by_cases h1:60<l.length
 ·rw[jao h1,jab,jam h1];rfl
 rw[jar h1,jah,jan h1];by_cases h2:l.length=0
 ·rw[jao h2,jab,jam h2];rfl
 rw[jar h2,jah,jan h2];have hfin:∀b:Bool,b=S.okC l->(cond b (some (((S.packed l 1).length:Int),(0:Int),())) (some ((0:Int),(1:Int),())))=some ((cond (S.okC l) (((S.packed l 1).length:Int),(0:Int)) ((0:Int),(1:Int))).1,(cond (S.okC l) (((S.packed l 1).length:Int),(0:Int)) ((0:Int),(1:Int))).2,()):=fun b hb=>by
  subst hb;cases S.okC l<;>rfl
 refine(range0 (σ:=Unit) (R:=Rtz4) (T:=fun K p=>qj4 LF l K p) l (fun i _=>i) (fun i _=>S.okGo (l.drop i) (qcu l i)=S.okC l\/S.okC l=S.okGo (l.drop i) (qcu l i)) (fun rest i _=>cond (S.okGo rest (qcu l i)) (some (((S.packed l 1).length:Int),(0:Int),())) (some ((0:Int),(1:Int),()))) (by unfold LF;omega) (fun K s hs=>?_) (fun K i v rest s hs r hk=>?_) () (.inl rfl)).trans (hfin _ rfl)
 ·rw[jcp (jaq _)] at hs;have hok:S.okC l=true:=hs.elim (fun h=>h.symm) id;simp only[qj4,qdn,jah];rw[qi0 hok,jab];rfl
 ·have hd:=r.drop;have hi:=r.lt;have hgi:l[i]?=some v:=by
   have:=r.get
   rwa [qdk] at this
  have hst:S.okGo (v::rest) (qcu l i)=(S.inI v.1 0 199&&(decide (v.2.1.size<=4000)&&(!(v.2.2&&!decide (v.2.1.size=0))&&(decide (qcu l i<v.1)&&S.okGo rest v.1)))):=rfl;have hs':S.okC l=S.okGo (v::rest) (qcu l i):=by rw[hd] at hs;exact hs.elim (fun h=>h.symm) id
  have hnext:qcu l (i+1)=v.1:=q8z hgi;rw[hnext] at hk;simp only[qj4,r.ilt,r.get,r.next,jab];rw[hst];by_cases c1:S.inI v.1 0 199=true
  ·rw[show S.inI v.1 (Int.ofNat 0) (Int.ofNat 199)=true from c1,jbb,jah,c1,jb4,qcb];by_cases c2:v.2.1.size<=4000
   ·rw[jar (show ¬4000<v.2.1.size by omega),jah,jao c2,jb4,zdn];have hv0:0<=v.1:=(qbk.1 c1).1;have hfinal:cond (decide (qcu l i<v.1)) (K (Int.ofNat (i+1))) (some (Int.ofNat 0,Int.ofNat 1,()))=cond (decide (qcu l i<v.1)&&S.okGo rest v.1) (some (((S.packed l 1).length:Int),(0:Int),())) (some ((0:Int),(1:Int),()))\/¬(v.2.2&&!decide (v.2.1.size=0))=false:=by
     by_cases cg:(v.2.2&&!decide (v.2.1.size=0))=false
     ·left;by_cases c4:qcu l i<v.1
      ·rw[jao c4,jab,jb4];refine hk () ?_;rw[r.tail];left;rw[hs',hst,c1,jao c2,cg,jao c4];rfl
      ·rw[jar c4,jah,jdh,jah];rfl
     ·exact .inr cg
    cases hg:v.2.2 with
    | true =>
     rw[jab,jb4];by_cases c3:v.2.1.size=0
     ·rw[jao c3,jbb,jah,ja4,jb4];refine(q2x (l:=l) hv0 (by omega) (by omega) _ _).trans ?_;refine hfinal.resolve_right ?_;rw[jao c3,jbb,Bool.and_false];decide
     ·rw[jar c3,ja4,jab,jbb,jdh,jah];rfl
    | false =>
     rw[jah,jdh,ja4,jb4];refine(q2x (l:=l) hv0 (by omega) (by omega) _ _).trans ?_;refine hfinal.resolve_right ?_;rw[hg,jdh];decide
   ·rw[jao (show 4000<v.2.1.size by omega),jab,jar c2,jdh,jah];rfl
  ·have c1:=jdb.2 c1;rw[show S.inI v.1 (Int.ofNat 0) (Int.ofNat 199)=false from c1,ja4,jab,c1,jdh,jah];rfl
theorem qsp:Con Try.prog idz4 spz4:=mkz4 ⟨qkx,qm0,trivial⟩ fun x y hx h=>⟨LF,(q83 x.1).trans h⟩
theorem qpx{j:qac}(h:S.right j=true):S.errR j=0:=by unfold S.errR;rw[jam h]
theorem qed{j:qac}(h:¬S.right j=true):S.errR j=1:=by unfold S.errR;rw[jan h]
theorem qsj{d:qak}(h:S.checkDisk d=0):S.okL d=true:=by
 have k:=q48 h;unfold S.okL S.secs;rw[jae,jae,jae,jch];refine⟨⟨ja0 k.le,jdk.2 fun s q=>?_⟩,ja0 k.ge,jao k.ev⟩;unfold S.short;rw[k.sz s q];decide
theorem zaw(lf:Nat)(j:qac):qnr lf j=some (S.errR j,()):=by
 simp only[qnr,q1f];show cond (!ieqI (S.checkDisk j.1) _) _ (cond (iltI (Int.ofNat 0) (Int.ofNat j.1.2.length)) _ (match (cond (S.okL j.1) (some ((S.openedJ j.1).1,((S.openedJ j.1).2,()))) none) with|none=>none|some v=>_))=_;by_cases h0:S.checkDisk j.1=0
 ·rw[qbm (show _=Int.ofNat 0 from h0),jbb,jah,qcb];by_cases h1:j.1.2.length=0
  ·have hq:j.1.2=[]:=jay.1 h1;rw[jar (by omega),jah,qsj h0,jab];simp only;unfold S.openedJ;cases ho:S.opened j.1.1 with
   | none =>
    have hr:¬S.right j=true:=fun h=>by
     obtain⟨a,u,r⟩:=qfc h;rw[r.jn.open_] at ho;cases ho
    rw[qed hr];rfl
   | some x =>
    obtain⟨hf,u,c⟩:=x;simp only;rw[jbb,jah,qdr,qdr];have hop:S.open_ j.1=(((j.1.1,[]),hf,(u:Int),c),0):=by
     unfold S.open_;rw[jam h0,jam h1,ho]
    have hre:S.right j=decide ((((j.1.1,[]),hf,(u:Int),c):qac)=j):=by
     unfold S.right;rw[hop];rfl
    obtain⟨⟨L,q⟩,h',u',c'⟩:=j;simp only at hq;subst hq;show cond (!decide (hf=h')) _ (cond (!decide ((u:Int)=u')) _ (cond (!decide (c=c')) _ _))=_;by_cases e1:hf=h'
    ·by_cases e2:(u:Int)=u'
     ·by_cases e3:c=c'
      ·rw[jao e1,jao e2,jao e3,qpx (by rw[hre,e1,e2,e3];exact jao rfl)];rfl
      ·rw[jao e1,jao e2,jar e3,qed (fun h=>by rw[hre] at h;exact e3 (jaw (fun z:qac=>z.2.2.2) (ja3 h)))];rfl
     ·rw[jao e1,jar e2,qed (fun h=>by rw[hre] at h;exact e2 (jaw (fun z:qac=>z.2.2.1) (ja3 h)))];rfl
    ·rw[jar e1,qed (fun h=>by rw[hre] at h;exact e1 (jaw (fun z:qac=>z.2.1) (ja3 h)))];rfl
  ·have hr:¬S.right j=true:=fun h=>by
    obtain⟨a,u,jn,h2,_⟩:=quu h;rw[h2] at h1;exact h1 rfl
   rw[jao (by omega),jab,qed hr];rfl
 ·have hr:¬S.right j=true:=fun h=>by
   obtain⟨a,u,jn,h2,_⟩:=quu h;have:=jn.dk.check;rw[show j.1=(j.1.1,[]) from Prod.ext rfl h2] at h0;exact h0 this
  rw[qbn (show ¬_=Int.ofNat 0 from h0),ja4,jab,qed hr];rfl
theorem zh8(lf:Nat)(d:qak):qn9 lf d=some ((S.open_ d).1,(S.open_ d).2,()):=by
 simp only[qn9,qyh];unfold S.open_;show cond (!ieqI (S.checkDisk d) _) _ (cond (iltI (Int.ofNat 0) (Int.ofNat d.2.length)) _ (match (cond (S.okL d) (some ((S.openedJ d).1,((S.openedJ d).2,()))) none) with|none=>none|some v=>_))=_;by_cases h0:S.checkDisk d=0
 ·rw[qbm (show _=Int.ofNat 0 from h0),jbb,jah,qcb,jam h0];by_cases h1:d.2.length=0
  ·rw[jar (by omega),jah,qsj h0,jab,jam h1];simp only;unfold S.openedJ;cases S.opened d.1<;>rfl
  ·rw[jao (by omega),jab,jan h1];rfl
 ·rw[qbn (show ¬_=Int.ofNat 0 from h0),ja4,jab,jan h0];rfl
theorem zhn(lf:Nat)(j:qac):qll lf j=some ((S.room j).1,(S.room j).2,()):=by
 simp only[qll,qyj];unfold S.room;show cond (!ieqI (S.errR j) _) (some (_,S.errR j,())) (match (cond (S.smallJ j) (some (S.roomOf j,())) none) with|none=>none|some v=>_)=_;by_cases h1:S.right j=true
 ·obtain⟨a,u,r⟩:=qfc h1;rw[qpx h1,show ieqI 0 (Int.ofNat 0)=true from rfl,jbb,jah,r.small,jab,jam h1];rfl
 ·rw[qed h1,show ieqI 1 (Int.ofNat 0)=false from rfl,ja4,jab,jan h1];rfl
theorem zli(lf:Nat)(j:qac)(l:List qaa):qpm lf j l=some (S.asked j l,()):=by
 simp only[qpm,q3w];unfold S.asked;show cond (!ieqI (S.errR j) _) (some (S.errR j,())) _=_;by_cases h1:S.right j=true
 ·rw[qpx h1,show ieqI 0 (Int.ofNat 0)=true from rfl,jbb,jah,jam h1]
 ·rw[qed h1,show ieqI 1 (Int.ofNat 0)=false from rfl,ja4,jab,jan h1]
theorem q0t(a b:List DAct):S.app a b=a++b:=rfl
theorem qca{a:List DAct}{n:Nat}(h:a.length<=n):Nat.ble (S.lenA a) n=true:=ja0 h
theorem qr5(a:Int)(s:ByteArray):S.puts a [s]=[S.put a s]:=rfl
theorem unm(l:List qaa):qae (0::(qab ((S.packed l 1).getD 0 S.none_)).drop 1)=(S.packed l 0).getD 0 S.none_:=by
 have e:∀m:Int,0<=m/\m<256->qab ((S.packed l m).getD 0 S.none_)=m::((S.recB l 0).drop 1).take 63++List.replicate (64-(S.recB l 0).length) 0:=fun m hm=>by
  have h:=qf2 ((S.body l).length+3) (b:=S.recB l m) (by rw[qeg];omega);have:S.packed l m=qae ((S.recB l m).take 64++List.replicate (64-(S.recB l m).length) 0)::S.chunks ((S.body l).length+3) ((S.recB l m).drop 64):=h;rw[this];exact qbz (qfh (qej (qkj l hm) 64) (qfy _))
 refine qfn ?_;rw[e 1 (by omega),e 0 (by omega)];have hr:rng ((0:Int)::(((S.recB l 0).drop 1).take 63++List.replicate (64-(S.recB l 0).length) 0)):=fun x hx=>by
  rcases jav.1 hx with rfl|hx
  ·decide
  ·exact qfh (qej (qd9 (qkj l (by decide)) 1) 63) (qfy _) x hx
 exact qbz hr
theorem unm2(l:List qaa):qae (Int.ofNat 0::(qab ((S.packed l 1).getD 0 S.none_)).drop 1)=(S.packed l 0).getD 0 S.none_:=unm l
theorem q6q(l:List ByteArray):lsub l (Int.ofNat 1) (Int.ofNat l.length)=l.drop 1:=by
 unfold lsub;show (l.take l.length).drop 1=_;rw[List.take_length]
theorem q1r(l:List qaa)(a:Nat):S.puts (a:Int) [(S.packed l 0).getD 0 S.none_]++S.puts ((a+1:Nat):Int) ((S.packed l 1).drop 1)=S.puts (a:Int) (S.packed l 0):=by
 rw[qu6 l 0];exact(qul a [(S.packed l 0).getD 0 S.none_] ((S.packed l 1).drop 1)).symm
theorem in0{n:Nat}(h:n<=1000000):S.inI ((n:Nat):Int) (Int.ofNat 0) (Int.ofNat 1000000)=true:=qbk.2 ⟨jbz _,by show (n:Int)<=1000000;omega⟩
theorem zir{j:qac}{l:List qaa}(h:S.comG j l=true):S.smallJ j=true/\S.pk l=true/\0<=j.2.2.1/\j.2.2.1<=1000:=by
 unfold S.comG at h;rw[jae,jae,qbk] at h;exact⟨h.1,h.2.1,h.2.2⟩
theorem znu(n:Nat)(hn:n<=1000)(h:Int)(h1:0<n\/h=0):∃a b:Nat,(S.half n h).1=(a:Int)/\(S.half n h).2=(b:Int)/\a<=1000/\b<=1000:=by
 unfold S.half;by_cases e:h=0
 ·rw[jam e];exact⟨1,n / 2,rfl,rfl,by omega,by omega⟩
 ·rw[jan e];have:0<n:=h1.resolve_right e;exact⟨n / 2,n-1,rfl,by show (n:Int)-1=((n-1:Nat):Int);omega,by omega,by omega⟩
theorem zna(lf:Nat)(j:qac)(l:List qaa)(h:S.comG j l=true):ql5 lf j l=some ((S.actsB (S.commit j l)).1,(S.actsB (S.commit j l)).2,()):=by
 obtain⟨hs,hp,hu0,hu1⟩:=zir h;obtain⟨h1,h2,_,_⟩:=qt8 hs;have hpl:=q2n hp 1;have hpos:=qel l 1;have hp0:(S.packed l 0).length=(S.packed l 1).length:=by rw[qbx,qbx]
 simp only[ql5,q2p];show (match (cond (S.pk l) (some ((S.packed l 1),())) none) with|none=>none|some v0=>(match (cond (S.smallJ j) (some (S.roomOf j,())) none) with|none=>none|some v1=>_))=_;rw[hp,jab,hs,jab];simp only;by_cases c0:S.roomOf j<((S.packed l 1).length:Int)
 ·rw[qei (show S.roomOf j<Int.ofNat (S.packed l 1).length from c0),jab,q21 c0];rfl
 rw[qfj (show ¬S.roomOf j<Int.ofNat (S.packed l 1).length from c0),jah,q4v c0,show S.inI (Int.ofNat j.1.1.length) (Int.ofNat 0) (Int.ofNat 1000)=true from qbk.2 ⟨jbz _,by show (j.1.1.length:Int)<=1000;omega⟩,jab];simp only;obtain⟨a,b,ea,eb,ha,hb⟩:=znu j.1.1.length h1 j.2.1 (by
  refine jer j.1.1.length |>.elim (fun e=>?_) (fun e=>.inl e);refine jcf fun hc=>?_;have hc:¬j.2.1=0:=fun h=>hc (.inr h);have:S.roomOf j=-1-j.2.2.1:=by
   unfold S.roomOf S.half;rw[e,jan hc];show ((0:Nat):Int)-1-((0 / 2:Nat):Int)-j.2.2.1=_;omega
  rw[this] at c0;omega)
 obtain⟨u,hu⟩:∃u:Nat,j.2.2.1=(u:Int):=⟨j.2.2.1.toNat,by omega⟩;have huu:u<=1000:=by omega
 rw[show Int.toNat (Int.ofNat j.1.1.length)=j.1.1.length from rfl,ea,eb,hu];have w1:IntKind.i64.wrap (Int.add (a:Int) (u:Int))=((a+u:Nat):Int):=qbl (n:=a+u) (by omega);have w2:IntKind.i64.wrap (Int.add ((a+u:Nat):Int) (Int.ofNat 1))=((a+u+1:Nat):Int):=qbl (n:=a+u+1) (by omega);have w3:IntKind.i64.wrap (Int.add ((a+u:Nat):Int) (Int.ofNat (S.packed l 1).length))=((a+u+(S.packed l 1).length:Nat):Int):=qbl (n:=a+u+(S.packed l 1).length) (by omega);have hsz:=qh6 l 1 _ (qh9 (i:=0) (show 0<(S.packed l 1).length by omega));have l1:lchk (Int.ofNat 1) (Int.ofNat (S.packed l 1).length) (Int.ofNat (S.packed l 1).length) (Int.ofNat (S.packed l 1).length)=true:=qby.2 ⟨by decide,by show (1:Int)<=((S.packed l 1).length:Int);omega,jbr _,jbr _⟩;have hdl:Nat.ble ((S.packed l 1).drop 1).length 1000000=true:=ja0 (by rw[ja6];omega);have hpl0:(S.puts ((a+u:Nat):Int) (S.packed l 0)).length<=20000:=by rw[qf0];omega
 rw[w1,w3];simp only[qpl (d:=S.none_) hpos,get0 (d:=S.none_) hpos,hsz,decide_true,jab,unm2,w2,in0 (show a+u<=1000000 by omega),in0 (show a+u+1<=1000000 by omega),in0 (show a+u+(S.packed l 1).length<=1000000 by omega),l1,q6q,hdl,Bool.and_true,jb4,q0t,jcj];rw[qca (show (S.puts ((a+u:Nat):Int) [(S.packed l 0).getD 0 S.none_]).length<=1000000 by rw[qf0];show 1<=_;omega),jab];simp only;rw[q1r l (a+u),qca (show (S.puts ((a+u:Nat):Int) (S.packed l 0)).length<=1000000 by omega),jab];simp only;rw[qca (show (S.puts ((a+u:Nat):Int) (S.packed l 0)).length<=4000000 by omega),jab];simp only;rw[qca (show (S.puts ((a+u:Nat):Int) (S.packed l 0)++[S.sync]).length<=1000000 by rw[jag];show _+1<=_;omega),jab];simp only;rw[qca (show (S.puts ((a+u:Nat):Int) (S.packed l 0)++[S.sync]++S.puts ((a+u:Nat):Int) [(S.packed l 1).getD 0 S.none_]).length<=4000000 by rw[jag,jag];show _+1+1<=_;omega),jab];simp only;rw[qca (show (S.puts ((a+u:Nat):Int) (S.packed l 0)++S.puts ((a+u+(S.packed l 1).length:Nat):Int) [S.blank]).length<=4000000 by rw[jag];show _+1<=_;omega),jab];simp only;rw[qca (show (S.puts ((a+u:Nat):Int) (S.packed l 0)++S.puts ((a+u+(S.packed l 1).length:Nat):Int) [S.blank]++[S.sync]).length<=1000000 by rw[jag,jag];show _+1+1<=_;omega),jab];simp only;rw[qca (show (S.puts ((a+u:Nat):Int) (S.packed l 0)++S.puts ((a+u+(S.packed l 1).length:Nat):Int) [S.blank]++[S.sync]++S.puts ((a+u:Nat):Int) [(S.packed l 1).getD 0 S.none_]).length<=4000000 by rw[jag,jag,jag];show _+1+1+1<=_;omega),jab,qa5];unfold S.laid;rw[jb4];have hc2:(a:Int)+(u:Int)=((a+u:Nat):Int):=by omega
 have hc3:((a+u:Nat):Int)+((S.packed l 1).length:Int)=((a+u+(S.packed l 1).length:Nat):Int):=by omega
 rw[hc2,hc3];cases decide (((a+u+(S.packed l 1).length:Nat):Int)<(b:Int)) with
 | true =>
  simp only[jab,qr5,ja2];rfl
 | false =>
  simp only[jah,qr5,ja2,jcj];rfl
theorem q93{d:qak}(h:(S.open_ d).2=0):S.okL d=true/\S.openedJ d=((S.open_ d).1,true):=by
 obtain⟨hf,a,u,c,jn,h1,h2⟩:=qtm h;have hd:d=(d.1,[]):=Prod.ext rfl h1;refine⟨qsj (by rw[hd];exact jn.dk.check),?_⟩;unfold S.openedJ;rw[jn.open_,h2]
theorem zhm(lf:Nat)(j:qac)(a:List DAct)(h:S.behG j a=true):qpe lf j a=some ((S.behind j a).1,()):=by
 unfold S.behG at h;rw[jae] at h;have h1:=ja3 h.1;simp only[qpe,qx2];unfold S.behind at h1 ⊢;obtain⟨h2,h3⟩:=q93 h1;show (match (cond (S.okL (S.doD j.1 a).1) (some ((S.openedJ (S.doD j.1 a).1).1,((S.openedJ (S.doD j.1 a).1).2,()))) none) with|none=>none|some v=>_)=_;rw[h2,jab,h3]
def S.kept(k:List Int)(n:Nat):List Int:=(k.take n).map (· % 65)
theorem zjl{L:List ByteArray}{h:Int}{a u:Nat}{c l:List qaa}(j:Jn L h a u c)(hr:u+(S.packed l 1).length<=L.length / 2-1):∃t,szS t/\t=qd1 (decide (u+(S.packed l 1).length<L.length / 2-1))/\a+u+(S.packed l 0++t).length<=L.length /\
  S.laid l ((a+u:Nat):Int) ((a+(L.length / 2-1):Nat):Int) true=S.puts ((a+u:Nat):Int) (S.packed l 0++t)++[S.sync,S.put ((a+u:Nat):Int) ((S.packed l 1).getD 0 S.none_),S.sync] /\
  (S.laid l ((a+u:Nat):Int) ((a+(L.length / 2-1):Nat):Int) true).length=(S.packed l 0++t).length+3:=by
 have e1:(S.packed l 0).length=(S.packed l 1).length:=by rw[qbx,qbx]
 have hto:=j.to_;have hd:decide (((a+u:Nat):Int)+(S.packed l 1).length<((a+(L.length / 2-1):Nat):Int))=decide (u+(S.packed l 1).length<L.length / 2-1):=jdg.2 (by omega);have htl:(qd1 (decide (u+(S.packed l 1).length<L.length / 2-1))).length=if u+(S.packed l 1).length<L.length / 2-1 then 1 else 0:=by
  by_cases e:u+(S.packed l 1).length<L.length / 2-1
  ·rw[jam e,jao e];rfl
  ·rw[jan e,jar e];rfl
 have hA:=qwu l (a+u) ((a+(L.length / 2-1):Nat):Int) true;rw[jb4,hd] at hA;refine⟨_,qsb _,rfl,?_,hA,?_⟩
 ·rw[jag,htl];split<;>omega
 ·rw[hA,jag,qf0];rfl
theorem qpz{l:List qaa}(hl:S.okC l=true)(h0:l.length≠0)(h60:l.length<=60):S.size l=(((S.packed l 1).length:Int),0):=by
 unfold S.size;rw[jan (by omega),jan h0,hl,jab]
theorem qvc{L:List ByteArray}{h:Int}{a u:Nat}{c l:List qaa}(j:Jn L h a u c)(hr:¬u+(S.packed l 1).length<=L.length / 2-1):S.commit ((L,[]),h,(u:Int),c) l=none:=by
 have:=j.le.1;unfold S.commit;rw[jam (by rw[qon j];omega)]
theorem qxe{L:List ByteArray}{h:Int}{a u:Nat}{c l:List qaa}(j:Jn L h a u c)(hl:S.okC l=true)(h0:l.length≠0)(h60:l.length<=60) :
  S.plan ((L,[]),h,(u:Int),c) l=if u+(S.packed l 1).length<=L.length / 2-1 then (S.laid l ((a+u:Nat):Int) ((a+(L.length / 2-1):Nat):Int) true,0) else ([],14):=by
 unfold S.plan;rw[jam j.right,qpz hl h0 h60,jam rfl];by_cases hr:u+(S.packed l 1).length<=L.length / 2-1
 ·rw[jam hr,(qg1 j hl hr).1]
 ·rw[jan hr,qvc j hr]
theorem qsw{L:List ByteArray}{h:Int}{a u:Nat}{c l:List qaa}(j:Jn L h a u c)(hl:S.okC l=true)(hr:u+(S.packed l 1).length<=L.length / 2-1) :
  S.behind ((L,[]),h,(u:Int),c) (S.laid l ((a+u:Nat):Int) ((a+(L.length / 2-1):Nat):Int) true)=(((comL L a u l,[]),h,((u+(S.packed l 1).length:Nat):Int),S.changed c l),0):=by
 obtain⟨_,h2,h3,_⟩:=qg1 j hl hr;unfold S.behind;rw[h2];exact h3.opened_
theorem zf6{L:List ByteArray}{h:Int}{a u:Nat}{c:List qaa}(j:Jn L h a u c)(hr:¬(S.packed c 1).length<=L.length / 2-1):S.turn ((L,[]),h,(u:Int),c)=none:=by
 have hh:=j.hh;obtain⟨b,e1,_⟩:=qgj j.dk.ev j.dk.ge (h:=1-h) (by omega);unfold S.turn;rw[jam];show (S.half L.length (1-h)).2-(S.half L.length (1-h)).1<((S.packed c 1).length:Int);rw[e1];show ((b+(L.length / 2-1):Nat):Int)-(b:Int)<_;omega
theorem qpa{L:List ByteArray}{h:Int}{a u:Nat}{c:List qaa}(j:Jn L h a u c)(hr:(S.packed c 1).length<=L.length / 2-1):∃b,S.turnJ ((L,[]),h,(u:Int),c)=(((turL L (1-h) b c,[]),1-h,(((S.packed c 1).length:Nat):Int),c),0) /\
  S.planTurn ((L,[]),h,(u:Int),c)=(turA L (1-h) b c,0)/\Jn (turL L (1-h) b c) (1-h) b (S.packed c 1).length c/\(turL L (1-h) b c).length=L.length/\S.half L.length (1-h)=((b:Int),((b+(L.length / 2-1):Nat):Int)):=by
 obtain⟨b,h1,h2,h3,h4,h5⟩:=qyf j hr;have hp:S.planTurn ((L,[]),h,(u:Int),c)=(turA L (1-h) b c,0):=by
  unfold S.planTurn;rw[jam j.right,h2]
 refine⟨b,?_,hp,h4,h5,h1⟩;unfold S.turnJ;rw[hp,jam rfl];unfold S.behind;rw[h3];exact h4.opened_
theorem qs6{L:List ByteArray}{h:Int}{a u:Nat}{c:List qaa}(j:Jn L h a u c)(hr:¬(S.packed c 1).length<=L.length / 2-1):S.planTurn ((L,[]),h,(u:Int),c)=([],14)/\S.turnJ ((L,[]),h,(u:Int),c)=(S.noJ,14):=by
 have hp:S.planTurn ((L,[]),h,(u:Int),c)=([],14):=by
  unfold S.planTurn;rw[jam j.right,zf6 j hr]
 refine⟨hp,?_⟩;unfold S.turnJ;rw[hp,jan (by show ¬(14:Int)=0;decide)]
theorem qp0{L:List ByteArray}{h:Int}{a u:Nat}{c l:List qaa}(j:Jn L h a u c)(hl:S.okC l=true)(h0:l.length≠0)(h60:l.length<=60) :
  (∃L' h' a' u',S.save ((L,[]),h,(u:Int),c) l=(((L',[]),h',((u':Nat):Int),S.changed c l),0)/\Jn L' h' a' u' (S.changed c l)/\L'.length=L.length /\
   (u+(S.packed l 1).length<=L.length / 2-1\/(S.packed c 1).length+(S.packed l 1).length<=L.length / 2-1)) \/
  S.save ((L,[]),h,(u:Int),c) l=(S.noJ,14)/\¬u+(S.packed l 1).length<=L.length / 2-1/\¬(S.packed c 1).length+(S.packed l 1).length<=L.length / 2-1:=by
 unfold S.save;rw[jam j.right,qpz hl h0 h60,jam rfl];by_cases hr:u+(S.packed l 1).length<=L.length / 2-1
 ·obtain⟨h1,_,h3,h4⟩:=qg1 j hl hr;rw[h1];exact .inl ⟨_,_,_,_,qsw j hl hr,h3,h4,.inl hr⟩
 ·rw[qvc j hr];by_cases ht:(S.packed c 1).length<=L.length / 2-1
  ·obtain⟨b,t1,_,t3,t4,_⟩:=qpa j ht;simp only;rw[t1,jam rfl];by_cases hr2:(S.packed c 1).length+(S.packed l 1).length<=L.length / 2-1
   ·have hr3:(S.packed c 1).length+(S.packed l 1).length<=(turL L (1-h) b c).length / 2-1:=by rw[t4];exact hr2
    obtain⟨h1,_,h3,h4⟩:=qg1 t3 hl hr3;rw[h1];exact .inl ⟨_,_,_,_,qsw t3 hl hr3,h3,h4.trans t4,.inr hr2⟩
   ·rw[qvc t3 (by rw[t4];exact hr2)];exact .inr ⟨rfl,hr,hr2⟩
  ·simp only;rw[(qs6 j ht).2,jan (by show ¬(14:Int)=0;decide)];exact .inr ⟨rfl,hr,by omega⟩
end Go.Proofs.Ytnhmanoiolfapaa
end

section
namespace Go.Jx
open Go Go.Sx Go.RowKit
universe u

def qcw{D α:Type}(g:D->α->Option (D × Bool)):List α->D->Option (D × Bool)
 | [],d=>some (d,false)
 | x::xs,d=>match g d x with
  | none=>none
  | some (d',b)=>cond b (some (d',true)) (qcw g xs d')
section
variable (P : Program) (tt : Nat -> Option TI)
end
section
variable {P : Program} {tt : Nat -> Option TI}
end
end Go.Jx
end

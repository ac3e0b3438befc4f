/- Texts: Jf, Jmk, Jg, Jh, Ji, Jj, Jk, Jl, Jm, Jnm, Jnn, Jnp. -/
import Derived.Test.YtcnhjofpmpipfaaGreatMp1
import Derived.Laws.RangeAny
import Derived.Laws.MakeOwn
import Derived.OrdersIn
set_option linter.unusedVariables false
section
namespace Go.Jx
open Go Go.Sx Go.RowKit
universe u
section
variable {P : Program} {tt : Nat -> Option TI} {T : TW} {E : Env} {S : IS}

def ilen(tt:Nat->Option TI)(S:IS)(ty:Nat):IV->Option Res
 | .sl id off len s c=>match tt ty with
  | some ti=>match ti.und with
   | .slice _=>some ⟨.int .i64 len,S,0,0⟩
   | _=>none
  | none=>none
 | .map id=>match tt ty with
  | some ti=>match ti.und with
   | .map _ _=>match S.heap.get id with
    | some (.map es)=>cond (Nat.blt es.length 9223372036854775808) (some ⟨.int .i64 es.length,S,2 ^ id,0⟩) none
    | some (.tmap _ _ es)=>cond (Nat.blt es.length 9223372036854775808) (some ⟨.int .i64 es.length,S,2 ^ id,0⟩) none
    | _=>none
   | _=>none
  | none=>none
 | .lst _ l=>match tt ty with
  | some ti=>match ti.und with
   | .slice _=>some ⟨.int .i64 l.length,S,0,0⟩
   | _=>none
  | none=>none
 | .arr id=>match tt ty with
  | some ti=>match ti.und with
   | .slice _=>match S.heap.get id with
    | some (.arr _ l)=>some ⟨.int .i64 l.length,S,2 ^ id,0⟩
    | some (.frz _ l)=>some ⟨.int .i64 l.length,S,2 ^ id,0⟩
    | _=>none
   | _=>none
  | none=>none
 | .str s=>match tt ty with
  | some ti=>match ti.und with
   | .string=>some ⟨.int .i64 s.size,S,0,0⟩
   | _=>none
  | none=>none
 | _=>none
theorem zqh{ty tr:Nat}{x:IV}{ux:Value}{r:Res}(htt:TT P tt)(p:Pre T E S)(h:ilen tt S ty x=some r)(hr:tin T.r r.rd)(hx:VR E x ux):Good P T E S (Builtin.len_ #[ty] tr #[ux]) r:=by
 have hsl:∀{ti:TI} {e:TypeId} {a:Option Addr} {n cap:Nat} {rd:Nat},tt ty=some ti->ti.und=.slice e->n<=cap->cap<9223372036854775808->ux=.slice a n cap->Good P T E S (Builtin.len_ #[ty] tr #[ux]) ⟨.int .i64 n,S,rd,0⟩:=by
  intro ti e a n cap rd hti he h1 h2 hu;subst hu;have hty:=(htt _ _ hti).und;rw[he] at hty;exact Good.same p (by simp only[Builtin.len_,jag,jad,jaa,jav,jat,jan hty,goInt]) (.int _ _ (jek _ ⟨by omega,by omega⟩))
 have hlst:∀{c:TC} {l:List (El c)} {u:Value},VR E (.lst c l) u->∃a cap,u=.slice a l.length cap/\l.length<=cap/\cap<9223372036854775808:=by
  intro c l u h;cases h with
  | lst0 h=>exact⟨_,_,rfl,jbj _,h⟩
  | lst us h1 h2 h3 hb hh hc hu=>exact⟨_,_,rfl,h1,h2⟩
 unfold ilen at h;split at h<;>try cases h
 ·cases hx with
  | sl cap hA h1 h2 h3 h4 h5 =>
  split at h<;>try cases h
  rename_i ti hti;split at h<;>cases h;rename_i e he;exact hsl hti he h1 h2 rfl
 ·rename_i id;cases hx with
  | map hA =>
  split at h<;>try cases h
  rename_i ti hti;split at h<;>try cases h
  rename_i k e he;have hty:=(htt _ _ hti).und;rw[he] at hty;split at h<;>try cases h
  ·rename_i es hes;cases hb:Nat.blt es.length 9223372036854775808 with
   | false=>rw[hb] at h;cases h
   | true =>
   rw[hb,jab] at h;cases h;have hb:es.length<9223372036854775808:=by simpa using hb
   obtain⟨ents,c,h1,h2,h3,hst⟩:=p.st.objs id (qaf hr) hA _ hes;have hl:ents.size=es.length:=by have:=h2.1;simpa using this.symm
   refine Good.same p (u:=.int .i64 ents.size) ?_ (by rw[hl];exact .int _ _ (jek _ ⟨by omega,by omega⟩));simp only[Builtin.len_,jag,jad,jaa,jav,jat,jan hty,qez h1,goInt]
  ·rename_i kc vc es hes;cases hb:Nat.blt es.length 9223372036854775808 with
   | false=>rw[hb] at h;cases h
   | true =>
   rw[hb,jab] at h;cases h;have hb:es.length<9223372036854775808:=by simpa using hb
   obtain⟨ents,c,h1,h2,h3,hst⟩:=p.st.objs id (qaf hr) hA _ hes;have hl:ents.size=es.length:=by have:=h2.1;simpa [tmEs] using this.symm
   refine Good.same p (u:=.int .i64 ents.size) ?_ (by rw[hl];exact .int _ _ (jek _ ⟨by omega,by omega⟩));simp only[Builtin.len_,jag,jad,jaa,jav,jat,jan hty,qez h1,goInt]
 ·split at h<;>try cases h
  rename_i ti hti;split at h<;>cases h;rename_i e he;obtain⟨a,cap,e1,e2,e3⟩:=hlst hx;exact hsl hti he e2 e3 e1
 ·rename_i id;split at h<;>try cases h
  rename_i ti hti;split at h<;>try cases h
  rename_i e he;cases hx with
  | arr hA hh =>
  split at h<;>cases h
  ·rename_i c l ho;obtain⟨a,cap,k1,k2,k3,k4,k5⟩:=p.st.objs _ (qaf hr) hA _ ho;rw[hh] at k1;cases k1;exact hsl hti he k2 k3 rfl
  ·rename_i c l ho;have q3:=p.st.objs _ (qaf hr) hA _ ho;unfold OR at q3;rw[hh] at q3;obtain⟨a,cap,e1,e2,e3⟩:=hlst q3;exact hsl hti he e2 e3 e1
 ·rename_i s;cases hx with
  | str _ hs =>
  split at h<;>try cases h
  rename_i ti hti;split at h<;>cases h;rename_i he;have hty:=(htt _ _ hti).und;rw[he] at hty;exact Good.same p (by simp only[Builtin.len_,jag,jad,jaa,jav,jat,jan hty,goInt]) (.int _ _ (jek _ ⟨by omega,by omega⟩))

def qkz:List IV->Option (List UInt8)
 | []=>some []
 | .int .u8 n::l=>match qkz l with
  | some r=>some (UInt8.ofNat n.toNat::r)
  | none=>none
 | _=>none
theorem q5j:∀{l:List IV} {bs:List UInt8} {us:List Value},qkz l=some bs->VRs E l us->∃ns:List Int,us=ns.map (Value.int .u8)/\ns.map (fun n=>UInt8.ofNat n.toNat)=bs
 | [],bs,us,h,hx=>by
  have:=hx.1;cases us<;>simp at this;simp[qkz] at h;subst h;exact⟨[],rfl,rfl⟩
 | x::l,bs,us,h,hx=>by
  obtain⟨u,us,rfl,h1,h2⟩:=hx.inv;unfold qkz at h;split at h
  ·rename_i he;cases he
  ·rename_i n l' he;cases he;split at h<;>cases h;rename_i r hr;cases h1;obtain⟨ns,rfl,k⟩:=q5j hr h2;exact⟨n::ns,rfl,by simp[k]⟩
  ·cases h
theorem q3e(ns:List Int):∀(s:ByteArray),ns.foldl (fun r n=>r.push (UInt8.ofNat n.toNat)) s=⟨⟨s.data.toList++ns.map (fun n=>UInt8.ofNat n.toNat)⟩⟩:=by
 induction ns with
 | nil=>intro s;simp
 | cons n ns ih =>
  intro s;rw[List.foldl_cons,ih];simp[ByteArray.push]
def qfc(l:List Int):ByteArray:=⟨⟨l.map fun n=>UInt8.ofNat n.toNat⟩⟩
def istr(tt:Nat->Option TI)(S:IS)(src dst:Nat):IV->Option Res
 | .sl id off len s c=>match tt src,tt dst with
  | some ts,some td=>match ts.und,td.und with
   | .slice e,.string=>match tt e with
    | some te=>match te.und with
     | .int .u8=>match S.heap.get id with
      | some (.row cs)=>cond (Nat.beq te.sz 1&&Nat.ble (off+len) cs.length) (match qkz ((cs.drop off).take len) with
        | some bs=>some ⟨.str ⟨⟨bs⟩⟩,S,2 ^ id,0⟩
        | none=>none) none
      | _=>none
     | _=>none
    | none=>none
   | _,_=>none
  | _,_=>none
 | .lst c l=>match tt src,tt dst with
  | some ts,some td=>match ts.und,td.und with
   | .slice e,.string=>match tt e with
    | some te=>match te.und with
     | .int .u8=>match qbt c (.int .u8) l with
      | some l=>some ⟨.str (qfc l),S,0,0⟩
      | _=>none
     | _=>none
    | none=>none
   | _,_=>none
  | _,_=>none
 | .arr id=>match tt src,tt dst with
  | some ts,some td=>match ts.und,td.und with
   | .slice e,.string=>match tt e with
    | some te=>match te.und with
     | .int .u8=>match S.heap.get id with
      | some (.arr c l)=>match qbt c (.int .u8) l with
       | some l=>some ⟨.str (qfc l),S,2 ^ id,0⟩
       | _=>none
      | some (.frz c l)=>match qbt c (.int .u8) l with
       | some l=>some ⟨.str (qfc l),S,2 ^ id,0⟩
       | _=>none
      | _=>none
     | _=>none
    | none=>none
   | _,_=>none
  | _,_=>none
 | _=>none
theorem q9t(l:List Int):(qfc l).size=l.length:=by simp[qfc,ByteArray.size]
theorem qsp{src dst e:Nat}{ts td te:TI}{l:List Int}{ux:Value}{fl:List Value}{rd:Nat}(htt:TT P tt)(p:Pre T E S)(h1:tt src=some ts)(h2:tt dst=some td)(h3:tt e=some te)(k1:ts.und=.slice e)(k2:td.und=.string)(k3:te.und=.int .u8)
  (hs:TSrc P E (.int .u8) l ux fl) (hu:∃a cap,ux=.slice a l.length cap/\l.length<=cap/\cap<9223372036854775808):Good P T E S (convert src dst ux) ⟨.str (qfc l),S,rd,0⟩:=by
 obtain⟨a,cap,rfl,hc1,hc2⟩:=hu;have u1:=(htt _ _ h1).und;rw[k1] at u1;have u2:=(htt _ _ h2).und;rw[k2] at u2;have u3:=(htt _ _ h3).und;rw[k3] at u3;have hf:=hs.first E.w rfl
 have hfl:fl=l.map (Value.int .u8):=by
  obtain⟨us,r1,r2⟩:=hs.rel;apply jcx;intro i;by_cases hi:i<l.length
  ·have e1:=r1 i hi 0 (by simp[csz]);simp only[csz,jfd,jby] at e1;have e2:=r2 i hi 0 (by simp[cel]);have e3:VR E (.int .u8 (l[i]'hi)) (us i 0):=e2;cases e3h:us i 0<;>rw[e3h] at e3<;>cases e3;rw[e1,e3h,jbw,jac hi];rfl
  ·rw[jbp (by rw[hs.size];simp [csz];exact jdj hi),jbp (by simp;exact jdj hi)]
 refine Good.same p (u:=.string (qfc l)) ?_ (.str _ (by rw[q9t];omega));cases a with
 | some a =>
  simp only[Builtin.firstCells,csz,jfd,hfl] at hf;rw[jd8 _ _ _ _ _ _ _ u1 u3 u2,run_bytesToString E.w a l.length cap l hf,q3e];rfl
 | none =>
  have hl0:l=[]:=by
   simp only[Builtin.firstCells,jad,hfl] at hf;cases l with
   | nil=>rfl
   | cons x l=>exact absurd hf (by simp)
  subst hl0;rw[jd8 _ _ _ _ _ _ _ u1 u3 u2];rfl
theorem qtt{src dst:Nat}{x:IV}{ux:Value}{r:Res}(htt:TT P tt)(p:Pre T E S)(h:istr tt S src dst x=some r)(hr:tin T.r r.rd)(hx:VR E x ux):Good P T E S (convert src dst ux) r:=by
 have hlst:∀{c:TC} {l:List (El c)} {u:Value},VR E (.lst c l) u->∃a cap,u=.slice a l.length cap/\l.length<=cap/\cap<9223372036854775808:=by
  intro c l u h;cases h with
  | lst0 h=>exact⟨_,_,rfl,jbj _,h⟩
  | lst us h1 h2 h3 hb hh hc hu=>exact⟨_,_,rfl,h1,h2⟩
 unfold istr at h;split at h<;>try cases h
 rotate_left
 ·split at h<;>try cases h
  rename_i ts td hts htd;split at h<;>try cases h
  rename_i e he hd;split at h<;>try cases h
  rename_i te hte;split at h<;>try cases h
  rename_i hu;split at h<;>cases h;rename_i l hl;obtain⟨rfl,rfl⟩:=qcj hl;obtain⟨fl,hs⟩:=qge (P:=P) hx;exact qsp htt p hts htd hte he hd hu hs (hlst hx)
 ·rename_i id;split at h<;>try cases h
  rename_i ts td hts htd;split at h<;>try cases h
  rename_i e he hd;split at h<;>try cases h
  rename_i te hte;split at h<;>try cases h
  rename_i hu;split at h<;>try cases h
  ·rename_i c l ho;split at h<;>cases h;rename_i l hl;obtain⟨rfl,rfl⟩:=qcj hl;obtain⟨fl,hs⟩:=qhe (P:=P) p (qaf hr) hx (.inl ho);refine qsp htt p hts htd hte he hd hu hs ?_;cases hx with
   | arr hA hh =>
   obtain⟨a,cap,k1,k2,k3,k4,k5⟩:=p.st.objs _ (qaf hr) hA _ ho;rw[hh] at k1;cases k1;exact⟨_,_,rfl,k2,k3⟩
  ·rename_i c l ho;split at h<;>cases h;rename_i l hl;obtain⟨rfl,rfl⟩:=qcj hl;obtain⟨fl,hs⟩:=qhe (P:=P) p (qaf hr) hx (.inr ho);refine qsp htt p hts htd hte he hd hu hs ?_;cases hx with
   | arr hA hh =>
   have q3:=p.st.objs _ (qaf hr) hA _ ho;unfold OR at q3;rw[hh] at q3;exact hlst q3
 rename_i id off len s c;cases hx with
 | sl cap hA h1 h2 h3 h4 h5 =>
 split at h<;>try cases h
 rename_i ts td hts htd;split at h<;>try cases h
 rename_i e he hd;split at h<;>try cases h
 rename_i te hte;split at h<;>try cases h
 rename_i hu;split at h<;>try cases h
 rename_i cs hcs;cases hb:(Nat.beq te.sz 1&&Nat.ble (off+len) cs.length) with
 | false=>rw[hb] at h;cases h
 | true =>
 rw[hb,jab] at h;split at h<;>cases h;rename_i bs hbs;simp only[jaf] at hb;have b2:=jao hb.2;obtain⟨cells,t,g1,g2,g3,g4⟩:=qdu p (qaf hr) hA hcs;have e1:List.take len (List.drop off (List.take cs.length cells.toList))=List.take len (List.drop off cells.toList):=by
  apply jcx;intro i;rw[jas,jas];by_cases hi:i<len
  ·rw[jam hi,jam hi,jbt,jbt,jas,jam (by omega)]
  ·rw[jak hi,jak hi]
 have e2:=(g4.drop off).take len;rw[e1] at e2;obtain⟨ns,n1,n2⟩:=q5j hbs e2;have u1:=(htt _ _ hts).und;rw[he] at u1;have u2:=(htt _ _ htd).und;rw[hd] at u2;have u3:=(htt _ _ hte).und;rw[hu] at u3;have h6:(List.take len (List.drop off cs)).length=len:=by simp;omega
 have hbl:bs.length=len:=by rw[<- n2,jbd];have:=e2.1;rw[n1,jbd] at this;omega
 refine Good.same p (u:=.string ⟨⟨bs⟩⟩) ?_ (.str _ (by simp[ByteArray.size];omega));rw[jd8 _ _ _ _ _ _ _ u1 u3 u2,run_bytesToString E.w ⟨E.ρ id,off,none⟩ len cap ns]
 ·rw[q3e,n2];rfl
 ·have:=qkc (P:=P) (o:=off) (n:=len) g1 (by omega);rw[this,n1]

def qeh:IV->IV->Option Bool
 | .int k a,.int k' b=>cond (decide (k=k')) (some (decide (a=b))) none
 | .str a,.str b=>some (decide (a=b))
 | .bool a,.bool b=>some (decide (a=b))
 | _,_=>none
def qfw(k:IV):List (IV × IV)->Option (Option IV)
 | []=>some none
 | e::es=>match qeh k e.1 with
  | some true=>some (some e.2)
  | some false=>qfw k es
  | none=>none
def qb7:TypeDesc->IV->Bool
 | .int _,.int _ _=>true
 | .string,.str _=>true
 | .bool,.bool _=>true
 | _,_=>false
theorem q1e(a b:ByteArray):(a==b)=decide (a=b):=by
 cases a with|mk x =>
 cases b with|mk y =>
 show (x==y)=_;rw[jbs];simp
theorem qgf{D:TypeDesc}{k k':IV}{u u':Value}{b:Bool}(hd:qb7 D k=true)(h:qeh k k'=some b)(hk:VR E k u)(hk':VR E k' u'):Instr.sameNow D u u'=some b:=by
 unfold qeh at h;split at h<;>try cases h
 ·rename_i k1 a k2 b;cases hk;cases hk';cases D<;>try cases hd
  cases hkk:decide (k1=k2) with
  | false=>rw[hkk] at h;cases h
  | true =>
   rw[hkk,jab] at h;cases h;have:=jau hkk;subst this;simp[Instr.sameNow];rfl
 ·cases hk;cases hk';cases D<;>try cases hd
  simp only[Instr.sameNow,q1e]
 ·cases hk;cases hk';cases D<;>try cases hd
  simp only[Instr.sameNow];rename_i a b;cases a<;>cases b<;>rfl
theorem qpz{D:TypeDesc}{k:IV}{u:Value}(hd:qb7 D k=true)(hk:VR E k u):∀{es:List (IV × IV)} {ents:List MapEntry} {r:Option IV} (i:Nat),qfw k es=some r->VRs E (es.map (·.1)) (ents.map (·.key))->VRs E (es.map (·.2)) (ents.map (·.val)) ->
  ∃q:Option (Nat × Value),Instr.findNow D u ents i=some q/\(match r,q with|none,none=>True|some v,some (_,uv)=>VR E v uv|_,_=>False)
 | [],ents,r,i,h,h1,h2=>by
  simp only[qfw,ja7] at h;subst h;have:=h1.1;cases ents<;>simp at this;exact⟨none,rfl,trivial⟩
 | e::es,ents,r,i,h,h1,h2=>by
  cases ents with
  | nil=>have:=h1.1;simp at this
  | cons x ents =>
  obtain⟨_,_,q1,k1,k2⟩:=h1.inv;obtain⟨_,_,q2,v1,v2⟩:=h2.inv;simp only[jcc,jc4] at q1 q2;obtain⟨rfl,rfl⟩:=q1;obtain⟨rfl,rfl⟩:=q2;unfold qfw at h;unfold Instr.findNow;split at h
  ·rename_i hs;cases h;rw[qgf hd hs hk k1];exact⟨some (i,x.val),rfl,v1⟩
  ·rename_i hs;rw[qgf hd hs hk k1];exact qpz hd hk (i+1) h k2 v2
  ·cases h
theorem qeq{w:World}{e:Bool}{K:TypeId}{D:TypeDesc}{k:IV}{u:Value}(hK:P.underlying K=some D)(hd:qb7 D k=true)(hk:VR E k u):(Instr.checkKey e 10000 K u).run P w=.ok () w:=by
 have h:∀m,(Instr.checkKey e (m+1) K u).run P w=.ok () w:=fun m=>by
  cases D<;>(try cases hd)<;>cases k<;>(try cases hd)<;>cases hk<;>simp only[Instr.checkKey,jag,jan hK,jaa,jad]
 exact h 9999
def qdc:TC->Bool
 | .int _=>true
 | .str=>true
 | .bool=>true
 | _=>false
def keqI(a b:Int):Bool:=decide (a=b)
def keqS(a b:ByteArray):Bool:=decide (a=b)
def keqB(a b:Bool):Bool:=decide (a=b)
def keq:(c:TC)->El c->El c->Bool
 | .int _,a,b=>keqI a b
 | .str,a,b=>keqS a b
 | .bool,a,b=>keqB a b
 | _,_,_=>false
def qfj(kc:TC){vc:TC}(k:El kc):List (El kc × El vc)->Option (El vc)
 | []=>none
 | e::es=>cond (keq kc k e.1) (some e.2) (qfj kc k es)
def mset(kc:TC){vc:TC}(k:El kc)(v:El vc):List (El kc × El vc)->List (El kc × El vc)
 | []=>[(k,v)]
 | e::es=>cond (keq kc k e.1) ((k,v)::es) (e::mset kc k v es)
def zEl:(c:TC)->El c
 | .int _=>(0:Int)
 | .bool=>false
 | .str=>ByteArray.empty
 | .list _=>[]
 | .two a b=>(zEl a,zEl b)
def zOK:TC->Value->Bool
 | .int k,.int k' n=>kbeq k k'&&decide (n=0)
 | .bool,.bool b=>!b
 | .str,.string s=>Nat.beq s.size 0
 | .list _,.slice none 0 0=>true
 | _,_=>false
theorem qrt{kc:TC}(h:qdc kc=true)(a b:El kc):qeh (asIV kc a) (asIV kc b)=some (keq kc a b):=by
 cases kc<;>first|(cases h;done)|rfl|skip
 simp only[asIV,qeh,decide_true,jab];rfl
theorem q66{kc vc:TC}(h:qdc kc=true)(k:El kc):∀es:List (El kc × El vc),qfw (asIV kc k) (tmEs kc vc es)=some ((qfj kc k es).map (asIV vc))
 | []=>rfl
 | e::es=>by
  have:=q66 h k es;simp only[tmEs,jcc,qfw,qrt h,qfj] at this ⊢;cases keq kc k e.1 with
  | true=>rfl
  | false=>exact this
theorem q2j{E:Env}{c:TC}{z:Value}(h:zOK c z=true):VR E (asIV c (zEl c)) z:=by
 unfold zOK at h;split at h<;>try cases h
 ·rename_i k k' n;simp only[jaf] at h;rw[<- qfg h.1,jau h.2];exact .int k 0 (by cases k<;>rfl)
 ·rename_i b;have:b=false:=by cases b<;>simp_all
  subst this;exact .bool false
 ·rename_i s;have h1:=jah h;have:s=ByteArray.empty:=by
   obtain⟨⟨l⟩⟩:=s;simp[ByteArray.size] at h1;subst h1;rfl
  subst this;exact .str _ (by decide)
 ·exact .lst0 (by omega)
theorem qg6{E:Env}{c:TC}{S S':IS}{k:IV}{u:Value}{x:El c}(h:icl c S [k]=some (x,[],S',0))(hk:VR E k u)(hc:∀a b,c≠.two a b):VR E (asIV c x) u:=by
 obtain⟨_,h2⟩:=qjt c h;obtain⟨us1,us2,e,v1,v2⟩:=h2 E [u] (VRs.cons hk VRs.nil);have:us2=[]:=by have:=v2.1;simpa using this.symm
 subst this;simp only[jdn] at e;subst e;have h3:=v1.2 0;cases c with
 | two a b=>exact absurd rfl (hc a b)
 | int k=>exact h3 (by simp[cel]) (by simp)
 | bool=>exact h3 (by simp[cel]) (by simp)
 | str=>exact h3 (by simp[cel]) (by simp)
 | list c=>exact h3 (by simp[cel]) (by simp)
theorem que{D:TypeDesc}{kc:TC}{k:IV}{S S2:IS}{kx:El kc}(hb:qdc kc=true)(hkx:icl kc S [k]=some (kx,[],S2,0))(hd:qb7 D k=true):qb7 D (asIV kc kx)=true:=by
 cases kc<;>first|(cases hb;done)|skip
 all_goals
  cases k<;>first|(cases hkx;done)|skip
  cases D<;>first|(cases hd;done)|rfl
def qil(tt:Nat->Option TI)(S:IS)(ty:Nat)(x k:IV)(ok:Bool):Option Res :=
 match tt ty with
 | some ti=>match ti.und with
  | .map K V=>match tt K,tt V with
   | some tk,some tv=>cond (qb7 tk.und k) (match x with
    | .map id=>match S.heap.get id with
     | some (.map es)=>match qfw k es with
      | some (some v)=>some ⟨cond ok (.tup [v,.bool true]) v,S,2 ^ id,0⟩
      | some none=>match ofV tv.zero with
       | some z=>some ⟨cond ok (.tup [z,.bool false]) z,S,2 ^ id,0⟩
       | none=>none
      | none=>none
     | some (.tmap kc vc es)=>match icl kc S [k] with
      | some (kx,[],_,0)=>cond (qdc kc&&zOK vc tv.zero) (some ⟨cond ok (.tup [asIV vc ((qfj kc kx es).getD (zEl vc)),.bool (qfj kc kx es).isSome]) (asIV vc ((qfj kc kx es).getD (zEl vc))),S,2 ^ id,0⟩) none
      | _=>none
     | _=>none
    | _=>none) none
   | _,_=>none
  | _=>none
 | none=>none
theorem zki{ty:Nat}{x k:IV}{ux uk:Value}{ok:Bool}{r:Res}(htt:TT P tt)(p:Pre T E S)(h:qil tt S ty x k ok=some r)(hr:tin T.r r.rd)(hx:VR E x ux)(hk:VR E k uk):Good P T E S (Instr.lookup ty ux uk ok) r:=by
 unfold qil at h;split at h<;>try cases h
 rename_i ti hti;split at h<;>try cases h
 rename_i K V hKV;have hty:=(htt _ _ hti).und;rw[hKV] at hty;split at h<;>try cases h
 rename_i tk tv htk htv;cases hd:qb7 tk.und k with
 | false=>rw[hd] at h;cases h
 | true =>
 rw[hd,jab] at h;split at h<;>try cases h
 rename_i id;cases hx with
 | map hA =>
 split at h<;>try cases h
 rotate_left
 ·rename_i kc vc es hes;split at h<;>try cases h
  rename_i kx S2 hkx;cases hb:(qdc kc&&zOK vc tv.zero) with
  | false=>rw[hb] at h;cases h
  | true =>
  rw[hb,jab] at h;cases h;simp only[jaf] at hb;have hka:=qg6 hkx hk (fun a b e=>by subst e;cases hb.1);have hda:=que hb.1 hkx hd;obtain⟨ents,c,h1,h2,h3,hst⟩:=p.st.objs id (qaf hr) hA _ hes;obtain⟨q,q1,q2⟩:=qpz hda hka 0 (q66 hb.1 kx es) h2 h3;have hp:∀{v:IV} {u:Value} (b:Bool),VR E v u->VR E (cond ok (.tup [v,.bool b]) v) (if ok then .tuple #[u,.bool b] else u):=fun b hv=>by
   cases ok
   ·exact hv
   ·have:=VRs.cons hv (VRs.cons (.bool b) VRs.nil);exact .tup this.1 this.2
  cases hf:qfj kc kx es with
  | some v =>
   rw[hf] at q2;cases q with
   | none=>exact q2.elim
   | some q =>
   refine Good.same p (u:=if ok then .tuple #[q.2,.bool true] else q.2) ?_ (hp true q2);have hfk:(Instr.findKey K uk ents.toList).run P E.w=.ok (some q) E.w:=by simp only[Instr.findKey,jag,jan (htt _ _ htk).und,jaa,q1,jad]
   simp only[Instr.lookup,jag,jan hty,jaa,qez h1,jad,qeq (htt _ _ htk).und hda hka,hfk]
  | none =>
   rw[hf] at q2;cases q with
   | some q=>exact q2.elim
   | none =>
   refine Good.same p (u:=if ok then .tuple #[tv.zero,.bool false] else tv.zero) ?_ (hp false (q2j hb.2));have hfk:(Instr.findKey K uk ents.toList).run P E.w=.ok none E.w:=by simp only[Instr.findKey,jag,jan (htt _ _ htk).und,jaa,q1,jad]
   simp only[Instr.lookup,jag,jan hty,jaa,qez h1,jad,qeq (htt _ _ htk).und hda hka,hfk,Sx.run_zeroValue (htt _ _ htv)]
 rename_i es hes;have hp:∀{v:IV} {u:Value} (b:Bool),VR E v u->VR E (cond ok (.tup [v,.bool b]) v) (if ok then .tuple #[u,.bool b] else u):=fun b hv=>by
  cases ok
  ·exact hv
  ·have:=VRs.cons hv (VRs.cons (.bool b) VRs.nil);exact .tup this.1 this.2
 split at h
 ·rename_i v hf;cases h;obtain⟨ents,c,h1,h2,h3,hst⟩:=p.st.objs id (qaf hr) hA _ hes;obtain⟨q,q1,q2⟩:=qpz hd hk 0 hf h2 h3;cases q with
  | none=>exact q2.elim
  | some q =>
  refine Good.same p (u:=if ok then .tuple #[q.2,.bool true] else q.2) ?_ (hp true q2);have hfk:(Instr.findKey K uk ents.toList).run P E.w=.ok (some q) E.w:=by simp only[Instr.findKey,jag,jan (htt _ _ htk).und,jaa,q1,jad]
  simp only[Instr.lookup,jag,jan hty,jaa,qez h1,jad,qeq (htt _ _ htk).und hd hk,hfk]
 ·rename_i hf;split at h<;>cases h;rename_i z hz;obtain⟨ents,c,h1,h2,h3,hst⟩:=p.st.objs id (qaf hr) hA _ hes;obtain⟨q,q1,q2⟩:=qpz hd hk 0 hf h2 h3;cases q with
  | some q=>exact q2.elim
  | none =>
  refine Good.same p (u:=if ok then .tuple #[tv.zero,.bool false] else tv.zero) ?_ (hp false (qkf E hz));have hfk:(Instr.findKey K uk ents.toList).run P E.w=.ok none E.w:=by simp only[Instr.findKey,jag,jan (htt _ _ htk).und,jaa,q1,jad]
  simp only[Instr.lookup,jag,jan hty,jaa,qez h1,jad,qeq (htt _ _ htk).und hd hk,hfk,Sx.run_zeroValue (htt _ _ htv)]
 ·cases h
def q1h(S:IS):Option Res:=some ⟨.map S.next,S.new (.map []),0,0⟩
theorem zg8{ty:Nat}{r:Res}(p:Pre T E S)(h:q1h S=some r):Good P T E S (Instr.makeMap ty none) r:=by
 cases h;have u:Upd [] E.w (E.w.alloc (.map #[] 0)):=Upd.alloc _ _;obtain⟨a,b⟩:=Post.new p (k:=0) (hd:=.tuple #[]) (o:=.map []) u (by simp) ⟨#[],0,by simp only[Env.with_,qah];exact jct E.w _,VRs.nil,VRs.nil,qb9.nil⟩;refine⟨.map (some ((E.with_ S.next 0 (.tuple #[]) (E.w.alloc (.map #[] 0))).ρ S.next)),_,?_,.map (Or.inr rfl),a,b⟩;rw[show (E.with_ S.next 0 (.tuple #[]) (E.w.alloc (.map #[] 0))).ρ S.next=E.w.heap.size from qah _ _ _];simp only[run_makeMap_plain];rfl
def qe3(k v:IV):List (IV × IV)->Option (List (IV × IV))
 | []=>some [(k,v)]
 | e::es=>match qeh k e.1 with
  | some true=>some ((k,v)::es)
  | some false=>match qe3 k v es with
   | some es'=>some (e::es')
   | none=>none
  | none=>none
def qdf:TC->Bool
 | .two _ _=>false
 | _=>true
theorem q74{kc vc:TC}(h:qdc kc=true)(k:El kc)(v:El vc):∀es:List (El kc × El vc),qe3 (asIV kc k) (asIV vc v) (tmEs kc vc es)=some (tmEs kc vc (mset kc k v es))
 | []=>rfl
 | e::es=>by
  have:=q74 h k v es;simp only[tmEs,jcc,qe3,qrt h,mset] at this ⊢;cases keq kc k e.1 with
  | true=>rfl
  | false=>rw[this];rfl
def qg0(tt:Nat->Option TI)(S:IS)(ty:Nat)(x k v:IV):Option Res :=
 match tt ty with
 | some ti=>match ti.und with
  | .map K V=>match tt K with
   | some tk=>cond (qb7 tk.und k) (match x with
    | .map id=>match S.heap.get id with
     | some (.map es)=>match qe3 k v es with
      | some es'=>some ⟨.tup [],S.set id (.map es'),0,2 ^ id⟩
      | none=>none
     | some (.tmap kc vc es)=>match icl kc S [k],icl vc S [v] with
      | some (kx,[],_,0),some (vx,[],_,0)=>cond (qdc kc&&qdf vc) (some ⟨.tup [],S.set id (.tmap kc vc (mset kc kx vx es)),0,2 ^ id⟩) none
      | _,_=>none
     | _=>none
    | _=>none) none
   | none=>none
  | _=>none
 | none=>none
theorem zk2{D:TypeDesc}{k k':IV}{u u':Value}(hd:qb7 D k=true)(h:qeh k k'=some true)(hk:VR E k u)(hk':VR E k' u'):Instr.sameBits 10000 u' u=true/\u'=u:=by
 unfold qeh at h;split at h<;>try cases h
 ·rename_i k1 a k2 b;cases hk;cases hk';cases hkk:decide (k1=k2) with
  | false=>rw[hkk] at h;cases h
  | true =>
   rw[hkk,jab] at h;have h1:=jau hkk;have h2:=jau (jbg h);subst h1;subst h2;exact⟨by simp[Instr.sameBits],rfl⟩
 ·cases hk;cases hk';have h2:=jau (jbg h);subst h2;exact⟨by simp[Instr.sameBits,q1e],rfl⟩
 ·cases hk;cases hk';have h2:=jau (jbg h);subst h2;exact⟨by simp[Instr.sameBits],rfl⟩
theorem q37{D:TypeDesc}{k v:IV}{uk uv:Value}(hd:qb7 D k=true)(hk:VR E k uk)(hv:VR E v uv):∀{es es':List (IV × IV)} {ents:List MapEntry} (i:Nat),qe3 k v es=some es'->VRs E (es.map (·.1)) (ents.map (·.key))->VRs E (es.map (·.2)) (ents.map (·.val)) ->
  ∃q:Option (Nat × Value),Instr.findNow D uk ents i=some q/\(match q with
   | none=>∀b,VRs E (es'.map (·.1)) ((ents++([⟨uk,uv,b⟩]:List MapEntry)).map (·.key))/\VRs E (es'.map (·.2)) ((ents++([⟨uk,uv,b⟩]:List MapEntry)).map (·.val))
   | some (j,_)=>∃n,j=i+n/\(∃x,ents[n]?=some x/\Instr.sameBits 10000 x.key uk=true)/\VRs E (es'.map (·.1)) ((ents.modify n fun(e:MapEntry)=>{ e with key:=uk,val:=uv }).map (·.key))/\VRs E (es'.map (·.2)) ((ents.modify n fun(e:MapEntry)=>{ e with key:=uk,val:=uv }).map (·.val)))
 | [],es',ents,i,h,h1,h2=>by
  simp only[qe3,ja7] at h;subst h;have:=h1.1;cases ents<;>simp at this;exact⟨none,rfl,fun b=>⟨VRs.cons hk VRs.nil,VRs.cons hv VRs.nil⟩⟩
 | e::es,es',ents,i,h,h1,h2=>by
  cases ents with
  | nil=>have:=h1.1;simp at this
  | cons x ents =>
  obtain⟨_,_,q1,k1,k2⟩:=h1.inv;obtain⟨_,_,q2,v1,v2⟩:=h2.inv;simp only[jcc,jc4] at q1 q2;obtain⟨rfl,rfl⟩:=q1;obtain⟨rfl,rfl⟩:=q2;unfold qe3 at h;unfold Instr.findNow;split at h
  ·rename_i hs;cases h;rw[qgf hd hs hk k1];refine⟨some (i,x.val),rfl,0,rfl,⟨x,rfl,(zk2 hd hs hk k1).1⟩,?_,?_⟩
   ·simpa using VRs.cons hk k2
   ·simpa using VRs.cons hv v2
  ·rename_i hs;rw[qgf hd hs hk k1];split at h<;>cases h;rename_i es'' hes;obtain⟨q,g1,g2⟩:=q37 hd hk hv (i+1) hes k2 v2;refine⟨q,g1,?_⟩;cases q with
   | none=>exact fun b=>⟨VRs.cons k1 (g2 b).1,VRs.cons v1 (g2 b).2⟩
   | some q =>
    obtain⟨n,g3,⟨y,g4,g5⟩,g6,g7⟩:=g2;exact⟨n+1,by omega,⟨y,by simpa using g4,g5⟩,by simpa using VRs.cons k1 g6,by simpa using VRs.cons v1 g7⟩
  ·cases h
theorem q0f{ty K V:TypeId}{tk:TI}{id:Nat}{k v:IV}{uk uv:Value}{es es':List (IV × IV)}{ents:Array MapEntry}{c:Nat}{o o':IObj}(hty:P.underlying ty=some (.map K V))(htk:P.underlying K=some tk.und)(p:Pre T E S)(hr:T.w id)(hA:E.A id)(hes:S.heap.get id=some o)(hlo:o.blk=true)(hd:qb7 tk.und k=true)(hk:VR E k uk)(hv:VR E v uv)
  (h1:E.w.heap[E.ρ id]?=some (.map ents c)) (h2:VRs E (es.map (·.1)) (ents.toList.map (·.key))) (h3:VRs E (es.map (·.2)) (ents.toList.map (·.val))) (hst:qb9 ents c) (hes':qe3 k v es=some es') (ho:∀E',OR E' id (.map es')->OR E' id o') :
  qfm P T E S (Instr.mapUpdate ty (.map (some (E.ρ id))) uk uv) ⟨.tup [],S.set id o',0,2 ^ id⟩:=by
 obtain⟨q,q1,q2⟩:=q37 hd hk hv 0 hes' h2 h3;have hL:Live E S.H id:=⟨p.st.blk id (T.sub _ hr) hA _ hes hlo,_,hes,by cases o<;>first|rfl|cases hlo⟩;have hlt:=qbd h1;have fin:∀(o:Obj),(Instr.mapUpdate ty (.map (some (E.ρ id))) uk uv).run P E.w=.ok () (E.w.putObj (E.ρ id) o)->OR (E.at_ (E.w.putObj (E.ρ id) o)) id (.map es')->qfm P T E S (Instr.mapUpdate ty (.map (some (E.ρ id))) uk uv) ⟨.tup [],S.set id o',0,2 ^ id⟩:=fun o hrun ho2=>by
  obtain⟨a,b⟩:=Post.write p hr hA hL (Upd.putObj _ _ _) (ho _ ho2);exact⟨_,hrun,rfl,a,b⟩
 cases q with
 | none =>
  have hfk:(Instr.findKey K uk ents.toList).run P E.w=.ok none E.w:=by simp only[Instr.findKey,jag,jan htk,jaa,q1,jad]
  refine fin (.map (ents.push { key:=uk,val:=uv,born:=c }) (c+1)) ?_ ⟨_,_,jb2 hlt,?_,?_,hst.push _ _⟩
  ·simp only[Instr.mapUpdate,jag,jan hty,jaa,qez h1,qeq htk hd hk,hfk];simp[setObj,Sem.run,h1,World.putObj]
  ·have:=(q2 c).1.mono (Env.at_le p.st hr hA hL (Upd.putObj E.w (E.ρ id) (.map (ents.push { key:=uk,val:=uv,born:=c }) (c+1))));simpa using this
  ·have:=(q2 c).2.mono (Env.at_le p.st hr hA hL (Upd.putObj E.w (E.ρ id) (.map (ents.push { key:=uk,val:=uv,born:=c }) (c+1))));simpa using this
 | some q =>
  obtain⟨n,e0,⟨x0,e1,e2⟩,e3,e4⟩:=q2;obtain⟨j,vj⟩:=q;simp only[ja9] at e0;subst e0;have hfk:(Instr.findKey K uk ents.toList).run P E.w=.ok (some (j,vj)) E.w:=by simp only[Instr.findKey,jag,jan htk,jaa,q1,jad]
  have e1':ents[j]?=some x0:=by simpa using e1
  refine fin (.map (ents.modify j fun e=>{ e with key:=uk,val:=uv }) c) ?_ ⟨_,_,jb2 hlt,?_,?_,hst.modify _ fun _=>rfl⟩
  ·simp only[Instr.mapUpdate,jag,jan hty,jaa,qez h1,jad,qeq htk hd hk,hfk,e1',jdl,Option.getD_some,Instr.keyThatStays,e2,jb4];simp[setObj,Sem.run,h1,World.putObj]
  ·have:=e3.mono (Env.at_le p.st hr hA hL (Upd.putObj E.w (E.ρ id) (.map (ents.modify j fun e=>{ e with key:=uk,val:=uv }) c)));simpa [jez] using this
  ·have:=e4.mono (Env.at_le p.st hr hA hL (Upd.putObj E.w (E.ρ id) (.map (ents.modify j fun e=>{ e with key:=uk,val:=uv }) c)));simpa [jez] using this
theorem q4o{ty:Nat}{x k v:IV}{ux uk uv:Value}{r:Res}(htt:TT P tt)(p:Pre T E S)(h:qg0 tt S ty x k v=some r)(hr:tin T.w r.wr)(hx:VR E x ux)(hk:VR E k uk)(hv:VR E v uv):qfm P T E S (Instr.mapUpdate ty ux uk uv) r:=by
 unfold qg0 at h;split at h<;>try cases h
 rename_i ti hti;split at h<;>try cases h
 rename_i K V hKV;have hty:=(htt _ _ hti).und;rw[hKV] at hty;split at h<;>try cases h
 rename_i tk htk;cases hd:qb7 tk.und k with
 | false=>rw[hd] at h;cases h
 | true =>
 rw[hd,jab] at h;split at h<;>try cases h
 rename_i id;cases hx with
 | map hA =>
 split at h<;>try cases h
 ·rename_i es hes;split at h<;>cases h;rename_i es' hes';obtain⟨ents,c,h1,h2,h3,hst⟩:=p.st.objs id (T.sub _ (qaf hr)) hA _ hes;exact q0f hty (htt _ _ htk).und p (qaf hr) hA hes rfl hd hk hv h1 h2 h3 hst hes' fun _ h=>h
 ·rename_i kc vc es hes;split at h<;>try cases h
  rename_i kx S2 vx S3 hkx hvx;cases hb:(qdc kc&&qdf vc) with
  | false=>rw[hb] at h;cases h
  | true =>
  rw[hb,jab] at h;cases h;simp only[jaf] at hb;have hka:=qg6 hkx hk (fun a b e=>by subst e;cases hb.1);have hva:=qg6 hvx hv (fun a b e=>by subst e;cases hb.2);have hda:=que hb.1 hkx hd;obtain⟨ents,c,h1,h2,h3,hst⟩:=p.st.objs id (T.sub _ (qaf hr)) hA _ hes;exact q0f hty (htt _ _ htk).und p (qaf hr) hA hes rfl hda hka hva h1 h2 h3 hst (q74 hb.1 kx vx es) fun _ h=>h

def qgw(k:IV):List (IV × IV)->Option (List (IV × IV))
 | []=>some []
 | e::es=>match qeh k e.1 with
  | some true=>some es
  | some false=>match qgw k es with
   | some es'=>some (e::es')
   | none=>none
  | none=>none
def mdel(kc:TC){vc:TC}(k:El kc):List (El kc × El vc)->List (El kc × El vc)
 | []=>[]
 | e::es=>cond (keq kc k e.1) es (e::mdel kc k es)
theorem q40{kc vc:TC}(h:qdc kc=true)(k:El kc):∀es:List (El kc × El vc),qgw (asIV kc k) (tmEs kc vc es)=some (tmEs kc vc (mdel kc k es))
 | []=>rfl
 | e::es=>by
  have:=q40 h k es;simp only[tmEs,jcc,qgw,qrt h,mdel] at this ⊢;cases keq kc k e.1 with
  | true=>rfl
  | false=>rw[this];rfl
theorem qzz{D:TypeDesc}{k:IV}{uk:Value}(hd:qb7 D k=true)(hk:VR E k uk):∀{es es':List (IV × IV)} {ents:List MapEntry} (i:Nat),qgw k es=some es'->VRs E (es.map (·.1)) (ents.map (·.key))->VRs E (es.map (·.2)) (ents.map (·.val)) ->
  ∃q:Option (Nat × Value),Instr.findNow D uk ents i=some q/\(match q with
   | none=>VRs E (es'.map (·.1)) (ents.map (·.key))/\VRs E (es'.map (·.2)) (ents.map (·.val))
   | some (j,_)=>∃n,j=i+n/\n<ents.length/\VRs E (es'.map (·.1)) ((ents.eraseIdx n).map (·.key))/\VRs E (es'.map (·.2)) ((ents.eraseIdx n).map (·.val)))
 | [],es',ents,i,h,h1,h2=>by
  simp only[qgw,ja7] at h;subst h;have:=h1.1;cases ents<;>simp at this;exact⟨none,rfl,VRs.nil,VRs.nil⟩
 | e::es,es',ents,i,h,h1,h2=>by
  cases ents with
  | nil=>have:=h1.1;simp at this
  | cons x ents =>
  obtain⟨_,_,q1,k1,k2⟩:=h1.inv;obtain⟨_,_,q2,v1,v2⟩:=h2.inv;simp only[jcc,jc4] at q1 q2;obtain⟨rfl,rfl⟩:=q1;obtain⟨rfl,rfl⟩:=q2;unfold qgw at h;unfold Instr.findNow;split at h
  ·rename_i hs;cases h;rw[qgf hd hs hk k1];exact⟨some (i,x.val),rfl,0,rfl,Nat.succ_pos _,k2,v2⟩
  ·rename_i hs;rw[qgf hd hs hk k1];split at h<;>cases h;rename_i es'' hes;obtain⟨q,g1,g2⟩:=qzz hd hk (i+1) hes k2 v2;refine⟨q,g1,?_⟩;cases q with
   | none=>exact⟨VRs.cons k1 g2.1,VRs.cons v1 g2.2⟩
   | some q =>
    obtain⟨n,g3,g4,g6,g7⟩:=g2;exact⟨n+1,by omega,by simpa using g4,by simpa using VRs.cons k1 g6,by simpa using VRs.cons v1 g7⟩
  ·cases h
def qjp(tt:Nat->Option TI)(S:IS)(ty:Nat)(x k:IV):Option Res :=
 match tt ty with
 | some ti=>match ti.und with
  | .map K V=>match tt K with
   | some tk=>cond (qb7 tk.und k) (match x with
    | .map id=>match S.heap.get id with
     | some (.tmap kc vc es)=>match icl kc S [k] with
      | some (kx,[],_,0)=>cond (qdc kc) (some ⟨.tup [],S.set id (.tmap kc vc (mdel kc kx es)),0,2 ^ id⟩) none
      | _=>none
     | _=>none
    | _=>none) none
   | none=>none
  | _=>none
 | none=>none
theorem zph{ty t2 tr:Nat}{x k:IV}{ux uk:Value}{r:Res}(htt:TT P tt)(p:Pre T E S)(h:qjp tt S ty x k=some r)(hr:tin T.w r.wr)(hx:VR E x ux)(hk:VR E k uk):Good P T E S (Builtin.delete_ #[ty,t2] tr #[ux,uk]) r:=by
 unfold qjp at h;split at h<;>try cases h
 rename_i ti hti;split at h<;>try cases h
 rename_i K V hKV;have hty:=(htt _ _ hti).und;rw[hKV] at hty;split at h<;>try cases h
 rename_i tk htk;cases hd:qb7 tk.und k with
 | false=>rw[hd] at h;cases h
 | true =>
 rw[hd,jab] at h;split at h<;>try cases h
 rename_i id;cases hx with
 | map hA =>
 split at h<;>try cases h
 rename_i kc vc es hes;split at h<;>try cases h
 rename_i kx S2 hkx;cases hb:qdc kc with
 | false=>rw[hb] at h;cases h
 | true =>
 rw[hb,jab] at h;cases h;have hka:=qg6 hkx hk (fun a b e=>by subst e;cases hb);have hda:=que hb hkx hd;obtain⟨ents,c,h1,h2,h3,hst⟩:=p.st.objs id (T.sub _ (qaf hr)) hA _ hes;obtain⟨q,q1,q2⟩:=qzz hda hka 0 (q40 hb kx es) h2 h3;have hL:Live E S.H id:=⟨p.st.blk id (T.sub _ (qaf hr)) hA _ hes rfl,_,hes,rfl⟩;have hlt:=qbd h1;have htk':=(htt _ _ htk).und;have fin:∀(o:Obj),(Builtin.delete_ #[ty,t2] tr #[.map (some (E.ρ id)),uk]).run P E.w=.ok (.tuple #[]) (E.w.putObj (E.ρ id) o)->OR (E.at_ (E.w.putObj (E.ρ id) o)) id (.tmap kc vc (mdel kc kx es))->Good P T E S (Builtin.delete_ #[ty,t2] tr #[.map (some (E.ρ id)),uk]) ⟨.tup [],S.set id (.tmap kc vc (mdel kc kx es)),0,2 ^ id⟩:=fun o hrun ho2=>by
  obtain⟨a,b⟩:=Post.write p (qaf hr) hA hL (Upd.putObj _ _ _) ho2;exact⟨_,_,hrun,.tup (us:=[]) rfl (fun i h=>by simp at h),a,b⟩
 cases q with
 | none =>
  have hfk:(Instr.findKey K uk ents.toList).run P E.w=.ok none E.w:=by simp only[Instr.findKey,jag,jan htk',jaa,q1,jad]
  refine fin (.map ents c) ?_ ⟨_,_,jb2 hlt,?_,?_,hst⟩
  ·simp only[Builtin.delete_,jav,jat,jbn,jag,jan hty,jaa,getObj,Sem.run,h1,qeq htk' hda hka,hfk];simp[setObj,Sem.run,h1,World.putObj]
  ·exact q2.1.mono (Env.at_le p.st (qaf hr) hA hL (Upd.putObj E.w (E.ρ id) _))
  ·exact q2.2.mono (Env.at_le p.st (qaf hr) hA hL (Upd.putObj E.w (E.ρ id) _))
 | some q =>
  obtain⟨n,e0,e1,e3,e4⟩:=q2;obtain⟨j,vj⟩:=q;simp only[ja9] at e0;subst e0;have hfk:(Instr.findKey K uk ents.toList).run P E.w=.ok (some (j,vj)) E.w:=by simp only[Instr.findKey,jag,jan htk',jaa,q1,jad]
  have hj:j<ents.size:=by simpa using e1
  refine fin (.map (ents.eraseIdxIfInBounds j) c) ?_ ⟨_,_,jb2 hlt,?_,?_,hst.erase⟩
  ·simp only[Builtin.delete_,jav,jat,jbn,jag,jan hty,jaa,getObj,Sem.run,h1,qeq htk' hda hka,hfk];simp[setObj,Sem.run,h1,World.putObj]
  ·have:=e3.mono (Env.at_le p.st (qaf hr) hA hL (Upd.putObj E.w (E.ρ id) (.map (ents.eraseIdxIfInBounds j) c)));simpa [Array.eraseIdxIfInBounds,hj] using this
  ·have:=e4.mono (Env.at_le p.st (qaf hr) hA hL (Upd.putObj E.w (E.ρ id) (.map (ents.eraseIdxIfInBounds j) c)));simpa [Array.eraseIdxIfInBounds,hj] using this

def qlu(tt:Nat->Option TI)(S:IS)(ty:Nat):IV->Option Res
 | .str s=>match tt ty with
  | some ti=>match ti.und with
   | .string=>some ⟨.ptr S.next 0,S.new (.iter s 0),0,0⟩
   | _=>none
  | none=>none
 | _=>none
theorem zjf{ty:Nat}{x:IV}{ux:Value}{r:Res}(htt:TT P tt)(p:Pre T E S)(h:qlu tt S ty x=some r)(hx:VR E x ux):Good P T E S (Instr.range ty ux) r:=by
 unfold qlu at h;split at h<;>try cases h
 rename_i s;cases hx with
 | str _ hsz =>
 split at h<;>try cases h
 rename_i ti hti;split at h<;>cases h;rename_i hu;have hty:=(htt _ _ hti).und;rw[hu] at hty;have u:Upd [] E.w (E.w.alloc (.stringIter s 0)):=Upd.alloc _ _;obtain⟨a,b⟩:=Post.new p (k:=0) (hd:=.tuple #[]) (o:=.iter s 0) u (by simp) (by
  refine⟨?_,hsz⟩;rw[show (E.with_ S.next 0 (.tuple #[]) (E.w.alloc (.stringIter s 0))).ρ S.next=E.w.heap.size from qah _ _ _];exact jct E.w _)
 refine⟨.pointer (some ⟨(E.with_ S.next 0 (.tuple #[]) (E.w.alloc (.stringIter s 0))).ρ S.next,0,none⟩),_,?_,.ptr (Or.inr rfl),a,b⟩;rw[show (E.with_ S.next 0 (.tuple #[]) (E.w.alloc (.stringIter s 0))).ρ S.next=E.w.heap.size from qah _ _ _];simp only[Instr.range,jag,jan hty,jaa,jad];rfl
def qex(S:IS):IV->Bool->Option Res
 | .ptr id 0,true=>match S.heap.get id with
  | some (.iter s p)=>cond (Nat.blt p s.size)
   (some ⟨.tup [.bool true,.int .i64 p,.int .i32 (Utf8.decode s p).1],S.set id (.iter s (p+(Utf8.decode s p).2)),0,2 ^ id⟩)
   (some ⟨.tup [.bool false],S,2 ^ id,0⟩)
  | _=>none
 | _,_=>none
theorem zfa{ty:Nat}{x:IV}{ux:Value}{b:Bool}{r:Res}(p:Pre T E S)(h:qex S x b=some r)(hrd:tin T.r r.rd)(hwr:tin T.w r.wr)(hx:VR E x ux):Good P T E S (Instr.next ux b ty) r:=by
 unfold qex at h;split at h<;>try cases h
 rename_i id;cases hx with
 | ptr hA =>
 split at h<;>try cases h
 rename_i s q hq;cases hb:Nat.blt q s.size with
 | true =>
  rw[hb,jab] at h;have hlt:q<s.size:=by simpa using hb
  cases h;obtain⟨h1,hsz⟩:E.w.heap[E.ρ id]?=some (.stringIter s q)/\s.size<9223372036854775808:=p.st.objs id (T.sub _ (qaf hwr)) hA _ hq;have hc:=decode_le s q;generalize hdec:Utf8.decode s q=cw;rw[hdec] at hc;obtain⟨c,width⟩:=cw;simp only at hc;have hL:Live E S.H id:=⟨p.st.blk id (T.sub _ (qaf hwr)) hA _ hq rfl,_,hq,rfl⟩;obtain⟨a,b⟩:=Post.write p (o':=.iter s (q+width)) (qaf hwr) hA hL (Upd.putObj E.w (E.ρ id) (.stringIter s (q+width))) ⟨jb2 (qbd h1),hsz⟩;refine⟨.tuple #[.bool true,.int .i64 q,.int .i32 c],_,?_,?_,a,b⟩
  ·simp only[Instr.next,jag,getObj,Sem.run,h1,jaa,hlt,jb4,setObj,jad,goInt,hdec];rfl
  ·have:=VRs.cons (E:=E.at_ (E.w.putObj (E.ρ id) (.stringIter s (q+width)))) (.bool true) (VRs.cons (.int .i64 (q:Int) (jek _ ⟨by omega,by omega⟩)) (VRs.cons (.int .i32 (c:Int) (IntWalk.i32_in _ ⟨by omega,by omega⟩)) VRs.nil));exact .tup this.1 this.2
 | false =>
  rw[hb,jae] at h;cases h;have hge:¬q<s.size:=fun hh=>by
   have:Nat.blt q s.size=true:=by simpa using hh
   rw[this] at hb;cases hb
  have h1:E.w.heap[E.ρ id]?=some (.stringIter s q):=(p.st.objs id (qaf hrd) hA _ hq).1;have:=VRs.cons (E:=E) (.bool false) VRs.nil;exact Good.same p (u:=.tuple #[.bool false]) (by simp only[Instr.next,jag,getObj,Sem.run,h1,jaa,hge,jbl,jad]) (.tup this.1 this.2)

def qlj(S:IS)(i:Nat):IV->Option Res
 | .tup vs=>match vs[i]? with
  | some v=>some ⟨v,S,0,0⟩
  | none=>none
 | _=>none
theorem zpd{i:Nat}{x:IV}{ux:Value}{r:Res}(p:Pre T E S)(h:qlj S i x=some r)(hx:VR E x ux):Good P T E S (Instr.extract ux i) r:=by
 unfold qlj at h;split at h<;>try cases h
 rename_i vs;cases hx with
 | tup hl hh =>
 rename_i us;split at h<;>cases h;rename_i v hv;have hr:VRs E vs us:=⟨hl,hh⟩;obtain⟨u,hu,hvu⟩:=hr.get hv;exact Good.same p (by simp only[Instr.extract,jav,hu,jad]) hvu
def qjk(tt:Nat->Option TI)(S:IS)(ty f:Nat):IV->Option Res
 | .agg cs=>match tt ty with
  | none=>none
  | some ti=>match ti.und with
   | .struct fs=>match fs.toList[f]? with
    | none=>none
    | some F=>match tt F.type with
     | none=>none
     | some tf=>cond (qa7 tf.und) (match cs[F.offset]? with|some v=>some ⟨v,S,0,0⟩|none=>none)
      (cond (Nat.ble (F.offset+tf.sz) cs.length) (some ⟨.agg ((cs.drop F.offset).take tf.sz),S,0,0⟩) none)
   | _=>none
 | _=>none
theorem zor{ty f:Nat}{x:IV}{ux:Value}{r:Res}(htt:TT P tt)(p:Pre T E S)(h:qjk tt S ty f x=some r)(hx:VR E x ux):Good P T E S (Instr.field ty ux f) r:=by
 unfold qjk at h;split at h<;>try cases h
 rename_i cs;cases hx with
 | agg hl hh =>
 rename_i us;have hr:VRs E cs us:=⟨hl,hh⟩;split at h
 ·cases h
 rename_i ti hti;split at h<;>try cases h
 rename_i fs hfs;split at h
 ·cases h
 rename_i F hF;split at h
 ·cases h
 rename_i tf htf;have hty:=htt _ _ hti;rw[hfs] at hty;have hf:=htt _ _ htf;have hF2:fs[f]?=some F:=by simpa using hF
 have hrun:∀v,(part F.type us.toArray F.offset).run P E.w=.ok v E.w->(Instr.field ty (.agg us.toArray) f).run P E.w=.ok v E.w:=fun v hv=>by
  simp only[Instr.field,jag,jan hty.und,jad,jaa,hF2,asAgg,hv]
 cases hag:qa7 tf.und with
 | true =>
  rw[hag,jab] at h;split at h<;>cases h;rename_i v hv;obtain⟨u,hu,hvu⟩:=hr.get hv;refine Good.same p (u:=u) (hrun _ ?_) hvu;simp only[part,jag,qg8 hf,hag,jaa,jav,hu,jad,jbh,ja3,jbl]
 | false =>
  rw[hag,jae] at h;cases hb:Nat.ble (F.offset+tf.sz) cs.length with
  | false=>rw[hb] at h;cases h
  | true =>
   rw[hb,jab] at h;cases h;have hs:=(hr.drop F.offset).take tf.sz;have hlen:((cs.drop F.offset).take tf.sz).length=((us.drop F.offset).take tf.sz).length:=hs.1;refine Good.same p (u:=.agg ((us.drop F.offset).take tf.sz).toArray) (hrun _ ?_) (.agg hs.1 hs.2);simp only[part,jag,qg8 hf,Go.Sx.run_sizeOf hf,hag,jaa,jad,jba,jb4];congr 2;simp[List.extract_toArray,List.extract_eq_take_drop]
def ql3(tt:Nat->Option TI)(S:IS)(ty:Nat)(v:IV):Option Res :=
 match tt ty with
 | some ti=>match ti.und with
  | .interface _=>none
  | _=>some ⟨.iface ty v,S,0,0⟩
 | none=>none
theorem zp6{ty:Nat}{x:IV}{ux:Value}{r:Res}(htt:TT P tt)(p:Pre T E S)(h:ql3 tt S ty x=some r)(hx:VR E x ux):Good P T E S (Instr.makeInterface ty ux) r:=by
 unfold ql3 at h;split at h<;>try cases h
 rename_i ti hti;have hty:=(htt _ _ hti).und;split at h<;>cases h;rename_i hu;refine Good.same p (u:=.iface ty ux) ?_ (.iface hx);simp only[Instr.makeInterface,jag,jan hty,jaa];cases hd:ti.und<;>first|exact absurd hd (hu _)|rfl
def qjf(tt:Nat->Option TI)(S:IS)(xT asserted:Nat)(ok:Bool):IV->Option Res
 | .iface t v=>match tt asserted with
  | some ti=>match ti.und with
   | .interface _=>none
   | _=>cond (Nat.beq t asserted) (some ⟨cond ok (.tup [v,.bool true]) v,S,0,0⟩) (cond ok (match ofV ti.zero with
     | some z=>some ⟨.tup [z,.bool false],S,0,0⟩
     | none=>none) none)
  | none=>none
 | _=>none
theorem za6{xT asserted:Nat}{ok:Bool}{x:IV}{ux:Value}{r:Res}(htt:TT P tt)(p:Pre T E S)(h:qjf tt S xT asserted ok x=some r)(hx:VR E x ux):Good P T E S (Instr.typeAssert ux xT asserted ok) r:=by
 unfold qjf at h;split at h<;>try cases h
 rename_i t v;cases hx with
 | iface hv =>
 rename_i u;split at h<;>try cases h
 rename_i ti hti;have hty:=htt _ _ hti;split at h
 ·cases h
 ·rename_i hu;cases hb:Nat.beq t asserted with
  | true =>
   rw[hb,jab] at h;cases h;have:=jah hb;subst this;refine Good.same p (u:=if ok then .tuple #[u,.bool true] else u) ?_ ?_
   ·simp only[Instr.typeAssert,jag,jan hty.und,jaa];cases hd:ti.und<;>first|exact absurd hd (hu _)|simp [jad]
   ·cases ok
    ·exact hv
    ·have:=VRs.cons hv (VRs.cons (.bool true) VRs.nil);exact .tup this.1 this.2
  | false =>
   rw[hb,jae] at h;cases ok with
   | false=>cases h
   | true =>
   rw[jab] at h;split at h<;>cases h;rename_i z hz;have hne:¬t=asserted:=fun e=>by rw[qcp e] at hb;cases hb
   have:=VRs.cons (qkf E hz) (VRs.cons (.bool false) VRs.nil);refine Good.same p (u:=.tuple #[ti.zero,.bool false]) ?_ (.tup this.1 this.2);simp only[Instr.typeAssert,jag,jan hty.und,jaa];cases hd:ti.und<;>first|exact absurd hd (hu _)|simp [hne,Sx.run_zeroValue hty]
end
end Go.Jx
end

section
namespace Go.Jx
open Go Go.Sx Go.RowKit
universe u
def iltI:Int->Int->Bool
 | .ofNat m,.ofNat n=>Nat.blt m n
 | .ofNat _,.negSucc _=>false
 | .negSucc _,.ofNat _=>true
 | .negSucc m,.negSucc n=>Nat.blt n m
theorem qan(a b:Int):iltI a b=decide (a<b):=by
 cases a with
 | ofNat m =>
  cases b with
  | ofNat n=>simp only[iltI];rw[jbs];simp
  | negSucc n=>symm;simp only[iltI];simp;omega
 | negSucc m =>
  cases b with
  | ofNat n=>symm;simp only[iltI];simp;omega
  | negSucc n=>simp only[iltI];rw[jbs];simp;omega
def S.rep{α:Type}(n:Int)(x:α):List α:=List.replicate n.toNat x
def tcFs(f:Nat->Option TC):List Field->Option TC
 | []=>none
 | x::xs=>match xs with
  | []=>f x.type
  | _::_=>match f x.type,tcFs f xs with
   | some a,some b=>some (.two a b)
   | _,_=>none
def tcOf(tt:Nat->Option TI):Nat->Nat->Option TC
 | 0,_=>none
 | n+1,T=>match tt T with
  | none=>none
  | some ti=>match ti.und with
   | .int k=>some (.int k)
   | .bool=>some .bool
   | .string=>some .str
   | .slice e=>match tcOf tt n e with
    | some c=>some (.list c)
    | none=>none
   | .struct fs=>tcFs (tcOf tt n) fs.toList
   | _=>none
def zC:TC->List Value->Option (List Value)
 | .two a b,vs=>match zC a vs with
  | none=>none
  | some r=>zC b r
 | .int k,vs=>match vs with
  | []=>none
  | v::r=>cond (zOK (.int k) v) (some r) none
 | .bool,vs=>match vs with
  | []=>none
  | v::r=>cond (zOK .bool v) (some r) none
 | .str,vs=>match vs with
  | []=>none
  | v::r=>cond (zOK .str v) (some r) none
 | .list c,vs=>match vs with
  | []=>none
  | v::r=>cond (zOK (.list c) v) (some r) none
theorem qqu{E:Env}{c:TC}{vs r:List Value}(hc:cel c (zEl c)=[asIV c (zEl c)])(h:(match vs with|[]=>none|v::r=>cond (zOK c v) (some r) none)=some r):∃us,vs=us++r/\VRs E (cel c (zEl c)) us:=by
 cases vs with
 | nil=>cases h
 | cons v vs =>
  simp only at h;cases hz:zOK c v with
  | false=>rw[hz] at h;cases h
  | true =>
   rw[hz] at h;cases h;exact⟨[v],rfl,by rw[hc];exact VRs.cons (q2j hz) VRs.nil⟩
theorem qs4{E:Env}:∀{c:TC} {vs r:List Value},zC c vs=some r->∃us,vs=us++r/\VRs E (cel c (zEl c)) us
 | .int k,vs,r,h=>qqu rfl h
 | .bool,vs,r,h=>qqu rfl h
 | .str,vs,r,h=>qqu rfl h
 | .list c,vs,r,h=>qqu rfl h
 | .two a b,vs,r,h=>by
  unfold zC at h;cases ha:zC a vs with
  | none=>rw[ha] at h;cases h
  | some q =>
   rw[ha] at h;obtain⟨u1,e1,v1⟩:=qs4 (E:=E) ha;obtain⟨u2,e2,v2⟩:=qs4 (E:=E) h;exact⟨u1++u2,by rw[e1,e2,jc3],v1.append v2⟩
def imkC(tt:Nat->Option TI)(S:IS)(ty:Nat)(n m:Int):Option Res:=match tt ty with
 | none=>none
 | some ti=>match ti.und with
  | .slice e=>match tt e with
   | none=>none
   | some te=>match tcOf tt 8 e with
    | none=>none
    | some c=>match zC c te.zero.cells.toList with
     | some []=>cond (Nat.beq te.sz (csz c)&&(Nat.blt 0 te.bytes&&(Nat.ble (bsz c) te.bytes&&u8ok c e)))
      (cond (iltI n 0) none (cond (Nat.ble (Nat.mul m.toNat te.bytes) 140737488355328) (some ⟨.arr S.next,S.new (.arr c (Go.Jx.S.rep n (zEl c))),0,0⟩) none)) none
     | _=>none
  | _=>none
def qoh:Operand->Operand->Bool
 | .tmp i,.tmp j=>Nat.beq i j
 | _,_=>false
def qhi(tt:Nat->Option TI)(S:IS)(ty:Nat):IV->Option Res
 | .int _ n=>imkC tt S ty n n
 | _=>none
def qf4(tt:Nat->Option TI)(S:IS)(ty:Nat):IV->IV->Option Res
 | .int _ n,.int _ m=>cond (iltI m n) none (imkC tt S ty n m)
 | _,_=>none
variable {P : Program} {tt : Nat -> Option TI} {T : TW} {E : Env} {S : IS}
theorem q2t{ty:Nat}{n m:Int}{k k':IntKind}{r:Res}(htt:TT P tt)(p:Pre T E S)(h:imkC tt S ty n m=some r)(hnm:n<=m):Good P T E S (Instr.makeSlice ty (.int k n) (.int k' m)) r:=by
 unfold imkC at h;split at h
 ·cases h
 rename_i ti hti;split at h<;>try cases h
 rename_i e he;split at h
 ·cases h
 rename_i te hte;split at h
 ·cases h
 rename_i c hc;split at h<;>try cases h
 rename_i hz;cases hb:(Nat.beq te.sz (csz c)&&(Nat.blt 0 te.bytes&&(Nat.ble (bsz c) te.bytes&&u8ok c e))) with
 | false=>rw[hb] at h;cases h
 | true =>
 rw[hb,jab] at h;cases h0:iltI n 0 with
 | true=>rw[h0] at h;cases h
 | false =>
 rw[h0,jae] at h;cases hk:Nat.ble (Nat.mul m.toNat te.bytes) 140737488355328 with
 | false=>rw[hk] at h;cases h
 | true =>
 rw[hk,jab] at h;cases h;rw[qan] at h0;have h0:=jda h0;simp only[jaf] at hb;obtain⟨b1,b2,b3,b6⟩:=hb;have b1:=jah b1;have b2:0<te.bytes:=by simpa using b2
 have b3:=jao b3;have hk:m.toNat*te.bytes<=140737488355328:=jao hk;have hty:=htt _ _ hti;rw[he] at hty;obtain⟨hu,i,i1,i2,i3,i4⟩:=htt _ _ hte;obtain⟨us,e1,e2⟩:=qs4 (E:=E) hz;rw[jdn] at e1;have hus:us.length=csz c:=by rw[<- e2.1,qbn]
 have hm1:m.toNat<=140737488355328:=ja5 (by have:=jcm m.toNat b2;simpa using this) hk;have hmul:n.toNat*te.bytes<=m.toNat*te.bytes:=jaw _ (by omega);have hbytes:(i.bytes:Int)*m<=281474976710656:=by
  rw[i3,show m=(m.toNat:Int) by omega,<- Int.natCast_mul,jfk];omega
 have hrun:=run_make (P:=P) E.w ty e i te.zero hty.und i1 i4 k k' n m (by omega) hnm hbytes (by omega);rw[i2,b1] at hrun;have hzs:te.zero.cells.size=csz c:=by rw[<- jew,e1,hus]
 have hlen:(madeCells te.zero.cells (m.toNat*csz c)).size=m.toNat*csz c:=size_madeCells _ _;have hrl:List.length (Go.Jx.S.rep n (zEl c))=n.toNat:=by unfold Go.Jx.S.rep;simp
 have hrel:ARel E c (Go.Jx.S.rep n (zEl c)) (madeCells te.zero.cells (m.toNat*csz c)).toList.toArray:=by
  refine⟨fun _ j=>us.getD j .nilFunc,fun i hi j hj=>?_,fun i hi j hj=>?_⟩
  ·rw[hrl] at hi;have hlt:i*csz c+j<m.toNat*csz c:=by
    have:=jaw (csz c) (show i+1<=m.toNat by omega);rw[jbb] at this;omega
   have hmod:(i*csz c+j) % csz c=j:=by rw[Nat.add_comm,Nat.add_mul_mod_self_right];exact Nat.mod_eq_of_lt hj
   simp only[Array.toArray_toList,madeCells];rw[Array.getElem?_map,Array.getElem?_range,jam hlt,jdl,hzs,hmod];congr 1;rw[jar,jac (by omega:j<us.length)];have hj2:j<te.zero.cells.size:=by omega
   rw[getElem!_pos te.zero.cells j hj2];have:te.zero.cells[j]=te.zero.cells.toList[j]'(by simpa using hj2):=by simp
   rw[this];simp only[e1,Option.getD_some]
  ·have e:(Go.Jx.S.rep n (zEl c))[i]=zEl c:=by
    have hm:(Go.Jx.S.rep n (zEl c))[i]∈List.replicate n.toNat (zEl c):=ja0 (l:=Go.Jx.S.rep n (zEl c)) hi;exact List.eq_of_mem_replicate hm
   have hj':j<us.length:=by rw[hus];rw[qbn] at hj;exact hj
   simp only[e] at hj ⊢;rw[jar,jac hj'];exact e2.2 j hj hj'
 obtain⟨E1,f1,f2,f3,f4⟩:=qm8 (c:=c) (l:=Go.Jx.S.rep n (zEl c)) (cells:=(madeCells te.zero.cells (m.toNat*csz c)).toList) (t:=e) (nc:=m.toNat) (w':=E.w.alloc (.cells (madeCells te.zero.cells (m.toNat*csz c)) e)) p rfl rfl rfl rfl (by rw[hrl];omega) (by omega)
  (by rw[hrl];exact ja5 (jcm _ b3) (ja5 hmul hk)) (by simp[hlen]) (q12 b6) hrel
 rw[hrl] at f2;exact⟨_,E1,by rw[f1];exact hrun,f2,f3,f4⟩
theorem za3{x y:Operand}(h:qoh x y=true):x=y:=by
 cases x<;>cases y<;>first|(cases h;done)|skip
 rw[jah h]
theorem zhy{ty:Nat}{v:IV}{u:Value}{r:Res}(htt:TT P tt)(p:Pre T E S)(h:qhi tt S ty v=some r)(hv:VR E v u):Good P T E S (Instr.makeSlice ty u u) r:=by
 unfold qhi at h;split at h<;>try cases h
 cases hv;exact q2t htt p h (jeg _)
theorem zcu{ty:Nat}{v v':IV}{u u':Value}{r:Res}(htt:TT P tt)(p:Pre T E S)(h:qf4 tt S ty v v'=some r)(hv:VR E v u)(hv':VR E v' u'):Good P T E S (Instr.makeSlice ty u u') r:=by
 unfold qf4 at h;split at h<;>try cases h
 rename_i k n k' m;cases hb:iltI m n with
 | true=>rw[hb] at h;cases h
 | false =>
  rw[hb,jae] at h;cases hv;cases hv';rw[qan] at hb;exact q2t htt p h (by have:=jda hb;omega)
def toU8:List IV->Option (List Int)
 | []=>some []
 | .int .u8 n::l=>match toU8 l with
  | some r=>some (n::r)
  | none=>none
 | _=>none
theorem qxx{E:Env}:∀{cs:List IV} {l:List Int} {us:List Value},toU8 cs=some l->VRs E cs us->us.length=l.length/\∀i (h:i<l.length),us[i]?=some (.int .u8 l[i])/\VR E (.int .u8 l[i]) (.int .u8 l[i])
 | [],l,us,h,hv=>by
  cases h;have:=hv.1;cases us with
  | nil=>exact⟨rfl,fun i h=>absurd h (by simp)⟩
  | cons _ _=>simp at this
 | v::cs,l,us,h,hv=>by
  obtain⟨u,us,rfl,a1,a2⟩:=hv.inv;cases v<;>try (simp [toU8] at h;done)
  rename_i k n;cases k<;>try (simp [toU8] at h;done)
  simp only[toU8] at h;split at h<;>cases h;rename_i r hr;obtain⟨h1,h2⟩:=qxx hr a2;refine⟨by simp[h1],fun i hi=>?_⟩;cases i with
  | zero =>
   cases a1 with
   | int _ _ hw=>exact⟨rfl,.int _ _ hw⟩
  | succ i=>exact h2 i (by simpa using hi)
theorem zhv{E:Env}{l:List Int}{ur:List Value}(h:∀i (h:i<l.length),ur[i]?=some (.int .u8 l[i])/\VR E (.int .u8 l[i]) (.int .u8 l[i])):ARel E (.int .u8) l ur.toArray:=by
 refine⟨fun i _=>(ur[i]?).getD .nilFunc,fun i hi j hj=>?_,fun i hi j hj=>?_⟩
 ·have hi':i<List.length (α:=Int) l:=hi;have hj0:j=0:=by have:j<1:=hj;omega
  subst hj0;show ur.toArray[i*1+0]?=some ((ur[i]?).getD .nilFunc);rw[jfd,jby,jav,(h i hi').1];rfl
 ·have hi':i<List.length (α:=Int) l:=hi;have hj0:j=0:=by have:j<1:=hj;omega
  subst hj0;have:=(h i hi').2;show VR E (.int .u8 _) ((ur[i]?).getD .nilFunc);rw[(h i hi').1];exact this
def qij(tt:Nat->Option TI)(S:IS)(ty len:Nat)(ps:List (Nat × IV)):Option Res :=
 match tt ty with
 | none=>none
 | some ti=>match ti.und with
  | .slice e=>cond (Nat.beq e u8T) (match tt e with
   | none=>none
   | some te=>cond (Nat.beq te.sz 1&&Nat.ble len 16777216) (match len,ps with
    | 0,[]=>some ⟨.arr S.next,S.new (.arr (.int .u8) ([]:List Int)),0,0⟩
    | _,_=>match ofVs te.zero.cells.toList with
     | none=>none
     | some zs=>cond (Nat.beq zs.length 1&&Nat.blt 0 len) (match qf2 ((List.range len).map fun i=>(i*1,1)) (repI zs len) ps with
      | none=>none
      | some r=>match toU8 r with
       | none=>none
       | some l=>cond (Nat.beq l.length len) (some ⟨.arr S.next,S.new (.arr (.int .u8) l),0,0⟩) none) none) none) none
  | _=>none
section
variable {P : Program} {tt : Nat -> Option TI} {T : TW} {E : Env} {S : IS}
theorem zn0{ty len:Nat}{ps:List (Nat × IV)}{qs:List (Nat × Value)}{r:Res}(htt:TT P tt)(p:Pre T E S)(h:qij tt S ty len ps=some r)(hp:VPs E ps qs):Good P T E S (Instr.buildSlice ty len qs.toArray) r:=by
 unfold qij at h;split at h
 ·cases h
 rename_i ti hti;have hty:=htt _ _ hti;split at h<;>try cases h
 rename_i e he;rw[he] at hty;cases hu8:Nat.beq e u8T with
 | false=>rw[hu8] at h;cases h
 | true =>
 rw[hu8,jab] at h;have heu:=jah hu8;split at h
 ·cases h
 rename_i te hte;have hE:=htt _ _ hte;cases hb0:(Nat.beq te.sz 1&&Nat.ble len 16777216) with
 | false=>rw[hb0] at h;cases h
 | true =>
 rw[hb0,jab] at h;simp only[jaf] at hb0;have hsz:=jah hb0.1;have hlen:=jao hb0.2;split at h
 ·cases h;cases qs with
  | cons _ _=>exact hp.elim
  | nil =>
  obtain⟨E',h1,h2,h3,h4⟩:=qm8 (c:=.int .u8) (l:=([]:List Int)) (cells:=[]) (t:=e) (nc:=0) (w':={ E.w with heap:=E.w.heap.push (.cells #[] e) }) p rfl rfl rfl rfl (jap _) (by omega) (jbj _) (jbj _) (fun _=>heu) (q5r _ _ _);exact⟨_,E',by rw[h1];exact qyf hty hE,h2,h3,h4⟩
 ·split at h
  ·cases h
  rename_i zs hzs;cases hb:(Nat.beq zs.length 1&&Nat.blt 0 len) with
  | false=>rw[hb] at h;cases h
  | true =>
  rw[hb,jab] at h;simp only[jaf] at hb;have hl:=jah hb.1;have hl0:0<len:=by simpa using hb.2
  split at h
  ·cases h
  rename_i r hr;split at h
  ·cases h
  rename_i l hl8;cases hbl:Nat.beq l.length len with
  | false=>rw[hbl] at h;cases h
  | true =>
  rw[hbl,jab] at h;cases h;have hll:=jah hbl;have hz:=qev E hzs;have hzl:te.zero.cells.toList.length=1:=by rw[<- hz.1,hl]
  have hz2:=q3y (n:=len) hz (by rw[hzl];omega);rw[hzl] at hz2;obtain⟨ur,hu1,hu2⟩:=qme hp hz2 hr;obtain⟨g1,g2⟩:=qxx hl8 hu2;have hrun:(Instr.buildSlice ty len qs.toArray).run P E.w=.ok (.slice (some ⟨E.w.heap.size,0,none⟩) len len) { E.w with heap:=E.w.heap.push (.cells ur.toArray e) } :=
   run_buildSlice (D:=.bool) hty hE rfl (by rw[hsz];simp;omega) (by rw[hsz];exact hu1)
  obtain⟨E',h1,h2,h3,h4⟩:=qm8 (c:=.int .u8) (l:=l) (cells:=ur) (t:=e) (nc:=len) (w':={ E.w with heap:=E.w.heap.push (.cells ur.toArray e) }) p rfl rfl rfl rfl (jd9 hll) (by omega) (by show l.length*1<=_;rw[hll];omega) (by show len*1<=_;rw[g1,hll];omega) (fun _=>heu)
   (zhv g2)
  refine⟨_,E',by rw[h1];exact hrun,?_,h3,h4⟩;have h2:VR E' (.arr S.next) (.slice (some ⟨E.w.heap.size,0,none⟩) (List.length (α:=Int) l) len):=h2;rw[hll] at h2;exact h2
end
end Go.Jx
end

section
namespace Go.Jx
open Go Go.Sx Go.RowKit
universe u

def evo(nt:Nat)(fr:PT IV):Operand->Option IV
 | .tmp t=>cond (Nat.blt t nt) (some (slot fr t)) none
 | .const v=>ofV v
 | .func f=>some (.fn f [])
 | .global g=>cond (glB g) (some (.gp g)) none
def evL(nt:Nat)(fr:PT IV):List Operand->Option (List IV)
 | []=>some []
 | x::l=>match evo nt fr x with
  | some v=>match evL nt fr l with
   | some vs=>some (v::vs)
   | none=>none
  | none=>none
def evP(nt:Nat)(fr:PT IV):List (Nat × Operand)->Option (List (Nat × IV))
 | []=>some []
 | x::l=>match evo nt fr x.2 with
  | some v=>match evP nt fr l with
   | some vs=>some ((x.1,v)::vs)
   | none=>none
  | none=>none
def evM(nt:Nat)(fr:PT IV):Option Operand->Option (Option IV)
 | none=>some none
 | some x=>match evo nt fr x with
  | some v=>some (some v)
  | none=>none
section
variable {P : Program} {tt : Nat -> Option TI} {T : TW} {E : Env} {S : IS} {nt : Nat} {fr : PT IV} {a : Act}
theorem qru{x:Operand}{v:IV}(hf:FR E nt fr a.tmps)(h:evo nt fr x=some v):VR E v (a.eval x):=by
 cases x with
 | tmp t =>
  simp only[evo] at h;cases hb:Nat.blt t nt with
  | false=>rw[hb] at h;cases h
  | true=>rw[hb,jab] at h;cases h;exact hf.get t (by simpa using hb)
 | const c=>exact qkf E h
 | func f=>cases h;exact .fn (us:=[]) rfl (fun i h=>by simp at h)
 | global g =>
  simp only[evo] at h;cases hb:glB g with
  | false=>rw[hb] at h;cases h
  | true=>rw[hb,jab] at h;cases h;exact .gp hb
def OK(E:Env)(nt:Nat)(fr:PT IV)(a:Act)(l:List Operand):Prop:=∀x∈l,∀v,evo nt fr x=some v->VR E v (a.eval x)
theorem OK.of{l:List Operand}(hf:FR E nt fr a.tmps):OK E nt fr a l:=fun x _ v h=>qru hf h
theorem OK.mono{E':Env}(e:E.Le E'){l:List Operand}(h:OK E nt fr a l):OK E' nt fr a l:=fun x hx v hv=>(h x hx v hv).mono e
theorem qm0:∀{l:List Operand} {vs:List IV},OK E nt fr a l->evL nt fr l=some vs->VRs E vs (l.map a.eval)
 | [],vs,hf,h=>by cases h;exact VRs.nil
 | x::l,vs,hf,h=>by
  unfold evL at h;split at h<;>try cases h
  rename_i v hv;split at h<;>cases h;rename_i vs hvs;exact VRs.cons (hf x jbq v hv) (qm0 (fun y hy=>hf y (jbc _ hy)) hvs)
theorem qr2:∀{l:List (Nat × Operand)} {vs:List (Nat × IV)},OK E nt fr a (l.map (·.2))->evP nt fr l=some vs->VPs E vs (l.map fun p=>(p.1,a.eval p.2))
 | [],vs,hf,h=>by cases h;trivial
 | x::l,vs,hf,h=>by
  unfold evP at h;split at h<;>try cases h
  rename_i v hv;split at h<;>cases h;rename_i vs hvs;exact⟨rfl,hf _ (by simp) v hv,qr2 (fun y hy=>hf y (by simp only[jcc];exact jbc _ hy)) hvs⟩
theorem qc1{x:Option Operand}{v:Option IV}(hf:OK E nt fr a x.toList)(h:evM nt fr x=some v):VO E v (x.map a.eval):=by
 cases x with
 | none=>cases h;trivial
 | some x =>
  simp only[evM] at h;split at h<;>cases h;rename_i v hv;exact hf x (by simp) v hv

def evV(nt:Nat)(fr:PT IV):Operand->Option Value
 | .tmp t=>cond (Nat.blt t nt) (toV (slot fr t)) none
 | .const v=>some v
 | .func f=>some (.func (.func f) #[] #[])
 | .global _=>none
def evG(nt:Nat)(fr:PT IV)(x:Operand):Value:=match evV nt fr x with|some v=>v|none=>.tuple #[]
def qtr:Op->Bool
 | .select _ _=>false
 | _=>true
def qa9(P:Program)(nt:Nat)(fr:PT IV)(S:IS)(o:Oper):Option Res :=
 cond (qtr o.op&&o.op.operands.toList.all (fun x=>(evV nt fr x).isSome))
  (match calm P (execOp (evG nt fr) o) with
  | some (.value u)=>match ofV u with
   | some v=>some ⟨v,S,0,0⟩
   | none=>none
  | _=>none) none
def qci(P:Program)(T:TW)(E:Env)(S:IS)(s:Sem Next)(r:Res):Prop :=
 ∃N u E',s.run P E.w=.ok N E'.w/\(N=.value u\/N=.skip/\u=undef)/\VR E' r.v u/\Post T E S E' r.S/\Fresh E S E'
theorem Good.res{e:Sem Value}{r:Res}(h:Good P T E S e r):qci P T E S (do pure (.value (<- e))) r:=by
 obtain⟨u,E',h1,h2,h3,h4⟩:=h;exact⟨.value u,u,E',by simp only[jag,h1,jaa,jad],.inl rfl,h2,h3,h4⟩
theorem qfm.res{e:Sem Unit}{r:Res}(h:qfm P T E S e r):qci P T E S (do e;pure .skip) r:=by
 obtain⟨E',h1,h2,h3,h4⟩:=h;refine⟨.skip,undef,E',by simp only[jag,h1,jaa,jad],.inr ⟨rfl,rfl⟩,?_,h3,h4⟩;rw[h2];exact .tup (us:=[]) rfl (fun i h=>by simp at h)
theorem q53{o:Oper}{r:Res}(p:Pre T E S)(hf:OK E nt fr a o.op.operands.toList)(h:qa9 P nt fr S o=some r):qci P T E S (execOp a.eval o) r:=by
 unfold qa9 at h;cases hb:(qtr o.op&&o.op.operands.toList.all (fun x=>(evV nt fr x).isSome)) with
 | false=>rw[hb] at h;cases h
 | true =>
 rw[hb,jab] at h;simp only[jaf] at hb;have he:execOp a.eval o=execOp (evG nt fr) o:=by
  refine execOp_congr o (fun cs b e=>by rw[e] at hb;exact absurd hb.1 (by simp[qtr])) fun x hx=>?_;have h1:=(ja6.1 hb.2) x (by simpa using hx);unfold evG;cases hv:evV nt fr x with
  | none=>rw[hv] at h1;cases h1
  | some v =>
   cases x with
   | tmp t =>
    simp only[evV] at hv;cases hbb:Nat.blt t nt with
    | false=>rw[hbb] at hv;cases hv
    | true=>rw[hbb,jab] at hv;exact zfc hv (hf (.tmp t) (by simpa using hx) _ (by simp only[evo,hbb,jab]))
   | const c=>cases hv;rfl
   | func f=>cases hv;rfl
   | global g=>cases hv
 rw[he];split at h<;>try cases h
 rename_i u hu;split at h<;>cases h;rename_i v hv;exact⟨.value u,u,E,qt7 hu E.w,.inl rfl,qkf E hv,Post.refl p,Fresh.refl E S⟩

def ieqI:Int->Int->Bool
 | .ofNat m,.ofNat n=>Nat.beq m n
 | .negSucc m,.negSucc n=>Nat.beq m n
 | _,_=>false
theorem qa0(a b:Int):ieqI a b=decide (a=b):=by
 have hn:∀m n:Nat,Nat.beq m n=decide (m=n):=fun m n=>by
  rw[jbs];simp
 cases a with
 | ofNat m =>
  cases b with
  | ofNat n=>simp only[ieqI,hn];exact jfh.2 ⟨fun h=>by rw[h],fun h=>Int.ofNat.inj h⟩
  | negSucc n=>symm;simp only[ieqI];exact jai (fun h=>by cases h)
 | negSucc m =>
  cases b with
  | ofNat n=>symm;simp only[ieqI];exact jai (fun h=>by cases h)
  | negSucc n=>simp only[ieqI,hn];exact jfh.2 ⟨fun h=>by rw[h],fun h=>Int.negSucc.inj h⟩
def ior(k:IntKind)(a b:Int):Int:=k.wrap ((BitVec.ofInt k.bits a ||| BitVec.ofInt k.bits b).toNat)
def iand(k:IntKind)(a b:Int):Int:=k.wrap ((BitVec.ofInt k.bits a &&& BitVec.ofInt k.bits b).toNat)
def ibin:BinOp->IntKind->Int->Int->Option IV
 | .lss,_,a,b=>some (.bool (iltI a b))
 | .gtr,_,a,b=>some (.bool (iltI b a))
 | .leq,_,a,b=>some (.bool (!iltI b a))
 | .geq,_,a,b=>some (.bool (!iltI a b))
 | .eql,_,a,b=>some (.bool (ieqI a b))
 | .neq,_,a,b=>some (.bool (!ieqI a b))
 | .add,k,a,b=>some (.int k (k.wrap (a+b)))
 | .sub,k,a,b=>some (.int k (k.wrap (a-b)))
 | .mul,k,a,b=>some (.int k (k.wrap (a*b)))
 | .quo,k,a,b=>cond (ieqI b 0) none (some (.int k (k.wrap (a.tdiv b))))
 | .rem,k,a,b=>cond (ieqI b 0) none (some (.int k (a.tmod b)))
 | .and,k,a,b=>some (.int k (iand k a b))
 | .or,k,a,b=>some (.int k (ior k a b))
 | .xor,k,a,b=>some (.int k (k.wrap ((BitVec.ofInt k.bits a ^^^ BitVec.ofInt k.bits b).toNat)))
 | .andNot,k,a,b=>some (.int k (k.wrap ((BitVec.ofInt k.bits a &&& ~~~BitVec.ofInt k.bits b).toNat)))
 | _,_,_,_=>none
theorem qk8(k:IntKind)(n:Int):k.wrap n=n↔k.min<=n/\n<=k.max:=by
 cases k<;>simp only[IntKind.min,IntKind.max,IntKind.wrap,IntKind.bits,IntKind.signed,jb4,jbl,jb3,je8,ja3,jax,ge_iff_le]<;>(repeat' split)<;>omega
theorem qc8(k:IntKind)(n:Int):k.wrap (k.wrap n)=k.wrap n:=by
 rw[qk8];cases k<;>simp only[IntKind.min,IntKind.max,IntKind.wrap,IntKind.bits,IntKind.signed,jb4,jbl,jb3,je8,ja3,jax,ge_iff_le]<;>(repeat' split)<;>omega
theorem qx1(k:IntKind):k.min<=0/\0<=k.max:=by cases k<;>decide
theorem zpz{k:IntKind}{a:Int}(b:Int)(h:k.wrap a=a):k.wrap (a.tmod b)=a.tmod b:=by
 rw[qk8] at h ⊢;have hm:=qx1 k;rcases Int.le_total 0 a with h0|h0
 ·have h1:=Int.tmod_nonneg b h0;have h2:a.tmod b<=a:=by
   have:=Int.natAbs_tmod a b;have h3:a.natAbs % b.natAbs<=a.natAbs:=Nat.mod_le _ _;omega
  omega
 ·have h1:a.tmod b<=0:=by
   have:=Int.tmod_nonneg b (show 0<=-a by omega);rw[Int.neg_tmod] at this;omega
  have h2:a<=a.tmod b:=by
   have:=Int.natAbs_tmod a b;have h3:a.natAbs % b.natAbs<=a.natAbs:=Nat.mod_le _ _;omega
  omega
theorem zhb{k:IntKind}{a:Int}(n:Nat)(h:k.wrap a=a):k.wrap (a.fdiv (2 ^ n))=a.fdiv (2 ^ n):=by
 rw[qk8] at h ⊢;have hm:=qx1 k;have hp:(0:Int)<2 ^ n:=Int.pow_pos (by omega);rw[Int.fdiv_eq_ediv_of_nonneg _ (Int.le_of_lt hp)];rcases Int.le_total 0 a with h0|h0
 ·have h1:=Int.ediv_nonneg h0 (Int.le_of_lt hp);have h2:=Int.ediv_le_self (2 ^ n) h0;omega
 ·have h1:a / 2 ^ n<=0:=by
   rcases jfl 0 (a / 2 ^ n) with h5|h5
   ·have:=Int.mul_ediv_self_le (x:=a) (k:=2 ^ n) (by omega);have h6:0<2 ^ n*(a / 2 ^ n):=Int.mul_pos hp h5;omega
   ·exact h5
  have h2:a<=a / 2 ^ n:=by
   have h3:=Int.lt_mul_ediv_self_add (x:=a) (k:=2 ^ n) hp;rcases jfl (a / 2 ^ n) a with h4|h4
   ·exfalso;have h5:2 ^ n*(a / 2 ^ n)<=1*(a / 2 ^ n):=jem (by omega) h1;have h6:2 ^ n*(a / 2 ^ n)<=2 ^ n*(a-1):=Int.mul_le_mul_of_nonneg_left (by omega) (Int.le_of_lt hp);have h7:2 ^ n*(a-1)=2 ^ n*a-2 ^ n:=by rw[Int.mul_sub,Int.mul_one]
    have h8:(2:Int) ^ n*a<=1*a:=jem (by omega) h0;omega
   ·exact h4
  omega
def ishl(k:IntKind)(a b:Int):Int:=k.wrap (a*2 ^ (min b.toNat k.bits))
def qm7:BinOp->IntKind->Int->Int->Option IV
 | .shl,k,a,b=>cond (iltI b 0) none (some (.int k (ishl k a b)))
 | .shr,k,a,b=>cond (iltI b 0) none (some (.int k (a.fdiv (2 ^ (min b.toNat k.bits)))))
 | _,_,_,_=>none
theorem zp9{w:World}{op:BinOp}{k k':IntKind}{x y:Int}{v:IV}{ty:TypeId}(hx:k.wrap x=x)(h:qm7 op k x y=some v):∃u,(binOp op ty (.int k x) (.int k' y)).run P w=.ok u w/\VR E v u:=by
 cases op<;>try cases h
 all_goals
  simp only[qm7] at h;cases hb:iltI y 0 with
  | true=>rw[hb] at h;cases h
  | false =>
   rw[hb,jae] at h;cases h;rw[qan] at hb;have hb:=jda hb;first
   | exact⟨.int k (ishl k x y),by simp only[binOp,Op.shift,hb,jbl,jad];rfl,.int _ _ (qc8 _ _)⟩
   | exact⟨_,by simp only[binOp,Op.shift,hb,jbl,jad],.int _ _ (zhb _ hx)⟩
theorem zi5{w:World}{op:BinOp}{k:IntKind}{x y:Int}{v:IV}{ty:TypeId}(hx:k.wrap x=x)(h:ibin op k x y=some v):∃u,(binOp op ty (.int k x) (.int k y)).run P w=.ok u w/\VR E v u:=by
 have hle:∀a b:Int,(!iltI b a)=decide (a<=b):=fun a b=>by
  rw[qan,<- decide_not];exact jfh.2 (by omega)
 have hne:∀a b:Int,(!ieqI a b)=(a != b):=fun a b=>by
  rw[qa0];rw[jbs];simp
 cases op with
 | lss=>cases h;exact⟨.bool (decide (x<y)),by simp only[binOp,ne_eq,ja8,jbl,Op.intCmp,jad],by rw[qan];exact .bool _⟩
 | gtr=>cases h;exact⟨.bool (decide (x > y)),by simp only[binOp,ne_eq,ja8,jbl,Op.intCmp,jad],by rw[qan];exact .bool _⟩
 | leq=>cases h;exact⟨.bool (decide (x<=y)),by simp only[binOp,ne_eq,ja8,jbl,Op.intCmp,jad],by rw[hle];exact .bool _⟩
 | geq=>cases h;exact⟨.bool (decide (x ≥ y)),by simp only[binOp,ne_eq,ja8,jbl,Op.intCmp,jad],by rw[hle];exact .bool _⟩
 | eql=>cases h;exact⟨.bool (x==y),by simp only[binOp,ne_eq,ja8,jbl,Op.intCmp,jad],by rw[show ieqI x y=(x==y) from by rw[qa0];rfl];exact .bool _⟩
 | neq=>cases h;exact⟨.bool (x != y),by simp only[binOp,ne_eq,ja8,jbl,Op.intCmp,jad],by rw[hne];exact .bool _⟩
 | add=>cases h;exact⟨_,by simp only[binOp,ne_eq,ja8,jbl,Op.intArith,jad],.int _ _ (qc8 _ _)⟩
 | sub=>cases h;exact⟨_,by simp only[binOp,ne_eq,ja8,jbl,Op.intArith,jad],.int _ _ (qc8 _ _)⟩
 | mul=>cases h;exact⟨_,by simp only[binOp,ne_eq,ja8,jbl,Op.intArith,jad],.int _ _ (qc8 _ _)⟩
 | quo =>
  simp only[ibin] at h;cases hb:ieqI y 0 with
  | true=>rw[hb] at h;cases h
  | false =>
   rw[hb,jae] at h;cases h;rw[qa0] at hb;have hb:=jda hb;exact⟨_,by simp only[binOp,ne_eq,ja8,jbl,Op.intDiv,hb,jad],.int _ _ (qc8 _ _)⟩
 | rem =>
  simp only[ibin] at h;cases hb:ieqI y 0 with
  | true=>rw[hb] at h;cases h
  | false =>
   rw[hb,jae] at h;cases h;rw[qa0] at hb;have hb:=jda hb;exact⟨_,by simp only[binOp,ne_eq,ja8,jbl,Op.intDiv,hb,jad],.int _ _ (zpz _ hx)⟩
 | and=>cases h;exact⟨.int k (iand k x y),by simp only[binOp,ne_eq,ja8,jbl,Op.intBits,jad];rfl,.int _ _ (qc8 _ _)⟩
 | or=>cases h;exact⟨.int k (ior k x y),by simp only[binOp,ne_eq,ja8,jbl,Op.intBits,jad];rfl,.int _ _ (qc8 _ _)⟩
 | xor=>cases h;exact⟨_,by simp only[binOp,ne_eq,ja8,jbl,Op.intBits,jad],.int _ _ (qc8 _ _)⟩
 | andNot=>cases h;exact⟨_,by simp only[binOp,ne_eq,ja8,jbl,Op.intBits,jad],.int _ _ (qc8 _ _)⟩
 | _=>cases h

def oget{α β:Type u}(x:Option α)(f:α->Option β):Option β:=match x with|some a=>f a|none=>none
theorem qaj{α β:Type u}{x:Option α}{f:α->Option β}{b:β}(h:oget x f=some b):∃a,x=some a/\f a=some b:=by
 cases x with
 | none=>cases h
 | some a=>exact⟨a,rfl,h⟩
def isSl:TypeDesc->Bool
 | .slice _=>true
 | _=>false
def ieq1:TypeDesc->IV->IV->Option Bool
 | .int _,.int k a,.int k' b=>cond (kbeq k k') (some (keqI a b)) none
 | .string,.str a,.str b=>some (keqS a b)
 | .bool,.bool a,.bool b=>some (keqB a b)
 | _,_,_=>none
def ieqF(tt:Nat->Option TI):List Field->List IV->List IV->Option Bool
 | [],_,_=>some true
 | f::fs,xs,ys=>match tt f.type,xs[f.offset]?,ys[f.offset]? with
  | some tf,some x,some y=>match ieq1 tf.und x y,ieqF tt fs xs ys with
   | some b,some r=>cond (decide (f.name ≠ "_") && qa7 tf.und) (some (b&&r)) none
   | _,_=>none
  | _,_,_=>none
def ieqP(P:Program)(tt:Nat->Option TI)(f:Field)(tf:TI)(xs ys:List IV):Option Bool:=match tf.und with
 | .struct gs=>cond (P.stoodInHeld f.type) none (ieqF tt gs.toList ((xs.drop f.offset).take tf.sz) ((ys.drop f.offset).take tf.sz))
 | D=>match xs[f.offset]?,ys[f.offset]? with
  | some x,some y=>cond (qa7 D) (ieq1 D x y) none
  | _,_=>none
def ieqG(P:Program)(tt:Nat->Option TI):List Field->List IV->List IV->Option Bool
 | [],_,_=>some true
 | f::fs,xs,ys=>match tt f.type with
  | none=>none
  | some tf=>match ieqP P tt f tf xs ys,ieqG P tt fs xs ys with
   | some b,some r=>cond (decide (f.name ≠ "_")) (some (b&&r)) none
   | _,_=>none
def eqOK(P:Program)(T:TypeId):Bool:=!P.stoodInHeld T&&!P.eqGuardType P.depth T
def isSh:BinOp->Bool
 | .shl=>true
 | .shr=>true
 | _=>false
def isQR:BinOp->Bool
 | .quo=>true
 | .rem=>true
 | _=>false
def qc4(P:Program)(tt:Nat->Option TI)(nt:Nat)(fr:PT IV)(S:IS)(o:Oper)(op:BinOp)(T:TypeId)(ti:TI):IV->IV->Option Res
 | .int k a,.int k' b=>match qm7 op k a b with
  | some v=>some ⟨v,S,0,0⟩
  | none=>cond (isSh op) none (cond (decide (k=k')) (match ibin op k a b with|some v=>some ⟨v,S,0,0⟩|none=>cond (isQR op) none (qa9 P nt fr S o)) (qa9 P nt fr S o))
 | .str a,.str b=>match op with
  | .eql=>match ieq1 ti.und (.str a) (.str b) with|some r=>some ⟨.bool r,S,0,0⟩|none=>none
  | .neq=>match ieq1 ti.und (.str a) (.str b) with|some r=>some ⟨.bool (!r),S,0,0⟩|none=>none
  | .add=>cond (Nat.blt (a.size+b.size) 9223372036854775808) (some ⟨.str (a++b),S,0,0⟩) none
  | _=>qa9 P nt fr S o
 | .agg xs,.agg ys=>match ti.und with
  | .struct fs=>match ieqG P tt fs.toList xs ys with
   | some r=>cond (eqOK P T) (match op with
    | .eql=>some ⟨.bool r,S,0,0⟩
    | .neq=>some ⟨.bool (!r),S,0,0⟩
    | _=>none) none
   | none=>none
  | _=>qa9 P nt fr S o
 | .sl _ _ _ _ _,.nilsl=>cond (isSl ti.und) (match op with
  | .eql=>some ⟨.bool false,S,0,0⟩
  | .neq=>some ⟨.bool true,S,0,0⟩
  | _=>none) none
 | .lst _ l,.nilsl=>cond (isSl ti.und) (match l with
  | []=>none
  | _::_=>match op with
   | .eql=>some ⟨.bool false,S,0,0⟩
   | .neq=>some ⟨.bool true,S,0,0⟩
   | _=>none) none
 | _,_=>qa9 P nt fr S o
def qfk(tt:Nat->Option TI)(S:IS)(ty:Nat)(lo hi mx:Option IV)(s:ByteArray):Option Res :=
 match tt ty,mx with
 | some ti,none=>match ti.und with
  | .string=>match bndI lo 0,bndI hi s.size with
   | some a,some b=>cond (lchk a b s.size s.size) (some ⟨.str (s.extract a.toNat b.toNat),S,0,0⟩) none
   | _,_=>none
  | _=>none
 | _,_=>none
def qfu(tt:Nat->Option TI)(S:IS)(ty:Nat)(lo hi mx:Option IV)(id:Nat)(wh:Bool):Option Res :=
 match tt ty,mx with
 | some ti,none=>match ti.und with
  | .slice e=>match tt e with
   | none=>none
   | some te=>match S.heap.get id with
    | some (.arr c l)=>match bndI lo 0,bndI hi l.length with
     | some a,some b=>cond wh (cond (ieqI a 0&&ieqI b l.length) (some ⟨.arr id,S,2 ^ id,0⟩) none)
      (cond (Nat.beq te.sz (csz c)&&lchk a b l.length l.length) (some ⟨.lst c (lsub l a b),S.set id (.frz c l),0,2 ^ id⟩) none)
     | _,_=>none
    | some (.frz c l)=>match bndI lo 0,bndI hi l.length with
     | some a,some b=>cond (Nat.beq te.sz (csz c)&&lchk a b l.length l.length) (some ⟨.lst c (lsub l a b),S,2 ^ id,0⟩) none
     | _,_=>none
    | _=>none
  | _=>none
 | _,_=>none
def qe8(tt:Nat->Option TI)(S:IS)(ty:Nat)(s:ByteArray)(i:Int):Option Res :=
 match tt ty with
 | some ti=>match ti.und with
  | .string=>match jget (qad s) i with
   | some x=>some ⟨.int .u8 x,S,0,0⟩
   | none=>none
  | _=>none
 | none=>none
def iun(op:UnOp)(S:IS):IV->Option Res
 | .int k n=>match op with
  | .neg=>some ⟨.int k (k.wrap (0-n)),S,0,0⟩
  | _=>none
 | .bool b=>match op with
  | .not=>some ⟨.bool (!b),S,0,0⟩
  | _=>none
 | _=>none
def imax(a b:Int):Int:=cond (iltI a b) b a
def imin(a b:Int):Int:=cond (iltI b a) b a
def imm(f:Int->Int->Int)(P:Program)(nt:Nat)(fr:PT IV)(S:IS)(o:Oper)(v u:IV):Option Res:=match v,u with
 | .int k a,.int k' b=>cond (kbeq k k') (some ⟨.int k (f a b),S,0,0⟩) (qa9 P nt fr S o)
 | _,_=>qa9 P nt fr S o
theorem qv3(a b:Int):imax a b=if b > a then b else a:=by
 unfold imax;rw[qan];by_cases h:a<b
 ·rw[jaj h,jam h];rfl
 ·rw[jai h,jak h];rfl
theorem qzy(a b:Int):imin a b=if b<a then b else a:=by
 unfold imin;rw[qan];by_cases h:b<a
 ·rw[jaj h,jam h];rfl
 ·rw[jai h,jak h];rfl
def iop(P:Program)(tt:Nat->Option TI)(nt:Nat)(fr:PT IV)(S:IS)(o:Oper):Option Res :=
 match o.op with
 | .move x=>oget (evo nt fr x) fun v=>some ⟨v,S,0,0⟩
 | .assign x=>oget (evo nt fr x) fun v=>some ⟨v,S,0,0⟩
 | .pick c x y=>oget (evo nt fr c) fun c=>match c with
  | .bool b=>oget (evo nt fr (cond b x y)) fun v=>some ⟨v,S,0,0⟩
  | _=>none
 | .alloc T=>qiw tt S T
 | .box T x=>oget (evo nt fr x) fun v=>ibox S v
 | .build T ps=>oget (evP nt fr ps.toList) fun l=>match qjx tt S T l with
  | some r=>some r
  | none=>qa9 P nt fr S o
 | .buildSlice T len ps=>oget (evP nt fr ps.toList) fun l=>match qij tt S T len l with
  | some r=>some r
  | none=>qii tt S T len l
 | .load T x=>oget (evo nt fr x) fun v=>qc9 tt S T v
 | .store T x y=>oget (evo nt fr x) fun v=>oget (evo nt fr y) fun u=>qep tt S T v u
 | .binOp op T x y _=>oget (evo nt fr x) fun v=>oget (evo nt fr y) fun u=>match tt T with
  | some ti=>qc4 P tt nt fr S o op T ti v u
  | none=>none
 | .convert src dst x=>oget (evo nt fr x) fun v=>match v with
  | .sl id off len s c=>istr tt S src dst (.sl id off len s c)
  | .lst c l=>istr tt S src dst (.lst c l)
  | .arr id=>istr tt S src dst (.arr id)
  | .int k n=>match tt src,tt dst with
   | some ts,some td=>match ts.und,td.und with
    | .int _,.int k'=>some ⟨.int k' (k'.wrap n),S,0,0⟩
    | _,_=>qa9 P nt fr S o
   | _,_=>qa9 P nt fr S o
  | _=>qa9 P nt fr S o
 | .makeInterface T x=>oget (evo nt fr x) fun v=>ql3 tt S T v
 | .makeFunc (.func f) first caps=>match first.toList with
  | []=>oget (evL nt fr caps.toList) fun vs=>some ⟨.fn f vs,S,0,0⟩
  | _=>match caps.toList with
   | []=>oget (evL nt fr first.toList) fun vs=>some ⟨.bfn f vs,S,0,0⟩
   | _=>none
 | .makeMap T none=>q1h S
 | .makeSlice T x y=>oget (evo nt fr x) fun v=>cond (qoh x y) (qhi tt S T v) (oget (evo nt fr y) fun u=>qf4 tt S T v u)
 | .slice T x lo hi mx=>oget (evo nt fr x) fun v=>match v with
  | .sl id off len s c=>oget (evM nt fr lo) fun lo=>oget (evM nt fr hi) fun hi=>oget (evM nt fr mx) fun mx=>qd3 tt S T lo hi mx (.sl id off len s c)
  | .lst c l=>oget (evM nt fr lo) fun lo=>oget (evM nt fr hi) fun hi=>oget (evM nt fr mx) fun mx=>qd3 tt S T lo hi mx (.lst c l)
  | .str s=>oget (evM nt fr lo) fun lo=>oget (evM nt fr hi) fun hi=>oget (evM nt fr mx) fun mx=>qfk tt S T lo hi mx s
  | .arr id=>oget (evM nt fr lo) fun lo=>oget (evM nt fr hi) fun hi=>oget (evM nt fr mx) fun mx=>qfu tt S T lo hi mx id (q49 o.pos)
  | _=>qa9 P nt fr S o
 | .fieldAddr T x f=>oget (evo nt fr x) fun v=>qko tt S T f v
 | .nilCheck x=>oget (evo nt fr x) fun v=>match v with
  | .ptr id off=>some ⟨.ptr id off,S,0,0⟩
  | _=>qa9 P nt fr S o
 | .field T x f=>oget (evo nt fr x) fun v=>qjk tt S T f v
 | .indexAddr T x y=>oget (evo nt fr x) fun v=>oget (evo nt fr y) fun u=>qd2 tt S T v u
 | .lookup T x y ok=>oget (evo nt fr x) fun v=>oget (evo nt fr y) fun u=>match v with
  | .map id=>qil tt S T (.map id) u ok
  | _=>qa9 P nt fr S o
 | .mapUpdate T x y z=>oget (evo nt fr x) fun v=>oget (evo nt fr y) fun u=>oget (evo nt fr z) fun t=>qg0 tt S T v u t
 | .insert T x y z=>oget (evo nt fr x) fun v=>oget (evo nt fr y) fun u=>oget (evo nt fr z) fun t=>qg0 tt S T v u t
 | .range T x=>oget (evo nt fr x) fun v=>qlu tt S T v
 | .next x b=>oget (evo nt fr x) fun v=>qex S v b
 | .typeAssert x xT asserted ok=>oget (evo nt fr x) fun v=>match v with
  | .iface t y=>qjf tt S xT asserted ok (.iface t y)
  | _=>qa9 P nt fr S o
 | .extract x i=>oget (evo nt fr x) fun v=>qlj S i v
 | .call ⟨.builtin .append,args,ts⟩=>match args.toList,ts.toList with
  | [x,y],[t1,t2]=>oget (evo nt fr x) fun v=>oget (evo nt fr y) fun u=>iapp tt S t1 t2 v u
  | _,_=>none
 | .call ⟨.builtin .delete,args,ts⟩=>match args.toList,ts.toList with
  | [x,y],[t1,_]=>oget (evo nt fr x) fun v=>oget (evo nt fr y) fun u=>qjp tt S t1 v u
  | _,_=>none
 | .call ⟨.builtin .len,args,ts⟩=>match args.toList,ts.toList with
  | [x],[t1]=>oget (evo nt fr x) fun v=>match v with
   | .lst c l=>ilen tt S t1 (.lst c l)
   | .arr id=>ilen tt S t1 (.arr id)
   | .str s=>ilen tt S t1 (.str s)
   | .sl id off len s c=>ilen tt S t1 (.sl id off len s c)
   | .map id=>ilen tt S t1 (.map id)
   | _=>qa9 P nt fr S o
  | _,_=>none
 | .call ⟨.builtin .max,args,_⟩=>match args.toList with
  | [x,y]=>oget (evo nt fr x) fun v=>oget (evo nt fr y) fun u=>imm imax P nt fr S o v u
  | _=>qa9 P nt fr S o
 | .call ⟨.builtin .min,args,_⟩=>match args.toList with
  | [x,y]=>oget (evo nt fr x) fun v=>oget (evo nt fr y) fun u=>imm imin P nt fr S o v u
  | _=>qa9 P nt fr S o
 | .unOp op _ x=>oget (evo nt fr x) fun v=>match iun op S v with
  | some r=>some r
  | none=>qa9 P nt fr S o
 | .index T x y=>oget (evo nt fr x) fun v=>oget (evo nt fr y) fun u=>match v,u with
  | .str s,.int _ i=>qe8 tt S T s i
  | _,_=>qa9 P nt fr S o
 | _=>none
theorem qmn{w:World}{ty:TypeId}{e:TypeId}{a:Addr}{l c:Nat}(hT:P.underlying ty=some (.slice e)):(Op.equal ty (.slice (some a) l c) (.slice none 0 0)).run P w=.ok false w:=by
 have h:∀dd,(Op.equalIn (dd+1) ty (.slice (some a) l c) (.slice none 0 0)).run P w=.ok false w:=fun dd=>by
  simp[Op.equalIn,jag,jan hT]
 exact h 9999
theorem qb4{v:IV}{u:Value}{s:Sem Next}{rd wr:Nat}(p:Pre T E S)(h:s.run P E.w=.ok (.value u) E.w)(hv:VR E v u):qci P T E S s ⟨v,S,rd,wr⟩ :=
 ⟨.value u,u,E,h,.inl rfl,hv,Post.refl p,Fresh.refl E S⟩
theorem qxn{D:TypeDesc}{a b:ByteArray}{r:Bool}(h:ieq1 D (.str a) (.str b)=some r):r=decide (a=b):=by
 cases D<;>first|(cases h;done)|skip
 cases h;rfl
theorem q2g{D:TypeDesc}{k:TypeId}{x y:IV}{ux uy:Value}{r:Bool}{w:World}{d:Nat}(h:ieq1 D x y=some r)(hk:P.underlying k=some D)(hx:VR E x ux)(hy:VR E y uy):(Op.equalIn (d+1) k ux uy).run P w=.ok r w:=by
 unfold ieq1 at h;split at h<;>try cases h
 ·rename_i k1 a k2 b;cases hb:kbeq k1 k2 with
  | false=>rw[hb] at h;cases h
  | true =>
   rw[hb,jab] at h;cases h;have:=qfg hb;subst this;cases hx;cases hy;exact EqV.int hk d w
 ·cases hx;cases hy;exact EqV.str hk d w
 ·cases hx;cases hy;exact EqV.bool hk d w
theorem zf9(htt:TT P tt){T0:TypeId}{fs:Array Field}{xs ys:List IV}{us vs:List Value}{r:Bool}{w:World}{d:Nat}(hT:P.underlying T0=some (.struct fs))(hst:P.stoodInHeld T0=false)(hx:VRs E xs us)(hy:VRs E ys vs)(h:ieqF tt fs.toList xs ys=some r) :
  (Op.equalIn (d+1+1) T0 (.agg us.toArray) (.agg vs.toArray)).run P w=.ok r w:=by
 rw[Op.equalIn];obtain⟨l⟩:=fs;simp only[jag,jan hT,jaa,jev,hst,ja3,jbl,ne_eq,List.forIn_toArray];clear hT;simp only at h;induction l generalizing r with
 | nil=>cases h;simp [jad]
 | cons f l ih =>
  unfold ieqF at h;split at h<;>try cases h
  rename_i tf x y htf hxo hyo;split at h<;>try cases h
  rename_i b r' hb hr;cases hc:(decide (f.name ≠ "_") && qa7 tf.und) with
  | false=>rw[hc] at h;cases h
  | true =>
  rw[hc,jab] at h;cases h;simp only[jaf,jax] at hc;obtain⟨u,hu,hxu⟩:=hx.get hxo;obtain⟨v,hv,hyv⟩:=hy.get hyo;have p1:(part f.type us.toArray f.offset).run P w=.ok u w:=ql8 (htt _ _ htf) hc.2 (by simpa using hu);have p2:(part f.type vs.toArray f.offset).run P w=.ok v w:=ql8 (htt _ _ htf) hc.2 (by simpa using hv);have p3:(Op.equalIn (d+1) f.type u v).run P w=.ok b w:=q2g hb (htt _ _ htf).und hxu hyv;simp only[List.forIn_cons,jag,hc.1,not_false_eq_true,jb4,p1,p2,p3,jaa];cases b with
  | false=>simp [jad,jaa]
  | true =>
   simp only[jbh,ja3,jbl,jad,jaa,jb3];exact ih hr
theorem VRs.part{E:Env}{cs:List IV}{us:List Value}(h:VRs E cs us)(o n:Nat):VRs E ((cs.drop o).take n) ((us.drop o).take n):=(h.drop o).take n
theorem q7i{T0:TypeId}{D:TypeDesc}{size bytes off:Nat}{zero:Value}{us:List Value}{gs:Array Field}{w:World}(h:Ty P T0 D size bytes zero)(hd:D=.struct gs):(part T0 us.toArray off).run P w=.ok (.agg ((us.drop off).take size).toArray) w:=by
 have ha:qa7 D=false:=by rw[hd];rfl
 simp only[_root_.Go.part,jag,qg8 h,ha,jaa,Sx.run_sizeOf h,jad,jba,jb4];congr 2;simp[List.extract_toArray,List.extract_eq_take_drop]
theorem q9j(htt:TT P tt){f:Field}{tf:TI}{xs ys:List IV}{us vs:List Value}{b:Bool}{w:World}{d:Nat}(htf:tt f.type=some tf)(hx:VRs E xs us)(hy:VRs E ys vs)(h:ieqP P tt f tf xs ys=some b) :
  ∃u v,(part f.type us.toArray f.offset).run P w=.ok u w/\(part f.type vs.toArray f.offset).run P w=.ok v w/\(Op.equalIn (d+1+1) f.type u v).run P w=.ok b w:=by
 have hty:=htt _ _ htf;unfold ieqP at h;split at h
 ·rename_i gs hg;cases hst:P.stoodInHeld f.type with
  | true=>rw[hst] at h;cases h
  | false =>
  rw[hst,jae] at h;exact⟨_,_,q7i hty hg,q7i hty hg,zf9 htt (hg▸hty.und) hst (hx.part _ _) (hy.part _ _) h⟩
 ·split at h
  ·rename_i x y hxo hyo;cases hn:qa7 tf.und with
   | false=>rw[hn] at h;cases h
   | true =>
   rw[hn,jab] at h;obtain⟨u,hu,hxu⟩:=hx.get hxo;obtain⟨v,hv,hyv⟩:=hy.get hyo;exact⟨u,v,ql8 hty hn (by simpa using hu),ql8 hty hn (by simpa using hv),q2g h hty.und hxu hyv⟩
  ·cases h
theorem zav(htt:TT P tt){T0:TypeId}{fs:Array Field}{xs ys:List IV}{us vs:List Value}{r:Bool}{w:World}(hT:P.underlying T0=some (.struct fs))(hst:P.stoodInHeld T0=false)(hx:VRs E xs us)(hy:VRs E ys vs)(h:ieqG P tt fs.toList xs ys=some r) :
  (Op.equal T0 (.agg us.toArray) (.agg vs.toArray)).run P w=.ok r w:=by
 unfold Op.equal;show (Op.equalIn (9997+1+1+1) T0 _ _).run P w=_;rw[Op.equalIn];obtain⟨l⟩:=fs;simp only[jag,jan hT,jaa,jev,hst,ja3,jbl,ne_eq,List.forIn_toArray];clear hT;simp only at h;induction l generalizing r with
 | nil=>cases h;simp [jad]
 | cons f l ih =>
  unfold ieqG at h;split at h
  ·cases h
  rename_i tf htf;split at h<;>try cases h
  rename_i b r' hb hr;cases hc:decide (f.name ≠ "_") with
  | false=>rw[hc] at h;cases h
  | true =>
  rw[hc,jab] at h;cases h;have hc:=jau hc;obtain⟨u,v,p1,p2,p3⟩:=q9j (w:=w) (d:=9997) htt htf hx hy hb;simp only[List.forIn_cons,jag,hc,not_false_eq_true,jb4,p1,p2,p3,jaa];cases b with
  | false=>simp [jad,jaa]
  | true =>
   simp only[jbh,ja3,jbl,jad,jaa,jb3];exact ih hr
theorem zkl{o:Oper}{op:BinOp}{ty ty':TypeId}{ti:TI}{x y:Operand}{v u:IV}{r:Res}(htt:TT P tt)(hti:tt ty=some ti)(hop:o.op=.binOp op ty x y ty')(p:Pre T E S)(hf:OK E nt fr a o.op.operands.toList)(h:qc4 P tt nt fr S o op ty ti v u=some r)
  (hv:VR E v (a.eval x)) (hu:VR E u (a.eval y)):qci P T E S (execOp a.eval o) r:=by
 have hcalm:qa9 P nt fr S o=some r->qci P T E S (execOp a.eval o) r:=fun h=>q53 p hf h;have hund:=(htt _ _ hti).und;unfold qc4 at h;split at h
 ·rename_i k x1 k' y1;have hx1:k.wrap x1=x1:=by generalize a.eval x=e at hv;cases hv;assumption
  have hval:∀{z:IV} {zu:Value},(binOp op ty (.int k x1) (.int k' y1)).run P E.w=.ok zu E.w->VR E z zu->qci P T E S (execOp a.eval o) ⟨z,S,0,0⟩:=fun h1 h2=>by
   refine qb4 p ?_ h2;generalize he1:a.eval x=e1 at hv;generalize he2:a.eval y=e2 at hu;cases hv;cases hu;simp only[execOp,hop,he1,he2,jag,qlh,jaa,h1,jad]
  split at h
  ·rename_i z hz;cases h;obtain⟨zu,h1,h2⟩:=zp9 (P:=P) (E:=E) (w:=E.w) (ty:=ty) (k':=k') hx1 hz;exact hval h1 h2
  ·cases hsh:isSh op with
   | true=>rw[hsh] at h;cases h
   | false =>
   rw[hsh,jae] at h;cases hk:decide (k=k') with
   | false=>rw[hk,jae] at h;exact hcalm h
   | true =>
   rw[hk,jab] at h;have hk:=jau hk;subst hk;split at h
   ·rename_i z hb;cases h;obtain⟨zu,h1,h2⟩:=zi5 (P:=P) (E:=E) (w:=E.w) (ty:=ty) hx1 hb;exact hval h1 h2
   ·cases hq:isQR op with
    | true=>rw[hq] at h;cases h
    | false=>rw[hq] at h;exact hcalm h
 ·rename_i s1 s2;have hz1:s1.size<9223372036854775808:=by generalize a.eval x=e at hv;cases hv;assumption
  have hz2:s2.size<9223372036854775808:=by generalize a.eval y=e at hu;cases hu;assumption
  have hval:∀{z:IV} {zu:Value},(binOp op ty (.string s1) (.string s2)).run P E.w=.ok zu E.w->VR E z zu->qci P T E S (execOp a.eval o) ⟨z,S,0,0⟩:=fun h1 h2=>by
   refine qb4 p ?_ h2;generalize he1:a.eval x=e1 at hv;generalize he2:a.eval y=e2 at hu;cases hv;cases hu;have hg:(eqGuard op ty x y (.string s1) (.string s2)).run P E.w=.ok () E.w:=by cases op<;>rfl
   simp only[execOp,hop,he1,he2,jag,hg,jaa,h1,jad]
  split at h
  ·split at h<;>cases h;rename_i b hb;have he:(s1.toList==s2.toList)=b:=by rw[q76];exact(qxn hb).symm
   exact hval (by simp only[binOp,Op.stringOp,he,jad]) (.bool _)
  ·split at h<;>cases h;rename_i b hb;have he:(s1.toList==s2.toList)=b:=by rw[q76];exact(qxn hb).symm
   exact hval (by simp only[binOp,Op.stringOp,he,jad]) (.bool _)
  ·cases hb:Nat.blt (s1.size+s2.size) 9223372036854775808 with
   | false=>rw[hb] at h;cases h
   | true =>
    rw[hb,jab] at h;cases h;have hb:s1.size+s2.size<9223372036854775808:=by simpa using hb
    have hn:¬(((s1.size+s2.size:Nat):Int) > IntKind.i64.max):=by
     have:IntKind.i64.max=9223372036854775807:=by decide
     rw[this];omega
    exact hval (by simp only[binOp,Op.stringOp,hn,jbl,jad]) (.str _ (by rw[ByteArray.size_append];exact hb))
  ·exact hcalm h
 ·rename_i xs ys;split at h
  ·rename_i fs hfs;split at h<;>try cases h
   rename_i b hb;cases hq:eqOK P ty with
   | false=>rw[hq] at h;cases h
   | true =>
   rw[hq,jab] at h;simp only[eqOK,jaf,jch] at hq;rw[hfs] at hund;have hrun:∀{us vs:List Value},VRs E xs us->VRs E ys vs->(Op.equal ty (.agg us.toArray) (.agg vs.toArray)).run P E.w=.ok b E.w:=fun h1 h2=>zav htt hund hq.1 h1 h2 hb;generalize he1:a.eval x=e1 at hv;generalize he2:a.eval y=e2 at hu;cases hv with
   | agg hl1 hh1 =>
   cases hu with
   | agg hl2 hh2 =>
   have hE:=hrun ⟨hl1,hh1⟩ ⟨hl2,hh2⟩;split at h<;>cases h
   ·refine qb4 p ?_ (.bool _);simp only[execOp,hop,he1,he2,jag,q4i hq.2,jaa,binOp,hE,jad]
   ·refine qb4 p ?_ (.bool _);simp only[execOp,hop,he1,he2,jag,q4i hq.2,jaa,binOp,hE,jad]
  ·exact hcalm h
 ·rename_i id off len s c;cases hsl:isSl ti.und with
  | false=>rw[hsl] at h;cases h
  | true =>
  rw[hsl,jab] at h;obtain⟨e,hty⟩:∃e,P.underlying ty=some (.slice e):=by
   cases hd:ti.und<;>rw[hd] at hsl<;>first|(cases hsl;done)|skip
   rw[hd] at hund;exact⟨_,hund⟩
  generalize he1:a.eval x=e1 at hv;generalize he2:a.eval y=e2 at hu;cases hu;cases hv with
  | sl cap hA h1 h2 h3 h4 h5 =>
  split at h<;>cases h
  ·refine qb4 p (u:=.bool false) ?_ (.bool _);have hg:(eqGuard .eql ty x y (.slice (some ⟨E.ρ id,off,none⟩) len cap) (.slice none 0 0)).run P E.w=.ok () E.w:=rfl;simp only[execOp,hop,he1,he2,jag,hg,jaa,binOp,qmn hty,jad]
  ·refine qb4 p (u:=.bool true) ?_ (.bool _);have hg:(eqGuard .neq ty x y (.slice (some ⟨E.ρ id,off,none⟩) len cap) (.slice none 0 0)).run P E.w=.ok () E.w:=rfl;simp only[execOp,hop,he1,he2,jag,hg,jaa,binOp,qmn hty,jad,jba]
 ·rename_i c l;cases hsl:isSl ti.und with
  | false=>rw[hsl] at h;cases h
  | true =>
  rw[hsl,jab] at h;obtain⟨e,hty⟩:∃e,P.underlying ty=some (.slice e):=by
   cases hd:ti.und<;>rw[hd] at hsl<;>first|(cases hsl;done)|skip
   rw[hd] at hund;exact⟨_,hund⟩
  generalize he1:a.eval x=e1 at hv;generalize he2:a.eval y=e2 at hu;cases hu;cases hv with
  | lst0 hc=>cases h
  | lst us h1 h2 h3 hb hh hc hu =>
  rename_i b off cap cells t fz;split at h
  ·cases h
  split at h<;>cases h
  ·refine qb4 p (u:=.bool false) ?_ (.bool _);generalize (_::_:List (El c)).length=n at he1;have hg:(eqGuard .eql ty x y (.slice (some ⟨b,off,none⟩) n cap) (.slice none 0 0)).run P E.w=.ok () E.w:=rfl;simp only[execOp,hop,he1,he2,jag,hg,jaa,binOp,qmn hty,jad]
  ·refine qb4 p (u:=.bool true) ?_ (.bool _);generalize (_::_:List (El c)).length=n at he1;have hg:(eqGuard .neq ty x y (.slice (some ⟨b,off,none⟩) n cap) (.slice none 0 0)).run P E.w=.ok () E.w:=rfl;simp only[execOp,hop,he1,he2,jag,hg,jaa,binOp,qmn hty,jad,jba]
 ·exact hcalm h
theorem zg9{ty:Nat}{lo hi mx:Option IV}{ulo uhi umx:Option Value}{id:Nat}{wh:Bool}{ux:Value}{r:Res}(htt:TT P tt)(p:Pre T E S)(h:qfu tt S ty lo hi mx id wh=some r)(hrd:tin T.r r.rd)(hwr:tin T.w r.wr)(hx:VR E (.arr id) ux)(vl:VO E lo ulo)(vh:VO E hi uhi)(vm:VO E mx umx) :
  Good P T E S (Instr.sliceAt ty ux ulo uhi umx) r:=by
 unfold qfu at h;split at h<;>try cases h
 rename_i ti hti;have hty:=htt _ _ hti;split at h<;>try cases h
 rename_i e he;rw[he] at hty;split at h
 ·cases h
 rename_i te hte;have hE:=htt _ _ hte;cases hx with
 | arr hA hh =>
 rename_i len0 cap0 a0;split at h<;>try cases h
 ·rename_i c l ho;split at h<;>try cases h
  rename_i a b ha hb;cases wh with
  | true =>
   rw[jab] at h;cases hk:(ieqI a 0&&ieqI b l.length) with
   | false=>rw[hk] at h;cases h
   | true =>
   rw[hk,jab] at h;cases h;simp only[jaf,qa0] at hk;have k1:=jau hk.1;have k2:=jau hk.2;subst k1;subst k2;obtain⟨a',cap,q1,q2,q3,q4,q5⟩:=p.st.objs id (qaf hrd) hA _ ho;rw[hh] at q1;have q6:a0=a'/\len0=l.length/\cap0=cap:=by cases q1;exact⟨rfl,rfl,rfl⟩
   obtain⟨q7,q8,q9⟩:=q6;rw[q7,q8,q9] at hh ⊢;have hr:=qiq (P:=P) (E:=E) (w:=E.w) (a:=a') (len:=l.length) (cap:=cap) (m:=cap) (mx:=none) hty hE ha hb (.inl ⟨rfl,rfl⟩) vl vh vm (jeg 0) (by omega) (by omega) (jeg _);have e1:(if (cap:Int)=0 then a' else a'.map (·.add ((0:Int).toNat*te.sz)))=a':=by
    split
    ·rfl
    ·rcases q5 with ⟨_,g⟩|⟨_,g,_⟩
     ·omega
     ·subst g;simp only[jdl,Int.toNat_zero,jd7];rw[qbe _ rfl]
   rw[e1] at hr;have e2:((l.length:Int).toNat-(0:Int).toNat)=l.length:=by simp
   have e3:((cap:Int).toNat-(0:Int).toNat)=cap:=by simp
   rw[e2,e3] at hr;exact Good.same p hr (.arr hA hh)
  | false =>
   rw[jae] at h;cases hk:(Nat.beq te.sz (csz c)&&lchk a b l.length l.length) with
   | false=>rw[hk] at h;cases h
   | true =>
   rw[hk,jab] at h;cases h;simp only[jaf] at hk;have hz:=jah hk.1;obtain⟨c1,c2,c3,c4⟩:=qio.1 hk.2;obtain⟨g1,g2,g3⟩:=Post.freeze p (qaf hwr) hA ho;rw[hh] at g3;obtain⟨a',cap,q1,q2,q3,q4,q5⟩:=p.st.objs id (T.sub _ (qaf hwr)) hA _ ho;rw[hh] at q1;have q6:len0=l.length/\cap0=cap:=by cases q1;exact⟨rfl,rfl⟩
   obtain⟨q8,q9⟩:=q6;rw[q8,q9] at g3 ⊢;have hr:=qiq (P:=P) (E:=E) (w:=E.w) (a:=a0) (len:=l.length) (cap:=cap) (m:=cap) (mx:=none) hty hE ha hb (.inl ⟨rfl,rfl⟩) vl vh vm c1 c2 (by omega) (jeg _);rw[hz] at hr;exact⟨_,E.less id,hr,VR.lsub (E:=E.less id) (u:=.nilFunc) g3 c1 c2 (by omega) (jeg _) (by omega),g1,g2⟩
 ·rename_i c l ho;split at h<;>try cases h
  rename_i a b ha hb;cases hk:(Nat.beq te.sz (csz c)&&lchk a b l.length l.length) with
  | false=>rw[hk] at h;cases h
  | true =>
  rw[hk,jab] at h;cases h;simp only[jaf] at hk;have hz:=jah hk.1;obtain⟨c1,c2,c3,c4⟩:=qio.1 hk.2;have g3:VR E (.lst c l) (E.hd id):=p.st.objs id (qaf hrd) hA _ ho;rw[hh] at g3;have q8:len0=l.length/\l.length<=cap0:=by cases g3<;>exact⟨rfl,by first|assumption|simp⟩
  obtain⟨q8,q9⟩:=q8;rw[q8] at g3 ⊢;have hr:=qiq (P:=P) (E:=E) (w:=E.w) (a:=a0) (len:=l.length) (cap:=cap0) (m:=cap0) (mx:=none) hty hE ha hb (.inl ⟨rfl,rfl⟩) vl vh vm c1 c2 (by omega) (jeg _);rw[hz] at hr;exact Good.same p hr (VR.lsub (u:=.nilFunc) g3 c1 c2 (by omega) (jeg _) (by omega))
theorem zgt{ty:Nat}{lo hi mx:Option IV}{ulo uhi umx:Option Value}{s:ByteArray}{ux:Value}{r:Res}(htt:TT P tt)(p:Pre T E S)(h:qfk tt S ty lo hi mx s=some r)(hx:VR E (.str s) ux)(vl:VO E lo ulo)(vh:VO E hi uhi)(vm:VO E mx umx) :
  Good P T E S (Instr.sliceAt ty ux ulo uhi umx) r:=by
 unfold qfk at h;split at h<;>try cases h
 rename_i ti hti;split at h<;>try cases h
 rename_i hu;have hty:=(htt _ _ hti).und;rw[hu] at hty;split at h<;>try cases h
 rename_i l b hl hh;cases hk:lchk l b s.size s.size with
 | false=>rw[hk] at h;cases h
 | true =>
 rw[hk,jab] at h;cases h;obtain⟨c1,c2,c3,c4⟩:=qio.1 hk;cases hx with
 | str _ hz =>
 cases umx with
 | some _=>exact vm.elim
 | none =>
 refine Good.same p (u:=.string (s.extract l.toNat b.toNat)) ?_ (.str _ (by simp[ByteArray.size_extract];omega));have eL:∀u,ulo=some u->∀code,(Instr.sliceBound u b.toNat code).run P E.w=.ok l.toNat E.w:=fun u hu code=>by
  subst hu;cases lo with
  | none=>exact vl.elim
  | some x=>exact qkr hl vl c1 (by omega)
 have eL0:ulo=none->l=0:=fun hu=>by
  subst hu;cases lo with
  | some _=>exact vl.elim
  | none=>simpa [bndI] using hl.symm
 have hb:(Instr.sliceBounds false s.size s.size ulo uhi none).run P E.w=.ok (l.toNat,b.toNat,s.size) E.w:=by
  cases uhi with
  | none =>
   cases hi with
   | some _=>exact vh.elim
   | none =>
   have:(s.size:Int)=b:=by simpa [bndI] using hh
   subst this;cases ulo with
   | none=>have:=eL0 rfl;subst this;simp only[Instr.sliceBounds,jag,jad,jaa];rfl
   | some u=>have:=eL u rfl;simp only[jcn] at this;simp only[Instr.sliceBounds,jag,jad,jaa,this,jcn]
  | some u2 =>
   have e2:∀code,(Instr.sliceBound u2 s.size code).run P E.w=.ok b.toNat E.w:=fun code=>by
    cases hi with
    | none=>exact vh.elim
    | some x=>exact qkr hh vh (by omega) (by omega)
   cases ulo with
   | none=>have:=eL0 rfl;subst this;simp only[Instr.sliceBounds,jag,jad,jaa,e2];rfl
   | some u=>have:=eL u rfl;simp only[Instr.sliceBounds,jag,jad,jaa,e2,this]
 simp only[Instr.sliceAt,jag,jan hty,jaa,Instr.slice,hb,jad,Option.isSome_none,ja3,jbl]
theorem zdw{ty:Nat}{s:ByteArray}{k:IntKind}{i:Int}{r:Res}(htt:TT P tt)(p:Pre T E S)(h:qe8 tt S ty s i=some r):Good P T E S (Instr.index ty (.string s) (.int k i)) r:=by
 unfold qe8 at h;split at h<;>try cases h
 rename_i ti hti;split at h<;>try cases h
 rename_i hu;have hty:=(htt _ _ hti).und;rw[hu] at hty;split at h<;>cases h;rename_i x hx;obtain⟨g1,g2,g3⟩:=qqe hx;simp only[qad,jbw,jee] at g3;obtain⟨b,g4,g5⟩:=g3;have g6:s[i.toNat]?=some b:=by
  obtain⟨h1,h2⟩:=jal.1 g4;rw[getElem?_pos s i.toNat (by simpa using h1)];simp only[ja7];rw[<- h2];rfl
 subst g5;refine Good.same p (u:=.int .u8 b.toNat) ?_ (.int _ _ (IntWalk.u8_in _ ⟨by omega,by have:=b.toNat_lt;omega⟩));simp only[Instr.index,asIntOf,jag,jad,jaa,jan hty,g1,jb4,g6]
theorem zp2{op:UnOp}{x:IV}{ux:Value}{r:Res}(p:Pre T E S)(h:iun op S x=some r)(hx:VR E x ux):Good P T E S (Op.unary op ux) r:=by
 unfold iun at h;split at h<;>try cases h
 all_goals
  cases hx;split at h<;>cases h
 ·exact Good.same p (by simp only[Op.unary,Op.intArith,jad]) (.int _ _ (qc8 _ _))
 ·exact Good.same p (by simp only[Op.unary,jad]) (.bool _)
theorem zld{o:Oper}{r:Res}(htt:TT P tt)(p:Pre T E S)(hf:OK E nt fr a o.op.operands.toList)(h:iop P tt nt fr S o=some r)(hrd:tin T.r r.rd)(hwr:tin T.w r.wr):qci P T E S (execOp a.eval o) r:=by
 have hcalm:qa9 P nt fr S o=some r->qci P T E S (execOp a.eval o) r:=fun h=>q53 p hf h;obtain⟨dst,op,ty,pos,aft,g⟩:=o;have gx:∀{x v},x∈op.operands.toList->evo nt fr x=some v->VR E v (a.eval x):=fun hm h=>hf _ hm _ h;cases op with
 | move x =>
  obtain⟨v,h1,h2⟩:=qaj h;cases h2;exact qb4 p (by simp only[execOp,jad]) (gx (by simp[Op.operands]) h1)
 | assign x =>
  obtain⟨v,h1,h2⟩:=qaj h;cases h2;exact qb4 p (by simp only[execOp,jad]) (gx (by simp[Op.operands]) h1)
 | pick c x y =>
  obtain⟨v,h1,h2⟩:=qaj h;split at h2<;>try cases h2
  rename_i b;obtain⟨u,h3,h4⟩:=qaj h2;cases h4;have hc:=gx (by simp[Op.operands]) h1;generalize he:a.eval c=e at hc;cases hc;refine qb4 p (u:=a.eval (cond b x y)) ?_ (gx (by cases b<;>simp [Op.operands]) h3);simp only[execOp,he,asBool,jag,jad,jaa];cases b<;>rfl
 | alloc e=>exact(zmn htt p h).res
 | box e x =>
  obtain⟨v,h1,h2⟩:=qaj h;exact(q8f p h2 (gx (by simp[Op.operands]) h1)).res
 | build t ps =>
  obtain⟨l,h1,h2⟩:=qaj h;split at h2;rotate_left
  ·exact hcalm h2
  rename_i r' hq;cases h2;have:=zfj htt p hq (qr2 (fun y hy=>hf y (by simpa [Op.operands] using hy)) h1);have e:ps.map (fun(i,x)=>(i,a.eval x))=(ps.toList.map fun p=>(p.1,a.eval p.2)).toArray:=by
   apply jdv<;>simp
  have:=this.res;rw[<- e] at this;exact this
 | buildSlice t n ps =>
  obtain⟨l,h1,h2⟩:=qaj h;have hev:=qr2 (fun y hy=>hf y (by simpa [Op.operands] using hy)) h1;have:Good P T E S (Instr.buildSlice t n (ps.toList.map fun p=>(p.1,a.eval p.2)).toArray) r:=by
   split at h2
   ·rename_i h3;cases h2;exact zn0 htt p h3 hev
   ·exact zmr htt p h2 hev
  have e:ps.map (fun(i,x)=>(i,a.eval x))=(ps.toList.map fun p=>(p.1,a.eval p.2)).toArray:=by
   apply jdv<;>simp
  have:=this.res;rw[<- e] at this;exact this
 | load t x =>
  obtain⟨v,h1,h2⟩:=qaj h;exact(zne htt p h2 hrd (gx (by simp[Op.operands]) h1)).res
 | store t x y =>
  obtain⟨v,h1,h2⟩:=qaj h;obtain⟨u,h3,h4⟩:=qaj h2;exact(zjp htt p h4 hwr (gx (by simp[Op.operands]) h1) (gx (by simp[Op.operands]) h3)).res
 | binOp op t x y t' =>
  obtain⟨v,h1,h2⟩:=qaj h;obtain⟨u,h3,h4⟩:=qaj h2;split at h4<;>try cases h4
  rename_i ti hti;exact zkl (a:=a) htt hti rfl p hf h4 (gx (by simp[Op.operands]) h1) (gx (by simp[Op.operands]) h3)
 | convert src dst x =>
  obtain⟨v,h1,h2⟩:=qaj h;split at h2
  ·exact(qtt htt p h2 hrd (gx (by simp[Op.operands]) h1)).res
  ·exact(qtt htt p h2 hrd (gx (by simp[Op.operands]) h1)).res
  ·exact(qtt htt p h2 hrd (gx (by simp[Op.operands]) h1)).res
  ·split at h2
   ·rename_i k n _ _ ts td hts htd;split at h2
    ·rename_i k0 k' hk0 hk';cases h2;have hv:=gx (by simp[Op.operands]) h1;generalize he:a.eval x=e at hv;cases hv;refine qb4 p (u:=.int k' (k'.wrap n)) ?_ (.int _ _ (qc8 _ _));have u1:=(htt _ _ hts).und;have u2:=(htt _ _ htd).und;rw[hk'] at u2;rw[hk0] at u1;have hconv:(convert src dst (.int k n)).run P E.w=.ok (.int k' (k'.wrap n)) E.w:=by simp[convert,jan u1,jan u2,Conv.intToInt]
     simp only[execOp,he,jag,hconv,jaa,jad]
    ·exact hcalm h2
   ·exact hcalm h2
  ·exact hcalm h2
 | makeInterface t x =>
  obtain⟨v,h1,h2⟩:=qaj h;exact(zp6 htt p h2 (gx (by simp[Op.operands]) h1)).res
 | makeFunc fn first caps =>
  cases fn<;>try cases h
  rename_i f;simp only[iop] at h;split at h
  ·rename_i hfirst;obtain⟨vs,h1,h2⟩:=qaj h;cases h2;have hr:=qm0 (l:=caps.toList) (fun y hy=>hf y (by simp only[Op.operands,je0];exact jdb _ hy)) h1;refine qb4 p (u:=.func (.func f) #[] (caps.toList.map a.eval).toArray) ?_ (.fn hr.1 hr.2);have e1:first=#[]:=by
    apply jcl.1;simpa using hfirst
   have e2:caps.map a.eval=(caps.toList.map a.eval).toArray:=by apply jdv<;>simp
   simp only[execOp,Instr.makeFunc,jag,jad,jaa,e1,e2];simp
  ·split at h<;>try cases h
   rename_i hcaps;obtain⟨vs,h1,h2⟩:=qaj h;cases h2;have hr:=qm0 (l:=first.toList) (fun y hy=>hf y (by simp only[Op.operands,je0];exact jdd _ hy)) h1;refine qb4 p (u:=.func (.func f) (first.toList.map a.eval).toArray #[]) ?_ (.bfn hr.1 hr.2);have e1:caps=#[]:=by
    apply jcl.1;simpa using hcaps
   have e2:first.map a.eval=(first.toList.map a.eval).toArray:=by apply jdv<;>simp
   simp only[execOp,Instr.makeFunc,jag,jad,jaa,e1,e2];simp
 | makeMap t rsv =>
  cases rsv with
  | some _=>cases h
  | none=>exact(zg8 p h).res
 | makeSlice t x y =>
  obtain⟨v,h1,h2⟩:=qaj h;cases hs:qoh x y with
  | true =>
   rw[hs,jab] at h2;have e:=za3 hs;subst e;exact(zhy htt p h2 (gx (by simp[Op.operands]) h1)).res
  | false =>
   rw[hs,jae] at h2;obtain⟨u,h3,h4⟩:=qaj h2;exact(zcu htt p h4 (gx (by simp[Op.operands]) h1) (gx (by simp[Op.operands]) h3)).res
 | slice t x lo hi mx =>
  obtain⟨v,h1,h2⟩:=qaj h;split at h2
  ·obtain⟨l,h3,h4⟩:=qaj h2;obtain⟨m,h5,h6⟩:=qaj h4;obtain⟨n,h7,h8⟩:=qaj h6;exact(q27 htt p h8 (gx (by simp[Op.operands]) h1) (qc1 (fun y hy=>hf y (by cases lo<;>simp at hy;subst hy;simp [Op.operands])) h3) (qc1 (fun y hy=>hf y (by cases hi<;>simp at hy;subst hy;simp [Op.operands])) h5) (qc1 (fun y hy=>hf y (by cases mx<;>simp at hy;subst hy;simp [Op.operands])) h7)).res
  ·obtain⟨l,h3,h4⟩:=qaj h2;obtain⟨m,h5,h6⟩:=qaj h4;obtain⟨n,h7,h8⟩:=qaj h6;exact(q27 htt p h8 (gx (by simp[Op.operands]) h1) (qc1 (fun y hy=>hf y (by cases lo<;>simp at hy;subst hy;simp [Op.operands])) h3) (qc1 (fun y hy=>hf y (by cases hi<;>simp at hy;subst hy;simp [Op.operands])) h5) (qc1 (fun y hy=>hf y (by cases mx<;>simp at hy;subst hy;simp [Op.operands])) h7)).res
  ·obtain⟨l,h3,h4⟩:=qaj h2;obtain⟨m,h5,h6⟩:=qaj h4;obtain⟨n,h7,h8⟩:=qaj h6;exact(zgt htt p h8 (gx (by simp[Op.operands]) h1) (qc1 (fun y hy=>hf y (by cases lo<;>simp at hy;subst hy;simp [Op.operands])) h3) (qc1 (fun y hy=>hf y (by cases hi<;>simp at hy;subst hy;simp [Op.operands])) h5) (qc1 (fun y hy=>hf y (by cases mx<;>simp at hy;subst hy;simp [Op.operands])) h7)).res
  ·obtain⟨l,h3,h4⟩:=qaj h2;obtain⟨m,h5,h6⟩:=qaj h4;obtain⟨n,h7,h8⟩:=qaj h6;exact(zg9 htt p h8 hrd hwr (gx (by simp[Op.operands]) h1) (qc1 (fun y hy=>hf y (by cases lo<;>simp at hy;subst hy;simp [Op.operands])) h3) (qc1 (fun y hy=>hf y (by cases hi<;>simp at hy;subst hy;simp [Op.operands])) h5) (qc1 (fun y hy=>hf y (by cases mx<;>simp at hy;subst hy;simp [Op.operands])) h7)).res
  ·exact hcalm h2
 | field t x f =>
  obtain⟨v,h1,h2⟩:=qaj h;exact(zor htt p h2 (gx (by simp[Op.operands]) h1)).res
 | nilCheck x =>
  obtain⟨v,h1,h2⟩:=qaj h;have hv:=gx (by simp[Op.operands]) h1;split at h2
  ·cases h2;generalize hu:a.eval x=u at hv;cases hv with
   | ptr hA=>exact⟨.value _,_,E,by simp only[execOp,hu,jad],.inl rfl,.ptr hA,Post.refl p,Fresh.refl E S⟩
  ·exact hcalm h2
 | fieldAddr t x f =>
  obtain⟨v,h1,h2⟩:=qaj h;exact(zf7 htt p h2 (gx (by simp[Op.operands]) h1)).res
 | indexAddr t x y =>
  obtain⟨v,h1,h2⟩:=qaj h;obtain⟨u,h3,h4⟩:=qaj h2;exact(zby htt p h4 hrd (gx (by simp[Op.operands]) h1) (gx (by simp[Op.operands]) h3)).res
 | lookup t x y ok =>
  obtain⟨v,h1,h2⟩:=qaj h;obtain⟨u,h3,h4⟩:=qaj h2;split at h4
  ·exact(zki htt p h4 hrd (gx (by simp[Op.operands]) h1) (gx (by simp[Op.operands]) h3)).res
  ·exact hcalm h4
 | mapUpdate t x y z =>
  obtain⟨v,h1,h2⟩:=qaj h;obtain⟨u,h3,h4⟩:=qaj h2;obtain⟨s,h5,h6⟩:=qaj h4;exact(q4o htt p h6 hwr (gx (by simp[Op.operands]) h1) (gx (by simp[Op.operands]) h3) (gx (by simp[Op.operands]) h5)).res
 | insert t x y z =>
  obtain⟨v,h1,h2⟩:=qaj h;obtain⟨u,h3,h4⟩:=qaj h2;obtain⟨s,h5,h6⟩:=qaj h4;exact(q4o htt p h6 hwr (gx (by simp[Op.operands]) h1) (gx (by simp[Op.operands]) h3) (gx (by simp[Op.operands]) h5)).res
 | range t x =>
  obtain⟨v,h1,h2⟩:=qaj h;exact(zjf htt p h2 (gx (by simp[Op.operands]) h1)).res
 | next x b =>
  obtain⟨v,h1,h2⟩:=qaj h;exact(zfa p h2 hrd hwr (gx (by simp[Op.operands]) h1)).res
 | typeAssert x xT asserted ok =>
  obtain⟨v,h1,h2⟩:=qaj h;split at h2
  ·exact(za6 htt p h2 (gx (by simp[Op.operands]) h1)).res
  ·exact hcalm h2
 | extract x i =>
  obtain⟨v,h1,h2⟩:=qaj h;exact(zpd p h2 (gx (by simp[Op.operands]) h1)).res
 | unOp uo t x =>
  obtain⟨v,h1,h2⟩:=qaj h;split at h2
  ·rename_i q hq;cases h2;exact(zp2 p hq (gx (by simp[Op.operands]) h1)).res
  ·exact hcalm h2
 | index t x y =>
  obtain⟨v,h1,h2⟩:=qaj h;obtain⟨u,h3,h4⟩:=qaj h2;split at h4
  ·rename_i s0 k0 i0;have hv:=gx (by simp[Op.operands]) h1;have hu:=gx (by simp[Op.operands]) h3;have:=fun k=>(zdw (k:=k) htt p h4).res;generalize he1:a.eval x=e1 at hv;generalize he2:a.eval y=e2 at hu;cases hv;cases hu with
   | int k2 i2 h2 =>
   have:=this k0;simp only[execOp,he1,he2] at this ⊢;exact this
  ·exact hcalm h4
 | call c =>
  obtain⟨callee,args,ts⟩:=c;cases callee with
  | builtin b =>
   cases b<;>first|(cases h;done)|skip
   case max =>
    simp only[iop] at h;split at h
    ·rename_i x y ha;obtain⟨v,h1,h2⟩:=qaj h;obtain⟨u,h3,h4⟩:=qaj h2;have e1:args=#[x,y]:=by apply jcl.1;simpa using ha
     subst e1;have hv:=gx (by simp[Op.operands,Call.operands]) h1;have hu:=gx (by simp[Op.operands,Call.operands]) h3;unfold imm at h4;split at h4
     ·rename_i k x1 k' y1;cases hk:kbeq k k' with
      | false=>rw[hk,jae] at h4;exact hcalm h4
      | true =>
      rw[hk,jab] at h4;cases h4;have hk:=qfg hk;subst hk;generalize he1:a.eval x=e1 at hv;generalize he2:a.eval y=e2 at hu;cases hv with
      | int _ _ w1 =>
      cases hu with
      | int _ _ w2 =>
      refine qb4 p (u:=.int k (imax x1 y1)) ?_ (.int _ _ ?_)
      ·simp[execOp,resolve,invoke,builtin,jad,he1,he2,Builtin.max_,Builtin.max2,qv3]
      ·rw[qv3];split<;>assumption
     ·exact hcalm h4
    ·exact hcalm h
   case min =>
    simp only[iop] at h;split at h
    ·rename_i x y ha;obtain⟨v,h1,h2⟩:=qaj h;obtain⟨u,h3,h4⟩:=qaj h2;have e1:args=#[x,y]:=by apply jcl.1;simpa using ha
     subst e1;have hv:=gx (by simp[Op.operands,Call.operands]) h1;have hu:=gx (by simp[Op.operands,Call.operands]) h3;unfold imm at h4;split at h4
     ·rename_i k x1 k' y1;cases hk:kbeq k k' with
      | false=>rw[hk,jae] at h4;exact hcalm h4
      | true =>
      rw[hk,jab] at h4;cases h4;have hk:=qfg hk;subst hk;generalize he1:a.eval x=e1 at hv;generalize he2:a.eval y=e2 at hu;cases hv with
      | int _ _ w1 =>
      cases hu with
      | int _ _ w2 =>
      refine qb4 p (u:=.int k (imin x1 y1)) ?_ (.int _ _ ?_)
      ·simp[execOp,resolve,invoke,builtin,jad,he1,he2,Builtin.min_,Builtin.min2,qzy]
      ·rw[qzy];split<;>assumption
     ·exact hcalm h4
    ·exact hcalm h
   case len =>
    simp only[iop] at h;split at h<;>try cases h
    rename_i x t1 ha ht;obtain⟨v,h1,h2⟩:=qaj h;have e1:args=#[x]:=by apply jcl.1;simpa using ha
    have e2:ts=#[t1]:=by apply jcl.1;simpa using ht
    subst e1;subst e2;have hrun:∀{r},ilen tt S t1 v=some r->tin T.r r.rd->qci P T E S (execOp a.eval ⟨dst,.call ⟨.builtin .len,#[x],#[t1]⟩,ty,pos,aft,g⟩) r:=fun hh hr=>by
     have:=(zqh (tr:=ty) htt p hh hr (gx (by simp[Op.operands,Call.operands]) h1)).res;simpa [qci,execOp,resolve,invoke,builtin,jag,jad,jaa] using this
    split at h2
    ·exact hrun h2 hrd
    ·exact hrun h2 hrd
    ·exact hrun h2 hrd
    ·exact hrun h2 hrd
    ·exact hrun h2 hrd
    ·exact hcalm h2
   case delete =>
    simp only[iop] at h;split at h<;>try cases h
    rename_i x y t1 t2 ha ht;obtain⟨v,h1,h2⟩:=qaj h;obtain⟨u,h3,h4⟩:=qaj h2;have e1:args=#[x,y]:=by apply jcl.1;simpa using ha
    have e2:ts=#[t1,t2]:=by apply jcl.1;simpa using ht
    subst e1;subst e2;have:=(zph (t2:=t2) (tr:=ty) htt p h4 hwr (gx (by simp[Op.operands,Call.operands]) h1) (gx (by simp[Op.operands,Call.operands]) h3)).res;simpa [qci,execOp,resolve,invoke,builtin,jag,jad,jaa] using this
   case append =>
    simp only[iop] at h;split at h<;>try cases h
    rename_i x y t1 t2 ha ht;obtain⟨v,h1,h2⟩:=qaj h;obtain⟨u,h3,h4⟩:=qaj h2;have e1:args=#[x,y]:=by apply jcl.1;simpa using ha
    have e2:ts=#[t1,t2]:=by apply jcl.1;simpa using ht
    subst e1;subst e2;have:=(zop (tr:=ty) htt p h4 hrd hwr (gx (by simp[Op.operands,Call.operands]) h1) (gx (by simp[Op.operands,Call.operands]) h3)).res;simpa [qci,execOp,resolve,invoke,builtin,jag,jad,jaa] using this
  | _=>cases h
 | _=>cases h
end
end Go.Jx
end

section
namespace Go.Jx
open Go Go.Sx Go.RowKit
universe u

inductive Tgt
 | fn (f:Nat)
 | yield (id:Nat)
abbrev Cl:=Tgt->List IV->IS->Option Res
def qbl(P:Program)(tt:Nat->Option TI)(nt:Nat)(cl:Cl)(fr:PT IV)(S:IS)(o:Oper):Option Res :=
 match o.op with
 | .call ⟨.value x,args,_⟩=>oget (evo nt fr x) fun v=>oget (evL nt fr args.toList) fun vs=>match v with
  | .fn f caps=>cl (.fn f) (vs++caps) S
  | .bfn f bs=>cl (.fn f) (bs++vs) S
  | .yield id=>cl (.yield id) vs S
  | _=>none
 | .panic x=>oget (evo nt fr x) fun v=>match v with
  | .iface t u=>some ⟨.pan (.iface t u),S,0,0⟩
  | _=>none
 | _=>iop P tt nt fr S o
def qbi:IV->Option IV
 | .pan p=>some p
 | _=>none
theorem zkd{v p:IV}(h:qbi v=some p):v=.pan p:=by
 cases v<;>first|(cases h;done)|(cases h;rfl)
def quw:IV->Bool
 | .int _ _=>true
 | .bool _=>true
 | .str _=>true
 | _=>false
def quk:IV->Bool
 | .agg cs=>cs.all quw
 | v=>quw v
def qb0:IV->Bool
 | .iface _ v=>quk v
 | v=>quk v
theorem q18{E E':Env}{v:IV}{u:Value}(hf:quw v=true)(h:VR E v u):VR E' v u:=by
 cases h<;>first|(cases hf;done)|skip
 ·exact .bool _
 ·rename_i k n h;exact .int k n h
 ·rename_i s h;exact .str s h
theorem qwh{E E':Env}{v:IV}{u:Value}(hf:quk v=true)(h:VR E v u):VR E' v u:=by
 cases v<;>first|exact q18 hf h|skip
 cases h with
 | agg hl hh=>exact .agg hl fun i a b=>q18 (ja6.1 hf _ (ja0 _)) (hh i a b)
theorem qt0{E E':Env}{v:IV}{u:Value}(hf:qb0 v=true)(h:VR E v u):VR E' v u:=by
 cases v<;>first|exact qwh hf h|skip
 cases h with
 | iface hh=>exact .iface (qwh hf hh)
theorem VR.noPan{E:Env}{v:IV}{u:Value}(h:VR E v u):qbi v=none:=by cases h<;>rfl
def RetE(T:TW)(E:Env)(S:IS)(r:Res):Ending->World->Prop:=fun e w'=>∃u E',e=.returned u/\E'.w=w'/\VR E' r.v u/\Post T E S E' r.S/\Fresh E S E'
def RetP(T:TW)(E:Env)(S:IS)(r:Res)(p:IV):Ending->World->Prop:=fun e w'=>∃u E',e=.panicked [{ v:=u,recovered:=false }]/\E'.w=w'/\VR E' p u/\Post T E S E' r.S/\Fresh E S E'
def RetX(T:TW)(E:Env)(S:IS)(r:Res)(e:Ending)(w':World):Prop:=match qbi r.v with
 | none=>RetE T E S r e w'
 | some p=>RetP T E S r p e w'
theorem RetX.of{T:TW}{E:Env}{S:IS}{r:Res}{e:Ending}{w':World}(h:RetE T E S r e w'):RetX T E S r e w':=by
 obtain⟨u,E',h1,h2,h3,h4⟩:=h;unfold RetX;rw[h3.noPan];exact⟨u,E',h1,h2,h3,h4⟩
theorem RetX.val{T:TW}{E:Env}{S:IS}{r:Res}{e:Ending}{w':World}(h:RetX T E S r e w')(hp:qbi r.v=none):RetE T E S r e w':=by
 unfold RetX at h;rw[hp] at h;exact h
theorem RetX.pan{T:TW}{E:Env}{S:IS}{r:Res}{e:Ending}{w':World}{p:IV}(h:RetX T E S r e w')(hp:qbi r.v=some p):RetP T E S r p e w':=by
 unfold RetX at h;rw[hp] at h;exact h
structure ClOK (P:Program) (cl:Cl):Prop where
 fn:∀f vs S r,cl (.fn f) vs S=some r->∀(T:TW) (E:Env) (us:List Value),Pre T E S->tin T.r r.rd->tin T.w r.wr->VRs E vs us->qai P f/\CallsIn Fence.wide 0 P f us.toArray E.w (RetX T E S r)
 yl:∀id vs S r,cl (.yield id) vs S=some r->∀(T:TW) (E:Env) (us:List Value),Pre T E S->tin T.r r.rd->tin T.w r.wr->VRs E vs us->E.A id->YieldAt Fence.wide 0 P (E.ρ id) us.toArray E.w (RetX T E S r)
section
variable {P : Program} {tt : Nat -> Option TI} {T : TW} {E : Env} {S : IS} {nt : Nat} {fr : PT IV} {a : Act} {cl : Cl} {F : Fence} {Q : Exit -> Act -> World -> Prop}

theorem zou{o:Oper}{r:Res}(h:iop P tt nt fr S o=some r):ql5 o=true:=by
 obtain⟨dst,op,ty,pos,aft,g⟩:=o;cases op<;>first|rfl|cases h
theorem qq4{o:Oper}{r:Res}(hF:F.plain=Fence.wide)(hcl:ClOK P cl)(htt:TT P tt)(p:Pre T E S)(hf:OK E nt fr a o.op.operands.toList)(h:qbl P tt nt cl fr S o=some r)(hrd:tin T.r r.rd)(hwr:tin T.w r.wr)
  {K:Act->World->Prop} (hK:∀u E',VR E' r.v u->Post T E S E' r.S->Fresh E S E'->K (a.put o.dst u) E'.w) (hP:∀p,qbi r.v=some p->∀u E',VR E' p u->Post T E S E' r.S->Fresh E S E'->Q (.panic [{ v:=u,recovered:=false }]) a E'.w):o.wpIn F 0 P a E.w K Q:=by
 refine⟨fun f _=>qlt hF f,?_⟩;have hiop:iop P tt nt fr S o=some r->o.uponIn F 0 P a K Q ((o.semAt F.round a.eval).run P E.w):=fun h=>by
  rw[qsq (zou h)];obtain⟨N,u,E',h1,h2,h3,h4,h5⟩:=zld htt p hf h hrd hwr;rw[h1];rcases h2 with rfl|⟨rfl,rfl⟩
  ·exact hK u E' h3 h4 h5
  ·exact hK undef E' h3 h4 h5
 unfold qbl at h;split at h
 ·rename_i x args ts hop;obtain⟨v,h1,h2⟩:=qaj h;obtain⟨vs,h3,h4⟩:=qaj h2;have hnd:ql5 o=true:=by obtain⟨dst,op,ty,pos,aft,g⟩:=o;simp only at hop;subst hop;rfl
  rw[qsq hnd];have ho:∀y,y=x\/y∈args.toList->y∈o.op.operands.toList:=fun y hy=>by
   rw[hop];simp only[Op.operands,Call.operands];rcases hy with rfl|hy
   ·simp
   ·simp only[je0];exact jdb _ hy
  have gv:=hf x (ho x (.inl rfl)) v h1;have gs:=qm0 (l:=args.toList) (fun y hy=>hf y (ho y (.inr hy))) h3;have e2:args.map a.eval=(args.toList.map a.eval).toArray:=by apply jdv<;>simp
  have hcont:∀e w',RetX T E S r e w'->(match e,w' with
    | .returned v,w''=>K (a.put o.dst v) w''
    | .panicked qvv,w''=>Q (.panic qvv) a w''
    | .outgrown,_=>LetsOut Q):=fun e w' hq=>by
   cases hp:qbi r.v with
   | none =>
    obtain⟨u,E',rfl,rfl,k1,k2,k3⟩:=hq.val hp;exact hK u E' k1 k2 k3
   | some p =>
    obtain⟨u,E',rfl,rfl,k1,k2,k3⟩:=hq.pan hp;exact hP p hp u E' k1 k2 k3
  split at h4
  ·rename_i f caps;generalize he:a.eval x=ex at gv;cases gv with
   | fn hl hh =>
   rename_i us;have gc:VRs E caps us:=⟨hl,hh⟩;obtain⟨hF2,hc⟩:=hcl.fn f _ S r h4 T E _ p hrd hwr (gs.append gc);obtain⟨fn,hfn,hb,hn⟩:=hF2;have hb':fn.body.isNone=false:=by cases h:fn.body<;>simp [h] at hb ⊢
   have hrun:(execOp a.eval o).run P E.w=.ok (.enter f (args.toList.map a.eval++us).toArray) E.w:=by
    obtain⟨dst,op,ty,pos,aft,g⟩:=o;simp only at hop;subst hop;simp only[execOp,resolve,he,Deferred.ofValue,invoke,callFunc,e2,jag,jad,jaa,jev,hfn,hb',hn,ja3,jbl];simp
   rw[hrun];exact⟨fun h0=>(by rw[qok hF] at h0;cases h0),(qsh (m:=0) hF (jdm.1 hc)).mono fun e w' hq=>by
    have:=hcont e w' hq;cases e<;>exact this⟩
  ·rename_i f bs;generalize he:a.eval x=ex at gv;cases gv with
   | bfn hl hh =>
   rename_i us;have gc:VRs E bs us:=⟨hl,hh⟩;obtain⟨hF2,hc⟩:=hcl.fn f _ S r h4 T E _ p hrd hwr (gc.append gs);obtain⟨fn,hfn,hb,hn⟩:=hF2;have hb':fn.body.isNone=false:=by cases h:fn.body<;>simp [h] at hb ⊢
   have hrun:(execOp a.eval o).run P E.w=.ok (.enter f (us++args.toList.map a.eval).toArray) E.w:=by
    obtain⟨dst,op,ty,pos,aft,g⟩:=o;simp only at hop;subst hop;simp only[execOp,resolve,he,Deferred.ofValue,invoke,callFunc,e2,jag,jad,jaa,jev,hfn,hb',hn,ja3,jbl];simp
   rw[hrun];exact⟨fun h0=>(by rw[qok hF] at h0;cases h0),(qsh (m:=0) hF (jdm.1 hc)).mono fun e w' hq=>by
    have:=hcont e w' hq;cases e<;>exact this⟩
  ·rename_i id;generalize he:a.eval x=ex at gv;cases gv with
   | yield hA =>
   obtain⟨fn,tmps,assign,body,hr,hR⟩:=hcl.yl id _ S r h4 T E _ p hrd hwr gs hA;have hrun:(execOp a.eval o).run P E.w=.ok (.round (E.ρ id) fn tmps assign body) E.w:=by
    obtain⟨dst,op,ty,pos,aft,g⟩:=o;simp only at hop;subst hop;have h2:(Deferred.ofValue (.func (.yield (E.ρ id)) #[] #[]) (args.toList.map a.eval).toArray).run P E.w=.ok { target:=.fn (.yield (E.ρ id)) #[],args:=(args.toList.map a.eval).toArray } E.w:=by
     simp only[Deferred.ofValue,jad];simp
    simp only[execOp,resolve,he,e2,jag,h2,jaa,invoke,hr]
   rw[hrun];have hR2:RoundIn F 0 P (E.ρ id) fn tmps assign body E.w (RetX T E S r):=by
    have h1:RoundIn F.plain 0 P (E.ρ id) fn tmps assign body E.w (RetX T E S r):=by rw[hF];exact hR
    exact h1
   exact⟨fun h0=>(by rw[qok hF] at h0;cases h0),hR2.mono fun e w' hq=>by
    have:=hcont e w' hq;cases e<;>exact this⟩
  ·cases h4
 ·rename_i x hop;obtain⟨v,h1,h2⟩:=qaj h;have hnd:ql5 o=true:=by obtain⟨dst,op,ty,pos,aft,g⟩:=o;simp only at hop;subst hop;rfl
  rw[qsq hnd];have gv:=hf x (by rw[hop];simp [Op.operands]) v h1;split at h2
  ·rename_i ti y;cases h2;generalize he:a.eval x=ex at gv;cases gv with
   | iface hv =>
   rename_i u;have hrun:(execOp a.eval o).run P E.w=.halt (.panic (.iface ti u)) E.w:=by
    obtain⟨dst,op,ty,pos,aft,g⟩:=o;simp only at hop;subst hop;simp only[execOp,he];rfl
   rw[hrun];exact hP _ rfl _ E (.iface hv) (Post.refl p) (Fresh.refl E S)
  ·cases h2
 ·exact hiop h

def qbv(ops:List Oper)(nt:Nat)(fr:PT IV):Option (Nat × Bool)->Bool
 | none=>true
 | some (j,want)=>match qb1 ops j with
  | none=>false
  | some t=>cond (Nat.blt t nt) (match slot fr t with
   | .bool b=>cond want b (!b)
   | _=>false) false
def qp8(ops:List Oper):Option (Nat × Bool)->Option Nat
 | none=>none
 | some (j,_)=>qb1 ops j
def gOK(ops:List Oper)(fr:PT IV)(g:Option (Nat × Bool)):Bool:=match qp8 ops g with
 | none=>true
 | some t=>qcy (slot fr t)
theorem q7l{ops:List Oper}{o:Oper}(hk:gOK ops fr o.guard=true)(hs:a.tmps.size=nt)(hf:∀t,qp8 ops o.guard=some t->t<nt->VR E (slot fr t) (a.tmps.getD t undef)):Region.wanted o (yielded ops.toArray a.tmps)=qbv ops nt fr o.guard:=by
 unfold Region.wanted qbv;unfold gOK at hk;cases hg:o.guard with
 | none=>rfl
 | some q =>
  obtain⟨j,want⟩:=q;simp only;have e:(ops.toArray[j]?).bind (·.dst)=qb1 ops j:=by rw[qhb];simp
  unfold yielded;rw[e];cases hd:qb1 ops j with
  | none=>simp
  | some t =>
   simp only[jfi];by_cases ht:t<nt
   ·have hb:Nat.blt t nt=true:=by simpa using ht
    rw[hb,jab];have h1:=hf t (by rw[hg];exact hd) ht;have hk2:qcy (slot fr t)=true:=by
     have hgs:qp8 ops o.guard=some t:=by rw[hg];exact hd
     rw[hgs] at hk;exact hk
    have h2:a.tmps[t]?=some (a.tmps.getD t undef):=by
     rw[jdw (by rw[hs];exact ht)];simp [jcr,hs,ht]
    rw[h2];generalize a.tmps.getD t undef=u at h1;generalize slot fr t=x at h1 hk2;cases h1<;>first|(cases hk2;done)|(simp;done)|skip
    rename_i b;cases want<;>cases b<;>rfl
   ·have hb:Nat.blt t nt=false:=by
     cases h:Nat.blt t nt with
     | false=>rfl
     | true=>exact absurd (by simpa using h) ht
    rw[hb,jae];rw[jc5 (by rw[hs];omega)];simp
def putD:Option Tmp->IV->PT IV->PT IV
 | none,_,fr=>fr
 | some d,v,fr=>fr.set v d
theorem FR.putD{d:Option Tmp}{v:IV}{u:Value}(h:FR E nt fr a.tmps)(hv:VR E v u):FR E nt (putD d v fr) (a.put d u).tmps:=by
 cases d with
 | none=>exact h
 | some d=>exact h.put hv

structure FRes:Type where
 fr:PT IV
 S:IS
 rd:Nat
 wr:Nat
 p:Option IV
def PanR(E:Env):Option IV->Exit->Prop
 | none,x=>x=.normal
 | some p,x=>∃u,x=.panic [{ v:=u,recovered:=false }]/\VR E p u
def iseq(P:Program)(tt:Nat->Option TI)(nt:Nat)(cl:Cl)(ops:List Oper):List Oper->PT IV->IS->Option FRes
 | [],fr,S=>some ⟨fr,S,0,0,none⟩
 | o::l,fr,S=>cond (gOK ops fr o.guard) (cond (qbv ops nt fr o.guard)
  (match qbl P tt nt cl fr S o with
  | none=>none
  | some r=>match qbi r.v with
   | some p=>some ⟨fr,r.S,r.rd,r.wr,some p⟩
   | none=>match iseq P tt nt cl ops l (putD o.dst r.v fr) r.S with
    | none=>none
    | some q=>some ⟨q.fr,q.S,r.rd ||| q.rd,r.wr ||| q.wr,q.p⟩)
  (iseq P tt nt cl ops l (putD o.dst (.tup []) fr) S)) none
theorem qvc{ops:List Oper}(hF:F.plain=Fence.wide)(hcl:ClOK P cl)(htt:TT P tt):∀(l:List Oper) (fr:PT IV) (S:IS) (E:Env) (a:Act) (q:FRes),Pre T E S->FR E nt fr a.tmps->iseq P tt nt cl ops l fr S=some q->tin T.r q.rd->tin T.w q.wr ->
  (∀E' a' x,PanR E' q.p x->FR E' nt q.fr a'.tmps->a'.defers=a.defers->Post T E S E' q.S->Fresh E S E'->Q x a' E'.w)->wpListIn F 0 P ops.toArray Q l a E.w
 | [],fr,S,E,a,q,p,hf,h,hrd,hwr,hQ=>by
  cases h;exact hQ E a _ rfl hf rfl (Post.refl p) (Fresh.refl E S)
 | o::l,fr,S,E,a,q,p,hf,h,hrd,hwr,hQ=>by
  unfold iseq at h;cases hgk:gOK ops fr o.guard with
  | false=>rw[hgk] at h;cases h
  | true =>
  rw[hgk,jab] at h;have hw:=q7l (ops:=ops) (o:=o) hgk hf.size (fun t _ ht=>hf.get t ht);unfold wpListIn;rw[hw];have hput:∀u,(a.put o.dst u).defers=a.defers:=fun u=>by cases o.dst<;>rfl
  cases hg:qbv ops nt fr o.guard with
  | true =>
   rw[hg,jab] at h;rw[jam rfl];split at h
   ·cases h
   rename_i r hr;split at h
   ·rename_i pv hpv;cases h;refine qq4 hF hcl htt p (OK.of hf) hr hrd hwr (fun u E' k1 k2 k3=>?_) fun p' hp' u E' k1 k2 k3=>?_
    ·rw[k1.noPan] at hpv;cases hpv
    ·rw[hpv] at hp';cases hp';exact hQ E' a _ ⟨u,rfl,k1⟩ (hf.mono (k2.env p)) rfl k2 k3
   rename_i hpv;split at h<;>cases h;rename_i q hq;obtain⟨t1,t2⟩:=qat hrd;obtain⟨t3,t4⟩:=qat hwr;refine qq4 hF hcl htt p (OK.of hf) hr t1 t3 (fun u E' k1 k2 k3=>?_) fun p' hp'=>by rw[hpv] at hp';cases hp'
   have p':=k2.pre p;exact qvc hF hcl htt l _ _ E' _ q p' (FR.putD (hf.mono (k2.env p)) k1) hq t2 t4 fun E'' a' x m0 m1 m2 m3 m4=>hQ E'' a' x m0 m1 (m2.trans (hput u)) (Post.trans p k2 k3 m3) (k3.trans m4 k2.le)
  | false =>
   rw[hg,jae] at h;rw[jak (by simp)];refine⟨fun f _=>qlt hF f,?_⟩;exact qvc hF hcl htt l _ _ E _ q p (FR.putD hf (.tup (us:=[]) rfl (fun i h=>by simp at h))) h hrd hwr fun E'' a' x m0 m1 m2 m3 m4=>hQ E'' a' x m0 m1 (m2.trans (hput undef)) m3 m4
end
end Go.Jx
end

section
namespace Go.Jx
open Go Go.Sx Go.RowKit
universe u

def ix(D wt:Nat->Bool):Nat->Nat
 | 0=>0
 | k+1=>if D k=true/\wt k=true then k+1 else ix D wt k
theorem qf6{D wt:Nat->Bool}{k:Nat}(h:D k=true/\wt k=true):ix D wt (k+1)=k+1:=jam h
theorem qdw{D wt:Nat->Bool}{k:Nat}(h:¬(D k=true/\wt k=true)):ix D wt (k+1)=ix D wt k:=jak h
theorem qx9{D wt:Nat->Bool}{j:Nat}(h1:∀i,i<j->wt i=true->D i=true):∀n,j<=n->(∀i,j<=i->i<n->wt i=true->D i=false)->ix D wt n=ix (fun _=>true) wt j:=by
 have low:∀k,k<=j->ix D wt k=ix (fun _=>true) wt k:=by
  intro k;induction k with
  | zero=>intro _;rfl
  | succ k ih =>
   intro hk;by_cases hw:wt k=true
   ·rw[qf6 ⟨h1 k (by omega) hw,hw⟩,qf6 ⟨rfl,hw⟩]
   ·rw[qdw (fun h=>hw h.2),qdw (fun h=>hw h.2)];exact ih (by omega)
 intro n;induction n with
 | zero =>
      intro hj _;have e:j=0:=by omega
      subst e;rfl
 | succ n ih =>
  intro hj h2;by_cases he:j=n+1
  ·rw[<- he];exact low j (jap _)
  ·rw[qdw (fun h=>by
    have:=h2 n (by omega) (by omega) h.2;rw[this] at h;exact absurd h.1 (by simp))]
   exact ih (by omega) fun i a b c=>h2 i a (by omega) c
theorem qtx(wt:Nat->Bool):∀j,ix (fun _=>true) wt j<=j
 | 0=>jap _
 | j+1=>by
  unfold ix;split
  ·exact jap _
  ·exact Nat.le_succ_of_le (qtx wt j)
theorem qtj{D D' wt:Nat->Bool}{j:Nat}(hD:∀i,D' i=true↔D i=true\/i=j):∀n,(wt j=true->∀i,j<i->i<n->wt i=true->D i=false)->ix D' wt n=if j<n/\wt j=true then j+1 else ix D wt n:=by
 intro n;induction n with
 | zero=>intro _;rfl
 | succ n ih =>
  intro h2;have ih:=ih fun a i b c d=>h2 a i b (by omega) d;by_cases hj:n=j
  ·subst hj;by_cases hw:wt n=true
   ·rw[qf6 ⟨(hD n).2 (.inr rfl),hw⟩,jam ⟨by omega,hw⟩]
   ·rw[qdw (fun h=>hw h.2),jak (fun h=>hw h.2),ih,jak (fun h=>hw h.2),qdw (fun h=>hw h.2)]
  ·have hdd:D' n=true↔D n=true:=⟨fun h=>((hD n).1 h).resolve_right hj,fun h=>(hD n).2 (.inl h)⟩;by_cases hb:D n=true/\wt n=true
   ·rw[qf6 ⟨hdd.2 hb.1,hb.2⟩];have hc:¬(j<n+1/\wt j=true):=fun hc=>by
     have:=h2 hc.2 n (by omega) (by omega) hb.2;rw[this] at hb;exact absurd hb.1 (by simp)
    rw[jak hc,qf6 hb]
   ·rw[qdw (fun h=>hb ⟨hdd.1 h.1,h.2⟩),ih];by_cases hc:j<n/\wt j=true
    ·rw[jam hc,jam ⟨by omega,hc.2⟩]
    ·rw[jak hc,jak (fun h=>hc ⟨by omega,h.2⟩),qdw hb]

def Env.bel(E:Env)(k:Nat):Env:={ E with A:=fun id=>E.A id/\id<k }
theorem Env.bel_le{E E':Env}(h:E.Le E')(k:Nat):(E.bel k).Le (E'.bel k) :=
 ⟨fun id ha=>let ⟨a,b,c⟩:=h.alw id ha.1;⟨⟨a,ha.2⟩,b,c⟩,h.tr⟩
theorem Env.bel_mono(E:Env){k k':Nat}(h:k<=k'):(E.bel k).Le (E.bel k'):=⟨fun id ha=>⟨⟨ha.1,jaz ha.2 h⟩,rfl,rfl,rfl,rfl⟩,Tr.refl _ _⟩
theorem Env.bel_self(E:Env)(k:Nat):(E.bel k).Le E:=⟨fun id ha=>⟨ha.1,rfl,rfl,rfl,rfl⟩,Tr.refl _ _⟩
theorem OR.bel{E:Env}{id k k':Nat}{o:IObj}(h:k<=k')(ho:OR (E.bel k) id o):OR (E.bel k') id o:=by
 cases o with
 | dead=>trivial
 | row cs=>obtain⟨cells,t,h1,h2,h3,h4⟩:=ho;exact⟨cells,t,h1,h2,h3,h4.mono (E.bel_mono h)⟩
 | arr c l=>obtain⟨a,cap,h1,h2,h3,h4,h5⟩:=ho;exact⟨a,cap,h1,h2,h3,h4,h5.imp (fun h=>h) fun⟨b1,b2,cells,t,b3,b4,b5⟩=>⟨b1,b2,cells,t,b3,b4,b5.mono (E.bel_mono h)⟩⟩
 | frz c l=>exact VR.mono (E.bel_mono h) ho
 | map es=>obtain⟨ents,c,h1,h2,h3,h4⟩:=ho;exact⟨ents,c,h1,h2.mono (E.bel_mono h),h3.mono (E.bel_mono h),h4⟩
 | tmap kc vc es=>obtain⟨ents,c,h1,h2,h3,h4⟩:=ho;exact⟨ents,c,h1,h2.mono (E.bel_mono h),h3.mono (E.bel_mono h),h4⟩
 | iter s p=>exact ho
 | defs on=>exact ho
 | bld j=>obtain⟨p,v,h1,h2,h3⟩:=ho;exact⟨p,v,h1,h2,h3.mono (E.bel_mono h)⟩
 | loop st pend nt fr ps assign body D=>obtain⟨fn,tmps,h1,h2,h3⟩:=ho;exact⟨fn,tmps,h1,h2.mono (E.bel_mono h),((E.bel_mono h).alw _ h3).1⟩
theorem OR.of_bel{E:Env}{id k:Nat}{o:IObj}(ho:OR (E.bel k) id o):OR E id o:=by
 cases o with
 | dead=>trivial
 | row cs=>obtain⟨cells,t,h1,h2,h3,h4⟩:=ho;exact⟨cells,t,h1,h2,h3,h4.mono (E.bel_self k)⟩
 | arr c l=>obtain⟨a,cap,h1,h2,h3,h4,h5⟩:=ho;exact⟨a,cap,h1,h2,h3,h4,h5.imp (fun h=>h) fun⟨b1,b2,cells,t,b3,b4,b5⟩=>⟨b1,b2,cells,t,b3,b4,b5.mono (E.bel_self k)⟩⟩
 | frz c l=>exact VR.mono (E.bel_self k) ho
 | map es=>obtain⟨ents,c,h1,h2,h3,h4⟩:=ho;exact⟨ents,c,h1,h2.mono (E.bel_self k),h3.mono (E.bel_self k),h4⟩
 | tmap kc vc es=>obtain⟨ents,c,h1,h2,h3,h4⟩:=ho;exact⟨ents,c,h1,h2.mono (E.bel_self k),h3.mono (E.bel_self k),h4⟩
 | iter s p=>exact ho
 | defs on=>exact ho
 | bld j=>obtain⟨p,v,h1,h2,h3⟩:=ho;exact⟨p,v,h1,h2,h3.mono (E.bel_self k)⟩
 | loop st pend nt fr ps assign body D=>obtain⟨fn,tmps,h1,h2,h3⟩:=ho;exact⟨fn,tmps,h1,h2.mono (E.bel_self k),((E.bel_self k).alw _ h3).1⟩
theorem OR.mv{E E':Env}(e:E.Le E'){id:Nat}{o:IObj}(hρ:E'.ρ id=E.ρ id/\E'.κ id=E.κ id/\E'.hd id=E.hd id/\E'.hb id=E.hb id)(hB:o.blk=true->E.hb id=true)(hs:o.live=true->E.hb id=true->E'.w.heap[E.ρ id]?=E.w.heap[E.ρ id]?)(h:OR E id o):OR E' id o:=by
 obtain⟨a2,a3,a4,a5⟩:=hρ;cases o with
 | dead=>trivial
 | frz c l=>show VR E' (.lst c l) (E'.hd id);rw[a4];exact VR.mono e h
 | row cs=>obtain⟨cells,t,h1,h2,h3,h4⟩:=h;exact⟨cells,t,by rw[a2,hs rfl (hB rfl),h1],by rw[a3,h2],h3,h4.mono e⟩
 | arr c l =>
  obtain⟨a,cap,h1,h2,h3,h4,h5⟩:=h;refine⟨a,cap,by rw[a4,h1],h2,h3,h4,?_⟩;rcases h5 with ⟨h5,h6⟩|⟨h5,h6,cells,t,h7,h8,h9⟩
  ·exact .inl ⟨by rw[a5,h5],h6⟩
  ·exact .inr ⟨by rw[a5,h5],by rw[a2,h6],cells,t,by rw[a2,hs rfl h5,h7],h8,h9.mono e⟩
 | map es=>obtain⟨ents,c,h1,h2,h3,h4⟩:=h;exact⟨ents,c,by rw[a2,hs rfl (hB rfl),h1],h2.mono e,h3.mono e,h4⟩
 | tmap k v es=>obtain⟨ents,c,h1,h2,h3,h4⟩:=h;exact⟨ents,c,by rw[a2,hs rfl (hB rfl),h1],h2.mono e,h3.mono e,h4⟩
 | iter s p=>show _/\_;rw[a2,hs rfl (hB rfl)];exact h
 | defs on=>show _=_;rw[a2,hs rfl (hB rfl)];exact h
 | bld j=>obtain⟨p,v,h1,h2,h3⟩:=h;exact⟨p,v,by rw[a2,hs rfl (hB rfl),h1],by rw[a2];exact h2,h3.mono e⟩
 | loop st pend nt fr ps assign body D =>
  obtain⟨fn,tmps,h1,h2,h3⟩:=h;obtain⟨b1,b2,_⟩:=e.alw D h3;exact⟨fn,tmps,by rw[a2,hs rfl (hB rfl),h1,b2],h2.mono e,b1⟩

structure Reg (P:Program) (tt:Nat->Option TI) (nt:Nat) (cl:Cl) (ops:List Oper) (fr:Nat->PT IV) (S:Nat->IS) (v:Nat->IV) (rd wr:Nat->Nat) (run:Nat->Bool) (B:Nat->Nat) (Wr:Nat->Nat->Bool) (ok:Nat->Bool):Prop where
 step:∀i o,ops[i]?=some o->ok i=true->(run i=qbv ops nt (fr i) o.guard/\gOK ops (fr i) o.guard=true)/\(run i=true->qbl P tt nt cl (fr i) (S i) o=some ⟨v i,S (i+1),rd i,wr i⟩) /\
  (run i=false->v i=.tup []/\S (i+1)=S i)/\qbi (v i)=none
 put:∀i o,ops[i]?=some o->fr (i+1)=putD o.dst (v i) (fr i)
 mono:∀i,i<ops.length->(S i).next<=(S (i+1)).next
 small:∀i,i<ops.length->∀id,(rd i).testBit id=true\/(wr i).testBit id=true->id<(S i).next
 wrs:∀i id,i<ops.length->(Wr i id=true↔(wr i).testBit id=true\/((S i).next<=id/\id<(S (i+1)).next))
 back:∀(i:Nat) (o:Oper),ops[i]?=some o->∀e∈o.after,Region.binds .any e=true->e.on<i
 bef:∀(i:Nat) (o:Oper) (j:Nat),ops[i]?=some o->(B i).testBit j=true->∃e,e∈o.after/\Region.binds .any e=true/\(j=e.on\/(B e.on).testBit j=true)
 free:∀(i j:Nat) (oi oj:Oper),i<j->ops[i]?=some oi->ops[j]?=some oj->(B j).testBit i=false ->
  oi.apart ops.toArray oj=true/\(∀id,Wr i id=true->Wr j id=false/\(rd j).testBit id=false)/\(∀id,(rd i).testBit id=true->Wr j id=false)
 frame:∀i,i<ops.length->∀id,id<(S i).next->(wr i).testBit id=false->(S (i+1)).H id=(S i).H id
namespace Reg
section
variable {P : Program} {tt : Nat -> Option TI} {nt : Nat} {cl : Cl} {ops : List Oper} {fr : Nat -> PT IV} {S : Nat -> IS} {v : Nat -> IV} {rd wr : Nat -> Nat} {run : Nat -> Bool} {B : Nat -> Nat} {Wr : Nat -> Nat -> Bool} {ok : Nat -> Bool}
variable {F : Fence} {Q : Exit -> Act -> World -> Prop} {T : TW} {E0 : Env}

theorem mono_le(R:Reg P tt nt cl ops fr S v rd wr run B Wr ok):∀{i j:Nat},i<=j->j<=ops.length->(S i).next<=(S j).next:=by
 intro i j hij;induction j with
 | zero=>intro _;rw[show i=0 by omega];exact jap _
 | succ j ih =>
  intro hj;by_cases h:i=j+1
  ·rw[h];exact jap _
  ·exact ja5 (ih (by omega) (by omega)) (R.mono j (by omega))
def wtS(ops:List Oper)(t i:Nat):Bool:=match qb1 ops i with|some d=>Nat.beq d t|none=>false
theorem qu1{t i:Nat}:wtS ops t i=true↔qb1 ops i=some t:=by
 unfold wtS;cases h:qb1 ops i with
 | none=>simp
 | some d=>simp
theorem slot_at(R:Reg P tt nt cl ops fr S v rd wr run B Wr ok)(t:Nat):∀j,j<=ops.length->slot (fr j) t=slot (fr (ix (fun _=>true) (wtS ops t) j)) t
 | 0,_=>rfl
 | j+1,hj=>by
  have h4:=R.put j _ (jac (by omega));have hd:qb1 ops j=(ops[j]'(by omega)).dst:=by rw[qhb,jac (by omega)];rfl
  by_cases hw:wtS ops t j=true
  ·rw[qf6 ⟨rfl,hw⟩]
  ·rw[qdw (fun h=>hw h.2),<- R.slot_at t j (by omega),h4];have hne:(ops[j]'(by omega)).dst≠some t:=fun e=>hw (qu1.2 (hd.trans e));cases e:(ops[j]'(by omega)).dst with
   | none=>rfl
   | some d=>rw[e] at hne;unfold putD;rw[qdh,jak (fun h=>hne (by rw[h]))]
theorem heap_at(R:Reg P tt nt cl ops fr S v rd wr run B Wr ok)(id:Nat):∀j,j<=ops.length->id<(S j).next->(S j).H id=(S (ix (fun _=>true) (fun i=>Wr i id) j)).H id
 | 0,_,_=>rfl
 | j+1,hj,hid=>by
  by_cases hw:Wr j id=true
  ·rw[qf6 (wt:=fun i=>Wr i id) ⟨rfl,hw⟩]
  ·rw[qdw (wt:=fun i=>Wr i id) (fun h=>hw h.2)];have h1:¬((wr j).testBit id=true\/((S j).next<=id/\id<(S (j+1)).next)):=fun h=>hw ((R.wrs j id (by omega)).2 h);have h2:id<(S j).next:=by
    rcases jbm id (S j).next with h|h
    ·exact h
    ·exact absurd (.inr ⟨h,hid⟩) h1
   have h3:(wr j).testBit id=false:=by
    cases h:(wr j).testBit id with
    | false=>rfl
    | true=>exact absurd (.inl h) h1
   rw[R.frame j (by omega) id h2 h3];exact R.heap_at id j (by omega) h2

structure Inv (ops:List Oper) (nt:Nat) (fr:Nat->PT IV) (S:Nat->IS) (Wr:Nat->Nat->Bool) (T:TW) (E0:Env) (D:Nat->Bool) (E:Env) (a:Act):Prop where
 objs:∀id,T.r id->E.A id->∀o,(S (ix D (fun i=>Wr i id) ops.length)).H id=some o->OR (E.bel (S (ix D (fun i=>Wr i id) ops.length)).next) id o
 blk:∀id,T.r id->E.A id->∀o,(S (ix D (fun i=>Wr i id) ops.length)).H id=some o->o.blk=true->E.hb id=true
 own:∀id,T.r id->E.A id->Live E (fun id=>(S (ix D (fun i=>Wr i id) ops.length)).H id) id->E.ρ id∈E.m
 inj:∀i j,T.r i->T.r j->E.A i->E.A j->Live E (fun id=>(S (ix D (fun i=>Wr i id) ops.length)).H id) i->Live E (fun id=>(S (ix D (fun i=>Wr i id) ops.length)).H id) j->E.ρ i=E.ρ j->i=j
 lo:∀b∈E.m,b<E.w.heap.size
 gl:Gl E.m E.w
 ids:∀id,E.A id->E0.A id\/∃i,i<ops.length/\D i=true/\(S i).next<=id/\id<(S (i+1)).next
 stp:Stp T.w E0 (S 0).H E (fun id=>(S (ix D (fun i=>Wr i id) ops.length)).H id)
 size:a.tmps.size=nt
 slots:∀t,t<nt->VR (E.bel (S (ix D (wtS ops t) ops.length)).next) (slot (fr (ix D (wtS ops t) ops.length)) t) (a.tmps.getD t undef)
structure Nx (ops:List Oper) (D:Nat->Bool) (B:Nat->Nat) (j:Nat):Prop where
 lt:j<ops.length
 not:D j=false
 ahead:∀i,(B j).testBit i=true->D i=true
 closed:∀i,i<ops.length->D i=true->∀k,(B i).testBit k=true->D k=true
theorem q10{D:Nat->Bool}{j:Nat}{wt:Nat->Bool}(N:Nx ops D B j)(h1:∀i,i<j->wt i=true->(B j).testBit i=true)(h2:∀i,j<i->i<ops.length->wt i=true->(B i).testBit j=true)(hj:wt j=true->False\/True) :
  (∀i,j<i->i<ops.length->wt i=true->D i=false)/\(D j=false->ix D wt ops.length=ix (fun _=>true) wt j):=by
 have ha:∀i,j<i->i<ops.length->wt i=true->D i=false:=fun i hi hl hw=>by
  cases hd:D i with
  | false=>rfl
  | true =>
   have:=N.closed i hl hd j (h2 i hi hl hw);rw[N.not] at this;cases this
 refine⟨ha,fun hn=>?_⟩;refine qx9 (fun i hi hw=>N.ahead i (h1 i hi hw)) _ (jco N.lt) fun i hi hl hw=>?_;rcases jbm j i with h|h
 ·exact ha i h hl hw
 ·rw[show i=j by omega];exact hn
theorem look_here(R:Reg P tt nt cl ops fr S v rd wr run B Wr ok){D:Nat->Bool}{j:Nat}{oj:Oper}(N:Nx ops D B j)(hj:ops[j]?=some oj){t:Nat}(ht:t∈oj.looksAt ops.toArray\/oj.dst=some t) :
  (∀i,j<i->i<ops.length->wtS ops t i=true->D i=false)/\ix D (wtS ops t) ops.length=ix (fun _=>true) (wtS ops t) j:=by
 have hw:∀i,wtS ops t i=true->∃oi,ops[i]?=some oi/\oi.dst=some t:=fun i h=>by
  have:=qu1.1 h;rw[qhb] at this;cases ho:ops[i]? with
  | none=>rw[ho] at this;cases this
  | some oi=>rw[ho] at this;exact⟨oi,rfl,this⟩
 have h:=q10 (wt:=wtS ops t) N (fun i hi h=>by
  cases hb:(B j).testBit i with
  | true=>rfl
  | false =>
   obtain⟨oi,h1,h2⟩:=hw i h;obtain⟨k1,k2,k3⟩:=Oper.apart_spec (R.free i j oi oj hi h1 hj hb).1;rcases ht with ht|ht
   ·exact absurd ht (k1 t h2)
   ·exact absurd ht (k2 t h2)) (fun i hi hl h=>by
  cases hb:(B i).testBit j with
  | true=>rfl
  | false =>
   obtain⟨oi,h1,h2⟩:=hw i h;obtain⟨k1,k2,k3⟩:=Oper.apart_spec (R.free j i oj oi hi hj h1 hb).1;rcases ht with ht|ht
   ·exact absurd ht (k3 t h2)
   ·exact absurd h2 (k2 t ht)) (fun _=>.inr trivial)
 exact⟨h.1,h.2 N.not⟩
theorem touch_here(R:Reg P tt nt cl ops fr S v rd wr run B Wr ok){D:Nat->Bool}{j:Nat}{oj:Oper}(N:Nx ops D B j)(hj:ops[j]?=some oj){id:Nat}(ht:(rd j).testBit id=true\/Wr j id=true) :
  (∀i,j<i->i<ops.length->Wr i id=true->D i=false)/\ix D (fun i=>Wr i id) ops.length=ix (fun _=>true) (fun i=>Wr i id) j:=by
 have h:=q10 (wt:=fun i=>Wr i id) N (fun i hi h=>by
  cases hb:(B j).testBit i with
  | true=>rfl
  | false =>
   have hl:i<ops.length:=Nat.lt_trans hi N.lt;obtain⟨_,k2,k3⟩:=R.free i j _ oj hi (jac hl) hj hb;obtain⟨k4,k5⟩:=k2 id h;rcases ht with ht|ht
   ·rw[k5] at ht;cases ht
   ·rw[k4] at ht;cases ht) (fun i hi hl h=>by
  cases hb:(B i).testBit j with
  | true=>rfl
  | false =>
   obtain⟨_,k2,k3⟩:=R.free j i oj _ hi hj (jac hl) hb;rcases ht with ht|ht
   ·have:=k3 id ht;rw[this] at h;cases h
   ·have:=(k2 id ht).1;rw[this] at h;cases h) (fun _=>.inr trivial)
 exact⟨h.1,h.2 N.not⟩
end
end Reg
end Go.Jx
end

section
namespace Go.Jx
open Go Go.Sx Go.RowKit
universe u
namespace Reg
section
variable {P : Program} {tt : Nat -> Option TI} {nt : Nat} {cl : Cl} {ops : List Oper} {fr : Nat -> PT IV} {S : Nat -> IS} {v : Nat -> IV} {rd wr : Nat -> Nat} {run : Nat -> Bool} {B : Nat -> Nat} {Wr : Nat -> Nat -> Bool} {ok : Nat -> Bool}
variable {F : Fence} {Q : Exit -> Act -> World -> Prop} {T : TW} {E0 : Env}

noncomputable def mrg(E E':Env)(k:Nat):Env :=
 { ρ:=fun id=>open Classical in if k<=id/\E'.A id then E'.ρ id else E.ρ id
   κ:=fun id=>open Classical in if k<=id/\E'.A id then E'.κ id else E.κ id
   hd:=fun id=>open Classical in if k<=id/\E'.A id then E'.hd id else E.hd id
   hb:=fun id=>open Classical in if k<=id/\E'.A id then E'.hb id else E.hb id
   A:=fun id=>E.A id\/(k<=id/\E'.A id)
   m:=E'.m
   w:=E'.w }
def Tj(rd wr k:Nat):TW:=⟨fun id=>rd.testBit id=true\/wr.testBit id=true\/k<=id,fun id=>wr.testBit id=true\/k<=id,fun id h=>.inr h⟩
theorem slots_here(R:Reg P tt nt cl ops fr S v rd wr run B Wr ok){D:Nat->Bool}{j:Nat}{oj:Oper}{E:Env}{a:Act}(N:Nx ops D B j)(I:Inv ops nt fr S Wr T E0 D E a)(hj:ops[j]?=some oj){t:Nat}(ht:t∈oj.looksAt ops.toArray)(hn:t<nt) :
  VR (E.bel (S j).next) (slot (fr j) t) (a.tmps.getD t undef):=by
 have h:=(R.look_here N hj (.inl ht)).2;have h1:=I.slots t hn;rw[h,<- R.slot_at t j (jco N.lt)] at h1;exact h1.mono (E.bel_mono (R.mono_le (qtx _ _) (jco N.lt)))
theorem pre_here(R:Reg P tt nt cl ops fr S v rd wr run B Wr ok){D:Nat->Bool}{j:Nat}{oj:Oper}{E:Env}{a:Act}(N:Nx ops D B j)(I:Inv ops nt fr S Wr T E0 D E a)(hj:ops[j]?=some oj)
  (hrd:∀id,(rd j).testBit id=true->T.r id) (hwr:∀id,(wr j).testBit id=true->T.w id):Pre (Tj (rd j) (wr j) (S j).next) (E.bel (S j).next) (S j):=by
 have hacc:∀id,(Tj (rd j) (wr j) (S j).next).r id->id<(S j).next->T.r id/\(S j).H id=(S (ix D (fun i=>Wr i id) ops.length)).H id/\(S (ix D (fun i=>Wr i id) ops.length)).next<=(S j).next:=fun id h hlt=>by
  have ht:(rd j).testBit id=true\/Wr j id=true:=by
   rcases h with h|h|h
   ·exact .inl h
   ·exact .inr ((R.wrs j id N.lt).2 (.inl h))
   ·omega
  have hT:T.r id:=by
   rcases h with h|h|h
   ·exact hrd id h
   ·exact T.sub _ (hwr id h)
   ·omega
  have e:=(R.touch_here N hj ht).2;rw[e];exact⟨hT,R.heap_at id j (jco N.lt) hlt,R.mono_le (qtx _ _) (jco N.lt)⟩
 have hlive:∀id,(Tj (rd j) (wr j) (S j).next).r id->id<(S j).next->Live (E.bel (S j).next) (S j).H id->Live E (fun id=>(S (ix D (fun i=>Wr i id) ops.length)).H id) id:=fun id h hlt ⟨h0,o,h1,h2⟩=>⟨h0,o,by rw[(hacc id h hlt).2.1] at h1;exact h1,h2⟩
 refine⟨⟨fun id ht ha o ho=>?_,fun id ht ha o ho hbk=>?_,fun id ht ha hl=>?_,fun i k a1 a2 a3 a4 a5 a6 a7=>?_,I.lo⟩,fun id h=>h.2,fun id h=>.inr h,I.gl⟩
 ·obtain⟨k1,k2,k3⟩:=hacc id ht ha.2;rw[k2] at ho;exact(I.objs id k1 ha.1 o ho).bel k3
 ·obtain⟨k1,k2,k3⟩:=hacc id ht ha.2;rw[k2] at ho;exact I.blk id k1 ha.1 o ho hbk
 ·exact I.own id (hacc id ht ha.2).1 ha.1 (hlive id ht ha.2 hl)
 ·exact I.inj i k (hacc i a1 a3.2).1 (hacc k a2 a4.2).1 a3.1 a4.1 (hlive i a1 a3.2 a5) (hlive k a2 a4.2 a6) a7
theorem inv_next(R:Reg P tt nt cl ops fr S v rd wr run B Wr ok){D D':Nat->Bool}{j:Nat}{oj:Oper}{E E2:Env}{a:Act}{u:Value}(N:Nx ops D B j)(I:Inv ops nt fr S Wr T E0 D E a)(hj:ops[j]?=some oj)
   (hrd:∀id,(rd j).testBit id=true->T.r id) (hwr:∀id,(wr j).testBit id=true->T.w id) (hnw:∀id,(S 0).next<=id->T.w id) (hbnd:∀id,E0.A id->id<(S 0).next) (hD:∀i,D' i=true↔D i=true\/i=j)
   (hv:VR E2 (v j) u) (k1:Post (Tj (rd j) (wr j) (S j).next) (E.bel (S j).next) (S j) E2 (S (j+1))) (k2:Fresh (E.bel (S j).next) (S j) E2) :
   Inv ops nt fr S Wr T E0 D' (mrg E E2 (S j).next) (a.put oj.dst u):=by
 have hpre:=R.pre_here N I hj hrd hwr;have hle2:(E.bel (S j).next).Le E2:=k1.stp.le hpre.st;have hS0:(S 0).next<=(S j).next:=R.mono_le (jbj _) (jco N.lt)
 have hjj:=R.mono j N.lt
 -- old ids are not among the new ones
 have hnot:∀id,E.A id->(S j).next<=id->¬id<(S (j+1)).next:=fun id hA hge hlt=>by
   rcases I.ids id hA with h|⟨i,h1,h2,h3,h4⟩
   · have:=hbnd id h;omega
   · have hij:i≠j:=fun e=>by rw[e,N.not] at h2;cases h2
     rcases Nat.lt_or_gt_of_ne hij with h|h
     · have:=R.mono_le (i:=i+1) (j:=j) h (jco N.lt);omega
     · have:=R.mono_le (i:=j+1) (j:=i) h (jco h1);omega
 have hold:∀id,E.A id->(mrg E E2 (S j).next).ρ id=E.ρ id/\(mrg E E2 (S j).next).κ id=E.κ id/\(mrg E E2 (S j).next).hd id=E.hd id/\(mrg E E2 (S j).next).hb id=E.hb id:=fun id hA=>by
   have:¬((S j).next<=id/\E2.A id):=fun h=>hnot id hA h.1 (k1.bnd id h.2);exact⟨jak this,jak this,jak this,jak this⟩
 have hE:E.Le (mrg E E2 (S j).next):=⟨fun id hA=>⟨.inl hA,hold id hA⟩,hle2.tr⟩;have h2:∀id,E2.A id->(mrg E E2 (S j).next).A id/\(mrg E E2 (S j).next).ρ id=E2.ρ id/\(mrg E E2 (S j).next).κ id=E2.κ id/\(mrg E E2 (S j).next).hd id=E2.hd id/\(mrg E E2 (S j).next).hb id=E2.hb id:=fun id hA=>by
   by_cases hge:(S j).next<=id
   · exact⟨.inr ⟨hge,hA⟩,jam ⟨hge,hA⟩,jam ⟨hge,hA⟩,jam ⟨hge,hA⟩,jam ⟨hge,hA⟩⟩
   · have hb:(E.bel (S j).next).A id:=jdx fun hn=>hge (k2.fr id hA hn);obtain⟨_,b2,b3,b4,b5⟩:=hle2.alw id hb;exact⟨.inl hb.1,by rw[b2];exact jak fun h=>hge h.1,by rw[b3];exact jak fun h=>hge h.1,by rw[b4];exact jak fun h=>hge h.1,by rw[b5];exact jak fun h=>hge h.1⟩
 have hE2:E2.Le ((mrg E E2 (S j).next).bel (S (j+1)).next):=⟨fun id hA=>let ⟨c1,c2,c3⟩:=h2 id hA;⟨⟨c1,k1.bnd id hA⟩,c2,c3⟩,Tr.refl _ _⟩;have hidx:∀id,(∀i,j<i->i<ops.length->Wr i id=true->Wr j id=true->D i=false):=fun id i hi hl hw hwj=>(R.touch_here N hj (.inr hwj)).1 i hi hl hw;have hix:∀id,ix D' (fun i=>Wr i id) ops.length=if Wr j id=true then j+1 else ix D (fun i=>Wr i id) ops.length:=fun id=>by
   rw[qtj (j:=j) hD ops.length (fun hw i hi hl hwi=>hidx id i hi hl hwi hw)];by_cases h:Wr j id=true
   · rw[jam ⟨N.lt,h⟩,jam h]
   · rw[jak (fun h'=>h h'.2),jak h]
 -- what is written lies among what the operation may write
 have hTw:∀id,Wr j id=true->(Tj (rd j) (wr j) (S j).next).w id:=fun id h=>by
   rcases(R.wrs j id N.lt).1 h with h|h
   · exact .inl h
   · exact .inr h.1
 have hWT:∀id,Wr j id=true->T.w id:=fun id h=>by
   rcases(R.wrs j id N.lt).1 h with h|h
   · exact hwr id h
   · exact hnw id (by omega)
 have hWA:∀id,Wr j id=true->(mrg E E2 (S j).next).A id->E2.A id:=fun id h hA=>by
   rcases hA with hA|hA
   · rcases(R.wrs j id N.lt).1 h with h|h
     · exact(hle2.alw id ⟨hA,R.small j N.lt id (.inr h)⟩).1
     · exact absurd h.2 (hnot id hA h.1)
   · exact hA.2
 have hnW:∀id,¬Wr j id=true->(mrg E E2 (S j).next).A id->E.A id:=fun id h hA=>by
   rcases hA with hA|hA
   · exact hA
   · exact absurd ((R.wrs j id N.lt).2 (.inr ⟨hA.1,k1.bnd id hA.2⟩)) h
 have hbit:∀id,(Tj (rd j) (wr j) (S j).next).w id->(E.bel (S j).next).A id->Wr j id=true:=fun id h hA=>by
   rcases h with h|h
   · exact(R.wrs j id N.lt).2 (.inl h)
   · have:=hA.2;omega
 have hHD:∀id,Wr j id=true->id<(S j).next->(S j).H id=(S (ix D (fun i=>Wr i id) ops.length)).H id:=fun id h hlt=>by
   rw[(R.touch_here N hj (.inr h)).2];exact R.heap_at id j (jco N.lt) hlt
 -- blocks of what is not written stay
 have hsame:∀id,¬Wr j id=true->T.r id->E.A id->Live E (fun id=>(S (ix D (fun i=>Wr i id) ops.length)).H id) id->E2.w.heap[E.ρ id]?=E.w.heap[E.ρ id]?:=fun id hw hT hA hL=>by
   refine k1.stp.same (E.ρ id) (I.lo _ (I.own id hT hA hL)) fun id' ht ha hl e=>?_;have hw':=hbit id' ht ha;have hL':Live E (fun id=>(S (ix D (fun i=>Wr i id) ops.length)).H id) id':=by
     obtain⟨g0,o,g1,g2⟩:=hl;exact⟨g0,o,by rw[hHD id' hw' ha.2] at g1;exact g1,g2⟩
   have:=I.inj id' id (T.sub _ (hWT id' hw')) hT ha.1 hA hL' hL e;rw[this] at hw';exact hw hw'
 have hlive:∀id,¬Wr j id=true->E.A id->Live (mrg E E2 (S j).next) (fun id=>(S (ix D' (fun i=>Wr i id) ops.length)).H id) id->Live E (fun id=>(S (ix D (fun i=>Wr i id) ops.length)).H id) id:=fun id h hA ⟨g0,o,g1,g2⟩=>⟨(hold id hA).2.2.2.symm.trans g0,o,by simp only at g1 ⊢;rw[hix id,jak h] at g1;exact g1,g2⟩;have hliveW:∀id,Wr j id=true->E2.A id->Live (mrg E E2 (S j).next) (fun id=>(S (ix D' (fun i=>Wr i id) ops.length)).H id) id->Live E2 (S (j+1)).H id:=fun id h hA ⟨g0,o,g1,g2⟩=>⟨(h2 id hA).2.2.2.2.symm.trans g0,o,by simp only at g1;rw[hix id,jam h] at g1;exact g1,g2⟩;have hWold:∀id,Wr j id=true->E.A id->(E.bel (S j).next).A id:=fun id h hA=>by
   rcases(R.wrs j id N.lt).1 h with h|h
   · exact⟨hA,R.small j N.lt id (.inr h)⟩
   · exact absurd h.2 (hnot id hA h.1)
 have hliveO:∀id,Wr j id=true->E.A id->Live (mrg E E2 (S j).next) (fun id=>(S (ix D' (fun i=>Wr i id) ops.length)).H id) id->Live E (fun id=>(S (ix D (fun i=>Wr i id) ops.length)).H id) id:=fun id h hA hL=>by
   have hb:=hWold id h hA;obtain⟨g0,o,g1,g2⟩:=k1.stp.old id (hTw id h) hb (hliveW id h (hle2.alw id hb).1 hL);exact⟨g0,o,by rw[hHD id h hb.2] at g1;exact g1,g2⟩
 -- the step as a whole
 have hstep:Stp T.w E (fun id=>(S (ix D (fun i=>Wr i id) ops.length)).H id) (mrg E E2 (S j).next) (fun id=>(S (ix D' (fun i=>Wr i id) ops.length)).H id):=by
   refine⟨k1.stp.os,k1.stp.tape,k1.stp.output,k1.stp.size,fun b hb hn=>?_,hE.alw,fun id hA hnA hL=>?_,fun id ht hA hL=>?_,k1.stp.memo,fun b hb hlt=>?_⟩
   · refine k1.stp.same b hb fun id ht ha hl e=>?_;have hw:=hbit id ht ha;obtain⟨g0,o,g1,g2⟩:=hl;exact hn id (hWT id hw) ha.1 ⟨g0,o,by rw[hHD id hw ha.2] at g1;exact g1,g2⟩ e
   · have hc:=hA.resolve_left hnA;have hw:Wr j id=true:=(R.wrs j id N.lt).2 (.inr ⟨hc.1,k1.bnd id hc.2⟩);have e1:(mrg E E2 (S j).next).ρ id=E2.ρ id:=jam hc;rw[e1];rcases k1.stp.new id hc.2 (fun h=>hnA h.1) (hliveW id hw hc.2 hL) with h|⟨j0,c1,c2,c3,c4⟩
     · exact .inl h
     · have hw0:=hbit j0 c1 c2;obtain⟨g0,o,g1,g2⟩:=c3;exact .inr ⟨j0,hWT j0 hw0,c2.1,⟨g0,o,by rw[hHD j0 hw0 c2.2] at g1;exact g1,g2⟩,c4⟩
   · by_cases hw:Wr j id=true
     · exact hliveO id hw hA hL
     · exact hlive id hw hA hL
   · rcases k1.stp.mem b hb hlt with h|⟨id,c1,c2,⟨g0,o,g1,g2⟩,c4⟩
     · exact .inl h
     · have hw:=hbit id c1 c2;exact .inr ⟨id,hWT id hw,c2.1,⟨g0,o,by rw[hHD id hw c2.2] at g1;exact g1,g2⟩,c4⟩
 refine⟨fun id hT hA o ho=>?_,fun id hT hA o ho hbk=>?_,fun id hT hA hL=>?_,fun i k a1 a2 a3 a4 a5 a6 a7=>?_,k1.st.lo,(k1.pre hpre).gl,fun id hA=>?_,I.stp.trans (fun id hA hn=>?_) hstep,?_,fun t ht=>?_⟩
 · by_cases hw:Wr j id=true
   · rw[hix id,jam hw] at ho ⊢;have hA2:=hWA id hw hA;exact(k1.st.objs id ((Tj _ _ _).sub _ (hTw id hw)) hA2 o ho).mv hE2 (h2 id hA2).2 (k1.st.blk id ((Tj _ _ _).sub _ (hTw id hw)) hA2 o ho) fun _ _=>rfl
   · rw[hix id,jak hw] at ho ⊢;have hA1:=hnW id hw hA;exact(I.objs id hT hA1 o ho).mv (Env.bel_le hE _) (hold id hA1) (I.blk id hT hA1 o ho) fun hl hb=>hsame id hw hT hA1 ⟨hb,o,ho,hl⟩
 · by_cases hw:Wr j id=true
   · rw[hix id,jam hw] at ho;have hA2:=hWA id hw hA;rw[(h2 id hA2).2.2.2.2];exact k1.st.blk id ((Tj _ _ _).sub _ (hTw id hw)) hA2 o ho hbk
   · rw[hix id,jak hw] at ho;have hA1:=hnW id hw hA;rw[(hold id hA1).2.2.2];exact I.blk id hT hA1 o ho hbk
 · by_cases hw:Wr j id=true
   · have hA2:=hWA id hw hA;rw[(h2 id hA2).2.1];exact k1.st.own id ((Tj _ _ _).sub _ (hTw id hw)) hA2 (hliveW id hw hA2 hL)
   · have hA1:=hnW id hw hA;rw[(hold id hA1).1];have hL1:=hlive id hw hA1 hL;have hm:=I.own id hT hA1 hL1;rcases k1.stp.mem _ hm (I.lo _ hm) with h|⟨id',c1,c2,⟨g0,o,g1,g2⟩,c4⟩
     · exact h
     · exfalso;have hw':=hbit id' c1 c2;have e:=I.inj id' id (T.sub _ (hWT id' hw')) hT c2.1 hA1 ⟨g0,o,by rw[hHD id' hw' c2.2] at g1;exact g1,g2⟩ hL1 c4;rw[e] at hw';exact hw hw'
 · -- two of one block
   have key:∀i k,T.r i->T.r k->(mrg E E2 (S j).next).A i->(mrg E E2 (S j).next).A k->Live (mrg E E2 (S j).next) (fun id=>(S (ix D' (fun i=>Wr i id) ops.length)).H id) i->Live (mrg E E2 (S j).next) (fun id=>(S (ix D' (fun i=>Wr i id) ops.length)).H id) k ->
       (mrg E E2 (S j).next).ρ i=(mrg E E2 (S j).next).ρ k->E.A k->i=k:=by
     intro i k a1 a2 a3 a4 a5 a6 a7 hk;have hLk:Live E (fun id=>(S (ix D (fun i=>Wr i id) ops.length)).H id) k:=by
       by_cases hw:Wr j k=true
       · exact hliveO k hw hk a6
       · exact hlive k hw hk a6
     by_cases hi:E.A i
     · have hLi:Live E (fun id=>(S (ix D (fun i=>Wr i id) ops.length)).H id) i:=by
         by_cases hw:Wr j i=true
         · exact hliveO i hw hi a5
         · exact hlive i hw hi a5
       rw[(hold i hi).1,(hold k hk).1] at a7;exact I.inj i k a1 a2 hi hk hLi hLk a7
     · have hc:=a3.resolve_left hi;have hw:Wr j i=true:=(R.wrs j i N.lt).2 (.inr ⟨hc.1,k1.bnd i hc.2⟩);have e1:(mrg E E2 (S j).next).ρ i=E2.ρ i:=jam hc;rw[e1,(hold k hk).1] at a7;rcases k1.stp.new i hc.2 (fun h=>hi h.1) (hliveW i hw hc.2 a5) with h|⟨j0,c1,c2,c3,c4⟩
       · have:E.ρ k<E.w.heap.size:=I.lo _ (I.own k a2 hk hLk);have h':E.w.heap.size<=E2.ρ i:=h;omega
       · have hw0:=hbit j0 c1 c2;obtain⟨g0,o,g1,g2⟩:=c3;have hL0:Live E (fun id=>(S (ix D (fun i=>Wr i id) ops.length)).H id) j0:=⟨g0,o,by rw[hHD j0 hw0 c2.2] at g1;exact g1,g2⟩;have e2:j0=k:=I.inj j0 k (T.sub _ (hWT j0 hw0)) a2 c2.1 hk hL0 hLk (c4.symm.trans a7);subst e2;have i2:=(h2 i hc.2);have hA0:=hle2.alw j0 c2;exact k1.st.inj i j0 ((Tj _ _ _).sub _ (hTw i hw)) ((Tj _ _ _).sub _ c1) hc.2 hA0.1 (hliveW i hw hc.2 a5) (hliveW j0 hw0 hA0.1 a6) (by rw[a7];exact hA0.2.1.symm)
   by_cases hk:E.A k
   · exact key i k a1 a2 a3 a4 a5 a6 a7 hk
   · by_cases hi:E.A i
     · exact(key k i a2 a1 a4 a3 a6 a5 a7.symm hi).symm
     · have hci:=a3.resolve_left hi;have hck:=a4.resolve_left hk;have hwi:Wr j i=true:=(R.wrs j i N.lt).2 (.inr ⟨hci.1,k1.bnd i hci.2⟩);have hwk:Wr j k=true:=(R.wrs j k N.lt).2 (.inr ⟨hck.1,k1.bnd k hck.2⟩);rw[(h2 i hci.2).2.1,(h2 k hck.2).2.1] at a7;exact k1.st.inj i k ((Tj _ _ _).sub _ (hTw i hwi)) ((Tj _ _ _).sub _ (hTw k hwk)) hci.2 hck.2 (hliveW i hwi hci.2 a5) (hliveW k hwk hck.2 a6) a7
 · rcases hA with hA|hA
   · rcases I.ids id hA with h|⟨i,c1,c2,c3,c4⟩
     · exact .inl h
     · exact .inr ⟨i,c1,(hD i).2 (.inl c2),c3,c4⟩
   · exact .inr ⟨j,N.lt,(hD j).2 (.inr rfl),hA.1,k1.bnd id hA.2⟩
 · rcases I.ids id hA with h|⟨i,c1,c2,c3,c4⟩
   · exact absurd h hn
   · exact hnw id (ja5 (R.mono_le (jbj _) (jco c1)) c3)
 · cases hd:oj.dst with
   | none=>exact I.size
   | some d=>simp [Act.put,I.size]
 · have hw:wtS ops t j=true↔oj.dst=some t:=by rw[qu1,qhb,hj];rfl
   by_cases hd:oj.dst=some t
   · have e:ix D' (wtS ops t) ops.length=j+1:=by
       rw[qtj (j:=j) hD ops.length (fun _ i hi hl hwi=>(R.look_here N hj (.inr hd)).1 i hi hl hwi),jam ⟨N.lt,hw.2 hd⟩]
     rw[e];have h4:=R.put j oj hj;rw[h4,hd];have e1:slot (putD (some t) (v j) (fr j)) t=v j:=by unfold putD;rw[qdh,jam rfl]
     have e2:(a.put (some t) u).tmps.getD t undef=u:=by simp[Act.put,I.size,ht]
     rw[e1,e2];exact hv.mono hE2
   · have e:ix D' (wtS ops t) ops.length=ix D (wtS ops t) ops.length:=by
       rw[qtj (j:=j) hD ops.length (fun h=>absurd (hw.1 h) hd),jak (fun h=>hd (hw.1 h.2))]
     rw[e];have e2:(a.put oj.dst u).tmps.getD t undef=a.tmps.getD t undef:=by
       cases hdd:oj.dst with
       | none=>rfl
       | some d =>
         have hne:d≠t:=fun h=>hd (by rw[hdd,h]);simp[Act.put,jcr,jef hne]
     rw[e2];exact(I.slots t ht).mono (Env.bel_le hE _)
end
end Reg
end Go.Jx
end

section
namespace Go.Jx
open Go Go.Sx Go.RowKit
universe u
namespace Reg
section
variable {P : Program} {tt : Nat -> Option TI} {nt : Nat} {cl : Cl} {ops : List Oper} {fr : Nat -> PT IV} {S : Nat -> IS} {v : Nat -> IV} {rd wr : Nat -> Nat} {run : Nat -> Bool} {B : Nat -> Nat} {Wr : Nat -> Nat -> Bool} {ok : Nat -> Bool}
variable {F : Fence} {Q : Exit -> Act -> World -> Prop} {T : TW} {E0 : Env}

theorem closed_of(R:Reg P tt nt cl ops fr S v rd wr run B Wr ok){D:Nat->Bool}(hd:∀(i:Nat) (o:Oper),ops[i]?=some o->D i=true->∀e∈o.after,Region.binds .any e=true->D e.on=true) :
  ∀i,i<ops.length->D i=true->∀k,(B i).testBit k=true->D k=true:=by
 intro i;induction i using Nat.strongRecOn with
 | _ i ih =>
  intro hi hD k hk;have ho:=jac hi;obtain⟨e,e1,e2,e3⟩:=R.bef i _ k ho hk;have hDe:=hd i _ ho hD e e1 e2;have hlt:=R.back i _ ho e e1 e2;rcases e3 with e3|e3
  ·rw[e3];exact hDe
  ·exact ih e.on hlt (by omega) hDe k e3
theorem inv_end(R:Reg P tt nt cl ops fr S v rd wr run B Wr ok){D:Nat->Bool}{E:Env}{a:Act}(I:Inv ops nt fr S Wr T E0 D E a)(hall:∀i,i<ops.length->D i=true)(hbnd:∀id,E0.A id->id<(S 0).next) :
  FR E nt (fr ops.length) a.tmps/\St T.r E (S ops.length).H/\Stp T.w E0 (S 0).H E (S ops.length).H/\(∀id,E.A id->id<(S ops.length).next)/\Fresh E0 (S 0) E:=by
 have hix:∀wt,ix D wt ops.length=ix (fun _=>true) wt ops.length:=fun wt=>qx9 (fun i hi _=>hall i hi) _ (jap _) (fun i a b _=>absurd b (by omega));have hA:∀id,E.A id->id<(S ops.length).next:=fun id h=>by
  rcases I.ids id h with h|⟨i,h1,h2,h3,h4⟩
  ·exact jaz (hbnd id h) (R.mono_le (jbj _) (jap _))
  ·exact jaz h4 (R.mono_le h1 (jap _))
 have hH:∀id,id<(S ops.length).next->(S (ix D (fun i=>Wr i id) ops.length)).H id=(S ops.length).H id:=fun id h=>by
  rw[hix];exact(R.heap_at id _ (jap _) h).symm
 have hL:∀id,id<(S ops.length).next->Live E (S ops.length).H id->Live E (fun id=>(S (ix D (fun i=>Wr i id) ops.length)).H id) id:=fun id h ⟨g0,o,g1,g2⟩=>⟨g0,o,by simp only;rw[hH id h];exact g1,g2⟩
 refine⟨⟨I.size,fun t ht=>?_⟩,⟨fun id hT ha o ho=>?_,fun id hT ha o ho=>I.blk id hT ha o (by rw[hH id (hA id ha)];exact ho),fun id hT ha hl=>I.own id hT ha (hL id (hA id ha) hl),fun i j a1 a2 a3 a4 a5 a6 a7=>I.inj i j a1 a2 a3 a4 (hL i (hA i a3) a5) (hL j (hA j a4) a6) a7,I.lo⟩,?_,hA,⟨fun id ha hn=>?_⟩⟩
 ·have:=(I.slots t ht).mono (E.bel_self _);rw[hix,<- R.slot_at t _ (jap _)] at this;exact this
 ·have:=I.objs id hT ha;rw[hH id (hA id ha)] at this;exact(this o ho).of_bel
 ·have h:=I.stp;exact⟨h.os,h.tape,h.output,h.size,h.same,h.alw,fun id a1 a2 a3=>h.new id a1 a2 (hL id (hA id a1) a3),fun id a1 a2 a3=>h.old id a1 a2 (hL id (hA id (h.alw id a2).1) a3),h.memo,h.mem⟩
 ·rcases I.ids id ha with h|⟨i,h1,h2,h3,h4⟩
  ·exact absurd h hn
  ·exact ja5 (R.mono_le (jbj _) (jco h1)) h3
theorem any_sound(R:Reg P tt nt cl ops fr S v rd wr run B Wr ok)(hF:F.plain=Fence.wide)(hcl:ClOK P cl)(htt:TT P tt)(hrd:∀j,j<ops.length->∀id,(rd j).testBit id=true->T.r id)(hwr:∀j,j<ops.length->∀id,(wr j).testBit id=true->T.w id)
   (hnw:∀id,(S 0).next<=id->T.w id) (hbnd:∀id,E0.A id->id<(S 0).next) {ds:List Deferred} {bad:Nat->Bool} {PQ:IV->Prop}
   (hok:∀j,j<ops.length->(∀i,(B j).testBit i=true->bad i=false)->bad j=false->ok j=true)
   (hbad:∀j oj,ops[j]?=some oj->bad j=true->(run j=true/\run j=qbv ops nt (fr j) oj.guard/\gOK ops (fr j) oj.guard=true)/\v j=.unk/\∃p,qb0 p=true/\PQ p/\qbl P tt nt cl (fr j) (S j) oj=some ⟨.pan p,S (j+1),rd j,wr j⟩)
   (hP:∀p D E a a' u,PQ p->Inv ops nt fr S Wr T E0 D E a'->a.tmps.size=nt->a.defers=ds->VR E p u->Q (.panic [{ v:=u,recovered:=false }]) a E.w)
   (hQ:(∀i,i<ops.length->bad i=false)->∀E a,FR E nt (fr ops.length) a.tmps->a.defers=ds->St T.r E (S ops.length).H->Stp T.w E0 (S 0).H E (S ops.length).H->(∀id,E.A id->id<(S ops.length).next)->Fresh E0 (S 0) E->Q .normal a E.w) :
   ∀(fuel:Nat) (rem:List Nat) (listed:Array Bool) (E:Env) (a:Act),rem.length=fuel->rem.Nodup->(∀i,i∈rem↔i<ops.length/\listed.getD i false=false)->listed.size=ops.length ->
     (∀(i:Nat) (o:Oper),ops[i]?=some o->listed.getD i false=true->∀e∈o.after,Region.binds .any e=true->listed.getD e.on false=true) ->
     (∀i,listed.getD i false=true->bad i=false)->Inv ops nt fr S Wr T E0 (fun i=>listed.getD i false) E a->a.defers=ds->wpAnyIn F 0 P .any ops.toArray Q fuel listed a E.w:=by
 have hdone:∀(listed:Array Bool) (E:Env) (a:Act),(∀i,listed.getD i false=true->bad i=false)->listed.size=ops.length->Region.ready .any ops.toArray listed=[]->Inv ops nt fr S Wr T E0 (fun i=>listed.getD i false) E a->a.defers=ds->Q .normal a E.w:=by
   intro listed E a hnb hsz hready I hds;have hall:∀i,i<ops.length->listed.getD i false=true:=by
     intro i;induction i using Nat.strongRecOn with
     | _ i ih =>
       intro hi;cases hl:listed.getD i false with
       | true=>rfl
       | false =>
         have hm:i∈Region.ready .any ops.toArray listed:=by
           refine mem_ready.2 ⟨?_,_,by simp,fun e he hb=>ih e.on (R.back i _ (jac hi) e he hb) (Nat.lt_trans (R.back i _ (jac hi) e he hb) hi)⟩;exact getD_in (by rw[hsz];exact hi) hl
         rw[hready] at hm;cases hm
   obtain⟨h1,h2,h3,h4,h5⟩:=R.inv_end I hall hbnd;exact hQ (fun i hi=>hnb i (hall i hi)) E a h1 hds h2 h3 h4 h5
 intro fuel;induction fuel with
 | zero =>
   intro rem listed E a hlen hnd hrem hsz hdir hnb I hds;have hr:Region.ready .any ops.toArray listed=[]:=by
     apply List.eq_nil_iff_forall_not_mem.2;intro i hi;obtain⟨h1,o,h2,_⟩:=mem_ready.1 hi;have hlt:i<ops.length:=by
       rcases jbm i ops.length with h|h
       · exact h
       · rw[jc5 (by simpa using h)] at h2;cases h2
     have:=(hrem i).2 ⟨hlt,getD_both h1⟩;rw[List.eq_nil_of_length_eq_zero hlen] at this;cases this
   exact⟨hr,hdone listed E a hnb hsz hr I hds⟩
 | succ fuel ih =>
   intro rem listed E a hlen hnd hrem hsz hdir hnb I hds;refine⟨fun hr=>hdone listed E a hnb hsz hr I hds,fun j hj=>?_⟩;obtain⟨h1,oj,h2,h3⟩:=mem_ready.1 hj;have h2':ops[j]?=some oj:=by simpa using h2
   have hlt:j<ops.length:=(jal.1 h2').1;have hnl:=getD_both h1;have hcl2:=R.closed_of (D:=fun i=>listed.getD i false) hdir;have N:Nx ops (fun i=>listed.getD i false) B j:=⟨hlt,hnl,fun i hi=>by
     obtain⟨e,e1,e2,e3⟩:=R.bef j oj i h2' hi;have hDe:=h3 e e1 e2;rcases e3 with e3|e3
     · rw[e3];exact hDe
     · exact hcl2 e.on (Nat.lt_trans (R.back j oj h2' e e1 e2) hlt) hDe i e3,hcl2⟩
   have hset:∀i,(listed.setIfInBounds j true).getD i false=true↔listed.getD i false=true\/i=j:=fun i=>by
     by_cases e:i=j
     · subst e;constructor
       · intro _;exact .inr rfl
       · intro _;simp [hsz,hlt]
     · rw[jeh false (jey e)];exact⟨.inl,fun h=>h.resolve_right e⟩
   -- the rest, from whatever state that fits
   have hrest:bad j=false->∀E' a',Inv ops nt fr S Wr T E0 (fun i=>(listed.setIfInBounds j true).getD i false) E' a'->a'.defers=ds->wpAnyIn F 0 P .any ops.toArray Q fuel (listed.setIfInBounds j true) a' E'.w:=by
     intro hbj E' a' I' hds';have hmem:j∈rem:=(hrem j).2 ⟨hlt,hnl⟩;refine ih (rem.erase j) _ E' a' (by rw[List.length_erase_of_mem hmem,hlen];rfl) (hnd.erase j) (fun i=>?_) (by simp[hsz]) (fun i o ho hi e he hb=>?_) (fun i hi=>by
       rcases(hset i).1 hi with h|h
       · exact hnb i h
       · rw[h];exact hbj) I' hds'
     · rw[hnd.mem_erase_iff,hrem i];constructor
       · rintro⟨e,k1,k2⟩;exact⟨k1,by rw[jeh false (jey e)];exact k2⟩
       · rintro⟨k1,k2⟩;have e:i≠j:=fun e=>by
           have:=(hset i).2 (.inr e);rw[this] at k2;cases k2
         exact⟨e,k1,by rw[jeh false (jey e)] at k2;exact k2⟩
     · rw[hset];rcases(hset i).1 hi with h|h
       · exact .inl (hdir i o ho h e he hb)
       · subst h;rw[h2'] at ho;cases ho;exact .inl (h3 e he hb)
   have hput:∀u,(a.put oj.dst u).defers=ds:=fun u=>by rw[<- hds];cases oj.dst<;>rfl
   have hpre:=R.pre_here N I h2' (hrd j hlt) (hwr j hlt);have hwant:=fun hgk=>q7l (E:=E.bel (S j).next) (fr:=fr j) (ops:=ops) (o:=oj) hgk I.size (fun t ht hn=>R.slots_here N I h2' (by
     unfold Oper.looksAt;cases hg:oj.guard with
     | none=>rw[hg] at ht;cases ht
     | some q =>
       obtain⟨gi,gw⟩:=q;rw[hg] at ht;have:qb1 ops gi=some t:=ht;rw[qhb] at this;refine jdb _ ?_;simp only[jav];rw[this];simp) hn)
   have hopr:∀x∈oj.op.operands.toList,∀v,evo nt (fr j) x=some v->VR (E.bel (S j).next) v (a.eval x):=fun x hx v hv=>by
     cases x with
     | tmp t =>
       simp only[evo] at hv;cases hb:Nat.blt t nt with
       | false=>rw[hb] at hv;cases hv
       | true =>
         rw[hb,jab] at hv;cases hv;exact R.slots_here N I h2' (by
           unfold Oper.looksAt;exact jdd _ (List.mem_filterMap.2 ⟨.tmp t,hx,rfl⟩)) (by simpa using hb)
     | const c=>exact qkf _ hv
     | func f=>cases hv;exact .fn (us:=[]) rfl (fun i h=>by simp at h)
     | global g =>
       simp only[evo] at hv;cases hb:glB g with
       | false=>rw[hb] at hv;cases hv
       | true=>rw[hb,jab] at hv;cases hv;exact .gp hb
   unfold wpOpIn;rw[h2];simp only;cases hbj:bad j with
   | true =>
     obtain⟨⟨b1,b2,b3⟩,b4,pv,b5,b6,b7⟩:=hbad j oj h2' hbj;rw[hwant b3,<- b2,b1,jam rfl];refine qq4 hF hcl htt hpre (a:=a) hopr b7 (fun id h=>.inl h) (fun id h=>.inl h) (fun u E2 g1 _ _=>by cases g1) fun p' hp' u E2 g1 g2 g3=>?_;cases hp';exact hP pv _ (mrg E E2 (S j).next) a _ u b6 (R.inv_next N I h2' (hrd j hlt) (hwr j hlt) hnw hbnd (D':=fun i=>(listed.setIfInBounds j true).getD i false) hset (u:=undef) (by rw[b4];exact .unk _) g2 g3) I.size hds (qt0 b5 g1)
   | false =>
   obtain⟨s1,s2,s3,s4⟩:=R.step j oj h2' (hok j hlt (fun i hi=>hnb i (N.ahead i hi)) hbj);rw[hwant s1.2,<- s1.1];cases hrun:run j with
   | true =>
     rw[jam rfl];have hstep:=s2 hrun;refine qq4 hF hcl htt hpre (a:=a) hopr hstep (fun id h=>.inl h) (fun id h=>.inl h) (fun u E2 g1 g2 g3=>?_) fun p' hp'=>by rw[s4] at hp';cases hp'
     · exact hrest hbj (mrg E E2 (S j).next) _ (R.inv_next N I h2' (hrd j hlt) (hwr j hlt) hnw hbnd (D':=fun i=>(listed.setIfInBounds j true).getD i false) hset g1 g2 g3) (hput u)
   | false =>
     rw[jak (by simp)];refine⟨fun f _=>qlt hF f,?_⟩;obtain⟨e1,e2⟩:=s3 hrun;have hp:Post (Tj (rd j) (wr j) (S j).next) (E.bel (S j).next) (S j) (E.bel (S j).next) (S (j+1)):=by rw[e2];exact Post.refl hpre
     exact hrest hbj (mrg E (E.bel (S j).next) (S j).next) _ (R.inv_next N I h2' (hrd j hlt) (hwr j hlt) hnw hbnd (D':=fun i=>(listed.setIfInBounds j true).getD i false) hset (u:=undef) (by rw[e1];exact .tup (us:=[]) rfl (fun i h=>by simp at h)) hp (Fresh.refl _ _)) (hput undef)
theorem inv_start(R:Reg P tt nt cl ops fr S v rd wr run B Wr ok){a:Act}(p:Pre T E0 (S 0))(hf:FR E0 nt (fr 0) a.tmps):Inv ops nt fr S Wr T E0 (fun i=>(Array.replicate ops.length false).getD i false) E0 a:=by
 have h0:∀wt n,ix (fun i=>(Array.replicate ops.length false).getD i false) wt n=0:=fun wt n=>by
  induction n with
  | zero=>rfl
  | succ n ih=>rw[qdw (fun h=>by
    have:(Array.replicate ops.length false).getD n false=false:=jc2 _ _;rw[this] at h;exact absurd h.1 (by simp)),ih]
 have hE:E0.Le (E0.bel (S 0).next):=⟨fun id h=>⟨⟨h,p.bnd id h⟩,rfl,rfl,rfl,rfl⟩,Tr.refl _ _⟩;have hL:∀id,Live E0 (fun id=>(S (ix (fun i=>(Array.replicate ops.length false).getD i false) (fun i=>Wr i id) ops.length)).H id) id->Live E0 (S 0).H id:=fun id ⟨g0,o,g1,g2⟩=>⟨g0,o,by simp only at g1;rw[h0] at g1;exact g1,g2⟩;refine⟨fun id hT hA o ho=>?_,fun id hT hA o ho=>p.st.blk id hT hA o (by rw[h0] at ho;exact ho),fun id hT hA hl=>p.st.own id hT hA (hL id hl),fun i j a1 a2 a3 a4 a5 a6 a7=>p.st.inj i j a1 a2 a3 a4 (hL i a5) (hL j a6) a7,p.st.lo,p.gl,fun id h=>.inl h,?_,hf.size,fun t ht=>?_⟩
 ·rw[h0] at ho ⊢;exact(p.st.objs id hT hA o ho).mv hE ⟨rfl,rfl,rfl,rfl⟩ (p.st.blk id hT hA o ho) fun _ _=>rfl
 ·exact⟨rfl,rfl,rfl,jap _,fun _ _ _=>rfl,fun _ h=>⟨h,rfl,rfl,rfl,rfl⟩,fun _ h k=>absurd h k,fun id _ _ h=>hL id h,fun _ h=>.inl h,fun _ h _=>.inl h⟩
 ·rw[h0];exact(hf.get t ht).mono hE
end
end Reg
end Go.Jx
end

section
namespace Go.Jx
open Go Go.Sx Go.RowKit
universe u

def FrR(S:IS)(r:Res):Prop:=S.next<=r.S.next/\∀id,id<S.next->r.wr.testBit id=false->r.S.H id=S.H id
def FrO(S:IS)(x:Option Res):Prop:=∀r,x=some r->FrR S r
def ClFr(cl:Cl):Prop:=∀tgt vs S,FrO S (cl tgt vs S)
theorem FrO.none{S:IS}:FrO S none:=fun r h=>by cases h
theorem FrO.same{S:IS}{v:IV}{rd wr:Nat}:FrO S (some ⟨v,S,rd,wr⟩):=fun r h=>by cases h;exact⟨jap _,fun _ _ _=>rfl⟩
theorem FrO.new{S:IS}{v:IV}{o:IObj}{rd wr:Nat}:FrO S (some ⟨v,S.new o,rd,wr⟩):=fun r h=>by
 cases h;refine⟨Nat.le_succ _,fun id hid _=>?_⟩;rw[IS.H_new,up_ne _ _ (by omega)]
theorem FrO.set{S:IS}{v:IV}{o:IObj}{rd id:Nat}:FrO S (some ⟨v,S.set id o,rd,2 ^ id⟩):=fun r h=>by
 cases h;refine⟨jap _,fun k hk hb=>?_⟩;rw[IS.H_set,up_ne _ _ (qgp hb)]
theorem FrO.mv{S:IS}{v:IV}{o o':IObj}{rd id:Nat}:FrO S (some ⟨v,(S.set id o').new o,rd,2 ^ id⟩):=fun r h=>by
 cases h;refine⟨Nat.le_succ _,fun k hk hb=>?_⟩;rw[IS.H_new,up_ne _ _ (show k≠(S.set id o').next from Nat.ne_of_lt hk),IS.H_set,up_ne _ _ (qgp hb)]
theorem FrO.new2{S:IS}{v:IV}{o o':IObj}{rd wr:Nat}:FrO S (some ⟨v,(S.new o').new o,rd,wr⟩):=fun r h=>by
 cases h;refine⟨Nat.le_succ_of_le (Nat.le_succ _),fun id hid _=>?_⟩;rw[IS.H_new,up_ne _ _ (show id≠(S.new o').next by simp only[IS.new];omega),IS.H_new,up_ne _ _ (by omega)]
theorem FrO.cond{S:IS}{c:Bool}{x y:Option Res}(h:FrO S x)(k:FrO S y):FrO S (cond c x y):=by cases c;exact k;exact h
theorem FrO.oget{S:IS}{α:Type}{x:Option α}{f:α->Option Res}(h:∀a,FrO S (f a)):FrO S (oget x f):=by
 cases x with
 | none=>exact FrO.none
 | some a=>exact h a
section
variable {P : Program} {tt : Nat -> Option TI} {T : TW} {E : Env} {S : IS} {nt : Nat} {fr : PT IV} {a : Act} {cl : Cl} {F : Fence} {Q : Exit -> Act -> World -> Prop}
theorem zgf{ty:TypeId}{x:IV}:FrO S (qc9 tt S ty x):=by unfold qc9;repeat' (first|exact FrO.none|exact FrO.same|apply FrO.cond|split)
theorem FrO.icl{S S2:IS}{c:TC}{cs:List IV}{x:El c}{r:List IV}{w id:Nat}{v:IV}{o:IObj}{rd:Nat}(h:icl c S cs=some (x,r,S2,w)):FrO S (some ⟨v,S2.set id o,rd,w ||| 2 ^ id⟩):=fun r hr=>by
 cases hr;obtain⟨a,b⟩:=qe9 c _ _ _ _ _ _ h;refine⟨jd9 a.symm,fun k hk hb=>?_⟩;rw[jbv,jcb] at hb;rw[IS.H_set,up_ne _ _ (qgp hb.2)];exact b k hb.1
theorem zlh{ty:TypeId}{x y:IV}:FrO S (qep tt S ty x y):=by unfold qep;repeat' (first|exact FrO.none|exact FrO.set|apply FrO.cond|(rename_i h;exact FrO.icl h)|split)
theorem zns{ty:TypeId}:FrO S (qiw tt S ty):=by unfold qiw;repeat' (first|exact FrO.none|exact FrO.new|exact FrO.new2|apply FrO.cond|split)
theorem znx{v:IV}:FrO S (ibox S v):=by unfold ibox;exact FrO.cond FrO.new FrO.none
theorem q1b{ty:TypeId}{ps}:FrO S (qjx tt S ty ps):=by unfold qjx;repeat' (first|exact FrO.none|exact FrO.same|apply FrO.cond|split)
theorem zcl{ty n:Nat}{ps}:FrO S (qii tt S ty n ps):=by unfold qii;repeat' (first|exact FrO.none|exact FrO.new|apply FrO.cond|split)
theorem q1p{ty n:Nat}{ps}:FrO S (qij tt S ty n ps):=by unfold qij;repeat' (first|exact FrO.none|exact FrO.new|apply FrO.cond|split)
theorem zqf{ty f:Nat}{x:IV}:FrO S (qko tt S ty f x):=by unfold qko;repeat' (first|exact FrO.none|exact FrO.same|apply FrO.cond|split)
theorem q8d{ty:Nat}{x y:IV}:FrO S (qd2 tt S ty x y):=by unfold qd2;repeat' (first|exact FrO.none|exact FrO.same|apply FrO.cond|split)
theorem zm2{ty:Nat}{lo hi mx:Option IV}{x:IV}:FrO S (qd3 tt S ty lo hi mx x):=by unfold qd3;repeat' (first|exact FrO.none|exact FrO.same|apply FrO.cond|split)
theorem zci{t1 t2:Nat}{x y:IV}:FrO S (qhm tt S t1 t2 x y):=by unfold qhm;repeat' (first|exact FrO.none|exact FrO.same|exact FrO.new|exact FrO.set|exact FrO.mv|apply FrO.cond|split)
theorem zky{ty:Nat}{x:IV}:FrO S (ilen tt S ty x):=by unfold ilen;repeat' (first|exact FrO.none|exact FrO.same|apply FrO.cond|split)
theorem zi8{s d:Nat}{x:IV}:FrO S (istr tt S s d x):=by unfold istr;repeat' (first|exact FrO.none|exact FrO.same|apply FrO.cond|split)
theorem zmj{ty:Nat}{x k:IV}{ok:Bool}:FrO S (qil tt S ty x k ok):=by unfold qil;repeat' (first|exact FrO.none|exact FrO.same|apply FrO.cond|split)
theorem zni{ty:Nat}{x k v:IV}:FrO S (qg0 tt S ty x k v):=by unfold qg0;repeat' (first|exact FrO.none|exact FrO.set|apply FrO.cond|split)
theorem zoq{ty:Nat}{x k:IV}:FrO S (qjp tt S ty x k):=by unfold qjp;repeat' (first|exact FrO.none|exact FrO.set|apply FrO.cond|split)
theorem q9b{ty:Nat}{x:IV}:FrO S (qlu tt S ty x):=by unfold qlu;repeat' (first|exact FrO.none|exact FrO.new|apply FrO.cond|split)
theorem q8m{x:IV}{b:Bool}:FrO S (qex S x b):=by unfold qex;repeat' (first|exact FrO.none|exact FrO.same|exact FrO.set|apply FrO.cond|split)
theorem zp4{ty f:Nat}{x:IV}:FrO S (qjk tt S ty f x):=by unfold qjk;repeat' (first|exact FrO.none|exact FrO.same|apply FrO.cond|split)
theorem zi9{x:IV}{i:Nat}:FrO S (qlj S i x):=by unfold qlj;repeat' (first|exact FrO.none|exact FrO.same|apply FrO.cond|split)
theorem zdf{ty:Nat}{x:IV}:FrO S (ql3 tt S ty x):=by unfold ql3;repeat' (first|exact FrO.none|exact FrO.same|apply FrO.cond|split)
theorem ze9{t1 t2:Nat}{ok:Bool}{x:IV}:FrO S (qjf tt S t1 t2 ok x):=by unfold qjf;repeat' (first|exact FrO.none|exact FrO.same|apply FrO.cond|split)
theorem FrO.nd{S:IS}{v:IV}{o o1 o2:IObj}{rd:Nat}:FrO S (some ⟨v,((S.new o1).set S.next o2).new o,rd,0⟩):=fun r h=>by
 cases h;refine⟨by simp[IS.new,IS.set];omega,fun k hk _=>?_⟩;simp only[IS.H_new,IS.H_set];rw[show ((S.new o1).set S.next o2).next=S.next+1 from rfl,up_ne _ _ (by omega),up_ne _ _ (by omega),up_ne _ _ (by omega)]
theorem zfw{c:TC}{y:IV}{l:List (El c)}{S':IS}{rd w:Nat}(h:tsrc S c y=some (l,S',rd,w)):S'.next=S.next/\∀id,w.testBit id=false->S'.H id=S.H id:=by
 unfold tsrc at h;split at h<;>try cases h
 ·exact⟨rfl,fun _ _=>rfl⟩
 ·split at h<;>cases h;exact⟨rfl,fun _ _=>rfl⟩
 ·split at h<;>try cases h
  ·split at h<;>cases h;exact⟨rfl,fun _ _=>rfl⟩
  ·split at h<;>cases h;exact⟨rfl,fun _ _=>rfl⟩
 ·split at h<;>try cases h
  rename_i cs ho;cases hb:(Nat.beq _ (csz c)&&Nat.ble _ cs.length) with
  | false=>rw[hb] at h;cases h
  | true =>
  rw[hb,jab] at h;split at h<;>cases h;rename_i hrow;exact qsd (qe9 c) _ _ _ _ _ _ hrow
 ·split at h<;>cases h;exact⟨rfl,fun _ _=>rfl⟩
theorem zfm{t1 t2 id:Nat}{y:IV}:FrO S (qf3 tt S t1 t2 id y):=fun r h=>by
 unfold qf3 at h;split at h<;>try cases h
 split at h
 ·cases h
 split at h
 ·cases h
 rename_i ly S1 rd wr hs;split at h<;>try cases h
 split at h
 ·cases h
 cases hb:Nat.ble _ 140737488355328 with
 | false=>rw[hb] at h;cases h
 | true =>
 rw[hb,jab] at h;cases h;obtain⟨a1,a2⟩:=zfw hs;refine⟨by simp[IS.new,IS.set];omega,fun k hk hw=>?_⟩;rw[jbv,jcb] at hw;show (((S1.set id .dead).new _).H k)=_;rw[IS.H_new,IS.H_set,up_ne _ _ (by show k≠S1.next;omega),up_ne _ _ (qgp hw.2)];exact a2 k hw.1
theorem zde{t1 t2:Nat}{x y:IV}:FrO S (iapp tt S t1 t2 x y):=by unfold iapp qcr;repeat' (first|exact FrO.none|exact zfm|exact zci|exact FrO.nd|apply FrO.cond|split)
theorem zjh{ty:Nat}{lo hi mx:Option IV}{id:Nat}{wh:Bool}:FrO S (qfu tt S ty lo hi mx id wh):=by unfold qfu;repeat' (first|exact FrO.none|exact FrO.same|exact FrO.set|apply FrO.cond|split)
theorem zmk{ty:Nat}{lo hi mx:Option IV}{s:ByteArray}:FrO S (qfk tt S ty lo hi mx s):=by unfold qfk;repeat' (first|exact FrO.none|exact FrO.same|apply FrO.cond|split)
theorem zqm{ty:Nat}{s:ByteArray}{i:Int}:FrO S (qe8 tt S ty s i):=by unfold qe8;repeat' (first|exact FrO.none|exact FrO.same|apply FrO.cond|split)
theorem q83{op:UnOp}{x:IV}:FrO S (iun op S x):=by unfold iun;repeat' (first|exact FrO.none|exact FrO.same|apply FrO.cond|split)
theorem qq8{o:Oper}:FrO S (qa9 P nt fr S o):=by unfold qa9;repeat' (first|exact FrO.none|exact FrO.same|apply FrO.cond|split)
theorem zm7{o:Oper}{op:BinOp}{T0:Nat}{ti:TI}{x y:IV}:FrO S (qc4 P tt nt fr S o op T0 ti x y):=by unfold qc4;repeat' (first|exact FrO.none|exact FrO.same|exact qq8|apply FrO.cond|split)
theorem q9m{f:Int->Int->Int}{o:Oper}{x y:IV}:FrO S (imm f P nt fr S o x y):=by unfold imm;repeat' (first|exact FrO.none|exact FrO.same|exact qq8|apply FrO.cond|split)
theorem q42{ty:Nat}{n m:Int}:FrO S (imkC tt S ty n m):=by unfold imkC;repeat' (first|exact FrO.none|exact FrO.new|apply FrO.cond|split)
theorem zh0{ty:Nat}{v:IV}:FrO S (qhi tt S ty v):=by unfold qhi;repeat' (first|exact FrO.none|exact q42|split)
theorem q85{ty:Nat}{v u:IV}:FrO S (qf4 tt S ty v u):=by unfold qf4;repeat' (first|exact FrO.none|exact q42|apply FrO.cond|split)
theorem zfy{o:Oper}:FrO S (iop P tt nt fr S o):=by
 unfold iop
 repeat' (first|exact FrO.none|exact FrO.same|exact zgf|exact zlh|exact zns|exact znx|exact q1b|exact zcl|exact q1p|exact zqf|exact zp4|exact q8d|exact zm2|exact zde|exact zmk|exact zjh|exact zqm|exact zky|exact zi8|exact zmj|exact zni|exact zoq
                | exact q9b|exact q8m|exact zi9|exact zdf|exact ze9|exact qq8|exact zm7|exact q9m|exact zh0|exact q85|exact FrO.new|(apply FrO.oget;intro _)|apply FrO.cond|(rename_i hun;first|exact fun r h=>q83 r (hun.trans h)|exact fun r h=>q1p r (hun.trans h)|exact fun r h=>q1b r (hun.trans h))|split)
theorem qi2(hcl:ClFr cl){o:Oper}:FrO S (qbl P tt nt cl fr S o):=by
 unfold qbl;repeat' (first|exact FrO.none|exact FrO.same|exact hcl _ _ _|exact zfy|(apply FrO.oget;intro _)|split)

structure Rec:Type where
 fr:PT IV
 S:IS
 v:IV
 rd:Nat
 wr:Nat
 run:Bool
structure Recs:Type where
 l:List Rec
 fr:PT IV
 S:IS
 pn:Option (Nat × IV)
def qdt(bs:List Nat)(k:Nat):Option (Nat × IV)->Bool
 | none=>false
 | some x=>(bs.getD k 0).testBit x.1
def qa8(P:Program)(tt:Nat->Option TI)(nt:Nat)(cl:Cl)(ops:List Oper)(bs:List Nat):List Oper->Nat->Option (Nat × IV)->PT IV->IS->Option Recs
 | [],_,pn,fr,S=>some ⟨[],fr,S,pn⟩
 | o::l,k,pn,fr,S=>cond (qdt bs k pn)
  (match qa8 P tt nt cl ops bs l (k+1) pn (putD o.dst .unk fr) S with
  | none=>none
  | some q=>some ⟨⟨fr,S,.unk,0,0,false⟩::q.l,q.fr,q.S,q.pn⟩)
  (cond (gOK ops fr o.guard) (cond (qbv ops nt fr o.guard)
  (match qbl P tt nt cl fr S o with
  | none=>none
  | some r=>match qbi r.v with
   | some p=>match pn with
    | some _=>none
    | none=>cond (qb0 p) (match qa8 P tt nt cl ops bs l (k+1) (some (k,p)) (putD o.dst .unk fr) r.S with
     | none=>none
     | some q=>some ⟨⟨fr,S,.unk,r.rd,r.wr,true⟩::q.l,q.fr,q.S,q.pn⟩) none
   | none=>match qa8 P tt nt cl ops bs l (k+1) pn (putD o.dst r.v fr) r.S with
    | none=>none
    | some q=>some ⟨⟨fr,S,r.v,r.rd,r.wr,true⟩::q.l,q.fr,q.S,q.pn⟩)
  (match qa8 P tt nt cl ops bs l (k+1) pn (putD o.dst (.tup []) fr) S with
  | none=>none
  | some q=>some ⟨⟨fr,S,.tup [],0,0,false⟩::q.l,q.fr,q.S,q.pn⟩)) none)
def Recs.frA(q:Recs)(i:Nat):PT IV:=match q.l[i]? with|some r=>r.fr|none=>q.fr
def Recs.SA(q:Recs)(i:Nat):IS:=match q.l[i]? with|some r=>r.S|none=>q.S
def Recs.vA(q:Recs)(i:Nat):IV:=match q.l[i]? with|some r=>r.v|none=>.tup []
def Recs.rdA(q:Recs)(i:Nat):Nat:=match q.l[i]? with|some r=>r.rd|none=>0
def Recs.wrA(q:Recs)(i:Nat):Nat:=match q.l[i]? with|some r=>r.wr|none=>0
def Recs.runA(q:Recs)(i:Nat):Bool:=match q.l[i]? with|some r=>r.run|none=>false
def okB(bs:List Nat)(pn:Option (Nat × IV))(i:Nat):Bool:=match pn with
 | none=>true
 | some x=>!Nat.beq i x.1&&!(bs.getD i 0).testBit x.1
theorem zec{bs:List Nat}{i:Nat}{p:IV}:okB bs (some (i,p)) i=false:=by unfold okB;simp
theorem znt{bs:List Nat}{i:Nat}{pn:Option (Nat × IV)}(h:qdt bs i pn=true):okB bs pn i=false:=by
 cases pn with
 | none=>cases h
 | some x=>unfold okB;simp only[qdt] at h;simp only;rw[h];simp
structure RecOK (P:Program) (tt:Nat->Option TI) (nt:Nat) (cl:Cl) (ops:List Oper) (bs:List Nat) (q:Recs) (k i:Nat) (o:Oper):Prop where
 put:q.frA (i+1)=putD o.dst (q.vA i) (q.frA i)
 fra:FrR (q.SA i) ⟨.unk,q.SA (i+1),0,q.wrA i⟩
 step:okB bs q.pn (k+i)=true->(q.runA i=qbv ops nt (q.frA i) o.guard/\gOK ops (q.frA i) o.guard=true)/\(q.runA i=true->qbl P tt nt cl (q.frA i) (q.SA i) o=some ⟨q.vA i,q.SA (i+1),q.rdA i,q.wrA i⟩) /\
   (q.runA i=false->q.vA i=.tup []/\q.SA (i+1)=q.SA i)/\qbi (q.vA i)=none
 pan:∀p,q.pn=some (k+i,p)->(q.runA i=true/\q.runA i=qbv ops nt (q.frA i) o.guard/\gOK ops (q.frA i) o.guard=true)/\q.vA i=.unk/\qb0 p=true/\qbl P tt nt cl (q.frA i) (q.SA i) o=some ⟨.pan p,q.SA (i+1),q.rdA i,q.wrA i⟩
theorem qpr{ops:List Oper}{bs:List Nat}:∀{l:List Oper} {k:Nat} {pn:Option (Nat × IV)} {fr:PT IV} {S:IS} {q:Recs},qa8 P tt nt cl ops bs l k pn fr S=some q->∀x,pn=some x->q.pn=some x
 | [],k,pn,fr,S,q,h,x,hx=>by cases h;exact hx
 | o::l,k,pn,fr,S,q,h,x,hx=>by
  unfold qa8 at h;cases hsk:qdt bs k pn with
  | true =>
   rw[hsk,jab] at h;split at h<;>cases h;rename_i q1 hq;exact qpr hq x hx
  | false =>
  rw[hsk,jae] at h;cases hgk:gOK ops fr o.guard with
  | false=>rw[hgk] at h;cases h
  | true =>
  rw[hgk,jab] at h;cases hw:qbv ops nt fr o.guard with
  | true =>
   rw[hw,jab] at h;split at h
   ·cases h
   split at h
   ·rw[hx] at h;cases h
   ·split at h<;>cases h;rename_i q1 hq;exact qpr hq x hx
  | false =>
   rw[hw,jae] at h;split at h<;>cases h;rename_i q1 hq;exact qpr hq x hx
theorem qps{ops:List Oper}{bs:List Nat}:∀{l:List Oper} {k:Nat} {pn:Option (Nat × IV)} {fr:PT IV} {S:IS} {q:Recs},qa8 P tt nt cl ops bs l k pn fr S=some q->pn=none->∀x,q.pn=some x->k<=x.1
 | [],k,pn,fr,S,q,h,hp,x,hx=>by cases h;simp only at hx;rw[hp] at hx;cases hx
 | o::l,k,pn,fr,S,q,h,hp,x,hx=>by
  subst hp;unfold qa8 at h;rw[show qdt bs k none=false from rfl,jae] at h;cases hgk:gOK ops fr o.guard with
  | false=>rw[hgk] at h;cases h
  | true =>
  rw[hgk,jab] at h;cases hw:qbv ops nt fr o.guard with
  | true =>
   rw[hw,jab] at h;split at h
   ·cases h
   split at h
   ·rename_i p hp;simp only at h;cases hf:qb0 p with
    | false=>rw[hf] at h;cases h
    | true =>
    rw[hf,jab] at h;split at h<;>cases h;rename_i q1 hq;rw[qpr hq _ rfl] at hx;cases hx;exact jap _
   ·split at h<;>cases h;rename_i q1 hq;exact Nat.le_of_succ_le (qps hq rfl x hx)
  | false =>
   rw[hw,jae] at h;split at h<;>cases h;rename_i q1 hq;exact Nat.le_of_succ_le (qps hq rfl x hx)
theorem qgl(hcl:ClFr cl){ops:List Oper}{bs:List Nat}:∀{l:List Oper} {k:Nat} {pn:Option (Nat × IV)} {fr:PT IV} {S:IS} {q:Recs},qa8 P tt nt cl ops bs l k pn fr S=some q->(∀x,pn=some x->x.1<k) ->
  q.l.length=l.length/\q.frA 0=fr/\q.SA 0=S/\(∀x,pn=some x->q.pn=some x)/\(∀x,q.pn=some x->x.1<k+l.length)/\∀i o,l[i]?=some o->RecOK P tt nt cl ops bs q k i o
 | [],k,pn,fr,S,q,h,hk=>by cases h;exact⟨rfl,rfl,rfl,fun _ h=>h,fun x h=>jaz (hk x h) (jd0 _ _),fun i o h=>by simp at h⟩
 | o::l,k,pn,fr,S,q,h,hk=>by
  have hk1:∀x,pn=some x->x.1<k+1:=fun x hx=>Nat.lt_succ_of_lt (hk x hx);have tail:∀{q1:Recs} {r0:Rec},q1.l.length=l.length->(∀i o,l[i]?=some o->RecOK P tt nt cl ops bs q1 (k+1) i o)->RecOK P tt nt cl ops bs ⟨r0::q1.l,q1.fr,q1.S,q1.pn⟩ k 0 o->∀i o',(o::l)[i]?=some o'->RecOK P tt nt cl ops bs ⟨r0::q1.l,q1.fr,q1.S,q1.pn⟩ k i o':=by
   intro q1 r0 hl ht h0 i o' ho;cases i with
   | zero =>
    simp only[jat,ja7] at ho;subst ho;exact h0
   | succ i =>
    obtain⟨a,b,c,d⟩:=ht i o' (by simpa using ho);have e:k+(i+1)=k+1+i:=by omega
    exact⟨a,b,fun h=>c (by rw[<- e];exact h),fun p hp=>d p (by rw[<- e];exact hp)⟩
  have lenq:∀{q1:Recs} {r0:Rec},q1.l.length=l.length->(∀x,q1.pn=some x->x.1<k+1+l.length)->(r0::q1.l).length=(o::l).length/\∀x,q1.pn=some x->x.1<k+(o::l).length:=fun hl hx=>⟨by simp[hl],fun x h=>by have:=hx x h;simp only[jbk];omega⟩;unfold qa8 at h;cases hsk:qdt bs k pn with
  | true =>
   rw[hsk,jab] at h;split at h<;>cases h;rename_i q1 hq;obtain⟨h1,h2,h3,h4,h5,h6⟩:=qgl hcl hq hk1;refine⟨(lenq (r0:=⟨fr,S,.unk,0,0,false⟩) h1 h5).1,rfl,rfl,h4,(lenq (r0:=⟨fr,S,.unk,0,0,false⟩) h1 h5).2,tail h1 h6 ?_⟩;cases hpn:pn with
   | none=>rw[hpn] at hsk;cases hsk
   | some x =>
   have e:=h4 x hpn;rw[hpn] at hsk;refine⟨h2,by show FrR S ⟨.unk,q1.SA 0,0,0⟩;rw[h3];exact⟨jap _,fun _ _ _=>rfl⟩,fun hok=>?_,fun p hp=>?_⟩
   ·simp only[e] at hok;rw[znt (by simpa using hsk)] at hok;cases hok
   ·simp only[e,ja7] at hp;have:=hk x hpn;rw[hp] at this;simp at this
  | false =>
  rw[hsk,jae] at h;cases hgk:gOK ops fr o.guard with
  | false=>rw[hgk] at h;cases h
  | true =>
  rw[hgk,jab] at h;have nopan:∀{q1:Recs},(∀x,pn=some x->q1.pn=some x)->(pn=none->∀x,q1.pn=some x->k+1<=x.1)->∀p,q1.pn≠some (k+0,p):=by
   intro q1 h4 h7 p hp;cases hpn:pn with
   | none=>have:k+1<=k+0:=h7 hpn _ hp;omega
   | some x =>
    have:=h4 x hpn;rw[this] at hp;cases hp;have:k+0<k:=hk _ hpn;omega
  cases hw:qbv ops nt fr o.guard with
  | true =>
   rw[hw,jab] at h;split at h
   ·cases h
   rename_i r hr;have hfr:=qi2 hcl r hr;split at h
   ·rename_i p hp;split at h
    ·cases h
    have hfl:qb0 p=true:=by
     cases hf:qb0 p with
     | true=>rfl
     | false=>rw[hf] at h;cases h
    rw[hfl,jab] at h;split at h<;>cases h;rename_i q1 hq;obtain⟨h1,h2,h3,h4,h5,h6⟩:=qgl hcl hq (fun x hx=>by cases hx;exact Nat.lt_succ_self k);have e:=h4 _ rfl;refine⟨(lenq (r0:=⟨fr,S,.unk,r.rd,r.wr,true⟩) h1 h5).1,rfl,rfl,(fun _ h=>by cases h),(lenq (r0:=⟨fr,S,.unk,r.rd,r.wr,true⟩) h1 h5).2,tail h1 h6 ?_⟩;refine⟨h2,by show FrR S ⟨.unk,q1.SA 0,0,r.wr⟩;rw[h3];exact hfr,fun hok=>?_,fun p' hp'=>?_⟩
    ·simp only[e] at hok;rw[show k+0=k from rfl,zec] at hok;cases hok
    ·simp only[e,ja7,jcj] at hp';rw[<- hp'.2];refine⟨⟨rfl,hw.symm,hgk⟩,rfl,hfl,?_⟩;show qbl P tt nt cl fr S o=some ⟨.pan p,q1.SA 0,r.rd,r.wr⟩;rw[h3,hr,<- zkd hp]
   ·rename_i hnp;split at h<;>cases h;rename_i q1 hq;obtain⟨h1,h2,h3,h4,h5,h6⟩:=qgl hcl hq hk1;refine⟨(lenq (r0:=⟨fr,S,r.v,r.rd,r.wr,true⟩) h1 h5).1,rfl,rfl,h4,(lenq (r0:=⟨fr,S,r.v,r.rd,r.wr,true⟩) h1 h5).2,tail h1 h6 ?_⟩;refine⟨h2,by show FrR S ⟨.unk,q1.SA 0,0,r.wr⟩;rw[h3];exact hfr,fun _=>⟨⟨hw.symm,hgk⟩,fun _=>?_,fun h=>absurd (show true=false from h) (by simp),hnp⟩,fun p hp=>(nopan h4 (qps hq) p hp).elim⟩;show qbl P tt nt cl fr S o=some ⟨r.v,q1.SA 0,r.rd,r.wr⟩;rw[h3];exact hr
  | false =>
   rw[hw,jae] at h;split at h<;>cases h;rename_i q1 hq;obtain⟨h1,h2,h3,h4,h5,h6⟩:=qgl hcl hq hk1;refine⟨(lenq (r0:=⟨fr,S,.tup [],0,0,false⟩) h1 h5).1,rfl,rfl,h4,(lenq (r0:=⟨fr,S,.tup [],0,0,false⟩) h1 h5).2,tail h1 h6 ?_⟩;exact⟨h2,by show FrR S ⟨.unk,q1.SA 0,0,0⟩;rw[h3];exact⟨jap _,fun _ _ _=>rfl⟩,fun _=>⟨⟨hw.symm,hgk⟩,fun h=>absurd (show false=true from h) (by simp),fun _=>⟨rfl,h3⟩,rfl⟩,fun p hp=>(nopan h4 (qps hq) p hp).elim⟩

def qg5(o:Oper)(acc:List Nat):Nat:=o.after.toList.foldl (fun s e=>cond (Region.binds .any e) (s ||| 2 ^ e.on ||| acc.getD e.on 0) s) 0
def befs:List Oper->List Nat->List Nat
 | [],acc=>acc
 | o::l,acc=>befs l (acc++[qg5 o acc])
theorem zbs{o:Oper}{acc:List Nat}{j:Nat}(h:(qg5 o acc).testBit j=true):∃e,e∈o.after/\Region.binds .any e=true/\(j=e.on\/(acc.getD e.on 0).testBit j=true):=by
 have:∀(l:List Edge) (s:Nat),(l.foldl (fun s e=>cond (Region.binds .any e) (s ||| 2 ^ e.on ||| acc.getD e.on 0) s) s).testBit j=true->s.testBit j=true\/∃e,e∈l/\Region.binds .any e=true/\(j=e.on\/(acc.getD e.on 0).testBit j=true):=by
  intro l;induction l with
  | nil=>intro s h;exact .inl h
  | cons e l ih =>
   intro s h;rcases ih _ h with h1|⟨e',h1,h2,h3⟩
   ·dsimp only at h1;cases hb:Region.binds .any e with
    | false=>rw[hb,jae] at h1;exact .inl h1
    | true =>
     rw[hb,jab] at h1;simp only[jbv,jdf] at h1;rcases h1 with (h1|h1)|h1
     ·exact .inl h1
     ·refine .inr ⟨e,jbq,hb,.inl ?_⟩;rw[Nat.testBit_two_pow] at h1;exact(jau h1).symm
     ·exact .inr ⟨e,jbq,hb,.inr h1⟩
   ·exact .inr ⟨e',jbc _ h1,h2,h3⟩
 rcases this _ _ h with h|⟨e,h1,h2⟩
 ·simp at h
 ·exact⟨e,Array.mem_toList_iff.1 h1,h2⟩
theorem qwb:∀(l:List Oper) (acc:List Nat),(∀i,i<acc.length->(befs l acc).getD i 0=acc.getD i 0)/\(befs l acc).length=acc.length+l.length /\
  ∀i o,l[i]?=some o->(befs l acc).getD (acc.length+i) 0=qg5 o ((befs l acc).take (acc.length+i))
 | [],acc=>⟨fun _ _=>rfl,by simp[befs],fun i o h=>by simp at h⟩
 | o::l,acc=>by
  obtain⟨h1,h2,h3⟩:=qwb l (acc++[qg5 o acc]);unfold befs;have hl:(acc++[qg5 o acc]).length=acc.length+1:=by simp
  refine⟨fun i hi=>?_,by rw[h2,hl];simp;omega,fun i o' ho=>?_⟩
  ·rw[h1 i (by omega)];simp[jar,ja2 hi]
  ·cases i with
   | zero =>
    simp only[jat,ja7] at ho;subst ho;rw[jby,h1 acc.length (by omega)];have e:(befs l (acc++[qg5 o acc])).take acc.length=acc:=by
     apply jcx;intro i;rw[jas];by_cases hi:i<acc.length
     ·rw[jam hi];have:=h1 i (by omega);simp only[jar] at this;rw[jac (by omega),ja2 hi,jac hi] at this;rw[jac (by omega),jac hi];simpa using this
     ·rw[jak hi,jbp (by omega)]
    rw[e];simp [jar]
   | succ i =>
    have:=h3 i o' (by simpa using ho);rw[hl] at this;rw[show acc.length+(i+1)=acc.length+1+i by omega];exact this
def qp0(ops:List Oper):Bool :=
 (ops.zipIdx.all fun p=>p.1.after.toList.all fun e=>!Region.binds .any e||Nat.blt e.on p.2) &&
 (ops.zipIdx.all fun p=>ops.zipIdx.all fun q=>!Nat.blt q.2 p.2||((befs ops []).getD p.2 0).testBit q.2||q.1.apart ops.toArray p.1)
def qhu(b rd wf:Nat):List (Nat × Nat)->Nat->Bool
 | [],_=>true
 | x::l,i=>cond (b.testBit i) (qhu b rd wf l (i+1)) (Nat.beq (x.2 &&& (rd ||| wf)) 0&&Nat.beq (x.1 &&& wf) 0&&qhu b rd wf l (i+1))
theorem qye{a b:Nat}(h:a &&& b=0)(i:Nat)(ha:a.testBit i=true):b.testBit i=false:=by
 have:(a &&& b).testBit i=false:=by rw[h];simp
 rw[Nat.testBit_and,ha] at this;simpa using this
theorem qz8{b rd wf:Nat}:∀{l:List (Nat × Nat)} {k:Nat},qhu b rd wf l k=true->∀i x,l[i]?=some x->b.testBit (k+i)=false->(x.2 &&& (rd ||| wf)=0)/\(x.1 &&& wf=0)
 | [],k,h,i,x,hx,hb=>by simp at hx
 | y::l,k,h,i,x,hx,hb=>by
  unfold qhu at h;have hrest:qhu b rd wf l (k+1)=true:=by
   cases hc:b.testBit k with
   | true=>rw[hc,jab] at h;exact h
   | false=>rw[hc,jae] at h;simp only[jaf] at h;exact h.2
  cases i with
  | zero =>
   simp only[jat,ja7] at hx;subst hx;rw[jby] at hb;rw[hb,jae] at h;simp only[jaf] at h;exact⟨jah h.1.1,jah h.1.2⟩
  | succ i=>exact qz8 hrest i x (by simpa using hx) (by rw[show k+1+i=k+(i+1) by omega];exact hb)
def qfa(n n':Nat):Nat:=2 ^ n'-2 ^ n
def qxd(l:List Rec)(S:IS):IS:=match l with|[]=>S|q::_=>q.S
def ichk:List Rec->IS->List Nat->List (Nat × Nat)->Bool
 | [],_,_,_=>true
 | r::l,S,bs,acc =>
  let n':=(qxd l S).next
  let wf:=r.wr ||| qfa r.S.next n'
  Nat.ble r.S.next n'&&Nat.blt r.rd (2 ^ r.S.next)&&Nat.blt r.wr (2 ^ r.S.next)&&qhu (bs.headD 0) r.rd wf acc 0&&ichk l S bs.tail (acc++[(r.rd,wf)])
end
end Go.Jx
end

section
namespace Go.Jx
open Go Go.Sx Go.RowKit
universe u

theorem q9l{n n':Nat}(h:n<=n')(id:Nat):(qfa n n').testBit id=true↔n<=id/\id<n':=by
 unfold qfa;have e:2 ^ n'-2 ^ n=2 ^ n*(2 ^ (n'-n)-1):=by
  rw[Nat.mul_sub,jfd,<- Nat.pow_add,show n+(n'-n)=n' by omega]
 rw[e,Nat.testBit_two_pow_mul,jdo];simp only[jaf,jax];omega
theorem qwx{x n id:Nat}(hx:x<2 ^ n)(h:x.testBit id=true):id<n:=by
 rcases jbm id n with h'|h'
 ·exact h'
 ·have:=Nat.testBit_lt_two_pow (jaz hx (Nat.pow_le_pow_right (by omega) h'));rw[this] at h;cases h
def sA(rs:List Rec)(S:IS)(i:Nat):IS:=match rs[i]? with|some r=>r.S|none=>S
def wfA(rs:List Rec)(S:IS)(i:Nat):Nat:=match rs[i]? with|some r=>r.wr ||| qfa r.S.next (sA rs S (i+1)).next|none=>0
theorem qog:∀{rs:List Rec} {S:IS} {bs:List Nat} {acc:List (Nat × Nat)},ichk rs S bs acc=true->∀(i:Nat) (r:Rec),rs[i]?=some r ->
  (r.S.next<=(sA rs S (i+1)).next/\r.rd<2 ^ r.S.next/\r.wr<2 ^ r.S.next) /\
  (∀m x,acc[m]?=some x->(bs.getD i 0).testBit m=false->x.2 &&& (r.rd ||| wfA rs S i)=0/\x.1 &&& wfA rs S i=0) /\
  (∀k q,k<i->rs[k]?=some q->(bs.getD i 0).testBit (acc.length+k)=false->wfA rs S k &&& (r.rd ||| wfA rs S i)=0/\q.rd &&& wfA rs S i=0)
 | [],S,bs,acc,h,i,r,hr=>by simp at hr
 | r0::l,S,bs,acc,h,i,r,hr=>by
  have hs1:sA (r0::l) S 1=qxd l S:=by cases l<;>rfl
  unfold ichk at h;simp only[jaf] at h;rw[<- hs1] at h;obtain⟨⟨⟨⟨h1,h2⟩,h3⟩,h4⟩,h5⟩:=h;have hw0:wfA (r0::l) S 0=r0.wr ||| qfa r0.S.next (sA (r0::l) S 1).next:=rfl
  have hwS:∀i,wfA (r0::l) S (i+1)=wfA l S i:=fun i=>rfl;cases i with
  | zero =>
   simp only[jat,ja7] at hr;subst hr;refine⟨⟨jao h1,by simpa using h2,by simpa using h3⟩,fun m x hx hb=>?_,fun k q hk=>absurd hk (by omega)⟩;have:=qz8 h4 m x hx (by rw[ja9];cases bs with|nil=>simp|cons b bs=>simpa [List.headD] using hb);rw[hw0];exact this
  | succ i =>
   have hr':l[i]?=some r:=by simpa using hr
   obtain⟨k1,k2,k3⟩:=qog h5 i r hr';have hbs:bs.tail.getD i 0=bs.getD (i+1) 0:=by cases bs<;>simp
   rw[hbs] at k2 k3;refine⟨k1,fun m x hx hb=>?_,fun k q hk hq hb=>?_⟩
   ·rw[hwS];have hm:m<acc.length:=by
     rcases jbm m acc.length with h|h
     ·exact h
     ·rw[jbp h] at hx;cases hx
    exact k2 m x (by rw[ja2 hm];exact hx) hb
   ·rw[hwS];cases k with
    | zero =>
     simp only[jat,ja7] at hq;subst hq;rw[hw0];exact k2 acc.length (r0.rd,_) (by simp) (by simpa using hb)
    | succ k =>
     rw[hwS];exact k3 k q (by omega) (by simpa using hq) (by rw[show (acc++[(r0.rd,r0.wr ||| qfa r0.S.next (sA (r0::l) S 1).next)]).length+k=acc.length+(k+1) by simp;omega];exact hb)
def orRd:List Rec->Nat
 | []=>0
 | r::l=>r.rd ||| orRd l
def orWr:List Rec->Nat
 | []=>0
 | r::l=>r.wr ||| orWr l
theorem qtm{T:Nat->Prop}:∀{rs:List Rec},tin T (orRd rs)->∀(i:Nat) (r:Rec),rs[i]?=some r->tin T r.rd
 | [],h,i,r,hr=>by simp at hr
 | r0::l,h,i,r,hr=>by
  obtain⟨h1,h2⟩:=qat h;cases i with
  | zero=>simp only[jat,ja7] at hr;subst hr;exact h1
  | succ i=>exact qtm h2 i r (by simpa using hr)
theorem qs1{T:Nat->Prop}:∀{rs:List Rec},tin T (orWr rs)->∀(i:Nat) (r:Rec),rs[i]?=some r->tin T r.wr
 | [],h,i,r,hr=>by simp at hr
 | r0::l,h,i,r,hr=>by
  obtain⟨h1,h2⟩:=qat h;cases i with
  | zero=>simp only[jat,ja7] at hr;subst hr;exact h1
  | succ i=>exact qs1 h2 i r (by simpa using hr)
def qfx(m:Nat):Nat->IS->IS
 | 0,S=>S
 | k+1,S=>qfx m k (cond (m.testBit k) (S.set k .dead) S)
def kill(m:Nat)(S:IS):IS:=qfx m S.next S
theorem qrk(m:Nat):∀(k:Nat) (S:IS),(qfx m k S).next=S.next/\∀id,(qfx m k S).H id=if id<k/\m.testBit id=true then some .dead else S.H id
 | 0,S=>⟨rfl,fun id=>by rw[jak (fun h=>absurd h.1 (Nat.not_lt_zero _))];rfl⟩
 | k+1,S=>by
  obtain⟨h1,h2⟩:=qrk m k (cond (m.testBit k) (S.set k .dead) S);have hn:(cond (m.testBit k) (S.set k .dead) S).next=S.next:=by cases m.testBit k<;>rfl
  refine⟨h1.trans hn,fun id=>?_⟩;show (qfx m k _).H id=_;rw[h2];by_cases ha:id<k/\m.testBit id=true
  ·rw[jam ha,jam ⟨by omega,ha.2⟩]
  ·rw[jak ha];by_cases hb:id<k+1/\m.testBit id=true
   ·have e:id=k:=by
     rcases jbm id k with h|h
     ·exact absurd ⟨h,hb.2⟩ ha
     ·omega
    rw[jam hb,<- e,hb.2,jab,IS.H_set,qah]
   ·rw[jak hb];cases hk:m.testBit k with
    | false=>rfl
    | true =>
     rw[jab,IS.H_set,up_ne];intro e;exact hb ⟨by omega,by rw[e];exact hk⟩
theorem qqs(m:Nat)(S:IS):(kill m S).next=S.next:=(qrk m _ S).1
theorem qfe(m:Nat)(S:IS)(id:Nat):(kill m S).H id=if id<S.next/\m.testBit id=true then some .dead else S.H id:=(qrk m _ S).2 id
theorem qyq:∀(k:Nat) (S:IS),qfx 0 k S=S
 | 0,S=>rfl
 | k+1,S=>by
  show qfx 0 k (cond (Nat.testBit 0 k) _ _)=S;rw[Nat.zero_testBit,jae];exact qyq k S
theorem zfe(S:IS):kill 0 S=S:=qyq _ S
theorem q78{T:TW}{W:Nat->Prop}{E0 E:Env}{S:IS}{H':Heap}{m:Nat}(p:Pre T E0 S)(hW:∀id,W id->T.w id)(hm:∀id,W id->E0.A id->m.testBit id=true)(st:Stp W E0 S.H E H') :
  Post T E0 S (E0.at_ E.w) (kill m S)/\Fresh E0 S (E0.at_ E.w):=by
 have hsame:∀b,b<E0.w.heap.size->b ∉ E0.m->E.w.heap[b]?=E0.w.heap[b]?:=fun b hb hn=>st.same b hb fun id hT hA hL e=>hn (e▸p.st.own id (T.sub _ (hW id hT)) hA hL);have hle:E0.Le (E0.at_ E.w):=⟨fun id h=>⟨h,rfl,rfl,rfl,rfl⟩,⟨fun b hb hn=>⟨hn,hsame b hb hn⟩⟩⟩;have hH:∀id,E0.A id->∀o,(kill m S).H id=some o->o.live=true->m.testBit id=false/\S.H id=some o:=fun id hA o ho hl=>by
  rw[qfe] at ho;by_cases h:id<S.next/\m.testBit id=true
  ·rw[jam h] at ho;cases ho;cases hl
  ·rw[jak h] at ho;refine⟨?_,ho⟩;cases hb:m.testBit id with
   | false=>rfl
   | true=>exact absurd ⟨p.bnd id hA,hb⟩ h
 have hL:∀id,E0.A id->Live (E0.at_ E.w) (kill m S).H id->Live E0 S.H id:=fun id hA ⟨h0,o,h1,h2⟩=>⟨h0,o,(hH id hA o h1 h2).2,h2⟩;have hkeep:∀id,T.r id->E0.A id->∀o,(kill m S).H id=some o->o.live=true->E0.hb id=true->E.w.heap[E0.ρ id]?=E0.w.heap[E0.ρ id]?:=fun id hT hA o ho hl hb=>by
  obtain⟨h1,h2⟩:=hH id hA o ho hl;have hlv:Live E0 S.H id:=⟨hb,o,h2,hl⟩;refine st.same _ (p.st.lo _ (p.st.own id hT hA hlv)) fun id' hw' hA' hL' e=>?_;have:=p.st.inj id' id (T.sub _ (hW id' hw')) hT hA' hA hL' hlv e;rw[<- this,hm id' hw' hA'] at h1;cases h1
 refine⟨⟨⟨fun id hT hA o ho=>?_,fun id hT hA o ho hb=>?_,fun id hT hA hl=>p.st.own id hT hA (hL id hA hl),fun i j a1 a2 a3 a4 a5 a6 a7=>p.st.inj i j a1 a2 a3 a4 (hL i a3 a5) (hL j a4 a6) a7,fun b hb=>jaz (p.st.lo b hb) st.size⟩,?_,fun id h=>by rw[qqs];exact p.bnd id h,by rw[qqs];exact jap _⟩,⟨fun id h hn=>absurd h hn⟩⟩
 ·by_cases hk:id<S.next/\m.testBit id=true
  ·have e:(kill m S).H id=some .dead:=by rw[qfe,jam hk]
   rw[e] at ho;cases ho;trivial
  ·have e:S.H id=some o:=by rw[qfe,jak hk] at ho;exact ho
   refine OR.mv hle ⟨rfl,rfl,rfl,rfl⟩ (p.st.blk id hT hA o e) (fun hl hb=>?_) (p.st.objs id hT hA o e);exact hkeep id hT hA o ho hl hb
 ·by_cases hk:id<S.next/\m.testBit id=true
  ·have e:(kill m S).H id=some .dead:=by rw[qfe,jam hk]
   rw[e] at ho;cases ho;cases hb
  ·have e:S.H id=some o:=by rw[qfe,jak hk] at ho;exact ho
   exact p.st.blk id hT hA o e hb
 ·exact⟨st.os,st.tape,st.output,st.size,fun b hb h=>st.same b hb fun id hw hA hl e=>h id (hW id hw) hA hl e,fun id h=>⟨h,rfl,rfl,rfl,rfl⟩,fun id h hn=>absurd h hn,fun id hT hA hl=>hL id hA hl,fun b hb=>.inl hb,fun b hb _=>.inl hb⟩
def iany(P:Program)(tt:Nat->Option TI)(nt:Nat)(cl:Cl)(ops:List Oper)(fr:PT IV)(S:IS):Option FRes :=
 match qa8 P tt nt cl ops (befs ops []) ops 0 none fr S with
 | none=>none
 | some q=>cond (ichk q.l q.S (befs ops []) []) (match q.pn with
  | none=>some ⟨q.fr,q.S,orRd q.l,orWr q.l,none⟩
  | some x=>some ⟨.leaf,kill (orWr q.l) S,orRd q.l,orWr q.l,some x.2⟩) none
section
variable {P : Program} {tt : Nat -> Option TI} {T : TW} {E : Env} {S : IS} {nt : Nat} {fr : PT IV} {a : Act} {cl : Cl} {F : Fence} {Q : Exit -> Act -> World -> Prop}
theorem qsy{α:Type u}{l:List α}{i:Nat}{x:α}(h:l[i]?=some x):(x,i)∈l.zipIdx:=by
 obtain⟨hi,rfl⟩:=jal.1 h;rw[jen];exact⟨i,by simp[hi]⟩
theorem zc3{ops:List Oper}{q:Recs}(hfr:ClFr cl)(hok:qp0 ops=true)(h:qa8 P tt nt cl ops (befs ops []) ops 0 none fr S=some q)(hc:ichk q.l q.S (befs ops []) []=true) :
  Reg P tt nt cl ops q.frA q.SA q.vA q.rdA q.wrA q.runA (fun i=>(befs ops []).getD i 0) (fun i id=>(q.wrA i).testBit id||(Nat.ble (q.SA i).next id&&Nat.blt id (q.SA (i+1)).next)) (okB (befs ops []) q.pn):=by
 obtain⟨s1,s2,s3,s5,s6,s4⟩:=qgl hfr h (fun _ h=>by cases h);obtain⟨b1,b2,b3⟩:=qwb ops [];have hS:∀i,sA q.l q.S i=q.SA i:=fun i=>rfl;have hget:∀i,i<ops.length->∃r,q.l[i]?=some r:=fun i hi=>⟨_,jac (by rw[s1];exact hi)⟩;have hSA:∀{i r},q.l[i]?=some r->q.SA i=r.S/\q.rdA i=r.rd/\q.wrA i=r.wr:=fun h=>by
  simp[Recs.SA,Recs.rdA,Recs.wrA,h]
 have hmono:∀i,i<ops.length->(q.SA i).next<=(q.SA (i+1)).next:=fun i hi=>by
  obtain⟨r,hr⟩:=hget i hi;obtain⟨⟨k1,k2,k3⟩,_⟩:=qog hc i r hr;rw[(hSA hr).1];exact k1
 have hsmall:∀i,i<ops.length->∀id,(q.rdA i).testBit id=true\/(q.wrA i).testBit id=true->id<(q.SA i).next:=fun i hi id hb=>by
  obtain⟨r,hr⟩:=hget i hi;obtain⟨⟨k1,k2,k3⟩,_⟩:=qog hc i r hr;obtain⟨e1,e2,e3⟩:=hSA hr;rw[e2,e3] at hb;rw[e1];rcases hb with hb|hb
  ·exact qwx k2 hb
  ·exact qwx k3 hb
 have hwrs:∀i id,i<ops.length->(((q.wrA i).testBit id||(Nat.ble (q.SA i).next id&&Nat.blt id (q.SA (i+1)).next))=true↔(q.wrA i).testBit id=true\/((q.SA i).next<=id/\id<(q.SA (i+1)).next)):=fun i id hi=>by
  simp
 have hwf:∀i id,i<ops.length->(((q.wrA i).testBit id||(Nat.ble (q.SA i).next id&&Nat.blt id (q.SA (i+1)).next))=true↔(wfA q.l q.S i).testBit id=true):=fun i id hi=>by
  obtain⟨r,hr⟩:=hget i hi;obtain⟨e1,e2,e3⟩:=hSA hr;rw[hwrs i id hi];have:wfA q.l q.S i=r.wr ||| qfa r.S.next (q.SA (i+1)).next:=by simp only[wfA,hr];rfl
  rw[this,jbv,jdf,e3,e1];have hm:=hmono i hi;rw[e1] at hm;rw[q9l hm]
 simp only[qp0,jaf] at hok;refine⟨fun i o ho hk=>(s4 i o ho).step (by rw[ja9];exact hk),fun i o ho=>(s4 i o ho).put,hmono,hsmall,hwrs,fun i o ho e he hb=>?_,fun i o j ho hb=>?_,fun i j oi oj hij hoi hoj hb=>?_,fun i hi id hid hw=>?_⟩
 ·have h1:=(ja6.1 hok.1) (o,i) (qsy ho);have h2:=(ja6.1 h1) e (by simpa using he);simp only[hb,jbh,jdr] at h2;simpa using h2
 ·have h1:=b3 i o ho;simp only[jce,ja9] at h1;rw[h1] at hb;obtain⟨e,e1,e2,e3⟩:=zbs hb;refine⟨e,e1,e2,?_⟩;rcases e3 with e3|e3
  ·exact .inl e3
  ·right;simp only[jar,jas] at e3 ⊢;split at e3
   ·exact e3
   ·simp at e3
 ·have hjl:j<ops.length:=(jal.1 hoj).1;have hil:i<ops.length:=by omega
  refine⟨?_,?_⟩
  ·have h1:=(ja6.1 hok.2) (oj,j) (qsy hoj);have h2:=(ja6.1 h1) (oi,i) (qsy hoi);have hlt:Nat.blt i j=true:=by simpa using hij
   simp only[hlt,jbh,jdr,hb] at h2;exact h2
  ·obtain⟨rj,hrj⟩:=hget j hjl;obtain⟨_,_,kj⟩:=qog hc j rj hrj;obtain⟨ri,hri⟩:=hget i hil;obtain⟨e1,e2,e3⟩:=hSA hrj;obtain⟨f1,f2,f3⟩:=hSA hri;obtain⟨c1,c2⟩:=kj i ri hij hri (by simpa using hb);have hno:∀id,(wfA q.l q.S j).testBit id=false->((q.wrA j).testBit id||(Nat.ble (q.SA j).next id&&Nat.blt id (q.SA (j+1)).next))=false:=fun id hf=>by
    cases hh:((q.wrA j).testBit id||(Nat.ble (q.SA j).next id&&Nat.blt id (q.SA (j+1)).next)) with
    | false=>rfl
    | true=>rw[(hwf j id hjl).1 hh] at hf;cases hf
   refine⟨fun id hid=>?_,fun id hid=>?_⟩
   ·have h1:=qye c1 id ((hwf i id hil).1 hid);rw[jbv,jcb] at h1;exact⟨hno id h1.2,by rw[e2];exact h1.1⟩
   ·rw[f2] at hid;exact hno id (qye c2 id hid)
 ·exact(s4 i _ (jac hi)).fra.2 id hid hw
theorem zlr{ops:List Oper}{rid:Nat}{q:FRes}(hm:P.follows .mixedOrders=true)(hF:F.plain=Fence.wide)(hcl:ClOK P cl)(hfr:ClFr cl)(htt:TT P tt)(hok:qp0 ops=true)(p:Pre T E S)(hf:FR E nt fr a.tmps)(h:iany P tt nt cl ops fr S=some q)(hrd:tin T.r q.rd)(hwr:tin T.w q.wr)
  (hQ:∀E' a' x,PanR E' q.p x->FR E' nt q.fr a'.tmps->a'.defers=a.defers->Post T E S E' q.S->Fresh E S E'->Q x a' E'.w):(Code.region rid ops.toArray true).wpIn F 0 P Q a E.w:=by
 unfold iany at h;split at h
 ·cases h
 rename_i g hg;cases hc:ichk g.l g.S (befs ops []) [] with
 | false=>rw[hc] at h;cases h
 | true =>
 rw[hc,jab] at h;have R:=zc3 hfr hok hg hc;obtain⟨s1,s2,s3,s5,s6,s4⟩:=qgl hfr hg (fun _ h=>by cases h);have hend:g.frA ops.length=g.fr/\g.SA ops.length=g.S:=by
  have:g.l[ops.length]?=none:=jbp (by rw[s1];exact jap _);simp[Recs.frA,Recs.SA,this]
 refine wpIn_region_any hm ?_;obtain⟨q1,q2⟩:=Post.idle (w':={ E.w with drawn:=E.w.drawn+1 }) p ⟨rfl,rfl,rfl,jap _,fun _ _ _=>rfl⟩;have p1:=q1.pre p;have hf1:=hf.mono (q1.env p);have hbit:∀i,i<ops.length->∃r,g.l[i]?=some r/\g.rdA i=r.rd/\g.wrA i=r.wr:=fun i hi=>by
  have hi':i<g.l.length:=by rw[s1];exact hi
  exact⟨_,jac hi',by simp[Recs.rdA,hi'],by simp[Recs.wrA,hi']⟩
 have e:(E.at_ { E.w with drawn:=E.w.drawn+1 }).w={ E.w with drawn:=E.w.drawn+1 }:=rfl;cases hpn:g.pn with
 | none =>
  rw[hpn] at h;cases h;have I0:=R.inv_start (T:=T) (a:=a) (E0:=E.at_ { E.w with drawn:=E.w.drawn+1 }) (by rw[s3];exact p1) (by rw[s2];exact hf1);have hA:=R.any_sound (T:=T) (E0:=E.at_ { E.w with drawn:=E.w.drawn+1 }) (Q:=Q) (ds:=a.defers) (bad:=fun _=>false) (PQ:=fun _=>False) hF hcl htt
   (fun j hj id hb=>by obtain⟨r,h1,h2,h3⟩:=hbit j hj;rw[h2] at hb;exact qtm hrd j r h1 id hb)
   (fun j hj id hb=>by obtain⟨r,h1,h2,h3⟩:=hbit j hj;rw[h3] at hb;exact qs1 hwr j r h1 id hb)
   (by rw[s3];exact p.nw) (by rw[s3];exact p.bnd) (fun j hj h1 h2=>by rw[hpn];rfl) (fun j oj hj hb=>by cases hb) (fun pv D E' a1 a' u hpv=>hpv.elim)
   (fun _ E' a' k1 k2 k3 k4 k5 k6=>by
    rw[hend.1] at k1;rw[hend.2] at k3 k4 k5;rw[s3] at k4 k6;have hmono:S.next<=g.S.next:=by
     have:=R.mono_le (jbj ops.length) (jap _)
     rwa [hend.2,s3] at this
    have hp:Post T (E.at_ { E.w with drawn:=E.w.drawn+1 }) S E' g.S:=⟨k3,k4,k5,hmono⟩;exact hQ E' a' _ rfl k1 k2 (Post.trans p q1 q2 hp) (q2.trans k6 (jap _)))
   ops.toArray.size (List.range ops.length) (Array.replicate ops.length false) (E.at_ { E.w with drawn:=E.w.drawn+1 }) a (by simp) jfj (fun i=>by
    rw[jej];exact⟨fun h=>⟨h,jc2 _ _⟩,fun h=>h.1⟩) (by simp) (fun i o ho hi=>by
     rw[jc2] at hi;cases hi) (fun i hi=>rfl) I0 rfl
  rw[e] at hA;simpa using hA
 | some x =>
 rw[hpn] at h;cases h;obtain⟨T',hT'⟩:∃T':TW,T'=⟨T.r,fun id=>(orWr g.l).testBit id=true\/S.next<=id,fun id h=>by
  rcases h with h|h
  ·exact T.sub _ (hwr id h)
  ·exact T.sub _ (p.nw id h)⟩:=⟨_,rfl⟩
 have hTr:T'.r=T.r:=by rw[hT']
 have hTw:∀id,T'.w id↔((orWr g.l).testBit id=true\/S.next<=id):=fun id=>by rw[hT']
 have hTs:∀id,T'.w id->T.w id:=fun id h=>by
  rcases(hTw id).1 h with h|h
  ·exact hwr id h
  ·exact p.nw id h
 have p1':Pre T' (E.at_ { E.w with drawn:=E.w.drawn+1 }) S:=⟨by rw[hTr];exact p1.st,p1.bnd,fun id h=>(hTw id).2 (.inr h),p1.gl⟩;have I0:=R.inv_start (T:=T') (a:=a) (E0:=E.at_ { E.w with drawn:=E.w.drawn+1 }) (by rw[s3];exact p1') (by rw[s2];exact hf1);have hlt:x.1<ops.length:=by have:=s6 x hpn;simpa using this
 have hJ:=(s4 x.1 _ (jac hlt)).pan x.2 (by rw[ja9,hpn]);have hA:=R.any_sound (T:=T') (E0:=E.at_ { E.w with drawn:=E.w.drawn+1 }) (Q:=Q) (ds:=a.defers) (bad:=fun i=>Nat.beq i x.1) (PQ:=fun pv=>pv=x.2) hF hcl htt
  (fun j hj id hb=>by obtain⟨r,h1,h2,h3⟩:=hbit j hj;rw[h2] at hb;rw[hTr];exact qtm hrd j r h1 id hb)
  (fun j hj id hb=>by obtain⟨r,h1,h2,h3⟩:=hbit j hj;rw[h3] at hb;exact(hTw id).2 (.inl (qs1 (T:=fun id=>(orWr g.l).testBit id=true) (fun _ h=>h) j r h1 id hb)))
  (by rw[s3];exact p1'.nw) (by rw[s3];exact p.bnd)
  (fun j hj h1 h2=>by
   rw[hpn];have h2:Nat.beq j x.1=false:=h2;unfold okB;simp only[h2,jba,jb3,jch];cases hb:((befs ops []).getD j 0).testBit x.1 with
   | false=>rfl
   | true=>have:=h1 x.1 hb;simp at this)
  (fun j oj hj hb=>by
   have e:j=x.1:=jah hb;obtain⟨k1,k2,k3,k4⟩:=(s4 j oj hj).pan x.2 (by rw[ja9,e,hpn]);exact⟨k1,k2,x.2,k3,rfl,k4⟩)
  (fun pv D E' a1 a' u hpv I' k1 k2 k3=>by
   subst hpv;obtain⟨z1,z2⟩:=q78 (T:=T) (W:=T'.w) (m:=orWr g.l) p1 hTs (fun id hw ha=>by
    rcases(hTw id).1 hw with h|h
    ·exact h
    ·exact absurd (p.bnd id ha) (Nat.not_lt.2 h)) (by have:=I'.stp;rw[s3] at this;exact this)
   exact hQ ((E.at_ { E.w with drawn:=E.w.drawn+1 }).at_ E'.w) a1 _ ⟨u,rfl,qt0 hJ.2.2.1 k3⟩ ⟨k1,fun t _=>.unk _⟩ k2 (Post.trans p q1 q2 z1) (q2.trans z2 (jap _)))
  (fun hnb=>by have:=hnb x.1 hlt;simp at this)
  ops.toArray.size (List.range ops.length) (Array.replicate ops.length false) (E.at_ { E.w with drawn:=E.w.drawn+1 }) a (by simp) jfj (fun i=>by
   rw[jej];exact⟨fun h=>⟨h,jc2 _ _⟩,fun h=>h.1⟩) (by simp) (fun i o ho hi=>by
    rw[jc2] at hi;cases hi) (fun i hi=>by rw[jc2] at hi;cases hi) I0 rfl
 rw[e] at hA;simpa using hA
end
end Go.Jx
end

section
namespace Go.Jx
open Go Go.Sx Go.RowKit
universe u

structure PostB (B:Nat) (T:TW) (E:Env) (S:IS) (E':Env) (S':IS):Prop where
 st:St T.r E' S'.H
 os:E'.w.os=E.w.os
 tape:E'.w.tape=E.w.tape
 output:E'.w.output=E.w.output
 size:E.w.heap.size<=E'.w.heap.size
 same:∀b,b<E.w.heap.size->(∀id,T.w id->E.A id->Live E S.H id->E.ρ id≠b)->E'.w.heap[b]?=E.w.heap[b]?
 alw:∀id,id<B->E.A id->E'.A id/\E'.ρ id=E.ρ id/\E'.κ id=E.κ id/\E'.hd id=E.hd id/\E'.hb id=E.hb id
 new:∀id,B<=id->E'.A id->Live E' S'.H id->E.w.heap.size<=E'.ρ id\/∃j,T.w j/\E.A j/\Live E S.H j/\E'.ρ id=E.ρ j
 old:∀id,id<B->T.w id->E.A id->Live E' S'.H id->Live E S.H id
 memo:∀b∈E'.m,b∈E.m\/E.w.heap.size<=b
 mem:∀b∈E.m,b<E.w.heap.size->b∈E'.m\/∃id,T.w id/\E.A id/\Live E S.H id/\E.ρ id=b
 bnd:∀id,E'.A id->id<S'.next
 le:B<=S'.next
 fr:∀id,id<B->E'.A id->E.A id
theorem PostB.of{B:Nat}{T:TW}{E:Env}{S:IS}{E':Env}{S':IS}(hB:B<=S.next)(hT:∀id,B<=id->T.w id)(h:Post T E S E' S')(f:Fresh E S E'):PostB B T E S E' S' :=
 ⟨h.st,h.stp.os,h.stp.tape,h.stp.output,h.stp.size,h.stp.same,fun id _ ha=>h.stp.alw id ha,fun id hb ha hl=>by
  by_cases hA:E.A id
  ·exact .inr ⟨id,hT id hb,hA,h.stp.old id (hT id hb) hA hl,(h.stp.alw id hA).2.1⟩
  ·exact h.stp.new id ha hA hl,fun id _ ht ha hl=>h.stp.old id ht ha hl,h.stp.memo,h.stp.mem,h.bnd,ja5 hB h.le,
  fun id hb ha=>jdx fun hn=>by have:=f.fr id ha hn;omega⟩
theorem PostB.refl{B:Nat}{T:TW}{E:Env}{S:IS}(hB:B<=S.next)(hT:∀id,B<=id->T.w id)(p:Pre T E S):PostB B T E S E S:=PostB.of hB hT (Post.refl p) (Fresh.refl E S)
theorem PostB.pre{B:Nat}{T:TW}{E E':Env}{S S':IS}(hT:∀id,B<=id->T.w id)(h:PostB B T E S E' S')(p:Pre T E S):Pre T E' S':=⟨h.st,h.bnd,fun id hi=>hT id (ja5 h.le hi),p.gl.mono ⟨fun b hb hm=>⟨fun h'=>by
  rcases h.memo b h' with h1|h1
  ·exact hm h1
  ·omega,h.same b hb fun id hT hA hL e=>hm (e▸p.st.own id (T.sub _ hT) hA hL)⟩⟩⟩
theorem PostB.trans{B:Nat}{T:TW}{E E' E'':Env}{S S' S'':IS}(h:PostB B T E S E' S')(k:PostB B T E' S' E'' S''):PostB B T E S E'' S'':=by
 have hlv:∀id,T.w id->E'.A id->Live E' S'.H id->E.w.heap.size<=E'.ρ id\/∃j,T.w j/\E.A j/\Live E S.H j/\E'.ρ id=E.ρ j:=fun id ht ha hL=>by
  rcases jbm id B with hb|hb
  ·have hA:=h.fr id hb ha;exact .inr ⟨id,ht,hA,h.old id hb ht hA hL,(h.alw id hb hA).2.1⟩
  ·exact h.new id hb ha hL
 refine⟨k.st,k.os.trans h.os,k.tape.trans h.tape,k.output.trans h.output,ja5 h.size k.size,fun b hb hn=>?_,fun id hb ha=>?_,fun id hb ha hL=>?_,fun id hb ht ha hL=>h.old id hb ht ha (k.old id hb ht (h.alw id hb ha).1 hL),fun b hb=>?_,fun b hb hlt=>?_,k.bnd,k.le,fun id hb ha=>h.fr id hb (k.fr id hb ha)⟩
 ·refine(k.same b (jaz hb h.size) fun id ht ha hL e=>?_).trans (h.same b hb hn);rcases hlv id ht ha hL with h1|⟨j,j1,j2,j3,j4⟩
  ·omega
  ·exact hn j j1 j2 j3 (j4▸e)
 ·obtain⟨a1,a2,a3,a4,a5⟩:=h.alw id hb ha;obtain⟨b1,b2,b3,b4,b5⟩:=k.alw id hb a1;exact⟨b1,b2.trans a2,b3.trans a3,b4.trans a4,b5.trans a5⟩
 ·rcases k.new id hb ha hL with h1|⟨j,j1,j2,j3,j4⟩
  ·exact .inl (ja5 h.size h1)
  ·rw[j4];exact hlv j j1 j2 j3
 ·rcases k.memo b hb with h1|h1
  ·exact h.memo b h1
  ·exact .inr (ja5 h.size h1)
 ·rcases h.mem b hb hlt with h1|h1
  ·rcases k.mem b h1 (jaz hlt h.size) with h2|⟨id,j1,j2,j3,j4⟩
   ·exact .inl h2
   ·rcases hlv id j1 j2 j3 with h3|⟨j,i1,i2,i3,i4⟩
    ·omega
    ·exact .inr ⟨j,i1,i2,i3,i4▸j4⟩
  ·exact .inr h1
theorem PostB.full{T:TW}{E:Env}{S:IS}{E':Env}{S':IS}(p:Pre T E S)(h:PostB S.next T E S E' S'):Post T E S E' S'/\Fresh E S E' :=
 ⟨⟨h.st,⟨h.os,h.tape,h.output,h.size,h.same,fun id ha=>h.alw id (p.bnd id ha) ha,fun id ha hn hl=>h.new id (jdj fun hb=>hn (h.fr id hb ha)) ha hl,fun id ht ha hl=>h.old id (p.bnd id ha) ht ha hl,h.memo,h.mem⟩,h.bnd,h.le⟩,
  ⟨fun id ha hn=>jdj fun hb=>hn (h.fr id hb ha)⟩⟩
theorem PostB.env{B:Nat}{T:TW}{E:Env}{S:IS}{E':Env}{S':IS}(p:Pre T E S)(h:PostB B T E S E' S'):(E.bel B).Le E' :=
 ⟨fun id ha=>h.alw id ha.2 ha.1,⟨fun b hb hm=>⟨fun h'=>by
  rcases h.memo b h' with h1|h1
  ·exact hm h1
  ·have hb':b<E.w.heap.size:=hb;omega,h.same b hb fun id hT hA hL e=>hm (e▸p.st.own id (T.sub _ hT) hA hL)⟩⟩⟩

def qdn(q:List Nat)(id:Nat):Option Nat:=match q with
 | []=>none
 | x::q=>cond (Nat.beq x id) (some 0) (match qdn q id with|some k=>some (k+1)|none=>none)
theorem q5f:∀{q:List Nat} {id k:Nat},qdn q id=some k->q[k]?=some id
 | [],id,k,h=>by cases h
 | x::q,id,k,h=>by
  unfold qdn at h;cases hb:Nat.beq x id with
  | true=>rw[hb,jab] at h;cases h;simp [jah hb]
  | false =>
   rw[hb,jae] at h;split at h<;>cases h;rename_i k hk;simpa using q5f hk
def ndB:List Nat->Bool
 | []=>true
 | x::q=>(qdn q x).isNone&&ndB q
theorem q6g:∀{q:List Nat} {id:Nat},qdn q id=none->id ∉ q
 | [],id,_=>by simp
 | x::q,id,h=>by
  unfold qdn at h;cases hb:Nat.beq x id with
  | true=>rw[hb] at h;cases h
  | false =>
   rw[hb,jae] at h;have h2:qdn q id=none:=by cases hp:qdn q id<;>rw[hp] at h<;>first|rfl|cases h
   have:=q6g h2;simp only[ja1,not_or];exact⟨fun e=>by (rw[e,jb6] at hb;cases hb),this⟩
theorem qzs:∀{q:List Nat},ndB q=true->q.Nodup
 | [],_=>List.nodup_nil
 | x::q,h=>by
  simp only[ndB,jaf,Option.isNone_iff_eq_none] at h;exact jdg.2 ⟨q6g h.1,qzs h.2⟩
def nw(B:Nat)(q:List Nat)(id:Nat):Option Nat:=cond (Nat.blt id B) (some id) (match qdn q id with|some k=>some (B+k)|none=>none)
def ol(B:Nat)(q:List Nat)(id:Nat):Nat:=if id<B then id else q.getD (id-B) 0
theorem qur{B:Nat}{q:List Nat}{id k:Nat}(h:nw B q id=some k):ol B q k=id/\k<B+q.length:=by
 unfold nw at h;cases hb:Nat.blt id B with
 | true =>
      rw[hb,jab] at h;cases h;have:id<B:=by simpa using hb
      exact⟨jam this,by omega⟩
 | false =>
  rw[hb,jae] at h;split at h<;>cases h;rename_i j hj;have h1:=q5f hj;have h2:=(jal.1 h1).1;refine⟨?_,by omega⟩;unfold ol;rw[jak (by omega),jbe,jar,h1];rfl

abbrev Fz:=Nat->Option (Σ c:TC,List (El c))
def ren0(z:Fz)(B:Nat)(q:List Nat):IV->IV
 | .arr id=>match z id with
  | some x=>.lst x.1 x.2
  | none=>match nw B q id with|some k=>.arr k|none=>.unk
 | .aptr id s i off=>match nw B q id with|some k=>.aptr k s i off|none=>.unk
 | .sl id off len s c=>match nw B q id with|some k=>.sl k off len s c|none=>.unk
 | .ptr id off=>match nw B q id with|some k=>.ptr k off|none=>.unk
 | .map id=>match nw B q id with|some k=>.map k|none=>.unk
 | .yield id=>match nw B q id with|some k=>.yield k|none=>.unk
 | .fn f cs=>match cs with|[]=>.fn f []|_=>.unk
 | .bfn _ _=>.unk
 | .iface _ _=>.unk
 | .agg _=>.unk
 | .tup cs=>match cs with|[]=>.tup []|_=>.unk
 | v=>v
def ren1(z:Fz)(B:Nat)(q:List Nat):IV->IV
 | .fn f cs=>.fn f (cs.map (ren0 z B q))
 | .bfn f cs=>.bfn f (cs.map (ren0 z B q))
 | .agg cs=>.agg (cs.map (ren0 z B q))
 | .tup cs=>.tup (cs.map (ren0 z B q))
 | .iface t v=>.iface t (ren0 z B q v)
 | v=>ren0 z B q v
def ren2(z:Fz)(B:Nat)(q:List Nat):IV->IV
 | .fn f cs=>.fn f (cs.map (ren1 z B q))
 | .bfn f cs=>.bfn f (cs.map (ren1 z B q))
 | .agg cs=>.agg (cs.map (ren1 z B q))
 | .tup cs=>.tup (cs.map (ren1 z B q))
 | .iface t v=>.iface t (ren1 z B q v)
 | v=>ren0 z B q v
def renE(B:Nat)(q:List Nat)(E:Env):Env:=⟨fun id=>E.ρ (ol B q id),fun id=>E.κ (ol B q id),fun id=>E.hd (ol B q id),fun id=>E.hb (ol B q id),fun id=>id<B+q.length/\E.A (ol B q id),E.m,E.w⟩
section
variable {E : Env} {B : Nat} {q : List Nat}
theorem qh7:∀(c:TC) (x:El c) (v:IV),v∈cel c x->(∃k n,v=.int k n)\/(∃b,v=.bool b)\/(∃s,v=.str s)\/(∃c l,v=.lst c l)\/(∃c x o,v=.eptr c x o)
 | .int k,n,v,h=>.inl ⟨k,n,by simpa [cel] using h⟩
 | .bool,b,v,h=>.inr (.inl ⟨b,by simpa [cel] using h⟩)
 | .str,s,v,h=>.inr (.inr (.inl ⟨s,by simpa [cel] using h⟩))
 | .list c,l,v,h=>.inr (.inr (.inr (.inl ⟨c,l,by simpa [cel] using h⟩)))
 | .two a b,x,v,h=>by
  simp only[cel,jbi] at h;rcases h with h|h
  ·exact qh7 a x.1 v h
  ·exact qh7 b x.2 v h
theorem VR.noid{E':Env}(hm:∀b,b∈E'.m->b∈E.m)(hw:E'.w=E.w){v:IV}{u:Value}(h:VR E v u):(∀c (l:List (El c)),v=.lst c l->VR E' v u)/\(∀c x o,v=.eptr c x o->VR E' v u)/\(∀c (x:El c),v∈cel c x->VR E' v u):=by
 have key:∀{v:IV} {u:Value},VR E v u->(∃k n,v=.int k n)\/(∃b,v=.bool b)\/(∃s,v=.str s)\/(∃c l,v=.lst c l)\/(∃c x o,v=.eptr c x o)->VR E' v u:=by
  intro v u h;induction h with
  | bool b=>intro _;exact .bool b
  | int k n h=>intro _;exact .int k n h
  | str s h=>intro _;exact .str s h
  | lst0 h=>intro _;exact .lst0 h
  | lst us h1 h2 h3 hb hh hc hu ih =>
   intro _;refine .lst us h1 h2 h3 (fun h=>hb (hm _ h)) (by rw[hw];exact hh) hc fun i hi j hj=>ih i hi j hj ?_;exact qh7 _ _ _ (ja0 hj)
  | eptr us hb hh hc hu ih =>
   intro _;exact .eptr us (fun h=>hb (hm _ h)) (by rw[hw];exact hh) hc fun j hj=>ih j hj (qh7 _ _ _ (ja0 hj))
  | _=>rintro(⟨_,_,h⟩|⟨_,h⟩|⟨_,h⟩|⟨_,_,h⟩|⟨_,_,_,h⟩)<;>cases h
 exact⟨fun c l e=>key h (.inr (.inr (.inr (.inl ⟨c,l,e⟩)))),fun c x o e=>key h (.inr (.inr (.inr (.inr ⟨c,x,o,e⟩)))),fun c x hm=>key h (qh7 c x v hm)⟩
def FzOK(E:Env)(z:Fz):Prop:=∀id x,z id=some x->E.A id->VR E (.lst x.1 x.2) (E.hd id)
variable {z : Fz}
theorem qfl(hz:FzOK E z){v:IV}{u:Value}(h:VR E v u):VR (renE B q E) (ren0 z B q v) u:=by
 have hA:∀{id k:Nat},nw B q id=some k->E.A id->(renE B q E).A k/\(renE B q E).ρ k=E.ρ id/\(renE B q E).κ k=E.κ id/\(renE B q E).hd k=E.hd id:=fun hn ha=>by
   obtain⟨h1,h2⟩:=qur hn;exact⟨⟨h2,by rw[h1];exact ha⟩,by simp only[renE,h1],by simp only[renE,h1],by simp only[renE,h1]⟩
 have hno:=VR.noid (E:=E) (E':=renE B q E) (fun _ h=>h) rfl h;cases h with
 | unk u=>exact .unk u
 | bool b=>exact .bool b
 | int k n h=>exact .int k n h
 | str s h=>exact .str s h
 | lst0 h=>exact .lst0 h
 | lst us h1 h2 h3 hb hh hc hu=>exact hno.1 _ _ rfl
 | eptr us hb hh hc hu=>exact hno.2.1 _ _ _ rfl
 | arr ha hh =>
   simp only[ren0];split
   · rename_i x hx;have:=hz _ x hx ha;rw[hh] at this;exact(VR.noid (E:=E) (E':=renE B q E) (fun _ h=>h) rfl this).1 _ _ rfl
   · split
     · rename_i k hk;obtain⟨a1,a2,a3,a4⟩:=hA hk ha;exact .arr a1 (a4.trans hh)
     · exact .unk _
 | aptr ha =>
   simp only[ren0];split
   · rename_i k hk;obtain⟨a1,a2,a3,a4⟩:=hA hk ha;rw[<- a2];exact .aptr a1
   · exact .unk _
 | nilsl=>exact .nilsl
 | sl cap ha h1 h2 h3 h4 h5 =>
   simp only[ren0];split
   · rename_i k hk;obtain⟨a1,a2,a3,a4⟩:=hA hk ha;rw[<- a2];exact .sl cap a1 h1 h2 (by rw[a3];exact h3) h4 (by rw[a3];exact h5)
   · exact .unk _
 | nilptr=>exact .nilptr
 | gp hg=>exact .gp hg
 | ptr ha =>
   simp only[ren0];split
   · rename_i k hk;obtain⟨a1,a2,a3,a4⟩:=hA hk ha;rw[<- a2];exact .ptr a1
   · exact .unk _
 | nilmap=>exact .nilmap
 | map ha =>
   simp only[ren0];split
   · rename_i k hk;obtain⟨a1,a2,a3,a4⟩:=hA hk ha;rw[<- a2];exact .map a1
   · exact .unk _
 | nilfn=>exact .nilfn
 | fn hl hh =>
   rename_i f cs us;cases cs with
   | nil =>
            have:us=[]:=by simpa using hl.symm
            subst this;exact .fn (cs:=[]) rfl (fun i h=>by simp at h)
   | cons _ _=>exact .unk _
 | bfn hl hh=>exact .unk _
 | yield ha =>
   simp only[ren0];split
   · rename_i k hk;obtain⟨a1,a2,a3,a4⟩:=hA hk ha;rw[<- a2];exact .yield a1
   · exact .unk _
 | nili=>exact .nili
 | iface h=>exact .unk _
 | agg hl hh=>exact .unk _
 | tup hl hh =>
   rename_i cs us;cases cs with
   | nil =>
            have:us=[]:=by simpa using hl.symm
            subst this;exact .tup (cs:=[]) rfl (fun i h=>by simp at h)
   | cons _ _=>exact .unk _
theorem qc6{f:IV->IV}(hf:∀{v u},VR E v u->VR (renE B q E) (f v) u){cs:List IV}{us:List Value}(h:VRs E cs us):VRs (renE B q E) (cs.map f) us :=
 ⟨by simp[h.1],fun i a b=>by simp only[jb8];exact hf (h.2 i (by simpa using a) b)⟩
theorem qk1(hz:FzOK E z){v:IV}{u:Value}(h:VR E v u):VR (renE B q E) (ren1 z B q v) u:=by
 cases v<;>try exact qfl hz h
 ·cases h with
  | fn hl hh=>have:=qc6 (B:=B) (q:=q) (qfl hz) ⟨hl,hh⟩;exact .fn this.1 this.2
 ·cases h with
  | bfn hl hh=>have:=qc6 (B:=B) (q:=q) (qfl hz) ⟨hl,hh⟩;exact .bfn this.1 this.2
 ·cases h with
  | iface h=>exact .iface (qfl hz h)
 ·cases h with
  | agg hl hh=>have:=qc6 (B:=B) (q:=q) (qfl hz) ⟨hl,hh⟩;exact .agg this.1 this.2
 ·cases h with
  | tup hl hh=>have:=qc6 (B:=B) (q:=q) (qfl hz) ⟨hl,hh⟩;exact .tup this.1 this.2
theorem qkw(hz:FzOK E z){v:IV}{u:Value}(h:VR E v u):VR (renE B q E) (ren2 z B q v) u:=by
 cases v<;>try exact qfl hz h
 ·cases h with
  | fn hl hh=>have:=qc6 (B:=B) (q:=q) (qk1 hz) ⟨hl,hh⟩;exact .fn this.1 this.2
 ·cases h with
  | bfn hl hh=>have:=qc6 (B:=B) (q:=q) (qk1 hz) ⟨hl,hh⟩;exact .bfn this.1 this.2
 ·cases h with
  | iface h=>exact .iface (qk1 hz h)
 ·cases h with
  | agg hl hh=>have:=qc6 (B:=B) (q:=q) (qk1 hz) ⟨hl,hh⟩;exact .agg this.1 this.2
 ·cases h with
  | tup hl hh=>have:=qc6 (B:=B) (q:=q) (qk1 hz) ⟨hl,hh⟩;exact .tup this.1 this.2
end
end Go.Jx
end

section
namespace Go.Jx
open Go Go.Sx Go.RowKit
universe u

def PT.mapv{α:Type u}(f:α->α):PT α->PT α
 | .leaf=>.leaf
 | .node v l r=>.node (match v with|some x=>some (f x)|none=>none) (l.mapv f) (r.mapv f)
theorem PT.get_mapv{α:Type u}(f:α->α):∀(t:PT α) (n:Nat),(t.mapv f).get n=(t.get n).map f
 | .leaf,n=>rfl
 | .node v l r,n=>by
  simp only[PT.mapv,PT.get];cases hb:Nat.beq n 0 with
  | true=>cases v<;>rfl
  | false =>
   cases hc:Nat.beq (n % 2) 1 with
   | true=>exact PT.get_mapv f l _
   | false=>exact PT.get_mapv f r _
def PT.vals{α:Type u}:PT α->List α
 | .leaf=>[]
 | .node v l r=>(match v with|some x=>[x]|none=>[])++(l.vals++r.vals)
def renO(z:Fz)(B:Nat)(q:List Nat):IObj->IObj
 | .row cs=>.row (cs.map (ren2 z B q))
 | .map es=>.map (es.map fun e=>(ren2 z B q e.1,ren2 z B q e.2))
 | .loop st pend nt fr ps assign body D=>match nw B q D with
  | some k=>.loop st pend nt (fr.mapv (ren2 z B q)) ps assign body k
  | none=>.dead
 | .bld j=>match nw B q j with|some k=>.bld k|none=>.dead
 | o=>o
def low0(N:Nat):IV->Bool
 | .bool _=>true
 | .int _ _=>true
 | .str _=>true
 | .lst _ _=>true
 | .eptr _ _ _=>true
 | .unk=>true
 | .nilsl=>true
 | .nilptr=>true
 | .gp _=>true
 | .nilmap=>true
 | .nilfn=>true
 | .nili=>true
 | .arr id=>Nat.blt id N
 | .aptr id _ _ _=>Nat.blt id N
 | .sl id _ _ _ _=>Nat.blt id N
 | .ptr id _=>Nat.blt id N
 | .map id=>Nat.blt id N
 | .yield id=>Nat.blt id N
 | _=>false
def low1(N:Nat):IV->Bool
 | .fn _ cs=>cs.all (low0 N)
 | .bfn _ cs=>cs.all (low0 N)
 | .agg cs=>cs.all (low0 N)
 | .tup cs=>cs.all (low0 N)
 | .iface _ v=>low0 N v
 | v=>low0 N v
def low2(N:Nat):IV->Bool
 | .fn _ cs=>cs.all (low1 N)
 | .bfn _ cs=>cs.all (low1 N)
 | .agg cs=>cs.all (low1 N)
 | .tup cs=>cs.all (low1 N)
 | .iface _ v=>low1 N v
 | v=>low0 N v
def lowO(N:Nat):IObj->Bool
 | .row cs=>cs.all (low2 N)
 | .map es=>es.all fun e=>low2 N e.1&&low2 N e.2
 | .loop _ _ _ fr _ _ _ D=>Nat.blt D N&&fr.vals.all (low2 N)
 | .bld j=>Nat.blt j N
 | _=>true
section
variable {E E' : Env} {N : Nat}
structure LowOK (E E':Env) (N:Nat):Prop where
 alw:∀id,id<N->E.A id->E'.A id/\E'.ρ id=E.ρ id/\E'.κ id=E.κ id/\E'.hd id=E.hd id/\E'.hb id=E.hb id
 m:∀b,b∈E'.m->b∈E.m
 w:E'.w=E.w
theorem qfy(h:LowOK E E' N){v:IV}{u:Value}(hl:low0 N v=true)(hv:VR E v u):VR E' v u:=by
 have hno:=VR.noid h.m h.w hv;cases hv<;>try (cases hl;done)
 ·exact .unk _
 ·exact .bool _
 ·exact .int _ _ (by assumption)
 ·exact .str _ (by assumption)
 ·exact .lst0 (by assumption)
 ·exact hno.1 _ _ rfl
 ·exact hno.2.1 _ _ _ rfl
 ·rename_i hA hh;obtain⟨a1,a2,a3,a4,a5⟩:=h.alw _ (by simpa [low0] using hl) hA;exact .arr a1 (a4.trans hh)
 ·rename_i hA;obtain⟨a1,a2,a3,a4,a5⟩:=h.alw _ (by simpa [low0] using hl) hA;rw[<- a2];exact .aptr a1
 ·exact .nilsl
 ·rename_i cap hA h1 h2 h3 h4 h5;obtain⟨a1,a2,a3,a4,a5⟩:=h.alw _ (by simpa [low0] using hl) hA;rw[<- a2];exact .sl cap a1 h1 h2 (by rw[a3];exact h3) h4 (by rw[a3];exact h5)
 ·exact .nilptr
 ·exact .gp (by assumption)
 ·rename_i hA;obtain⟨a1,a2,a3,a4,a5⟩:=h.alw _ (by simpa [low0] using hl) hA;rw[<- a2];exact .ptr a1
 ·exact .nilmap
 ·rename_i hA;obtain⟨a1,a2,a3,a4,a5⟩:=h.alw _ (by simpa [low0] using hl) hA;rw[<- a2];exact .map a1
 ·exact .nilfn
 ·rename_i hA;obtain⟨a1,a2,a3,a4,a5⟩:=h.alw _ (by simpa [low0] using hl) hA;rw[<- a2];exact .yield a1
 ·exact .nili
theorem qcw{f:IV->Bool}(hf:∀{v u},f v=true->VR E v u->VR E' v u){cs:List IV}{us:List Value}(hl:cs.all f=true)(h:VRs E cs us):VRs E' cs us :=
 ⟨h.1,fun i a b=>hf ((ja6.1 hl) _ (ja0 a)) (h.2 i a b)⟩
theorem qk0(h:LowOK E E' N){v:IV}{u:Value}(hl:low1 N v=true)(hv:VR E v u):VR E' v u:=by
 cases v<;>try exact qfy h hl hv
 ·cases hv with
  | fn hl' hh=>have:=qcw (qfy h) hl ⟨hl',hh⟩;exact .fn this.1 this.2
 ·cases hv with
  | bfn hl' hh=>have:=qcw (qfy h) hl ⟨hl',hh⟩;exact .bfn this.1 this.2
 ·cases hv with
  | iface hv=>exact .iface (qfy h hl hv)
 ·cases hv with
  | agg hl' hh=>have:=qcw (qfy h) hl ⟨hl',hh⟩;exact .agg this.1 this.2
 ·cases hv with
  | tup hl' hh=>have:=qcw (qfy h) hl ⟨hl',hh⟩;exact .tup this.1 this.2
theorem qfo(h:LowOK E E' N){v:IV}{u:Value}(hl:low2 N v=true)(hv:VR E v u):VR E' v u:=by
 cases v<;>try exact qfy h hl hv
 ·cases hv with
  | fn hl' hh=>have:=qcw (qk0 h) hl ⟨hl',hh⟩;exact .fn this.1 this.2
 ·cases hv with
  | bfn hl' hh=>have:=qcw (qk0 h) hl ⟨hl',hh⟩;exact .bfn this.1 this.2
 ·cases hv with
  | iface hv=>exact .iface (qk0 h hl hv)
 ·cases hv with
  | agg hl' hh=>have:=qcw (qk0 h) hl ⟨hl',hh⟩;exact .agg this.1 this.2
 ·cases hv with
  | tup hl' hh=>have:=qcw (qk0 h) hl ⟨hl',hh⟩;exact .tup this.1 this.2
theorem PT.vals_get{α:Type u}:∀{t:PT α} {n:Nat} {x:α},t.get n=some x->x∈t.vals
 | .leaf,n,x,h=>by cases h
 | .node v l r,n,x,h=>by
  simp only[PT.get] at h;simp only[PT.vals,jbi];cases hb:Nat.beq n 0 with
  | true=>rw[hb,jab] at h;subst h;exact .inl (by simp)
  | false =>
   rw[hb,jae] at h;cases hc:Nat.beq (n % 2) 1 with
   | true=>rw[hc,jab] at h;exact .inr (.inl (PT.vals_get h))
   | false=>rw[hc,jae] at h;exact .inr (.inr (PT.vals_get h))
theorem zl9(h:LowOK E E' N){id:Nat}{o:IObj}(hid:id<N)(hA:E.A id)(hl:lowO N o=true)(ho:OR E id o):OR E' id o:=by
 obtain⟨a1,a2,a3,a4,a5⟩:=h.alw id hid hA;have hD:∀{c:TC} {l:List (El c)} {cells:Array Value},ARel E c l cells->ARel E' c l cells:=fun ⟨us,h1,h2⟩=>⟨us,h1,fun i hi j hj=>(VR.noid h.m h.w (h2 i hi j hj)).2.2 _ _ (ja0 hj)⟩;cases o with
 | dead=>trivial
 | row cs=>obtain⟨cells,t,h1,h2,h3,h4⟩:=ho;exact⟨cells,t,by rw[a2,h.w];exact h1,by rw[a3];exact h2,h3,qcw (qfo h) hl h4⟩
 | arr c l =>
  obtain⟨a,cap,h1,h2,h3,h4,h5⟩:=ho;exact⟨a,cap,by rw[a4];exact h1,h2,h3,h4,h5.imp (fun⟨x,y⟩=>⟨by rw[a5];exact x,y⟩) fun⟨b1,b2,cells,t,b3,b4,b5⟩=>⟨by rw[a5];exact b1,by rw[a2];exact b2,cells,t,by rw[a2,h.w];exact b3,b4,hD b5⟩⟩
 | frz c l=>show VR E' _ (E'.hd id);rw[a4];exact(VR.noid h.m h.w ho).1 _ _ rfl
 | map es =>
  obtain⟨ents,c,h1,h2,h3,h4⟩:=ho;simp only[lowO] at hl;have hl1:(es.map (·.1)).all (low2 N)=true:=by
   rw[ja6] at hl ⊢;intro x hx;obtain⟨e,he,rfl⟩:=jbu.1 hx;have:=hl e he;simp only[jaf] at this;exact this.1
  have hl2:(es.map (·.2)).all (low2 N)=true:=by
   rw[ja6] at hl ⊢;intro x hx;obtain⟨e,he,rfl⟩:=jbu.1 hx;have:=hl e he;simp only[jaf] at this;exact this.2
  exact⟨ents,c,by rw[a2,h.w];exact h1,qcw (qfo h) hl1 h2,qcw (qfo h) hl2 h3,h4⟩
 | tmap kc vc es =>
  obtain⟨ents,c,h1,h2,h3,h4⟩:=ho;have hk:∀(c:TC) (x:El c),low2 N (asIV c x)=true:=fun c x=>by
   cases c<;>try rfl
   simp only[asIV,low2];rw[ja6];intro y hy;rcases qh7 _ _ _ hy with ⟨_,_,e⟩|⟨_,e⟩|⟨_,e⟩|⟨_,_,e⟩|⟨_,_,_,e⟩<;>subst e<;>rfl
  refine⟨ents,c,by rw[a2,h.w];exact h1,qcw (qfo h) ?_ h2,qcw (qfo h) ?_ h3,h4⟩
  ·rw[ja6];intro x hx;obtain⟨e,he,rfl⟩:=jbu.1 hx;obtain⟨e',_,rfl⟩:=jbu.1 he;exact hk _ _
  ·rw[ja6];intro x hx;obtain⟨e,he,rfl⟩:=jbu.1 hx;obtain⟨e',_,rfl⟩:=jbu.1 he;exact hk _ _
 | iter s p=>show _/\_;rw[a2,h.w];exact ho
 | defs on=>show _=_;rw[a2,h.w];exact ho
 | bld j =>
  obtain⟨p,v,h1,h2,h3⟩:=ho;cases h3 with
  | arr hA hh =>
   obtain⟨b1,b2,b3,b4,b5⟩:=h.alw j (by simpa [lowO] using hl) hA;exact⟨p,_,by rw[a2,h.w];exact h1,by rw[a2];exact h2,.arr b1 (b4.trans hh)⟩
 | loop st pend nt fr ps assign body D =>
  obtain⟨fn,tmps,h1,h2,h3⟩:=ho;simp only[lowO,jaf] at hl;obtain⟨b1,b2,_⟩:=h.alw D (by simpa using hl.1) h3;refine⟨fn,tmps,by rw[a2,h.w,b2];exact h1,⟨h2.size,fun t ht=>?_⟩,b1⟩;have:=h2.get t ht;unfold slot at this ⊢;cases hg:fr.get t with
  | none=>exact .unk _
  | some x =>
   rw[hg] at this;exact qfo h ((ja6.1 hl.2) x (PT.vals_get hg)) this
end
section
variable {E : Env} {B : Nat} {q : List Nat} {z : Fz}
theorem q2b(hz:FzOK E z){id k:Nat}{o:IObj}(hk:ol B q k=id)(ho:OR E id o):OR (renE B q E) k (renO z B q o):=by
 have e1:(renE B q E).ρ k=E.ρ id:=by simp only[renE,hk]
 have e2:(renE B q E).κ k=E.κ id:=by simp only[renE,hk]
 have e3:(renE B q E).hd k=E.hd id:=by simp only[renE,hk]
 have e4:(renE B q E).hb k=E.hb id:=by simp only[renE,hk]
 have hno:∀{v:IV} {u:Value},VR E v u->_:=fun h=>VR.noid (E:=E) (E':=renE B q E) (fun _ h=>h) rfl h;cases o with
 | dead=>trivial
 | row cs =>
  obtain⟨cells,t,h1,h2,h3,h4⟩:=ho;refine⟨cells,t,by rw[e1];exact h1,by rw[e2];exact h2,by simpa using h3,?_⟩;rw[jbd];exact qc6 (qkw hz) h4
 | arr c l =>
  obtain⟨a,cap,h1,h2,h3,h4,h5⟩:=ho;exact⟨a,cap,by rw[e3];exact h1,h2,h3,h4,h5.imp (fun⟨x,y⟩=>⟨by rw[e4];exact x,y⟩) fun⟨b1,b2,cells,t,b3,b4,us,b5,b6⟩=>⟨by rw[e4];exact b1,by rw[e1];exact b2,cells,t,by rw[e1];exact b3,b4,us,b5,fun i hi j hj=>(hno (b6 i hi j hj)).2.2 _ _ (ja0 hj)⟩⟩
 | frz c l=>show VR _ _ ((renE B q E).hd k);rw[e3];exact(hno ho).1 _ _ rfl
 | map es =>
  obtain⟨ents,c,h1,h2,h3,h4⟩:=ho;refine⟨ents,c,by rw[e1];exact h1,?_,?_,h4⟩
  ·have:=qc6 (B:=B) (q:=q) (qkw hz) h2;simpa [List.map_map,Function.comp_def] using this
  ·have:=qc6 (B:=B) (q:=q) (qkw hz) h3;simpa [List.map_map,Function.comp_def] using this
 | tmap kc vc es =>
  obtain⟨ents,c,h1,h2,h3,h4⟩:=ho;have hk:∀(c:TC) (x:El c) (u:Value),VR E (asIV c x) u->VR (renE B q E) (asIV c x) u:=fun c x u h=>by
   cases c with
   | two a b =>
    cases h with
    | agg hl hh=>exact .agg hl fun i a b=>(hno (hh i a b)).2.2 _ _ (ja0 a)
   | int k=>exact(hno h).2.2 (.int k) x (by simp[cel,asIV])
   | bool=>exact(hno h).2.2 .bool x (by simp[cel,asIV])
   | str=>exact(hno h).2.2 .str x (by simp[cel,asIV])
   | list c=>exact(hno h).2.2 (.list c) x (by simp[cel,asIV])
  refine⟨ents,c,by rw[e1];exact h1,⟨h2.1,fun i a b=>?_⟩,⟨h3.1,fun i a b=>?_⟩,h4⟩
  ·have:=h2.2 i a b;simp only[tmEs,jb8] at this ⊢;exact hk _ _ _ this
  ·have:=h3.2 i a b;simp only[tmEs,jb8] at this ⊢;exact hk _ _ _ this
 | iter s p=>show _/\_;rw[e1];exact ho
 | defs on=>show _=_;rw[e1];exact ho
 | bld j =>
  obtain⟨p,v,h1,h2,h3⟩:=ho;simp only[renO];split
  ·rename_i k' hk';obtain⟨g1,g2⟩:=qur hk';cases h3 with
   | arr hA hh =>
    have hd:(renE B q E).hd k'=E.hd j:=by simp only[renE,g1]
    exact⟨p,_,by rw[e1];exact h1,by rw[e1];exact h2,.arr ⟨g2,by rw[g1];exact hA⟩ (hd.trans hh)⟩
  ·trivial
 | loop st pend nt fr ps assign body D =>
  obtain⟨fn,tmps,h1,h2,h3⟩:=ho;simp only[renO];split
  ·rename_i k' hk';obtain⟨g1,g2⟩:=qur hk';refine⟨fn,tmps,?_,⟨h2.size,fun t ht=>?_⟩,⟨g2,by rw[g1];exact h3⟩⟩
   ·rw[e1];have:(renE B q E).ρ k'=E.ρ D:=by simp only[renE,g1]
    rw[this];exact h1
   ·have:=qkw (B:=B) (q:=q) hz (h2.get t ht);unfold slot at this ⊢;rw[PT.get_mapv];cases hg:fr.get t with
    | none=>exact .unk _
    | some x=>rw[hg] at this;exact this
  ·trivial
theorem q2q{o:IObj}(h:(renO z B q o).live=true):o.live=true:=by cases o<;>first|rfl|(cases h;done)
theorem q3x{o:IObj}(h:(renO z B q o).blk=true):o.blk=true:=by cases o<;>first|rfl|(cases h;done)

def qka:List (Option IObj)->Nat->PT IObj->PT IObj
 | [],_,t=>t
 | o::l,i,t=>qka l (i+1) (match o with|some x=>t.set x i|none=>t)
theorem q0q:∀(l:List (Option IObj)) (i:Nat) (t:PT IObj) (k:Nat),(∀j,i<=j->t.get j=none)->(qka l i t).get k=if k<i then t.get k else (l[k-i]?).join
 | [],i,t,k,h=>by
  unfold qka;by_cases hk:k<i
  ·rw[jam hk]
  ·rw[jak hk,h k (by omega)];rfl
 | o::l,i,t,k,h=>by
  unfold qka;rw[q0q l (i+1) _ k (fun j hj=>by
   cases o with
   | none=>exact h j (by omega)
   | some x=>simp only;rw[PT.get_set,jak (by omega)];exact h j (by omega))]
  by_cases hk:k<i
  ·rw[jam (by omega),jam hk];cases o with
   | none=>rfl
   | some x=>simp only;rw[PT.get_set,jak (by omega)]
  ·rw[jak hk];by_cases hk2:k=i
   ·subst hk2;rw[jam (by omega),Nat.sub_self];cases o with
    | none=>simp only;rw[h k (jap _)];rfl
    | some x=>simp only;rw[PT.get_set,jam rfl];rfl
   ·rw[jak (by omega),show k-i=(k-(i+1))+1 by omega];rfl
def qfp(z:Fz)(B:Nat)(q:List Nat)(o:IObj):IObj:=cond (lowO B o) o (renO z B q o)
def nrmS(z:Fz)(B:Nat)(q:List Nat)(S:IS):IS :=
 ⟨qka ((List.range B).map (fun id=>match S.heap.get id with|some o=>some (qfp z B q o)|none=>none)++q.map (fun id=>match S.heap.get id with|some o=>some (renO z B q o)|none=>none)) 0 .leaf,B+q.length⟩
theorem qtv{S:IS}(k:Nat):(nrmS z B q S).H k=if k<B then (match S.heap.get k with|some o=>some (qfp z B q o)|none=>none) else if k<B+q.length then (match S.heap.get (ol B q k) with|some o=>some (renO z B q o)|none=>none) else none:=by
 unfold nrmS IS.H;simp only;rw[q0q _ _ _ _ (fun j _=>rfl),jak (by omega),jeo];by_cases h1:k<B
 ·rw[jam h1,ja2 (by simpa using h1)];simp only[jbw,List.getElem?_range h1,jdl];cases S.heap.get k<;>rfl
 ·rw[jak h1,jbf (by simp;omega)];simp only[jbd,jds,jbw];by_cases h2:k<B+q.length
  ·rw[jam h2];have h3:k-B<q.length:=by omega
   have e:ol B q k=q[k-B]:=by unfold ol;rw[jak h1,jar,jac h3];rfl
   rw[jac h3,e];simp only[jdl];cases S.heap.get q[k-B]<;>rfl
  ·rw[jak h2,jbp (by omega)];rfl
theorem q73{T:TW}{S:IS}(p:Pre T E S)(hB:B<=S.next)(hT:∀id,B<=id->T.w id)(hz:FzOK E z)(hn:ndB q=true)(hq:q.all (fun id=>Nat.ble B id)=true) :
  PostB B T E S (renE B q E) (nrmS z B q S):=by
 have hqB:∀id∈q,B<=id:=fun id hi=>jao ((ja6.1 hq) id hi);have hnd:=qzs hn;have hlowE:LowOK E (renE B q E) B:=⟨fun id hlt hA=>by
  have e:ol B q id=id:=jam hlt;exact⟨⟨by omega,by rw[e];exact hA⟩,by simp only[renE,e],by simp only[renE,e],by simp only[renE,e],by simp only[renE,e]⟩,fun _ h=>h,rfl⟩
 have hol:∀id,B<=id->id<B+q.length->B<=ol B q id:=fun id h1 h2=>by
  have h3:id-B<q.length:=by omega
  unfold ol;rw[jak (by omega),jar,jac h3];exact hqB _ (ja0 h3)
 have hinj:∀i j,i<B+q.length->j<B+q.length->ol B q i=ol B q j->i=j:=fun i j hi hj h=>by
  rcases jbm i B with h1|h1
  ·have e1:ol B q i=i:=jam h1;rcases jbm j B with h2|h2
   ·rwa [e1,show ol B q j=j from jam h2] at h
   ·have:=hol j h2 hj;omega
  ·rcases jbm j B with h2|h2
   ·have e2:ol B q j=j:=jam h2;have:=hol i h1 hi;omega
   ·have h3:i-B<q.length:=by omega
    have h4:j-B<q.length:=by omega
    have e1:ol B q i=q[i-B]:=by unfold ol;rw[jak (by omega),jar,jac h3];rfl
    have e2:ol B q j=q[j-B]:=by unfold ol;rw[jak (by omega),jar,jac h4];rfl
    rw[e1,e2] at h;have:=(List.getElem_inj hnd).1 h;omega
 have hTr:∀id,id<B+q.length->T.r id->T.r (ol B q id):=fun id h1 h2=>by
  rcases jbm id B with h3|h3
  ·rw[show ol B q id=id from jam h3];exact h2
  ·exact T.sub _ (hT _ (hol id h3 h1))
 have hobj:∀{id:Nat} {o:IObj},id<B+q.length->(nrmS z B q S).H id=some o->∃o0,S.H (ol B q id)=some o0/\((id<B/\o=qfp z B q o0)\/o=renO z B q o0):=fun {id o} hlt h=>by
  rw[qtv] at h;by_cases h1:id<B
  ·rw[jam h1] at h;rw[show ol B q id=id from jam h1];split at h<;>cases h;rename_i o0 ho;exact⟨o0,ho,.inl ⟨h1,rfl⟩⟩
  ·rw[jak h1,jam hlt] at h;split at h<;>cases h;rename_i o0 ho;exact⟨o0,ho,.inr rfl⟩
 have hlive:∀id,id<B+q.length->Live (renE B q E) (nrmS z B q S).H id->Live E S.H (ol B q id):=fun id hlt ⟨h0,o,h1,h2⟩=>by
  obtain⟨o0,g1,g2⟩:=hobj hlt h1;refine⟨h0,o0,g1,?_⟩;rcases g2 with ⟨_,rfl⟩|rfl
  ·unfold qfp at h2;cases hb:lowO B o0<;>rw[hb] at h2
   ·exact q2q h2
   ·exact h2
  ·exact q2q h2
 refine⟨⟨fun id ht ha o ho=>?_,fun id ht ha o ho hb=>?_,fun id ht ha hl=>p.st.own _ (hTr id ha.1 ht) ha.2 (hlive id ha.1 hl),fun i j a b c d e f h=>hinj i j c.1 d.1 (p.st.inj _ _ (hTr i c.1 a) (hTr j d.1 b) c.2 d.2 (hlive i c.1 e) (hlive j d.1 f) h),p.st.lo⟩,
  rfl,rfl,rfl,jap _,fun _ _ _=>rfl,hlowE.alw,fun id hb ha hl=>.inr ⟨ol B q id,hT _ (hol id hb ha.1),ha.2,hlive id ha.1 hl,rfl⟩,fun id hb ht ha hl=>?_,fun b h=>.inl h,fun b h _=>.inl h,fun id ha=>ha.1,jd0 _ _,fun id hb ha=>?_⟩
 ·obtain⟨o0,g1,g2⟩:=hobj ha.1 ho;have hor:=p.st.objs _ (hTr id ha.1 ht) ha.2 o0 g1;rcases g2 with ⟨hlt,rfl⟩|rfl
  ·unfold qfp;have e:ol B q id=id:=jam hlt;rw[e] at hor g1;cases hb:lowO B o0 with
   | true=>exact zl9 hlowE hlt (by have:=ha.2;rwa [e] at this) hb hor
   | false=>exact q2b hz e hor
  ·exact q2b hz rfl hor
 ·obtain⟨o0,g1,g2⟩:=hobj ha.1 ho;refine p.st.blk _ (hTr id ha.1 ht) ha.2 o0 g1 ?_;rcases g2 with ⟨hlt,rfl⟩|rfl
  ·unfold qfp at hb;cases hb':lowO B o0<;>rw[hb'] at hb
   ·exact q3x hb
   ·exact hb
  ·exact q3x hb
 ·have e:ol B q id=id:=jam hb;have:=hlive id (by omega) hl
  rwa [e] at this
 ·have e:ol B q id=id:=jam hb;have:=ha.2
  rwa [e] at this
end
end Go.Jx
end

section
namespace Go.Jx
open Go Go.Sx Go.RowKit
universe u

structure Nm where
 keep:List Nat
 crs:List (Nat × TC)
 crc:List (Nat × Nat × TC)
 crm:List (Nat × TC × TC)
 crd:List (Nat × Nat × TC × TC)
 lr:Nat
 lw:Nat
 /-- Forget slots only. -/
 fo:Bool:=false

def coeV(S:IS)(c:TC):IV->Option (IV × IS × Nat)
 | .nilsl=>some (.arr S.next,S.new (.arr c []),0)
 | .arr id=>match S.heap.get id with
  | some (.arr c' _)=>cond (TC.beq c' c) (some (.arr id,S,0)) none
  | _=>none
 | .sl id off len s _=>match S.heap.get id with
  | some (.row cs)=>cond (Nat.beq off 0&&Nat.beq s (csz c)&&Nat.ble (len*s) cs.length&&Nat.ble (len*bsz c) 140737488355328&&qne c) (match qcu (icl c) len S cs with
   | some (l,_,0)=>some (.arr S.next,(S.set id .dead).new (.arr c l),2 ^ id)
   | _=>none) none
  | _=>none
 | _=>none
section
variable {E : Env} {S : IS} {T : TW}
theorem q4c{c:TC}:∀(n:Nat) {S:IS} {cs:List IV} {l:List (El c)} {S':IS},qcu (icl c) n S cs=some (l,S',0)->S'=S/\l.length=n/\∀(E:Env) (us:List Value),VRs E cs us ->
  ∃vs:Nat->Nat->Value,(∀i,i<n->∀j,j<csz c->us[i*csz c+j]?=some (vs i j))/\∀i (h:i<l.length) j (h':j<(cel c l[i]).length),VR E (cel c l[i])[j] (vs i j)
 | 0,S,cs,l,S',h=>by
  simp only[qcu,ja7,jcj] at h;obtain⟨rfl,rfl,_⟩:=h;exact⟨rfl,rfl,fun E us hv=>⟨fun _ _=>.nilFunc,fun i hi=>absurd hi (by omega),fun i hi=>absurd hi (by simp)⟩⟩
 | n+1,S,cs,l,S',h=>by
  simp only[qcu] at h;split at h
  ·cases h
  rename_i x r S1 w1 h1;split at h
  ·cases h
  rename_i l2 S2 w2 h2;simp only[ja7,jcj] at h;obtain⟨rfl,rfl,hw⟩:=h;obtain⟨rfl,rfl⟩:=or_zero hw;obtain⟨rfl,k1⟩:=qjt c h1;obtain⟨rfl,hl,k2⟩:=q4c n h2;refine⟨rfl,by simp[hl],fun E us hv=>?_⟩;obtain⟨us1,us2,rfl,v1,v2⟩:=k1 E us hv;obtain⟨vs,k3,k4⟩:=k2 E us2 v2;have hlen:us1.length=csz c:=by rw[<- v1.1,qbn]
  refine⟨fun i j=>match i with|0=>us1.getD j .nilFunc|i+1=>vs i j,fun i hi j hj=>?_,fun i hi j hj=>?_⟩
  ·cases i with
   | zero=>simp only[jd7,ja9];rw[ja2 (by omega)];simp [jac (show j<us1.length by omega),jar]
   | succ i =>
    rw[jbf (by rw[hlen,jbb];omega),<- k3 i (by omega) j hj];congr 1;rw[hlen,jbb];omega
  ·cases i with
   | zero =>
    have hj':j<us1.length:=by rw[<- v1.1];exact hj
    have:=v1.2 j hj hj';simpa [jar,jac hj'] using this
   | succ i=>exact k4 i (by simpa using hi) j hj
theorem qty{c:TC}{v v':IV}{S':IS}{w:Nat}{u:Value}(p:Pre T E S)(h:coeV S c v=some (v',S',w))(hw:tin T.w w)(hv:VR E v u) :
  ∃E',E'.w=E.w/\Post T E S E' S'/\Fresh E S E'/\VR E' v' u:=by
 unfold coeV at h;split at h<;>try cases h
 ·cases hv;obtain⟨a1,a2⟩:=Post.ghost (hd:=.slice none 0 0) (o:=.arr c []) p rfl ⟨none,0,qah _ _ _,jap _,by omega,by simp,.inl ⟨qah _ _ _,rfl,fun _=>rfl⟩⟩;exact⟨E.gho S.next (.slice none 0 0),rfl,a1,a2,.arr (Or.inr rfl:E.A S.next\/S.next=S.next) (qah _ _ _)⟩
 ·split at h<;>try cases h
  rename_i c' l ho;cases hb:TC.beq c' c<;>rw[hb] at h<;>cases h;exact⟨E,rfl,Post.refl p,Fresh.refl E S,hv⟩
 ·rename_i id off len s cap0;split at h<;>try cases h
  rename_i cs ho;cases hb:(Nat.beq off 0&&Nat.beq s (csz c)&&Nat.ble (len*s) cs.length&&Nat.ble (len*bsz c) 140737488355328&&qne c) with
  | false=>rw[hb] at h;cases h
  | true =>
  rw[hb,jab] at h;simp only[jaf] at hb;obtain⟨⟨⟨⟨b1,b2⟩,b3⟩,b4⟩,b5⟩:=hb;have b1:=jah b1;have b2:=jah b2;have b3:=jao b3;have b4:=jao b4;subst b1;subst b2;split at h<;>cases h;rename_i l S1 hrow;obtain⟨rfl,hl,hcalm⟩:=q4c len hrow;cases hv with
  | sl cap hA h1 h2 h3 h4 h5 =>
  have hT:=qaf hw;obtain⟨cells,t,k1,k2,k3,k4⟩:=p.st.objs id (T.sub _ hT) hA _ ho;obtain⟨vs,v1,v2⟩:=hcalm E _ k4;have hb:=p.st.blk id (T.sub _ hT) hA _ ho rfl;have hA':¬E.A S1.next:=fun h=>jck _ (p.bnd _ h)
  have u0:Upd [E.ρ id] E.w E.w:=Upd.refl _ _;have hL:Live E S1.H id:=⟨hb,_,ho,rfl⟩;have hle:E.Le (E.moved id S1.next (.slice (some ⟨E.ρ id,0,none⟩) len cap) E.w):=⟨fun j h=>⟨.inl h,up_ne _ _ fun e=>hA' (e▸h),up_ne _ _ fun e=>hA' (e▸h),up_ne _ _ fun e=>hA' (e▸h),up_ne _ _ fun e=>hA' (e▸h)⟩,Tr.refl _ _⟩;subst hl;obtain⟨q1,q2⟩:=Post.move p (hd:=.slice (some ⟨E.ρ id,0,none⟩) l.length cap) (o:=.arr c l) hT hA hL u0
   ⟨some ⟨E.ρ id,0,none⟩,cap,qah _ _ _,h1,h2,b4,.inr ⟨qah _ _ _,by simp[Env.moved,qah],cells,t,by simp only[Env.moved,qah];exact k1,⟨by rw[k2];omega,fun e=>by subst e;cases b5⟩,
    vs,(fun i hi j hj=>by
     have:=v1 i hi j hj;rw[jas] at this;split at this
     ·simpa using this
     ·cases this),fun i hi j hj=>(v2 i hi j hj).mono hle⟩⟩
  exact⟨E.moved id S1.next (.slice (some ⟨E.ρ id,0,none⟩) l.length cap) E.w,rfl,q1,q2,.arr (Or.inr rfl:E.A S1.next\/S1.next=S1.next) (qah _ _ _)⟩
def coeS(nt:Nat):List (Nat × TC)->PT IV->IS->Option (PT IV × IS × Nat)
 | [],fr,S=>some (fr,S,0)
 | (t,c)::l,fr,S=>cond (Nat.blt t nt) (match coeV S c (slot fr t) with
  | none=>none
  | some (v,S1,w1)=>match coeS nt l (fr.set v t) S1 with
   | none=>none
   | some (fr2,S2,w2)=>some (fr2,S2,w1 ||| w2)) none
theorem qv0{nt:Nat}{tmps:Array Value}:∀(l:List (Nat × TC)) {E:Env} {S:IS} {fr fr':PT IV} {S':IS} {w:Nat},coeS nt l fr S=some (fr',S',w)->Pre T E S->tin T.w w->FR E nt fr tmps ->
  ∃E',E'.w=E.w/\Post T E S E' S'/\Fresh E S E'/\FR E' nt fr' tmps
 | [],E,S,fr,fr',S',w,h,p,hw,hf=>by cases h;exact⟨E,rfl,Post.refl p,Fresh.refl E S,hf⟩
 | (t,c)::l,E,S,fr,fr',S',w,h,p,hw,hf=>by
  simp only[coeS] at h;cases hb:Nat.blt t nt with
  | false=>rw[hb] at h;cases h
  | true =>
  rw[hb,jab] at h;have ht:t<nt:=by simpa using hb
  split at h
  ·cases h
  rename_i v S1 w1 h1;split at h<;>cases h;rename_i h2;obtain⟨g1,g2⟩:=qat hw;obtain⟨E1,e1,q1,f1,hv⟩:=qty p h1 g1 (hf.get t ht);have hf1:FR E1 nt (fr.set v t) tmps:=⟨hf.size,fun k hk=>by
   rw[qdh];by_cases e:k=t
   ·subst e;rw[jam rfl];exact hv
   ·rw[jak e];exact(hf.mono (q1.env p)).get k hk⟩
  obtain⟨E2,e2,q2,f2,k2⟩:=qv0 l h2 (q1.pre p) g2 hf1;exact⟨E2,e2.trans e1,Post.trans p q1 f1 q2,f1.trans f2 q1.le,k2⟩
def qj8(fr:PT IV)(S:IS)(t off:Nat)(c:TC):Option (IS × Nat) :=
 match slot fr t with
 | .ptr id o=>match S.heap.get id with
  | some (.row cs)=>match cs[o+off]? with
   | some v=>match coeV S c v with
    | none=>none
    | some (v',S1,w1)=>match S1.heap.get id with
     | some (.row cs1)=>cond (Nat.blt (o+off) cs1.length) (some (S1.set id (.row (cs1.set (o+off) v')),w1 ||| 2 ^ id)) none
     | _=>none
   | none=>none
  | _=>none
 | _=>none
theorem zpl{nt:Nat}{tmps:Array Value}{fr:PT IV}{t off:Nat}{c:TC}{S':IS}{w:Nat}(ht:t<nt)(h:qj8 fr S t off c=some (S',w))(p:Pre T E S)(hw:tin T.w w)(hf:FR E nt fr tmps) :
  ∃E',E'.w=E.w/\Post T E S E' S'/\Fresh E S E':=by
 unfold qj8 at h;split at h<;>try cases h
 rename_i id o hs;split at h<;>try cases h
 rename_i cs ho;split at h<;>try cases h
 rename_i v hv;split at h
 ·cases h
 rename_i v' S1 w1 h1;split at h<;>try cases h
 rename_i cs1 ho1;cases hb:Nat.blt (o+off) cs1.length with
 | false=>rw[hb] at h;cases h
 | true =>
 rw[hb,jab] at h;cases h;have hlt:o+off<cs1.length:=by simpa using hb
 obtain⟨g1,g2⟩:=qat hw;have hT:=qaf g2;have hsl:=hf.get t ht;rw[hs] at hsl;cases hsp:tmps.getD t undef<;>rw[hsp] at hsl<;>cases hsl;rename_i hA;obtain⟨cells,ty,k1,k2,k3,k4⟩:=p.st.objs id (T.sub _ hT) hA _ ho;obtain⟨u,hu,hvu⟩:=k4.get hv;obtain⟨E1,e1,q1,f1,hv'⟩:=qty p h1 g1 hvu;have p1:=q1.pre p;obtain⟨a1,a2,a3,a4,a5⟩:=(q1.env p).alw id hA;obtain⟨cells1,ty1,m1,m2,m3,m4⟩:=p1.st.objs id (T.sub _ hT) a1 _ ho1;rw[a2,e1,k1] at m1;cases m1;have hL:Live E1 S1.H id:=⟨p1.st.blk id (T.sub _ hT) a1 _ ho1 rfl,_,ho1,rfl⟩;obtain⟨z1,z2⟩:=Post.write p1 (o':=.row (cs1.set (o+off) v')) (w':=E1.w) hT a1 hL (Upd.refl _ _) ⟨cells,ty,by rw[show (E1.at_ E1.w).ρ id=E.ρ id from a2,show (E1.at_ E1.w).w=E.w from e1];exact k1,m2,by simpa using m3,by
  rw[jb9];refine⟨by rw[jb9];exact m4.1,fun i ha hb'=>?_⟩;rw[jdz];by_cases e:o+off=i
  ·rw[jam e];subst e;rw[jas] at hu;split at hu
   ·have hlt2:o+off<cells.toList.length:=by simp at hb';simp;omega
    rw[jac hlt2] at hu;cases hu;simp only[jca];exact hv'
   ·cases hu
  ·rw[jak e];exact m4.2 i (by simpa using ha) hb'⟩
 exact⟨E1,e1,Post.trans p q1 f1 z1,f1.trans z2 q1.le⟩
def coeC(nt:Nat)(fr:PT IV):List (Nat × Nat × TC)->IS->Option (IS × Nat)
 | [],S=>some (S,0)
 | (t,off,c)::l,S=>cond (Nat.blt t nt) (match qj8 fr S t off c with
  | none=>none
  | some (S1,w1)=>match coeC nt fr l S1 with
   | none=>none
   | some (S2,w2)=>some (S2,w1 ||| w2)) none
theorem qxz{nt:Nat}{tmps:Array Value}{fr:PT IV}:∀(l:List (Nat × Nat × TC)) {E:Env} {S S':IS} {w:Nat},coeC nt fr l S=some (S',w)->Pre T E S->tin T.w w->FR E nt fr tmps ->
  ∃E',E'.w=E.w/\Post T E S E' S'/\Fresh E S E'
 | [],E,S,S',w,h,p,hw,hf=>by cases h;exact⟨E,rfl,Post.refl p,Fresh.refl E S⟩
 | (t,off,c)::l,E,S,S',w,h,p,hw,hf=>by
  simp only[coeC] at h;cases hb:Nat.blt t nt with
  | false=>rw[hb] at h;cases h
  | true =>
  rw[hb,jab] at h;split at h
  ·cases h
  rename_i S1 w1 h1;split at h<;>cases h;rename_i h2;obtain⟨g1,g2⟩:=qat hw;obtain⟨E1,e1,q1,f1⟩:=zpl (by simpa using hb) h1 p g1 hf;obtain⟨E2,e2,q2,f2⟩:=qxz l h2 (q1.pre p) g2 (hf.mono (q1.env p));exact⟨E2,e2.trans e1,Post.trans p q1 f1 q2,f1.trans f2 q1.le⟩

def qmo(kc vc:TC)(S:IS):List (IV × IV)->Option (List (El kc × El vc))
 | []=>some []
 | (k,v)::es=>match icl kc S [k],icl vc S [v],qmo kc vc S es with
  | some (x,[],_,0),some (y,[],_,0),some r=>some ((x,y)::r)
  | _,_,_=>none
theorem qz9{kc vc:TC}(hk:qdf kc=true)(hv:qdf vc=true){S:IS}{E:Env}:∀{es:List (IV × IV)} {r:List (El kc × El vc)} {us vs:List Value},qmo kc vc S es=some r->VRs E (es.map (·.1)) us->VRs E (es.map (·.2)) vs ->
  VRs E ((tmEs kc vc r).map (·.1)) us/\VRs E ((tmEs kc vc r).map (·.2)) vs
 | [],r,us,vs,h,h1,h2=>by cases h;exact⟨h1,h2⟩
 | (k,v)::es,r,us,vs,h,h1,h2=>by
  unfold qmo at h;split at h<;>cases h;rename_i hx hy hr;obtain⟨u,us,rfl,a1,a2⟩:=h1.inv;obtain⟨w,vs,rfl,b1,b2⟩:=h2.inv;obtain⟨c1,c2⟩:=qz9 hk hv hr a2 b2;exact⟨VRs.cons (qg6 hx a1 (fun a b e=>by subst e;cases hk)) c1,VRs.cons (qg6 hy b1 (fun a b e=>by subst e;cases hv)) c2⟩
def qif(S:IS)(kc vc:TC):IV->Option (IS × Nat)
 | .map id=>match S.heap.get id with
  | some (.map es)=>cond (qdf kc&&qdf vc) (match qmo kc vc S es with
   | some r=>some (S.set id (.tmap kc vc r),2 ^ id)
   | none=>none) none
  | some (.tmap _ _ _)=>some (S,0)
  | _=>none
 | _=>none
theorem q1x{kc vc:TC}{v:IV}{u:Value}{S':IS}{w:Nat}(p:Pre T E S)(h:qif S kc vc v=some (S',w))(hw:tin T.w w)(hv:VR E v u):∃E',E'.w=E.w/\Post T E S E' S'/\Fresh E S E':=by
 unfold qif at h;split at h<;>try cases h
 rename_i id;split at h<;>try cases h
 ·rename_i es ho;cases hb:(qdf kc&&qdf vc) with
  | false=>rw[hb] at h;cases h
  | true =>
  rw[hb,jab] at h;simp only[jaf] at hb;split at h<;>cases h;rename_i r hr;have hT:=qaf hw;cases hv with
  | map hA =>
  obtain⟨ents,c,h1,h2,h3,hst⟩:=p.st.objs id (T.sub _ hT) hA _ ho;obtain⟨h4,h5⟩:=qz9 hb.1 hb.2 hr h2 h3;have hL:Live E S.H id:=⟨p.st.blk id (T.sub _ hT) hA _ ho rfl,_,ho,rfl⟩;obtain⟨z1,z2⟩:=Post.write p (o':=.tmap kc vc r) (w':=E.w) hT hA hL (Upd.refl _ _) ⟨ents,c,h1,h4,h5,hst⟩;exact⟨E,rfl,z1,z2⟩
 ·exact⟨E,rfl,Post.refl p,Fresh.refl E S⟩
def coeM(nt:Nat)(fr:PT IV):List (Nat × TC × TC)->IS->Option (IS × Nat)
 | [],S=>some (S,0)
 | (t,kc,vc)::l,S=>cond (Nat.blt t nt) (match qif S kc vc (slot fr t) with
  | none=>none
  | some (S1,w1)=>match coeM nt fr l S1 with
   | none=>none
   | some (S2,w2)=>some (S2,w1 ||| w2)) none
theorem qxk{nt:Nat}{tmps:Array Value}{fr:PT IV}:∀(l:List (Nat × TC × TC)) {E:Env} {S S':IS} {w:Nat},coeM nt fr l S=some (S',w)->Pre T E S->tin T.w w->FR E nt fr tmps ->
  ∃E',E'.w=E.w/\Post T E S E' S'/\Fresh E S E'
 | [],E,S,S',w,h,p,hw,hf=>by cases h;exact⟨E,rfl,Post.refl p,Fresh.refl E S⟩
 | (t,kc,vc)::l,E,S,S',w,h,p,hw,hf=>by
  simp only[coeM] at h;cases hb:Nat.blt t nt with
  | false=>rw[hb] at h;cases h
  | true =>
  rw[hb,jab] at h;split at h
  ·cases h
  rename_i S1 w1 h1;split at h<;>cases h;rename_i h2;obtain⟨g1,g2⟩:=qat hw;obtain⟨E1,e1,q1,f1⟩:=q1x p h1 g1 (hf.get t (by simpa using hb));obtain⟨E2,e2,q2,f2⟩:=qxk l h2 (q1.pre p) g2 (hf.mono (q1.env p));exact⟨E2,e2.trans e1,Post.trans p q1 f1 q2,f1.trans f2 q1.le⟩
def q2w(fr:PT IV)(S:IS)(t off:Nat):Option (IV × Nat) :=
 match slot fr t with
 | .ptr id o=>match S.heap.get id with
  | some (.row cs)=>match cs[o+off]? with
   | some v=>some (v,id)
   | none=>none
  | _=>none
 | _=>none
def coeD(nt:Nat)(fr:PT IV):List (Nat × Nat × TC × TC)->IS->Option (IS × Nat)
 | [],S=>some (S,0)
 | (t,off,kc,vc)::l,S=>cond (Nat.blt t nt) (match q2w fr S t off with
  | none=>none
  | some (v,id)=>match qif S kc vc v with
   | none=>none
   | some (S1,w1)=>match coeD nt fr l S1 with
    | none=>none
    | some (S2,w2)=>some (S2,2 ^ id ||| (w1 ||| w2))) none
theorem q63{nt:Nat}{tmps:Array Value}{fr:PT IV}:∀(l:List (Nat × Nat × TC × TC)) {E:Env} {S S':IS} {w:Nat},coeD nt fr l S=some (S',w)->Pre T E S->tin T.w w->FR E nt fr tmps ->
  ∃E',E'.w=E.w/\Post T E S E' S'/\Fresh E S E'
 | [],E,S,S',w,h,p,hw,hf=>by cases h;exact⟨E,rfl,Post.refl p,Fresh.refl E S⟩
 | (t,off,kc,vc)::l,E,S,S',w,h,p,hw,hf=>by
  simp only[coeD] at h;cases hb:Nat.blt t nt with
  | false=>rw[hb] at h;cases h
  | true =>
  rw[hb,jab] at h;split at h
  ·cases h
  rename_i v id hc;split at h
  ·cases h
  rename_i S1 w1 h1;split at h<;>cases h;rename_i h2;obtain⟨g0,g12⟩:=qat hw;obtain⟨g1,g2⟩:=qat g12;have hsl:=hf.get t (by simpa using hb);unfold q2w at hc;split at hc<;>try cases hc
  rename_i id' o hs;split at hc<;>try cases hc
  rename_i cs ho;split at hc<;>cases hc;rename_i hv;rw[hs] at hsl;cases hsp:tmps.getD t undef<;>rw[hsp] at hsl<;>cases hsl;rename_i hA;obtain⟨cells,ty,k1,k2,k3,k4⟩:=p.st.objs id (T.sub _ (qaf g0)) hA _ ho;obtain⟨u,hu,hvu⟩:=k4.get hv;obtain⟨E1,e1,q1,f1⟩:=q1x p h1 g1 hvu;obtain⟨E2,e2,q2,f2⟩:=q63 l h2 (q1.pre p) g2 (hf.mono (q1.env p));exact⟨E2,e2.trans e1,Post.trans p q1 f1 q2,f1.trans f2 q1.le⟩
end

def ids0:IV->List Nat
 | .arr id=>[id]
 | .aptr id _ _ _=>[id]
 | .sl id _ _ _ _=>[id]
 | .ptr id _=>[id]
 | .map id=>[id]
 | .yield id=>[id]
 | _=>[]
def ids1:IV->List Nat
 | .fn _ cs=>cs.flatMap ids0
 | .bfn _ cs=>cs.flatMap ids0
 | .agg cs=>cs.flatMap ids0
 | .tup cs=>cs.flatMap ids0
 | .iface _ v=>ids0 v
 | v=>ids0 v
def ids2:IV->List Nat
 | .fn _ cs=>cs.flatMap ids1
 | .bfn _ cs=>cs.flatMap ids1
 | .agg cs=>cs.flatMap ids1
 | .tup cs=>cs.flatMap ids1
 | .iface _ v=>ids1 v
 | v=>ids0 v
def idsO:IObj->List Nat
 | .row cs=>cs.flatMap ids2
 | .map es=>es.flatMap fun e=>ids2 e.1++ids2 e.2
 | .loop _ _ _ fr _ _ _ D=>D::fr.vals.flatMap ids2
 | .bld j=>[j]
 | _=>[]
def clos(S:IS)(B:Nat):Nat->List Nat->List Nat->List Nat
 | 0,_,acc=>acc
 | _+1,[],acc=>acc
 | n+1,id::w,acc=>cond (Nat.blt id B||(qdn acc id).isSome) (clos S B n w acc) (match S.heap.get id with
  | some .dead=>clos S B n w acc
  | some (.frz _ _)=>clos S B n w acc
  | some o=>clos S B n (w++idsO o) (acc++[id])
  | none=>clos S B n w acc)
def qno(S:IS):Nat->List Nat
 | 0=>[]
 | B+1=>qno S B++(match S.heap.get B with|some o=>idsO o|none=>[])
def qqj(S:IS)(B:Nat):Nat->Nat
 | 0=>0
 | k+1=>qqj S B k ||| (match S.heap.get k with|some o=>cond (lowO B o) 0 (2 ^ k)|none=>0)
def qt5(z:Fz)(B:Nat)(q:List Nat)(fr:PT IV):List Nat->PT IV->PT IV
 | [],r=>r
 | t::l,r=>qt5 z B q fr l (r.set (ren2 z B q (slot fr t)) t)
def qgz:List Nat->IS->Option (IS × Nat)
 | [],S=>some (S,0)
 | D::ds,S=>match S.heap.get D with
  | some (.defs true)=>match qgz ds (S.set D .dead) with
   | some (S',w)=>some (S',2 ^ D ||| w)
   | none=>none
  | _=>none
def qk5(S:IS)(B:Nat):Fz:=fun id=>cond (Nat.blt id B) none (match S.heap.get id with|some (.frz c l)=>some ⟨c,l⟩|_=>none)
structure NRes where
 fr:PT IV
 S:IS
 ds:List Nat
 wr:Nat
def qgu(fr:PT IV):List Nat->PT IV->PT IV
 | [],r=>r
 | t::l,r=>qgu fr l (r.set (slot fr t) t)
theorem q1z{E:Env}{nt:Nat}{fr:PT IV}{tmps:Array Value}(hf:FR E nt fr tmps):∀(l:List Nat) (r:PT IV),FR E nt r tmps->FR E nt (qgu fr l r) tmps
 | [],r,h=>h
 | t::l,r,h=>by
  refine q1z hf l _ ⟨h.size,fun k hk=>?_⟩;rw[qdh];by_cases e:k=t
  ·subst e;rw[jam rfl];exact hf.get k hk
  ·rw[jak e];exact h.get k hk
def qbz(nt:Nat)(m:Option Nm)(B:Nat)(fr:PT IV)(S:IS)(ds:List Nat):Option NRes :=
 match m with
 | none=>some ⟨fr,S,ds,0⟩
 | some m=>cond m.fo (some ⟨qgu fr m.keep .leaf,S,ds,0⟩) (match coeS nt m.crs fr S with
  | none=>none
  | some (fr1,S1,w1)=>match coeC nt fr1 m.crc S1 with
   | none=>none
   | some (S2,w2)=>match coeM nt fr1 m.crm S2 with
    | none=>none
    | some (S3,w3)=>match coeD nt fr1 m.crd S3 with
     | none=>none
     | some (S4,w4)=>match qgz ds S4 with
      | none=>none
      | some (S5,w5) =>
      let q:=clos S5 B 1000 (m.keep.flatMap (fun t=>ids2 (slot fr1 t))++qno S5 B) []
      cond (ndB q&&q.all (fun id=>Nat.ble B id)) (some ⟨qt5 (qk5 S5 B) B q fr1 m.keep .leaf,nrmS (qk5 S5 B) B q S5,[],(w1 ||| (w2 ||| (w3 ||| (w4 ||| w5)))) ||| qqj S5 B B⟩) none)
def hidL(hid:List Nat):List Deferred:=hid.map fun b=>({ target:=.collected b,args:=#[] }:Deferred)
structure DS (N:Nat) (E:Env) (ds:List Nat) (l:List Deferred):Prop where
 le:N<=E.w.heap.size
 da:∀D∈ds,E.A D/\N<=E.ρ D
 hi:∃hid,l=ds.map (fun D=>({ target:=.collected (E.ρ D),args:=#[] }:Deferred))++hidL hid/\hid.Nodup/\∀b∈hid,N<=b/\b ∉ E.m/\E.w.heap[b]?=some (.deferred (some []))
theorem DS.nil{N:Nat}{E:Env}(h:N<=E.w.heap.size):DS N E [] []:=⟨h,fun D hD=>(by cases hD),[],rfl,List.nodup_nil,fun b hb=>by cases hb⟩
theorem DS.mono{N:Nat}{E E':Env}(e:E.Le E')(hs:E.w.heap.size<=E'.w.heap.size){ds:List Nat}{l:List Deferred}(h:DS N E ds l):DS N E' ds l:=by
 obtain⟨h1,h2,hid,h3,h4,h5⟩:=h;refine⟨ja5 h1 hs,fun D hD=>?_,hid,?_,h4,fun b hb=>?_⟩
 ·obtain⟨a1,a2,_⟩:=e.alw D (h2 D hD).1;exact⟨a1,by rw[a2];exact(h2 D hD).2⟩
 ·rw[h3];congr 1;exact jd3 fun D hD=>by rw[(e.alw D (h2 D hD).1).2.1]
 ·obtain⟨b1,b2,b3⟩:=h5 b hb;obtain⟨c1,c2⟩:=e.tr.keep b (qbd b3) b2;exact⟨b1,c1,c2.trans b3⟩
theorem Post.aside{T:TW}{E:Env}{S:IS}{id:Nat}(p:Pre T E S)(hT:T.w id)(hA:E.A id)(ho:S.heap.get id=some (.defs true)) :
  Post T E S (E.less id) (S.set id .dead)/\Fresh E S (E.less id)/\E.ρ id∈E.m/\E.ρ id ∉ (E.less id).m/\E.w.heap[E.ρ id]?=some (.deferred (some [])):=by
 have st:=p.st;have hle:=E.less_le id;have hb:=st.blk id (T.sub _ hT) hA _ ho rfl;have hL:Live E S.H id:=⟨hb,_,ho,rfl⟩;have hor:E.w.heap[E.ρ id]?=some (.deferred (some [])):=st.objs id (T.sub _ hT) hA _ ho;have hl:∀j,Live (E.less id) (up S.H id (some .dead)) j->j≠id/\Live E S.H j:=fun j h=>by
  have hj:j≠id:=fun e=>by subst e;obtain⟨_,o,h1,h2⟩:=h;rw[qah] at h1;cases h1;cases h2
  exact⟨hj,(Live.up_ne (E:=E) hj).1 h⟩
 refine⟨⟨?_,?_,p.bnd,jap _⟩,⟨fun _ h k=>absurd h k⟩,st.own id (T.sub _ hT) hA hL,fun hm=>?_,hor⟩
 ·rw[IS.H_set];refine⟨fun j ht ha o hj=>?_,fun j ht ha o hj hbk=>?_,fun j ht ha h=>?_,fun i j a b c d e f h=>st.inj i j a b c d (hl i e).2 (hl j f).2 h,fun b hb=>st.lo b (Env.less_mem hb)⟩
  ·by_cases e:j=id
   ·subst e;rw[qah] at hj;cases hj;trivial
   ·rw[Jx.up_ne _ _ e] at hj;exact(st.objs j ht ha o hj).mono hle ha (st.blk j ht ha o hj) fun _ _=>rfl
  ·by_cases e:j=id
   ·subst e;rw[qah] at hj;cases hj;cases hbk
   ·rw[Jx.up_ne _ _ e] at hj;exact st.blk j ht ha o hj hbk
  ·obtain⟨h1,h2⟩:=hl j h;rcases Env.less_out (id:=id) (st.own j ht ha h2) with h3|⟨h3,h4⟩
   ·exact h3
   ·exact absurd (st.inj j id ht (T.sub _ hT) ha hA h2 hL h4) h1
 ·rw[IS.H_set];refine⟨rfl,rfl,rfl,jap _,fun _ _ _=>rfl,hle.alw,fun j h k=>absurd h k,fun j _ _ h=>(hl j h).2,fun b h=>.inl (Env.less_mem h),fun b h _=>?_⟩;rcases Env.less_out (id:=id) h with h3|⟨h3,h4⟩
  ·exact .inl h3
  ·exact .inr ⟨id,hT,hA,hL,h4.symm⟩
 ·unfold Env.less at hm;rw[hb] at hm;have:=(jde.1 hm).2;rw[jb6] at this;cases this
theorem q6z{T:TW}{N:Nat}:∀{ds:List Nat} {E:Env} {S S':IS} {w:Nat} {hid:List Nat},Pre T E S->(∀D∈ds,E.A D/\N<=E.ρ D)->hid.Nodup->(∀b∈hid,N<=b/\b ∉ E.m/\E.w.heap[b]?=some (.deferred (some [])))->qgz ds S=some (S',w)->tin T.w w ->
  ∃E',E'.w=E.w/\Post T E S E' S'/\Fresh E S E'/\∃hid',ds.map (fun D=>({ target:=.collected (E.ρ D),args:=#[] }:Deferred))++hidL hid=hidL hid'/\hid'.Nodup/\(∀b∈hid',N<=b/\b ∉ E'.m/\E'.w.heap[b]?=some (.deferred (some [])))/\∀b∈hid',b∈hid\/b∈E.m
 | [],E,S,S',w,hid,p,hd,hn,hh,h,hw=>by
  cases h;exact⟨E,rfl,Post.refl p,Fresh.refl E S,hid,rfl,hn,hh,fun b hb=>.inl hb⟩
 | D::ds,E,S,S',w,hid,p,hd,hn,hh,h,hw=>by
  unfold qgz at h;split at h<;>try cases h
  rename_i ho;split at h<;>cases h;rename_i S1 w1 h1;obtain⟨t1,t2⟩:=qat hw;obtain⟨hA,hN⟩:=hd D jbq;obtain⟨q1,q2,m1,m2,m3⟩:=Post.aside p (qaf t1) hA ho;have p1:=q1.pre p;obtain⟨E',e1,e2,e3,hid',g1,g2,g3,g4⟩:=q6z (ds:=ds) (hid:=hid) p1 (fun D' hD'=>hd D' (jbc _ hD')) hn (fun b hb=>⟨(hh b hb).1,fun hm=>(hh b hb).2.1 (Env.less_mem hm),(hh b hb).2.2⟩) h1 t2;have hle:=e2.env p1;refine⟨E',e1,Post.trans p q1 q2 e2,q2.trans e3 q1.le,E.ρ D::hid',?_,jdg.2 ⟨fun hm=>?_,g2⟩,fun b hb=>?_,fun b hb=>?_⟩
  ·show _::(ds.map _++hidL hid)=_::hidL hid';rw[<- g1];rfl
  ·rcases g4 _ hm with h|h
   ·exact(hh _ h).2.1 m1
   ·exact m2 h
  ·rcases ja1.1 hb with rfl|hb
   ·obtain⟨c1,c2⟩:=hle.tr.keep (E.ρ D) (qbd m3) m2;exact⟨hN,c1,c2.trans m3⟩
   ·exact g3 b hb
  ·rcases ja1.1 hb with rfl|hb
   ·exact .inr m1
   ·exact(g4 b hb).imp id Env.less_mem
theorem q09{E:Env}{B nt:Nat}{q:List Nat}{z:Fz}{fr:PT IV}{tmps:Array Value}(hz:FzOK E z)(hf:FR E nt fr tmps):∀(l:List Nat) (r:PT IV),FR (renE B q E) nt r tmps->FR (renE B q E) nt (qt5 z B q fr l r) tmps
 | [],r,h=>h
 | t::l,r,h=>by
  refine q09 hz hf l _ ⟨h.size,fun k hk=>?_⟩;rw[qdh];by_cases e:k=t
  ·subst e;rw[jam rfl];exact qkw hz (hf.get k hk)
  ·rw[jak e];exact h.get k hk
theorem zku{E:Env}{S:IS}{T:TW}{B nt:Nat}{m:Option Nm}{fr:PT IV}{ds:List Nat}{x:NRes}{a:Act}{N:Nat}(p:Pre T E S)(hB:B<=S.next)(hT:∀id,B<=id->T.w id)(hf:FR E nt fr a.tmps)(hd:DS N E ds a.defers)
  (h:qbz nt m B fr S ds=some x) (hw:tin T.w x.wr):∃E',E'.w=E.w/\PostB B T E S E' x.S/\FR E' nt x.fr a.tmps/\DS N E' x.ds a.defers:=by
 unfold qbz at h;split at h
 ·cases h;exact⟨E,rfl,PostB.refl hB hT p,hf,hd⟩
 rename_i m;cases hfo:m.fo with
 | true=>rw[hfo,jab] at h;cases h;exact⟨E,rfl,PostB.refl hB hT p,q1z hf _ _ ⟨hf.size,fun t ht=>.unk _⟩,hd⟩
 | false =>
 rw[hfo,jae] at h;split at h
 ·cases h
 rename_i fr1 S1 w1 h1;split at h
 ·cases h
 rename_i S2 w2 h2;split at h
 ·cases h
 rename_i S3 w3 h3;split at h
 ·cases h
 rename_i S4 w4 h4;split at h
 ·cases h
 rename_i S5 w5 h5;simp only at h;generalize clos S5 B 1000 (m.keep.flatMap (fun t=>ids2 (slot fr1 t))++qno S5 B) []=q at h;cases hb:(ndB q&&q.all (fun id=>Nat.ble B id)) with
 | false=>rw[hb] at h;cases h
 | true =>
 rw[hb,jab] at h;cases h;simp only[jaf] at hb;obtain⟨t1,_⟩:=qat hw;obtain⟨g1,t2⟩:=qat t1;obtain⟨g2,t3⟩:=qat t2;obtain⟨g3,t4⟩:=qat t3;obtain⟨g4,g5⟩:=qat t4;obtain⟨E1,e1,q1,f1,k1⟩:=qv0 m.crs h1 p g1 hf;have p1:=q1.pre p;obtain⟨E2,e2,q2,f2⟩:=qxz m.crc h2 p1 g2 k1;have p2:=q2.pre p1;have k2:=k1.mono (q2.env p1);obtain⟨E3,e3,q3,f3⟩:=qxk m.crm h3 p2 g3 k2;have p3:=q3.pre p2;have k3:=k2.mono (q3.env p2);obtain⟨E4,e4,q4,f4⟩:=q63 m.crd h4 p3 g4 k3;have p4:=q4.pre p3;have k4:=k3.mono (q4.env p3);obtain⟨hN,hd1,hid,hl,hn,hh⟩:=(((hd.mono (q1.env p) q1.stp.size).mono (q2.env p1) q2.stp.size).mono (q3.env p2) q3.stp.size).mono (q4.env p3) q4.stp.size;obtain⟨E5,e5,q5,f5,hid',l1,l2,l3,_⟩:=q6z (N:=N) p4 hd1 hn hh h5 g5;have p5:=q5.pre p4;have k5:=k4.mono (q5.env p4);have b1:=PostB.of hB hT q1 f1;have b2:=b1.trans (PostB.of b1.le hT q2 f2);have b3:=b2.trans (PostB.of b2.le hT q3 f3);have b4:=b3.trans (PostB.of b3.le hT q4 f4);have b5:=b4.trans (PostB.of b4.le hT q5 f5);have hz:FzOK E5 (qk5 S5 B):=fun id x hx hA=>by
  unfold qk5 at hx;cases hlt:Nat.blt id B with
  | true=>rw[hlt] at hx;cases hx
  | false =>
   rw[hlt,jae] at hx;split at hx<;>cases hx;rename_i c l ho;have hge:B<=id:=by
    refine jdj fun h=>?_;have h2:Nat.blt id B=true:=by simpa using h
    rw[h2] at hlt;cases hlt
   exact p5.st.objs id (T.sub _ (hT id hge)) hA _ ho
 have b6:=q73 (z:=qk5 S5 B) p5 b5.le hT hz hb.1 hb.2;refine⟨renE B q E5,e5.trans (e4.trans (e3.trans (e2.trans e1))),b5.trans b6,q09 hz k5 _ _ ⟨k5.size,fun t ht=>.unk _⟩,?_,fun D hD=>(by cases hD),hid',?_,l2,l3⟩
 ·show N<=E5.w.heap.size;rw[e5];exact hN
 ·rw[hl,l1];rfl
abbrev JT(R:Type):Type:=Nat->List Nat->NRes->Option R
end Go.Jx
end

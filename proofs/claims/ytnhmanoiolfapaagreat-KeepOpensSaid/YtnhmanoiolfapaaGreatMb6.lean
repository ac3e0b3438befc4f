/- Texts: Krq, Jcr, Jit, Ksx, Kso, Kca, Kcb, Kcc, Kcd, Kma, Jiu, Jcs, Kri, Kgb, Kga, Kpi, Kpk, Kl6. -/
import Derived.Test.YtnhmanoiolfapaaGreatMb5
import Derived.Test.YtnhmanoiolfapaaGreatMb4
import Derived.Shelf.SlSortCmp.WholeK
import Derived.Shelf.SlSortCmp.NoneTotal
import Derived.Test.YtnhmanoiolfapaaGreatProg
import Derived.Laws.IdiomRangeMap
import Derived.Test.YtnhmanoiolfapaaGreatMb3
set_option linter.unusedVariables false
section
set_option maxRecDepth 100000
namespace Go.Sx
open Go Go.RowKit
section
variable {P : Program} {n : Nat} {σ : Nat -> Value} {w : World} {ops : Array Oper} {rest : List Oper} {d : Nat} {ty : TypeId} {pos : String} {aft : Array Edge} {g : Option (Nat × Bool)}
theorem q69{T E:TypeId}{size bytes s2 b2:Nat}{zero z2:Value}{E':TypeDesc}{a:Addr}{len cap k:Nat}{kk:IntKind}(hT:Ty P T (.slice E) size bytes zero)(hE:Ty P E E' s2 b2 z2)(hk:k<cap)(hl:k<=len)(hc:len<=cap) :
  (Instr.sliceAt T (.slice (some a) len cap) (some (.int kk (k:Nat))) none none).run P w=.ok (.slice (some (a.add (k*s2))) (len-k) (cap-k)) w:=by
 have h1:(0:Int)<=(k:Nat)/\((k:Nat):Int)<=len:=⟨by omega,by omega⟩;have h2:¬cap-k=0:=by omega
 have h3:¬cap=k:=by omega
 simp only[Instr.sliceAt,Sem.run_bind,run_underlying hT.und,Result.andThen_ok,Instr.slice,Instr.sliceBounds,Instr.sliceBound,asIntOf,Sem.run_pure,h1,and_self,if_true,run_sizeOf hE];simp[h3]
theorem zo2{Q:Exit->Act->World->Prop}{T E:TypeId}{size bytes s2 b2:Nat}{zero z2:Value}{E':TypeDesc}{x y:Operand}{a:Addr}{len cap k:Nat}{kk:IntKind}(hT:Ty P T (.slice E) size bytes zero)(hE:Ty P E E' s2 b2 z2)
  (hg:qas ops σ n g=true) (hx:(okO n x&&okO n y)=true) (ex:ev σ x=.slice (some a) len cap) (ey:ev σ y=.int kk (k:Nat)) (hk:k<cap) (hl:k<=len) (hc:len<=cap)
  (kt:wpList P ops Q rest (Fr n (upd σ d (.slice (some (a.add (k*s2))) (len-k) (cap-k)))) w):wpList P ops Q (⟨some d,.slice T x (some y) none none,ty,pos,aft,g⟩::rest) (Fr n σ) w:=by
 simp only[Bool.and_eq_true] at hx;exact qbb hg (by simp only[execOp,qax hx.1,ex,Option.map_none,Option.map_some,qax hx.2,ey,q69 hT hE hk hl hc,Sem.run_bind,Sem.run_pure,Result.andThen_ok]) kt
theorem z0z{Q:Exit->Act->World->Prop}{T E:TypeId}{size bytes s2 b2:Nat}{zero z2:Value}{E':TypeDesc}{x y:Operand}{a:Option Addr}{len cap k:Nat}{kk:IntKind}(hT:Ty P T (.slice E) size bytes zero)(hE:Ty P E E' s2 b2 z2)
  (hg:qas ops σ n g=true) (hx:(okO n x&&okO n y)=true) (ex:ev σ x=.slice a len cap) (ey:ev σ y=.int kk (k:Nat)) (hk:k<=cap)
  (kt:wpList P ops Q rest (Fr n (upd σ d (.slice a k cap))) w):wpList P ops Q (⟨some d,.slice T x none (some y) none,ty,pos,aft,g⟩::rest) (Fr n σ) w:=by
 simp only[Bool.and_eq_true] at hx;exact qbb hg (by simp only[execOp,qax hx.1,ex,Option.map_none,Option.map_some,qax hx.2,ey,ziz hT hE hk,Sem.run_bind,Sem.run_pure,Result.andThen_ok]) kt
theorem qgu{md:Region.Mode}{Q:Exit->Act->World->Prop}{op:Op}{v:Value}{i fuel:Nat}{listed:Array Bool}(hi:ops[i]?=some ⟨some d,op,ty,pos,aft,g⟩)(hp:qio op=true)(hd:Nat.blt d n=true)(hg:qas ops σ n g=true)
  (hb:(Region.noSelect ops&&(Region.free md ops listed i&&(Region.ready md ops listed).contains i))=true) (hQ:∀c a w,¬Q (.panic c) a w)
  (h:∀w1,wpList P ops (QOne n σ d v w1) [⟨some d,op,ty,pos,aft,g⟩] (Fr n σ) w1)
  (k:wpAny P md ops Q fuel (listed.setIfInBounds i true) (Fr n (upd σ d v)) w):wpAny P md ops Q (fuel+1) listed (Fr n σ) w:=by
 simp only[Bool.and_eq_true] at hb;have hd':d<n:=by simpa using hd
 refine wpAny_take (v:=v) hi hb.1 hb.2.1 hb.2.2 (fun c a w h=>absurd h (hQ c _ w)) (.inl ⟨qfq hg,fun w1=>?_⟩) (by show wpAny P md ops Q fuel _ ((Fr n σ).put (some d) v) w;rw[qd7];exact k);have h1:=h w1;unfold wpList at h1;rw[qfq (o:=⟨some d,op,ty,pos,aft,g⟩) hg,if_pos rfl] at h1;rcases h1 with h1|⟨_,a,w',h1,_⟩
 ·unfold Oper.wp at h1;cases hr:(execOp (Fr n σ).eval ⟨some d,op,ty,pos,aft,g⟩).run P w1 with
  | ok x w' =>
   rw[hr] at h1;cases x with
   | value u =>
    rw[Oper.upon_value,qd7] at h1;obtain⟨_,h2,h3⟩:=h1;rw[h3,qyp hd' h2]
   | skip =>
    obtain⟨u,hu⟩:=quz hp hr;cases hu
   | _=>obtain⟨u,hu⟩:=quz hp hr;cases hu
  | halt x w'=>rw[hr] at h1;cases x<;>first|exact h1.elim|(obtain⟨h2,_⟩:=h1;cases h2)
 ·cases h1
theorem quy{md:Region.Mode}{Q:Exit->Act->World->Prop}{o:Oper}{i fuel:Nat}{listed:Array Bool}{a:Act}(hi:ops[i]?=some o)(hr:Region.ready md ops listed=[i])
  (h:wpList P ops (KOne fun a' w'=>wpAny P md ops Q fuel (listed.setIfInBounds i true) a' w') [o] a w):wpAny P md ops Q (fuel+1) listed a w :=
 wpAny_all hr (by simp) fun j hj=>by
  have:j=i:=by simpa using hj
  subst this;exact zzc hi h
theorem qzz{V Z:Value}:∀(k n m:Nat),k<=m->putL (List.replicate n V++List.replicate m Z) n (List.replicate k V)=List.replicate (n+k) V++List.replicate (m-k) Z
 | 0,n,m,h=>by simp[putL]
 | k+1,n,m,h=>by
  obtain⟨m',rfl⟩:∃m',m=m'+1:=⟨m-1,by omega⟩;have e:(List.replicate n V++List.replicate (m'+1) Z).set n V=List.replicate (n+1) V++List.replicate m' Z:=by
   rw[List.set_append_right (h:=by simp)];rw[List.replicate_succ' (n:=n),List.append_assoc];simp only[List.length_replicate,Nat.sub_self,List.replicate_succ (n:=m'),List.set_cons_zero];rfl
  show putL ((List.replicate n V++List.replicate (m'+1) Z).set n V) (n+1) (List.replicate k V)=_;rw[e,qzz k (n+1) m' (by omega)];rw[show n+1+k=n+(k+1) by omega,show m'+1-(k+1)=m'-k by omega]
theorem q8j{dT sT ty elem:TypeId}{β o dLen dCap sLen sCap:Nat}{a:Addr}{cs xs:List Value}(hu:P.underlying dT=some (.slice elem))(hs:(P.info? elem).map (·.size)=some 1)(hb:Box w β cs)(hn:xs.length=Nat.min sLen dLen)
  (hsrc:∀j v,xs[j]?=some v->w.cell? (a.add j)=some v) (hl:o+xs.length<=cs.length) (h1:xs.all one=true) :
  ∃w',(Builtin.copy_ #[dT,sT] ty #[.slice (some ⟨β,o,none⟩) dLen dCap,.slice (some a) sLen sCap]).run P w=.ok (goInt xs.length) w'/\Box w' β (putL cs o xs)/\Upd [β] w w'/\w'.heap.size=w.heap.size:=by
 have hld:=run_loadCells_list (P:=P) w a xs hsrc;obtain⟨w',q1,q2,q3,q4⟩:=run_store (P:=P) xs o 0 hb (by simpa using hl) h1;refine⟨w',?_,by simpa using q2,q3,q4⟩;cases hq:P.info? elem with
 | none=>simp [hq] at hs
 | some i =>
  have hi:i.size=1:=by simpa [hq] using hs
  simp[Builtin.copy_,run_underlying hu,Builtin.lenOf,Builtin.firstCells,sizeOf,typeInfo,hq,hi,<- hn,hld,q1]
end
end Go.Sx
namespace Go.Proofs.YtnhmanoiolfapaaGreat
open Go Go.Sx Go.RowKit Go.Jx
theorem zrd:qah Tryz.prog 102:=⟨_,Tryz.func102,by kernel_rfl,by kernel_rfl⟩
theorem zvb(x y:Nat)(hx:x<18446744073709551616)(hy:y<18446744073709551616)(w:World) :
  Calls Tryz.prog 102 #[.int .u64 x,.int .u64 y] w (Ret fun v w'=>v=.tuple #[.int .u64 ((x*y / 18446744073709551616:Nat):Int),.int .u64 ((x*y % 18446744073709551616:Nat):Int)]/\w'=w) :=
 (Any.bits_Mul (P:=Tryz.prog) (ρ:=qv5) { q8a with } x y hx hy w).mono fun e w' h=>by
  obtain⟨rfl,rfl⟩:=h;exact⟨rfl,rfl⟩
theorem zf3(c:Nat)(hc:c<=1000)(w:World):(Instr.makeSlice 22 (.int .i64 (c:Int)) (.int .i64 (c:Int))).run Tryz.prog w=.ok (.slice (some ⟨w.heap.size,0,none⟩) c c) (w.alloc (.cells (madeCells #[.string ⟨#[]⟩] (c*1)) 9)):=by
 obtain⟨i,h1,h2,h3,h4⟩:=ty9.inf;have h2:i.size=1:=h2;have h3:i.bytes=16:=h3;have:=run_makeSlice (P:=Tryz.prog) w 22 9 i (.string ⟨#[]⟩) ty22.und h1 h4 .i64 .i64 c c (by omega) (Int.le_refl _) (by rw[h2];omega) (by rw[h3];omega) (by omega);rw[h2] at this;exact this
theorem zzy(c:Nat)(w:World):Box (w.alloc (.cells (madeCells #[.string ⟨#[]⟩] (c*1)) 9)) w.heap.size (List.replicate c (.string ⟨#[]⟩)):=by
 refine⟨9,?_⟩;rw[World.alloc_heap_new];have:madeCells #[.string ⟨#[]⟩] (c*1)=(List.replicate c (Value.string ⟨#[]⟩)).toArray:=by
  unfold madeCells;apply Array.ext
  ·simp
  ·intro i h1 h2;simp[Nat.mod_one]
 rw[this]
theorem zyy(c:Nat)(w:World):Upd [] w (w.alloc (.cells (madeCells #[.string ⟨#[]⟩] (c*1)) 9)):=Upd.alloc _ _
theorem nmin(a b:Nat):Nat.min a b<=a/\Nat.min a b<=b/\(Nat.min a b=a\/Nat.min a b=b):=by
 have e:Nat.min a b=min a b:=rfl;rw[e];omega
theorem si9:(Tryz.prog.info? 9).map (·.size)=some 1:=by
 obtain⟨i,h1,h2,_⟩:=ty9.inf;have h2:i.size=1:=h2;rw[h1,Option.map_some,h2]
theorem zff(s:ByteArray)(k:Nat):(List.replicate k (Value.string s)).all Go.Sx.one=true:=by
 rw[List.all_eq_true];intro x hx;rw[List.eq_of_mem_replicate hx];rfl
theorem zue{c cap ty:Nat}{w:World}{a:Addr}{s:ByteArray}{β:Nat}(hs:w.cell? a=some (.string s))(hb:Box w β (List.replicate c (.string ⟨#[]⟩))) :
  ∃w',(Builtin.copy_ #[22,22] ty #[.slice (some ⟨β,0,none⟩) c c,.slice (some a) 1 cap]).run Tryz.prog w=.ok (goInt (Nat.min 1 c)) w'/\Box w' β (List.replicate (Nat.min 1 c) (.string s)++List.replicate (c-Nat.min 1 c) (.string ⟨#[]⟩))/\Upd [β] w w'/\w'.heap.size=w.heap.size:=by
 have hnm:=nmin 1 c;have ha:a.spot=none:=by
  unfold World.cell? at hs;split at hs
  ·cases h:a.spot with
   | none=>rfl
   | some x=>rw[h] at hs;cases hs
  ·cases hs
 obtain⟨w',q1,q2,q3,q4⟩:=q8j (P:=Tryz.prog) (dT:=22) (sT:=22) (ty:=ty) (elem:=9) (β:=β) (o:=0) (dLen:=c) (dCap:=c) (sLen:=1) (sCap:=cap) (a:=a) (xs:=List.replicate (Nat.min 1 c) (.string s)) ty22.und si9 hb (by rw[List.length_replicate]) (fun j v hj=>by
  have hj1:j<Nat.min 1 c:=by
   have:=(List.getElem?_eq_some_iff.1 hj).1;simpa using this
  have:j=0:=by omega
  subst this;rw[List.getElem?_eq_getElem (by simpa using hj1)] at hj;simp at hj;rw[qbj _ ha,<- hj];show w.cell? ⟨a.block,a.off+0,none⟩=_;rw[Nat.add_zero,<- ha];exact hs) (by rw[List.length_replicate,List.length_replicate];omega) (zff _ _)
 rw[List.length_replicate] at q1;refine⟨w',q1,?_,q3,q4⟩;have:=qzz (V:=.string s) (Z:=.string ⟨#[]⟩) (Nat.min 1 c) 0 c (Nat.min_le_right _ _);rw[Nat.zero_add] at this;rw[<- this];exact q2
theorem zpm{dT sT ty c n:Nat}{w:World}{s:ByteArray}{β:Nat}(hlt:n<c)(hn:1<=n)(hb:Box w β (List.replicate n (.string s)++List.replicate (c-n) (.string ⟨#[]⟩)))(hd:dT=22:=by rfl) :
  ∃w',(Builtin.copy_ #[dT,sT] ty #[.slice (some ((⟨β,0,none⟩:Addr).add (n*1))) (c-n) (c-n),.slice (some ⟨β,0,none⟩) n c]).run Tryz.prog w=.ok (goInt (Nat.min n (c-n))) w'/\Box w' β (List.replicate (n+Nat.min n (c-n)) (.string s)++List.replicate (c-n-Nat.min n (c-n)) (.string ⟨#[]⟩))/\Upd [β] w w'/\w'.heap.size=w.heap.size:=by
 subst hd;have hnm:=nmin n (c-n);have e:(⟨β,0,none⟩:Addr).add (n*1)=⟨β,n,none⟩:=by rw[qbj _ rfl];simp
 rw[e];obtain⟨w',q1,q2,q3,q4⟩:=q8j (P:=Tryz.prog) (dT:=22) (sT:=sT) (ty:=ty) (elem:=9) (β:=β) (o:=n) (dLen:=c-n) (dCap:=c-n) (sLen:=n) (sCap:=c) (a:=⟨β,0,none⟩) (xs:=List.replicate (Nat.min n (c-n)) (.string s)) ty22.und si9 hb (by rw[List.length_replicate]) (fun j v hj=>by
  have hj1:j<Nat.min n (c-n):=by
   have:=(List.getElem?_eq_some_iff.1 hj).1;simpa using this
  rw[List.getElem?_eq_getElem (by simpa using hj1)] at hj;simp at hj;rw[qbj _ rfl,hb.cell,<- hj,List.getElem?_append_left (by rw[List.length_replicate];show 0+j<n;omega)];rw[List.getElem?_replicate,if_pos (show 0+j<n by omega)]) (by rw[List.length_append,List.length_replicate,List.length_replicate,List.length_replicate];omega) (zff _ _)
 rw[List.length_replicate] at q1;exact⟨w',q1,by rw[<- qzz _ _ _ (Nat.min_le_right n (c-n))];exact q2,q3,q4⟩
section
attribute [local irreducible] Go.wpList Go.wpQuiet Go.Code.wp
theorem z2d(s:ByteArray)(c:Nat)(hc:c<=1000){a:Addr}{cap:Nat}{w:World}(hcell:w.cell? a=some (.string s)) :
  Calls Tryz.prog 76 #[.slice (some a) 1 cap,.int .i64 c] w (Ret fun v w'=>∃β,w.heap.size<=β/\v=.slice (some ⟨β,0,none⟩) c c/\Box w' β (List.replicate c (.string s))/\Upd [] w w'):=by
 refine(enter (l:=[.slice (some a) 1 cap,.int .i64 c]) Tryz.func76 rfl Tryz.ntmps76 rfl ?_);refine qao fun K1 hK1=>?_;refine qay ?_;refine qa4 (v:=.slice none 0 0) rfl rfl rfl ?_;refine wpList_nil ?_;refine hK1 _ _ ?_;refine qao fun K2 hK2=>?_;refine qao fun K3 hK3=>?_;refine qay ?_;refine qaz (v:=.int .i64 (c:Int)) rfl rfl rfl ?_;refine qxv rfl rfl rfl rfl ?_;refine wpList_nil ?_;refine hK3 _ _ ?_;refine c_if rfl rfl (fun hb=>absurd hb (by omega)) (fun _=>?_);refine wp_skip ?_;refine hK2 _ _ ?_;refine qao fun K4 hK4=>?_;refine qay ?_;refine qaz (v:=.slice (some a) 1 cap) rfl rfl rfl ?_;refine qyj ty22 rfl rfl rfl ?_;refine zch ty3.und qsi.und rfl rfl rfl (by decide) (by decide) ?_;refine qaz (v:=.int .i64 (c:Int)) rfl rfl rfl ?_;refine zch ty3.und qsi.und rfl rfl rfl (by omega) (by omega) ?_;refine qhn (l:=[.tmp 15,.tmp 17]) (args:=[.int .u64 ((1:Nat):Int),.int .u64 (c:Int)]) zrd rfl rfl rfl (zvb 1 c (by omega) (by omega) w) ?_;rintro _ w2 ⟨rfl,hw2⟩;subst w2;have e1:1*c / 18446744073709551616=0:=by omega
 have e2:1*c % 18446744073709551616=c:=by omega
 rw[e1,e2];refine qaz (v:=.tuple #[.int .u64 ((0:Nat):Int),.int .u64 (c:Int)]) rfl rfl rfl ?_;refine qkb (v:=.int .u64 ((0:Nat):Int)) rfl rfl rfl rfl ?_;refine qkb (v:=.int .u64 (c:Int)) rfl rfl rfl rfl ?_;refine qa4 (v:=.int .u64 ((0:Nat):Int)) rfl rfl rfl ?_;refine qa4 (v:=.int .u64 (c:Int)) rfl rfl rfl ?_;refine wpList_nil ?_;refine hK4 _ _ ?_;refine qao fun K5 hK5=>?_;refine qao fun K6 hK6=>?_;refine qay ?_;refine qaz (v:=.int .u64 ((0:Nat):Int)) rfl rfl rfl ?_;refine qqf rfl rfl rfl rfl ?_;refine qaz (v:=.bool false) rfl rfl rfl ?_;refine qaz (v:=.int .u64 (c:Int)) rfl rfl rfl ?_;refine qqf rfl rfl rfl rfl ?_;refine q1a (v:=.bool false) rfl rfl rfl (congrArg Value.bool (decide_eq_false (by omega))) ?_;refine wpList_nil ?_;refine hK6 _ _ ?_;refine qoo rfl rfl ?_;refine wp_skip ?_;refine hK5 _ _ ?_;refine qao fun K7 hK7=>?_;refine qay ?_;refine qaz (v:=.int .u64 (c:Int)) rfl rfl rfl ?_;refine zy7 qsi.und ty3.und rfl rfl rfl (by omega) ?_;refine zsv (u:=.int .i64 (c:Int)) (v:=.int .i64 (c:Int)) rfl rfl rfl rfl rfl (zf3 c hc w) ?_;have hw1:=zzy c w;have hu1:=zyy c w;generalize w.alloc (.cells (madeCells #[.string ⟨#[]⟩] (c*1)) 9)=w1 at hw1 hu1;generalize hβ:w.heap.size=β at hw1;refine qa4 (v:=.slice (some ⟨β,0,none⟩) c c) rfl rfl (by rw[<- hβ];rfl) ?_;refine wpList_nil ?_;refine hK7 _ _ ?_;refine qao fun K8 hK8=>?_;refine qay ?_;refine qaz (v:=.slice (some ⟨β,0,none⟩) c c) rfl rfl rfl ?_;refine qaz (v:=.slice (some a) 1 cap) rfl rfl rfl ?_;have hsrc1:w1.cell? a=some (.string s):=by
  have:a.block<w.heap.size:=by
   unfold World.cell? at hcell;split at hcell
   ·rename_i h;exact qaw h
   ·cases hcell
  unfold World.cell? at hcell ⊢;rw[hu1.same _ this (by simp)];exact hcell
 obtain⟨w3,g1,g2,g3,g4⟩:=zue (cap:=cap) hsrc1 hw1;refine q7j rfl rfl rfl rfl rfl g1 ?_;refine qa4 (v:=.int .i64 ((Nat.min 1 c:Nat):Int)) rfl rfl rfl ?_;refine wpList_nil ?_;refine hK8 _ _ ?_;have hext:∀{w4:World},Upd [β] w1 w4->Upd [] w w4:=fun u4=>⟨u4.os.trans hu1.os,u4.tape.trans hu1.tape,u4.output.trans hu1.output,Nat.le_trans hu1.size u4.size,fun x hx hn=>(u4.same x (Nat.lt_of_lt_of_le hx hu1.size) (by simp;omega)).trans (hu1.same x hx (by simp))⟩;have hnm:=nmin 1 c;refine qao fun K9 hK9=>?_;refine wp_block ?_;refine qzp (X:=Nat) (8::(List.range 47).drop 34) (fun n=>[(8,.int .i64 (n:Int))]) (fun n w4=>(n<=c/\(c=0\/1<=n))/\Box w4 β (List.replicate n (.string s)++List.replicate (c-n) (.string ⟨#[]⟩))/\Upd [β] w1 w4) (fun n=>c-n) (Nat.min 1 c) ⟨rfl,trivial⟩ ⟨⟨Nat.min_le_right _ _,by omega⟩,g2,g3⟩ ?_;rintro n τ w4 ⟨⟨hn1,hn2⟩,hx4,hu4⟩;refine qao fun K10 hK10=>?_;refine qao fun K11 hK11=>?_;refine qay ?_;refine qaz (v:=.int .i64 (n:Int)) rfl rfl rfl ?_;refine qaz (v:=.slice (some ⟨β,0,none⟩) c c) rfl rfl rfl ?_;refine qyj ty22 rfl rfl rfl ?_;refine qxv rfl rfl rfl rfl ?_;refine wpList_nil ?_;refine hK11 _ _ ?_;refine c_if rfl rfl (fun hb=>?_) (fun hb=>?_)
 ·refine wp_skip ?_;refine hK10 _ _ ?_;have hlt:n<c:=by omega
  have hn:1<=n:=by omega
  have hnn:=nmin n (c-n);refine wp_block ?_;refine wp_region_any mixed ?_;refine qgu (i:=0) (v:=.int .i64 (n:Int)) rfl rfl rfl rfl (by kernel_rfl) (fun c a w h=>(show _/\False from h).2) (fun w1=>qaz (v:=.int .i64 (n:Int)) rfl rfl rfl q1) ?_;refine qgu (i:=1) (v:=.slice (some ⟨β,0,none⟩) c c) rfl rfl rfl rfl (by kernel_rfl) (fun c a w h=>(show _/\False from h).2) (fun w1=>qaz (v:=.slice (some ⟨β,0,none⟩) c c) rfl rfl rfl q1) ?_;refine qgu (i:=2) (v:=.int .i64 (n:Int)) rfl rfl rfl rfl (by kernel_rfl) (fun c a w h=>(show _/\False from h).2) (fun w1=>qaz (v:=.int .i64 (n:Int)) rfl rfl rfl q1) ?_;refine qgu (i:=3) (v:=.slice (some ((⟨β,0,none⟩:Addr).add (n*1))) (c-n) (c-n)) rfl rfl rfl rfl (by kernel_rfl) (fun c a w h=>(show _/\False from h).2) (fun w1=>zo2 ty22 ty9 rfl rfl rfl rfl hlt hn1 (Nat.le_refl _) q1) ?_;refine qgu (i:=4) (v:=.slice (some ⟨β,0,none⟩) c c) rfl rfl rfl rfl (by kernel_rfl) (fun c a w h=>(show _/\False from h).2) (fun w1=>qaz (v:=.slice (some ⟨β,0,none⟩) c c) rfl rfl rfl q1) ?_;refine qgu (i:=5) (v:=.int .i64 (n:Int)) rfl rfl rfl rfl (by kernel_rfl) (fun c a w h=>(show _/\False from h).2) (fun w1=>qaz (v:=.int .i64 (n:Int)) rfl rfl rfl q1) ?_;refine qgu (i:=6) (v:=.slice (some ⟨β,0,none⟩) n c) rfl rfl rfl rfl (by kernel_rfl) (fun c a w h=>(show _/\False from h).2) (fun w1=>z0z ty22 ty9 rfl rfl rfl rfl hn1 q1) ?_;have hx5:=hx4.mono0 (Upd.drew [] w4);have u5:=Upd.drew [] w4;generalize ({ w4 with drawn:=w4.drawn+1 }:World)=w5 at hx5 u5;obtain⟨w6,r1,r2,r3,r4⟩:=zpm (dT:=22) (sT:=22) (c:=c) hlt hn hx5;refine quy (i:=7) rfl (by kernel_rfl) ?_;refine q7j rfl rfl rfl rfl rfl r1 ?_;refine wpList_nil ⟨rfl,?_⟩;refine quy (i:=8) rfl (by kernel_rfl) ?_;refine z0u rfl rfl rfl rfl (by omega) ?_;refine wpList_nil ⟨rfl,?_⟩;refine quy (i:=9) rfl (by kernel_rfl) ?_;refine qa4 (v:=.int .i64 ((n+Nat.min n (c-n):Nat):Int)) rfl rfl (congrArg (Value.int .i64) (by omega)) ?_;refine wpList_nil ⟨rfl,?_⟩;refine wpAny_done (by kernel_rfl) ?_ _;refine⟨n+Nat.min n (c-n),by show c-(n+Nat.min n (c-n))<c-n;omega,⟨⟨by omega,by omega⟩,by rw[show c-(n+Nat.min n (c-n))=c-n-Nat.min n (c-n) by omega];exact r2,(hu4.trans (u5.mono (by simp))).trans r3⟩,_,rfl,(by repeat first|exact qbd.refl _ _|refine qbd.upd rfl ?_|refine qbd.upds rfl ?_|refine qbd.mix rfl ?_),rfl,trivial⟩
 ·refine wp_exit ?_;have hnc:n=c:=by omega
  subst hnc;refine hK9 _ _ ?_;refine qao fun K12 hK12=>?_;refine qay ?_;refine qaz (v:=.slice (some ⟨β,0,none⟩) n n) rfl rfl rfl ?_;refine qa4 (v:=.slice (some ⟨β,0,none⟩) n n) rfl rfl rfl ?_;refine wpList_nil ?_;refine hK12 _ _ ?_;refine wp_ret ?_;refine ret1 Tryz.results76 rfl ⟨β,by omega,rfl,?_,hext hu4⟩;rw[Nat.sub_self,List.replicate_zero,List.append_nil] at hx4;exact hx4
end
theorem z2n:Con Tryz.prog 76 qi5 :=
 ⟨zro,fun M w x us y hy hM hg hv=>by
  obtain⟨l,n,_⟩:=x;obtain⟨hk,rfl⟩:=qa8 (show cond (decide (l.length=1)&&S.inI n 0 1000) (some (List.replicate n.toNat (l.getD 0 S.none_),())) none=some y from hy);simp only[Bool.and_eq_true,decide_eq_true_eq,S.inI] at hk;obtain⟨h1,h2,h3⟩:=hk;obtain⟨s,rfl⟩:∃s,l=[s]:=by
   cases l with
   | nil=>cases h1
   | cons s r=>cases r with
    | nil=>exact⟨s,rfl⟩
    | cons _ _=>simp at h1
  have hni:∃c:Nat,(show Int from n)=(c:Int):=⟨Int.toNat n,(Int.toNat_of_nonneg h2).symm⟩;obtain⟨c,hc0⟩:=hni;have hc0:n=Int.ofNat c:=hc0;subst hc0;have h3:(c:Int)<=1000:=h3;obtain⟨u1,us1,rfl,a1,a2⟩:=hv.inv;obtain⟨u2,us2,rfl,a3,a4⟩:=a2.inv;obtain rfl:us2=[]:=List.length_eq_zero_iff.1 a4.1.symm;cases a3;cases a1 with
  | lst us q1 q2 q3 hb hh hc hu =>
  have hcell:=hc 0 (by simp) 0 (by decide);have hus:=hu 0 (by simp) 0 Nat.zero_lt_one;rename_i b off cap cells t fz;have hsz:s.size<9223372036854775808/\us 0 0=.string s:=by
   have hus:VR (EM M w) (.str s) (us 0 0):=hus;generalize us 0 0=u at hus;cases hus with
   | str _ h=>exact⟨h,rfl⟩
  rw[hsz.2] at hcell;have hcw:w.cell? ⟨b,off,none⟩=some (.string s):=by
   have hh:w.heap[b]?=some (.cells cells t fz):=hh;unfold World.cell?;rw[hh];simpa using hcell
  refine(callsIn_wide.2 (z2d s c (by omega) (cap:=cap) hcw)).mono fun e w' hR=>?_;cases e with
  | returned v =>
   obtain⟨β,hβ,rfl,hx,hu'⟩:=hR;obtain⟨p1,p2⟩:=Post.idle (preM hM hg) hu';refine⟨_,(EM M w).at_ w',rfl,rfl,?_,p1,p2⟩;show VR _ (.lst .str (List.replicate c s)) _;obtain⟨t',ht'⟩:=hx;cases c with
   | zero=>exact .lst0 (by omega)
   | succ c =>
    have hl:(List.replicate (c+1) s).length=c+1:=List.length_replicate;have:=VR.lst (E:=(EM M w).at_ w') (c:=.str) (l:=List.replicate (c+1) s) (cap:=c+1) (off:=0) (fun _ _=>.string s) (by rw[hl];exact Nat.le_refl _) (by omega) (by rw[hl];show (c+1)*16<=_;omega)
     (fun h=>by have:=hM _ h;omega) ht' (fun i hi j hj=>by
      have hj:j<1:=hj;have:j=0:=by omega
      subst this;rw[hl] at hi;show (List.replicate (c+1) (Value.string s)).toArray[0+i*1+0]?=_;simp only[List.getElem?_toArray,List.getElem?_replicate];rw[if_pos (by omega)]) (fun i hi j hj=>by
      have hj:j<1:=hj;have:j=0:=by omega
      subst this;show VR _ (.str (List.replicate (c+1) s)[i]) _;rw[List.getElem_replicate];exact .str _ hsz.1)
    rw[hl] at this;exact this
  | _=>exact hR.elim⟩
end Go.Proofs.YtnhmanoiolfapaaGreat
end

section
namespace Go.Jx
open Go Go.Sx Go.RowKit
universe u

def qdf{D α:Type}(g:D->α->Option (D × Bool)):List α->D->Option (D × Bool)
 | [],d=>some (d,false)
 | x::xs,d=>match g d x with
  | none=>none
  | some (d',b)=>cond b (some (d',true)) (qdf g xs d')
section
variable (P : Program) (tt : Nat -> Option TI)
end
section
variable {P : Program} {tt : Nat -> Option TI}
end
end Go.Jx
end

section
namespace Go.Jx
open Go Go.Sx Go.RowKit
universe u

theorem zpt{b:Nat}{A B:World}{o:Obj}(u:Upd [b] A B)(hA:A.heap[b]?=some o):∃B',Upd [] A B'/\Beside b B' B:=by
 have hlt:b<A.heap.size:=qaw hA;refine⟨B.putObj b o,⟨u.os,u.tape,u.output,by rw[(Beside.put B b o).size];exact u.size,fun x hx _=>?_⟩,(Beside.put B b o).symm⟩;by_cases e:x=b
 ·subst e;rw[World.putObj_heap_same (Nat.lt_of_lt_of_le hx u.size),hA]
 ·rw[World.putObj_heap_other e];exact u.same x hx (by simpa using e)
def q8p(P:Program)(gf:Nat)(us:List Value)(bx:Nat)(m0:List Nat)(W0:World)(Rd:World->Prop){α:Type}(V:α->Value->Env->Prop)(xs:List α):Prop :=
 ∀(l:Nat) (J:List α->World->Prop) (K:World->Prop),(∀s A B,J s A->Upd [bx] A B->J s B)->(∀A B,K A->Upd [bx] A B->K B)->(∀s A,J s A->Rd A) ->
  (∀pre x post A0 A u,xs=pre++x::post->J pre A0->Upd [bx] A0 A->(∀E:Env,E.w=A->(∀b∈E.m,b<A0.heap.size/\(b<W0.heap.size->b∈m0))->V x u E) ->
   YieldAt Fence.wide 0 P l #[u] A fun e B=>(∀b,(b=bx\/A0.heap.size<=b)->b<A.heap.size->B.heap[b]?=A.heap[b]?)/\((e=.returned (.bool true)/\J (pre++[x]) B)\/(e=.returned (.bool false)/\K B))) ->
  J [] W0->CallsIn Fence.wide 0 P gf (#[.func (.yield l) #[] #[]]++us.toArray) W0 fun e B=>e=.returned (.tuple #[])/\(J xs B\/K B)
structure ConW (P:Program) (f:Nat) (s:SmI):Prop where
 callable:qah P f
 ns:nP s.ips=0
 it:∀(E:Env) (x:ElP s.ips) (us:List Value) (i:Nat) (l:List (El s.c)),s.xs x=some l->Gl E.m E.w->q2y E s x us [i]->E.ρ i∈E.m->(∀b∈E.m,b<E.w.heap.size) ->
  q8p P f us (E.ρ i) E.m E.w (fun W=>E.Le (E.at_ W)) (fun x u E=>VR E (asIV s.c x) u) l
def endX(k:Nat):IEx->Option Bool
 | .normal=>some false
 | .exit i=>cond (Nat.beq i k) (some true) none
 | _=>none
def retX{D:Type}(k:Nat):Option (D × Option Code)->Option (D × Bool)
 | some (d,none)=>some (d,false)
 | some (d,some (.exit i))=>cond (Nat.beq i k) (some (d,true)) none
 | _=>none
def qu6(k:Nat)(b:Bool):Option Code:=cond b (some (.exit k)) none
theorem zqd{D:Type}{k:Nat}{o:Option (D × Option Code)}{d:D}{b:Bool}(h:retX k o=some (d,b)):o=some (d,qu6 k b):=by
 unfold retX at h;split at h
 ·cases h;rfl
 ·rename_i i;cases hb:Nat.beq i k with
  | false=>rw[hb] at h;cases h
  | true =>
   rw[hb] at h;have:=Nat.eq_of_beq_eq_true hb;subst this;cases h;rfl
 ·cases h
theorem q60{D α:Type}{k:Nat}(g:D->α->Option (D × Option Code)):∀(xs:List α) (d d':D) (b:Bool),qdf (fun d x=>retX k (g d x)) xs d=some (d',b)->foldB g xs d=some (d',qu6 k b)
 | [],d,d',b,h=>by cases h;rfl
 | x::xs,d,d',b,h=>by
  simp only[qdf,foldB] at h ⊢;cases hg:retX k (g d x) with
  | none=>rw[hg] at h;cases h
  | some q =>
   obtain⟨z,e⟩:=q;rw[hg] at h;rw[zqd hg];cases e with
   | false=>exact q60 g xs z d' b h
   | true=>cases h;rfl
section
variable (P : Program) (tt : Nat -> Option TI)
def qov(k:Nat)(cfg:LpC)(c:TC)(nt lf:Nat)(clP:ClP)(pr:Nat)(assign body:Code)(d:ElP cfg.lp)(z:ElP (refs cfg.lp))(x:El c):Option (ElP (refs cfg.lp) × Bool) :=
 qa0 P tt cfg.nm (mP cfg.lp) nt (clP (ElP (refs cfg.lp) × Bool)) lf none assign (qds [pr] [asIV c x] (putL cfg.ls (qau cfg.lp idN 0 d) .leaf)) (Sc cfg.lp (updP cfg.lp d z)) [] fun r1=>match r1.e with
  | .normal=>match r1.ds with
   | []=>qa0 P tt cfg.nm (mP cfg.lp) nt (clP (ElP (refs cfg.lp) × Bool)) lf none body r1.fr r1.S [] fun r2=>match r2.ds with
     | []=>match endX k r2.e with
      | none=>none
      | some b=>match runQ (sQ cfg.lp) ⟨.tup [],r2.S,0,0⟩ with
       | none=>none
       | some y=>some (y.2,b)
     | _=>none
   | _=>none
  | _=>none
theorem zlw{k:Nat}{cfg:LpC}{c:TC}{nt lf:Nat}{cl:Cl}{clP:ClP}(hcl:∀R,ClEq cl (clP R))(pr:Nat)(assign body:Code)(d:ElP cfg.lp)(z:ElP (refs cfg.lp))(x:El c) :
  qov P tt k cfg c nt lf clP pr assign body d z x=retX k (qeq P tt cfg c nt lf cl pr assign body d z x):=by
 unfold qov qeq;rw[qe3 (hcl _)];cases qam P tt cfg.nm (mP cfg.lp) nt cl lf none assign (qds [pr] [asIV c x] (putL cfg.ls (qau cfg.lp idN 0 d) .leaf)) (Sc cfg.lp (updP cfg.lp d z)) [] with
 | none=>rfl
 | some r1 =>
  simp only[bd];cases r1.e<;>try rfl
  simp only;cases r1.ds with
  | cons _ _=>rfl
  | nil =>
   simp only;rw[qe3 (hcl _)];cases qam P tt cfg.nm (mP cfg.lp) nt cl lf none body r1.fr r1.S [] with
   | none=>rfl
   | some r2 =>
    simp only[bd];cases r2.ds with
    | cons _ _=>rfl
    | nil =>
     simp only;cases r2.e with
     | exit i =>
      simp only[endX,qdt];cases hk:Nat.beq i k<;>cases runQ (sQ cfg.lp) ⟨.tup [],r2.S,0,0⟩<;>simp [retX,hk]
     | _=>cases runQ (sQ cfg.lp) ⟨.tup [],r2.S,0,0⟩<;>rfl
def qoj(S2:IS)(cfg:LpC)(id nt:Nat)(fr:PT IV)(pr D:Nat)(assign body:Code)(i:Nat)(rows subs:List Nat)(w:Nat)(q:ElP (refs cfg.lp) × Option Code):Res :=
 ⟨.tup [],(qby (sQ cfg.lp) S2.next rows subs () q.1 (S2.set i .dead)).set id (.loop (cond q.2.isNone .ready .done) q.2 nt fr [pr] assign body D),2 ^ id,2 ^ id ||| (w ||| qb0 ([i]++(rows++subs)))⟩
def itW(k:Nat)(s:SmI)(cfg:LpC)(lf:Nat)(cl:Cl)(vs:List IV)(S:IS):Option Res:=match vs with
 | .yield id::caps=>match rdP s.ips S caps with
  | some (xi,[i],_,S1,w1)=>match S1.heap.get id with
   | some (.loop .ready none nt fr [pr] assign body D)=>match rdP cfg.lp S1 (cfg.ls.map (slot fr)) with
    | none=>none
    | some (d0,rows,subs,S2,w2)=>cond (itB S2 cfg id nt [i] rows subs w2 assign body) (match fiP cfg.lp rows subs S2 d0 with
     | none=>none
     | some d=>match s.xs xi with
      | none=>none
      | some l=>match qdf (fun z x=>retX k (qeq P tt cfg s.c nt lf cl pr assign body d z x)) l (qc7 cfg.lp d) with
       | none=>none
       | some z=>some (qoj S2 cfg id nt fr pr D assign body i rows subs (w1 ||| w2) (z.1,qu6 k z.2))) none
   | _=>none
  | _=>none
 | _=>none
def itWK(k:Nat)(s:SmI)(cfg:LpC)(lf:Nat)(clP:ClP)(R:Type)(vs:List IV)(S:IS)(kk:Res->Option R):Option R:=match vs with
 | .yield id::caps=>match rdP s.ips S caps with
  | some (xi,[i],_,S1,w1)=>match S1.heap.get id with
   | some (.loop .ready none nt fr [pr] assign body D)=>match rdP cfg.lp S1 (cfg.ls.map (slot fr)) with
    | none=>none
    | some (d0,rows,subs,S2,w2)=>cond (itB S2 cfg id nt [i] rows subs w2 assign body) (match fiP cfg.lp rows subs S2 d0 with
     | none=>none
     | some d=>match s.xs xi with
      | none=>none
      | some l=>match qdf (qov P tt k cfg s.c nt lf clP pr assign body d) l (qc7 cfg.lp d) with
       | none=>none
       | some z=>cond z.2 (kk (qoj S2 cfg id nt fr pr D assign body i rows subs (w1 ||| w2) (z.1,some (.exit k)))) (kk (qoj S2 cfg id nt fr pr D assign body i rows subs (w1 ||| w2) (z.1,none)))) none
   | _=>none
  | _=>none
 | _=>none
end
section
variable {P : Program} {tt : Nat -> Option TI}
theorem zwq(k:Nat)(s:SmI)(cfg:LpC)(lf:Nat)(cl:Cl)(clP:ClP)(hcl:∀R,ClEq cl (clP R))(R:Type)(vs:List IV)(S:IS)(kk:Res->Option R):itWK P tt k s cfg lf clP R vs S kk=ob (itW P tt k s cfg lf cl vs S) kk:=by
 unfold itWK itW;cases vs with
 | nil=>rfl
 | cons v caps =>
 cases v<;>try rfl
 rename_i id;simp only;cases rdP s.ips S caps with
 | none=>rfl
 | some a =>
 obtain⟨xi,irows,_,S1,w1⟩:=a;cases irows with
 | nil=>rfl
 | cons i irows =>
 cases irows with
 | cons _ _=>rfl
 | nil =>
 simp only;cases S1.heap.get id with
 | none=>rfl
 | some o =>
 cases o<;>try rfl
 rename_i st pe nt fr ps assign body D;cases st<;>try rfl
 cases pe<;>try rfl
 cases ps with
 | nil=>rfl
 | cons pr ps =>
 cases ps with
 | cons _ _=>rfl
 | nil =>
 simp only;cases rdP cfg.lp S1 (cfg.ls.map (slot fr)) with
 | none=>rfl
 | some b =>
 obtain⟨d0,rows,subs,S2,w2⟩:=b;simp only[qbh];cases fiP cfg.lp rows subs S2 d0 with
 | none=>rfl
 | some d =>
 simp only;cases s.xs xi with
 | none=>rfl
 | some l =>
 have e:qov P tt k cfg s.c nt lf clP pr assign body d=fun z x=>retX k (qeq P tt cfg s.c nt lf cl pr assign body d z x):=by
  funext z x;exact zlw P tt hcl pr assign body d z x
 simp only[e];cases qdf (fun z x=>retX k (qeq P tt cfg s.c nt lf cl pr assign body d z x)) l (qc7 cfg.lp d) with
 | none=>rfl
 | some q=>obtain⟨z,b⟩:=q;cases b<;>rfl
theorem qw1{k:Nat}{s:SmI}{cfg:LpC}{lf:Nat}{cl:Cl}{vs:List IV}{S:IS}{r:Res}(h:itW P tt k s cfg lf cl vs S=some r) :
  ∃id caps xi i isubs S1 w1 nt fr pr assign body D d0 rows subs S2 w2 d l q,vs=.yield id::caps/\rdP s.ips S caps=some (xi,[i],isubs,S1,w1)/\S1.heap.get id=some (.loop .ready none nt fr [pr] assign body D) /\
   rdP cfg.lp S1 (cfg.ls.map (slot fr))=some (d0,rows,subs,S2,w2)/\itB S2 cfg id nt [i] rows subs w2 assign body=true/\fiP cfg.lp rows subs S2 d0=some d/\s.xs xi=some l /\
   foldB (qeq P tt cfg s.c nt lf cl pr assign body d) l (qc7 cfg.lp d)=some q/\r=qoj S2 cfg id nt fr pr D assign body i rows subs (w1 ||| w2) q:=by
 unfold itW at h;split at h<;>try cases h
 rename_i id caps;split at h<;>try cases h
 rename_i xi i isubs S1 w1 h1;split at h<;>try cases h
 rename_i nt fr pr assign body D ho;split at h
 ·cases h
 rename_i d0 rows subs S2 w2 h2;cases hb:itB S2 cfg id nt [i] rows subs w2 assign body with
 | false=>rw[hb] at h;cases h
 | true =>
 rw[hb,cond_true] at h;split at h
 ·cases h
 rename_i d h3;split at h
 ·cases h
 rename_i l h4;split at h<;>cases h;rename_i q h5;exact⟨id,caps,xi,i,isubs,S1,w1,nt,fr,pr,assign,body,D,d0,rows,subs,S2,w2,d,l,_,rfl,h1,ho,h2,hb,h3,h4,q60 _ _ _ _ _ h5,rfl⟩
theorem z3c{k:Nat}{s:SmI}{cfg:LpC}{lf:Nat}{cl:Cl}{vs:List IV}{S:IS}:FrO S (itW P tt k s cfg lf cl vs S):=fun r h=>by
 obtain⟨id,caps,xi,i,isubs,S1,w1,nt,fr,pr,assign,body,D,d0,rows,subs,S2,w2,d,l,q,rfl,h1,ho,h2,hb,h3,h4,h5,rfl⟩:=qw1 h;have k1:=qe0 _ h1;have k2:=qe0 _ h2;have k0:=FrX.set S2 i .dead;have k3:=k0.trans ((qw6 subs (S2.set i .dead)).trans ((qvt rows (qav (refs cfg.lp) (fun k=>S2.next+(k-mP cfg.lp)) (mP cfg.lp) q.1) _).trans (qs6 (newO (sQ cfg.lp) () q.1) _ 0)));have k4:=(k1.trans k2).trans (k3.trans (FrX.set _ id (.loop (cond q.2.isNone .ready .done) q.2 nt fr [pr] assign body D)));refine⟨k4.1,fun j hj hbit=>k4.2 j hj ?_⟩;have hbit:(2 ^ id ||| ((w1 ||| w2) ||| qb0 ([i]++(rows++subs)))).testBit j=false:=hbit;have e0:qb0 [i]=2 ^ i:=by simp[qb0]
 simp only[qzc,e0,Nat.testBit_or,Bool.or_eq_false_iff,Nat.zero_testBit] at hbit ⊢;obtain⟨a,⟨b,c⟩,g,e,f⟩:=hbit;exact⟨⟨b,c⟩,⟨g,f,e,trivial⟩,a⟩
theorem zse{k:Nat}{s:SmI}{cfg:LpC}{lf:Nat}{cl:Cl}{vs:List IV}{S:IS}{r:Res}(h:itW P tt k s cfg lf cl vs S=some r)(hw:r.wr=0):False:=by
 obtain⟨id,caps,xi,i,isubs,S1,w1,nt,fr,pr,assign,body,D,d0,rows,subs,S2,w2,d,l,q,rfl,h1,ho,h2,hb,h3,h4,h5,rfl⟩:=qw1 h;have:2 ^ id=0:=(or_zero hw).1;have:=Nat.one_le_two_pow (n:=id);omega
def itWx(P:Program)(tt:Nat->Option TI)(k:Nat)(s:SmI)(cfg:LpC)(lf:Nat):Hx:=⟨itW P tt k s cfg lf,fun clP R vs S kk=>itWK P tt k s cfg lf clP R vs S kk,fun cl clP hcl R vs S kk=>zwq k s cfg lf cl clP hcl R vs S kk⟩
theorem Held.dead{T:TW}{E:Env}{S:IS}{l:List PK}{x:ElP l}{rows subs:List Nat}(h:Held T E S l x rows subs)(p:Pre T E S){i:Nat}{w:World}(hT:T.w i)(hA:E.A i)(hL:Live E S.H i)(hi:i ∉ rows++subs)(hb:Beside (E.ρ i) E.w w) :
  Held T (E.at_ w) (S.set i .dead) l x rows subs:=by
 have hle:=Env.at_le p.st hT hA hL hb.upd;refine⟨h.l1,h.l2,h.nd,h.w,h.A,fun ι hι j o hj=>?_,fun id hid=>?_,fun j=>?_⟩
 ·obtain⟨id,g1,g2,g3,g4⟩:=h.at_ ι hι j o hj;have hm:id∈rows:=List.mem_of_getElem? g1;refine⟨id,g1,g2,g3,g4.mono hle g2 g3 fun hl hh=>hb.same _ fun e=>?_⟩;obtain⟨cs,hcs⟩:=h.row id hm;have:=p.st.inj _ _ (T.sub _ (h.w id (List.mem_append_left _ hm))) (T.sub _ hT) g2 hA ⟨hh,_,hcs,rfl⟩ hL e;exact hi (this▸List.mem_append_left _ hm)
 ·obtain⟨cs,hcs⟩:=h.row id hid;exact⟨cs,by rw[IS.H_set,up_ne _ _ (fun e:id=i=>hi (e▸List.mem_append_left _ hid))];exact hcs⟩
 ·rw[h.sub];cases hs:subs[j]? with
  | none=>rfl
  | some id =>
   have hm:id∈subs:=List.mem_of_getElem? hs;show S.H id=(S.set i .dead).H id;rw[IS.H_set,up_ne _ _ (fun e:id=i=>hi (e▸List.mem_append_right _ hm))]
end
end Go.Jx
end

noncomputable section
set_option maxRecDepth 100000
namespace Go.Proofs.YtnhmanoiolfapaaGreat
open Go Go.Sx Go.RowKit Go.Jx
def S.listed(m:List (Int × ByteArray)):List qaa:=m.foldl (fun c p=>S.ins1 (p.1,p.2,false) c) []
def S.mapG(m:List (Int × ByteArray)):Bool:=decide (m.map (·.1)).Nodup&&m.all fun p=>S.inI p.1 0 199&&Nat.ble p.2.size 4000
def qc1:SmR:=⟨[.ref (.mp (.int .i64) .str)],[(false,.list qad)],fun x=>match x.1 with
 | some m=>cond (S.mapG m) (some ((S.listed m,()),(some m,()))) none
 | none=>none⟩
def S.recsGo:Nat->List ByteArray->List qff
 | 0,_=>[]
 | f+1,l=>match l with
  | []=>[]
  | s::r=>if (qac s).getD 0 0=0 then [] else S.readK (s::r)::cond (S.readK (s::r)).2.2 [] (S.recsGo f ((s::r).drop (S.readK (s::r)).2.1.toNat))
def S.recsK(l:List ByteArray):List qff:=S.recsGo (l.length+1) l
def q6s:SmI:=⟨[.ref (.box [.dat (.list .str)])],cKeepRecord,fun x=>cond (S.secs x.1.1) (some (S.recsK x.1.1)) none⟩
end Go.Proofs.YtnhmanoiolfapaaGreat
end

section
set_option maxRecDepth 100000
namespace Go.Proofs.YtnhmanoiolfapaaGreat
open Go Go.RowKit Go.Shelf Go.Sort Go.Lib
def z4b:Go.Shelf.Ren:=⟨fun|6=>123|15=>129|14=>128|28=>139|29=>140|20=>131|21=>132|22=>133|23=>134|24=>135|25=>136|26=>137|27=>138|46=>141|47=>142|48=>143|49=>144|50=>145|57=>146|n=>n,fun|22=>35|24=>92|25=>190|3=>3|39=>141|0=>0|53=>178|55=>181|4=>4|46=>198|45=>197|50=>202|5=>5|9=>9|66=>206|70=>210|76=>212|77=>107|n=>n,fun|n=>n⟩
theorem q4n:Go.Proofs.SlLaysF0.n6 Tryz.prog z4b:={
 mixed:=by kernel_rfl
 f6:=⟨Tryz.f123.name,by decide,Tryz.func123.trans (congrArg some (by kernel_rfl))⟩
 f14:=⟨Tryz.f128.name,by decide,Tryz.func128.trans (congrArg some (by kernel_rfl))⟩
 f15:=Tryz.func129.trans (congrArg some (by kernel_rfl))
 f20:=⟨Tryz.f131.name,by decide,Tryz.func131.trans (congrArg some (by kernel_rfl))⟩
 f21:=⟨Tryz.f132.name,by decide,Tryz.func132.trans (congrArg some (by kernel_rfl))⟩
 f22:=⟨Tryz.f133.name,by decide,Tryz.func133.trans (congrArg some (by kernel_rfl))⟩
 f23:=⟨Tryz.f134.name,by decide,Tryz.func134.trans (congrArg some (by kernel_rfl))⟩
 f24:=⟨Tryz.f135.name,by decide,Tryz.func135.trans (congrArg some (by kernel_rfl))⟩
 f25:=⟨Tryz.f136.name,by decide,Tryz.func136.trans (congrArg some (by kernel_rfl))⟩
 f26:=⟨Tryz.f137.name,by decide,Tryz.func137.trans (congrArg some (by kernel_rfl))⟩
 f27:=⟨Tryz.f138.name,by decide,Tryz.func138.trans (congrArg some (by kernel_rfl))⟩
 f28:=Tryz.func139.trans (congrArg some (by kernel_rfl))
 f29:=Tryz.func140.trans (congrArg some (by kernel_rfl))
 f46:=⟨Tryz.f141.name,by decide,Tryz.func141.trans (congrArg some (by kernel_rfl))⟩
 f47:=Tryz.func142.trans (congrArg some (by kernel_rfl))
 f48:=Tryz.func143.trans (congrArg some (by kernel_rfl))
 f49:=⟨Tryz.f144.name,by decide,Tryz.func144.trans (congrArg some (by kernel_rfl))⟩
 f50:=⟨Tryz.f145.name,by decide,Tryz.func145.trans (congrArg some (by kernel_rfl))⟩
 f57:=⟨Tryz.f146.name,by decide,Tryz.func146.trans (congrArg some (by kernel_rfl))⟩
 t0:=Tryz.underlying0
 a0:=Tryz.isAgg0
 z0:=Tryz.sizeOf0
 v0:=Tryz.zeroValue0
 t3:=Tryz.underlying3
 a3:=Tryz.isAgg3
 z3:=Tryz.sizeOf3
 v3:=Tryz.zeroValue3
 t4:=Tryz.underlying4
 a4:=Tryz.isAgg4
 z4:=Tryz.sizeOf4
 v4:=Tryz.zeroValue4
 t5:=Tryz.underlying5
 a5:=Tryz.isAgg5
 z5:=Tryz.sizeOf5
 v5:=Tryz.zeroValue5
 t9:=Tryz.underlying9
 a9:=Tryz.isAgg9
 z9:=Tryz.sizeOf9
 v9:=Tryz.zeroValue9
 t22:=Tryz.underlying35
 a22:=Tryz.isAgg35
 z22:=Tryz.sizeOf35
 v22:=Tryz.zeroValue35
 t25:=Tryz.underlying190
 a25:=Tryz.isAgg190
 z25:=Tryz.sizeOf190
 v25:=Tryz.zeroValue190
 t39:=Tryz.underlying141
 a39:=Tryz.isAgg141
 z39:=Tryz.sizeOf141
 v39:=Tryz.zeroValue141
 t45:=Tryz.underlying197
 a45:=Tryz.isAgg197
 z45:=Tryz.sizeOf197
 v45:=Tryz.zeroValue197
 t46:=Tryz.underlying198
 a46:=Tryz.isAgg198
 z46:=Tryz.sizeOf198
 v46:=Tryz.zeroValue198
 t50:=Tryz.underlying202
 a50:=Tryz.isAgg202
 z50:=Tryz.sizeOf202
 v50:=Tryz.zeroValue202
 t53:=Tryz.underlying178
 a53:=Tryz.isAgg178
 z53:=Tryz.sizeOf178
 v53:=Tryz.zeroValue178
 t55:=Tryz.underlying181
 a55:=Tryz.isAgg181
 z55:=Tryz.sizeOf181
 v55:=Tryz.zeroValue181
 t66:=Tryz.underlying206
 a66:=Tryz.isAgg206
 z66:=Tryz.sizeOf206
 v66:=Tryz.zeroValue206
 t70:=Tryz.underlying210
 a70:=Tryz.isAgg210
 z70:=Tryz.sizeOf210
 v70:=Tryz.zeroValue210
 t76:=Tryz.underlying212
 a76:=Tryz.isAgg212
 z76:=Tryz.sizeOf212
 v76:=Tryz.zeroValue212
 t77:=Tryz.underlying107
 a77:=Tryz.isAgg107
 z77:=Tryz.sizeOf107
 v77:=Tryz.zeroValue107 }
def encC(x:Int × ByteArray × Bool):List Value:=[.int .i64 x.1,.string x.2.1,.bool x.2.2]
theorem z1p(cf:(Int × ByteArray × Bool)->(Int × ByteArray × Bool)->Int)(hO:SWO (ltOf cf))(g:Nat)(cb:Array Value)(blk off cap:Nat)(d:Array (Int × ByteArray × Bool))(w:World)
  (eg:∀args w,(callFunc g args).run Tryz.prog w=.ok (.enter g args) w) (hcmp:CmpLays Tryz.prog g cb encC 3 cf blk off d.size w) (hH:HoldsK encC 3 w blk off d) (hblk:blk<w.heap.size) (hsz:d.size<4611686018427387904) :
  Calls Tryz.prog 123 #[.slice (some ⟨blk,off,none⟩) d.size cap,.func (.func g) #[] cb] w fun e w' =>
   e=.returned (.tuple #[])/\∃d' n os,PermIn 0 d.size d d'/\SortedIn (ltOf cf) 0 d.size d'/\w'=sortWorldK encC 3 w blk off n d' os :=
 AnyQ.slices_SortFunc q4n 3 Tryz.isAgg92 Tryz.sizeOf92 encC (fun _=>rfl) (fun x v hv=>by simp[encC] at hv;rcases hv with rfl|rfl|rfl<;>rfl) cf hO g cb blk off cap d w eg hcmp hH hblk hsz
theorem zqj(p:Option Addr)(cap:Nat)(fv:Value)(w:World):Calls Tryz.prog 123 #[.slice p 0 cap,fv] w fun e w'=>e=.returned (.tuple #[])/\w'=w :=
 AnyF.slices_SortFunc_none (P:=Tryz.prog) q4n p cap fv w
end Go.Proofs.YtnhmanoiolfapaaGreat
end

section
set_option maxRecDepth 100000
namespace Go.Sx
open Go Go.RowKit
def Gr(w w':World):Prop:=∃q os',w'=Sort.grow (w.drewN q) os'
theorem Gr.refl(w:World):Gr w w:=⟨0,#[],by simp[World.drewN]⟩
theorem Gr.trans{a b c:World}(h:Gr a b)(k:Gr b c):Gr a c:=by
 obtain⟨q,os,rfl⟩:=h;obtain⟨q',os',rfl⟩:=k;exact⟨q+q',os++os',by simp[Sort.grow,World.drewN,Array.append_assoc,Nat.add_assoc]⟩
theorem Gr.push(w:World)(o:Obj):Gr w { w with heap:=w.heap.push o }:=⟨0,#[o],by simp[Sort.grow,World.drewN]⟩
theorem Gr.drew(w:World):Gr w { w with drawn:=w.drawn+1 }:=⟨1,#[],by
 unfold Sort.grow World.drewN;simp only[Array.append_empty]⟩
theorem Gr.upd{w w':World}(h:Gr w w'):Upd [] w w':=by
 obtain⟨q,os,rfl⟩:=h;refine⟨rfl,rfl,rfl,by simp[Sort.grow,World.drewN],fun b hb _=>?_⟩;show (w.heap++os)[b]?=_;rw[Array.getElem?_append_left hb]
theorem Upd.old_upd{w w2 w3:World}{g:Nat}(h:Upd [] w w2)(k:Upd [g] w2 w3)(hg:w.heap.size<=g):Upd [] w w3 :=
 ⟨k.os.trans h.os,k.tape.trans h.tape,k.output.trans h.output,Nat.le_trans h.size k.size,fun x hx hn=>(k.same x (Nat.lt_of_lt_of_le hx h.size) (by simp;omega)).trans (h.same x hx hn)⟩
theorem Upd.tr0{w w':World}(h:Upd [] w w'):Tr [] w [] w':=⟨fun b hb _=>⟨by simp,h.same b hb (by simp)⟩⟩
theorem Upd.cell{w w':World}(u:Upd [] w w'){a:Addr}{v:Value}(h:w.cell? a=some v):w'.cell? a=some v:=by
 have:a.block<w.heap.size:=by
  unfold World.cell? at h;split at h
  ·rename_i h';exact qaw h'
  ·cases h
 unfold World.cell? at h ⊢;rw[u.same _ this (by simp)];exact h
section
variable {P : Program} {n : Nat} {σ : Nat -> Value} {w : World} {ops : Array Oper} {rest : List Oper} {d : Nat} {op : Op} {ty : TypeId} {pos : String} {aft : Array Edge} {g : Option (Nat × Bool)} {T : TypeId} {x : Operand} {C : World -> Prop} {Qp : Act -> Prop}
theorem q27{Q:Exit->Act->World->Prop}{v:Value}{zs:List Value}(hg:qas ops σ n g=true)(hx:okO n x=true)(ex:ev σ x=v)(hz:v.cells.toList=zs)
  (k:∀β w',w.heap.size=β->Gr w w'->w'.heap.size=β+1->Box w' β zs->wpList P ops Q rest (Fr n (upd σ d (.pointer (some ⟨β,0,none⟩)))) w'):wpList P ops Q (⟨some d,.box T x,ty,pos,aft,g⟩::rest) (Fr n σ) w:=by
 subst hz;refine qbb (w':={ w with heap:=w.heap.push (.cells v.cells T) }) hg ?_ (k _ _ rfl (Gr.push _ _) (by simp) (by simpa using Box.push w v.cells.toList T));simp only[execOp,qax hx,ex,Instr.box,Sem.run_bind,Result.andThen_ok,Sem.run_pure,newVar,newRow];rfl
theorem qlw{v:Value}(hp:qio op=true)(hd:Nat.blt d n=true)(hg:qas ops σ n g=true)
  (h:∀w1,C w1->wpList P ops (QOne n σ d v w1) [⟨some d,op,ty,pos,aft,g⟩] (Fr n σ) w1)
  (k:wpQuiet P ops C Qp rest (Fr n (upd σ d v))):wpQuiet P ops C Qp (⟨some d,op,ty,pos,aft,g⟩::rest) (Fr n σ):=by
 have hd':d<n:=by simpa using hd
 refine wpQuiet_step fun K hK=>?_;rw[qfq (o:=⟨some d,op,ty,pos,aft,g⟩) hg,if_pos rfl];refine⟨v,fun w1 hw1=>?_,by show K ((Fr n σ).put (some d) v);rw[qd7];exact hK _ k⟩;have h1:=h w1 hw1;unfold wpList at h1;rw[qfq (o:=⟨some d,op,ty,pos,aft,g⟩) hg,if_pos rfl] at h1;rcases h1 with h1|⟨_,a,w',h1,_⟩
 ·unfold Oper.quietAt;unfold Oper.wp at h1;cases hr:(execOp (Fr n σ).eval ⟨some d,op,ty,pos,aft,g⟩).run P w1 with
  | ok x w' =>
   rw[hr] at h1;cases x with
   | value u =>
    rw[Oper.upon_value,qd7] at h1;obtain⟨_,h2,h3⟩:=h1;exact⟨h3,qyp hd' h2⟩
   | skip =>
    rw[Oper.upon_skip,qd7] at h1;obtain⟨_,h2,h3⟩:=h1;exact⟨h3,(qyp hd' h2).symm⟩
   | _=>obtain⟨u,hu⟩:=quz hp hr;cases hu
  | halt x w'=>rw[hr] at h1;cases x<;>first|exact h1.elim|(obtain⟨h2,_⟩:=h1;cases h2)
 ·cases h1
theorem zui{f:Nat}{l:List Operand}{args:List Value}{ts:Array TypeId}{v:Value}(hF:qah P f)(hg:qas ops σ n g=true)(hx:okOs n l=true)(ea:evs σ l=args)
  (hc:∀w1,C w1->Calls P f args.toArray w1 (Ret fun v' w'=>v'=v/\C w'))
  (k:wpQuiet P ops C Qp rest (Fr n (upd σ d v))):wpQuiet P ops C Qp (⟨some d,.call ⟨.value (.func f),l.toArray,ts⟩,ty,pos,aft,g⟩::rest) (Fr n σ):=by
 refine wpQuiet_step fun K hK=>?_;rw[qfq (o:=⟨some d,_,ty,pos,aft,g⟩) hg,if_pos rfl];refine⟨v,fun w1 hw1=>?_,by show K ((Fr n σ).put (some d) v);rw[qd7];exact hK _ k⟩;have hr:(execOp (Fr n σ).eval ⟨some d,.call ⟨.value (.func f),l.toArray,ts⟩,ty,pos,aft,g⟩).run P w1=.ok (.enter f args.toArray) w1:=by
  obtain⟨fn,hf,hb,hn⟩:=hF;have hb':fn.body.isNone=false:=by cases h:fn.body<;>simp [h] at hb ⊢
  simp only[execOp,resolve,Act.eval,Deferred.ofValue,invoke,callFunc,qo7 hx,ea,Sem.run_bind,Sem.run_pure,Result.andThen_ok,run_program,hf,hb',hn,Bool.false_eq_true,if_false];simp
 unfold Oper.quietAt;rw[hr];refine⟨rfl,(hc w1 hw1).mono fun e w' he=>?_⟩;cases e with
 | returned v'=>obtain⟨h1,h2⟩:=he;exact⟨by rw[h1],h2⟩
 | _=>exact he.elim
theorem zd2{f:Nat}{xo:Operand}{caps:Array Value}{l:List Operand}{args:List Value}{ts:Array TypeId}{v:Value}(hF:qah P f)(hg:qas ops σ n g=true)(hx:(okO n xo&&okOs n l)=true)(ef:ev σ xo=.func (.func f) #[] caps)(ea:evs σ l++caps.toList=args)
  (hc:∀w1,C w1->Calls P f args.toArray w1 (Ret fun v' w'=>v'=v/\C w'))
  (k:wpQuiet P ops C Qp rest (Fr n (upd σ d v))):wpQuiet P ops C Qp (⟨some d,.call ⟨.value xo,l.toArray,ts⟩,ty,pos,aft,g⟩::rest) (Fr n σ):=by
 simp only[Bool.and_eq_true] at hx;refine wpQuiet_step fun K hK=>?_;rw[qfq (o:=⟨some d,_,ty,pos,aft,g⟩) hg,if_pos rfl];refine⟨v,fun w1 hw1=>?_,by show K ((Fr n σ).put (some d) v);rw[qd7];exact hK _ k⟩;have hr:(execOp (Fr n σ).eval ⟨some d,.call ⟨.value xo,l.toArray,ts⟩,ty,pos,aft,g⟩).run P w1=.ok (.enter f args.toArray) w1:=by
  obtain⟨fn,hf,hb,hn⟩:=hF;have hb':fn.body.isNone=false:=by cases h:fn.body<;>simp [h] at hb ⊢
  simp only[execOp,resolve,qax hx.1,ef,Deferred.ofValue,invoke,callFunc,qo7 hx.2,<- ea,Sem.run_bind,Sem.run_pure,Result.andThen_ok,run_program,hf,hb',hn,Bool.false_eq_true,if_false];simp
 unfold Oper.quietAt;rw[hr];refine⟨rfl,(hc w1 hw1).mono fun e w' he=>?_⟩;cases e with
 | returned v'=>obtain⟨h1,h2⟩:=he;exact⟨by rw[h1],h2⟩
 | _=>exact he.elim
end
end Go.Sx
namespace Go.Proofs.YtnhmanoiolfapaaGreat
open Go Go.Sx Go.RowKit Go.Sort Go.Shelf
theorem q9k:qah Tryz.prog 130:=⟨_,Tryz.func130,by kernel_rfl,by kernel_rfl⟩
theorem zqy:Fld Tryz.prog 92 0 0:=Fld.mk (F := ⟨"Key", 3,0, false, "", "", 0⟩) ty92 rfl ty3
def cmpI(a b:Int):Int:=if a<b then -1 else if b<a then 1 else 0
section
attribute [local irreducible] Go.wpList Go.wpQuiet Go.Code.wp
theorem q49(a:Int)(w:World):Calls Tryz.prog 130 #[.int .i64 a] w (Ret fun v w'=>v=.bool false/\Gr w w'):=by
 refine(enter (l:=[.int .i64 a]) Tryz.func130 rfl Tryz.ntmps130 rfl ?_);refine qao fun K1 hK1=>?_;refine qay ?_;refine qa4 (v:=.bool false) rfl rfl rfl ?_;refine wpList_nil ?_;refine hK1 _ _ ?_;refine qao fun K2 hK2=>?_;refine qay ?_;refine qaz (v:=.int .i64 a) rfl rfl rfl ?_;refine qaz (v:=.int .i64 a) rfl rfl rfl ?_;refine zex rfl rfl rfl rfl ?_;refine qa4 (v:=.bool false) rfl rfl (congrArg Value.bool (decide_eq_false (fun h=>h rfl))) ?_;refine wpList_nil ?_;refine hK2 _ _ ?_;refine wp_ret ?_;exact ret1 Tryz.results130 rfl ⟨rfl,Gr.refl w⟩
theorem zqg(a b:Int)(w:World):Calls Tryz.prog 125 #[.int .i64 a,.int .i64 b] w (Ret fun v w'=>v=.int .i64 (cmpI a b)/\Gr w w'):=by
 refine(enter (l:=[.int .i64 a,.int .i64 b]) Tryz.func125 rfl Tryz.ntmps125 rfl ?_);refine qao fun K1 hK1=>?_;refine qay ?_;refine qa4 (v:=.int .i64 0) rfl rfl rfl ?_;refine wpList_nil ?_;refine hK1 _ _ ?_;refine qao fun K2 hK2=>?_;refine qay ?_;refine qaz (v:=.int .i64 a) rfl rfl rfl ?_;refine qhn (l:=[.tmp 7]) (args:=[.int .i64 a]) q9k rfl rfl rfl (q49 a w) ?_;rintro _ w1 ⟨rfl,g1⟩;refine qa4 (v:=.bool false) rfl rfl rfl ?_;refine wpList_nil ?_;refine hK2 _ _ ?_;refine qao fun K3 hK3=>?_;refine qay ?_;refine qaz (v:=.int .i64 b) rfl rfl rfl ?_;refine qhn (l:=[.tmp 9]) (args:=[.int .i64 b]) q9k rfl rfl rfl (q49 b w1) ?_;rintro _ w2 ⟨rfl,g2⟩;refine qa4 (v:=.bool false) rfl rfl rfl ?_;refine wpList_nil ?_;refine hK3 _ _ ?_;refine qao fun K4 hK4=>?_;refine qao fun K5 hK5=>?_;refine qay ?_;refine qaz (v:=.bool false) rfl rfl rfl ?_;refine wpList_nil ?_;refine hK5 _ _ ?_;refine qoo rfl rfl ?_;refine wp_skip ?_;refine hK4 _ _ ?_;refine qao fun K6 hK6=>?_;refine qao fun K7 hK7=>?_;refine qay ?_;refine qaz (v:=.bool false) rfl rfl rfl ?_;refine wpList_nil ?_;refine hK7 _ _ ?_;refine qoo rfl rfl ?_;refine wp_skip ?_;refine hK6 _ _ ?_;refine qao fun K8 hK8=>?_;refine qao fun K9 hK9=>?_;refine qay ?_;refine qaz (v:=.int .i64 a) rfl rfl rfl ?_;refine qaz (v:=.int .i64 b) rfl rfl rfl ?_;refine qxv rfl rfl rfl rfl ?_;refine wpList_nil ?_;refine hK9 _ _ ?_;refine c_if rfl rfl (fun h=>?_) (fun h=>?_)
 ·refine qao fun KA hKA=>?_;refine qay ?_;refine qa4 (v:=.int .i64 (-1)) rfl rfl rfl ?_;refine wpList_nil ?_;refine hKA _ _ ?_;refine wp_ret ?_;exact ret1 Tryz.results125 rfl ⟨by unfold cmpI;rw[if_pos h];rfl,g1.trans g2⟩
 refine wp_skip ?_;refine hK8 _ _ ?_;refine qao fun KB hKB=>?_;refine qao fun KC hKC=>?_;refine qay ?_;refine qaz (v:=.int .i64 a) rfl rfl rfl ?_;refine qaz (v:=.int .i64 b) rfl rfl rfl ?_;refine qqf rfl rfl rfl rfl ?_;refine wpList_nil ?_;refine hKC _ _ ?_;refine c_if rfl rfl (fun h2=>?_) (fun h2=>?_)
 ·refine qao fun KA hKA=>?_;refine qay ?_;refine qa4 (v:=.int .i64 1) rfl rfl rfl ?_;refine wpList_nil ?_;refine hKA _ _ ?_;refine wp_ret ?_;exact ret1 Tryz.results125 rfl ⟨by unfold cmpI;rw[if_neg h,if_pos h2];rfl,g1.trans g2⟩
 refine wp_skip ?_;refine hKB _ _ ?_;refine qao fun KD hKD=>?_;refine qay ?_;refine qa4 (v:=.int .i64 0) rfl rfl rfl ?_;refine wpList_nil ?_;refine hKD _ _ ?_;refine wp_ret ?_;exact ret1 Tryz.results125 rfl ⟨by unfold cmpI;rw[if_neg h,if_neg h2];rfl,g1.trans g2⟩
theorem zcz(x:Int × ByteArray × Bool)(w:World):Calls Tryz.prog 115 #[.agg (encC x).toArray] w (Ret fun v w'=>v=.int .i64 x.1/\Gr w w'):=by
 refine(enter (l:=[.agg (encC x).toArray]) Tryz.func115 rfl Tryz.ntmps115 rfl ?_);refine qao fun K1 hK1=>?_;refine qay ?_;refine q27 (v:=.agg (encC x).toArray) (zs:=encC x) rfl rfl rfl rfl fun β w1 hβ g1 hz1 hx1=>?_;refine qa4 (v:=.int .i64 0) rfl rfl rfl ?_;refine wpList_nil ?_;refine hK1 _ _ ?_;refine qao fun K2 hK2=>?_;refine qay ?_;refine q2f zqy rfl rfl rfl ?_;refine qgg (v:=.int .i64 x.1) ty3 rfl rfl rfl rfl hx1 rfl ?_;refine qa4 (v:=.int .i64 x.1) rfl rfl rfl ?_;refine wpList_nil ?_;refine hK2 _ _ ?_;refine wp_ret ?_;exact ret1 Tryz.results115 rfl ⟨rfl,g1⟩
theorem zpz(x y:Int × ByteArray × Bool){b:Nat}{w:World}(hb:w.cell? ⟨b,0,none⟩=some (.func (.func 115) #[] #[])) :
  Calls Tryz.prog 124 #[.agg (encC x).toArray,.agg (encC y).toArray,.pointer (some ⟨b,0,none⟩)] w (Ret fun v w'=>v=.int .i64 (cmpI x.1 y.1)/\Gr w w'):=by
 refine(enter (l:=[.agg (encC x).toArray,.agg (encC y).toArray,.pointer (some ⟨b,0,none⟩)]) Tryz.func124 rfl Tryz.ntmps124 rfl ?_);refine qao fun K1 hK1=>?_;refine qay ?_;refine q27 (v:=.agg (encC x).toArray) (zs:=encC x) rfl rfl rfl rfl fun β1 w1 hβ1 g1 hz1 hx1=>?_;refine q27 (v:=.agg (encC y).toArray) (zs:=encC y) rfl rfl rfl rfl fun β2 w2 hβ2 g2 hz2 hx2=>?_;refine qa4 (v:=.int .i64 0) rfl rfl rfl ?_;refine wpList_nil ?_;refine hK1 _ _ ?_;have hx1':=hx1.mono0 g2.upd;have hb2:=(g1.trans g2).upd.cell hb;refine qao fun K2 hK2=>?_;refine wp_region_quiet (C:=Gr w2) mixed (by kernel_rfl) (Gr.drew w2) ?_;refine qlw (v:=.func (.func 115) #[] #[]) rfl rfl rfl (fun wq gq=>qos qy6 rfl rfl rfl rfl (gq.upd.cell hb2) q1) ?_;refine qlw (v:=.agg (encC x).toArray) rfl rfl rfl (fun wq gq=>qu3 (ds:=encC x) ty92 rfl rfl rfl rfl (hx1'.mono0 gq.upd) rfl rfl q1) ?_;refine zd2 (f:=115) (l:=[.tmp 7]) (args:=[.agg (encC x).toArray]) (v:=.int .i64 x.1) q7h rfl rfl rfl rfl (fun wq gq=>(zcz x wq).mono fun e w' h=>by
  cases e with
  | returned v=>exact⟨h.1,gq.trans h.2⟩
  | _=>exact h.elim) ?_
 refine qlw (v:=.func (.func 115) #[] #[]) rfl rfl rfl (fun wq gq=>qos qy6 rfl rfl rfl rfl (gq.upd.cell hb2) q1) ?_;refine qlw (v:=.agg (encC y).toArray) rfl rfl rfl (fun wq gq=>qu3 (ds:=encC y) ty92 rfl rfl rfl rfl (hx2.mono0 gq.upd) rfl rfl q1) ?_;refine zd2 (f:=115) (l:=[.tmp 10]) (args:=[.agg (encC y).toArray]) (v:=.int .i64 y.1) q7h rfl rfl rfl rfl (fun wq gq=>(zcz y wq).mono fun e w' h=>by
  cases e with
  | returned v=>exact⟨h.1,gq.trans h.2⟩
  | _=>exact h.elim) ?_
 refine zui (f:=125) (l:=[.tmp 8,.tmp 11]) (args:=[.int .i64 x.1,.int .i64 y.1]) (v:=.int .i64 (cmpI x.1 y.1)) zr9 rfl rfl rfl (fun wq gq=>(zqg x.1 y.1 wq).mono fun e w' h=>by
  cases e with
  | returned v=>exact⟨h.1,gq.trans h.2⟩
  | _=>exact h.elim) ?_
 refine qlw (v:=.int .i64 (cmpI x.1 y.1)) rfl rfl rfl (fun wq gq=>qa4 (v:=.int .i64 (cmpI x.1 y.1)) rfl rfl rfl q1) ?_;refine wpQuiet_nil fun w3 g3=>?_;refine hK2 _ _ ?_;refine wp_ret ?_;exact ret1 Tryz.results124 rfl ⟨rfl,(g1.trans g2).trans g3⟩
end
end Go.Proofs.YtnhmanoiolfapaaGreat
end

section
set_option maxRecDepth 100000
namespace Go.Proofs.YtnhmanoiolfapaaGreat
open Go Go.Sx Go.RowKit Go.Sort Go.Shelf
abbrev DC:Type:=Int × ByteArray × Bool
instance:Dat DC where
 sz:=3
 enc _ _ cs x:=cs=encC x
 len h:=by rw[h];rfl
 mono h _:=h
 ones h:=by rw[h];rfl
theorem zsp{w:World}{a:Option Addr}{cap:Nat}{l:List DC}(hS:SL [] w a cap l)(hl:l.length<=1000):Calls Tryz.prog 122 #[.slice a l.length cap] w (Ret fun v w'=>∃a' c' m',v=.slice a' l.length c'/\Go.Sx.Own m' [] w' a' c' l/\Evo [] w m' w'):=by
 have hM:Lo [] w:=fun b hb=>by cases hb
 refine enter (l:=[.slice a l.length cap]) Tryz.func122 rfl Tryz.ntmps122 rfl ?_;refine qao fun KhK1 hK1=>?_;refine qay ?_;refine qa4 (v:=.slice none 0 0) rfl rfl rfl ?_;refine wpList_nil ?_;refine hK1 _ _ ?_;refine qao fun KhK2 hK2=>?_;refine qao fun KhK3 hK3=>?_;refine qay ?_;refine qaz (v:=.slice a l.length cap) rfl rfl rfl ?_;refine q4h ty35 rfl rfl rfl rfl ?_;refine wpList_nil ?_;refine hK3 _ _ ?_;refine qro rfl rfl (fun hb4=>?_) (fun hb4=>?_)
 ·obtain rfl:=hS.isNone hb4;refine qao fun KhK5 hK5=>?_;refine qay ?_;refine qa4 (v:=.slice none 0 0) rfl rfl rfl ?_;refine wpList_nil ?_;refine hK5 _ _ ?_;refine wp_ret ?_;exact ret1 Tryz.results122 rfl ⟨none,0,[],rfl,Go.Sx.Own.nil,Evo.refl [] w⟩
 ·refine wp_skip ?_;refine hK2 _ _ ?_;refine qao fun KhK7 hK7=>?_;refine qay ?_;refine qxi (α:=DC) (m:=[]) (M:=[]) ty35 ty92 rfl (hM.mono (Evo.refl [] w).size) fun β14 w15 hβ16 u17 hz18 ho19=>?_;have e20:=u17.evoN (m:=[]) hβ16 hz18;refine qaz (v:=.slice a l.length cap) rfl rfl rfl ?_;refine qo5 (l:=([]:List DC)) ty35 ty35 ty92 rfl rfl rfl rfl rfl rfl rfl ho19 (hS.mono (e20.tr [])) (hM.mono e20.size) (by show (0+l.length)*32<=140737488355328;omega) fun a22 c23 w24 m25 ho26 e27 u28 hbk29 hsub30=>?_;refine qa4 (v:=.slice a22 (([]:List DC)++l).length c23) rfl rfl rfl ?_;refine wpList_nil ?_;refine hK7 _ _ ?_;refine wp_ret ?_;exact ret1 Tryz.results122 rfl ⟨a22,c23,m25,rfl,ho26,e20.trans e27⟩
theorem zv3{w:World}{g off n:Nat}{d:Array DC}{os:Array Obj}:Upd [g] w (sortWorldK encC 3 w g off n d os):=by
 refine⟨rfl,rfl,rfl,?_,fun b hb hn=>?_⟩
 ·show w.heap.size<=((w.heap.modify g _)++os).size;simp
 ·show ((w.heap.modify g _)++os)[b]?=_;rw[Array.getElem?_append_left (by simpa using hb),Array.getElem?_modify,if_neg (by simp at hn;omega)]
theorem z3m:SWO (ltOf fun x y:DC=>cmpI x.1 y.1):=by
 have e:∀x y:DC,ltOf (fun x y:DC=>cmpI x.1 y.1) x y=decide (x.1<y.1):=fun x y=>by
  unfold ltOf cmpI;by_cases h1:x.1<y.1
  ·simp[h1]
  ·by_cases h2:y.1<x.1<;>simp [h1,h2]
 refine⟨fun x=>?_,fun x y z h1 h2=>?_,fun x y z h1 h2=>?_⟩
 ·rw[e];simp
 ·rw[e] at *;simp only[decide_eq_true_eq] at *;omega
 ·rw[e] at *;simp only[decide_eq_false_iff_not] at *;omega
def RowC(b0:Nat)(w:World)(a:Option Addr)(cap:Nat)(l:List DC):Prop :=
 (l.length<=cap/\cap<9223372036854775808)/\(l=[]\/∃g,a=some ⟨g,0,none⟩/\b0<=g/\∀i (h:i<l.length) j,j<3->w.cell? ⟨g,i*3+j,none⟩=(encC l[i])[j]?)
def qpe(l:List DC):Prop:=∀(i j:Nat) (hi:i<l.length) (hj:j<l.length),i<j->¬(l[j]).1<(l[i]).1
section
attribute [local irreducible] Go.wpList Go.wpQuiet Go.Code.wp
theorem zyt{w:World}{a:Option Addr}{cap:Nat}{l:List DC}(hS:SL [] w a cap l)(hl:l.length<=1000) :
  Calls Tryz.prog 114 #[.slice a l.length cap,.func (.func 115) #[] #[]] w (Ret fun v w'=>∃a' c' l',v=.slice a' l'.length c'/\(List.Perm l' l/\qpe l')/\RowC w.heap.size w' a' c' l'/\Upd [] w w'):=by
 refine enter (l:=[.slice a l.length cap,.func (.func 115) #[] #[]]) Tryz.func114 rfl Tryz.ntmps114 rfl ?_;refine qao fun K1 hK1=>?_;refine qay ?_;refine zzh (v:=.func (.func 115) #[] #[]) (zs:=[.func (.func 115) #[] #[]]) rfl rfl rfl rfl fun βt w1 hβ1 u1 hz1 hx1=>?_;refine qa4 (v:=.slice none 0 0) rfl rfl rfl ?_;refine wpList_nil ?_;refine hK1 _ _ ?_;refine qao fun K2 hK2=>?_;refine qay ?_;refine qaz (v:=.slice a l.length cap) rfl rfl rfl ?_;refine qhn (l:=[.tmp 6]) (args:=[.slice a l.length cap]) zoo rfl rfl rfl (zsp (hS.mono u1.tr0) hl) ?_;rintro _ w2 ⟨a2,c2,m2,rfl,ho2,e2⟩;refine qa4 (v:=.slice a2 l.length c2) rfl rfl rfl ?_;refine wpList_nil ?_;refine hK2 _ _ ?_;have u2:=e2.old;have hx2:=hx1.mono0 u2;have hold:Upd [] w w2:=u1.trans u2;refine qao fun K3 hK3=>?_;refine qay ?_;refine qaz (v:=.slice a2 l.length c2) rfl rfl rfl ?_;refine zkf (vs:=[.pointer (some ⟨βt,0,none⟩)]) rfl rfl rfl ?_;have hsort:Calls Tryz.prog 123 #[.slice a2 l.length c2,.func (.func 124) #[] #[.pointer (some ⟨βt,0,none⟩)]] w2 (Ret fun v w'=>∃l',l'.length=l.length/\(List.Perm l' l/\qpe l')/\RowC w.heap.size w' a2 c2 l'/\Upd [] w w'):=by
  rcases ho2 with ⟨rfl,rfl,rfl⟩|⟨g,cells,rfl,hgm,_,hbx,hcl,hcap,hel⟩
  ·refine(zqj none 0 _ w2).mono fun e w' h=>?_;obtain⟨rfl,rfl⟩:=h;exact⟨[],rfl,⟨List.Perm.refl _,fun i j hi=>by simp at hi⟩,⟨⟨Nat.le_refl _,by omega⟩,.inl rfl⟩,hold⟩
  ·have hgw:w1.heap.size<=g:=by
    rcases e2.own g hgm with h|h
    ·cases h
    ·exact h
   have hne:βt≠g:=by have:=hx1.lt;omega
   have hcl2:l.length*3<=cells.length:=by rw[hcl];show _<=c2*3;omega
   have hcell:∀i (h:i<l.length) j,j<3->cells[i*3+j]?=(encC l[i])[j]?:=fun i h j hj=>by
    obtain⟨cs,h1,h2⟩:=hel i h;have h1:cs=encC l[i]:=h1;rw[<- h1];exact h2 j hj
   have hfz:∀o,w2.frozen? ⟨g,o,none⟩=false:=fun o=>by
    obtain⟨t,ht⟩:=hbx;simp[World.frozen?,ht]
   have hH:HoldsK encC 3 w2 g 0 l.toArray:=fun t ht=>by
    rw[size_flatK] at ht;refine⟨?_,by rw[hfz]⟩;have ht3:t<l.length*3:=by simpa using ht
    rw[Nat.zero_add,hbx.cell,get_flatK encC 3 l.toArray t (by simpa using ht3)];have h1:t / 3<l.length:=by omega
    have h2:=hcell (t / 3) h1 (t % 3) (by omega);rw[show t / 3*3+t % 3=t by omega] at h2;rw[h2];have e3:(l.toArray)[t / 3]! = l[t / 3]:=by simp[h1]
    rw[e3];have h4:t % 3<(encC l[t / 3]).length:=by show t % 3<3;omega
    rw[List.getElem?_eq_getElem h4];show _=some ((encC l[t / 3])[t % 3]!);rw[getElem!_pos (encC l[t / 3]) (t % 3) h4]
   have hbt:w2.cell? ⟨βt,0,none⟩=some (.func (.func 115) #[] #[]):=by rw[hx2.cell];rfl
   have eg:∀args w,(callFunc 124 args).run Tryz.prog w=.ok (.enter 124 args) w:=enters_of Tryz.func124 (by kernel_rfl) rfl;have hcmp:CmpLays Tryz.prog 124 #[.pointer (some ⟨βt,0,none⟩)] encC 3 (fun x y:DC=>cmpI x.1 y.1) g 0 l.toArray.size w2:=fun m os dk hs x y=>by
    refine(zpz x y (b:=βt) ?_).mono fun e w' h=>?_
    ·rw[cell?_sortWorldK_other encC 3 w2 g 0 m dk os ⟨βt,0,none⟩ hne hx2.lt];exact hbt
    ·cases e with
     | returned v=>obtain⟨rfl,q,os',h2⟩:=h;exact⟨rfl,q,os',h2⟩
     | _=>exact h.elim
   have hcon:=z1p (fun x y:DC=>cmpI x.1 y.1) z3m 124 #[.pointer (some ⟨βt,0,none⟩)] g 0 c2 l.toArray w2 eg hcmp hH hbx.lt (by simp;omega);have el:l.toArray.size=l.length:=by simp
   rw[el] at hcon;refine hcon.mono fun e w' h=>?_;obtain⟨rfl,d',n,os,hp,hs,rfl⟩:=h;obtain⟨hp1,_,hp3⟩:=hp;have hd:d'.toList.length=l.length:=by rw[Array.length_toList,hp1,el]
   have hd2:d'.size=l.length:=by rw[hp1,el]
   have hperm:List.Perm d'.toList l:=by
    have e1:d'.extract 0 l.length=d':=by rw[<- hd2];exact Array.extract_size
    have e2:l.toArray.extract 0 l.length=l.toArray:=by rw[<- el];exact Array.extract_size
    rw[e1,e2] at hp3;exact hp3
   have hH2:=holdsK_sortWorldK_c encC 3 w2 g 0 l.toArray d' n os hH hbx.lt hp1;refine⟨d'.toList,hd,⟨hperm,fun i j hi hj hij=>?_⟩,⟨⟨by rw[hd];exact hcap.1,hcap.2⟩,.inr ⟨g,rfl,Nat.le_trans u1.size hgw,fun i hi j hj=>?_⟩⟩,hold.old_upd zv3 (Nat.le_trans u1.size hgw)⟩
   ·have:=hs i j (Nat.zero_le _) hij (by rw[<- hd];exact hj);have hi':i<d'.size:=by simpa using hi
    have hj':j<d'.size:=by simpa using hj
    rw[getElem!_pos d' i hi',getElem!_pos d' j hj'] at this;unfold ltOf cmpI at this;simp only[decide_eq_false_iff_not] at this;show ¬(d'.toList[j]).1<(d'.toList[i]).1;rw[Array.getElem_toList,Array.getElem_toList];intro hlt;rw[if_pos hlt] at this;omega
   ·have hi':i<d'.size:=by simpa using hi
    have ht:i*3+j<(flatK encC 3 d').size:=by rw[size_flatK];omega
    have:=(hH2 (i*3+j) ht).1;rw[Nat.zero_add] at this;rw[this,get_flatK encC 3 d' (i*3+j) (by omega)];have e1:(i*3+j) / 3=i:=by omega
    have e2:(i*3+j) % 3=j:=by omega
    rw[e1,e2,getElem!_pos d' i hi',Array.getElem_toList];have h4:j<(encC d'[i]).length:=hj;rw[List.getElem?_eq_getElem h4];show some ((encC d'[i])[j]!)=_;rw[getElem!_pos (encC d'[i]) j h4]
 refine qhn (l:=[.tmp 8,.tmp 9]) (args:=[.slice a2 l.length c2,.func (.func 124) #[] #[.pointer (some ⟨βt,0,none⟩)]]) zia rfl rfl rfl hsort ?_;rintro _ w3 ⟨l',hl',hps,hrow,hu⟩;refine wpList_nil ?_;refine hK3 _ _ ?_;refine qao fun K4 hK4=>?_;refine qay ?_;refine qaz (v:=.slice a2 l.length c2) rfl rfl rfl ?_;refine qa4 (v:=.slice a2 l.length c2) rfl rfl rfl ?_;refine wpList_nil ?_;refine hK4 _ _ ?_;refine wp_ret ?_;exact ret1 Tryz.results114 rfl ⟨a2,c2,l',by rw[hl'];rfl,hps,hrow,hu⟩
end
end Go.Proofs.YtnhmanoiolfapaaGreat
end

section
set_option maxRecDepth 100000
namespace Go.Sx
open Go Go.RowKit
section
variable {P : Program} {w : World}
theorem znx{ty:TypeId}{β bm since c0:Nat}{seen:Array Nat}{es:Array MapEntry}{clock:Nat}(hi:w.heap[β]?=some (.mapIter (some bm) since seen c0))(hb:w.heap[bm]?=some (.map es clock))(hold:∀x∈es.toList,x.born<since)(hsc:since<=c0) :
  ((leftOf es seen).size=0/\(Instr.next (.pointer (some ⟨β,0,none⟩)) false ty).run P w=.ok (.tuple #[.bool false]) w) \/
  ∃e∈(leftOf es seen).toList,∃w1:World,Upd [β] w w1/\w1.heap[β]?=some (.mapIter (some bm) since (seen.push e.born) clock)/\(Instr.next (.pointer (some ⟨β,0,none⟩)) false ty).run P w=.ok (.tuple #[.bool true,e.key,e.val]) w1:=by
 have hlt:=qaw hi;simp only[Instr.next,getObj,Sem.run_bind,Sem.run,hi,hb,Result.andThen,next_test_false seen es since c0 hold hsc,Bool.false_eq_true,if_false];unfold leftOf;have hmem:∀x∈(Array.filter (fun e=>!seen.contains e.born) es).toList,x.born<since:=fun x hx=>hold x (by simp at hx ⊢;exact hx.1);generalize Array.filter (fun e=>!seen.contains e.born) es=L at hmem ⊢;have e1:L.filter (fun x=>decide (x.born<since))=L:=Array.filter_eq_self.2 (fun x hx=>by simpa using hmem x (by simpa using hx));have e2:L.filter (fun x=>decide (x.born ≥ since))=#[]:=by
  rw[Array.filter_eq_empty_iff];intro x hx;have:=hmem x (by simpa using hx);simp;omega
 simp only[e1,e2,Array.append_empty];by_cases h0:L.size=0
 ·left;have:L=#[]:=Array.eq_empty_of_size_eq_zero h0;subst this;refine⟨rfl,?_⟩;simp[choose,Sem.run,Question.forced]
 ·right;have hne:L.isEmpty=false:=by simp[Array.isEmpty,h0]
  simp only[hne,Bool.false_eq_true,if_false,Array.empty_append,Array.size_map];have hch:∃(j:Nat) (w1:World),j<L.size/\w1.Alike w/\w1.tape=w.tape/\(choose (Question.mapNext L.size)).run P w=.ok j w1:=by
   by_cases hf:L.size<=1
   ·exact⟨0,w,by omega,⟨rfl,rfl,rfl⟩,rfl,by simp[choose,Sem.run,Question.forced,hf]⟩
   ·exact⟨_,{ w with drawn:=w.drawn+1 },Nat.mod_lt _ (by omega),⟨rfl,rfl,rfl⟩,rfl,by
     simp only[choose,Sem.run,Question.forced,decide_eq_true_eq,hf,if_false,Question.cut];rfl⟩
  obtain⟨j,w1,hj,hal,htp,hrun⟩:=hch;have hi1:w1.heap[β]?=some (.mapIter (some bm) since seen c0):=by rw[hal.1];exact hi
  refine⟨L[j],by simp,{ w1 with heap:=w1.heap.setIfInBounds β (.mapIter (some bm) since (seen.push L[j].born) clock) },⟨hal.2.1,htp,hal.2.2,?_,fun b hb hn=>?_⟩,?_,?_⟩
  ·show w.heap.size<=(w1.heap.setIfInBounds β _).size;rw[Array.size_setIfInBounds,hal.1];exact Nat.le_refl _
  ·show (w1.heap.setIfInBounds β _)[b]?=_;rw[Array.getElem?_setIfInBounds,if_neg (by simp at hn;omega),hal.1]
  ·show (w1.heap.setIfInBounds β _)[β]?=_;rw[Array.getElem?_setIfInBounds,if_pos rfl,if_pos (by rw[hal.1];exact hlt)]
  ·simp only[hrun,Array.getElem?_map,Array.getElem?_eq_getElem hj,Option.map_some,Sem.run_bind,setObj,Sem.run,hi1,Result.andThen];rfl
theorem z1d{β bm since:Nat}{seen:Array Nat}{es:Array MapEntry}{clock:Nat}{e:MapEntry}(hi:w.heap[β]?=some (.mapIter (some bm) since (seen.push e.born) clock))(hb:w.heap[bm]?=some (.map es clock))(he:e∈es.toList)(hn:(es.toList.map (·.born)).Nodup) :
  (Instr.entry (.pointer (some ⟨β,0,none⟩))).run P w=.ok (.tuple #[e.key,e.val]) w:=by
 have hf:es.find? (·.born==e.born)=some e:=by rw[<- Array.find?_toList];exact find_born e es.toList hn he
 simp only[Instr.entry,getObj,Sem.run_bind,Sem.run,hi,hb,Result.andThen,Array.back?_push,bne_self_eq_false,Bool.false_eq_true,if_false,hf];rfl
end
section
variable {P : Program} {n : Nat} {σ : Nat -> Value} {w : World} {Q : Exit -> Act -> World -> Prop} {ops : Array Oper} {rest : List Oper} {d : Nat} {ty : TypeId} {pos : String} {aft : Array Edge} {g : Option (Nat × Bool)} {T : TypeId} {x : Operand}
theorem znq{K E:TypeId}{bm:Nat}{es:Array MapEntry}{clock:Nat}(hT:P.underlying T=some (.map K E))(hb:w.heap[bm]?=some (.map es clock))(hg:qas ops σ n g=true)(hx:okO n x=true)(ex:ev σ x=.map (some bm))
  (k:∀β w',w.heap.size=β->Upd [] w w'->w'.heap[β]?=some (.mapIter (some bm) clock #[] clock)->wpList P ops Q rest (Fr n (upd σ d (.pointer (some ⟨β,0,none⟩)))) w'):wpList P ops Q (⟨some d,.range T x,ty,pos,aft,g⟩::rest) (Fr n σ) w :=
 qbb hg (by simp only[execOp,qax hx,ex,run_range_map w T K E bm es clock hT hb,Sem.run_bind,Sem.run_pure,Result.andThen_ok]) (k _ _ rfl (Upd.alloc _ _) (World.alloc_heap_new _ _))
theorem zvc{β bm since c0:Nat}{seen:Array Nat}{es:Array MapEntry}{clock:Nat}(hi:w.heap[β]?=some (.mapIter (some bm) since seen c0))(hb:w.heap[bm]?=some (.map es clock))(hold:∀x∈es.toList,x.born<since)(hsc:since<=c0)
  (hg:qas ops σ n g=true) (hx:okO n x=true) (ex:ev σ x=.pointer (some ⟨β,0,none⟩))
  (k0:(leftOf es seen).size=0->wpList P ops Q rest (Fr n (upd σ d (.tuple #[.bool false]))) w)
  (k1:∀e w1,e∈(leftOf es seen).toList->Upd [β] w w1->w1.heap[β]?=some (.mapIter (some bm) since (seen.push e.born) clock)->wpList P ops Q rest (Fr n (upd σ d (.tuple #[.bool true,e.key,e.val]))) w1) :
  wpList P ops Q (⟨some d,.next x false,ty,pos,aft,g⟩::rest) (Fr n σ) w:=by
 rcases znx (P:=P) (ty:=ty) hi hb hold hsc with ⟨h1,h2⟩|⟨e,he,w1,h1,h2,h3⟩
 ·exact qbb hg (by simp only[execOp,qax hx,ex,h2,Sem.run_bind,Sem.run_pure,Result.andThen_ok]) (k0 h1)
 ·exact qbb hg (by simp only[execOp,qax hx,ex,h3,Sem.run_bind,Sem.run_pure,Result.andThen_ok]) (k1 e w1 he h1 h2)
theorem zil{β bm since:Nat}{seen:Array Nat}{es:Array MapEntry}{clock:Nat}{e:MapEntry}(hi:w.heap[β]?=some (.mapIter (some bm) since (seen.push e.born) clock))(hb:w.heap[bm]?=some (.map es clock))(he:e∈es.toList)(hn:(es.toList.map (·.born)).Nodup)
  (hg:qas ops σ n g=true) (hx:okO n x=true) (ex:ev σ x=.pointer (some ⟨β,0,none⟩)) (k:wpList P ops Q rest (Fr n (upd σ d (.tuple #[e.key,e.val]))) w) :
  wpList P ops Q (⟨some d,.entry x,ty,pos,aft,g⟩::rest) (Fr n σ) w :=
 qbb hg (by simp only[execOp,qax hx,ex,z1d (P:=P) hi hb he hn,Sem.run_bind,Sem.run_pure,Result.andThen_ok]) k
end
theorem ztl{es:Array MapEntry}{seen:Array Nat}{e:MapEntry}(hn:(es.toList.map (·.born)).Nodup)(he:e∈(leftOf es seen).toList):List.Perm (leftOf es seen).toList (e::(leftOf es (seen.push e.born)).toList):=by
 have h1:(leftOf es (seen.push e.born)).toList=(leftOf es seen).toList.filter fun x=>!(x.born==e.born):=by
  unfold leftOf;rw[Array.toList_filter,Array.toList_filter,List.filter_filter];congr 1;funext x;rw[Array.contains_push];cases seen.contains x.born<;>cases hx:(e.born==x.born)<;>simp_all [BEq.comm]
 rw[h1];have hn2:((leftOf es seen).toList.map (·.born)).Nodup:=by
  unfold leftOf;rw[Array.toList_filter];exact hn.sublist (List.filter_sublist.map _)
 generalize (leftOf es seen).toList=L at he hn2;induction L with
 | nil=>cases he
 | cons x L ih =>
  obtain⟨n1,n2⟩:=List.nodup_cons.1 hn2;rcases List.mem_cons.1 he with rfl|he
  ·have:(e::L).filter (fun x=>!(x.born==e.born))=L:=by
    rw[List.filter_cons_of_neg (by simp)];refine List.filter_eq_self.2 fun y hy=>?_;have:y.born≠e.born:=fun e'=>n1 (List.mem_map.2 ⟨y,hy,e'⟩);simpa using this
   rw[this]
  ·have hne:x.born≠e.born:=fun e'=>n1 (List.mem_map.2 ⟨e,he,e'.symm⟩);rw[List.filter_cons_of_pos (by simpa using hne)];exact((ih he n2).cons x).trans (List.Perm.swap e x _)
end Go.Sx
namespace Go.Proofs.YtnhmanoiolfapaaGreat
open Go Go.Sx Go.RowKit Go.Sort Go.Shelf
def qbo(e:MapEntry):DC:=(match e.key with|.int _ k=>k|_=>0,match e.val with|.string s=>s|_=>⟨#[]⟩,false)
theorem z0l:Szs Tryz.prog 92 [(0,1),(1,1),(2,1)]:=Go.Jx.szs_of ttOK (ty:=92) rfl rfl rfl
section
attribute [local irreducible] Go.wpList Go.wpQuiet Go.Code.wp
theorem zlb{w:World}{bm:Nat}{es:Array MapEntry}{clock:Nat}(hb:w.heap[bm]?=some (.map es clock))(hn:(es.toList.map (·.born)).Nodup)(hold:∀x∈es.toList,x.born<clock)(hkv:∀e∈es.toList,e.key=.int .i64 (qbo e).1/\e.val=.string (qbo e).2.1)(hl:es.size<=1000) :
  Calls Tryz.prog 98 #[.map (some bm)] w (Ret fun v w'=>∃a' c' l',v=.slice a' l'.length c'/\(List.Perm l' (es.toList.map qbo)/\qpe l')/\RowC w.heap.size w' a' c' l'/\Upd [] w w'):=by
 have hltm:=qaw hb;refine enter (l:=[.map (some bm)]) Tryz.func98 rfl Tryz.ntmps98 rfl ?_;refine qao fun K1 hK1=>?_;refine qay ?_;refine qa4 (v:=.slice none 0 0) rfl rfl rfl ?_;refine wpList_nil ?_;refine hK1 _ _ ?_;refine qao fun K2 hK2=>?_;refine qay ?_;refine qa4 (v:=.slice none 0 0) rfl rfl rfl ?_;refine wpList_nil ?_;refine hK2 _ _ ?_;refine qao fun K3 hK3=>?_;refine qao fun K4 hK4=>?_;refine qay ?_;refine qaz (v:=.map (some bm)) rfl rfl rfl ?_;refine znq q8x.und hb rfl rfl rfl fun β w1 hβ u1 hi1=>?_;refine wpList_nil ?_;refine hK4 _ _ ?_;have hb1:w1.heap[bm]?=some (.map es clock):=(u1.same bm hltm (by simp)).trans hb;have hM0:Lo ([]:List Nat) w1:=fun b hb=>by cases hb
 have hperm0:(leftOf es #[]).toList=es.toList:=by
  unfold leftOf;rw[Array.toList_filter];exact List.filter_eq_self.2 fun x _=>by simp
 refine wp_block ?_;refine qzp (X:=(Array Nat × List DC) × (Option Addr × Nat × List Nat)) (3::4::5::(List.range 19).drop 8) (fun x=>[(3,.slice x.2.1 x.1.2.length x.2.2.1)])
  (fun x wi=>(wi.heap[β]?=some (.mapIter (some bm) clock x.1.1 clock)/\wi.heap[bm]?=some (.map es clock))/\List.Perm (x.1.2++(leftOf es x.1.1).toList.map qbo) (es.toList.map qbo)/\Go.Sx.Own x.2.2.2 [] wi x.2.1 x.2.2.1 x.1.2/\(β∈x.2.2.2/\(∀b∈blk x.2.1,β<b)/\∀b∈x.2.2.2,b<wi.heap.size)/\Upd [] w wi)
  (fun x=>(leftOf es x.1.1).size) ((#[],[]),(none,0,[β])) ⟨rfl,trivial⟩ ⟨⟨hi1,hb1⟩,by rw[hperm0];exact List.Perm.refl _,Go.Sx.Own.nil,⟨by simp,fun b hb=>(by cases hb),fun b hb=>by rw[List.mem_singleton.1 hb];exact qaw hi1⟩,u1⟩ ?_
 rintro⟨⟨seen,out⟩,ao,co,mo⟩ τ w2 ⟨⟨hi2,hb2⟩,hp2,ho2,hm2,hu2⟩;have hlo:out.length<=es.size:=by
  have:=hp2.length_eq;simp only[List.length_append,List.length_map,Array.length_toList] at this;omega
 refine qao fun K5 hK5=>?_;refine qay ?_;refine zvc hi2 hb2 hold (Nat.le_refl _) rfl rfl rfl (fun h0=>?_) (fun e w3 he hu3 hi3=>?_)
 ·refine qkb (v:=.bool false) rfl rfl rfl rfl ?_;refine wpList_nil ?_;refine hK5 _ _ ?_;refine qao fun K6 hK6=>?_;refine qoo rfl rfl ?_;refine wp_exit ?_;refine hK3 _ _ ?_;have hnil:(leftOf es seen).toList=[]:=by
   have:leftOf es seen=#[]:=Array.eq_empty_of_size_eq_zero h0;rw[this]
  rw[hnil,List.map_nil,List.append_nil] at hp2;have hold2:Upd [] w w2:=hu2;refine qao fun K7 hK7=>?_;refine qay ?_;refine qaz (v:=.slice ao out.length co) rfl rfl rfl ?_;refine qhn (l:=[.tmp 19,.func 115]) (args:=[.slice ao out.length co,.func (.func 115) #[] #[]]) zik rfl rfl rfl (zyt (ho2.shut (N:=[]) (fun b hb=>by cases hb) (fun b _=>by simp)) (by omega)) ?_;rintro _ w4 ⟨a',c',l',rfl,⟨hps,hso⟩,hrow,hu4⟩;refine qa4 (v:=.slice a' l'.length c') rfl rfl rfl ?_;refine wpList_nil ?_;refine hK7 _ _ ?_;refine wp_ret ?_;refine ret1 Tryz.results98 rfl ⟨a',c',l',rfl,⟨hps.trans hp2,hso⟩,⟨hrow.1,?_⟩,hold2.trans hu4⟩;rcases hrow.2 with h|⟨g,h1,h2,h3⟩
  ·exact .inl h
  ·exact .inr ⟨g,h1,Nat.le_trans hold2.size h2,h3⟩
 ·refine qkb (v:=.bool true) rfl rfl rfl rfl ?_;refine wpList_nil ?_;refine hK5 _ _ ?_;refine qao fun K6 hK6=>?_;refine q7k rfl rfl ?_;refine wp_skip ?_;refine hK6 _ _ ?_;have hein:e∈es.toList:=by
   unfold leftOf at he;rw[Array.toList_filter] at he;exact(List.mem_filter.1 he).1
  obtain⟨hk,hv⟩:=hkv e hein;have hbm3:bm≠β:=by omega
  have hb3:w3.heap[bm]?=some (.map es clock):=(hu3.same bm (qaw hb2) (by simpa using hbm3)).trans hb2;refine wp_block ?_;refine qao fun K7 hK7=>?_;refine qay ?_;refine zil hi3 hb3 hein hn rfl rfl rfl ?_;rw[hk,hv];refine qkb (v:=.int .i64 (qbo e).1) rfl rfl rfl rfl ?_;refine qkb (v:=.string (qbo e).2.1) rfl rfl rfl rfl ?_;refine qa4 (v:=.int .i64 (qbo e).1) rfl rfl rfl ?_;refine qa4 (v:=.string (qbo e).2.1) rfl rfl rfl ?_;refine wpList_nil ?_;refine hK7 _ _ ?_;have hlp:=ztl hn he;have hsz:(leftOf es seen).size=(leftOf es (seen.push e.born)).size+1:=by
   have:=hlp.length_eq;simpa using this
  have hu03:Upd [] w w3:=Upd.old_upd hu2 hu3 (by omega);have hM3:Lo ([]:List Nat) w3:=fun b hb=>by cases hb
  have hev3:Evo mo w2 mo w3:=hu3.evo (by intro b hb;simp at hb;rw[hb];exact hm2.1);have ho3:Go.Sx.Own mo [] w3 ao co out:=ho2.mono hu3 (fun b hb=>by have:=hm2.2.1 b hb;simp;omega) hev3 (ho2.mem);refine qay ?_;refine qaz (v:=.slice ao out.length co) rfl rfl rfl ?_;refine qaz (v:=.int .i64 (qbo e).1) rfl rfl rfl ?_;refine qaz (v:=.string (qbo e).2.1) rfl rfl rfl ?_;refine zy1 (r:=encC (qbo e)) ty92 z0l rfl rfl rfl rfl rfl ?_;refine zj5 (r:=encC (qbo e)) ty35 ty92 rfl rfl rfl rfl rfl rfl fun β4 w4 hβ4 hu4 hz4 hx4=>?_;have hβ4':β4 ∉ mo++[]:=fun h=>by
   rw[List.append_nil] at h;have h1:=hm2.2.2 β4 h;have h2:=hu3.size;omega
  have ev4:Evo mo w3 mo w4:=hu4.evo0;have ho4:Go.Sx.Own mo [] w4 ao co out:=ho3.mono hu4 (fun b hb=>by simp) ev4 ho2.mem;have hs4:SL (mo++[]) w4 (some ⟨β4,0,none⟩) 1 [qbo e]:=SL.of_box1 hx4 hβ4' rfl;have hM4:Lo ([]:List Nat) w4:=fun b hb=>by cases hb
  refine qo5 ty35 ty35 ty92 rfl rfl rfl rfl rfl rfl rfl ho4 hs4 hM4 (by show (out.length+1)*32<=140737488355328;omega) fun a5 c5 w5 m5 ho5 ev5 hu5 hbk5 hsub5=>?_;refine qa4 (v:=.slice a5 (out++[qbo e]).length c5) rfl rfl rfl ?_;refine wpList_nil ?_;have hu04:Upd [] w w4:=hu03.trans hu4;have hi4:w4.heap[β]?=some (.mapIter (some bm) clock (seen.push e.born) clock):=(hu4.same β (qaw hi3) (by simp)).trans hi3;have hb4:w4.heap[bm]?=some (.map es clock):=(hu4.same bm (qaw hb3) (by simp)).trans hb3;have hnb:∀b∈blk ao,β<b:=hm2.2.1;have hi5:w5.heap[β]?=some (.mapIter (some bm) clock (seen.push e.born) clock):=(hu5.same β (qaw hi4) (fun h=>by have:=hnb β h;omega)).trans hi4;have hb5:w5.heap[bm]?=some (.map es clock):=(hu5.same bm (qaw hb4) (fun h=>by have:=hnb bm h;omega)).trans hb4;have hlt4:β<w4.heap.size:=qaw hi4;refine⟨((seen.push e.born,out++[qbo e]),(a5,c5,m5)),by show (leftOf es (seen.push e.born)).size<(leftOf es seen).size;omega,⟨⟨hi5,hb5⟩,?_,ho5,⟨hsub5 β hm2.1,fun b hb=>?_,?_⟩,⟨hu5.os.trans hu04.os,hu5.tape.trans hu04.tape,hu5.output.trans hu04.output,Nat.le_trans hu04.size hu5.size,fun x hx hn=>(hu5.same x (Nat.lt_of_lt_of_le hx hu04.size) (fun h=>by have:=hnb x h;omega)).trans (hu04.same x hx hn)⟩⟩,_,rfl,(by repeat first|exact qbd.refl _ _|refine qbd.upd rfl ?_|refine qbd.upds rfl ?_|refine qbd.mix rfl ?_),rfl,trivial⟩
  ·refine List.Perm.trans ?_ hp2;show List.Perm ((out++[qbo e])++(leftOf es (seen.push e.born)).toList.map qbo) (out++(leftOf es seen).toList.map qbo);rw[List.append_assoc];exact List.Perm.append_left out (hlp.map qbo).symm
  ·rcases hbk5 b hb with h|h
   ·exact hnb b h
   ·omega
  ·exact ev5.lo fun b hb=>Nat.lt_of_lt_of_le (hm2.2.2 b hb) (Nat.le_trans hu3.size hu4.size)
end
end Go.Proofs.YtnhmanoiolfapaaGreat
end

noncomputable section
set_option maxRecDepth 100000
namespace Go.Proofs.YtnhmanoiolfapaaGreat
open Go Go.Sx Go.RowKit Go.Jx
theorem qrd{m:List (Int × ByteArray)}(h:S.mapG m=true):(m.map (·.1)).Nodup/\∀p∈m,(0<=p.1/\p.1<=199)/\p.2.size<=4000:=by
 unfold S.mapG at h;simp only[Bool.and_eq_true,decide_eq_true_eq,List.all_eq_true] at h;refine⟨h.1,fun p hp=>?_⟩;have:=h.2 p hp;unfold S.inI at this;simp only[Bool.and_eq_true,decide_eq_true_eq] at this;exact⟨this.1,Nat.le_of_ble_eq_true this.2⟩
theorem qk6:∀{l:List qaa} {last:Int},S.okGo l last=true->(∀c∈l,last<c.1)/\l.Pairwise (fun a b=>a.1<b.1)
 | [],_,_=>⟨fun c hc=>(by cases hc),List.Pairwise.nil⟩
 | c::l,last,h=>by
  obtain⟨_,_,_,h4,h5⟩:=qbq.1 h;obtain⟨i1,i2⟩:=qk6 h5;refine⟨fun x hx=>?_,List.Pairwise.cons i1 i2⟩;rcases List.mem_cons.1 hx with rfl|hx
  ·exact h4
  ·have:=i1 x hx;omega
theorem zb6{c:qaa}(hg:c.2.2=false):∀{l:List qaa},(∀x∈l,x.1≠c.1)->List.Perm (S.ins1 c l) (c::l)
 | [],_=>by
  show List.Perm (cond c.2.2 [] [c]) _;rw[hg];exact List.Perm.refl _
 | a::r,h=>by
  show List.Perm (if a.1<c.1 then a::S.ins1 c r else if a.1=c.1 then cond c.2.2 r (c::r) else cond c.2.2 (a::r) (c::a::r)) _;by_cases q1:a.1<c.1
  ·rw[if_pos q1];exact((zb6 hg fun x hx=>h x (List.mem_cons_of_mem _ hx)).cons a).trans (List.Perm.swap c a r)
  ·rw[if_neg q1,if_neg (h a (by simp)),hg];exact List.Perm.refl _
theorem q9x:∀(m:List (Int × ByteArray)) (c:List qaa),(m.map (·.1)).Nodup->(∀p∈m,((0<=p.1/\p.1<=199)/\p.2.size<=4000)/\∀x∈c,x.1≠p.1)->okS c (-1) ->
  okS (m.foldl (fun c p=>S.ins1 (p.1,p.2,false) c) c) (-1)/\List.Perm (m.foldl (fun c p=>S.ins1 (p.1,p.2,false) c) c) (c++m.map fun p=>(p.1,p.2,false))
 | [],c,_,_,h=>⟨h,by simp⟩
 | p::m,c,hn,hr,h=>by
  obtain⟨n1,n2⟩:=List.nodup_cons.1 hn;have hp:=hr p (by simp);have h1:=zb6 (c:=(p.1,p.2,false)) rfl hp.2;have h2:okS (S.ins1 (p.1,p.2,false) c) (-1):=qq9 (p.1,p.2,false) hp.1 h (show (-1:Int)<p.1 by have:=hp.1.1.1;omega);obtain⟨i1,i2⟩:=q9x m (S.ins1 (p.1,p.2,false) c) n2 (fun q hq=>⟨(hr q (List.mem_cons_of_mem _ hq)).1,fun x hx=>by
   rcases List.mem_cons.1 (h1.mem_iff.1 hx) with rfl|hx
   ·exact fun e=>n1 (List.mem_map.2 ⟨q,hq,e.symm⟩)
   ·exact(hr q (List.mem_cons_of_mem _ hq)).2 x hx⟩) h2
  refine⟨i1,i2.trans ?_⟩;refine(h1.append_right _).trans ?_;show List.Perm ((p.1,p.2,false)::(c++m.map fun p=>(p.1,p.2,false))) (c++(p.1,p.2,false)::m.map fun p=>(p.1,p.2,false));exact List.perm_middle.symm
theorem qg3{m:List (Int × ByteArray)}(h:S.mapG m=true):okS (S.listed m) (-1)/\List.Perm (S.listed m) (m.map fun p=>(p.1,p.2,false)):=by
 obtain⟨h1,h2⟩:=qrd h;exact q9x m [] h1 (fun p hp=>⟨h2 p hp,fun x hx=>by cases hx⟩) ⟨rfl,fun x hx=>by cases hx⟩
theorem zcn{m:List (Int × ByteArray)}(h:S.mapG m=true):(S.listed m).length=m.length:=(qg3 h).2.length_eq.trans (List.length_map _)
theorem zuy{m:List (Int × ByteArray)}(h:S.mapG m=true):m.length<=200:=by
 obtain⟨h1,h2⟩:=qg3 h;have h3:=qus h1.1 (Int.le_refl _);have e:=zcn h;omega
theorem zwu{m:List (Int × ByteArray)}(h:S.mapG m=true){l:List qaa}(hp:List.Perm l (m.map fun p=>(p.1,p.2,false)))(hs:qpe l):l=S.listed m:=by
 obtain⟨h1,h2⟩:=qg3 h;obtain⟨n1,n2⟩:=qrd h;have hn:(l.map (·.1)).Nodup:=by
  refine(hp.map (·.1)).nodup_iff.2 ?_;rw[List.map_map];exact n1
 have hle:l.Pairwise (fun a b=>¬b.1<a.1):=List.pairwise_iff_getElem.2 fun i j hi hj hij=>hs i j hi hj hij;have hne:l.Pairwise (fun a b=>a.1≠b.1):=List.pairwise_map.1 hn;have hlt:l.Pairwise (fun a b=>a.1<b.1):=(hle.and hne).imp fun⟨a,b⟩=>by omega
 exact List.Perm.eq_of_pairwise (le:=fun a b:qaa=>a.1<b.1) (fun a b _ _ q1 q2=>absurd q1 (by omega)) hlt (qk6 h1.1).2 (hp.trans h2.symm)
theorem q9n:∀m:List (Int × ByteArray),(tmEs (.int .i64) .str m).map (·.1)=m.map fun p=>IV.int .i64 p.1
 | []=>rfl
 | p::m=>congrArg (IV.int .i64 p.1::·) (q9n m)
theorem q9z:∀m:List (Int × ByteArray),(tmEs (.int .i64) .str m).map (·.2)=m.map fun p=>IV.str p.2
 | []=>rfl
 | p::m=>congrArg (IV.str p.2::·) (q9z m)
def usC(L:List qaa)(i j:Nat):Value:=(encC (L.getD i (0,S.none_,false))).getD j .nilFunc
theorem q95{L:List qaa}{i j:Nat}(h:i<L.length):usC L i j=(encC L[i]).getD j .nilFunc:=by
 unfold usC;rw[List.getD_eq_getElem?_getD (l:=L),List.getElem?_eq_getElem h];rfl
theorem zim(E:Env)(m:List (Int × ByteArray))(us:List Value)(hG:S.mapG m=true)(p:Pre T0 E (Sc qc1.ps ((some m,()):ElP qc1.ps)))(hv:VRs E [.map 0] us) :
  CallsIn Fence.wide 0 Tryz.prog 98 us.toArray E.w (RetB 1 T0 E (Sc qc1.ps ((some m,()):ElP qc1.ps)) ⟨.lst qad (S.listed m),Sc qc1.ps ((some m,()):ElP qc1.ps),0,0⟩):=by
 obtain⟨u,us',rfl,a1,a2⟩:=VRs.inv (v:=.map 0) (cs:=[]) hv;obtain rfl:us'=[]:=List.length_eq_zero_iff.1 a2.1.symm;have hA:E.A 0:=by cases a1;assumption
 have hu:u=.map (some (E.ρ 0)):=by cases a1;rfl
 subst hu;obtain⟨ents,clock,h1,h2,h3,h4⟩:=p.st.objs 0 trivial hA (.tmap (.int .i64) .str m) rfl;have h2:VRs E (m.map fun p=>IV.int .i64 p.1) (ents.toList.map (·.key)):=by
  rw[q9n] at h2;exact h2
 have h3:VRs E (m.map fun p=>IV.str p.2) (ents.toList.map (·.val)):=by
  rw[q9z] at h3;exact h3
 have hl2:ents.toList.length=m.length:=by
  have:=h2.1;rw[List.length_map,List.length_map] at this;exact this.symm
 have hel:∀i (hi:i<m.length) (hi2:i<ents.toList.length),ents.toList[i].key=.int .i64 (m[i]).1/\ents.toList[i].val=.string (m[i]).2:=fun i hi hi2=>by
  have q1:=h2.2 i (by rw[List.length_map];exact hi) (by rw[List.length_map];exact hi2);have q2:=h3.2 i (by rw[List.length_map];exact hi) (by rw[List.length_map];exact hi2);simp only[List.getElem_map] at q1 q2;constructor
  ·generalize ents.toList[i].key=u at q1;cases q1;rfl
  ·generalize ents.toList[i].val=u at q2;cases q2;rfl
 have hkv:∀e∈ents.toList,e.key=.int .i64 (qbo e).1/\e.val=.string (qbo e).2.1:=fun e he=>by
  obtain⟨i,hi,rfl⟩:=List.mem_iff_getElem.1 he;obtain⟨q1,q2⟩:=hel i (by omega) hi;unfold qbo;rw[q1,q2];exact⟨rfl,rfl⟩
 have hmap:ents.toList.map qbo=m.map fun p=>(p.1,p.2,false):=by
  apply List.ext_getElem
  ·simp[hl2]
  ·intro i hi1 hi2;rw[List.getElem_map,List.getElem_map];obtain⟨q1,q2⟩:=hel i (by simpa using hi2) (by simpa using hi1);unfold qbo;rw[q1,q2]
 have hlen:=zuy hG;refine(callsIn_wide.2 (zlb h1 h4.1 h4.2 hkv (by rw[<- Array.length_toList];omega))).mono fun e w' hR=>?_;cases e with
 | returned v =>
  obtain⟨a',c',l',rfl,⟨hp,hs⟩,⟨hc,hrow⟩,hu⟩:=hR;rw[hmap] at hp;obtain rfl:=zwu hG hp hs;obtain⟨p1,p2⟩:=Post.idle p hu;refine⟨_,E.at_ w',rfl,rfl,?_,PostB.of (Nat.le_of_eq (qkr qc1.ps ((some m,()):ElP qc1.ps)).symm) (fun _ _=>trivial) p1 p2⟩;show VR _ (.lst qad (S.listed m)) _;obtain⟨o1,o2⟩:=qg3 hG;have hll:(S.listed m).length<=200:=by have:=zcn hG;omega
  generalize hL:S.listed m=L at hc hrow hll o1 o2;cases L with
  | nil=>exact .lst0 hc.2
  | cons c0 L =>
   rcases hrow with h|⟨g,rfl,hg,hcell⟩
   ·cases h
   have h00:=hcell 0 (by simp) 0 (by omega);obtain⟨cells,t,fz,hh⟩:∃cells t fz,w'.heap[g]?=some (.cells cells t fz):=by
    unfold World.cell? at h00;split at h00
    ·rename_i c t fz h;exact⟨c,t,fz,h⟩
    ·cases h00
   have hcell2:∀i (h:i<(c0::L).length) j,j<3->cells[i*3+j]?=(encC (c0::L)[i])[j]?:=fun i h j hj=>by
    rw[<- hcell i h j hj];simp[World.cell?,hh]
   refine VR.lst (E:=E.at_ w') (c:=qad) (l:=c0::L) (off:=0) (cells:=cells) (t:=t) (fz:=fz) (usC (c0::L)) hc.1 hc.2 (by show (c0::L).length*25<=140737488355328;omega) (fun h=>?_) hh (fun i hi j hj=>?_) (fun i hi j hj=>?_)
   ·have:=p.st.lo g h;omega
   ·show cells[0+i*3+j]?=_;have hj:j<3:=hj;have hi:i<(c0::L:List qaa).length:=hi;rw[Nat.zero_add,hcell2 i hi j hj,q95 hi,List.getD_eq_getElem?_getD,List.getElem?_eq_getElem (show j<(encC ((c0::L:List qaa)[i]'hi)).length from hj)];rfl
   ·have hj:j<3:=hj;have hi:i<(c0::L:List qaa).length:=hi;have hin:(c0::L)[i]∈(c0::L):=List.getElem_mem hi;have hpm:(c0::L)[i]∈(m.map fun p=>((p.1,p.2,false):qaa)):=by
     exact o2.mem_iff.1 hin
    obtain⟨q,hq,hqe⟩:=List.mem_map.1 hpm;obtain⟨⟨k1,k2⟩,k3⟩:=(qrd hG).2 q hq;show VR _ (cel qad ((c0::L:List qaa)[i]'hi))[j] (usC (c0::L) i j);rw[q95 hi];have hx:∀(x:qaa) (hx:x=(q.1,q.2,false)) (hj':j<(cel qad x).length),VR (E.at_ w') (cel qad x)[j] ((encC x).getD j .nilFunc):=fun x hx hj'=>by
     subst hx;match j,hj with
     | 0,_=>exact .int .i64 q.1 (qfx ⟨by omega,by omega⟩)
     | 1,_=>exact .str q.2 (by omega)
     | 2,_=>exact .bool false
    exact hx _ hqe.symm _
 | _=>exact hR.elim
theorem zzl:ConR Tryz.prog 98 qc1:=by
 refine⟨zms,fun E x us y z hf p hv=>?_⟩;obtain⟨m,u0⟩:=x;cases u0;cases m with
 | none=>cases hf
 | some m =>
 have hf:cond (S.mapG m) (some (((S.listed m,()):ElR qc1.rts),((some m,()):ElP (refs qc1.ps)))) none=some (y,z):=hf;obtain⟨hG,e⟩:=qa8 hf;obtain⟨rfl,rfl⟩:=Prod.mk.inj e;exact zim E m us hG p hv
abbrev KV:Type:=Int × ByteArray
def ms(k:Int)(v:ByteArray):List KV->List KV
 | []=>[(k,v)]
 | e::es=>if k=e.1 then (k,v)::es else e::ms k v es
def md(k:Int):List KV->List KV
 | []=>[]
 | e::es=>if k=e.1 then es else e::md k es
theorem zd1(k:Int)(v:ByteArray):∀m:List KV,(mset (vc:=.str) (.int .i64) k v m:List KV)=ms k v m
 | []=>rfl
 | e::m=>by
  show cond (decide (k=e.1)) ((k,v)::m) (e::(mset (vc:=.str) (.int .i64) k v m:List KV))=if k=e.1 then (k,v)::m else e::ms k v m
  rw[zd1 k v m];by_cases h:k=e.1
  ·rw[decide_eq_true h,if_pos h];rfl
  ·rw[decide_eq_false h,if_neg h];rfl
theorem q6k(k:Int):∀m:List KV,(mdel (vc:=.str) (.int .i64) k m:List KV)=md k m
 | []=>rfl
 | e::m=>by
  show cond (decide (k=e.1)) m (e::(mdel (vc:=.str) (.int .i64) k m:List KV))=if k=e.1 then m else e::md k m
  rw[q6k k m];by_cases h:k=e.1
  ·rw[decide_eq_true h,if_pos h];rfl
  ·rw[decide_eq_false h,if_neg h];rfl
theorem qp6{k:Int}{v:ByteArray}{p:KV}:∀{m:List KV},(m.map (·.1)).Nodup->(p∈ms k v m↔(p∈m/\p.1≠k)\/p=(k,v))
 | [],_=>by simp[ms]
 | e::m,h=>by
  obtain⟨n1,n2⟩:=List.nodup_cons.1 h;unfold ms;by_cases hk:k=e.1
  ·rw[if_pos hk];constructor
   ·intro hp;rcases List.mem_cons.1 hp with rfl|hp
    ·exact .inr rfl
    ·exact .inl ⟨List.mem_cons_of_mem _ hp,fun e'=>n1 (List.mem_map.2 ⟨p,hp,e'.trans hk⟩)⟩
   ·rintro(⟨hp,hn⟩|rfl)
    ·rcases List.mem_cons.1 hp with rfl|hp
     ·exact absurd hk.symm hn
     ·exact List.mem_cons_of_mem _ hp
    ·exact List.mem_cons_self
  ·rw[if_neg hk];have ih:=qp6 (k:=k) (v:=v) (p:=p) n2;constructor
   ·intro hp;rcases List.mem_cons.1 hp with rfl|hp
    ·exact .inl ⟨List.mem_cons_self,fun e'=>hk e'.symm⟩
    ·rcases ih.1 hp with ⟨a,b⟩|a
     ·exact .inl ⟨List.mem_cons_of_mem _ a,b⟩
     ·exact .inr a
   ·rintro(⟨hp,hn⟩|hp)
    ·rcases List.mem_cons.1 hp with rfl|hp
     ·exact List.mem_cons_self
     ·exact List.mem_cons_of_mem _ (ih.2 (.inl ⟨hp,hn⟩))
    ·exact List.mem_cons_of_mem _ (ih.2 (.inr hp))
theorem qqj{k:Int}{p:KV}:∀{m:List KV},(m.map (·.1)).Nodup->(p∈md k m↔p∈m/\p.1≠k)
 | [],_=>by simp[md]
 | e::m,h=>by
  obtain⟨n1,n2⟩:=List.nodup_cons.1 h;unfold md;by_cases hk:k=e.1
  ·rw[if_pos hk];constructor
   ·intro hp;exact⟨List.mem_cons_of_mem _ hp,fun e'=>n1 (List.mem_map.2 ⟨p,hp,e'.trans hk⟩)⟩
   ·rintro⟨hp,hn⟩;rcases List.mem_cons.1 hp with rfl|hp
    ·exact absurd hk.symm hn
    ·exact hp
  ·rw[if_neg hk];have ih:=qqj (k:=k) (p:=p) n2;constructor
   ·intro hp;rcases List.mem_cons.1 hp with rfl|hp
    ·exact⟨List.mem_cons_self,fun e'=>hk e'.symm⟩
    ·exact⟨List.mem_cons_of_mem _ (ih.1 hp).1,(ih.1 hp).2⟩
   ·rintro⟨hp,hn⟩;rcases List.mem_cons.1 hp with rfl|hp
    ·exact List.mem_cons_self
    ·exact List.mem_cons_of_mem _ (ih.2 ⟨hp,hn⟩)
theorem q4v{k:Int}{v:ByteArray}:∀{m:List KV},(m.map (·.1)).Nodup->((ms k v m).map (·.1)).Nodup
 | [],_=>by simp[ms]
 | e::m,h=>by
  obtain⟨n1,n2⟩:=List.nodup_cons.1 h;unfold ms;by_cases hk:k=e.1
  ·rw[if_pos hk];exact List.nodup_cons.2 ⟨by rw[hk];exact n1,n2⟩
  ·rw[if_neg hk];refine List.nodup_cons.2 ⟨fun hm=>?_,q4v n2⟩;obtain⟨p,hp,he⟩:=List.mem_map.1 hm;rcases(qp6 n2).1 hp with ⟨a,_⟩|a
   ·exact n1 (List.mem_map.2 ⟨p,a,he⟩)
   ·rw[a] at he;exact hk he
theorem q59{k:Int}:∀{m:List KV},(m.map (·.1)).Nodup->((md k m).map (·.1)).Nodup
 | [],_=>by simp[md]
 | e::m,h=>by
  obtain⟨n1,n2⟩:=List.nodup_cons.1 h;unfold md;by_cases hk:k=e.1
  ·rw[if_pos hk];exact n2
  ·rw[if_neg hk];refine List.nodup_cons.2 ⟨fun hm=>?_,q59 n2⟩;obtain⟨p,hp,he⟩:=List.mem_map.1 hm;exact n1 (List.mem_map.2 ⟨p,((qqj n2).1 hp).1,he⟩)
theorem q7v{c x:qaa}:∀{l:List qaa} {last:Int},S.okGo l last=true->(x∈S.ins1 c l↔(x∈l/\x.1≠c.1)\/(x=c/\c.2.2=false))
 | [],last,_=>by
  show x∈cond c.2.2 [] [c]↔_;cases c.2.2<;>simp
 | a::r,last,h=>by
  obtain⟨_,_,_,_,h5⟩:=qbq.1 h;have hlt:=(qk6 h5).1;have ih:=q7v (c:=c) (x:=x) h5;show x∈(if a.1<c.1 then a::S.ins1 c r else if a.1=c.1 then cond c.2.2 r (c::r) else cond c.2.2 (a::r) (c::a::r))↔_;by_cases q1:a.1<c.1
  ·rw[if_pos q1,List.mem_cons,ih,List.mem_cons];constructor
   ·rintro(rfl|⟨a1,a2⟩|a1)
    ·exact .inl ⟨.inl rfl,by omega⟩
    ·exact .inl ⟨.inr a1,a2⟩
    ·exact .inr a1
   ·rintro(⟨rfl|a1,a2⟩|a1)
    ·exact .inl rfl
    ·exact .inr (.inl ⟨a1,a2⟩)
    ·exact .inr (.inr a1)
  ·rw[if_neg q1];by_cases q2:a.1=c.1
   ·rw[if_pos q2];have hr:∀y∈r,y.1≠c.1:=fun y hy=>by have:=hlt y hy;omega
    cases hg:c.2.2 with
    | true =>
     simp only[cond_true,List.mem_cons,Bool.true_eq_false,and_false,or_false];constructor
     ·intro hx;exact⟨.inr hx,hr x hx⟩
     ·rintro⟨rfl|a1,a2⟩
      ·exact absurd q2 a2
      ·exact a1
    | false =>
     simp only[cond_false,List.mem_cons,and_true];constructor
     ·rintro(rfl|hx)
      ·exact .inr rfl
      ·exact .inl ⟨.inr hx,hr x hx⟩
     ·rintro(⟨rfl|a1,a2⟩|a1)
      ·exact absurd q2 a2
      ·exact .inr a1
      ·exact .inl a1
   ·rw[if_neg q2];have hr:∀y∈a::r,y.1≠c.1:=fun y hy=>by
     rcases List.mem_cons.1 hy with rfl|hy
     ·exact q2
     ·have:=hlt y hy;omega
    cases hg:c.2.2 with
    | true =>
     simp only[cond_true,Bool.true_eq_false,and_false,or_false];exact⟨fun hx=>⟨hx,hr x hx⟩,fun hx=>hx.1⟩
    | false =>
     simp only[cond_false,and_true];rw[List.mem_cons];constructor
     ·rintro(rfl|hx)
      ·exact .inr rfl
      ·exact .inl ⟨hx,hr x hx⟩
     ·rintro(⟨a1,_⟩|a1)
      ·exact .inr a1
      ·exact .inl a1
theorem zz0{a b:List qaa}(ha:okS a (-1))(hb:okS b (-1))(h:∀x,x∈a↔x∈b):a=b:=by
 have h1:=(qk6 ha.1).2;have h2:=(qk6 hb.1).2;have n1:a.Nodup:=h1.imp fun {x y} hxy e=>by subst e;omega
 have n2:b.Nodup:=h2.imp fun {x y} hxy e=>by subst e;omega
 exact List.Perm.eq_of_pairwise (le:=fun a b:qaa=>a.1<b.1) (fun a b _ _ q1 q2=>absurd q1 (by omega)) h1 h2 ((List.perm_ext_iff_of_nodup n1 n2).2 h)
theorem q85{m:List KV}(h:S.mapG m=true){x:qaa}:x∈S.listed m↔(x.1,x.2.1)∈m/\x.2.2=false:=by
 rw[(qg3 h).2.mem_iff,List.mem_map];constructor
 ·rintro⟨p,hp,rfl⟩;exact⟨hp,rfl⟩
 ·rintro⟨hp,hx⟩;exact⟨_,hp,by obtain⟨a,b,c⟩:=x;cases hx;rfl⟩
theorem zct{m:List KV}(h1:(m.map (·.1)).Nodup)(h2:∀p∈m,(0<=p.1/\p.1<=199)/\p.2.size<=4000):S.mapG m=true:=by
 unfold S.mapG;simp only[Bool.and_eq_true,decide_eq_true_eq,List.all_eq_true];refine⟨h1,fun p hp=>?_⟩;obtain⟨⟨a,b⟩,c⟩:=h2 p hp;unfold S.inI;simp only[Bool.and_eq_true,decide_eq_true_eq];exact⟨⟨a,b⟩,Nat.ble_eq_true_of_le c⟩
def qfd(m:List KV)(c:qaa):List KV:=cond c.2.2 (md c.1 m) (ms c.1 c.2.1 m)
theorem zid{m:List KV}(h:S.mapG m=true){c:qaa}(hc:(0<=c.1/\c.1<=199)/\c.2.1.size<=4000):S.mapG (qfd m c)=true/\S.listed (qfd m c)=S.ins1 c (S.listed m):=by
 obtain⟨n1,n2⟩:=qrd h;obtain⟨o1,o2⟩:=qg3 h;have hG:S.mapG (qfd m c)=true:=by
  unfold qfd;cases c.2.2 with
  | true=>exact zct (q59 n1) fun p hp=>n2 p ((qqj n1).1 hp).1
  | false =>
   exact zct (q4v n1) fun p hp=>by
    rcases(qp6 n1).1 hp with ⟨a,_⟩|rfl
    ·exact n2 p a
    ·exact hc
 refine⟨hG,zz0 (qg3 hG).1 (qq9 c hc o1 (by omega)) fun x=>?_⟩;rw[q85 hG,q7v o1.1,q85 h];unfold qfd;cases hg:c.2.2 with
 | true =>
  rw[cond_true,qqj n1];simp only[Bool.true_eq_false,and_false,or_false];exact⟨fun ⟨⟨a,b⟩,c⟩=>⟨⟨a,c⟩,b⟩,fun ⟨⟨a,c⟩,b⟩=>⟨⟨a,b⟩,c⟩⟩
 | false =>
  rw[cond_false,qp6 n1];simp only[and_true];constructor
  ·rintro⟨⟨a,b⟩|a,d⟩
   ·exact .inl ⟨⟨a,d⟩,b⟩
   ·refine .inr ?_;obtain⟨x1,x2,x3⟩:=x;obtain⟨c1,c2,c3⟩:=c;simp only[Prod.mk.injEq] at a d hg ⊢;exact⟨a.1,a.2,d.trans hg.symm⟩
  ·rintro(⟨⟨a,b⟩,d⟩|rfl)
   ·exact⟨.inl ⟨a,d⟩,b⟩
   ·exact⟨.inr rfl,hg⟩
theorem ztu(m:List KV)(l:List qaa):S.applied m l=l.foldl qfd m:=by
 unfold S.applied;have:∀(l:List qaa) (m:List KV),List.foldl (fun(m:List KV) (c:qaa)=>cond c.2.2 (mdel (vc:=.str) (.int .i64) c.1 m:List KV) (mset (vc:=.str) (.int .i64) c.1 c.2.1 m)) m l=l.foldl qfd m:=by
  intro l;induction l with
  | nil=>intro m;rfl
  | cons c l ih =>
   intro m;rw[List.foldl_cons,List.foldl_cons,ih];congr 1;unfold qfd;rw[<- zd1,<- q6k]
 exact this l m
theorem q9d:∀{l:List qaa} {m:List KV} {last:Int},S.mapG m=true->S.okGo l last=true->S.mapG (S.applied m l)=true/\S.listed (S.applied m l)=S.changed (S.listed m) l
 | [],m,_,h,_=>⟨h,rfl⟩
 | c::l,m,last,h,hl=>by
  obtain⟨h1,h2,h3,h4,h5⟩:=qbq.1 hl;obtain⟨s1,s2⟩:=zid h ⟨h1,h2⟩;have ih:=q9d (l:=l) s1 h5;rw[ztu] at ih ⊢;rw[List.foldl_cons];refine⟨ih.1,ih.2.trans ?_⟩;rw[s2];rfl
end Go.Proofs.YtnhmanoiolfapaaGreat
end

section
namespace Go.Jx
open Go Go.Sx Go.RowKit
universe u

theorem jup{m bi:Nat}{E0 Ei:Env}{S S':IS}{Wb B:World}(p0:Pre T0 E0 S)(hbi:qc5 E0 S bi)(hW:Beside bi E0.w Wb)(k:PostB m T0 (E0.at_ Wb) S Ei S')(hT0:∀id,m<=id->T0.w id)(u:Upd [bi] Ei.w B) :
  ∃Wb',Beside bi E0.w Wb'/\PostB m T0 (E0.at_ Wb') S (Ei.at_ B) S':=by
 obtain⟨hle,pW,hbW⟩:=p0.beside hbi hW;have pi:=k.pre hT0 pW;have hlt:bi<Wb.heap.size:=by rw[hW.size];exact p0.st.lo bi hbi.1
 have h1:Ei.w.heap[bi]?=some Wb.heap[bi]:=(k.at_same pW hbW).trans (Array.getElem?_eq_getElem hlt);obtain⟨B',u1,hB⟩:=zpt u h1;obtain⟨i1,i2⟩:=Post.idle pi u1;have k2:=k.trans (PostB.of k.le hT0 i1 i2);have hltB:bi<B.heap.size:=Nat.lt_of_lt_of_le (qaw h1) u.size;have h3:=Beside.put Wb bi B.heap[bi];refine⟨Wb.putObj bi B.heap[bi],⟨h3.os.trans hW.os,h3.tape.trans hW.tape,h3.output.trans hW.output,h3.size.trans hW.size,fun x hx=>(h3.same x hx).trans (hW.same x hx)⟩,?_⟩;have:=PostB.beside (E:=E0.at_ Wb) (E':=Ei.at_ B') (w:=Wb.putObj bi B.heap[bi]) (w':=B) k2 pW hbW h3 hB (by rw[World.putObj_heap_same hlt];exact Array.getElem?_eq_getElem hltB);exact this
section
variable {P : Program} {tt : Nat -> Option TI}
theorem zgx(hm:P.follows .mixedOrders=true)(htt:TT P tt){k f:Nat}{s:SmI}{cfg:LpC}{lf:Nat}(hc:ConW P f s){cl:Cl}(hcl:ClOK P cl)(hfr:ClFr cl){vs:List IV}{S:IS}{r:Res}(h:itW P tt k s cfg lf cl vs S=some r)
   {T:TW} {E:Env} {us:List Value} (p:Pre T E S) (hrd:tin T.r r.rd) (hwr:tin T.w r.wr) (hv:VRs E vs us):qah P f/\CallsIn Fence.wide 0 P f us.toArray E.w (RetE T E S r):=by
 refine⟨hc.callable,?_⟩;obtain⟨id,caps,xi,i,isubs,S1,w1,nt,fr,pr,assign,body,D,d0,rows,subs,S2,w2,d,l,q,rfl,h1,ho,h2,hb,h3,h4,h5,rfl⟩:=qw1 h;obtain⟨t1,t2⟩:=qar hwr;obtain⟨t3,t4⟩:=qar t2;obtain⟨t5,t6⟩:=qar t3;have hTid:=qai t1;have hbits:=qyo t4;have hTi:T.w i:=hbits i (by simp);unfold itB at hb;simp only[Bool.and_eq_true] at hb;obtain⟨b1,b2,b3,b4,b5,b6,b7,b8,b9⟩:=hb;have hnd:=qks b1;obtain⟨u0,us,rfl,a1,a2⟩:=hv.inv;have hA:E.A id:=by cases a1;assumption
 obtain⟨E1,e1,q1,f1,il1,il2,iA,ib2,ib3⟩:=qes s.ips h1 p t5 a2;have p1:=q1.pre p;have hle1:=q1.env p;obtain⟨z1,z2,z3,z4,z5⟩:=hle1.alw id hA;obtain⟨fn,tmps,g1,g2,g3⟩:=p1.st.objs id (T.sub _ hTid) z1 _ ho;have hls:VRs E1 (cfg.ls.map (slot fr)) (cfg.ls.map fun t=>tmps.getD t undef):=⟨by simp,fun i hi hi2=>by
   simp only[List.getElem_map];refine g2.get _ ?_;have:=(List.all_eq_true.1 b8) (cfg.ls[i]'(by simpa using hi)) (List.getElem_mem _);simpa using this⟩
 obtain⟨E2,e2,q2,f2,l1,l2,A2,c2,c3⟩:=qes cfg.lp h2 p1 t6 hls;have p2:=q2.pre p1;have hle2:=q2.env p1;obtain⟨_,y2,y3⟩:=qer cfg.lp h3 l2;have hq12:=Post.trans p q1 f1 q2;have hf12:=f1.trans f2 q1.le;have hS2:S2.H id=some (.loop .ready none nt fr [pr] assign body D):=by
   rw[(qe0 _ h2).2 id (p1.bnd id z1) (by simpa using b9)];exact ho
 obtain⟨hA2,x2,x3,x4,x5⟩:=hle2.alw id z1;obtain⟨fn',tmps',g1',g2',g3'⟩:=p2.st.objs id (T.sub _ hTid) hA2 _ hS2;obtain⟨nq1,nq2⟩:=List.nodup_cons.1 hnd;have nq3:=(List.nodup_append.1 nq2);have hheld:Held T E2 S2 cfg.lp d rows subs:=⟨l1,l2,nq3.2.1,fun i hi=>hbits i (List.mem_append_right _ hi),A2,fun ι hι j o hj=>by
     obtain⟨id',g1,g2,g3,g4,_⟩:=q33 h3 l2 p2 (fun i hi=>T.sub _ (hbits i (List.mem_append_right _ (List.mem_append_left _ hi)))) (c3 _ _ hι) j o hj;exact⟨id',g1,g2,g3,g4⟩,
   fun i hi=>qzr ((List.all_eq_true.1 b3) i hi),y3⟩
 have hidq:id ∉ rows++subs:=fun hi=>nq1 (List.mem_append_right _ hi);have hiq:i ∉ rows++subs:=fun h2=>nq3.2.2 i (by simp) i h2 rfl;have hidi:id≠i:=fun e=>nq1 (List.mem_append_left _ (by simp[e]));have p0:=hheld.pre p2;have hlive:Live E2 S2.H id:=⟨p2.st.blk id (T.sub _ hTid) hA2 _ hS2 rfl,_,hS2,rfl⟩;have hns:Nums idN 0 isubs:=by
   have:isubs=[]:=List.length_eq_zero_iff.1 (by rw[il2,hc.ns]);rw[this];intro j id hj;simp at hj
 have hrow:∀(j:Nat) (o:IObj),(qav s.ips idN 0 xi)[j]?=some o->∃i',[i][j]?=some i'/\E2.A i'/\(o.blk=true->E2.hb i'=true)/\OR E2 i' o:=fun j o hj=>by
   obtain⟨i,i1,i2,i3,i4⟩:=ib3 idN 0 hns j o hj;obtain⟨j1,j2,j3,j4,j5⟩:=hle2.alw i i2;exact⟨i,i1,j1,fun hb=>j5.trans (i3 hb),i4.mono hle2 i2 i3 (fun _ _=>by rw[e2])⟩
 have hread:q2y E2 s xi us [i]:=⟨fun ρ k hk=>(ib2 ρ k hk).mono hle2,hrow⟩;have hAi:E2.A i:=by
   have hj2:0<(qav s.ips idN 0 xi).length:=by rw[qba,<- il1];simp
   obtain⟨i',i1,i2,_⟩:=hrow 0 _ (List.getElem?_eq_getElem hj2);cases i1;exact i2
 have hLi:Live E2 S2.H i:=by
   obtain⟨cs,hcs⟩:=qzr ((List.all_eq_true.1 b2) i (by simp));exact⟨p2.st.blk i (T.sub _ hTi) hAi _ hcs rfl,_,hcs,rfl⟩
 have hfar:∀i,i ∉ rows++subs->T.r i->E2.A i->Live E2 S2.H i->∀k,(renE 0 (rows++subs) E2).A k->Live (renE 0 (rows++subs) E2) (Sc cfg.lp d).H k->(renE 0 (rows++subs) E2).ρ k≠E2.ρ i:=fun i hi ht ha hl k hk hkl e=>by
   have hk1:k<(rows++subs).length:=by have:=hk.1;omega
   have hm1:=(qb8 hk1).1;obtain⟨h0,o,ho1,ho2⟩:=hkl;have hl2:Live E2 S2.H (ol 0 (rows++subs) k):=⟨h0,(hheld.obj p2 hk1 hk.2 ho1).live ho2⟩;have:=p2.st.inj _ _ (T.sub _ (hheld.w _ hm1)) ht hk.2 ha hl2 hl e;exact hi (this▸hm1)
 have hap:qc5 (renE 0 (rows++subs) E2) (Sc cfg.lp d) (E2.ρ id):=⟨p2.st.own id (T.sub _ hTid) hA2 hlive,hfar id hidq (T.sub _ hTid) hA2 hlive⟩;have hai:qc5 (renE 0 (rows++subs) E2) (Sc cfg.lp d) (E2.ρ i):=⟨p2.st.own i (T.sub _ hTi) hAi hLi,hfar i hiq (T.sub _ hTi) hAi hLi⟩;have hbne:E2.ρ id≠E2.ρ i:=fun e=>hidi (p2.st.inj _ _ (T.sub _ hTid) (T.sub _ hTi) hA2 hAi hlive hLi e);have hbim:E2.ρ i∈E2.m:=p2.st.own i (T.sub _ hTi) hAi hLi;generalize hE0:renE 0 (rows++subs) E2=E0 at p0 hap hai hfar;have hE0w:E0.w=E2.w:=by rw[<- hE0];rfl
 have hE0m:E0.m=E2.m:=by rw[<- hE0];rfl
 generalize hbk:E2.ρ id=b at hap g1' hbne;generalize hbik:E2.ρ i=bi at hai hbne;obtain⟨rec,hrec⟩:∃rec:Loop,rec={ state:=.ready,pending:=none,fn:=fn',tmps:=tmps',params:=[pr].toArray,assign:=assign,body:=body,defers:=E2.ρ D }:=⟨_,rfl⟩;have hl0:E0.w.heap[b]?=some (.loop rec):=by rw[hE0w,g1',hrec]
 have htm:tmps'=tmps:=by
   have h1:=g1';rw[e2,<- hbk,x2,g1] at h1;have h1:=Option.some.inj h1;injection h1 with h1
   injection h1 with _ _ _ h1
   exact h1.symm
 have hargs:VRs E0 (qau cfg.lp idN 0 d) (cfg.ls.map fun t=>rec.tmps.getD t undef):=by
   have e:rec.tmps=tmps:=by rw[hrec];exact htm
   rw[e,<- hE0];exact argsP_env (E:=E2) (E':=renE 0 (rows++subs) E2) (ρ:=ol 0 (rows++subs)) (fun _ h=>h) rfl cfg.lp (fun j a b=>Held.numTo E2 _ (by rw[hheld.len];omega)) (by rw[y2];exact c2 _ _ hheld.num.1)
 generalize hg:qeq P tt cfg s.c nt lf cl pr assign body d=g at h5;have hd0:updP cfg.lp d (qc7 cfg.lp d)=d:=qru _ _;have hT0:∀id,mP cfg.lp<=id->T0.w id:=fun _ _=>trivial
 -- the two states of affairs
 let J:List (El s.c)->World->Prop:=fun pre W=>∃z Wb Ei,foldB g pre (qc7 cfg.lp d)=some (z,none)/\Beside bi E0.w Wb/\PostB (mP cfg.lp) T0 (E0.at_ Wb) (Sc cfg.lp d) Ei (Sc cfg.lp (updP cfg.lp d z))/\Ei.w=W
 let K:World->Prop:=fun W=>∃z cd Wb Ei,foldB g l (qc7 cfg.lp d)=some (z,some cd)/\Beside bi E0.w Wb/\PostB (mP cfg.lp) T0 (E0.at_ Wb) (Sc cfg.lp d) Ei (Sc cfg.lp (updP cfg.lp d z))/\Upd [b,bi] Ei.w W/\W.heap[b]?=some (.loop { rec with state:=.done,pending:=some cd })
 have hbes0:Beside bi E0.w E0.w:=⟨rfl,rfl,rfl,rfl,fun _ _=>rfl⟩;have hJ0:J [] E0.w:=⟨qc7 cfg.lp d,E0.w,E0,rfl,hbes0,by rw[hd0];exact PostB.refl (by rw[qkr];omega) hT0 p0,rfl⟩;have hJu:∀s A B,J s A->Upd [bi] A B->J s B:=fun pre A B ⟨z,Wb,Ei,k1,hW,k2,k3⟩ u=>by
   subst k3;obtain⟨Wb',w1,w2⟩:=jup p0 hai hW k2 hT0 u;exact⟨z,Wb',Ei.at_ B,k1,w1,w2,rfl⟩
 have hKu:∀A B,K A->Upd [bi] A B->K B:=fun A B ⟨z,cd,Wb,Ei,k1,hW,k2,k3,k4⟩ u=>⟨z,cd,Wb,Ei,k1,hW,k2,k3.trans (u.mono (by simp)),(u.same _ (qaw k4) (by simpa using hbne)).trans k4⟩;have hRd:∀pre A,J pre A->E2.Le (E2.at_ A):=fun pre A ⟨z,Wb,Ei,k1,hW,k2,k3⟩=>by
   subst k3;refine⟨fun _ h=>⟨h,rfl,rfl,rfl,rfl⟩,⟨fun x hx hxm=>⟨hxm,?_⟩⟩⟩;have hsz:x<Wb.heap.size:=by rw[hW.size,hE0w];exact hx
   have h1:Ei.w.heap[x]?=Wb.heap[x]?:=k2.same x hsz fun k _ ha hl e=>hxm (by rw[<- e,<- hE0m];exact p0.st.own k trivial ha hl);have h2:Wb.heap[x]?=E0.w.heap[x]?:=hW.same x fun e=>hxm (by rw[e,<- hbik];exact hbim);show Ei.w.heap[x]?=E2.w.heap[x]?;rw[h1,h2,hE0w]
 have hround:∀pre x post A0 A u,l=pre++x::post->J pre A0->Upd [bi] A0 A->(∀E:Env,E.w=A->(∀b∈E.m,b<A0.heap.size/\(b<E2.w.heap.size->b∈E2.m))->VR E (asIV s.c x) u)->YieldAt Fence.wide 0 P b #[u] A fun e B=>(∀c,(c=bi\/A0.heap.size<=c)->c<A.heap.size->B.heap[c]?=A.heap[c]?)/\((e=.returned (.bool true)/\J (pre++[x]) B)\/(e=.returned (.bool false)/\K B)):=fun pre x post A0 A u hl ⟨z,Wb0,Ei0,k1,hW0,k20,k30⟩ hup0 hu=>by
   subst k30;obtain⟨_,pW0,hiW0⟩:=p0.beside hai hW0;have hpi0:=k20.pre hT0 pW0;obtain⟨Wb,hW,k2⟩:=jup p0 hai hW0 k20 hT0 hup0;obtain⟨hleW,pW,hiW⟩:=p0.beside hai hW;have hapW:qc5 (E0.at_ Wb) (Sc cfg.lp d) b:=hap;have hapW0:qc5 (E0.at_ Wb0) (Sc cfg.lp d) b:=hap;have hlow0:∀k,(Ei0.at_ A).A k->Live (Ei0.at_ A) (Sc cfg.lp (updP cfg.lp d z)).H k->(Ei0.at_ A).ρ k<Ei0.w.heap.size:=fun k ha hl=>hpi0.st.lo _ (hpi0.st.own k trivial ha hl);have hmem0:∀b∈(Ei0.at_ A).m,b<Ei0.w.heap.size/\(b<E2.w.heap.size->b∈E2.m):=fun b hb=>⟨hpi0.st.lo b hb,fun hlt=>by
     rcases k20.memo b hb with h|h
     · rw[<- hE0m];exact h
     · have:Wb0.heap.size<=b:=h;rw[hW0.size,hE0w] at this;omega⟩
   obtain⟨Ei,hEi⟩:∃Ei,Ei=Ei0.at_ A:=⟨_,rfl⟩;have hEw:Ei.w=A:=by rw[hEi];rfl
   rw[<- hEi] at k2 hlow0 hmem0;rw[<- hEw];have hWb:Wb.heap[b]?=some (.loop rec):=(hW.same b hbne).trans hl0;have hWb0:Wb0.heap[b]?=some (.loop rec):=(hW0.same b hbne).trans hl0;have hb0:b<Ei0.w.heap.size:=qaw ((k20.at_same pW0 hapW0).trans hWb0);have hwhole:foldB g (x::post) z=some q:=by
     rw[<- qpn g pre (x::post) _ _ k1,<- hl];exact h5
   have hsnoc:foldB g (pre++[x]) (qc7 cfg.lp d)=foldB g [x] z:=qpn g pre [x] _ _ k1;cases hgx:g z x with
   | none=>simp only[foldB,hgx] at hwhole;cases hwhole
   | some q1 =>
   obtain⟨z1,e⟩:=q1;rw[<- hg] at hgx;have hlow:((E0.at_ Wb).bel (mP cfg.lp)).Le Ei:=k2.env pW;have hargsB:VRs ((E0.at_ Wb).bel (mP cfg.lp)) (qau cfg.lp idN 0 d) (cfg.ls.map fun t=>rec.tmps.getD t undef) :=
     argsP_env (E:=E0.at_ Wb) (E':=(E0.at_ Wb).bel (mP cfg.lp)) (ρ:=idN) (fun _ h=>h) rfl cfg.lp (fun j _ hj hA=>⟨⟨hA,by show j<mP cfg.lp;omega⟩,rfl,rfl,rfl,rfl⟩) (hargs.mono hleW)
   have hst:=zmu (E:=Ei) (b:=b) (rec:=rec) hm hcl hfr htt hgx ⟨b4,b5⟩ ⟨by simpa using b6,by simpa using b7⟩ (k2.pre hT0 pW) (k2.apart pW hapW) ((k2.at_same pW hapW).trans hWb)
     (by rw[hrec];exact⟨rfl,rfl,rfl,rfl,rfl,g2'.size⟩) (hargsB.mono hlow) (hu Ei hEw hmem0)
   obtain⟨fnr,tmpr,asr,bdr,hyr,hRr⟩:=hst;refine⟨fnr,tmpr,asr,bdr,hyr,hRr.mono fun en B hB=>?_⟩;obtain⟨E',m1,m2⟩:=hB;have hall:=k2.trans m1;rw[hg] at hgx;have hiA:=k2.apart pW hiW;have hkeep:∀c,(c=bi\/Ei0.w.heap.size<=c)->c<Ei.w.heap.size->E'.w.heap[c]?=Ei.w.heap[c]?:=fun c h1 h2=>m1.same c h2 fun k _ ha hl e=>by
     rcases h1 with h1|h1
     · exact hiA.2 k ha hl (e.trans h1)
     · have:=hlow0 k ha hl;omega
   rcases m2 with ⟨rfl,rfl,rfl⟩|⟨cd,rfl,rfl,m3,m4⟩
   · refine⟨hkeep,.inl ?_⟩;refine⟨rfl,z1,Wb,E',?_,hW,hall,rfl⟩;rw[hsnoc];simp only[foldB,hgx]
   · refine⟨fun c h1 h2=>(m3.same c (qaw ((hkeep c h1 h2).trans (Array.getElem?_eq_getElem h2))) (fun hc=>by
       have hcb:c=b:=by simpa using hc
       rcases h1 with h1|h1
       · exact hbne (hcb.symm.trans h1)
       · omega)).trans (hkeep c h1 h2),.inr ?_⟩
     refine⟨rfl,z1,cd,Wb,E',?_,hW,hall,m3.mono (by simp),m4⟩;rw[hl,qpn g pre (x::post) _ _ k1];simp only[foldB,hgx]
 have hit:=hc.it E2 xi us i l h4 p2.gl hread hbim p2.st.lo b J K;rw[hbik] at hit;have hit:=hit hJu hKu hRd hround (by rw[<- hE0w];exact hJ0);have hu0:u0=.func (.yield b) #[] #[]:=by
   cases a1;rw[<- hbk,x2,z2]
 have hw:E2.w=E.w:=by rw[e2,e1]
 rw[hw] at hit;rw[hu0,show (Value.func (.yield b) #[] #[]::us).toArray=#[.func (.yield b) #[] #[]]++us.toArray by simp];refine hit.mono fun en B ⟨hen,hB⟩=>?_
 -- what comes back
 have hfin:∀(z:ElP (refs cfg.lp)) (pe:Option Code) (Wb:World) (Ei:Env),q=(z,pe)->Beside bi E0.w Wb->PostB (mP cfg.lp) T0 (E0.at_ Wb) (Sc cfg.lp d) Ei (Sc cfg.lp (updP cfg.lp d z))->Upd [b] Ei.w B ->
     B.heap[b]?=some (.loop { rec with state:=cond pe.isNone .ready .done,pending:=pe })->RetE T E S (qoj S2 cfg id nt fr pr D assign body i rows subs (w1 ||| w2) q) en B:=fun z pe Wb Ei hqz hW k2 hup hbl=>by
   subst hqz;rw[hE0w,<- hbik] at hW;obtain⟨wr1,wr2⟩:=Post.write (o':=.dead) p2 hTi hAi hLi hW.upd trivial;have hheldW:=hheld.dead p2 hTi hAi hLi hiq hW;have p2W:=wr1.pre p2;have hle2W:=wr1.env p2;have hE0W:E0.at_ Wb=renE 0 (rows++subs) (E2.at_ Wb):=by rw[<- hE0];rfl
   rw[<- zbe cfg.lp d z,hE0W] at k2;obtain⟨m1,m2⟩:=hheldW.back (s:=sQ cfg.lp) (x:=d) p2W k2;have p3:=m1.pre p2W;have hle3:=m1.env p2W;obtain⟨n1,n2,n3,n4,n5⟩:=hle3.alw id hA2;have hlt:id<S2.next:=p2.bnd id hA2
   have hSd:(S2.set i .dead).H id=some (.loop .ready none nt fr [pr] assign body D):=by rw[IS.H_set,up_ne _ _ hidi];exact hS2
   have hobj:(qby (sQ cfg.lp) S2.next rows subs () z (S2.set i .dead)).H id=some (.loop .ready none nt fr [pr] assign body D):=by
     unfold qby
     rw[qcb,qo8,qs2,if_pos (show id<(S2.set i .dead).next from hlt),qf4 (fun h=>hidq (List.mem_append_left _ h)),qms (fun h=>hidq (List.mem_append_right _ h))];exact hSd
   have hL3:Live (mrgR (E2.at_ Wb) Ei S2.next (mP (sQ cfg.lp).ps)) (qby (sQ cfg.lp) S2.next rows subs () z (S2.set i .dead)).H id:=⟨n5.trans hlive.1,_,hobj,rfl⟩;have n2':(mrgR (E2.at_ Wb) Ei S2.next (mP (sQ cfg.lp).ps)).ρ id=b:=n2.trans hbk;have hub:Upd [(mrgR (E2.at_ Wb) Ei S2.next (mP (sQ cfg.lp).ps)).ρ id] (mrgR (E2.at_ Wb) Ei S2.next (mP (sQ cfg.lp).ps)).w B:=by rw[n2'];exact hup
   have hle4:=Env.at_le p3.st hTid n1 hL3 hub;obtain⟨w1',w2'⟩:=Post.write p3 (o':=.loop (cond pe.isNone .ready .done) pe nt fr [pr] assign body D) hTid n1 hL3 hub ⟨fn',tmps',by
     show B.heap[(mrgR (E2.at_ Wb) Ei S2.next (mP (sQ cfg.lp).ps)).ρ id]?=_;rw[n2',hbl,hrec];have:E2.ρ D=(mrgR (E2.at_ Wb) Ei S2.next (mP (sQ cfg.lp).ps)).ρ D:=((hle3.alw D g3').2.1).symm;show some (Obj.loop { state:=cond pe.isNone .ready .done,pending:=pe,fn:=fn',tmps:=tmps',params:=[pr].toArray,assign:=assign,body:=body,defers:=E2.ρ D })=_;rw[this];rfl,((g2'.mono hle2W).mono hle3).mono hle4,(hle4.alw D (hle3.alw D g3').1).1⟩
   have r0:=Post.trans p hq12 hf12 wr1;have rf0:=hf12.trans wr2 hq12.le;have r1:=Post.trans p r0 rf0 m1;have rf1:=rf0.trans m2 r0.le;exact⟨_,_,hen,rfl,.tup (us:=[]) rfl (fun i h=>by simp at h),Post.trans p r1 rf1 w1',rf1.trans w2' r1.le⟩
 rcases hB with ⟨z,Wb,Ei,k1,hW,k2,k3⟩|⟨z,cd,Wb,Ei,k1,hW,k2,k3,k4⟩
 · obtain⟨_,pW,_⟩:=p0.beside hai hW;have hapW:qc5 (E0.at_ Wb) (Sc cfg.lp d) b:=hap;refine hfin z none Wb Ei (Option.some.inj (h5.symm.trans k1)) hW k2 (by rw[k3];exact Upd.refl _ _) ?_;rw[<- k3,(k2.at_same pW hapW),show (E0.at_ Wb).w.heap[b]?=some (.loop rec) from (hW.same b hbne).trans hl0,hrec];rfl
 · obtain⟨_,pW,_⟩:=p0.beside hai hW;have hapW:qc5 (E0.at_ Wb) (Sc cfg.lp d) b:=hap;have hEb:Ei.w.heap[b]?=some (.loop rec):=(k2.at_same pW hapW).trans ((hW.same b hbne).trans hl0);have hltb:b<B.heap.size:=qaw k4;have hsp:Upd [bi] Ei.w (B.putObj b (.loop rec)):=⟨k3.os,k3.tape,k3.output,by rw[(Beside.put B b (.loop rec)).size];exact k3.size,fun x hx hn=>by
     by_cases e:x=b
     · subst e;rw[World.putObj_heap_same hltb,hEb]
     · rw[World.putObj_heap_other e];exact k3.same x hx (by simp at hn ⊢;exact⟨e,hn⟩)⟩
   obtain⟨Wb',v1,v2⟩:=jup p0 hai hW k2 hT0 hsp;exact hfin z (some cd) Wb' (Ei.at_ (B.putObj b (.loop rec))) (Option.some.inj (h5.symm.trans k1)) v1 v2 (Beside.put B b (.loop rec)).symm.upd k4
theorem zq2(hm:P.follows .mixedOrders=true)(htt:TT P tt){f:Nat}{s:SmI}(k:Nat)(cfg:LpC)(lf:Nat)(hc:ConW P f s):HxOK P f (itWx P tt k s cfg lf).f :=
 ⟨fun cl h1 h2 _ vs S r h T E us p hr hw hv=>zgx hm htt hc h1 h2 h p hr hw hv,fun cl _ vs S=>z3c,fun cl _ vs S r h hw _=>(zse h hw).elim⟩
end
end Go.Jx
end

section
namespace Go.Jx
open Go Go.Sx Go.RowKit
theorem ztn{E:Env}{k:IntKind}{n:Int}{v:Value}(h:VR E (.int k n) v):v=.int k n:=by cases h;rfl
theorem zm4{E:Env}{s:ByteArray}{v:Value}(h:VR E (.str s) v):v=.string s:=by cases h;rfl
theorem zrh{E:Env}{b:Bool}{v:Value}(h:VR E (.bool b) v):v=.bool b:=by cases h;rfl
end Go.Jx
end

section
set_option maxRecDepth 100000
namespace Go.Jx
open Go Go.Sx Go.RowKit
theorem VR.asE{E E':Env}(hm:∀b,b∈E'.m->b∈E.m)(hw:E'.w=E.w){c:TC}{x:El c}{u:Value}(h:VR E (asIV c x) u):VR E' (asIV c x) u:=by
 cases c with
 | two a b =>
  cases h with
  | agg hl hh=>exact .agg hl fun i a b=>(VR.noid hm hw (hh i a b)).2.2 _ _ (List.getElem_mem a)
 | int k=>exact(VR.noid hm hw h).2.2 (.int k) x (by simp[cel,asIV])
 | bool=>exact(VR.noid hm hw h).2.2 .bool x (by simp[cel,asIV])
 | str=>exact(VR.noid hm hw h).2.2 .str x (by simp[cel,asIV])
 | list c=>exact(VR.noid hm hw h).2.2 (.list c) x (by simp[cel,asIV])
end Go.Jx
namespace Go.Sx
open Go Go.RowKit
section
variable {P : Program} {n : Nat} {σ : Nat -> Value} {w : World} {ops : Array Oper} {rest : List Oper} {d : Nat} {ty : TypeId} {pos : String} {aft : Array Edge} {g : Option (Nat × Bool)}
def cutA(a:Addr)(cap k s:Nat):Addr:=if cap=k then a else a.add (k*s)
theorem zi8{T E:TypeId}{size bytes s2 b2:Nat}{zero z2:Value}{E':TypeDesc}{a:Addr}{len cap k:Nat}{kk:IntKind}(hT:Ty P T (.slice E) size bytes zero)(hE:Ty P E E' s2 b2 z2)(hl:k<=len)(hc:len<=cap) :
  (Instr.sliceAt T (.slice (some a) len cap) (some (.int kk (k:Nat))) none none).run P w=.ok (.slice (some (cutA a cap k s2)) (len-k) (cap-k)) w:=by
 have h1:(0:Int)<=(k:Nat)/\((k:Nat):Int)<=len:=⟨by omega,by omega⟩;by_cases h3:cap=k
 ·subst h3;simp only[Instr.sliceAt,Sem.run_bind,run_underlying hT.und,Result.andThen_ok,Instr.slice,Instr.sliceBounds,Instr.sliceBound,asIntOf,Sem.run_pure,h1,and_self,if_true,run_sizeOf hE,cutA];simp
 ·rw[q69 hT hE (by omega) hl hc];unfold cutA;rw[if_neg h3]
theorem zqh{Q:Exit->Act->World->Prop}{T E:TypeId}{size bytes s2 b2:Nat}{zero z2:Value}{E':TypeDesc}{x y:Operand}{a:Addr}{len cap k:Nat}{kk:IntKind}(hT:Ty P T (.slice E) size bytes zero)(hE:Ty P E E' s2 b2 z2)
  (hg:qas ops σ n g=true) (hx:(okO n x&&okO n y)=true) (ex:ev σ x=.slice (some a) len cap) (ey:ev σ y=.int kk (k:Nat)) (hl:k<=len) (hc:len<=cap)
  (kt:wpList P ops Q rest (Fr n (upd σ d (.slice (some (cutA a cap k s2)) (len-k) (cap-k)))) w):wpList P ops Q (⟨some d,.slice T x (some y) none none,ty,pos,aft,g⟩::rest) (Fr n σ) w:=by
 simp only[Bool.and_eq_true] at hx;exact qbb hg (by simp only[execOp,qax hx.1,ex,Option.map_none,Option.map_some,qax hx.2,ey,zi8 hT hE hl hc,Sem.run_bind,Sem.run_pure,Result.andThen_ok]) kt
theorem SL.cut{M:List Nat}{a:Addr}{cap k:Nat}{l:List ByteArray}(h:SL M w (some a) cap l)(hk:k<=l.length):SL M w (some (cutA a cap k 1)) (cap-k) (l.drop k):=by
 obtain⟨⟨h1,h2⟩,h3⟩:=h;refine⟨⟨by rw[List.length_drop];omega,by omega⟩,?_⟩;rcases h3 with rfl|⟨b,off,cells,t,fz,ha,hb,hh,hall⟩
 ·exact .inl (by simp)
 ·cases ha;by_cases hc:cap=k
  ·exact .inl (List.drop_eq_nil_of_le (by omega))
  ·refine .inr ⟨b,off+k,cells,t,fz,?_,hb,hh,fun i hi=>?_⟩
   ·unfold cutA;rw[if_neg hc,qbj _ rfl,Nat.mul_one]
   ·rw[List.length_drop] at hi;obtain⟨cs,c1,c2⟩:=hall (k+i) (by omega);refine⟨cs,by rw[List.getElem_drop];exact c1,fun j hj=>?_⟩;have:=c2 j hj;have e:(Dat.sz ByteArray)=1:=rfl;rw[e] at this ⊢;rw[show off+k+i*1+j=off+(k+i)*1+j by omega];exact this
end
end Go.Sx
namespace Go.Proofs.YtnhmanoiolfapaaGreat
open Go Go.Sx Go.RowKit Go.Jx
theorem zir:Fld Tryz.prog 151 1 1:=Fld.mk (F := ⟨"sectors", 3,1, false, "", "cosigner/keep", 24⟩) qi0 rfl ty3
theorem zzm:Fld Tryz.prog 151 2 2:=Fld.mk (F := ⟨"torn", 4,2, false, "", "cosigner/keep", 32⟩) qi0 rfl ty4
theorem zu8(M:List Nat)(w:World):Gl M w:=⟨fun b hb=>by cases hb⟩
theorem zpp{w:World}{m0:List Nat}{a:Option Addr}{cap:Nat}{l:List ByteArray}(hS:SL m0 w a cap l)(h1:S.secs1 l=true) :
  Calls Tryz.prog 112 #[.slice a l.length cap] w (Ret fun v w'=>Upd [] w w'/\(∃a1 n1 c1,v=.agg #[.slice a1 n1 c1,.int .i64 (S.readK l).2.1,.bool (S.readK l).2.2]) /\
   ∀E:Env,E.w=w'->(∀x∈E.m,x<w.heap.size/\∀ad,a=some ad->x≠ad.block)->VR E (asIV cKeepRecord (S.readK l)) v):=by
 obtain⟨hn,hlen,hsz⟩:=zc4 h1;obtain⟨⟨hc1,hc2⟩,h|⟨b,off,cells,t,fz,rfl,hb,hh,hall⟩⟩:=hS
 ·rw[h] at hn;simp at hn
 have hlt:=qaw hh
 let M0:=(List.range w.heap.size).filter fun x=>!(x==b)
 have hM0:∀x∈M0,x<w.heap.size:=fun x hx=>by
  have:=(List.mem_filter.1 hx).1;simpa using this
 have hbM:b ∉ M0:=fun hx=>by
  have:=(List.mem_filter.1 hx).2;simp at this
 have hv:VR (EM M0 w) (.lst .str l) (.slice (some ⟨b,off,none⟩) l.length cap):=by
  refine VR.lst (fun i _=>.string (l.getD i S.none_)) hc1 hc2 (by show l.length*16<=_;omega) hbM hh (fun i hi j hj=>?_) (fun i hi j hj=>?_)
  ·have hj:j<1:=hj;have:j=0:=by omega
   subst this;obtain⟨cs,c1,c2⟩:=hall i hi;have c1:cs=[.string l[i]]:=c1;have:=c2 0 (by show 0<1;omega);rw[c1] at this;have hi:i<List.length (α:=ByteArray) l:=hi;rw[List.getD_eq_getElem?_getD,List.getElem?_eq_getElem hi];exact this
  ·have hj:j<1:=hj;have:j=0:=by omega
   subst this;have hi:i<List.length (α:=ByteArray) l:=hi;rw[List.getD_eq_getElem?_getD,List.getElem?_eq_getElem hi];show VR _ (.str l[i]) (.string l[i]);exact .str _ (by have:=hsz l[i] (List.getElem_mem hi);omega)
 have hcall:=z0m.calls M0 w (l,()) [.slice (some ⟨b,off,none⟩) l.length cap] (S.readK l,()) (by
  show cond (S.secs1 l) (some (S.readK l,())) none=_;rw[h1];rfl) hM0 (zu8 _ _) (.cons hv .nil)
 refine(callsIn_wide.1 hcall).mono fun e w' hR=>?_;obtain⟨v,E',rfl,rfl,k1,k2,k3⟩:=hR;have k1:VR E' (asIV cKeepRecord (S.readK l)) v:=k1;refine⟨⟨k2.stp.os,k2.stp.tape,k2.stp.output,k2.stp.size,fun x hx _=>k2.stp.same x hx fun id _ hA _=>hA.elim⟩,?_,fun E hE hm=>VR.asE (fun x hx=>?_) hE k1⟩
 ·generalize S.readK l=r at k1;obtain⟨cl,nn,tt⟩:=r;have k1:VR E' (.agg [.lst qad cl,.int .i64 nn,.bool tt]) v:=k1;cases k1 with
  | @agg _ us hl hh2 =>
   match us,hl,hh2 with
   | [x1,x2,x3],hl,hh2 =>
    have q1:VR E' (.lst qad cl) x1:=hh2 0 (by simp) (by simp);have q2:VR E' (.int .i64 nn) x2:=hh2 1 (by simp) (by simp);have q3:VR E' (.bool tt) x3:=hh2 2 (by simp) (by simp);rw[ztn q2,zrh q3];cases q1 with
    | lst0 _=>exact⟨_,_,_,rfl⟩
    | lst us h1 h2 h3 hb hh hc hu=>exact⟨_,_,_,rfl⟩
 ·obtain⟨h2,h3⟩:=hm x hx;have hxb:x≠b:=h3 _ rfl;have hx0:x∈M0:=List.mem_filter.2 ⟨by simpa using h2,by simpa using hxb⟩;rcases k2.stp.mem x hx0 h2 with h|⟨id,_,hA,_⟩
  ·exact h
  ·exact hA.elim
theorem qz0(l:List ByteArray)(h:(S.readK l).2.2=false):1<=(S.readK l).2.1.toNat/\(S.readK l).2.1.toNat<=l.length/\(S.readK l).2.1=((S.readK l).2.1.toNat:Int):=by
 revert h
 unfold S.readK;split
 ·intro h;cases h
 ·rename_i hc;have h1:1<=S.recM (qac (l.getD 0 S.none_)):=by unfold S.recM;omega
  have h2:S.recM (qac (l.getD 0 S.none_))<=l.length:=by omega
  split
  ·intro _;exact⟨by simpa using h1,by simpa using h2,by simp⟩
  ·intro _;exact⟨by simpa using h1,by simpa using h2,by simp⟩
theorem z2b:∀(f:Nat) (l:List ByteArray),l.length<f->S.recsGo f l=S.recsGo (l.length+1) l:=by
 intro f;induction f using Nat.strongRecOn with
 | ind f ih =>
  intro l hl;cases l with
  | nil=>cases f with
   | zero=>omega
   | succ f=>rfl
  | cons s r=>cases f with
   | zero=>omega
   | succ f =>
    show (if (qac s).getD 0 0=0 then [] else S.readK (s::r)::cond (S.readK (s::r)).2.2 [] (S.recsGo f ((s::r).drop (S.readK (s::r)).2.1.toNat)))=(if (qac s).getD 0 0=0 then [] else S.readK (s::r)::cond (S.readK (s::r)).2.2 [] (S.recsGo (s::r).length ((s::r).drop (S.readK (s::r)).2.1.toNat)));by_cases h0:(qac s).getD 0 0=0
    ·rw[if_pos h0,if_pos h0]
    ·rw[if_neg h0,if_neg h0];cases ht:(S.readK (s::r)).2.2 with
     | true=>rfl
     | false =>
      obtain⟨h1,h2,_⟩:=qz0 (s::r) ht;have hd:((s::r).drop (S.readK (s::r)).2.1.toNat).length<(s::r).length:=by rw[List.length_drop];simp only[List.length_cons] at *;omega
      show _::S.recsGo f _=_::S.recsGo _ _;rw[ih f (by omega) _ (by simp only[List.length_cons] at *;omega)];by_cases hf:(s::r).length=f
      ·rw[hf,ih f (by omega) _ (by simp only[List.length_cons] at *;omega)]
      ·rw[ih (s::r).length (by simp only[List.length_cons] at *;omega) _ hd]
theorem q3a(s:ByteArray)(r:List ByteArray):S.recsK (s::r)=if (qac s).getD 0 0=0 then [] else S.readK (s::r)::cond (S.readK (s::r)).2.2 [] (S.recsK ((s::r).drop (S.readK (s::r)).2.1.toNat)):=by
 show (if (qac s).getD 0 0=0 then [] else S.readK (s::r)::cond (S.readK (s::r)).2.2 [] (S.recsGo (s::r).length ((s::r).drop (S.readK (s::r)).2.1.toNat)))=_;by_cases h0:(qac s).getD 0 0=0
 ·rw[if_pos h0,if_pos h0]
 ·rw[if_neg h0,if_neg h0];cases ht:(S.readK (s::r)).2.2 with
  | true=>rfl
  | false =>
   obtain⟨h1,h2,_⟩:=qz0 (s::r) ht;have hd:((s::r).drop (S.readK (s::r)).2.1.toNat).length<(s::r).length:=by rw[List.length_drop];simp only[List.length_cons] at *;omega
   show _::S.recsGo _ _=_::S.recsK _;unfold S.recsK;rw[z2b _ _ hd]
theorem z30{s:ByteArray}(h:0<s.size):((qfz s 0).toNat:Int)=(qac s).getD 0 0:=by
 rw[List.getD_eq_getElem?_getD,zu3 h];unfold qfz;rw[List.getD_eq_getElem?_getD,List.getElem?_eq_getElem (by simpa using h)];rfl
theorem zbj{l:List ByteArray}(h:S.secs l=true)(k:Nat):S.secs (l.drop k)=true:=by
 obtain⟨h1,h2⟩:=qj1 h;unfold S.secs S.anyShort;rw[Bool.and_eq_true];refine⟨Nat.ble_eq_true_of_le (by rw[List.length_drop];omega),?_⟩;rw[Bool.not_eq_true',List.any_eq_false];intro s hs;have:=h2 s (List.mem_of_mem_drop hs);unfold S.short;simp[this]
section
attribute [local irreducible] Go.wpList Go.wpQuiet Go.Code.wp
theorem zqb{W0:World}{b:Nat}{m0:List Nat}{r0:List Value}{a0:Option Addr}{cap0:Nat}{l0:List ByteArray}(hbm:b∈m0)(hlo:∀x∈m0,x<W0.heap.size)(hS0:SL m0 W0 a0 cap0 l0)(hl0:S.secs l0=true)(hbox0:Box W0 b (.slice a0 l0.length cap0::r0)) :
   q8p Tryz.prog 111 [.pointer (some ⟨b,0,none⟩)] b m0 W0 (fun W=>Tr m0 W0 m0 W) (fun(x:qff) u E=>VR E (asIV cKeepRecord x) u) (S.recsK l0):=by
 intro l J K hJ hK hR hy h0;refine callsIn_wide.2 (Calls.mono (R:=Ret fun v B=>v=.tuple #[]/\(J (S.recsK l0) B\/K B)) ?_ (fun e B h=>by cases e<;>first|exact⟨by rw[h.1],h.2⟩|exact h.elim));refine(enter (l:=[.func (.yield l) #[] #[],.pointer (some ⟨b,0,none⟩)]) Tryz.func111 rfl Tryz.ntmps111 rfl ?_);refine wp_block ?_;refine qzp (X:=(List qff × List ByteArray) × (Option Addr × Nat)) ((List.range 28).drop 3) (fun _=>[]) (fun x w1=>J x.1.1 w1/\SL m0 W0 x.2.1 x.2.2 x.1.2/\Box w1 b (.slice x.2.1 x.1.2.length x.2.2::r0)/\S.secs x.1.2=true/\S.recsK l0=x.1.1++S.recsK x.1.2) (fun x=>x.1.2.length) (([],l0),(a0,cap0)) trivial ⟨h0,hS0,hbox0,hl0,rfl⟩ ?_;rintro⟨⟨pre,lr⟩,a,cap⟩ τ w1 ⟨hj,hs0,hbox,hsec,hrec⟩;have hs1:SL m0 w1 a cap lr:=hs0.mono (hR _ _ hj);refine qao fun K1 hK1=>?_;refine qao fun K2 hK2=>?_;refine qay ?_;refine qgg (v:=.slice a lr.length cap) ty22 rfl rfl rfl rfl hbox rfl ?_;refine qyj ty22 rfl rfl rfl ?_;refine qqf rfl rfl rfl rfl ?_;cases lr with
 | nil =>
   refine qaz (v:=.bool false) rfl rfl rfl ?_;refine qgs rfl ?_;refine qgs rfl ?_;refine qgs rfl ?_;refine qgs rfl ?_;refine qgs rfl ?_;refine q1a (v:=.bool false) rfl rfl rfl rfl ?_;refine wpList_nil ?_;refine hK2 _ _ ?_;refine qoo rfl rfl ?_;refine wp_exit ?_;have e:S.recsK l0=pre:=by rw[hrec];exact List.append_nil _
   exact zal Tryz.results111 ⟨rfl,.inl (by rw[e];exact hj)⟩
 | cons s r =>
   obtain⟨hlen,hsz⟩:=qj1 hsec;have hs64:s.size=64:=hsz s (by simp);refine qaz (v:=.bool true) rfl rfl (congrArg Value.bool (decide_eq_true (by show (0:Int)<((r.length+1:Nat):Int);omega))) ?_;refine qgg (v:=.slice a (s::r).length cap) ty22 rfl rfl rfl rfl hbox rfl ?_;refine zf5 (j:=0) ty22 ty9 rfl rfl rfl rfl rfl hs1 (by simp) fun ad cs u hget henc hca=>?_;have hus:u=s:=by simpa using hget.symm
   subst hus;have henc:cs=[.string u]:=henc;subst henc;refine z4z (v:=.string u) ty9 rfl rfl rfl rfl hca rfl ?_;refine zhl (j:=0) ty9.und rfl rfl rfl rfl (by omega) ?_;refine zex rfl rfl rfl rfl ?_;refine zdk (v:=.bool (decide (((qfz u 0).toNat:Int)≠0))) rfl rfl rfl rfl ?_;refine wpList_nil ?_;refine hK2 _ _ ?_;have hb0:=z30 (s:=u) (by omega);refine c_if rfl rfl (fun hne=>?_) (fun hne=>?_)
   · refine wp_skip ?_;refine hK1 _ _ ?_;have hne:¬(qac u).getD 0 0=0:=by rw[<- hb0];exact hne
     have hrk:=q3a u r;rw[if_neg hne] at hrk;have hsec1:S.secs1 (u::r)=true:=by unfold S.secs1;rw[hsec];rfl
     generalize hL:u::r=L at *;refine wp_block ?_;refine qao fun K3 hK3=>?_;refine qay ?_;refine qgg (v:=.slice a L.length cap) ty22 rfl rfl rfl rfl hbox rfl ?_;refine qhn (l:=[.tmp 14]) (args:=[.slice a L.length cap]) zcq rfl rfl rfl (zpp hs1 hsec1) ?_;rintro _ w2 ⟨u2,⟨a1,n1,c1,rfl⟩,hvr⟩;refine zvg (zs:=[.slice none 0 0,.int .i64 0,.bool false]) qi0 rfl rfl fun β w3 hβ u3 hz3 hx3=>?_;refine q88 (v:=.agg #[.slice a1 n1 c1,.int .i64 (S.readK L).2.1,.bool (S.readK L).2.2]) (cs':=[.slice a1 n1 c1,.int .i64 (S.readK L).2.1,.bool (S.readK L).2.2]) qi0 rfl rfl rfl rfl hx3 rfl rfl rfl fun w4 u4 hz4 hx4=>?_;refine wpList_nil ?_;refine hK3 _ _ ?_;have hβ1:w1.heap.size<=β:=by rw[<- hβ];exact u2.size
     have u24:Upd [] w2 w4:=Upd.old_upd u3 u4 (by omega);have u14:Upd [] w1 w4:=u2.trans u24;have hbox4:=hbox.mono0 u14;have hbltw1:b<w1.heap.size:=hbox.lt;have hneb:b≠β:=by omega
     -- what is handed over
     have hgive:∀E:Env,E.w=w4->(∀x∈E.m,x<w1.heap.size/\(x<W0.heap.size->x∈m0))->VR E (asIV cKeepRecord (S.readK L)) (.agg #[.slice a1 n1 c1,.int .i64 (S.readK L).2.1,.bool (S.readK L).2.2]):=fun E hE hm=>by
       have h1:=hvr (E.at_ w2) rfl (fun x hx=>⟨(hm x hx).1,fun ad had=>?_⟩)
       · refine VR.mono (E:=E.at_ w2) (E':=E) ⟨fun _ h=>⟨h,rfl,rfl,rfl,rfl⟩,⟨fun x hx hxm=>⟨hxm,?_⟩⟩⟩ h1;show E.w.heap[x]?=w2.heap[x]?;rw[hE];exact u24.same x hx (by simp)
       · subst had;obtain⟨_,h|⟨bl,off,cells,t,fz,ha,hbl,hh,_⟩⟩:=hs0
         · rw[<- hL] at h;cases h
         · cases ha;intro e;have e:x=bl:=e;exact hbl (e▸(hm x hx).2 (by rw[e];exact qaw hh))
     have hsp:S.recsK l0=pre++S.readK L::cond (S.readK L).2.2 [] (S.recsK (L.drop (S.readK L).2.1.toNat)):=by rw[hrec,hrk]
     refine qao fun K4 hK4=>?_;refine qao fun K5 hK5=>?_;refine(wpIn_wide (n:=0)).1 (wpIn_region_lit (zve 2 rfl ?lo rfl ?_))
     case lo=>rintro⟨_,_,h⟩;exact(show False from h)
     dsimp only [List.take_succ_cons,List.take_zero,List.drop_succ_cons,List.drop_zero];refine qaz (v:=.func (.yield l) #[] #[]) rfl rfl rfl ?_;refine qu3 (ds:=[.slice a1 n1 c1,.int .i64 (S.readK L).2.1,.bool (S.readK L).2.2]) qi0 rfl rfl rfl rfl hx4 rfl rfl ?_;refine wpList_nil ?_;refine zi7 ?_;refine znk rfl rfl rfl rfl rfl (hy pre (S.readK L) _ w1 w4 _ hsp hj (u14.mono (by simp)) hgive) ?_;rintro e w5 ⟨hfr,⟨rfl,hj5⟩|⟨rfl,hk5⟩⟩
     · have hx5:Box w5 β [.slice a1 n1 c1,.int .i64 (S.readK L).2.1,.bool (S.readK L).2.2]:=by
         obtain⟨t6,ht6⟩:=hx4;exact⟨t6,(hfr β (.inr hβ1) (qaw ht6)).trans ht6⟩
       have hbox5:Box w5 b (.slice a L.length cap::r0):=by
         obtain⟨t6,ht6⟩:=hbox4;exact⟨t6,(hfr b (.inl rfl) (qaw ht6)).trans ht6⟩
       refine⟨_,rfl,zcm rfl ?lo rfl ?_⟩
       case lo=>rintro⟨_,_,h⟩;exact(show False from h)
       refine q4u rfl rfl rfl ?_;refine qaz (v:=.bool false) rfl rfl rfl ?_;refine q2f zzm rfl rfl rfl ?_;refine qgg (v:=.bool (S.readK L).2.2) ty4 rfl rfl rfl rfl hx5 rfl ?_;refine q1a (v:=.bool (S.readK L).2.2) rfl rfl rfl rfl ?_;refine wpList_nil ?_;refine hK5 _ _ ?_;refine qro rfl rfl (fun ht=>?_) (fun ht=>?_)
       · rw[ht,cond_true] at hsp;rw[<- hsp] at hj5;refine wp_ret ?_;exact ret0 Tryz.results111 ⟨rfl,.inl hj5⟩
       · rw[ht,cond_false] at hsp;obtain⟨k1,k2,k3⟩:=qz0 L ht;refine wp_skip ?_;refine hK4 _ _ ?_;obtain⟨ad,had⟩:∃ad,a=some ad:=by
           obtain⟨_,h|⟨bl,off,cells,t,fz,ha,_⟩⟩:=hs0
           · rw[<- hL] at h;cases h
           · exact⟨_,ha⟩
         subst had;have hcap:L.length<=cap:=hs0.1.1;refine qay ?_;refine qgg (v:=.slice (some ad) L.length cap) ty22 rfl rfl rfl rfl hbox5 rfl ?_;refine q2f zir rfl rfl rfl ?_;refine qgg (v:=.int .i64 ((S.readK L).2.1.toNat:Int)) ty3 rfl rfl rfl rfl hx5 (by rw[<- k3];rfl) ?_;refine zqh ty22 ty9 rfl rfl rfl rfl k2 hcap ?_;refine q88 (v:=.slice (some (cutA ad cap (S.readK L).2.1.toNat 1)) (L.length-(S.readK L).2.1.toNat) (cap-(S.readK L).2.1.toNat)) (cs':=.slice (some (cutA ad cap (S.readK L).2.1.toNat 1)) (L.drop (S.readK L).2.1.toNat).length (cap-(S.readK L).2.1.toNat)::r0) ty22 rfl rfl rfl rfl hbox5 rfl (by
           simp only[List.length_cons,List.length_nil,Bool.and_eq_true];exact⟨⟨rfl,Nat.ble_eq_true_of_le (by show 0+1<=r0.length+1;omega)⟩,rfl⟩) (by rw[List.length_drop];rfl) fun w6 u6 hz6 hx6=>?_
         refine wpList_nil ?_;exact⟨((pre++[S.readK L],L.drop (S.readK L).2.1.toNat),(some (cutA ad cap (S.readK L).2.1.toNat 1),cap-(S.readK L).2.1.toNat)),by show (L.drop _).length<L.length;rw[List.length_drop];omega,⟨hJ _ _ _ hj5 u6,hs0.cut k2,hx6,zbj hsec _,by rw[hsp,List.append_assoc];rfl⟩,_,rfl,(by repeat first|exact qbd.refl _ _|refine qbd.upd rfl ?_|refine qbd.upds rfl ?_|refine qbd.mix rfl ?_),trivial⟩
     · refine⟨_,rfl,zcm rfl ?lo rfl ?_⟩
       case lo=>rintro⟨_,_,h⟩;exact(show False from h)
       refine q4u rfl rfl rfl ?_;refine qaz (v:=.bool true) rfl rfl rfl ?_;refine qgs rfl ?_;refine qgs rfl ?_;refine zdk (v:=.bool true) rfl rfl rfl rfl ?_;refine wpList_nil ?_;refine hK5 _ _ ?_;refine q7k rfl rfl ?_;refine wp_ret ?_;exact ret0 Tryz.results111 ⟨rfl,.inr hk5⟩
   · refine wp_exit ?_;have hz:(qac u).getD 0 0=0:=by rw[<- hb0];exact Decidable.not_not.1 hne
     have e:S.recsK l0=pre:=by rw[hrec,q3a,if_pos hz];exact List.append_nil _
     exact zal Tryz.results111 ⟨rfl,.inl (by rw[e];exact hj)⟩
end
end Go.Proofs.YtnhmanoiolfapaaGreat
namespace Go.Proofs.YtnhmanoiolfapaaGreat
open Go Go.Sx Go.RowKit Go.Jx
theorem zo5:ConW Tryz.prog 111 q6s:=by
 refine⟨z1k,rfl,fun E x us i l hl hgl hrd hbm hlo=>?_⟩;obtain⟨⟨L0,_⟩,_⟩:=x;obtain⟨L,hL⟩:∃L:List ByteArray,L=L0:=⟨L0,rfl⟩;subst hL;obtain⟨hsec,rfl⟩:=qa8 (show cond (S.secs L) (some (S.recsK L)) none=some l from hl);obtain⟨hlen,hsz⟩:=qj1 hsec;obtain⟨h1,h2⟩:=hrd;obtain⟨i',i1,i2,i3,i4⟩:=h2 0 _ rfl;have e0:i=i':=by simpa using i1
 subst e0;have i4:OR E i (.row [.lst .str L]):=i4;obtain⟨cells,t,k1,k2,k3,k4⟩:=i4;have ha:=h1 (fun _=>i) 0 (fun j id hj=>by
  cases j with
  | zero=>simpa using hj
  | succ j=>simp at hj)
 obtain⟨u,us',rfl,a1,a2⟩:=VRs.inv (v:=.ptr i 0) (cs:=[]) ha;obtain rfl:us'=[]:=List.length_eq_zero_iff.1 a2.1.symm;have hu:u=.pointer (some ⟨E.ρ i,0,none⟩):=by cases a1;rfl
 subst hu;obtain⟨h0,r0,hc0⟩:∃h0 r0,cells.toList=h0::r0:=by
  cases hc:cells.toList with
  | nil=>have:=congrArg List.length hc;simp at this;simp [this] at k3
  | cons h r=>exact⟨h,r,rfl⟩
 have hv:VR E (.lst .str L) h0:=by
  have:=k4.2 0 (by simp) (by simp[hc0]);simpa [hc0] using this
 have hS:∃a cap,h0=.slice a L.length cap/\SL (α:=ByteArray) E.m E.w a cap L:=by
  cases hv with
  | @lst0 _ a cap hc=>exact⟨a,cap,rfl,⟨Nat.zero_le _,hc⟩,.inl rfl⟩
  | @lst _ _ bl off cap cells t fz us q1 q2 q3 hb hh hc hu =>
   refine⟨_,cap,rfl,⟨q1,q2⟩,.inr ⟨bl,off,cells,t,fz,rfl,hb,hh,fun j hj=>?_⟩⟩;refine⟨[.string L[j]],rfl,fun k hk=>?_⟩;have hk:k<1:=hk;have hk0:k=0:=by omega
   subst hk0;have q5:=hc j hj 0 (by show 0<1;omega);have q6:VR E (.str L[j]) (us j 0):=hu j hj 0 Nat.zero_lt_one;rw[zm4 q6] at q5;exact q5
 obtain⟨a,cap,rfl,hS⟩:=hS;have hbox:Box E.w (E.ρ i) (.slice a L.length cap::r0):=⟨t,by rw[k1,<- hc0]⟩;have hit:=zqb hbm hlo hS hsec hbox;exact fun lb J K q1 q2 q3 q4 q5=>hit lb J K q1 q2 (fun s A h=>(q3 s A h).tr) q4 q5
end Go.Proofs.YtnhmanoiolfapaaGreat
end

noncomputable section
set_option maxRecDepth 100000
namespace Go.Proofs.YtnhmanoiolfapaaGreat
open Go Go.Sx Go.RowKit Go.Jx
def qnn:Nat->Option Nm:=fun k=>none
def qqs:Nat->Bool:=fun k=>false
def qwn:=qqs
abbrev qhy:Type:=qae × Bool × Unit
def q4d:List (Nat × Sm):=[(93,qnx),(54,zdt),(77,qmo)]
def qul:List (Nat × Hx):=[(113,qpa qad),(97,hxR qql),(98,hxR qc1),(111,itWx Tryz.prog ttT.get 0 q6s ⟨[6,7,8,9],[.ref (.box [.map (.int .i64) .str]),.ref (.box [.dat (.int .i64)]),.ref (.box [.dat .bool]),.ref (.box [.dat .bool])],zxh⟩ 0)]
def zd4(R:Type)(lf:Nat):ClK R:=qan Tryz.prog ttT.get ftT.get (nm1 61 qnn) (smL q4d) (hxL qul) lf 20 R
def q3l(lf:Nat)(x1:qab):Option qhy:=(match (jget x1.1 (Int.ofNat 0)) with|.none  => none|.some v0=>(match (jget (qac v0) (Int.ofNat 0)) with|.none  => none|.some v1=>(cond (iltI (Int.ofNat 1) v1) (some ((([],[]),((Int.ofNat 0),((Int.ofNat 0),[]))),(Bool.false,()))) (cond (lchk (Int.ofNat 1) (Int.ofNat (ByteArray.size v0)) (Int.ofNat (ByteArray.size v0)) (Int.ofNat (ByteArray.size v0))) (cond (Bool.not (keqS (ByteArray.extract v0 1 (Int.toNat (Int.ofNat (ByteArray.size v0)))) (S.lit [0,0,0,0,0,0,0,0,0,0,0,0,0,0,0,0,0,0,0,0,0,0,0,0,0,0,0,0,0,0,0,0,0,0,0,0,0,0,0,0,0,0,0,0,0,0,0,0,0,0,0,0,0,0,0,0,0,0,0,0,0,0,0]))) (some ((([],[]),((Int.ofNat 0),((Int.ofNat 0),[]))),(Bool.false,()))) (match (jget (qac v0) (Int.ofNat 0)) with|.none  => none|.some v2=>(match (cond (S.inI (Int.ofNat (List.length x1.1)) (Int.ofNat 0) (Int.ofNat 1000)) (some ((S.half (Int.toNat (Int.ofNat (List.length x1.1))) (IntKind.i64.wrap v2)),())) none) with|.none  => none|.some v3=>(cond (lchk v3.1.1 v3.1.2 v3.1.2 (Int.ofNat (List.length x1.1))) (match (cond (S.secs (lsub x1.1 v3.1.1 v3.1.2)) (some (S.recsK (lsub x1.1 v3.1.1 v3.1.2))) (none:Option (List (El Go.Proofs.YtnhmanoiolfapaaGreat.cKeepRecord)))) with|.none  => none|.some v4=>(match (qdf (fun v5 v6=>(cond v6.2.2 (some (((v5.1.1,()),((v5.2.1.1,()),((v5.2.2.1.1,()),((Bool.true,()),())))),Bool.true)) (cond v5.2.2.1.1 (match (idxO (fun v7=>(some v7.2.2)) v6.1 0) with|.none  => none|.some v8=>(cond (Bool.not (iltI v8 (Int.ofNat 0))) (some (((v5.1.1,()),((v5.2.1.1,()),((v5.2.2.1.1,()),((Bool.true,()),())))),Bool.true)) (some ((((S.applied v5.1.1 v6.1),()),(((IntKind.i64.wrap (Int.add v5.2.1.1 v6.2.1)),()),((Bool.false,()),((v5.2.2.2.1.1,()),())))),Bool.false)))) (some ((((S.applied v5.1.1 v6.1),()),(((IntKind.i64.wrap (Int.add v5.2.1.1 v6.2.1)),()),((Bool.false,()),((v5.2.2.2.1.1,()),())))),Bool.false))))) v4 (([],()),(((Int.ofNat 0),()),((Bool.true,()),((Bool.false,()),()))))) with|.none  => none|.some v9=>(cond v9.2 (cond v9.1.2.2.2.1.1 (some ((([],[]),((Int.ofNat 0),((Int.ofNat 0),[]))),(Bool.false,()))) (cond v9.1.2.2.1.1 (some ((([],[]),((Int.ofNat 0),((Int.ofNat 0),[]))),(Bool.false,()))) (match (jget (qac v0) (Int.ofNat 0)) with|.none  => none|.some v10=>(match (cond (S.mapG v9.1.1.1) (some (((S.listed v9.1.1.1),()),((some v9.1.1.1),()))) none) with|.none  => none|.some v11=>(some (((x1.1,[]),((IntKind.i64.wrap v10),(v9.1.2.1.1,v11.1.1))),(Bool.true,()))))))) (cond v9.1.2.2.2.1.1 (some ((([],[]),((Int.ofNat 0),((Int.ofNat 0),[]))),(Bool.false,()))) (cond v9.1.2.2.1.1 (some ((([],[]),((Int.ofNat 0),((Int.ofNat 0),[]))),(Bool.false,()))) (match (jget (qac v0) (Int.ofNat 0)) with|.none  => none|.some v12=>(match (cond (S.mapG v9.1.1.1) (some (((S.listed v9.1.1.1),()),((some v9.1.1.1),()))) none) with|.none  => none|.some v13=>(some (((x1.1,[]),((IntKind.i64.wrap v12),(v9.1.2.1.1,v13.1.1))),(Bool.true,())))))))))) none)))) none))))
abbrev gz56:Type:=ElA [cDisk]->Option qhy
abbrev sz56(g:gz56):Sm:=⟨[cDisk],[(false,qag),(false,.bool)],g⟩
abbrev Ez56(g:gz56)(J:JT qhy)(lf:Nat)(x1:qab):=qat Tryz.prog ttT.get qnn fi61.nt (zd4 _ lf) lf qqs J fi61.body [] (qal (argV [cDisk] (x1,())) 0 .leaf) S0 [] (qak ttT.get fi61 (sz56 g))
theorem zx7(g:gz56)(J:JT qhy)(lf:Nat)(x1:qab):Ez56 g J lf x1=q3l lf x1:=by kernel_rfl
theorem z1h:(regs fi61.body).Nodup:=by decide +kernel
theorem zgj:okC qnn qqs qwn fi61.body none=true:=by kernel_rfl
def Az56(g:gz56)(lf:Nat):JT qhy:=atN Tryz.prog ttT.get qnn fi61 (sz56 g) (zd4 _ lf) lf qwn
def Fz56(lf:Nat)(x1:qab):Option qhy:=q3l lf x1
theorem zsf(g:gz56)(lf:Nat)(x1:qab):Ez56 g (Az56 g lf) lf x1=Fz56 lf x1:=by
  refine(zx7 g (Az56 g lf) lf x1).trans ?_;rfl
theorem znr(hrz57:ConR Tryz.prog 97 qql)(hr_k_cells_list:ConR Tryz.prog 98 qc1):qaq Tryz.prog qul:=⟨zt5,⟨qft hrz57,⟨qft hr_k_cells_list,⟨zq2 mixed ttOK 0 _ 0 zo5,trivial⟩⟩⟩⟩
theorem zj1{g:gz56}(hsm:SmOK Tryz.prog q4d)(hrz57:ConR Tryz.prog 97 qql)(hr_k_cells_list:ConR Tryz.prog 98 qc1)(hg:∀(x:ElA [cDisk]) (y:qhy),WfA [cDisk] x->g x=some y->∃lf,Fz56 lf x.1=some y):Con Tryz.prog 61 ⟨[cDisk],[(false,qag),(false,.bool)],g⟩ :=
 conT (nmf:=qnn) (sml:=q4d) (hxl:=qul) (st:=qqs) (hd:=qwn) 20 mixed ttOK ftOK hsm (znr hrz57 hr_k_cells_list) z07 rfl rfl (by kernel_rfl) (fun x=>by kernel_rfl) z1h zgj fun x y hx hy=>by
  obtain⟨lf,h⟩:=hg x y hx hy;exact⟨lf,(zsf g lf x.1).trans h⟩
def qlq:Nat->Option Nm:=fun k=>cond (Nat.beq k 1) (some ⟨[0,6,7,8],[],[],[(0,(.int .i64),.str)],[],0,0,false⟩) (cond (Nat.beq k 999999) (some ⟨[],[],[],[],[],0,0,false⟩) none)
def qnd:Nat->Bool:=fun k=>cond (Nat.beq k 1) true (false)
def qxn:=qnd
abbrev qcq:Type:=(Unit) × (Option (List (Int × ByteArray))) × Unit
def q15:List (Nat × Sm):=[]
def qx6:List (Nat × Hx):=[]
def q11(R:Type)(lf:Nat):ClK R:=qan Tryz.prog ttT.get ftT.get (fun _ _=>none) (smL q15) (hxL qx6) lf 20 R
abbrev zwj:Nat:=97
def qkm(x1:(List (Int × ByteArray)))(x2:(List qaa))(p:Int × (List (Int × ByteArray))):NRes:=(NRes.mk (.node (some (IV.map 0)) (.node none (.node none (.node (some (IV.int .i64 (Int.ofNat (List.length x2)))) .leaf .leaf) .leaf) .leaf) (.node none (.node none (.node (some (IV.int .i64 p.1)) .leaf .leaf) .leaf) (.node (some (IV.lst qad x2)) .leaf .leaf))) (IS.mk (.node (some (IObj.tmap (TC.int .i64) TC.str p.2)) .leaf .leaf) 1) [] 0)
def q1w(lf:Nat)(x1:(List (Int × ByteArray)))(x2:(List qaa))(L1:(Int × (List (Int × ByteArray)))->Option qcq):Option qcq:=(L1 ((Int.ofNat 0),x1))
def qpw(lf:Nat)(x1:(List (Int × ByteArray)))(x2:(List qaa))(L1:(Int × (List (Int × ByteArray)))->Option qcq)(p:Int × (List (Int × ByteArray))):Option qcq:=(cond (iltI p.1 (Int.ofNat (List.length x2))) (match (jget x2 p.1) with|.none  => none|.some v0=>(cond v0.2.2 (L1 ((IntKind.i64.wrap (Int.add p.1 (Int.ofNat 1))),(@mdel (TC.int .i64) TC.str v0.1 p.2))) (L1 ((IntKind.i64.wrap (Int.add p.1 (Int.ofNat 1))),(@mset (TC.int .i64) TC.str v0.1 v0.2.1 p.2))))) (some ((),((some p.2),()))))
abbrev gz57:Type:=ElP [.ref (.mp (.int .i64) .str),.dat (.list qad)]->Option qcq
abbrev sz57(g:gz57):SmR:=⟨[.ref (.mp (.int .i64) .str),.dat (.list qad)],[],g⟩
abbrev Ez57(g:gz57)(J:JT qcq)(lf:Nat)(x1:(List (Int × ByteArray)))(x2:(List qaa)):=qb3 Tryz.prog ttT.get qlq (mP [.ref (.mp (.int .i64) .str),.dat (.list qad)]) fi97.nt (q11 _ lf) lf qnd J fi97.body [] (qal (qau [.ref (.mp (.int .i64) .str),.dat (.list qad)] idN 0 (some x1,x2,())) 0 .leaf) (Sc [.ref (.mp (.int .i64) .str),.dat (.list qad)] (some x1,x2,())) [] (qd2 ttT.get fi97 (sz57 g))
abbrev Bz57(g:gz57)(J:JT qcq)(lf k:Nat)(ms:List Nat)(q:NRes):=qcc Tryz.prog ttT.get qlq (mP [.ref (.mp (.int .i64) .str),.dat (.list qad)]) fi97.nt (q11 _ lf) lf qnd J k fi97.body [] ms q (qd2 ttT.get fi97 (sz57 g))
theorem z4j(g:gz57)(J:JT qcq)(lf:Nat)(x1:(List (Int × ByteArray)))(x2:(List qaa)):Ez57 g J lf x1 x2=q1w lf x1 x2 (fun q=>J 1 [lf] (qkm x1 x2 q)):=by kernel_rfl
theorem z31(g:gz57)(J:JT qcq)(lf:Nat)(x1:(List (Int × ByteArray)))(x2:(List qaa))(m1:Nat)(p:Int × (List (Int × ByteArray))):Bz57 g J lf 1 [m1] (qkm x1 x2 p)=qpw lf x1 x2 (fun q=>J 1 [m1] (qkm x1 x2 q)) p:=by kernel_rfl
theorem zc6:(regs fi97.body).Nodup:=by decide +kernel
theorem zb2:okC qlq qnd qxn fi97.body none=true:=by kernel_rfl
def Az57(g:gz57)(lf:Nat):JT qcq:=atQ Tryz.prog ttT.get qlq fi97 (sz57 g) (q11 _ lf) lf qxn
def qo1(lf:Nat)(x1:(List (Int × ByteArray)))(x2:(List qaa)):Nat->(Int × (List (Int × ByteArray)))->Option qcq:=qa2 fun K p=>qpw lf x1 x2 K p
theorem zei(g:gz57)(lf:Nat)(x1:(List (Int × ByteArray)))(x2:(List qaa)):∀(n:Nat) (p:Int × (List (Int × ByteArray))),Az57 g lf 1 [n] (qkm x1 x2 p)=qo1 lf x1 x2 n p
 | 0,p=>q63 1 [0] rfl _
 | n+1,p=>by
  have ih:=zei g lf x1 x2 n;refine(zea rfl (qa6 20 _) zc6 zb2 1 [n+1] [n] rfl _).trans ((z31 g (Az57 g lf) lf x1 x2 n p).trans ?_);rw[(show (fun q=>Az57 g lf 1 [n] (qkm x1 x2 q))=(fun q=>qo1 lf x1 x2 n q) from funext ih)];rfl
def Fz57(lf:Nat)(x1:(List (Int × ByteArray)))(x2:(List qaa)):Option qcq:=q1w lf x1 x2 (fun q=>qo1 lf x1 x2 lf q)
theorem zlr(g:gz57)(lf:Nat)(x1:(List (Int × ByteArray)))(x2:(List qaa)):Ez57 g (Az57 g lf) lf x1 x2=Fz57 lf x1 x2:=by
  refine(z4j g (Az57 g lf) lf x1 x2).trans ?_;rw[(show (fun q=>Az57 g lf 1 [lf] (qkm x1 x2 q))=(fun q=>qo1 lf x1 x2 lf q) from funext fun q=>zei g lf x1 x2 lf q)];rfl
theorem z1q:qaq Tryz.prog qx6:=trivial
theorem zp8{g:gz57}(hsm:SmOK Tryz.prog q15)(h0:∀(x:ElP [.ref (.mp (.int .i64) .str),.dat (.list qad)]) (y:qcq),g x=some y->∃(x1:(List (Int × ByteArray))) (x2:(List qaa)),x=(some x1,x2,()))(hg:∀(x1:(List (Int × ByteArray))) (x2:(List qaa)) (y:qcq),WfP [.ref (.mp (.int .i64) .str),.dat (.list qad)] (some x1,x2,())->g (some x1,x2,())=some y->∃lf,Fz57 lf x1 x2=some y):ConR Tryz.prog 97 ⟨[.ref (.mp (.int .i64) .str),.dat (.list qad)],[],g⟩ :=
 conTR (nmf:=qlq) (sml:=q15) (hxl:=qx6) (st:=qnd) (hd:=qxn) 20 mixed ttOK ftOK hsm z1q zxd (by kernel_rfl) (fun x=>by kernel_rfl) zc6 zb2 fun x y z hx hy=>by
  obtain⟨x1,x2,rfl⟩:=h0 x (y,z) hy;obtain⟨lf,h⟩:=hg x1 x2 (y,z) hx hy;exact⟨lf,(zlr g lf x1 x2).trans h⟩
theorem z1y(m:List (Int × ByteArray))(l:List qaa)(hl:l.length<LF):Fz57 LF m l=some ((),(some (S.applied m l),())):=by
 simp only[Fz57,q1w];refine range0 (σ:=List (Int × ByteArray)) (R:=qcq) l (fun i m=>(i,m)) (fun _ _=>True) (fun rest _ m=>some ((),(some (S.applied m rest),()))) hl (fun K m _=>?_) (fun K i v rest m _ r hk=>?_) m trivial
 ·simp only[qpw,qce,cond_false];rfl
 ·simp only[qpw,r.ilt,r.get,r.next,cond_true];show _=some ((),(some (S.applied (cond v.2.2 (mdel (vc:=.str) (.int .i64) v.1 m) (mset (vc:=.str) (.int .i64) v.1 v.2.1 m)) rest),()));cases v.2.2 with
  | true=>exact hk _ trivial
  | false=>exact hk _ trivial
theorem zwv:ConR Tryz.prog zwj qql:=zp8 trivial (fun x y h=>by
 obtain⟨m,l,_⟩:=x;cases m with
 | none=>cases h
 | some m=>exact⟨m,l,rfl⟩) fun m l y hx h=>⟨LF,(z1y m l (qct (c:=qad) hx.2.1)).trans h⟩
theorem zrb(l:List ByteArray):match S.readR l with
  | some x=>S.readK l=(x.1,(x.2:Int),false)
  | none=>(S.readK l).2.2=true:=by
 unfold S.readR S.readK;by_cases hc:¬(qac (l.getD 0 S.none_)).getD 0 0=1\/l.length<S.recM (qac (l.getD 0 S.none_))
 ·rw[if_pos hc,if_pos hc]
 ·rw[if_neg hc,if_neg hc];cases S.changes (S.recN (qac (l.getD 0 S.none_))+1) ((((l.take (S.recM (qac (l.getD 0 S.none_)))).flatMap qac).drop 4).take (S.recN (qac (l.getD 0 S.none_)))) (-1) with
  | none=>rfl
  | some c =>
   simp only;cases hz:(((l.take (S.recM (qac (l.getD 0 S.none_)))).flatMap qac).drop (4+S.recN (qac (l.getD 0 S.none_)))).all fun b=>decide (b=0) with
   | true=>rfl
   | false=>rfl
abbrev StO:Type:=(List KV × Unit) × (Int × Unit) × (Bool × Unit) × (Bool × Unit) × Unit
def stO(m:List KV)(u:Int)(first torn:Bool):StO:=((m,()),((u,()),((first,()),((torn,()),()))))
def qgi(v5:StO)(v6:qff):Option (StO × Bool):=(cond v6.2.2 (some (((v5.1.1,()),((v5.2.1.1,()),((v5.2.2.1.1,()),((Bool.true,()),())))),Bool.true)) (cond v5.2.2.1.1 (match (idxO (fun v7:qaa=>(some v7.2.2)) v6.1 0) with|.none=>none|.some v8=>(cond (Bool.not (iltI v8 (Int.ofNat 0))) (some (((v5.1.1,()),((v5.2.1.1,()),((v5.2.2.1.1,()),((Bool.true,()),())))),Bool.true)) (some ((((S.applied v5.1.1 v6.1),()),(((IntKind.i64.wrap (Int.add v5.2.1.1 v6.2.1)),()),((Bool.false,()),((v5.2.2.2.1.1,()),())))),Bool.false)))) (some ((((S.applied v5.1.1 v6.1),()),(((IntKind.i64.wrap (Int.add v5.2.1.1 v6.2.1)),()),((Bool.false,()),((v5.2.2.2.1.1,()),())))),Bool.false))))
theorem zq6(m:List KV)(u:Int)(first torn:Bool){r:qff}(h:r.2.2=true):qgi (stO m u first torn) r=some (stO m u first true,true):=by
 unfold qgi;rw[h];rfl
theorem zic(m:List KV)(u v:Nat)(first torn:Bool)(c:List qaa)(h:u+v<=100000):qgi (stO m u first torn) (c,(v:Int),false)=if first=true/\(c.any (·.2.2))=true then some (stO m u first true,true) else some (stO (S.applied m c) ((u+v:Nat):Int) false torn,false):=by
 unfold qgi stO;simp only[cond_false];have e1:IntKind.i64.wrap (Int.add (u:Int) (v:Int))=((u+v:Nat):Int):=qa3 (n:=u+v) (by omega);have e2:idxO (fun v7:qaa=>(some v7.2.2)) c 0=some (Go.Jx.S.idx (·.2.2) c):=qox (fun v:qaa=>v.2.2) fun x _=>rfl;cases first with
 | false =>
  rw[cond_false,if_neg (by simp),e1]
 | true =>
  rw[cond_true,e2];simp only;rw[qp3];cases c.any (·.2.2) with
  | true=>rw[cond_true,if_pos (by simp)]
  | false=>rw[cond_false,if_neg (by simp),e1]
theorem qw0{D α:Type}{g:D->α->Option (D × Bool)}{x:α}{xs:List α}{d d':D}{b:Bool}(h:g d x=some (d',b)):qdf g (x::xs) d=cond b (some (d',true)) (qdf g xs d'):=by
 simp only[qdf,h]
theorem znf:∀(k:Nat) (l:List ByteArray) (f:Nat) (m:List KV) (u:Nat),l.length=k->l.length<f->szS l->S.mapG m=true->u+l.length<=1000 ->
  match S.recs f l (S.listed m) u with
  | none=>∃m' u' first,qdf qgi (S.recsK l) (stO m u (decide (u=0)) false)=some (stO m' u' first true,true)
  | some (c',u')=>∃m',qdf qgi (S.recsK l) (stO m u (decide (u=0)) false)=some (stO m' u' (decide (u'=0)) false,false)/\S.mapG m'=true/\c'=S.listed m':=by
 intro k;induction k using Nat.strongRecOn with
 | ind k ih =>
  intro l f m u hk hf hs hG hu;cases f with
  | zero=>omega
  | succ f =>
   cases l with
   | nil=>exact⟨m,rfl,hG,rfl⟩
   | cons s r =>
    rw[qey,q3a];by_cases h0:(qac s).getD 0 0=0
    ·rw[if_pos h0,if_pos h0];exact⟨m,rfl,hG,rfl⟩
    ·rw[if_neg h0,if_neg h0];have hRK:=zrb (s::r);cases hx:S.readR (s::r) with
     | none =>
      rw[hx] at hRK;refine⟨m,u,decide (u=0),?_⟩;exact qw0 (zq6 m u (decide (u=0)) false hRK)
     | some x =>
      rw[hx] at hRK;obtain⟨i1,i2,i3,_,_,_⟩:=qr1 hs hx;have hRK:S.readK (s::r)=(x.1,(x.2:Int),false):=hRK;rw[hRK];simp only[cond_false,Int.toNat_natCast];have hst:=zic m u x.2 (decide (u=0)) false x.1 (by omega);cases hq:(decide (u=0)&&x.1.any (·.2.2)) with
      | true =>
       rw[cond_true];have hq2:=(Bool.and_eq_true _ _).mp hq;rw[if_pos ⟨hq2.1,hq2.2⟩] at hst;exact⟨m,u,decide (u=0),qw0 hst⟩
      | false =>
       rw[if_neg (fun hh=>by rw[hh.1,hh.2] at hq;cases hq)] at hst;rw[cond_false];obtain⟨a1,a2⟩:=q9d (l:=x.1) hG i3;have hd:((s::r).drop x.2).length=(s::r).length-x.2:=List.length_drop;have:=ih (((s::r).drop x.2).length) (by rw[hd];omega) ((s::r).drop x.2) f (S.applied m x.1) (u+x.2) rfl (by rw[hd];omega) (hs.drop x.2) a1 (by rw[hd];omega);rw[a2] at this;have hu0:decide (u+x.2=0)=false:=decide_eq_false (by omega);rw[hu0] at this;rw[qw0 hst,cond_false];exact this
theorem zly(d:qab)(h:S.okL d=true):Fz56 LF d=some ((S.openedJ d).1,(S.openedJ d).2,()):=by
 unfold S.okL at h;simp only[Bool.and_eq_true,decide_eq_true_eq] at h;obtain⟨h1,h2,h3⟩:=h;have h2:=Nat.le_of_ble_eq_true h2;obtain⟨hle,hsz⟩:=qj1 h1;simp only[Fz56,q3l];have hs64:=hsz _ (qfk (i:=0) (show 0<d.1.length by omega));obtain⟨b0,b1,b2,b3,r,hb⟩:=qrv hs64;have hrb:rng (b0::b1::b2::b3::r):=hb▸qde _;have hb0:=hrb b0 (by simp);have hszl:(d.1.getD 0 S.none_).size=(b0::b1::b2::b3::r).length:=by rw[<- qcr,hb]
 have l1:lchk (Int.ofNat 1) (Int.ofNat (d.1.getD 0 S.none_).size) (Int.ofNat (d.1.getD 0 S.none_).size) (Int.ofNat (d.1.getD 0 S.none_).size)=true:=by rw[hs64];rfl
 have hext:ByteArray.extract (d.1.getD 0 S.none_) 1 (Int.toNat (Int.ofNat (d.1.getD 0 S.none_).size))=qaf (b1::b2::b3::r):=by
  show ByteArray.extract (d.1.getD 0 S.none_) 1 (d.1.getD 0 S.none_).size=_;rw[hszl,<- qe9 (d.1.getD 0 S.none_),hb];exact qjc hrb 1
 have hr1:rng (b1::b2::b3::r):=fun x hx=>hrb x (List.mem_cons_of_mem _ hx);simp only[qmp (d:=S.none_) (show 1<=d.1.length by omega),hb,qbr,List.getElem?_cons_zero,l1,hext,cond_true];simp only[qye,q9o,qbf hr1,qbf (qfi 63)];unfold S.openedJ S.opened;rw[hb];simp only[List.getD_cons_zero];by_cases q1:1<b0
 ·rw[qd8 (show Int.ofNat 1<b0 from q1),cond_true,if_pos (.inl q1)];rfl
 rw[qd4 (show ¬Int.ofNat 1<b0 from q1),cond_false];by_cases q2:(b1::b2::b3::r)=List.replicate 63 0
 ·rw[decide_eq_true q2,Bool.not_true,cond_false,if_neg (fun hh=>hh.elim q1 (fun hh=>hh q2))];rw[show S.inI (Int.ofNat d.1.length) (Int.ofNat 0) (Int.ofNat 1000)=true from by
   unfold S.inI;rw[decide_eq_true (show Int.ofNat 0<=Int.ofNat d.1.length from Int.natCast_nonneg _),decide_eq_true (show Int.ofNat d.1.length<=Int.ofNat 1000 by show ((d.1.length:Nat):Int)<=1000;omega)];rfl,cond_true,wrap_in (n:=b0) (by omega)]
  simp only;obtain⟨a,e1,e2,e3,_,_⟩:=qix h3 h2 (h:=b0) (by omega);unfold S.halfS;have ehalf:S.half (Int.toNat (Int.ofNat d.1.length)) b0=S.half d.1.length b0:=rfl;rw[ehalf,e1];simp only[Int.toNat_natCast];have hlc:lchk (a:Int) ((a+(d.1.length / 2-1):Nat):Int) ((a+(d.1.length / 2-1):Nat):Int) (Int.ofNat d.1.length)=true:=qbt.2 ⟨by omega,by omega,Int.le_refl _,by show ((a+(d.1.length / 2-1):Nat):Int)<=((d.1.length:Nat):Int);omega⟩;rw[hlc,cond_true];have hsub:lsub d.1 (a:Int) ((a+(d.1.length / 2-1):Nat):Int)=(d.1.take (a+(d.1.length / 2-1))).drop a:=by
   unfold lsub;rw[Int.toNat_natCast,Int.toNat_natCast]
  rw[hsub];have hsz2:szS ((d.1.take (a+(d.1.length / 2-1))).drop a):=fun s hs=>hsz s (List.mem_of_mem_take (List.mem_of_mem_drop hs));have hlen2:((d.1.take (a+(d.1.length / 2-1))).drop a).length<=d.1.length:=by rw[List.length_drop,List.length_take];omega
  have hsec2:S.secs ((d.1.take (a+(d.1.length / 2-1))).drop a)=true:=by
   refine zbj ?_ _;unfold S.secs S.anyShort;rw[Bool.and_eq_true];refine⟨Nat.ble_eq_true_of_le (by rw[List.length_take];omega),?_⟩;rw[Bool.not_eq_true',List.any_eq_false];intro s hs;have:=hsz s (List.mem_of_mem_take hs);unfold S.short;simp[this]
  rw[hsec2];generalize (d.1.take (a+(d.1.length / 2-1))).drop a=H at hsz2 hlen2 hsec2;have hfold:=znf H.length H (d.1.length+1) [] 0 rfl (by omega) hsz2 rfl (by omega);have hst:((([]:List KV),()),(((Int.ofNat 0:Int),()),((Bool.true,()),((Bool.false,()),()))))=stO [] (0:Nat) (decide ((0:Nat)=0)) false:=rfl
  show (match qdf qgi (S.recsK H) (stO [] (0:Nat) (decide ((0:Nat)=0)) false) with
   | none=>none
   | some v9=>_)=_
  have hl0:S.listed []=[]:=rfl;rw[hl0] at hfold;cases hrec:S.recs (d.1.length+1) H [] 0 with
  | none =>
   rw[hrec] at hfold;obtain⟨m',u',first,hfo⟩:=hfold;rw[hfo];rfl
  | some x =>
   obtain⟨c,u⟩:=x;rw[hrec] at hfold;obtain⟨m',hfo,hG,rfl⟩:=hfold;rw[hfo];simp only[stO];by_cases hu:u=0
   ·rw[if_pos hu,decide_eq_true hu];rfl
   ·rw[if_neg hu,decide_eq_false hu];simp only[cond_false];rw[hG];simp only[cond_true]
 ·rw[decide_eq_false q2,Bool.not_false,cond_true,if_pos (.inr q2)];rfl
theorem z4l:Con Tryz.prog 61 qhg:=zj1 ⟨qrh,ql3,qr8,trivial⟩ zwv zzl fun x y hx h=>⟨LF,by
 obtain⟨h1,h2⟩:=qa8 (show cond (S.okL x.1) (some ((S.openedJ x.1).1,(S.openedJ x.1).2,())) none=some y from h);exact(zly x.1 h1).trans (congrArg some h2)⟩
theorem cont_l_KeepOpens:Con Tryz.prog idz4 spz4:=zph z2n z4l
end Go.Proofs.YtnhmanoiolfapaaGreat
end

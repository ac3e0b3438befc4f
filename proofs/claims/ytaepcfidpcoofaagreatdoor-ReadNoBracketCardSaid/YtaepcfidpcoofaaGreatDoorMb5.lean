/- Texts: Dg4, Dp4, Dp5, Dt1, Dsp4, Dg5, Dp6, Dp7, Dp8, Jtr, Dca, Dg6, Dsp5, Dp9, Xsh, Dsp6, Dg7, Dq1, Dq2, Dsp7, Dg8, Dq3, Dsp8, Dg9, Dq4, Dgr, Dh2, Dh3, Xsp7, Xg10, Xt3, Xt4, Xt5, Xt6, Xp19, Xg11, Xg12, Xp20, Xg13, Xp21, Dg10, Dt2, Dt3, Dt4, Dt5. -/
import Derived.Test.YtaepcfidpcoofaaGreatDoorMb4
import Derived.Lib.ItoaNum
import Derived.Test.YtaepcfidpcoofaaGreatDoorMb3
import Derived.WalkKit
import Derived.Handy
import Derived.Defers
import Derived.Recover
import Derived.BigRegion
import Derived.Shelf.Strings.OnBuilder
import Derived.Shelf.Strconv.Itoa3
import Derived.Test.YtaepcfidpcoofaaGreatDoorProg
import Derived.Lib.ItoaLen
import Derived.Lib.AppendIntMem
set_option linter.unusedVariables false
set_option linter.unusedSectionVars false
set_option linter.unusedSimpArgs false
set_option linter.unnecessarySimpa false
open Array renaming replicate->fg
open Bool renaming false->eb,true->i7
open ByteArray renaming append->mn
open Decidable renaming decide->ow
open GetElem? renaming getElem?->av
open Go renaming Addr->f9,Calls->mi,Oper->o8,Operand->fh,Program->om,TypeId->ov,Value->oc,World->oh
open Go.Instr renaming typeAssert->ik
open Go.IntKind renaming bits->az,signed->m8,wrap->ag
open Go.Proofs.Tryz renaming prog->oa
open Go.World renaming cell?->fu,setCell->fp
open Int renaming add->oe,ofNat->we,sub->fq,toNat->f7
open List renaming append->oz,cons->ou,length->oq,map->fc,take->ao
open Nat renaming add->o5,beq->od,ble->og,blt->oo,mul->o7
open Option renaming none->i6,some->iz
open Sum renaming inr->fe
open UInt8 renaming ofNat->mm
noncomputable section
set_option maxRecDepth 100000
namespace Go.Proofs.YtaepcfidpcoofaaGreatDoor
open Go Go.Sx Go.RowKit Go.Jx
section
variable [Φ : Fuel]
def qbf:Nat->Oq Nm:=fun k=>cond (od k 3) (iz ⟨[1,5,6,7],[],[],[],[],0,0,eb⟩) (cond (od k 999999) (iz ⟨[],[],[],[],[],0,0,eb⟩) i6)
def qfz:Nat->Bool:=fun k=>cond (od k 3) i7 (eb)
def qty:Nat->Bool:=fun k=>eb
abbrev km:Type:=DSl ⊕ ((Bq × Unit) × DPr × Unit)
def qva:Lz (Nat × Sm):=[]
def qra:Lz (Nat × Hx):=[(139,hxR jk)]
def qj9(R:Type)(lf:Nat):ClK R:=zn oa ttT.get ftT.get (fun _ _=>i6) (smL qva) (hxL qra) lf 20 R
abbrev zug:Nat:=245
def qk2(x1:(Lz zb))(x2:Int)(x3:qlu)(x4:(Lz Bq))(x5:Int)(p:Int × (Lz zb) × Int × Bq × Int × Int × (Lz Bq) × Int × Int × Bool × Int):NRes:=(NRes.mk (.node i6 (.node (iz (IV.int .i64 x5)) (.node i6 (.node (iz (IV.bool p.2.2.2.2.2.2.2.2.2.1)) .leaf .leaf) .leaf) (.node (iz (IV.ptr 1 0)) .leaf .leaf)) (.node i6 .leaf (.node (iz (IV.int .i64 p.2.2.2.2.2.2.2.2.2.2)) .leaf .leaf))) (IS.mk (.node (iz (IObj.row (ou (IV.lst zd p.2.1) (ou (IV.int .i64 p.2.2.1) (ou (IV.int .i64 p.2.2.2.2.2.2.2.2.1) (ou (IV.int .i64 p.2.2.2.2.2.2.2.1) [(IV.lst TC.str p.2.2.2.2.2.2.1)])))))) (.node (iz (IObj.row (ou (IV.int .i64 p.1) (ou (IV.str p.2.2.2.1) (ou (IV.int .i64 p.2.2.2.2.2.1) [(IV.int .i64 p.2.2.2.2.1)]))))) .leaf .leaf) .leaf) 2) [] 0)
def q9v(lf:Nat)(x1:(Lz zb))(x2:Int)(x3:zf)(x4:(Lz Bq))(x5:Int)(L3:(Int × (Lz zb) × Int × Bq × Int × Int × (Lz Bq) × Int × Int × Bool × Int)->Oq km):Oq km:=(bd (S.dPeek (x1,(x2,(x3,(x4,())))) (we 0)) fun v0=>(cond (ow (Eq v0.1.1.2.1 (S.lit [105,109,112,108,105,101,115]))) (L3 (v0.1.1.1,v0.2.1.1,v0.2.1.2.1,v0.1.1.2.1,v0.1.1.2.2.2,v0.1.1.2.2.1,v0.2.1.2.2.2.1,v0.2.1.2.2.1.2,v0.2.1.2.2.1.1,i7,(we 0))) (cond (ow (Eq v0.1.1.2.1 (S.lit [111,114]))) (L3 (v0.1.1.1,v0.2.1.1,v0.2.1.2.1,v0.1.1.2.1,v0.1.1.2.2.2,v0.1.1.2.2.1,v0.2.1.2.2.2.1,v0.2.1.2.2.1.2,v0.2.1.2.2.1.1,i7,(we 1))) (cond (ow (Eq v0.1.1.2.1 (S.lit [97,110,100]))) (L3 (v0.1.1.1,v0.2.1.1,v0.2.1.2.1,v0.1.1.2.1,v0.1.1.2.2.2,v0.1.1.2.2.1,v0.2.1.2.2.2.1,v0.2.1.2.2.1.2,v0.2.1.2.2.1.1,i7,(we 2))) (cond (ow (Eq v0.1.1.2.1 (S.lit [61]))) (L3 (v0.1.1.1,v0.2.1.1,v0.2.1.2.1,v0.1.1.2.1,v0.1.1.2.2.2,v0.1.1.2.2.1,v0.2.1.2.2.2.1,v0.2.1.2.2.1.2,v0.2.1.2.2.1.1,i7,(we 3))) (cond (ow (Eq v0.1.1.2.1 (S.lit [47,61]))) (L3 (v0.1.1.1,v0.2.1.1,v0.2.1.2.1,v0.1.1.2.1,v0.1.1.2.2.2,v0.1.1.2.2.1,v0.2.1.2.2.2.1,v0.2.1.2.2.1.2,v0.2.1.2.2.1.1,i7,(we 3))) (cond (ow (Eq v0.1.1.2.1 (S.lit [60]))) (L3 (v0.1.1.1,v0.2.1.1,v0.2.1.2.1,v0.1.1.2.1,v0.1.1.2.2.2,v0.1.1.2.2.1,v0.2.1.2.2.2.1,v0.2.1.2.2.1.2,v0.2.1.2.2.1.1,i7,(we 3))) (cond (ow (Eq v0.1.1.2.1 (S.lit [60,61]))) (L3 (v0.1.1.1,v0.2.1.1,v0.2.1.2.1,v0.1.1.2.1,v0.1.1.2.2.2,v0.1.1.2.2.1,v0.2.1.2.2.2.1,v0.2.1.2.2.1.2,v0.2.1.2.2.1.1,i7,(we 3))) (cond (ow (Eq v0.1.1.2.1 (S.lit [62]))) (L3 (v0.1.1.1,v0.2.1.1,v0.2.1.2.1,v0.1.1.2.1,v0.1.1.2.2.2,v0.1.1.2.2.1,v0.2.1.2.2.2.1,v0.2.1.2.2.1.2,v0.2.1.2.2.1.1,i7,(we 3))) (cond (ow (Eq v0.1.1.2.1 (S.lit [62,61]))) (L3 (v0.1.1.1,v0.2.1.1,v0.2.1.2.1,v0.1.1.2.1,v0.1.1.2.2.2,v0.1.1.2.2.1,v0.2.1.2.2.2.1,v0.2.1.2.2.1.2,v0.2.1.2.2.1.1,i7,(we 3))) (cond (ow (Eq v0.1.1.2.1 (S.lit [43]))) (L3 (v0.1.1.1,v0.2.1.1,v0.2.1.2.1,v0.1.1.2.1,v0.1.1.2.2.2,v0.1.1.2.2.1,v0.2.1.2.2.2.1,v0.2.1.2.2.1.2,v0.2.1.2.2.1.1,i7,(we 4))) (cond (ow (Eq v0.1.1.2.1 (S.lit [45]))) (L3 (v0.1.1.1,v0.2.1.1,v0.2.1.2.1,v0.1.1.2.1,v0.1.1.2.2.2,v0.1.1.2.2.1,v0.2.1.2.2.2.1,v0.2.1.2.2.1.2,v0.2.1.2.2.1.1,i7,(we 4))) (cond (ow (Eq v0.1.1.2.1 (S.lit [42]))) (L3 (v0.1.1.1,v0.2.1.1,v0.2.1.2.1,v0.1.1.2.1,v0.1.1.2.2.2,v0.1.1.2.2.1,v0.2.1.2.2.2.1,v0.2.1.2.2.1.2,v0.2.1.2.2.1.1,i7,(we 5))) (cond (ow (Eq v0.1.1.2.1 (S.lit [47,47]))) (L3 (v0.1.1.1,v0.2.1.1,v0.2.1.2.1,v0.1.1.2.1,v0.1.1.2.2.2,v0.1.1.2.2.1,v0.2.1.2.2.2.1,v0.2.1.2.2.1.2,v0.2.1.2.2.1.1,i7,(we 5))) (cond (ow (Eq v0.1.1.2.1 (S.lit [37]))) (L3 (v0.1.1.1,v0.2.1.1,v0.2.1.2.1,v0.1.1.2.1,v0.1.1.2.2.2,v0.1.1.2.2.1,v0.2.1.2.2.2.1,v0.2.1.2.2.1.2,v0.2.1.2.2.1.1,i7,(we 5))) (L3 (v0.1.1.1,v0.2.1.1,v0.2.1.2.1,v0.1.1.2.1,v0.1.1.2.2.2,v0.1.1.2.2.1,v0.2.1.2.2.2.1,v0.2.1.2.2.1.2,v0.2.1.2.2.1.1,eb,(we 0))))))))))))))))))
def qwx(lf:Nat)(x1:(Lz zb))(x2:Int)(x3:zf)(x4:(Lz Bq))(x5:Int)(p:Int × (Lz zb) × Int × Bq × Int × Int × (Lz Bq) × Int × Int × Bool × Int):Oq km:=(cond p.2.2.2.2.2.2.2.2.2.1 (cond (ieqI p.2.2.2.2.2.2.2.2.2.2 x5) (cond (ieqI p.1 (we 3)) (iz (fe ((p.2.2.2.1,()),((p.2.1,(p.2.2.1,((p.2.2.2.2.2.2.2.2.1,p.2.2.2.2.2.2.2.1),(p.2.2.2.2.2.2.1,())))),())))) (cond (ieqI p.1 (we 5)) (iz (fe ((p.2.2.2.1,()),((p.2.1,(p.2.2.1,((p.2.2.2.2.2.2.2.2.1,p.2.2.2.2.2.2.2.1),(p.2.2.2.2.2.2.1,())))),())))) (iz (fe (((S.lit []),()),((p.2.1,(p.2.2.1,((p.2.2.2.2.2.2.2.2.1,p.2.2.2.2.2.2.2.1),(p.2.2.2.2.2.2.1,())))),())))))) (iz (fe (((S.lit []),()),((p.2.1,(p.2.2.1,((p.2.2.2.2.2.2.2.2.1,p.2.2.2.2.2.2.2.1),(p.2.2.2.2.2.2.1,())))),()))))) (iz (fe (((S.lit []),()),((p.2.1,(p.2.2.1,((p.2.2.2.2.2.2.2.2.1,p.2.2.2.2.2.2.2.1),(p.2.2.2.2.2.2.1,())))),())))))
theorem zpm(g:ElP [pkP,.dat (.int .i64)]->Oq km)(J:Nat->Lz Nat->NRes->Oq km)(lf:Nat)(x1:(Lz zb))(x2:Int)(x3:zf)(x4:(Lz Bq))(x5:Int):zm oa ttT.get qbf (mP [pkP,.dat (.int .i64)]) wo.nt (qj9 _ lf) lf qfz J wo.body [] (zk (ze [pkP,.dat (.int .i64)] idN 0 ((x1,x2,x3,x4,()),x5,())) 0 .leaf) (Sc [pkP,.dat (.int .i64)] ((x1,x2,x3,x4,()),x5,())) [] (qd ttT.get wo ⟨[pkP,.dat (.int .i64)],[(eb,.str)],113,pI,g⟩)=q9v lf x1 x2 x3 x4 x5 (fun q=>J 3 [] (qk2 x1 x2 x3 x4 x5 q)):=by kernel_rfl
theorem zig(g:ElP [pkP,.dat (.int .i64)]->Oq km)(J:Nat->Lz Nat->NRes->Oq km)(lf:Nat)(x1:(Lz zb))(x2:Int)(x3:zf)(x4:(Lz Bq))(x5:Int)(p:Int × (Lz zb) × Int × Bq × Int × Int × (Lz Bq) × Int × Int × Bool × Int):qj oa ttT.get qbf (mP [pkP,.dat (.int .i64)]) wo.nt (qj9 _ lf) lf qfz J 3 wo.body [] [] (qk2 x1 x2 x3 x4 x5 p) (qd ttT.get wo ⟨[pkP,.dat (.int .i64)],[(eb,.str)],113,pI,g⟩)=qwx lf x1 x2 x3 x4 x5 p:=by kernel_rfl
theorem q19:(regs wo.body).Nodup:=by decide +kernel
theorem q1y:okC qbf qfz qty wo.body i6=i7:=by kernel_rfl
def Az21(g:ElP [pkP,.dat (.int .i64)]->Oq km)(lf:Nat):Nat->Lz Nat->NRes->Oq km:=atP oa ttT.get qbf wo ⟨[pkP,.dat (.int .i64)],[(eb,.str)],113,pI,g⟩ (qj9 _ lf) lf qty
def qen(lf:Nat)(x1:(Lz zb))(x2:Int)(x3:zf)(x4:(Lz Bq))(x5:Int)(p:Int × (Lz zb) × Int × Bq × Int × Int × (Lz Bq) × Int × Int × Bool × Int):Oq km:=qwx lf x1 x2 x3 x4 x5 p
theorem zz9(g:ElP [pkP,.dat (.int .i64)]->Oq km)(lf:Nat)(x1:(Lz zb))(x2:Int)(x3:zf)(x4:(Lz Bq))(x5:Int)(p:Int × (Lz zb) × Int × Bq × Int × Int × (Lz Bq) × Int × Int × Bool × Int):Az21 g lf 3 [] (qk2 x1 x2 x3 x4 x5 p)=qen lf x1 x2 x3 x4 x5 p:=by
  refine(qmb rfl (qg 20 _) q19 q1y 3 [] [] rfl _).trans ((zig g (Az21 g lf) lf x1 x2 x3 x4 x5 p).trans ?_);rfl
def Fz21(lf:Nat)(x1:(Lz zb))(x2:Int)(x3:zf)(x4:(Lz Bq))(x5:Int):Oq km:=q9v lf x1 x2 x3 x4 x5 (fun q=>qen lf x1 x2 x3 x4 x5 q)
theorem zu0(g:ElP [pkP,.dat (.int .i64)]->Oq km)(lf:Nat)(x1:(Lz zb))(x2:Int)(x3:zf)(x4:(Lz Bq))(x5:Int):zm oa ttT.get qbf (mP [pkP,.dat (.int .i64)]) wo.nt (qj9 _ lf) lf qfz (Az21 g lf) wo.body [] (zk (ze [pkP,.dat (.int .i64)] idN 0 ((x1,x2,x3,x4,()),x5,())) 0 .leaf) (Sc [pkP,.dat (.int .i64)] ((x1,x2,x3,x4,()),x5,())) [] (qd ttT.get wo ⟨[pkP,.dat (.int .i64)],[(eb,.str)],113,pI,g⟩)=Fz21 lf x1 x2 x3 x4 x5:=by
  refine(zpm g (Az21 g lf) lf x1 x2 x3 x4 x5).trans ?_;rw[(show (fun q=>Az21 g lf 3 [] (qk2 x1 x2 x3 x4 x5 q))=(fun q=>qen lf x1 x2 x3 x4 x5 q) from funext fun q=>zz9 g lf x1 x2 x3 x4 x5 q)];rfl
theorem zoy(hrz12:ConR oa 139 jk):zv oa qra:=⟨z8 hrz12,trivial⟩
theorem zhw{g:ElP [pkP,.dat (.int .i64)]->Oq km}(hsm:SmOK oa qva)(hrz12:ConR oa 139 jk)(hg:∀(x:ElP [pkP,.dat (.int .i64)]) (y:km),WfP [pkP,.dat (.int .i64)] x->g x=iz y->∃lf,Fz21 lf x.1.1 x.1.2.1 x.1.2.2.1 x.1.2.2.2.1 x.2.1=iz y):ConP oa 245 ⟨[pkP,.dat (.int .i64)],[(eb,.str)],113,pI,g⟩ :=
 conTP (nmf:=qbf) (sml:=qva) (hxl:=qra) (st:=qfz) (hd:=qty) 20 mixed ttOK ftOK hsm (zoy hrz12) zo0 (by kernel_rfl) (fun x=>by kernel_rfl) q19 q1y fun x y b a=>by
  obtain⟨lf,h⟩:=hg x y b a;exact⟨lf,(zu0 g lf x.1.1 x.1.2.1 x.1.2.2.1 x.1.2.2.2.1 x.2.1).trans h⟩
def qha:Nat->Oq Nm:=fun k=>cond (od k 999999) (iz ⟨[],[],[],[],[],0,0,eb⟩) i6
def qla:Nat->Bool:=fun k=>eb
def qwz:Nat->Bool:=fun k=>eb
abbrev cm:Type:=DSl ⊕ ((zc × Unit) × DPr × Unit)
def qrt:Lz (Nat × Sm):=[]
def qof:Lz (Nat × Hx):=[(146,hxP qa8)]
def quh(R:Type)(lf:Nat):ClK R:=zn oa ttT.get ftT.get (fun _ _=>i6) (smL qrt) (hxL qof) lf 20 R
abbrev qny:Nat:=67
def q58(lf:Nat)(x1:(Lz zb))(x2:Int)(x3:zf)(x4:(Lz Bq)):Oq cm:=(bs (S.dLevel (x1,(x2,(x3,(x4,())))) (we 0)) fun v0=>(iz (fe (((zl v0.1.1),()),v0.2))))
theorem zf2(g:ElP [pkP]->Oq cm)(J:Nat->Lz Nat->NRes->Oq cm)(lf:Nat)(x1:(Lz zb))(x2:Int)(x3:zf)(x4:(Lz Bq)):zm oa ttT.get qha (mP [pkP]) fi67.nt (quh _ lf) lf qla J fi67.body [] (zk (ze [pkP] idN 0 ((x1,x2,x3,x4,()),())) 0 .leaf) (Sc [pkP] ((x1,x2,x3,x4,()),())) [] (qd ttT.get fi67 ⟨[pkP],[(eb,cExpr)],113,pI,g⟩)=q58 lf x1 x2 x3 x4:=by kernel_rfl
theorem zom:(regs fi67.body).Nodup:=by decide +kernel
theorem zb0:okC qha qla qwz fi67.body i6=i7:=by kernel_rfl
def Az22(g:ElP [pkP]->Oq cm)(lf:Nat):Nat->Lz Nat->NRes->Oq cm:=atP oa ttT.get qha fi67 ⟨[pkP],[(eb,cExpr)],113,pI,g⟩ (quh _ lf) lf qwz
def Fz22(lf:Nat)(x1:(Lz zb))(x2:Int)(x3:zf)(x4:(Lz Bq)):Oq cm:=q58 lf x1 x2 x3 x4
theorem ziy(g:ElP [pkP]->Oq cm)(lf:Nat)(x1:(Lz zb))(x2:Int)(x3:zf)(x4:(Lz Bq)):zm oa ttT.get qha (mP [pkP]) fi67.nt (quh _ lf) lf qla (Az22 g lf) fi67.body [] (zk (ze [pkP] idN 0 ((x1,x2,x3,x4,()),())) 0 .leaf) (Sc [pkP] ((x1,x2,x3,x4,()),())) [] (qd ttT.get fi67 ⟨[pkP],[(eb,cExpr)],113,pI,g⟩)=Fz22 lf x1 x2 x3 x4:=by
  refine(zf2 g (Az22 g lf) lf x1 x2 x3 x4).trans ?_;rfl
theorem zhm(hp_d_parser_level:ConP oa 146 qa8):zv oa qof:=⟨z7 hp_d_parser_level,trivial⟩
theorem zux{g:ElP [pkP]->Oq cm}(hsm:SmOK oa qrt)(hp_d_parser_level:ConP oa 146 qa8)(hg:∀(x:ElP [pkP]) (y:cm),WfP [pkP] x->g x=iz y->∃lf,Fz22 lf x.1.1 x.1.2.1 x.1.2.2.1 x.1.2.2.2.1=iz y):ConP oa 67 ⟨[pkP],[(eb,cExpr)],113,pI,g⟩ :=
 conTP (nmf:=qha) (sml:=qrt) (hxl:=qof) (st:=qla) (hd:=qwz) 20 mixed ttOK ftOK hsm (zhm hp_d_parser_level) q8t (by kernel_rfl) (fun x=>by kernel_rfl) zom zb0 fun x y b a=>by
  obtain⟨lf,h⟩:=hg x y b a;exact⟨lf,(ziy g lf x.1.1 x.1.2.1 x.1.2.2.1 x.1.2.2.2.1).trans h⟩
abbrev qkw:Type:=zc × Unit
abbrev zev:Nat:=246
def zi9(lf:Nat)(x1:Bq)(x2:zc)(x3:zc):Oq qkw:=(iz (((we 7),(x1,((we 0),(ou (RExpr.mk (zl x2)) [(RExpr.mk (zl x3))])))),()))
def qqh(lf:Nat)(x1:Bq)(x2:zc)(x3:zc):Oq qkw:=zi9 lf x1 x2 x3
theorem zv4{g:ElA [.str,cExpr,cExpr]->Oq qkw}(hsm:SmOK oa [])(hg:∀(x:ElA [.str,cExpr,cExpr]) (y:qkw),WfA [.str,cExpr,cExpr] x->g x=iz y->∃lf,qqh lf x.1 x.2.1 x.2.2.1=iz y):Con oa 246 ⟨[.str,cExpr,cExpr],[(eb,cExpr)],g⟩ :=
 conU (fi:=q9n) (hxl:=[]) (fun lf x=>qqh lf x.1 x.2.1 x.2.2.1) cm3 zeb trivial hsm hg
def qcf:Nat->Oq Nm:=fun k=>cond (od k 5) (iz ⟨[0,1,4,5,6],[],[],[],[],0,0,eb⟩) (cond (od k 999999) (iz ⟨[],[],[],[],[],0,0,eb⟩) i6)
def qdo:Nat->Bool:=fun k=>cond (od k 5) i7 (eb)
def qws:Nat->Bool:=fun k=>cond (od k 5) i7 (eb)
abbrev kg:Type:=DSl ⊕ ((zc × Unit) × DPr × Unit)
def qri:Lz (Nat × Sm):=[(246,qxx)]
def qvl:Lz (Nat × Hx):=[(244,hxP tb),(146,hxP qa8),(245,hxP ql7)]
def qk4(R:Type)(lf:Nat):ClK R:=zn oa ttT.get ftT.get (fun _ _=>i6) (smL qri) (hxL qvl) lf 20 R
abbrev zpb:Nat:=146
def qb5(x1:(Lz zb))(x2:Int)(x3:qlu)(x4:(Lz Bq))(x5:Int)(p:Bq × Int × (Lz zb) × Int × Bq × Int × Int × Int × (Lz Bq) × (Lz zc)):NRes:=(NRes.mk (.node (iz (IV.ptr 0 0)) (.node (iz (IV.int .i64 x5)) .leaf (.node (iz (IV.ptr 2 0)) .leaf .leaf)) (.node i6 (.node (iz (IV.ptr 1 0)) .leaf .leaf) (.node (iz (IV.str p.1)) .leaf .leaf))) (IS.mk (.node (iz (IObj.row (ou (IV.lst zd p.2.2.1) (ou (IV.int .i64 p.2.2.2.1) (ou (IV.int .i64 p.2.2.2.2.2.2.2.1) (ou (IV.int .i64 p.2.2.2.2.2.2.1) [(IV.lst TC.str p.2.2.2.2.2.2.2.2.1)])))))) (.node (iz (IObj.row (ou (IV.int .i64 (we 0)) (ou (IV.str (S.lit [])) (ou (IV.int .i64 (we 0)) [IV.nilsl]))))) .leaf .leaf) (.node (iz (IObj.row (ou (IV.int .i64 p.2.1) (ou (IV.str p.2.2.2.2.1) (ou (IV.int .i64 p.2.2.2.2.2.1) [(IV.lst cExpr p.2.2.2.2.2.2.2.2.2)]))))) .leaf .leaf)) 3) [] 0)
def qnk(lf:Nat)(x1:(Lz zb))(x2:Int)(x3:zf)(x4:(Lz Bq))(x5:Int)(L5:(Bq × Int × (Lz zb) × Int × Bq × Int × Int × Int × (Lz Bq) × (Lz zc))->Oq kg):Oq kg:=(cond (ieqI x5 (we 6)) (bs (S.dFront (x1,(x2,(x3,(x4,()))))) fun v0=>(iz (fe (((zl v0.1.1),()),v0.2)))) (bs (S.dLevel (x1,(x2,(x3,(x4,())))) (IntKind.i64.wrap (oe x5 (we 1)))) fun v4=>(bs (S.dOperator v4.2.1 x5) fun v5=>(L5 (v5.1.1,v4.1.1.1,v5.2.1.1,v5.2.1.2.1,v4.1.1.2.1,v4.1.1.2.2.1,v5.2.1.2.2.1.2,v5.2.1.2.2.1.1,v5.2.1.2.2.2.1,(unL v4.1.1.2.2.2))))))
def qjz(lf:Nat)(x1:(Lz zb))(x2:Int)(x3:zf)(x4:(Lz Bq))(x5:Int)(L5:(Bq × Int × (Lz zb) × Int × Bq × Int × Int × Int × (Lz Bq) × (Lz zc))->Oq kg)(p:Bq × Int × (Lz zb) × Int × Bq × Int × Int × Int × (Lz Bq) × (Lz zc)):Oq kg:=(cond (Bool.not (keqS p.1 (S.lit []))) (cond (ieqI x5 (we 0)) (bs (S.dLevel (p.2.2.1,((IntKind.i64.wrap (oe p.2.2.2.1 (we 1))),((p.2.2.2.2.2.2.2.1,p.2.2.2.2.2.2.1),(p.2.2.2.2.2.2.2.2.1,())))) x5) fun v0=>(iz (fe (((zl (S.binE p.1 (p.2.1,(p.2.2.2.2.1,(p.2.2.2.2.2.1,(yh p.2.2.2.2.2.2.2.2.2)))) (zl v0.1.1))),()),v0.2)))) (cond (ieqI x5 (we 3)) (bs (S.dLevel (p.2.2.1,((IntKind.i64.wrap (oe p.2.2.2.1 (we 1))),((p.2.2.2.2.2.2.2.1,p.2.2.2.2.2.2.1),(p.2.2.2.2.2.2.2.2.1,())))) (IntKind.i64.wrap (oe x5 (we 1)))) fun v20=>(iz (fe (((zl (S.binE p.1 (p.2.1,(p.2.2.2.2.1,(p.2.2.2.2.2.1,(yh p.2.2.2.2.2.2.2.2.2)))) (zl v20.1.1))),()),v20.2)))) (bs (S.dLevel (p.2.2.1,((IntKind.i64.wrap (oe p.2.2.2.1 (we 1))),((p.2.2.2.2.2.2.2.1,p.2.2.2.2.2.2.1),(p.2.2.2.2.2.2.2.2.1,())))) (IntKind.i64.wrap (oe x5 (we 1)))) fun v40=>(bs (S.dOperator v40.2.1 x5) fun v41=>(L5 (v41.1.1,(S.binE p.1 (p.2.1,(p.2.2.2.2.1,(p.2.2.2.2.2.1,(yh p.2.2.2.2.2.2.2.2.2)))) (zl v40.1.1)).1,v41.2.1.1,v41.2.1.2.1,(S.binE p.1 (p.2.1,(p.2.2.2.2.1,(p.2.2.2.2.2.1,(yh p.2.2.2.2.2.2.2.2.2)))) (zl v40.1.1)).2.1,(S.binE p.1 (p.2.1,(p.2.2.2.2.1,(p.2.2.2.2.2.1,(yh p.2.2.2.2.2.2.2.2.2)))) (zl v40.1.1)).2.2.1,v41.2.1.2.2.1.2,v41.2.1.2.2.1.1,v41.2.1.2.2.2.1,(unL (S.binE p.1 (p.2.1,(p.2.2.2.2.1,(p.2.2.2.2.2.1,(yh p.2.2.2.2.2.2.2.2.2)))) (zl v40.1.1)).2.2.2))))))) (iz (fe (((p.2.1,(p.2.2.2.2.1,(p.2.2.2.2.2.1,(yh p.2.2.2.2.2.2.2.2.2)))),()),((p.2.2.1,(p.2.2.2.1,((p.2.2.2.2.2.2.2.1,p.2.2.2.2.2.2.1),(p.2.2.2.2.2.2.2.2.1,())))),())))))
theorem zv6(g:ElP [pkP,.dat (.int .i64)]->Oq kg)(J:Nat->Lz Nat->NRes->Oq kg)(lf:Nat)(x1:(Lz zb))(x2:Int)(x3:zf)(x4:(Lz Bq))(x5:Int):zm oa ttT.get qcf (mP [pkP,.dat (.int .i64)]) vb.nt (qk4 _ lf) lf qdo J vb.body [] (zk (ze [pkP,.dat (.int .i64)] idN 0 ((x1,x2,x3,x4,()),x5,())) 0 .leaf) (Sc [pkP,.dat (.int .i64)] ((x1,x2,x3,x4,()),x5,())) [] (qd ttT.get vb ⟨[pkP,.dat (.int .i64)],[(eb,cExpr)],113,pI,g⟩)=qnk lf x1 x2 x3 x4 x5 (fun q=>J 5 [lf] (qb5 x1 x2 x3 x4 x5 q)):=by kernel_rfl
theorem zqf(g:ElP [pkP,.dat (.int .i64)]->Oq kg)(J:Nat->Lz Nat->NRes->Oq kg)(lf:Nat)(x1:(Lz zb))(x2:Int)(x3:zf)(x4:(Lz Bq))(x5:Int)(m1:Nat)(p:Bq × Int × (Lz zb) × Int × Bq × Int × Int × Int × (Lz Bq) × (Lz zc)):qj oa ttT.get qcf (mP [pkP,.dat (.int .i64)]) vb.nt (qk4 _ lf) lf qdo J 5 vb.body [] [m1] (qb5 x1 x2 x3 x4 x5 p) (qd ttT.get vb ⟨[pkP,.dat (.int .i64)],[(eb,cExpr)],113,pI,g⟩)=qjz lf x1 x2 x3 x4 x5 (fun q=>J 5 [m1] (qb5 x1 x2 x3 x4 x5 q)) p:=by kernel_rfl
theorem q2b:(regs vb.body).Nodup:=by decide +kernel
theorem q87:okC qcf qdo qws vb.body i6=i7:=by kernel_rfl
def Az23(g:ElP [pkP,.dat (.int .i64)]->Oq kg)(lf:Nat):Nat->Lz Nat->NRes->Oq kg:=atP oa ttT.get qcf vb ⟨[pkP,.dat (.int .i64)],[(eb,cExpr)],113,pI,g⟩ (qk4 _ lf) lf qws
def qaq(lf:Nat)(x1:(Lz zb))(x2:Int)(x3:zf)(x4:(Lz Bq))(x5:Int):Nat->(Bq × Int × (Lz zb) × Int × Bq × Int × Int × Int × (Lz Bq) × (Lz zc))->Oq kg:=rounds fun K p=>qjz lf x1 x2 x3 x4 x5 K p
theorem qxl(g:ElP [pkP,.dat (.int .i64)]->Oq kg)(lf:Nat)(x1:(Lz zb))(x2:Int)(x3:zf)(x4:(Lz Bq))(x5:Int):∀(n:Nat) (p:Bq × Int × (Lz zb) × Int × Bq × Int × Int × Int × (Lz Bq) × (Lz zc)),Az23 g lf 5 [n] (qb5 x1 x2 x3 x4 x5 p)=qaq lf x1 x2 x3 x4 x5 n p
 | 0,p=>qo4 5 [0] rfl _
 | n+1,p=>by
  have ih:=qxl g lf x1 x2 x3 x4 x5 n;refine(qmb rfl (qg 20 _) q2b q87 5 [n+1] [n] rfl _).trans ((zqf g (Az23 g lf) lf x1 x2 x3 x4 x5 n p).trans ?_);rw[(show (fun q=>Az23 g lf 5 [n] (qb5 x1 x2 x3 x4 x5 q))=(fun q=>qaq lf x1 x2 x3 x4 x5 n q) from funext ih)];rfl
def Fz23(lf:Nat)(x1:(Lz zb))(x2:Int)(x3:zf)(x4:(Lz Bq))(x5:Int):Oq kg:=qnk lf x1 x2 x3 x4 x5 (fun q=>qaq lf x1 x2 x3 x4 x5 lf q)
theorem za4(g:ElP [pkP,.dat (.int .i64)]->Oq kg)(lf:Nat)(x1:(Lz zb))(x2:Int)(x3:zf)(x4:(Lz Bq))(x5:Int):zm oa ttT.get qcf (mP [pkP,.dat (.int .i64)]) vb.nt (qk4 _ lf) lf qdo (Az23 g lf) vb.body [] (zk (ze [pkP,.dat (.int .i64)] idN 0 ((x1,x2,x3,x4,()),x5,())) 0 .leaf) (Sc [pkP,.dat (.int .i64)] ((x1,x2,x3,x4,()),x5,())) [] (qd ttT.get vb ⟨[pkP,.dat (.int .i64)],[(eb,cExpr)],113,pI,g⟩)=Fz23 lf x1 x2 x3 x4 x5:=by
  refine(zv6 g (Az23 g lf) lf x1 x2 x3 x4 x5).trans ?_;rw[(show (fun q=>Az23 g lf 5 [lf] (qb5 x1 x2 x3 x4 x5 q))=(fun q=>qaq lf x1 x2 x3 x4 x5 lf q) from funext fun q=>qxl g lf x1 x2 x3 x4 x5 lf q)];rfl
theorem zu5(hp_d_parser_front:ConP oa 244 tb)(hp_d_parser_level:ConP oa 146 qa8)(hp_d_parser_operator:ConP oa 245 ql7):zv oa qvl:=⟨z7 hp_d_parser_front,⟨z7 hp_d_parser_level,⟨z7 hp_d_parser_operator,trivial⟩⟩⟩
theorem zd0{g:ElP [pkP,.dat (.int .i64)]->Oq kg}(hsm:SmOK oa qri)(hp_d_parser_front:ConP oa 244 tb)(hp_d_parser_level:ConP oa 146 qa8)(hp_d_parser_operator:ConP oa 245 ql7)(hg:∀(x:ElP [pkP,.dat (.int .i64)]) (y:kg),WfP [pkP,.dat (.int .i64)] x->g x=iz y->∃lf,Fz23 lf x.1.1 x.1.2.1 x.1.2.2.1 x.1.2.2.2.1 x.2.1=iz y):ConP oa 146 ⟨[pkP,.dat (.int .i64)],[(eb,cExpr)],113,pI,g⟩ :=
 conTP (nmf:=qcf) (sml:=qri) (hxl:=qvl) (st:=qdo) (hd:=qws) 20 mixed ttOK ftOK hsm (zu5 hp_d_parser_front hp_d_parser_level hp_d_parser_operator) q9l (by kernel_rfl) (fun x=>by kernel_rfl) q2b q87 fun x y b a=>by
  obtain⟨lf,h⟩:=hg x y b a;exact⟨lf,(za4 g lf x.1.1 x.1.2.1 x.1.2.2.1 x.1.2.2.2.1 x.2.1).trans h⟩
def qhe:Nat->Oq Nm:=fun k=>cond (od k 999999) (iz ⟨[],[],[],[],[],0,0,eb⟩) i6
def qmn:Nat->Bool:=fun k=>eb
def qt0:Nat->Bool:=fun k=>eb
abbrev bw:Type:=DSl ⊕ ((zc × Unit) × DPr × Unit)
def qvp:Lz (Nat × Sm):=[]
def qsx:Lz (Nat × Hx):=[(139,hxR jk),(138,hxP ji),(244,hxP tb),(327,hxP sp)]
def qqj(R:Type)(lf:Nat):ClK R:=zn oa ttT.get ftT.get (fun _ _=>i6) (smL qvp) (hxL qsx) lf 20 R
abbrev zhh:Nat:=244
def qjv(lf:Nat)(x1:(Lz zb))(x2:Int)(x3:zf)(x4:(Lz Bq)):Oq bw:=(bd (S.dPeek (x1,(x2,(x3,(x4,())))) (we 0)) fun v0=>(bs (S.dMay v0.2.1 (S.lit [45])) fun v1=>(cond v1.1.1 (cond v1.1.1 (bs (S.dFront v1.2.1) fun v2=>(iz (fe ((((we 8),(v0.1.1.2.1,((we 0),[(RExpr.mk (zl v2.1.1))]))),()),v2.2)))) (bs (S.dMay v1.2.1 (S.lit [111,108,100])) fun v6=>(cond v6.1.1 (bs (S.dFront v6.2.1) fun v7=>(iz (fe ((((we 9),((S.lit []),((we 0),[(RExpr.mk (zl v7.1.1))]))),()),v7.2)))) (bs (S.dCall v6.2.1) fun v11=>(iz (fe (((zl v11.1.1),()),v11.2))))))) (bs (S.dMay v1.2.1 (S.lit [110,111,116])) fun v15=>(cond v15.1.1 (bs (S.dFront v15.2.1) fun v16=>(iz (fe ((((we 8),(v0.1.1.2.1,((we 0),[(RExpr.mk (zl v16.1.1))]))),()),v16.2)))) (bs (S.dMay v15.2.1 (S.lit [111,108,100])) fun v20=>(cond v20.1.1 (bs (S.dFront v20.2.1) fun v21=>(iz (fe ((((we 9),((S.lit []),((we 0),[(RExpr.mk (zl v21.1.1))]))),()),v21.2)))) (bs (S.dCall v20.2.1) fun v25=>(iz (fe (((zl v25.1.1),()),v25.2)))))))))))
theorem zhl(g:ElP [pkP]->Oq bw)(J:Nat->Lz Nat->NRes->Oq bw)(lf:Nat)(x1:(Lz zb))(x2:Int)(x3:zf)(x4:(Lz Bq)):zm oa ttT.get qhe (mP [pkP]) bn.nt (qqj _ lf) lf qmn J bn.body [] (zk (ze [pkP] idN 0 ((x1,x2,x3,x4,()),())) 0 .leaf) (Sc [pkP] ((x1,x2,x3,x4,()),())) [] (qd ttT.get bn ⟨[pkP],[(eb,cExpr)],113,pI,g⟩)=qjv lf x1 x2 x3 x4:=by kernel_rfl
theorem zk5:(regs bn.body).Nodup:=by decide +kernel
theorem zz2:okC qhe qmn qt0 bn.body i6=i7:=by kernel_rfl
def Az24(g:ElP [pkP]->Oq bw)(lf:Nat):Nat->Lz Nat->NRes->Oq bw:=atP oa ttT.get qhe bn ⟨[pkP],[(eb,cExpr)],113,pI,g⟩ (qqj _ lf) lf qt0
def Fz24(lf:Nat)(x1:(Lz zb))(x2:Int)(x3:zf)(x4:(Lz Bq)):Oq bw:=qjv lf x1 x2 x3 x4
theorem zwy(g:ElP [pkP]->Oq bw)(lf:Nat)(x1:(Lz zb))(x2:Int)(x3:zf)(x4:(Lz Bq)):zm oa ttT.get qhe (mP [pkP]) bn.nt (qqj _ lf) lf qmn (Az24 g lf) bn.body [] (zk (ze [pkP] idN 0 ((x1,x2,x3,x4,()),())) 0 .leaf) (Sc [pkP] ((x1,x2,x3,x4,()),())) [] (qd ttT.get bn ⟨[pkP],[(eb,cExpr)],113,pI,g⟩)=Fz24 lf x1 x2 x3 x4:=by
  refine(zhl g (Az24 g lf) lf x1 x2 x3 x4).trans ?_;rfl
theorem ztw(hrz12:ConR oa 139 jk)(hp_d_parser_may:ConP oa 138 ji)(hp_d_parser_front:ConP oa 244 tb)(hp_d_parser_call:ConP oa 327 sp):zv oa qsx:=⟨z8 hrz12,⟨z7 hp_d_parser_may,⟨z7 hp_d_parser_front,⟨z7 hp_d_parser_call,trivial⟩⟩⟩⟩
theorem znw{g:ElP [pkP]->Oq bw}(hsm:SmOK oa qvp)(hrz12:ConR oa 139 jk)(hp_d_parser_may:ConP oa 138 ji)(hp_d_parser_front:ConP oa 244 tb)(hp_d_parser_call:ConP oa 327 sp)(hg:∀(x:ElP [pkP]) (y:bw),WfP [pkP] x->g x=iz y->∃lf,Fz24 lf x.1.1 x.1.2.1 x.1.2.2.1 x.1.2.2.2.1=iz y):ConP oa 244 ⟨[pkP],[(eb,cExpr)],113,pI,g⟩ :=
 conTP (nmf:=qhe) (sml:=qvp) (hxl:=qsx) (st:=qmn) (hd:=qt0) 20 mixed ttOK ftOK hsm (ztw hrz12 hp_d_parser_may hp_d_parser_front hp_d_parser_call) q7p (by kernel_rfl) (fun x=>by kernel_rfl) zk5 zz2 fun x y b a=>by
  obtain⟨lf,h⟩:=hg x y b a;exact⟨lf,(zwy g lf x.1.1 x.1.2.1 x.1.2.2.1 x.1.2.2.2.1).trans h⟩
def qbo:Nat->Oq Nm:=fun k=>cond (od k 2) (iz ⟨[0,2,3],[],[(3,3,(.list (.list cExpr)))],[],[],0,0,eb⟩) (cond (od k 999999) (iz ⟨[],[],[],[],[],0,0,eb⟩) i6)
def qd4:Nat->Bool:=fun k=>cond (od k 2) i7 (eb)
def qqq:Nat->Bool:=fun k=>cond (od k 2) i7 (eb)
abbrev kb:Type:=DSl ⊕ ((zc × Unit) × DPr × Unit)
def quk:Lz (Nat × Sm):=[]
def qqn:Lz (Nat × Hx):=[(358,hxP qks),(138,hxP ji),(249,hxP sh),(250,hxP qa3)]
def qhq(R:Type)(lf:Nat):ClK R:=zn oa ttT.get ftT.get (fun _ _=>i6) (smL quk) (hxL qqn) lf 20 R
abbrev ztk:Nat:=327
def qca(x1:(Lz zb))(x2:Int)(x3:qlu)(x4:(Lz Bq))(p:Int × (Lz zb) × Int × Bq × Int × (Lz Bq) × Int × Int × (Lz zc)):NRes:=(NRes.mk (.node (iz (IV.ptr 0 0)) (.node i6 (.node (iz (IV.ptr 2 0)) .leaf .leaf) .leaf) (.node (iz (IV.ptr 1 0)) .leaf .leaf)) (IS.mk (.node (iz (IObj.row (ou (IV.lst zd p.2.1) (ou (IV.int .i64 p.2.2.1) (ou (IV.int .i64 p.2.2.2.2.2.2.1) (ou (IV.int .i64 p.2.2.2.2.2.2.2.1) [(IV.lst TC.str p.2.2.2.2.2.1)])))))) (.node (iz (IObj.row (ou (IV.int .i64 (we 0)) (ou (IV.str (S.lit [])) (ou (IV.int .i64 (we 0)) [IV.nilsl]))))) .leaf .leaf) (.node (iz (IObj.row (ou (IV.int .i64 p.1) (ou (IV.str p.2.2.2.1) (ou (IV.int .i64 p.2.2.2.2.1) [(IV.lst cExpr p.2.2.2.2.2.2.2.2)]))))) .leaf .leaf)) 3) [] 0)
def qui(lf:Nat)(x1:(Lz zb))(x2:Int)(x3:zf)(x4:(Lz Bq))(L2:(Int × (Lz zb) × Int × Bq × Int × (Lz Bq) × Int × Int × (Lz zc))->Oq kb):Oq kb:=(bs (S.dPrimary (x1,(x2,(x3,(x4,()))))) fun v0=>(L2 (v0.1.1.1,v0.2.1.1,v0.2.1.2.1,v0.1.1.2.1,v0.1.1.2.2.1,v0.2.1.2.2.2.1,v0.2.1.2.2.1.1,v0.2.1.2.2.1.2,(fc (fun v3=>(match v3 with|.mk v4=>v4)) v0.1.1.2.2.2))))
def qlw(lf:Nat)(x1:(Lz zb))(x2:Int)(x3:zf)(x4:(Lz Bq))(L2:(Int × (Lz zb) × Int × Bq × Int × (Lz Bq) × Int × Int × (Lz zc))->Oq kb)(p:Int × (Lz zb) × Int × Bq × Int × (Lz Bq) × Int × Int × (Lz zc)):Oq kb:=(bs (S.dMay (p.2.1,(p.2.2.1,((p.2.2.2.2.2.2.1,p.2.2.2.2.2.2.2.1),(p.2.2.2.2.2.1,())))) (S.lit [46])) fun v0=>(cond v0.1.1 (bs (S.dKind v0.2.1 (we 1)) fun v1=>(bs (S.dArgs v1.2.1) fun v2=>(cond (og (o7 (o5 1 v2.1.1.length) 56) 140737488355328) (L2 ((we 6),v2.2.1.1,v2.2.1.2.1,v1.1.1,(we 1),v2.2.1.2.2.2.1,v2.2.1.2.2.1.1,v2.2.1.2.2.1.2,(ou (p.1,(p.2.2.2.1,(p.2.2.2.2.1,(yh p.2.2.2.2.2.2.2.2)))) v2.1.1))) i6))) (iz (fe (((p.1,(p.2.2.2.1,(p.2.2.2.2.1,(yh p.2.2.2.2.2.2.2.2)))),()),v0.2)))))
theorem zjy(g:ElP [pkP]->Oq kb)(J:Nat->Lz Nat->NRes->Oq kb)(lf:Nat)(x1:(Lz zb))(x2:Int)(x3:zf)(x4:(Lz Bq)):zm oa ttT.get qbo (mP [pkP]) wz.nt (qhq _ lf) lf qd4 J wz.body [] (zk (ze [pkP] idN 0 ((x1,x2,x3,x4,()),())) 0 .leaf) (Sc [pkP] ((x1,x2,x3,x4,()),())) [] (qd ttT.get wz ⟨[pkP],[(eb,cExpr)],113,pI,g⟩)=qui lf x1 x2 x3 x4 (fun q=>J 2 [lf] (qca x1 x2 x3 x4 q)):=by kernel_rfl
theorem zfe(g:ElP [pkP]->Oq kb)(J:Nat->Lz Nat->NRes->Oq kb)(lf:Nat)(x1:(Lz zb))(x2:Int)(x3:zf)(x4:(Lz Bq))(m1:Nat)(p:Int × (Lz zb) × Int × Bq × Int × (Lz Bq) × Int × Int × (Lz zc)):qj oa ttT.get qbo (mP [pkP]) wz.nt (qhq _ lf) lf qd4 J 2 wz.body [] [m1] (qca x1 x2 x3 x4 p) (qd ttT.get wz ⟨[pkP],[(eb,cExpr)],113,pI,g⟩)=qlw lf x1 x2 x3 x4 (fun q=>J 2 [m1] (qca x1 x2 x3 x4 q)) p:=by kernel_rfl
theorem zal:(regs wz.body).Nodup:=by decide +kernel
theorem qy0:okC qbo qd4 qqq wz.body i6=i7:=by kernel_rfl
def Az25(g:ElP [pkP]->Oq kb)(lf:Nat):Nat->Lz Nat->NRes->Oq kb:=atP oa ttT.get qbo wz ⟨[pkP],[(eb,cExpr)],113,pI,g⟩ (qhq _ lf) lf qqq
def qar(lf:Nat)(x1:(Lz zb))(x2:Int)(x3:zf)(x4:(Lz Bq)):Nat->(Int × (Lz zb) × Int × Bq × Int × (Lz Bq) × Int × Int × (Lz zc))->Oq kb:=rounds fun K p=>qlw lf x1 x2 x3 x4 K p
theorem q69(g:ElP [pkP]->Oq kb)(lf:Nat)(x1:(Lz zb))(x2:Int)(x3:zf)(x4:(Lz Bq)):∀(n:Nat) (p:Int × (Lz zb) × Int × Bq × Int × (Lz Bq) × Int × Int × (Lz zc)),Az25 g lf 2 [n] (qca x1 x2 x3 x4 p)=qar lf x1 x2 x3 x4 n p
 | 0,p=>qo4 2 [0] rfl _
 | n+1,p=>by
  have ih:=q69 g lf x1 x2 x3 x4 n;refine(qmb rfl (qg 20 _) zal qy0 2 [n+1] [n] rfl _).trans ((zfe g (Az25 g lf) lf x1 x2 x3 x4 n p).trans ?_);rw[(show (fun q=>Az25 g lf 2 [n] (qca x1 x2 x3 x4 q))=(fun q=>qar lf x1 x2 x3 x4 n q) from funext ih)];rfl
def Fz25(lf:Nat)(x1:(Lz zb))(x2:Int)(x3:zf)(x4:(Lz Bq)):Oq kb:=qui lf x1 x2 x3 x4 (fun q=>qar lf x1 x2 x3 x4 lf q)
theorem zfc(g:ElP [pkP]->Oq kb)(lf:Nat)(x1:(Lz zb))(x2:Int)(x3:zf)(x4:(Lz Bq)):zm oa ttT.get qbo (mP [pkP]) wz.nt (qhq _ lf) lf qd4 (Az25 g lf) wz.body [] (zk (ze [pkP] idN 0 ((x1,x2,x3,x4,()),())) 0 .leaf) (Sc [pkP] ((x1,x2,x3,x4,()),())) [] (qd ttT.get wz ⟨[pkP],[(eb,cExpr)],113,pI,g⟩)=Fz25 lf x1 x2 x3 x4:=by
  refine(zjy g (Az25 g lf) lf x1 x2 x3 x4).trans ?_;rw[(show (fun q=>Az25 g lf 2 [lf] (qca x1 x2 x3 x4 q))=(fun q=>qar lf x1 x2 x3 x4 lf q) from funext fun q=>q69 g lf x1 x2 x3 x4 lf q)];rfl
theorem zob(hp_d_parser_primary:ConP oa 358 qks)(hp_d_parser_may:ConP oa 138 ji)(hp_d_parser_name:ConP oa 249 sh)(hp_d_parser_args:ConP oa 250 qa3):zv oa qqn:=⟨z7 hp_d_parser_primary,⟨z7 hp_d_parser_may,⟨z7 hp_d_parser_name,⟨z7 hp_d_parser_args,trivial⟩⟩⟩⟩
theorem zd9{g:ElP [pkP]->Oq kb}(hsm:SmOK oa quk)(hp_d_parser_primary:ConP oa 358 qks)(hp_d_parser_may:ConP oa 138 ji)(hp_d_parser_name:ConP oa 249 sh)(hp_d_parser_args:ConP oa 250 qa3)(hg:∀(x:ElP [pkP]) (y:kb),WfP [pkP] x->g x=iz y->∃lf,Fz25 lf x.1.1 x.1.2.1 x.1.2.2.1 x.1.2.2.2.1=iz y):ConP oa 327 ⟨[pkP],[(eb,cExpr)],113,pI,g⟩ :=
 conTP (nmf:=qbo) (sml:=quk) (hxl:=qqn) (st:=qd4) (hd:=qqq) 20 mixed ttOK ftOK hsm (zob hp_d_parser_primary hp_d_parser_may hp_d_parser_name hp_d_parser_args) q7g (by kernel_rfl) (fun x=>by kernel_rfl) zal qy0 fun x y b a=>by
  obtain⟨lf,h⟩:=hg x y b a;exact⟨lf,(zfc g lf x.1.1 x.1.2.1 x.1.2.2.1 x.1.2.2.2.1).trans h⟩
def qel:Nat->Oq Nm:=fun k=>cond (od k 999999) (iz ⟨[],[],[],[],[],0,0,eb⟩) i6
def ql5:Nat->Bool:=fun k=>eb
def qwy:Nat->Bool:=fun k=>eb
abbrev cx:Type:=DSl ⊕ ((zc × Unit) × DPr × Unit)
def qsz:Lz (Nat × Sm):=[(254,qul)]
def qtt:Lz (Nat × Hx):=[(139,hxR jk),(250,hxP qa3),(138,hxP ji),(67,hxP cv),(144,hxP nv),(327,hxP sp),(249,hxP sh)]
def qtu(R:Type)(lf:Nat):ClK R:=zn oa ttT.get ftT.get (fun _ _=>i6) (smL qsz) (hxL qtt) lf 20 R
abbrev zcf:Nat:=358
def qlt(lf:Nat)(x1:(Lz zb))(x2:Int)(x3:zf)(x4:(Lz Bq)):Oq cx:=(bd (S.dPeek (x1,(x2,(x3,(x4,())))) (we 0)) fun v0=>(cond (ieqI v0.1.1.1 (we 4)) (iz (fe ((((we 1),((S.lit []),((S.value v0.1.1.2.1).1,[]))),()),((v0.2.1.1,((IntKind.i64.wrap (oe v0.2.1.2.1 (we 1))),v0.2.1.2.2)),())))) (cond (ieqI v0.1.1.1 (we 1)) (bs (S.dArgs (v0.2.1.1,((IntKind.i64.wrap (oe v0.2.1.2.1 (we 1))),v0.2.1.2.2))) fun v1=>(iz (fe ((((we 6),(v0.1.1.2.1,((we 0),(yh v1.1.1)))),()),v1.2)))) (cond (ieqI v0.1.1.1 (we 3)) (cond (ow (Eq v0.1.1.2.1 (S.lit [84,114,117,101]))) (iz (fe ((((we 2),((S.lit []),((we 1),[]))),()),((v0.2.1.1,((IntKind.i64.wrap (oe v0.2.1.2.1 (we 1))),v0.2.1.2.2)),())))) (cond (ow (Eq v0.1.1.2.1 (S.lit [70,97,108,115,101]))) (iz (fe ((((we 2),((S.lit []),((we 0),[]))),()),((v0.2.1.1,((IntKind.i64.wrap (oe v0.2.1.2.1 (we 1))),v0.2.1.2.2)),())))) (cond (ow (Eq v0.1.1.2.1 (S.lit [86,111,105,100]))) (iz (fe ((((we 3),((S.lit []),((we 0),[]))),()),((v0.2.1.1,((IntKind.i64.wrap (oe v0.2.1.2.1 (we 1))),v0.2.1.2.2)),())))) (cond (ow (Eq v0.1.1.2.1 (S.lit [67,117,114,114,101,110,116]))) (iz (fe ((((we 4),((S.lit []),((we 0),[]))),()),((v0.2.1.1,((IntKind.i64.wrap (oe v0.2.1.2.1 (we 1))),v0.2.1.2.2)),())))) (cond (ow (Eq v0.1.1.2.1 (S.lit [82,101,115,117,108,116]))) (iz (fe ((((we 5),((S.lit []),((we 0),[]))),()),((v0.2.1.1,((IntKind.i64.wrap (oe v0.2.1.2.1 (we 1))),v0.2.1.2.2)),())))) (bs (S.dMay v0.2.1 (S.lit [40])) fun v3=>(cond v3.1.1 (bs (S.dExpr v3.2.1) fun v4=>(bs (S.dMust v4.2.1 (S.lit [41])) fun v5=>(iz (fe (((zl v4.1.1),()),v5.2))))) (bs (S.dMust v3.2.1 (S.lit [97,116,116,97,99,104,101,100])) fun v9=>(bs (S.dCall v9.2.1) fun v10=>(bs (S.dMust v10.2.1 (S.lit [97,115])) fun v11=>(bs (S.dKind v11.2.1 (we 1)) fun v12=>(iz (fe ((((we 10),(v12.1.1,((we 0),[(RExpr.mk (zl v10.1.1))]))),()),v12.2)))))))))))))) (bs (S.dMay v0.2.1 (S.lit [40])) fun v16=>(cond v16.1.1 (bs (S.dExpr v16.2.1) fun v17=>(bs (S.dMust v17.2.1 (S.lit [41])) fun v18=>(iz (fe (((zl v17.1.1),()),v18.2))))) (bs (S.dMust v16.2.1 (S.lit [97,116,116,97,99,104,101,100])) fun v22=>(bs (S.dCall v22.2.1) fun v23=>(bs (S.dMust v23.2.1 (S.lit [97,115])) fun v24=>(bs (S.dKind v24.2.1 (we 1)) fun v25=>(iz (fe ((((we 10),(v25.1.1,((we 0),[(RExpr.mk (zl v23.1.1))]))),()),v25.2)))))))))))))
theorem znz(g:ElP [pkP]->Oq cx)(J:Nat->Lz Nat->NRes->Oq cx)(lf:Nat)(x1:(Lz zb))(x2:Int)(x3:zf)(x4:(Lz Bq)):zm oa ttT.get qel (mP [pkP]) y7.nt (qtu _ lf) lf ql5 J y7.body [] (zk (ze [pkP] idN 0 ((x1,x2,x3,x4,()),())) 0 .leaf) (Sc [pkP] ((x1,x2,x3,x4,()),())) [] (qd ttT.get y7 ⟨[pkP],[(eb,cExpr)],113,pI,g⟩)=qlt lf x1 x2 x3 x4:=by kernel_rfl
theorem zjp:(regs y7.body).Nodup:=by decide +kernel
theorem ztj:okC qel ql5 qwy y7.body i6=i7:=by kernel_rfl
def Az26(g:ElP [pkP]->Oq cx)(lf:Nat):Nat->Lz Nat->NRes->Oq cx:=atP oa ttT.get qel y7 ⟨[pkP],[(eb,cExpr)],113,pI,g⟩ (qtu _ lf) lf qwy
def Fz26(lf:Nat)(x1:(Lz zb))(x2:Int)(x3:zf)(x4:(Lz Bq)):Oq cx:=qlt lf x1 x2 x3 x4
theorem ztv(g:ElP [pkP]->Oq cx)(lf:Nat)(x1:(Lz zb))(x2:Int)(x3:zf)(x4:(Lz Bq)):zm oa ttT.get qel (mP [pkP]) y7.nt (qtu _ lf) lf ql5 (Az26 g lf) y7.body [] (zk (ze [pkP] idN 0 ((x1,x2,x3,x4,()),())) 0 .leaf) (Sc [pkP] ((x1,x2,x3,x4,()),())) [] (qd ttT.get y7 ⟨[pkP],[(eb,cExpr)],113,pI,g⟩)=Fz26 lf x1 x2 x3 x4:=by
  refine(znz g (Az26 g lf) lf x1 x2 x3 x4).trans ?_;rfl
theorem zpt(hrz12:ConR oa 139 jk)(hp_d_parser_args:ConP oa 250 qa3)(hp_d_parser_may:ConP oa 138 ji)(hp_d_parser_expr:ConP oa 67 cv)(hp_d_parser_must:ConP oa 144 nv)(hp_d_parser_call:ConP oa 327 sp)(hp_d_parser_name:ConP oa 249 sh):zv oa qtt:=⟨z8 hrz12,⟨z7 hp_d_parser_args,⟨z7 hp_d_parser_may,⟨z7 hp_d_parser_expr,⟨z7 hp_d_parser_must,⟨z7 hp_d_parser_call,⟨z7 hp_d_parser_name,trivial⟩⟩⟩⟩⟩⟩⟩
theorem zqm{g:ElP [pkP]->Oq cx}(hsm:SmOK oa qsz)(hrz12:ConR oa 139 jk)(hp_d_parser_args:ConP oa 250 qa3)(hp_d_parser_may:ConP oa 138 ji)(hp_d_parser_expr:ConP oa 67 cv)(hp_d_parser_must:ConP oa 144 nv)(hp_d_parser_call:ConP oa 327 sp)(hp_d_parser_name:ConP oa 249 sh)(hg:∀(x:ElP [pkP]) (y:cx),WfP [pkP] x->g x=iz y->∃lf,Fz26 lf x.1.1 x.1.2.1 x.1.2.2.1 x.1.2.2.2.1=iz y):ConP oa 358 ⟨[pkP],[(eb,cExpr)],113,pI,g⟩ :=
 conTP (nmf:=qel) (sml:=qsz) (hxl:=qtt) (st:=ql5) (hd:=qwy) 20 mixed ttOK ftOK hsm (zpt hrz12 hp_d_parser_args hp_d_parser_may hp_d_parser_expr hp_d_parser_must hp_d_parser_call hp_d_parser_name) q72 (by kernel_rfl) (fun x=>by kernel_rfl) zjp ztj fun x y b a=>by
  obtain⟨lf,h⟩:=hg x y b a;exact⟨lf,(ztv g lf x.1.1 x.1.2.1 x.1.2.2.1 x.1.2.2.2.1).trans h⟩
def qe6:Nat->Oq Nm:=fun k=>cond (od k 999999) (iz ⟨[],[],[],[],[],0,0,eb⟩) i6
def qk3:Nat->Bool:=fun k=>eb
def qog:Nat->Bool:=fun k=>eb
abbrev cc:Type:=DSl ⊕ (((Lz zc) × Unit) × DPr × Unit)
def qux:Lz (Nat × Sm):=[]
def qrb:Lz (Nat × Hx):=[(138,hxP ji),(144,hxP nv),(328,hxP qnl)]
def qu9(R:Type)(lf:Nat):ClK R:=zn oa ttT.get ftT.get (fun _ _=>i6) (smL qux) (hxL qrb) lf 20 R
abbrev zz7:Nat:=250
def qib(lf:Nat)(x1:(Lz zb))(x2:Int)(x3:zf)(x4:(Lz Bq)):Oq cc:=(bs (S.dMay (x1,(x2,(x3,(x4,())))) (S.lit [40])) fun v0=>(cond (Bool.not v0.1.1) (iz (fe (([],()),v0.2))) (bs (S.dSomeExpr v0.2.1 (S.lit [44])) fun v1=>(bs (S.dMust v1.2.1 (S.lit [41])) fun v2=>(iz (fe (v1.1,v2.2)))))))
theorem zld(g:ElP [pkP]->Oq cc)(J:Nat->Lz Nat->NRes->Oq cc)(lf:Nat)(x1:(Lz zb))(x2:Int)(x3:zf)(x4:(Lz Bq)):zm oa ttT.get qe6 (mP [pkP]) ua.nt (qu9 _ lf) lf qk3 J ua.body [] (zk (ze [pkP] idN 0 ((x1,x2,x3,x4,()),())) 0 .leaf) (Sc [pkP] ((x1,x2,x3,x4,()),())) [] (qd ttT.get ua ⟨[pkP],[(eb,(.list cExpr))],113,pI,g⟩)=qib lf x1 x2 x3 x4:=by kernel_rfl
theorem zyv:(regs ua.body).Nodup:=by decide +kernel
theorem zr6:okC qe6 qk3 qog ua.body i6=i7:=by kernel_rfl
def Az27(g:ElP [pkP]->Oq cc)(lf:Nat):Nat->Lz Nat->NRes->Oq cc:=atP oa ttT.get qe6 ua ⟨[pkP],[(eb,(.list cExpr))],113,pI,g⟩ (qu9 _ lf) lf qog
def Fz27(lf:Nat)(x1:(Lz zb))(x2:Int)(x3:zf)(x4:(Lz Bq)):Oq cc:=qib lf x1 x2 x3 x4
theorem zry(g:ElP [pkP]->Oq cc)(lf:Nat)(x1:(Lz zb))(x2:Int)(x3:zf)(x4:(Lz Bq)):zm oa ttT.get qe6 (mP [pkP]) ua.nt (qu9 _ lf) lf qk3 (Az27 g lf) ua.body [] (zk (ze [pkP] idN 0 ((x1,x2,x3,x4,()),())) 0 .leaf) (Sc [pkP] ((x1,x2,x3,x4,()),())) [] (qd ttT.get ua ⟨[pkP],[(eb,(.list cExpr))],113,pI,g⟩)=Fz27 lf x1 x2 x3 x4:=by
  refine(zld g (Az27 g lf) lf x1 x2 x3 x4).trans ?_;rfl
theorem zqc(hp_d_parser_may:ConP oa 138 ji)(hp_d_parser_must:ConP oa 144 nv)(hp_d_some_Expr:ConP oa 328 qnl):zv oa qrb:=⟨z7 hp_d_parser_may,⟨z7 hp_d_parser_must,⟨z7 hp_d_some_Expr,trivial⟩⟩⟩
theorem zih{g:ElP [pkP]->Oq cc}(hsm:SmOK oa qux)(hp_d_parser_may:ConP oa 138 ji)(hp_d_parser_must:ConP oa 144 nv)(hp_d_some_Expr:ConP oa 328 qnl)(hg:∀(x:ElP [pkP]) (y:cc),WfP [pkP] x->g x=iz y->∃lf,Fz27 lf x.1.1 x.1.2.1 x.1.2.2.1 x.1.2.2.2.1=iz y):ConP oa 250 ⟨[pkP],[(eb,(.list cExpr))],113,pI,g⟩ :=
 conTP (nmf:=qe6) (sml:=qux) (hxl:=qrb) (st:=qk3) (hd:=qog) 20 mixed ttOK ftOK hsm (zqc hp_d_parser_may hp_d_parser_must hp_d_some_Expr) zaa (by kernel_rfl) (fun x=>by kernel_rfl) zyv zr6 fun x y b a=>by
  obtain⟨lf,h⟩:=hg x y b a;exact⟨lf,(zry g lf x.1.1 x.1.2.1 x.1.2.2.1 x.1.2.2.2.1).trans h⟩
def qc1:Nat->Oq Nm:=fun k=>cond (od k 2) (iz ⟨[0,1,2,7],[(7,cExpr)],[],[],[],0,0,eb⟩) (cond (od k 999999) (iz ⟨[],[],[],[],[],0,0,eb⟩) i6)
def qgw:Nat->Bool:=fun k=>cond (od k 2) i7 (eb)
def qry:Nat->Bool:=fun k=>cond (od k 2) i7 (eb)
abbrev j7:Type:=DSl ⊕ (((Lz zc) × Unit) × DPr × Unit)
def qwc:Lz (Nat × Sm):=[]
def qow:Lz (Nat × Hx):=[(67,hxP cv),(138,hxP ji)]
def qjf(R:Type)(lf:Nat):ClK R:=zn oa ttT.get ftT.get (fun _ _=>i6) (smL qwc) (hxL qow) lf 20 R
abbrev zn7:Nat:=328
def qch(x1:(Lz zb))(x2:Int)(x3:qlu)(x4:(Lz Bq))(x5:Bq)(p:(Lz zb) × Int × Int × (Lz Bq) × Int × (Lz zc)):NRes:=(NRes.mk (.node (iz (IV.ptr 0 0)) (.node (iz (IV.str x5)) (.node i6 (.node (iz (IV.arr 1)) .leaf .leaf) .leaf) .leaf) (.node (iz (IV.bfn 67 [(IV.ptr 0 0)])) .leaf .leaf)) (IS.mk (.node (iz (IObj.row (ou (IV.lst zd p.1) (ou (IV.int .i64 p.2.1) (ou (IV.int .i64 p.2.2.1) (ou (IV.int .i64 p.2.2.2.2.1) [(IV.lst TC.str p.2.2.2.1)])))))) (.node (iz (IObj.arr cExpr p.2.2.2.2.2)) .leaf .leaf) .leaf) 2) [] 0)
def qnm(lf:Nat)(x1:(Lz zb))(x2:Int)(x3:zf)(x4:(Lz Bq))(x5:Bq)(L2:((Lz zb) × Int × Int × (Lz Bq) × Int × (Lz zc))->Oq j7):Oq j7:=(bs (S.dExpr (x1,(x2,(x3,(x4,()))))) fun v0=>(L2 (v0.2.1.1,v0.2.1.2.1,v0.2.1.2.2.1.1,v0.2.1.2.2.2.1,v0.2.1.2.2.1.2,[(zl v0.1.1)])))
def qlj(lf:Nat)(x1:(Lz zb))(x2:Int)(x3:zf)(x4:(Lz Bq))(x5:Bq)(L2:((Lz zb) × Int × Int × (Lz Bq) × Int × (Lz zc))->Oq j7)(p:(Lz zb) × Int × Int × (Lz Bq) × Int × (Lz zc)):Oq j7:=(bs (S.dMay (p.1,(p.2.1,((p.2.2.1,p.2.2.2.2.1),(p.2.2.2.1,())))) x5) fun v0=>(cond v0.1.1 (bs (S.dExpr v0.2.1) fun v1=>(cond (og (o7 (o5 p.2.2.2.2.2.length 1) 56) 140737488355328) (L2 (v1.2.1.1,v1.2.1.2.1,v1.2.1.2.2.1.1,v1.2.1.2.2.2.1,v1.2.1.2.2.1.2,(oz p.2.2.2.2.2 [(zl v1.1.1)]))) i6)) (iz (fe ((p.2.2.2.2.2,()),v0.2)))))
theorem zrq(g:ElP [pkP,.dat .str,.bnd 67 0]->Oq j7)(J:Nat->Lz Nat->NRes->Oq j7)(lf:Nat)(x1:(Lz zb))(x2:Int)(x3:zf)(x4:(Lz Bq))(x5:Bq):zm oa ttT.get qc1 (mP [pkP,.dat .str,.bnd 67 0]) wx.nt (qjf _ lf) lf qgw J wx.body [] (zk (ze [pkP,.dat .str,.bnd 67 0] idN 0 ((x1,x2,x3,x4,()),x5,())) 0 .leaf) (Sc [pkP,.dat .str,.bnd 67 0] ((x1,x2,x3,x4,()),x5,())) [] (qd ttT.get wx ⟨[pkP,.dat .str,.bnd 67 0],[(eb,(.list cExpr))],113,pI,g⟩)=qnm lf x1 x2 x3 x4 x5 (fun q=>J 2 [lf] (qch x1 x2 x3 x4 x5 q)):=by kernel_rfl
theorem zw5(g:ElP [pkP,.dat .str,.bnd 67 0]->Oq j7)(J:Nat->Lz Nat->NRes->Oq j7)(lf:Nat)(x1:(Lz zb))(x2:Int)(x3:zf)(x4:(Lz Bq))(x5:Bq)(m1:Nat)(p:(Lz zb) × Int × Int × (Lz Bq) × Int × (Lz zc)):qj oa ttT.get qc1 (mP [pkP,.dat .str,.bnd 67 0]) wx.nt (qjf _ lf) lf qgw J 2 wx.body [] [m1] (qch x1 x2 x3 x4 x5 p) (qd ttT.get wx ⟨[pkP,.dat .str,.bnd 67 0],[(eb,(.list cExpr))],113,pI,g⟩)=qlj lf x1 x2 x3 x4 x5 (fun q=>J 2 [m1] (qch x1 x2 x3 x4 x5 q)) p:=by kernel_rfl
theorem q2m:(regs wx.body).Nodup:=by decide +kernel
theorem q89:okC qc1 qgw qry wx.body i6=i7:=by kernel_rfl
def Az28(g:ElP [pkP,.dat .str,.bnd 67 0]->Oq j7)(lf:Nat):Nat->Lz Nat->NRes->Oq j7:=atP oa ttT.get qc1 wx ⟨[pkP,.dat .str,.bnd 67 0],[(eb,(.list cExpr))],113,pI,g⟩ (qjf _ lf) lf qry
def s7(lf:Nat)(x1:(Lz zb))(x2:Int)(x3:zf)(x4:(Lz Bq))(x5:Bq):Nat->((Lz zb) × Int × Int × (Lz Bq) × Int × (Lz zc))->Oq j7:=rounds fun K p=>qlj lf x1 x2 x3 x4 x5 K p
theorem q9t(g:ElP [pkP,.dat .str,.bnd 67 0]->Oq j7)(lf:Nat)(x1:(Lz zb))(x2:Int)(x3:zf)(x4:(Lz Bq))(x5:Bq):∀(n:Nat) (p:(Lz zb) × Int × Int × (Lz Bq) × Int × (Lz zc)),Az28 g lf 2 [n] (qch x1 x2 x3 x4 x5 p)=s7 lf x1 x2 x3 x4 x5 n p
 | 0,p=>qo4 2 [0] rfl _
 | n+1,p=>by
  have ih:=q9t g lf x1 x2 x3 x4 x5 n;refine(qmb rfl (qg 20 _) q2m q89 2 [n+1] [n] rfl _).trans ((zw5 g (Az28 g lf) lf x1 x2 x3 x4 x5 n p).trans ?_);rw[(show (fun q=>Az28 g lf 2 [n] (qch x1 x2 x3 x4 x5 q))=(fun q=>s7 lf x1 x2 x3 x4 x5 n q) from funext ih)];rfl
def Fz28(lf:Nat)(x1:(Lz zb))(x2:Int)(x3:zf)(x4:(Lz Bq))(x5:Bq):Oq j7:=qnm lf x1 x2 x3 x4 x5 (fun q=>s7 lf x1 x2 x3 x4 x5 lf q)
theorem zx2(g:ElP [pkP,.dat .str,.bnd 67 0]->Oq j7)(lf:Nat)(x1:(Lz zb))(x2:Int)(x3:zf)(x4:(Lz Bq))(x5:Bq):zm oa ttT.get qc1 (mP [pkP,.dat .str,.bnd 67 0]) wx.nt (qjf _ lf) lf qgw (Az28 g lf) wx.body [] (zk (ze [pkP,.dat .str,.bnd 67 0] idN 0 ((x1,x2,x3,x4,()),x5,())) 0 .leaf) (Sc [pkP,.dat .str,.bnd 67 0] ((x1,x2,x3,x4,()),x5,())) [] (qd ttT.get wx ⟨[pkP,.dat .str,.bnd 67 0],[(eb,(.list cExpr))],113,pI,g⟩)=Fz28 lf x1 x2 x3 x4 x5:=by
  refine(zrq g (Az28 g lf) lf x1 x2 x3 x4 x5).trans ?_;rw[(show (fun q=>Az28 g lf 2 [lf] (qch x1 x2 x3 x4 x5 q))=(fun q=>s7 lf x1 x2 x3 x4 x5 lf q) from funext fun q=>q9t g lf x1 x2 x3 x4 x5 lf q)];rfl
theorem zuc(hp_d_parser_expr:ConP oa 67 cv)(hp_d_parser_may:ConP oa 138 ji):zv oa qow:=⟨z7 hp_d_parser_expr,⟨z7 hp_d_parser_may,trivial⟩⟩
theorem zg3{g:ElP [pkP,.dat .str,.bnd 67 0]->Oq j7}(hsm:SmOK oa qwc)(hp_d_parser_expr:ConP oa 67 cv)(hp_d_parser_may:ConP oa 138 ji)(hg:∀(x:ElP [pkP,.dat .str,.bnd 67 0]) (y:j7),WfP [pkP,.dat .str,.bnd 67 0] x->g x=iz y->∃lf,Fz28 lf x.1.1 x.1.2.1 x.1.2.2.1 x.1.2.2.2.1 x.2.1=iz y):ConP oa 328 ⟨[pkP,.dat .str,.bnd 67 0],[(eb,(.list cExpr))],113,pI,g⟩ :=
 conTP (nmf:=qc1) (sml:=qwc) (hxl:=qow) (st:=qgw) (hd:=qry) 20 mixed ttOK ftOK hsm (zuc hp_d_parser_expr hp_d_parser_may) znn (by kernel_rfl) (fun x=>by kernel_rfl) q2m q89 fun x y b a=>by
  obtain⟨lf,h⟩:=hg x y b a;exact⟨lf,(zx2 g lf x.1.1 x.1.2.1 x.1.2.2.1 x.1.2.2.2.1 x.2.1).trans h⟩
end
section
variable [Φ : Fuel] {l : Lz zb} {e : zf} {fm : Lz Bq} {A : Int} {k : Int} {s : Bq} {a : Nat}
theorem qqm{A C:Type}(x:Oq (A ⊕ C)):bs x (fun v=>iz (.inr v))=x:=by
 cases x with
 | none=>rfl
 | some v=>cases v<;>rfl
theorem capp{α β:Type}(F:α->β)(b:Bool)(x y:α):F (cond b x y)=cond b (F x) (F y):=by cases b<;>rfl
theorem qsn{α β:Type}(F:α->β)(s:Bq)(f:Int->Bool->α):F (S.lev s f)=S.lev s fun n b=>F (f n b):=by unfold S.lev;simp only[capp F]
theorem q83{α β:Type}(F:α->β)(s:Bq)(f:zc->Bool->α):F (S.wrd s f)=S.wrd s fun n b=>F (f n b):=by unfold S.wrd;simp only[capp F]
theorem qu8(ha:a<=l.length):S.dOperator (l,we a,e,fm,()) k=iz (.inr ((S.opT k (S.tkA (S.kts l) a),()),(l,we a,e,fm,()),())):=by
 unfold S.dOperator S.opr;rw[ck ha,<- retP ha]
theorem zuf(ha:a<=l.length)(lf:Nat):Fz21 lf l (we a) e fm k=S.dOperator (l,we a,e,fm,()) k:=by
 rw[qu8 ha];show bd (S.dPeek (l,we a,e,fm,()) 0) (fun c=>S.lev c.1.1.2.1 fun n b=>qen lf l (we a) e fm k (c.1.1.1,c.2.1.1,c.2.1.2.1,c.1.1.2.1,c.1.1.2.2.2,c.1.1.2.2.1,c.2.1.2.2.2.1,c.2.1.2.2.1.2,c.2.1.2.2.1.1,b,n))=_;rw[qbn ha,vd];have d:∀f:Int->Bool->Bq,(iz (fe ((S.lev (S.tkD l a).2.1 f,()),(l,we a,e,fm,()),())):Oq (DSl ⊕ ((Bq × Unit) × DPr × Unit)))=S.lev (S.tkD l a).2.1 fun n b=>iz (fe ((f n b,()),(l,we a,e,fm,()),())):=fun f=>qsn (fun o:Bq=>iz (fe ((o,()),(l,we a,e,fm,()),()))) _ f;unfold S.opT;rw[d];simp only[bd];congr 1;funext n b;unfold qen qwx
 grind
theorem zlv:ConP oa zug ql7:=zhw trivial qbc fun x y f h=>⟨0,mkP (F:=fun a b c d=>Fz21 0 a b c d x.2.1) h fun a e=>zuf e 0⟩
theorem zhp(lf:Nat):Fz22 lf l (we a) e fm=S.dRun un1 (l,we a,e,fm,()) (S.expr (Φ.n+1)):=by
 show bs (S.dLevel (l,we a,e,fm,()) 0) (fun b=>iz (.inr ((zl b.1.1,()),b.2)))=_;simp only[qz];exact qqm _
theorem zlm(lf:Nat)(op:Bq)(x y:zc):qqh lf op x y=iz (S.binE op x y,()):=by
 show iz ((we 7,op,we 0,[RExpr.mk (zl x),RExpr.mk (zl y)]),())=_;rw[qz,qz];rfl
theorem zsp:Con oa zev qxx:=zv4 trivial fun x y a h=>⟨0,(zlm 0 x.1 x.2.1 x.2.2.1).trans h⟩
theorem zzy(h:keqS (S.opT k (S.tkA (S.kts l) a)) (Go.Jx.S.lit [])=eb):a<l.length:=by
 by_cases b:a<l.length
 ·grind
 ·exfalso;rw[vd] at h;have:S.tkD l a=(0,⟨#[]⟩,0,0):=by unfold S.tkD;rw[p6 (by omega)]
  rw[this] at h;have c:keqS (S.opT k ((0:Int),(⟨#[]⟩:Bq))) (Go.Jx.S.lit [])=i7:=by kernel_rfl
  grind
theorem q7v(hl:l.length<=140737488355328):∀(j:Nat) (x:zc) (b:Nat),b<=l.length ->
  bs (S.dOperator (l,we b,e,fm,()) k) (fun v5=>qaq Φ.n l A e fm k j (v5.1.1,x.1,v5.2.1.1,v5.2.1.2.1,x.2.1,x.2.2.1,v5.2.1.2.2.1.2,v5.2.1.2.2.1.1,v5.2.1.2.2.2.1,unL x.2.2.2)) =
   S.dRun un1 (l,we b,e,fm,()) (S.levelL (S.level Φ.n) k j x)
 | 0,x,b,hb=>by rw[qu8 hb,vo hb];rfl
 | j+1,x,b,hb=>by
  have h0:S.dRun un1 (l,we b,e,fm,()) (S.levelL (S.level Φ.n) k (j+1) x)=S.dRun un1 (l,we b,e,fm,()) (cond (keqS (S.opT k (S.tkA (S.kts l) b)) (Go.Jx.S.lit [])) (.ret x) (.next (cond (ieqI k 0) ((S.level Φ.n k).bind fun y=>.ret (S.binE (S.opT k (S.tkA (S.kts l) b)) x y)) (cond (ieqI k 3) ((S.level Φ.n (S.add1 k)).bind fun y=>.ret (S.binE (S.opT k (S.tkA (S.kts l) b)) x y)) ((S.level Φ.n (S.add1 k)).bind fun y=>S.levelL (S.level Φ.n) k j (S.binE (S.opT k (S.tkA (S.kts l) b)) x y)))))):=by
   show S.dRun un1 _ (S.Pr.peek _)=_;rw[ck hb];rfl
  rw[h0,qu8 hb];generalize hop:S.opT k (S.tkA (S.kts l) b)=op;show qjz Φ.n l A e fm k (qaq Φ.n l A e fm k j) (op,x.1,l,we b,x.2.1,x.2.2.1,e.2,e.1,fm,unL x.2.2.2)=_;unfold qjz;simp only[qz,qj6];cases hk:keqS op (Go.Jx.S.lit []) with
  | true=>exact retP (f:=un1) hb
  | false =>
   have hlt:b<l.length:=zzy (k:=k) (by rw[hop];exact hk);have hb1:b+1<=l.length:=hlt;simp only[gh,xa,xe,qbz hl hb];rw[qc4 hlt];refine qcd (fun _=>?_) fun _=>qcd (fun _=>?_) fun _=>?_
   ·exact qq (f:=un1) (g:=un1) hb1 fun y c _ _ hc=>retP (f:=un1) hc
   ·exact qq (f:=un1) (g:=un1) hb1 fun y c _ _ hc=>retP (f:=un1) hc
   ·exact qq (f:=un1) (g:=un1) hb1 fun y c _ _ hc=>q7v hl j (S.binE op x y) c hc
theorem zrv(hl:l.length<=140737488355328)(ha:a<=l.length):Fz23 Φ.n l (we a) e fm k=S.dRun un1 (l,we a,e,fm,()) (S.level (Φ.n+1) k):=by
 show qnk Φ.n l (we a) e fm k (fun q=>qaq Φ.n l (we a) e fm k Φ.n q)=S.dRun un1 (l,we a,e,fm,()) (cond (ieqI k 6) (S.front Φ.n) ((S.level Φ.n (S.add1 k)).bind fun x=>S.levelL (S.level Φ.n) k Φ.n x));unfold qnk;simp only[qz];refine qcd (fun _=>qqm _) fun _=>?_;exact qq (f:=un1) (g:=un1) ha fun x b _ _ c=>q7v hl Φ.n x b c
theorem ziw(ha:a<=l.length)(lf:Nat):Fz24 lf l (we a) e fm=S.dRun un1 (l,we a,e,fm,()) (S.front (Φ.n+1)):=by
 show qjv lf l (we a) e fm=S.dRun un1 (l,we a,e,fm,()) (S.Pr.peek _);unfold qjv;rw[show (we 0)=(0:Int) from rfl,qbn ha,ck ha,vd];simp only[qz,bd];refine qq (f:=un1) (g:=un1) ha fun v b _ _ d=>?_;cases v with
 | true=>exact qq (f:=un1) (g:=un1) d fun y c _ _ h=>retP (f:=un1) h
 | false =>
  refine qq (f:=un1) (g:=un1) d fun v b _ _ d=>?_;cases v with
  | true=>exact qq (f:=un1) (g:=un1) d fun y c _ _ h=>retP (f:=un1) h
  | false =>
   refine qq (f:=un1) (g:=un1) d fun v b _ _ d=>?_;cases v with
   | true=>exact qq (f:=un1) (g:=un1) d fun y c _ _ h=>retP (f:=un1) h
   | false=>exact qqm _
theorem q27{α:Type}{T:Lz S.KT}{one:S.Pr α}:∀(n:Nat) {acc L:Lz α} {a b:Nat},S.run T a (S.more s one n acc)=iz (.inr (L,b))->L.length<=acc.length+n
 | 0,acc,L,a,b,h=>by cases h
 | n+1,acc,L,a,b,h=>by
  unfold S.more at h;rw[run_bind,qj8] at h;cases hk:S.isT (S.tkA T a) s with
  | false=>rw[hk] at h;cases h;omega
  | true =>
   rw[hk] at h;cases hb:oo a T.length with
   | false=>rw[hb] at h;cases h
   | true =>
    rw[hb] at h;simp only[xa] at h;rw[run_bind] at h;split at h<;>try cases h
    have:=q27 n h
    grind
theorem zdt{α:Type}{T:Lz S.KT}{one:S.Pr α}{n:Nat}{L:Lz α}{a b:Nat}(h:S.run T a (S.someT n s one)=iz (.inr (L,b))):L.length<=n+1:=by
 unfold S.someT at h;rw[run_bind] at h;split at h<;>try cases h
 have:=q27 n h
 grind
theorem zyn{T:Lz S.KT}{n:Nat}{L:Lz zc}{a b:Nat}(h:S.run T a (S.args n)=iz (.inr (L,b))):L.length<=n:=by
 cases n with
 | zero=>cases h
 | succ n =>
  unfold S.args at h;rw[run_bind,qj8] at h;cases c:S.isT (S.tkA T a) (Go.Jx.S.lit [40]) with
  | false=>rw[c] at h;cases h;exact pm _
  | true =>
   rw[c] at h;cases d:oo a T.length with
   | false=>rw[d] at h;cases h
   | true =>
    rw[d] at h;simp only[xa] at h;rw[run_bind] at h;split at h<;>try cases h
    rename_i g e;have f:=zdt e;rw[run_bind] at h;split at h<;>cases h
    grind
theorem qf9:∀L:Lz zc,unL (S.kid L)=L
 | []=>rfl
 | x::L=>xy (fun q=>x::q) (qf9 L)
theorem q8s(hl:l.length<=140737488355328):∀(j:Nat) (x:zc) (b:Nat),b<=l.length ->
  qar Φ.n l A e fm j (x.1,l,we b,x.2.1,x.2.2.1,fm,e.1,e.2,unL x.2.2.2)=S.dRun un1 (l,we b,e,fm,()) (S.callL (S.args Φ.n) j x)
 | 0,x,b,hb=>by rw[vo hb];rfl
 | j+1,x,b,hb=>by
  show qlw Φ.n l A e fm (qar Φ.n l A e fm j) (x.1,l,we b,x.2.1,x.2.2.1,fm,e.1,e.2,unL x.2.2.2)=_;unfold qlw S.callL;simp only[qz,qj6];refine qq (f:=un1) (g:=un1) hb fun v c _ _ hc=>?_;cases v with
  | false=>exact retP (f:=un1) hc
  | true =>
   refine qq (f:=un1) (g:=un1) hc fun nm c _ _ hc=>?_;refine qq (f:=un1) (g:=un1) hc fun L c hr _ hc=>?_;have hf:og (o7 (o5 1 L.length) 56) 140737488355328=i7:=by
    have:=zyn hr;have:=Φ.h;simp only[Nat.ble_eq]
    grind
   show cond (og (o7 (o5 1 L.length) 56) 140737488355328) _ i6=_;rw[hf];have h1:=q8s hl j (S.callE nm (we 1) (x::L)) c hc;rw[show unL (S.callE nm (we 1) (x::L)).2.2.2=x::L from qf9 _] at h1;exact h1
theorem zzx(hl:l.length<=140737488355328)(ha:a<=l.length):Fz25 Φ.n l (we a) e fm=S.dRun un1 (l,we a,e,fm,()) (S.call (Φ.n+1)):=by
 show qui Φ.n l (we a) e fm (fun q=>qar Φ.n l (we a) e fm Φ.n q)=S.dRun un1 (l,we a,e,fm,()) ((S.primary Φ.n).bind fun x=>S.callL (S.args Φ.n) Φ.n x);exact qq (f:=un1) (g:=un1) ha fun x b _ _ c=>q8s hl Φ.n x b c
theorem zgh(hl:l.length<=140737488355328)(ha:a<=l.length)(K:Oq (DSl ⊕ ((zc × Unit) × DPr × Unit)))(hK:K=(bs (S.dMay (l,we a,e,fm,()) (Go.Jx.S.lit [40])) fun v3=>cond v3.1.1 (bs (S.dExpr v3.2.1) fun v4=>bs (S.dMust v4.2.1 (Go.Jx.S.lit [41])) fun v5=>iz (fe ((v4.1.1,()),v5.2)))
  (bs (S.dMust v3.2.1 (Go.Jx.S.lit [97,116,116,97,99,104,101,100])) fun v9=>bs (S.dCall v9.2.1) fun v10=>bs (S.dMust v10.2.1 (Go.Jx.S.lit [97,115])) fun v11=>bs (S.dKind v11.2.1 (we 1)) fun v12=>iz (fe ((S.unE (we 10) v12.1.1 v10.1.1,()),v12.2))))) :
  K=S.dRun un1 (l,we a,e,fm,()) (S.prim2 (S.expr Φ.n) (S.call Φ.n)):=by
 rw[hK];refine qq (f:=un1) (g:=un1) ha fun v b _ _ j=>?_;cases v with
 | true=>exact qq (f:=un1) (g:=un1) j fun x c _ _ i=>qq (f:=un0) (g:=un1) i fun _ d _ _ h=>retP (f:=un1) h
 | false=>exact qq (f:=un0) (g:=un1) j fun _ c _ _ i=>qq (f:=un1) (g:=un1) i fun x d _ _ h=>qq (f:=un0) (g:=un1) h fun _ d _ _ h=>qq (f:=un1) (g:=un1) h fun k d _ _ h=>retP (f:=un1) h
theorem zjm(hl:l.length<=140737488355328)(ha:a<=l.length)(lf:Nat):Fz26 lf l (we a) e fm=S.dRun un1 (l,we a,e,fm,()) (S.primary (Φ.n+1)):=by
 have i:=zgh (e:=e) (fm:=fm) hl ha _ rfl;show qlt lf l (we a) e fm=S.dRun un1 (l,we a,e,fm,()) (S.Pr.peek _);unfold qlt;rw[show (we 0)=(0:Int) from rfl,qbn ha,ck ha,vd];simp only[qz,bd];refine qcd (fun h=>?_) fun _=>qcd (fun h=>?_) fun _=>qcd (fun h=>?_) fun _=>?_
 ·have d:a<l.length:=qhx (k:=4) (by decide) (by rw[vd];exact h);rw[qbz hl ha,qc4 d];exact retP (f:=un1) d
 ·have d:a<l.length:=qhx (k:=1) (by decide) (by rw[vd];exact h);rw[qbz hl ha,qc4 d];exact qq (f:=un1) (g:=un1) d fun L c _ _ j=>retP (f:=un1) j
 ·have d:a<l.length:=qhx (k:=3) (by decide) (by rw[vd];exact h);rw[q83 (S.dRun un1 (l,we a,e,fm,()))];rw[qbz hl ha,show (fun(x:zc) (b:Bool)=>S.dRun un1 (l,we a,e,fm,()) (cond b (S.Pr.next (S.Pr.ret x)) (S.prim2 (S.expr Φ.n) (S.call Φ.n))))=fun x b=>cond b (iz (fe ((x,()),(l,we (a+1),e,fm,()),()))) (S.dRun un1 (l,we a,e,fm,()) (S.prim2 (S.expr Φ.n) (S.call Φ.n))) from by
   funext x b;cases b with
   | false=>rfl
   | true=>rw[xa,qc4 d,<- retP d];rfl]
  rw[<- i];rfl
 ·exact i
theorem zgd(ha:a<=l.length)(lf:Nat):Fz27 lf l (we a) e fm=S.dRun un1 (l,we a,e,fm,()) (S.args (Φ.n+1)):=by
 show qib lf l (we a) e fm=S.dRun un1 (l,we a,e,fm,()) ((S.may (Go.Jx.S.lit [40])).bind _);unfold qib;refine qq (f:=un1) (g:=un1) ha fun v b _ _ h=>?_;cases v with
 | false=>exact retP (f:=un1) h
 | true=>exact qq (f:=un1) (g:=un1) h fun L c _ _ j=>qq (f:=un0) (g:=un1) j fun _ d _ _ i=>retP (f:=un1) i
theorem q9y(hl:l.length<=140737488355328):∀(j:Nat) (acc:Lz zc) (b:Nat),b<=l.length->acc.length+j<=Φ.n+1 ->
  s7 Φ.n l A e fm s j (l,we b,e.1,fm,e.2,acc)=S.dRun un1 (l,we b,e,fm,()) (S.more s (S.expr Φ.n) j acc)
 | 0,x,b,hb,_=>by rw[vo hb];rfl
 | j+1,acc,b,hb,hn=>by
  show qlj Φ.n l A e fm s (s7 Φ.n l A e fm s j) (l,we b,e.1,fm,e.2,acc)=_;unfold qlj S.more;simp only[qz];refine qq (f:=un1) (g:=un1) hb fun v c _ _ hc=>?_;cases v with
  | false=>exact retP (f:=un1) hc
  | true =>
   refine qq (f:=un1) (g:=un1) hc fun x c hr _ hc=>?_;have hf:og (o7 (o5 acc.length 1) 56) 140737488355328=i7:=by
    have:=Φ.h;simp only[Nat.ble_eq]
    grind
   show cond (og (o7 (o5 acc.length 1) 56) 140737488355328) _ i6=_;rw[hf];exact q9y hl j (acc++[x]) c hc (by simp;omega)
theorem zc6(hl:l.length<=140737488355328)(ha:a<=l.length):Fz28 Φ.n l (we a) e fm s=S.dRun un1 (l,we a,e,fm,()) (S.someT Φ.n s (S.expr Φ.n)):=by
 show qnm Φ.n l (we a) e fm s (fun q=>s7 Φ.n l (we a) e fm s Φ.n q)=S.dRun un1 (l,we a,e,fm,()) ((S.expr Φ.n).bind fun x=>S.more s (S.expr Φ.n) Φ.n [x]);unfold qnm;simp only[qz];exact qq (f:=un1) (g:=un1) ha fun x b _ _ c=>q9y hl Φ.n [x] b c (by simp;omega)
end
structure AllE (Φ:Fuel):Prop where
 expr:ConP oa qny cv
 level:ConP oa zpb qa8
 front:ConP oa zhh tb
 call:ConP oa ztk sp
 primary:ConP oa zcf qks
 args:ConP oa zz7 qa3
theorem qbh{P:om}{f:Nat}{s:SmP}(hc:zg P f)(h:∀x,s.f x=i6):ConP P f s:=⟨hc,fun E x b o a=>by rw[h] at a;cases a⟩
theorem qda{α ρ:Type}{f:α->ρ}{p:DPr}:S.dRun f p .stop=i6:=by
 unfold S.dRun;cases S.ok p<;>rfl
theorem q7n:AllE ⟨0,by omega⟩ where
 expr:=qbh q8t fun x=>qda
 level:=qbh q9l fun x=>qda
 front:=qbh q7p fun x=>qda
 call:=qbh q7g fun x=>qda
 primary:=qbh q72 fun x=>qda
 args:=qbh zaa fun x=>qda
theorem zwl[Φ:Fuel](h:ConP oa qny cv):ConP oa zn7 qnl :=
 zg3 trivial h qaz fun x y f e=>⟨Φ.n,mkP (F:=fun a b c d=>Fz28 Φ.n a b c d x.2.1) e fun a g=>zc6 (qa6 f.1.1) g⟩
theorem zte{Φ:Fuel}(h:AllE Φ)(h':Φ.n+1<=68719476736):AllE ⟨Φ.n+1,h'⟩ where
 expr:=zux trivial h.level fun x y g e=>⟨0,mkP (F:=fun a b c d=>Fz22 0 a b c d) e fun a f=>zhp 0⟩
 level:=zd0 ⟨zsp,trivial⟩ h.front h.level zlv fun x y g e=>⟨Φ.n,mkP (F:=fun a b c d=>Fz23 Φ.n a b c d x.2.1) e fun a f=>zrv (qa6 g.1.1) f⟩
 front:=znw trivial qbc qaz h.front h.call fun x y g e=>⟨0,mkP (F:=fun a b c d=>Fz24 0 a b c d) e fun a f=>ziw f 0⟩
 call:=zd9 trivial h.primary qaz qvz h.args fun x y g e=>⟨Φ.n,mkP (F:=fun a b c d=>Fz25 Φ.n a b c d) e fun a f=>zzx (qa6 g.1.1) f⟩
 primary:=zqm ⟨q82,trivial⟩ qbc h.args qaz h.expr qw2 h.call qvz fun x y g e=>⟨0,mkP (F:=fun a b c d=>Fz26 0 a b c d) e fun a f=>zjm (qa6 g.1.1) f 0⟩
 args:=zih trivial qaz qw2 (zwl h.expr) fun x y g e=>⟨0,mkP (F:=fun a b c d=>Fz27 0 a b c d) e fun a f=>zgd f 0⟩
theorem allE:∀(n:Nat) (h:n<=68719476736),AllE ⟨n,h⟩
 | 0,_=>q7n
 | n+1,h=>zte (allE n (by omega)) h
def lim{α:Type}(g:Nat->Oq α):Oq α:=open Classical in if h:∃n,n<=68719476736/\∃y,g n=iz y then g (Classical.choose h) else i6
theorem nx{α:Type}{g:Nat->Oq α}{y:α}(h:lim g=iz y):∃n,n<=68719476736/\g n=iz y:=by
 unfold lim at h;split at h
 ·rename_i a;exact⟨_,(Classical.choose_spec a).1,h⟩
 ·cases h
theorem qh6{α:Type}{g:Nat->Oq α}{n:Nat}{y:α}(hn:n<=68719476736)(h:g n=iz y):∃y,lim g=iz y:=by
 have a:∃n,n<=68719476736/\∃y,g n=iz y:=⟨n,hn,y,h⟩;unfold lim;rw[dif_pos a];exact(Classical.choose_spec a).2
namespace S
def dLim{α ρ:Type}(f:α->ρ)(p:DPr)(r:Lz KT->Nat->PR α):Oq (DSl ⊕ (ρ × DPr × Unit)):=cond (ok p) (out f p (r (kts p.1) p.2.1.toNat)) i6
def exprR(T:Lz KT)(a:Nat):PR zc:=lim fun n=>run T a (expr n)
def dExprR(p:DPr):Oq (DSl ⊕ ((zc × Unit) × DPr × Unit)):=dLim un1 p exprR
end S
theorem zkg{α ρ:Type}{f:α->ρ}{p:DPr}{t:Nat->S.Pr α}{y}(h:S.dLim f p (fun T a=>lim fun n=>S.run T a (t n))=iz y):∃n,n<=68719476736/\S.dRun f p (t n)=iz y:=by
 obtain⟨g,b⟩:=yx h;cases c:lim fun n=>S.run (S.kts p.1) p.2.1.toNat (t n) with
 | none =>
  have b:S.out f p (lim fun n=>S.run (S.kts p.1) p.2.1.toNat (t n))=iz y:=b;rw[c] at b;cases b
 | some r =>
  have b:S.out f p (lim fun n=>S.run (S.kts p.1) p.2.1.toNat (t n))=iz y:=b;obtain⟨n,d,e⟩:=nx c;rw[c] at b;refine⟨n,d,?_⟩;unfold S.dRun;rw[g,e];exact b
def tc:SmP:=⟨[pkP],[(eb,cExpr)],113,pI,fun x=>S.dExprR x.1⟩
theorem q7f:ConP oa qny tc:=⟨q7n.expr.callable,fun E x a o d p b=>by
 obtain⟨n,c,h⟩:=zkg (t:=S.expr) d;have e:=(allE n c).expr.calls E x a o h p b;cases o<;>exact e⟩
section
def Tot{α:Type}(d c:Nat)(t:S.Pr α):Prop:=∀(T:Lz S.KT) (a:Nat),a<=T.length->T.length<=a+d->∃r,S.run T a t=iz r/\∀v b,r=.inr (v,b)->a+c<=b
section
variable {α β : Type} {d c : Nat}
theorem Tot.ret{v:α}:Tot d 0 (.ret v):=fun T a e c=>⟨_,rfl,fun v b h=>by cases h;omega⟩
theorem Tot.fail{e:Int}:Tot d c (.fail e:S.Pr α):=fun T a g f=>⟨_,rfl,fun v b h=>by cases h⟩
theorem Tot.le{t:S.Pr α}{c' d':Nat}(h:Tot d c t)(hc:c'<=c)(hd:d'<=d):Tot d' c' t:=fun T a b g=>by
 obtain⟨r,f,e⟩:=h T a b (by omega)
 grind
theorem Tot.bind{t:S.Pr α}{f:α->S.Pr β}{c' d':Nat}(h:Tot d c t)(k:∀v,c<=d->Tot (d-c) (c'-c) (f v)):Tot d c' (t.bind f):=fun T a i m=>by
 obtain⟨r,g,j⟩:=h T a i m;rw[run_bind,g];cases r with
 | inl q=>exact⟨_,rfl,fun v b e=>by cases e⟩
 | inr q =>
  obtain⟨v,b⟩:=q;have p:=j v b rfl;have l:=(kh g).2 i;obtain⟨r,o,n⟩:=k v (by omega) T b l (by omega)
  grind
theorem Tot.peek{k:S.KT->S.Pr α}(h0:∀t,t.1=0->Tot d c (k t))(h:∀t,¬t.1=0->∀(T:Lz S.KT) (a:Nat),a<T.length->T.length<=a+d->∃r,S.run T a (k t)=iz r/\∀v b,r=.inr (v,b)->a+c<=b):Tot d c (.peek k):=fun T a i f=>by
 show ∃r,S.run T a (k (S.tkA T a))=iz r/\_;by_cases e:(S.tkA T a).1=0
 ·exact h0 _ e T a i f
 ·refine h _ e T a ?_ f;by_cases g:a<T.length
  ·grind
  ·exfalso;apply e;unfold S.tkA;rw[p6 (by omega)]
theorem Tot.next{k:S.Pr α}{T:Lz S.KT}{a:Nat}(hlt:a<T.length)(h2:T.length<=a+d)(h:Tot (d-1) (c-1) k):∃r,S.run T a (.next k)=iz r/\∀v b,r=.inr (v,b)->a+c<=b:=by
 obtain⟨r,g,f⟩:=h T (a+1) hlt (by omega);refine⟨r,?_,fun v b e=>by have:=f v b e;omega⟩;show cond (oo a T.length) _ i6=_;rw[show oo a T.length=i7 by simpa using hlt]
 grind
theorem zwq{t:S.KT}{s:Bq}(h:t.1=0):S.isT t s=eb:=by unfold S.isT;rw[h];cases keqS t.2 s<;>rfl
theorem Tot.may{s:Bq}{X Y:S.Pr α}(hX:1<=d->Tot (d-1) (c-1) X)(hY:Tot d c Y):Tot d c ((S.may s).bind fun b=>cond b X Y):=fun T a h g=>by
 rw[run_bind,qj8];cases f:S.isT (S.tkA T a) s with
 | false=>exact hY T a h g
 | true =>
  have e:a<T.length:=by
   by_cases e:a<T.length
   ·grind
   ·rw[zwq (by unfold S.tkA;rw[p6 (by omega)])] at f;cases f
  rw[show oo a T.length=i7 by simpa using e];obtain⟨r,j,i⟩:=hX (by omega) T (a+1) e (by omega)
  grind
theorem Tot.must{s:Bq}{X:Unit->S.Pr α}(hX:1<=d->Tot (d-1) (c-1) (X ())):Tot d c ((S.must s).bind X):=by
 have h:(S.must s).bind X=(S.may s).bind fun b=>cond b (X ()) (.fail 2):=by
  unfold S.must S.may;simp only[S.Pr.bind];congr 1;funext t;cases S.isT t s<;>rfl
 rw[h];exact Tot.may hX Tot.fail
theorem Tot.kind{k:Int}(hk:¬k=0):Tot d 1 (S.kind k):=Tot.peek (fun t h=>by
  show Tot d 1 (cond (ieqI t.1 k) _ _);rw[zx,h,xq (fun e=>hk e.symm)];exact Tot.fail) fun t h T a f c=>by
 show ∃r,S.run T a (cond (ieqI t.1 k) _ _)=iz r/\_;cases ieqI t.1 k with
 | false=>exact⟨_,rfl,fun v b e=>by cases e⟩
 | true=>exact Tot.next f c Tot.ret
theorem Tot.more{s:Bq}{one:S.Pr α}:∀(n:Nat) {d:Nat} {acc:Lz α},d<n->(1<=d->Tot (d-1) 0 one)->Tot d 0 (S.more s one n acc)
 | 0,d,acc,h,_=>absurd h (by omega)
 | n+1,d,acc,h,h1=>by
  unfold S.more;refine Tot.may (fun hd=>?_) Tot.ret;refine Tot.bind (d':=0) (c:=0) (h1 hd) fun v _=>?_;exact Tot.more n (by omega) fun hd2=>(h1 hd).le (by omega) (by omega)
theorem Tot.some{s:Bq}{one:S.Pr α}{n:Nat}(h:d<n)(h1:Tot d 1 one):Tot d 1 (S.someT n s one):=by
 unfold S.someT;exact Tot.bind (d':=0) h1 fun v b=>Tot.more n (by omega) fun a=>h1.le (by omega) (by omega)
theorem Tot.levelL{L:Int->S.Pr zc}{k:Int}:∀(n:Nat) {d:Nat} {x:zc},d<n->(1<=d->Tot (d-1) 0 (L k)/\Tot (d-1) 0 (L (S.add1 k)))->Tot d 0 (S.levelL L k n x)
 | 0,d,x,h,_=>absurd h (by omega)
 | n+1,d,x,h,h1=>by
  unfold S.levelL;show Tot d 0 (.peek fun t=>cond (keqS (S.opT k t) (Go.Jx.S.lit [])) _ _);refine Tot.peek (fun t ht=>?_) fun t _ T a hlt hd=>?_
  ·have h2:keqS (S.opT k t) (Go.Jx.S.lit [])=i7:=by
    unfold S.opT;rw[ht];have key:∀(n:Int) (b:Bool),cond b (cond (ieqI n k) (cond (ieqI 0 3) t.2 (cond (ieqI 0 5) t.2 (Go.Jx.S.lit []))) (Go.Jx.S.lit [])) (Go.Jx.S.lit [])=Go.Jx.S.lit []:=fun n b=>by
     cases b
     ·rfl
     ·cases ieqI n k<;>rfl
    simp only[key];rw[<- qsn (Φ:=⟨0,by omega⟩) (fun _:Unit=>Go.Jx.S.lit []) t.2 fun _ _=>()];rfl
   rw[h2];exact Tot.ret
  ·cases keqS (S.opT k t) (Go.Jx.S.lit []) with
   | true=>exact⟨_,rfl,fun v b e=>by cases e;omega⟩
   | false =>
    obtain⟨h2,h3⟩:=h1 (by omega);refine Tot.next (d:=d) (c:=0) hlt hd ?_
    cases ieqI k 0
    ·cases ieqI k 3
     ·exact Tot.bind (d':=0) (c:=0) h3 fun v _=>Tot.levelL n (by omega) fun hd2=>⟨h2.le (by omega) (by omega),h3.le (by omega) (by omega)⟩
     ·exact Tot.bind (d':=0) (c:=0) h3 fun v _=>Tot.ret
    ·exact Tot.bind (d':=0) (c:=0) h2 fun v _=>Tot.ret
theorem Tot.callL{B:S.Pr (Lz zc)}:∀(n:Nat) {d:Nat} {x:zc},d<n->(1<=d->Tot (d-1) 0 B)->Tot d 0 (S.callL B n x)
 | 0,d,x,h,_=>absurd h (by omega)
 | n+1,d,x,h,h1=>by
  unfold S.callL;refine Tot.may (fun hd=>?_) Tot.ret;refine Tot.bind (d':=0) (Tot.kind (by decide)) fun nm hd1=>?_;refine Tot.bind (d':=0) (c:=0) ((h1 hd).le (by omega) (by omega)) fun L _=>?_;exact Tot.callL n (by omega) fun hd2=>(h1 hd).le (by omega) (by omega)
end
structure TotE (n:Nat):Prop where
 expr:∀d,20*d+11<n->Tot d 1 (S.expr n)
 level:∀(d k:Nat),k<=6->20*d+10-k<n->Tot d 1 (S.level n k)
 front:∀d,20*d+3<n->Tot d 1 (S.front n)
 call:∀d,20*d+2<n->Tot d 1 (S.call n)
 primary:∀d,20*d+1<n->Tot d 1 (S.primary n)
 args:∀d,20*d+1<n->Tot d 0 (S.args n)
theorem totE:∀n,TotE n
 | 0=>⟨fun d h=>by omega,fun d k _ h=>by omega,fun d h=>by omega,fun d h=>by omega,fun d h=>by omega,fun d h=>by omega⟩
 | n+1=>by
  have ih:=totE n;have hadd:∀k:Nat,k<6->S.add1 k=((k+1:Nat):Int):=fun k hk=>by
   show IntKind.i64.wrap ((k:Int)+1)=_;rw[w64 (by omega) (by omega)];omega
  refine⟨fun d h=>?_,fun d k hk h=>?_,fun d h=>?_,fun d h=>?_,fun d h=>?_,fun d h=>?_⟩
  ·exact ih.level d 0 (by omega) (by omega)
  ·show Tot d 1 (cond (ieqI k 6) _ _);by_cases h6:k=6
   ·subst h6;exact ih.front d (by omega)
   ·rw[zx,xq (by omega)];have hL:Tot d 1 (S.level n (S.add1 k)):=by rw[hadd k (by omega)];exact ih.level d (k+1) (by omega) (by omega)
    refine Tot.bind (d':=0) hL fun x hd=>?_;exact Tot.levelL n (by omega) fun hd2=>⟨(ih.level (d-1-1) k hk (by omega)).le (by omega) (by omega),hL.le (by omega) (by omega)⟩
  ·unfold S.front;refine Tot.peek (fun t ht=>?_) fun t _ T a hlt hd=>?_;all_goals
    have key:Tot d 1 ((S.may (Go.Jx.S.lit [45])).bind fun b=>cond b ((S.front n).bind fun x=>.ret (S.unE (we 8) t.2 x)) ((S.may (Go.Jx.S.lit [110,111,116])).bind fun b=>cond b ((S.front n).bind fun x=>.ret (S.unE (we 8) t.2 x))
      ((S.may (Go.Jx.S.lit [111,108,100])).bind fun b=>cond b ((S.front n).bind fun x=>.ret (S.unE (we 9) (Go.Jx.S.lit []) x)) (S.call n)))):=by
     have hf:1<=d->Tot (d-1) 1 (S.front n):=fun hd=>ih.front (d-1) (by omega);refine Tot.may (fun hd=>?_) (Tot.may (fun hd=>?_) (Tot.may (fun hd=>?_) (ih.call d (by omega))));all_goals exact Tot.bind (d':=0) (hf hd) fun x _=>Tot.ret
   ·grind
   ·exact key T a (by omega) hd
  ·exact Tot.bind (d':=0) (ih.primary d (by omega)) fun x hd=>Tot.callL n (by omega) fun hd2=>(ih.args (d-1) (by omega)).le (by omega) (by omega)
  ·have key:Tot d 1 (S.prim2 (S.expr n) (S.call n)):=by
    unfold S.prim2;refine Tot.may (fun hd=>?_) (Tot.must fun hd=>?_)
    ·refine Tot.bind (d':=0) (ih.expr (d-1) (by omega)) fun x hd1=>Tot.must fun hd2=>Tot.ret
    ·refine Tot.bind (d':=0) (ih.call (d-1) (by omega)) fun x hd1=>Tot.must fun hd2=>?_;exact Tot.bind (d':=0) (Tot.kind (by decide)) fun nm _=>Tot.ret
   unfold S.primary;refine Tot.peek (fun t ht=>?_) fun t _ T a hlt hd=>?_
   ·rw[ht];exact key
   ·cases ieqI t.1 4 with
    | true=>exact Tot.next hlt hd Tot.ret
    | false =>
     cases ieqI t.1 1 with
     | true=>exact Tot.next hlt hd (Tot.bind (d':=0) (c:=0) ((ih.args (d-1) (by omega)).le (by omega) (by omega)) fun L _=>Tot.ret)
     | false =>
      cases ieqI t.1 3 with
      | false=>exact key T a (by omega) hd
      | true =>
       simp only[xe,xa];rw[q83 (Φ:=⟨0,by omega⟩) (S.run T a)];have hall:∀(x:zc) (b:Bool),∃r,S.run T a (cond b (.next (.ret x)) (S.prim2 (S.expr n) (S.call n)))=iz r/\∀v b,r=.inr (v,b)->a+1<=b:=fun x b=>by
        cases b with
        | false=>exact key T a (by omega) hd
        | true=>exact Tot.next (d:=d) hlt hd Tot.ret
       have:∀(s:Bq) (f:zc->Bool->S.PR zc),(∀x b,∃r,f x b=iz r/\∀v b,r=.inr (v,b)->a+1<=b)->∃r,S.wrd s f=iz r/\∀v b,r=.inr (v,b)->a+1<=b:=fun s f hf=>by
        unfold S.wrd;repeat' (first|exact hf _ _|(cases keqS s _))
       exact this _ _ hall
  ·unfold S.args;refine Tot.may (fun hd=>?_) Tot.ret;refine Tot.bind (d':=0) (Tot.some (by omega) (ih.expr (d-1) (by omega))) fun L hd1=>Tot.must fun hd2=>Tot.ret
theorem q3g{T:Lz S.KT}{a:Nat}(ha:a<=T.length)(hT:T.length<=2147483648):∃r,S.exprR T a=iz r:=by
 obtain⟨r,h,_⟩:=(totE (20*T.length+12)).expr T.length (by omega) T a ha (by omega);exact qh6 (g:=fun n=>S.run T a (S.expr n)) (by omega) h
theorem qq4{T:Lz S.KT}{a:Nat}{r}(h:S.exprR T a=iz r):∃n,S.run T a (S.expr n)=iz r:=by
 obtain⟨n,_,h⟩:=nx h
 grind
end
section
abbrev DWr:Type:=Lz Bq × Unit
abbrev pkW:PK:=.ref (.box [.arr .str])
namespace S
def depL(f:zc->Oq Int):Lz zc->Int->Oq Int
 | [],m=>iz m
 | x::l,m=>match f x with
  | none=>i6
  | some d=>depL f l (imax m d)
def dep:Nat->zc->Oq Int
 | 0,_=>i6
 | n+1,x=>match depL (dep n) (unL x.2.2.2) 0 with
  | none=>i6
  | some m=>iz (IntKind.i64.wrap (oe m (we 1)))
def oU{α:Type}(r:Oq α):Oq (α × Unit):=match r with
 | none=>i6
 | some v=>iz (v,())
def eqL(f:zc->zc->Oq Bool):Lz zc->Lz zc->Oq Bool
 | [],_=>iz i7
 | x::l,[]=>i6
 | x::l,y::m=>match f x y with
  | none=>i6
  | some b=>cond b (eqL f l m) (iz eb)
def eqQ(f:zc->zc->Oq Bool)(l m:Lz zc):Oq Bool:=cond (ieqI (we l.length) (we m.length)) (eqL f l m) (iz eb)
def eqE:Nat->zc->zc->Oq Bool
 | 0,_,_=>i6
 | n+1,x,y=>cond (ieqI x.1 y.1) (cond (keqS x.2.1 y.2.1) (cond (ieqI x.2.2.1 y.2.2.1) (eqQ (eqE n) (unL x.2.2.2) (unL y.2.2.2)) (iz eb)) (iz eb)) (iz eb)
def levelOf(x:zc):Int:=cond (ieqI x.1 7) (lev x.2.1 fun n _=>n) (cond (ieqI x.1 8) 6 (cond (ieqI x.1 9) 6 7))
def itoa(n:Int):Bq:=⟨(Lib.itoa n).toArray⟩
def cat(r q:Oq (Lz Bq)):Oq (Lz Bq):=match r with
 | none=>i6
 | some a=>match q with
  | none=>i6
  | some b=>iz (a++b)
def within(f:zc->Oq (Lz Bq))(x:zc)(k:Int):Oq (Lz Bq):=cond (iltI (levelOf x) k) (cat (iz [(Go.Jx.S.lit [40])]) (cat (f x) (iz [(Go.Jx.S.lit [41])]))) (f x)
def zE:zc:=(we 0,Go.Jx.S.lit [],we 0,[])
def kidAt(l:Lz zc)(i:Nat):zc:=match l[i]? with
 | some x=>x
 | none=>zE
def wlist(f:zc->Oq (Lz Bq))(s:Bq):Lz zc->Nat->Oq (Lz Bq)
 | [],_=>iz []
 | x::l,i=>cat (cond (iltI 0 (we i)) (iz [s]) (iz [])) (cat (f x) (wlist f s l (i+1)))
def wargs(f:zc->Oq (Lz Bq))(l:Lz zc):Oq (Lz Bq):=cond (iltI 0 (we l.length)) (cat (iz [(Go.Jx.S.lit [40])]) (cat (wlist f (Go.Jx.S.lit [44]) l 0) (iz [(Go.Jx.S.lit [41])]))) (iz [])
def leftOf(n:Int):Int:=cond (ieqI n 0) (add1 n) (cond (ieqI n 3) (add1 n) n)
def rightOf(n:Int):Int:=cond (ieqI n 0) n (add1 n)
def wexpr:Nat->zc->Oq (Lz Bq)
 | 0,_=>i6
 | n+1,x=>cond (ieqI x.1 1) (iz [itoa x.2.2.1]) (cond (ieqI x.1 2) (cond (ieqI x.2.2.1 1) (iz [(Go.Jx.S.lit [84,114,117,101])]) (iz [(Go.Jx.S.lit [70,97,108,115,101])])) (cond (ieqI x.1 3) (iz [(Go.Jx.S.lit [86,111,105,100])]) (cond (ieqI x.1 4) (iz [(Go.Jx.S.lit [67,117,114,114,101,110,116])]) (cond (ieqI x.1 5) (iz [(Go.Jx.S.lit [82,101,115,117,108,116])])
  (cond (ieqI x.1 6) (cond (ieqI x.2.2.1 1&&iltI 0 (we (unL x.2.2.2).length)) (cat (within (wexpr n) (kidAt (unL x.2.2.2) 0) 7) (cat (iz [(Go.Jx.S.lit [46])]) (cat (iz [x.2.1]) (wargs (wexpr n) ((unL x.2.2.2).drop 1))))) (cat (iz [x.2.1]) (wargs (wexpr n) (unL x.2.2.2))))
  (cond (ieqI x.1 7) (cat (within (wexpr n) (kidAt (unL x.2.2.2) 0) (leftOf (levelOf x))) (cat (iz [x.2.1]) (within (wexpr n) (kidAt (unL x.2.2.2) 1) (rightOf (levelOf x)))))
  (cond (ieqI x.1 8) (cat (iz [x.2.1]) (within (wexpr n) (kidAt (unL x.2.2.2) 0) 6)) (cond (ieqI x.1 9) (cat (iz [(Go.Jx.S.lit [111,108,100])]) (within (wexpr n) (kidAt (unL x.2.2.2) 0) 6))
  (cond (ieqI x.1 10) (cat (iz [(Go.Jx.S.lit [97,116,116,97,99,104,101,100])]) (cat (within (wexpr n) (kidAt (unL x.2.2.2) 0) 7) (iz [(Go.Jx.S.lit [97,115]),x.2.1]))) (iz [Go.Jx.S.lit []]))))))))))
def wPut(w:DWr)(r:Oq (Lz Bq)):Oq (Unit × DWr × Unit):=match r with
 | none=>i6
 | some l=>cond (og ((w.1.length+l.length)*16) 140737488355328) (iz ((),(w.1++l,()),())) i6
def wtokL:Lz Bq->Lz zb->Lz zb × Bool
 | [],acc=>(acc,i7)
 | s::l,acc=>cond (ieqI (shape s).2 0) (wtokL l (acc++[((shape s).1,s,0,0)])) ([],eb)
def wTokens(w:DWr):Oq ((Lz zb × Bool × Unit) × DWr × Unit):=cond (og w.1.length 1099511627776) (iz (((wtokL w.1 []).1,(wtokL w.1 []).2,()),w,())) i6
section
variable [Φ : Fuel]
def dDepth(x:zc):Oq ((Int × Unit) × Unit):=oU (oU (dep Φ.n x))
def dSame(x y:zc):Oq (Bool × Unit):=oU (eqE Φ.n x y)
def dEqQ(l m:Lz zc):Oq ((Bool × Unit) × Unit):=match eqQ (eqE Φ.n) l m with
 | none=>i6
 | some b=>iz ((b,()),())
def dExprW(w:DWr)(x:zc):Oq (Unit × DWr × Unit):=wPut w (wexpr Φ.n x)
def dWithin(w:DWr)(x:zc)(k:Int):Oq (Unit × DWr × Unit):=wPut w (within (wexpr Φ.n) x k)
def dArgsW(w:DWr)(l:Lz zc):Oq (Unit × DWr × Unit):=wPut w (wargs (wexpr Φ.n) l)
def dListW(w:DWr)(s:Bq)(l:Lz zc):Oq (Unit × DWr × Unit):=wPut w (wlist (wexpr Φ.n) s l 0)
end
def dPut(w:DWr)(l:Lz Bq):Oq (Unit × DWr × Unit):=wPut w (iz l)
end S
def qsm:Sm:=⟨[cExpr],[(eb,.int .i64)],fun x=>iz (S.levelOf x.1,())⟩
def wl:SmR:=⟨[pkW,.dat (.list .str)],[],fun x=>S.dPut x.1 x.2.1⟩
def qhb:SmR:=⟨[pkW],[(eb,.list zd),(eb,.bool)],fun x=>S.wTokens x.1⟩
def qdw:Sm:=⟨[.int .i64],[(eb,.str)],fun x=>iz (S.itoa x.1,())⟩
section
variable [Φ : Fuel]
def qea:SmR:=⟨[.dat cExpr],[(eb,.int .i64)],fun x=>S.dDepth x.1⟩
def qi6:Sm:=⟨[cExpr,cExpr],[(eb,.bool)],fun x=>S.dSame x.1 x.2.1⟩
def qi1:SmR:=⟨[.dat (.list cExpr),.dat (.list cExpr),.fn 91],[(eb,.bool)],fun x=>S.dEqQ x.1 x.2.1⟩
def yu:SmR:=⟨[pkW,.dat cExpr],[],fun x=>S.dExprW x.1 x.2.1⟩
def qil:SmR:=⟨[pkW,.dat cExpr,.dat (.int .i64)],[],fun x=>S.dWithin x.1 x.2.1 x.2.2.1⟩
def qlh:SmR:=⟨[pkW,.dat (.list cExpr)],[],fun x=>S.dArgsW x.1 x.2.1⟩
def qm3:SmR:=⟨[pkW,.dat .str,.dat (.list cExpr),.bnd 89 0],[],fun x=>S.dListW x.1 x.2.1 x.2.2.1⟩
end
end
section
variable [Φ : Fuel]
abbrev qid:Type:=Int × Unit
abbrev zpd:Nat:=169
def zv2(lf:Nat)(x1:zc):Oq qid:=(cond (ieqI x1.1 (we 7)) (cond (ow (Eq x1.2.1 (S.lit [105,109,112,108,105,101,115]))) (iz ((we 0),())) (cond (ow (Eq x1.2.1 (S.lit [111,114]))) (iz ((we 1),())) (cond (ow (Eq x1.2.1 (S.lit [97,110,100]))) (iz ((we 2),())) (cond (ow (Eq x1.2.1 (S.lit [61]))) (iz ((we 3),())) (cond (ow (Eq x1.2.1 (S.lit [47,61]))) (iz ((we 3),())) (cond (ow (Eq x1.2.1 (S.lit [60]))) (iz ((we 3),())) (cond (ow (Eq x1.2.1 (S.lit [60,61]))) (iz ((we 3),())) (cond (ow (Eq x1.2.1 (S.lit [62]))) (iz ((we 3),())) (cond (ow (Eq x1.2.1 (S.lit [62,61]))) (iz ((we 3),())) (cond (ow (Eq x1.2.1 (S.lit [43]))) (iz ((we 4),())) (cond (ow (Eq x1.2.1 (S.lit [45]))) (iz ((we 4),())) (cond (ow (Eq x1.2.1 (S.lit [42]))) (iz ((we 5),())) (cond (ow (Eq x1.2.1 (S.lit [47,47]))) (iz ((we 5),())) (cond (ow (Eq x1.2.1 (S.lit [37]))) (iz ((we 5),())) (iz ((we 0),())))))))))))))))) (cond (ieqI x1.1 (we 8)) (cond (ieqI x1.1 (we 8)) (iz ((we 6),())) (iz ((we 7),()))) (cond (ieqI x1.1 (we 9)) (iz ((we 6),())) (iz ((we 7),())))))
def qo1(lf:Nat)(x1:zc):Oq qid:=zv2 lf x1
theorem zlk{g:ElA [cExpr]->Oq qid}(hsm:SmOK oa [])(hg:∀(x:ElA [cExpr]) (y:qid),WfA [cExpr] x->g x=iz y->∃lf,qo1 lf x.1=iz y):Con oa 169 ⟨[cExpr],[(eb,(.int .i64))],g⟩ :=
 conU (fi:=q0v) (hxl:=[]) (fun lf x=>qo1 lf x.1) cm3 zot trivial hsm hg
def qgv:Nat->Oq Nm:=fun k=>cond (od k 3) (iz ⟨[3,7,8,9],[],[],[],[],0,0,eb⟩) (cond (od k 999999) (iz ⟨[],[],[],[],[],0,0,eb⟩) i6)
def qgt:Nat->Bool:=fun k=>cond (od k 3) i7 (eb)
def qoq:=qgt
abbrev vj:Type:=(Int × Unit) × Unit
def qot:Lz (Nat × Sm):=[]
def qrx:Lz (Nat × Hx):=[(54,hxR qea)]
def qvh(R:Type)(lf:Nat):ClK R:=zn oa ttT.get ftT.get (fun _ _=>i6) (smL qot) (hxL qrx) lf 20 R
def qb4(x1:zc)(p:Int × Int):NRes:=(NRes.mk (.node i6 (.node i6 (.node (iz (IV.int .i64 p.1)) (.node (iz (IV.lst cExpr (fc (fun v5815=>(match v5815 with|.mk v5816=>v5816)) x1.2.2.2))) .leaf .leaf) .leaf) (.node i6 (.node (iz (IV.int .i64 p.2)) .leaf .leaf) .leaf)) (.node i6 (.node i6 (.node (iz (IV.int .i64 (we (oq (fc (fun v5817=>(match v5817 with|.mk v5818=>v5818)) x1.2.2.2))))) .leaf .leaf) .leaf) .leaf)) (IS.mk .leaf 0) [] 0)
def q2a(lf:Nat)(x1:zc)(L3:(Int × Int)->Oq vj):Oq vj:=(L3 ((we 0),(we 0)))
def qls(lf:Nat)(x1:zc)(L3:(Int × Int)->Oq vj)(p:Int × Int):Oq vj:=(cond (iltI p.2 (we (oq (unL x1.2.2.2)))) (bd (jget (unL x1.2.2.2) p.2) fun v4=>(bd (S.dDepth (zl v4)) fun v8=>(L3 ((imax p.1 v8.1.1),(IntKind.i64.wrap (oe p.2 (we 1))))))) (iz (((IntKind.i64.wrap (oe p.1 (we 1))),()),())))
abbrev gz29:Type:=ElP [.dat cExpr]->Oq vj
abbrev sz29(g:gz29):SmR:=⟨[.dat cExpr],[(eb,(.int .i64))],g⟩
abbrev Ez29(g:gz29)(J:JT vj)(lf:Nat)(x1:zc):=zm oa ttT.get qgv (mP [.dat cExpr]) fi54.nt (qvh _ lf) lf qgt J fi54.body [] (zk (ze [.dat cExpr] idN 0 (x1,())) 0 .leaf) (Sc [.dat cExpr] (x1,())) [] (z6 ttT.get fi54 (sz29 g))
abbrev Bz29(g:gz29)(J:JT vj)(lf k:Nat)(ms:Lz Nat)(q:NRes):=qj oa ttT.get qgv (mP [.dat cExpr]) fi54.nt (qvh _ lf) lf qgt J k fi54.body [] ms q (z6 ttT.get fi54 (sz29 g))
theorem zrl(g:gz29)(J:JT vj)(lf:Nat)(x1:zc):Ez29 g J lf x1=q2a lf x1 (fun q=>J 3 [lf] (qb4 x1 q)):=by kernel_rfl
theorem zl7(g:gz29)(J:JT vj)(lf:Nat)(x1:zc)(m1:Nat)(p:Int × Int):Bz29 g J lf 3 [m1] (qb4 x1 p)=qls lf x1 (fun q=>J 3 [m1] (qb4 x1 q)) p:=by kernel_rfl
theorem q29:(regs fi54.body).Nodup:=by decide +kernel
theorem q31:okC qgv qgt qoq fi54.body i6=i7:=by kernel_rfl
def Az29(g:gz29)(lf:Nat):JT vj:=atQ oa ttT.get qgv fi54 (sz29 g) (qvh _ lf) lf qoq
def qg1(lf:Nat)(x1:zc):Nat->(Int × Int)->Oq vj:=rounds fun K p=>qls lf x1 K p
theorem q9s(g:gz29)(lf:Nat)(x1:zc):∀(n:Nat) (p:Int × Int),Az29 g lf 3 [n] (qb4 x1 p)=qg1 lf x1 n p
 | 0,p=>wg 3 [0] rfl _
 | n+1,p=>by
  have ih:=q9s g lf x1 n;refine(ki rfl (qg 20 _) q29 q31 3 [n+1] [n] rfl _).trans ((zl7 g (Az29 g lf) lf x1 n p).trans ?_);rw[(show (fun q=>Az29 g lf 3 [n] (qb4 x1 q))=(fun q=>qg1 lf x1 n q) from funext ih)];rfl
def Fz29(lf:Nat)(x1:zc):Oq vj:=q2a lf x1 (fun q=>qg1 lf x1 lf q)
theorem zff(g:gz29)(lf:Nat)(x1:zc):Ez29 g (Az29 g lf) lf x1=Fz29 lf x1:=by
  refine(zrl g (Az29 g lf) lf x1).trans ?_;rw[(show (fun q=>Az29 g lf 3 [lf] (qb4 x1 q))=(fun q=>qg1 lf x1 lf q) from funext fun q=>q9s g lf x1 lf q)];rfl
theorem zia(hrz29:ConR oa 54 qea):zv oa qrx:=⟨z8 hrz29,trivial⟩
theorem zvd{g:gz29}(hsm:SmOK oa qot)(hrz29:ConR oa 54 qea)(hg:∀(x:ElP [.dat cExpr]) (y:vj),WfP [.dat cExpr] x->g x=iz y->∃lf,Fz29 lf x.1=iz y):ConR oa 54 ⟨[.dat cExpr],[(eb,(.int .i64))],g⟩ :=
 conTR (nmf:=qgv) (sml:=qot) (hxl:=qrx) (st:=qgt) (hd:=qoq) 20 mixed ttOK ftOK hsm (zia hrz29) q47 (by kernel_rfl) (fun x=>by kernel_rfl) q29 q31 fun x y z b a=>by
  obtain⟨lf,h⟩:=hg x (y,z) b a;exact⟨lf,(zff g lf x.1).trans h⟩
def q44:Lz (Nat × Hx):=[(172,hxR qi1)]
abbrev ql8:Type:=Bool × Unit
def zqr(lf:Nat)(x1:zc)(x2:zc):Oq ql8:=(cond (ieqI x1.1 x2.1) (cond (keqS x1.2.1 x2.2.1) (cond (ieqI x1.2.2.1 x2.2.2.1) (bd (S.dEqQ (fc (fun v0=>(match v0 with|.mk v1=>v1)) x1.2.2.2) (fc (fun v2=>(match v2 with|.mk v3=>v3)) x2.2.2.2)) fun v4=>(iz v4.1)) (iz (eb,()))) (iz (eb,()))) (iz (eb,())))
def qwb(lf:Nat)(x1:zc)(x2:zc):Oq ql8:=zqr lf x1 x2
theorem zvw(hrz30:ConR oa 172 qi1):zv oa q44:=⟨z8 hrz30,trivial⟩
theorem zz4{g:ElA [cExpr,cExpr]->Oq ql8}(hsm:SmOK oa [])(hrz30:ConR oa 172 qi1)(hg:∀(x:ElA [cExpr,cExpr]) (y:ql8),WfA [cExpr,cExpr] x->g x=iz y->∃lf,qwb lf x.1 x.2.1=iz y):Con oa 91 ⟨[cExpr,cExpr],[(eb,.bool)],g⟩ :=
 conU (fi:=fi91) (hxl:=q44) (fun lf x=>qwb lf x.1 x.2.1) cm3 q7x (zvw hrz30) hsm hg
def qff:Nat->Oq Nm:=fun k=>cond (od k 4) (iz ⟨[1,2,15,16,17],[],[],[],[],0,0,eb⟩) (cond (od k 999999) (iz ⟨[],[],[],[],[],0,0,eb⟩) i6)
def qfq:Nat->Bool:=fun k=>cond (od k 4) i7 (eb)
def qtk:=qfq
abbrev ww:Type:=(Bool × Unit) × Unit
def qt3:Lz (Nat × Sm):=[(91,qi6)]
def qnx:Lz (Nat × Hx):=[]
def qs8(R:Type)(lf:Nat):ClK R:=zn oa ttT.get ftT.get (fun _ _=>i6) (smL qt3) (hxL qnx) lf 20 R
def qbp(x1:(Lz zc))(x2:(Lz zc))(p:Int):NRes:=(NRes.mk (.node i6 (.node (iz (IV.lst cExpr x2)) (.node i6 (.node i6 (.node (iz (IV.lst cExpr x1)) .leaf .leaf) .leaf) .leaf) (.node i6 (.node i6 (.node (iz (IV.int .i64 p)) .leaf .leaf) .leaf) .leaf)) (.node (iz (IV.fn 91 [])) (.node i6 (.node i6 (.node (iz (IV.int .i64 (we x1.length))) .leaf .leaf) .leaf) .leaf) .leaf)) (IS.mk .leaf 0) [] 0)
def qyw(lf:Nat)(x1:(Lz zc))(x2:(Lz zc))(L4:Int->Oq ww):Oq ww:=(cond (Bool.not (ieqI (we x1.length) (we x2.length))) (iz ((eb,()),())) (L4 (we 0)))
def qjd(lf:Nat)(x1:(Lz zc))(x2:(Lz zc))(L4:Int->Oq ww)(p:Int):Oq ww:=(cond (iltI p (we x1.length)) (bd (jget x1 p) fun v0=>(bd (jget x2 p) fun v1=>(bd (S.dSame (zl v0) (zl v1)) fun v8=>(cond (Bool.not v8.1) (iz ((eb,()),())) (L4 (IntKind.i64.wrap (oe p (we 1)))))))) (iz ((i7,()),())))
abbrev gz30:Type:=ElP [.dat (.list cExpr),.dat (.list cExpr),.fn 91]->Oq ww
abbrev sz30(g:gz30):SmR:=⟨[.dat (.list cExpr),.dat (.list cExpr),.fn 91],[(eb,.bool)],g⟩
abbrev Ez30(g:gz30)(J:JT ww)(lf:Nat)(x1:(Lz zc))(x2:(Lz zc)):=zm oa ttT.get qff (mP [.dat (.list cExpr),.dat (.list cExpr),.fn 91]) ut.nt (qs8 _ lf) lf qfq J ut.body [] (zk (ze [.dat (.list cExpr),.dat (.list cExpr),.fn 91] idN 0 (x1,x2,())) 0 .leaf) (Sc [.dat (.list cExpr),.dat (.list cExpr),.fn 91] (x1,x2,())) [] (z6 ttT.get ut (sz30 g))
abbrev Bz30(g:gz30)(J:JT ww)(lf k:Nat)(ms:Lz Nat)(q:NRes):=qj oa ttT.get qff (mP [.dat (.list cExpr),.dat (.list cExpr),.fn 91]) ut.nt (qs8 _ lf) lf qfq J k ut.body [] ms q (z6 ttT.get ut (sz30 g))
theorem zlc(g:gz30)(J:JT ww)(lf:Nat)(x1:(Lz zc))(x2:(Lz zc)):Ez30 g J lf x1 x2=qyw lf x1 x2 (fun q=>J 4 [lf] (qbp x1 x2 q)):=by kernel_rfl
theorem zi8(g:gz30)(J:JT ww)(lf:Nat)(x1:(Lz zc))(x2:(Lz zc))(m1:Nat)(p:Int):Bz30 g J lf 4 [m1] (qbp x1 x2 p)=qjd lf x1 x2 (fun q=>J 4 [m1] (qbp x1 x2 q)) p:=by kernel_rfl
theorem q6r:(regs ut.body).Nodup:=by decide +kernel
theorem q7b:okC qff qfq qtk ut.body i6=i7:=by kernel_rfl
def Az30(g:gz30)(lf:Nat):JT ww:=atQ oa ttT.get qff ut (sz30 g) (qs8 _ lf) lf qtk
def qbs(lf:Nat)(x1:(Lz zc))(x2:(Lz zc)):Nat->(Int)->Oq ww:=rounds fun K p=>qjd lf x1 x2 K p
theorem qyp(g:gz30)(lf:Nat)(x1:(Lz zc))(x2:(Lz zc)):∀(n:Nat) (p:Int),Az30 g lf 4 [n] (qbp x1 x2 p)=qbs lf x1 x2 n p
 | 0,p=>wg 4 [0] rfl _
 | n+1,p=>by
  have ih:=qyp g lf x1 x2 n;refine(ki rfl (qg 20 _) q6r q7b 4 [n+1] [n] rfl _).trans ((zi8 g (Az30 g lf) lf x1 x2 n p).trans ?_);rw[(show (fun q=>Az30 g lf 4 [n] (qbp x1 x2 q))=(fun q=>qbs lf x1 x2 n q) from funext ih)];rfl
def Fz30(lf:Nat)(x1:(Lz zc))(x2:(Lz zc)):Oq ww:=qyw lf x1 x2 (fun q=>qbs lf x1 x2 lf q)
theorem zfo(g:gz30)(lf:Nat)(x1:(Lz zc))(x2:(Lz zc)):Ez30 g (Az30 g lf) lf x1 x2=Fz30 lf x1 x2:=by
  refine(zlc g (Az30 g lf) lf x1 x2).trans ?_;rw[(show (fun q=>Az30 g lf 4 [lf] (qbp x1 x2 q))=(fun q=>qbs lf x1 x2 lf q) from funext fun q=>qyp g lf x1 x2 lf q)];rfl
theorem zdg:zv oa qnx:=trivial
theorem mkz30{g:gz30}(hsm:SmOK oa qt3)(hg:∀(x:ElP [.dat (.list cExpr),.dat (.list cExpr),.fn 91]) (y:ww),WfP [.dat (.list cExpr),.dat (.list cExpr),.fn 91] x->g x=iz y->∃lf,Fz30 lf x.1 x.2.1=iz y):ConR oa 172 ⟨[.dat (.list cExpr),.dat (.list cExpr),.fn 91],[(eb,.bool)],g⟩ :=
 conTR (nmf:=qff) (sml:=qt3) (hxl:=qnx) (st:=qfq) (hd:=qtk) 20 mixed ttOK ftOK hsm zdg zmi (by kernel_rfl) (fun x=>by kernel_rfl) q6r q7b fun x y z b a=>by
  obtain⟨lf,h⟩:=hg x (y,z) b a;exact⟨lf,(zfo g lf x.1 x.2.1).trans h⟩
def qkx:Nat->Oq Nm:=fun k=>cond (od k 999999) (iz ⟨[],[],[],[],[],0,0,eb⟩) i6
def qhi:Nat->Bool:=fun k=>eb
def qwi:=qhi
abbrev qa4:Type:=(Unit) × ((Lz Bq) × Unit) × Unit
def qn5:Lz (Nat × Sm):=[]
def qn4:Lz (Nat × Hx):=[]
def q0h(R:Type)(lf:Nat):ClK R:=zn oa ttT.get ftT.get (fun _ _=>i6) (smL qn5) (hxL qn4) lf 20 R
abbrev zcx:Nat:=165
def qzy(lf:Nat)(x1:(Lz Bq))(x2:(Lz Bq)):Oq qa4:=(cond (og (o7 (o5 x1.length x2.length) 16) 140737488355328) (iz ((),(((oz x1 x2),()),()))) i6)
abbrev gz31:Type:=ElP [.ref (.box [.arr .str]),.dat (.list .str)]->Oq qa4
abbrev sz31(g:gz31):SmR:=⟨[.ref (.box [.arr .str]),.dat (.list .str)],[],g⟩
abbrev Ez31(g:gz31)(J:JT qa4)(lf:Nat)(x1:(Lz Bq))(x2:(Lz Bq)):=zm oa ttT.get qkx (mP [.ref (.box [.arr .str]),.dat (.list .str)]) qaf.nt (q0h _ lf) lf qhi J qaf.body [] (zk (ze [.ref (.box [.arr .str]),.dat (.list .str)] idN 0 ((x1,()),x2,())) 0 .leaf) (Sc [.ref (.box [.arr .str]),.dat (.list .str)] ((x1,()),x2,())) [] (z6 ttT.get qaf (sz31 g))
theorem zzp(g:gz31)(J:JT qa4)(lf:Nat)(x1:(Lz Bq))(x2:(Lz Bq)):Ez31 g J lf x1 x2=qzy lf x1 x2:=by kernel_rfl
theorem zlt:(regs qaf.body).Nodup:=by decide +kernel
theorem zbt:okC qkx qhi qwi qaf.body i6=i7:=by kernel_rfl
def Az31(g:gz31)(lf:Nat):JT qa4:=atQ oa ttT.get qkx qaf (sz31 g) (q0h _ lf) lf qwi
def Fz31(lf:Nat)(x1:(Lz Bq))(x2:(Lz Bq)):Oq qa4:=qzy lf x1 x2
theorem zwn(g:gz31)(lf:Nat)(x1:(Lz Bq))(x2:(Lz Bq)):Ez31 g (Az31 g lf) lf x1 x2=Fz31 lf x1 x2:=by
  refine(zzp g (Az31 g lf) lf x1 x2).trans ?_;rfl
theorem zzz:zv oa qn4:=trivial
theorem zcd{g:gz31}(hsm:SmOK oa qn5)(hg:∀(x:ElP [.ref (.box [.arr .str]),.dat (.list .str)]) (y:qa4),WfP [.ref (.box [.arr .str]),.dat (.list .str)] x->g x=iz y->∃lf,Fz31 lf x.1.1 x.2.1=iz y):ConR oa 165 ⟨[.ref (.box [.arr .str]),.dat (.list .str)],[],g⟩ :=
 conTR (nmf:=qkx) (sml:=qn5) (hxl:=qn4) (st:=qhi) (hd:=qwi) 20 mixed ttOK ftOK hsm zzz zdd (by kernel_rfl) (fun x=>by kernel_rfl) zlt zbt fun x y z b a=>by
  obtain⟨lf,h⟩:=hg x (y,z) b a;exact⟨lf,(zwn g lf x.1.1 x.2.1).trans h⟩
def qiu:Nat->Oq Nm:=fun k=>cond (od k 999999) (iz ⟨[],[],[],[],[],0,0,eb⟩) i6
def qnn:Nat->Bool:=fun k=>eb
def qtm:=qnn
abbrev s8:Type:=(Unit) × ((Lz Bq) × Unit) × Unit
def qrs:Lz (Nat × Sm):=[(169,qsm)]
def qov:Lz (Nat × Hx):=[(165,hxR wl),(89,hxR yu)]
def q9a(R:Type)(lf:Nat):ClK R:=zn oa ttT.get ftT.get (fun _ _=>i6) (smL qrs) (hxL qov) lf 20 R
def qi0(lf:Nat)(x1:(Lz Bq))(x2:zc)(x3:Int):Oq s8:=(cond (Bool.not (iltI (S.levelOf (zl x2)) x3)) (bd (S.dExprW (x1,()) (zl x2)) fun v6=>(iz ((),v6.2))) (bd (S.dPut (x1,()) [(S.lit [40])]) fun v7=>(bd (S.dExprW v7.2.1 (zl x2)) fun v11=>(bd (S.dPut v11.2.1 [(S.lit [41])]) fun v12=>(iz ((),v12.2))))))
abbrev gz32:Type:=ElP [.ref (.box [.arr .str]),.dat cExpr,.dat (.int .i64)]->Oq s8
abbrev sz32(g:gz32):SmR:=⟨[.ref (.box [.arr .str]),.dat cExpr,.dat (.int .i64)],[],g⟩
abbrev Ez32(g:gz32)(J:JT s8)(lf:Nat)(x1:(Lz Bq))(x2:zc)(x3:Int):=zm oa ttT.get qiu (mP [.ref (.box [.arr .str]),.dat cExpr,.dat (.int .i64)]) tx.nt (q9a _ lf) lf qnn J tx.body [] (zk (ze [.ref (.box [.arr .str]),.dat cExpr,.dat (.int .i64)] idN 0 ((x1,()),x2,x3,())) 0 .leaf) (Sc [.ref (.box [.arr .str]),.dat cExpr,.dat (.int .i64)] ((x1,()),x2,x3,())) [] (z6 ttT.get tx (sz32 g))
theorem zjg(g:gz32)(J:JT s8)(lf:Nat)(x1:(Lz Bq))(x2:zc)(x3:Int):Ez32 g J lf x1 x2 x3=qi0 lf x1 x2 x3:=by kernel_rfl
theorem zra:(regs tx.body).Nodup:=by decide +kernel
theorem zy3:okC qiu qnn qtm tx.body i6=i7:=by kernel_rfl
def Az32(g:gz32)(lf:Nat):JT s8:=atQ oa ttT.get qiu tx (sz32 g) (q9a _ lf) lf qtm
def Fz32(lf:Nat)(x1:(Lz Bq))(x2:zc)(x3:Int):Oq s8:=qi0 lf x1 x2 x3
theorem zv9(g:gz32)(lf:Nat)(x1:(Lz Bq))(x2:zc)(x3:Int):Ez32 g (Az32 g lf) lf x1 x2 x3=Fz32 lf x1 x2 x3:=by
  refine(zjg g (Az32 g lf) lf x1 x2 x3).trans ?_;rfl
theorem zmv(hrz31:ConR oa 165 wl)(hrz35:ConR oa 89 yu):zv oa qov:=⟨z8 hrz31,⟨z8 hrz35,trivial⟩⟩
theorem mkz32{g:gz32}(hsm:SmOK oa qrs)(hrz31:ConR oa 165 wl)(hrz35:ConR oa 89 yu)(hg:∀(x:ElP [.ref (.box [.arr .str]),.dat cExpr,.dat (.int .i64)]) (y:s8),WfP [.ref (.box [.arr .str]),.dat cExpr,.dat (.int .i64)] x->g x=iz y->∃lf,Fz32 lf x.1.1 x.2.1 x.2.2.1=iz y):ConR oa 167 ⟨[.ref (.box [.arr .str]),.dat cExpr,.dat (.int .i64)],[],g⟩ :=
 conTR (nmf:=qiu) (sml:=qrs) (hxl:=qov) (st:=qnn) (hd:=qtm) 20 mixed ttOK ftOK hsm (zmv hrz31 hrz35) zpa (by kernel_rfl) (fun x=>by kernel_rfl) zra zy3 fun x y z b a=>by
  obtain⟨lf,h⟩:=hg x (y,z) b a;exact⟨lf,(zv9 g lf x.1.1 x.2.1 x.2.2.1).trans h⟩
def qm8:Nat->Oq Nm:=fun k=>cond (od k 999999) (iz ⟨[],[],[],[],[],0,0,eb⟩) i6
def qi7:Nat->Bool:=fun k=>eb
def qvr:=qi7
abbrev qa1:Type:=(Unit) × ((Lz Bq) × Unit) × Unit
def qwv:Lz (Nat × Sm):=[]
def qsr:Lz (Nat × Hx):=[(165,hxR wl),(280,hxR qm3)]
def qx6(R:Type)(lf:Nat):ClK R:=zn oa ttT.get ftT.get (fun _ _=>i6) (smL qwv) (hxL qsr) lf 20 R
def qkf(lf:Nat)(x1:(Lz Bq))(x2:(Lz zc)):Oq qa1:=(cond (iltI (we 0) (we x2.length)) (bd (S.dPut (x1,()) [(S.lit [40])]) fun v0=>(bd (S.dListW v0.2.1 (S.lit [44]) x2) fun v1=>(bd (S.dPut v1.2.1 [(S.lit [41])]) fun v2=>(iz ((),v2.2))))) (iz ((),((x1,()),()))))
abbrev gz33:Type:=ElP [.ref (.box [.arr .str]),.dat (.list cExpr)]->Oq qa1
abbrev sz33(g:gz33):SmR:=⟨[.ref (.box [.arr .str]),.dat (.list cExpr)],[],g⟩
abbrev Ez33(g:gz33)(J:JT qa1)(lf:Nat)(x1:(Lz Bq))(x2:(Lz zc)):=zm oa ttT.get qm8 (mP [.ref (.box [.arr .str]),.dat (.list cExpr)]) qat.nt (qx6 _ lf) lf qi7 J qat.body [] (zk (ze [.ref (.box [.arr .str]),.dat (.list cExpr)] idN 0 ((x1,()),x2,())) 0 .leaf) (Sc [.ref (.box [.arr .str]),.dat (.list cExpr)] ((x1,()),x2,())) [] (z6 ttT.get qat (sz33 g))
theorem znq(g:gz33)(J:JT qa1)(lf:Nat)(x1:(Lz Bq))(x2:(Lz zc)):Ez33 g J lf x1 x2=qkf lf x1 x2:=by kernel_rfl
theorem zdj:(regs qat.body).Nodup:=by decide +kernel
theorem zgf:okC qm8 qi7 qvr qat.body i6=i7:=by kernel_rfl
def Az33(g:gz33)(lf:Nat):JT qa1:=atQ oa ttT.get qm8 qat (sz33 g) (qx6 _ lf) lf qvr
def Fz33(lf:Nat)(x1:(Lz Bq))(x2:(Lz zc)):Oq qa1:=qkf lf x1 x2
theorem zu4(g:gz33)(lf:Nat)(x1:(Lz Bq))(x2:(Lz zc)):Ez33 g (Az33 g lf) lf x1 x2=Fz33 lf x1 x2:=by
  refine(znq g (Az33 g lf) lf x1 x2).trans ?_;rfl
theorem zs5(hrz31:ConR oa 165 wl)(hrz34:ConR oa 280 qm3):zv oa qsr:=⟨z8 hrz31,⟨z8 hrz34,trivial⟩⟩
theorem mkz33{g:gz33}(hsm:SmOK oa qwv)(hrz31:ConR oa 165 wl)(hrz34:ConR oa 280 qm3)(hg:∀(x:ElP [.ref (.box [.arr .str]),.dat (.list cExpr)]) (y:qa1),WfP [.ref (.box [.arr .str]),.dat (.list cExpr)] x->g x=iz y->∃lf,Fz33 lf x.1.1 x.2.1=iz y):ConR oa 168 ⟨[.ref (.box [.arr .str]),.dat (.list cExpr)],[],g⟩ :=
 conTR (nmf:=qm8) (sml:=qwv) (hxl:=qsr) (st:=qi7) (hd:=qvr) 20 mixed ttOK ftOK hsm (zs5 hrz31 hrz34) zkd (by kernel_rfl) (fun x=>by kernel_rfl) zdj zgf fun x y z b a=>by
  obtain⟨lf,h⟩:=hg x (y,z) b a;exact⟨lf,(zu4 g lf x.1.1 x.2.1).trans h⟩
def qgl:Nat->Oq Nm:=fun k=>cond (od k 1) (iz ⟨[0,1,3,10,11,12],[],[],[],[],0,0,eb⟩) (cond (od k 999999) (iz ⟨[],[],[],[],[],0,0,eb⟩) i6)
def qfy:Nat->Bool:=fun k=>cond (od k 1) i7 (eb)
def qsf:=qfy
abbrev wq:Type:=(Unit) × ((Lz Bq) × Unit) × Unit
def qqb:Lz (Nat × Sm):=[]
def qp2:Lz (Nat × Hx):=[(165,hxR wl),(89,hxR yu)]
def qp9(R:Type)(lf:Nat):ClK R:=zn oa ttT.get ftT.get (fun _ _=>i6) (smL qqb) (hxL qp2) lf 20 R
def qbq(x1:(Lz Bq))(x2:Bq)(x3:(Lz zc))(p:Int × (Lz Bq)):NRes:=(NRes.mk (.node (iz (IV.ptr 0 0)) (.node (iz (IV.str x2)) (.node (iz (IV.bfn 89 [(IV.ptr 0 0)])) .leaf (.node (iz (IV.int .i64 (we x3.length))) .leaf .leaf)) .leaf) (.node i6 (.node i6 .leaf (.node (iz (IV.int .i64 p.1)) .leaf .leaf)) (.node i6 (.node (iz (IV.lst cExpr x3)) .leaf .leaf) .leaf))) (IS.mk (.node (iz (IObj.row [(IV.arr 1)])) (.node (iz (IObj.arr TC.str p.2)) .leaf .leaf) .leaf) 2) [] 0)
def qzv(lf:Nat)(x1:(Lz Bq))(x2:Bq)(x3:(Lz zc))(L1:(Int × (Lz Bq))->Oq wq):Oq wq:=(L1 ((we 0),x1))
def qhp(lf:Nat)(x1:(Lz Bq))(x2:Bq)(x3:(Lz zc))(L1:(Int × (Lz Bq))->Oq wq)(p:Int × (Lz Bq)):Oq wq:=(cond (iltI p.1 (we x3.length)) (bd (jget x3 p.1) fun v0=>(cond (iltI (we 0) p.1) (bd (S.dPut (p.2,()) [x2]) fun v1=>(bd (S.dExprW v1.2.1 (zl v0)) fun v5=>(L1 ((IntKind.i64.wrap (oe p.1 (we 1))),v5.2.1.1)))) (bd (S.dExprW (p.2,()) (zl v0)) fun v32=>(L1 ((IntKind.i64.wrap (oe p.1 (we 1))),v32.2.1.1))))) (iz ((),((p.2,()),()))))
abbrev gz34:Type:=ElP [.ref (.box [.arr .str]),.dat .str,.dat (.list cExpr),.bnd 89 0]->Oq wq
abbrev sz34(g:gz34):SmR:=⟨[.ref (.box [.arr .str]),.dat .str,.dat (.list cExpr),.bnd 89 0],[],g⟩
abbrev Ez34(g:gz34)(J:JT wq)(lf:Nat)(x1:(Lz Bq))(x2:Bq)(x3:(Lz zc)):=zm oa ttT.get qgl (mP [.ref (.box [.arr .str]),.dat .str,.dat (.list cExpr),.bnd 89 0]) u7.nt (qp9 _ lf) lf qfy J u7.body [] (zk (ze [.ref (.box [.arr .str]),.dat .str,.dat (.list cExpr),.bnd 89 0] idN 0 ((x1,()),x2,x3,())) 0 .leaf) (Sc [.ref (.box [.arr .str]),.dat .str,.dat (.list cExpr),.bnd 89 0] ((x1,()),x2,x3,())) [] (z6 ttT.get u7 (sz34 g))
abbrev Bz34(g:gz34)(J:JT wq)(lf k:Nat)(ms:Lz Nat)(q:NRes):=qj oa ttT.get qgl (mP [.ref (.box [.arr .str]),.dat .str,.dat (.list cExpr),.bnd 89 0]) u7.nt (qp9 _ lf) lf qfy J k u7.body [] ms q (z6 ttT.get u7 (sz34 g))
theorem zex(g:gz34)(J:JT wq)(lf:Nat)(x1:(Lz Bq))(x2:Bq)(x3:(Lz zc)):Ez34 g J lf x1 x2 x3=qzv lf x1 x2 x3 (fun q=>J 1 [lf] (qbq x1 x2 x3 q)):=by kernel_rfl
theorem zhr(g:gz34)(J:JT wq)(lf:Nat)(x1:(Lz Bq))(x2:Bq)(x3:(Lz zc))(m1:Nat)(p:Int × (Lz Bq)):Bz34 g J lf 1 [m1] (qbq x1 x2 x3 p)=qhp lf x1 x2 x3 (fun q=>J 1 [m1] (qbq x1 x2 x3 q)) p:=by kernel_rfl
theorem q8y:(regs u7.body).Nodup:=by decide +kernel
theorem q8d:okC qgl qfy qsf u7.body i6=i7:=by kernel_rfl
def Az34(g:gz34)(lf:Nat):JT wq:=atQ oa ttT.get qgl u7 (sz34 g) (qp9 _ lf) lf qsf
def qe3(lf:Nat)(x1:(Lz Bq))(x2:Bq)(x3:(Lz zc)):Nat->(Int × (Lz Bq))->Oq wq:=rounds fun K p=>qhp lf x1 x2 x3 K p
theorem q5c(g:gz34)(lf:Nat)(x1:(Lz Bq))(x2:Bq)(x3:(Lz zc)):∀(n:Nat) (p:Int × (Lz Bq)),Az34 g lf 1 [n] (qbq x1 x2 x3 p)=qe3 lf x1 x2 x3 n p
 | 0,p=>wg 1 [0] rfl _
 | n+1,p=>by
  have ih:=q5c g lf x1 x2 x3 n;refine(ki rfl (qg 20 _) q8y q8d 1 [n+1] [n] rfl _).trans ((zhr g (Az34 g lf) lf x1 x2 x3 n p).trans ?_);rw[(show (fun q=>Az34 g lf 1 [n] (qbq x1 x2 x3 q))=(fun q=>qe3 lf x1 x2 x3 n q) from funext ih)];rfl
def Fz34(lf:Nat)(x1:(Lz Bq))(x2:Bq)(x3:(Lz zc)):Oq wq:=qzv lf x1 x2 x3 (fun q=>qe3 lf x1 x2 x3 lf q)
theorem zxf(g:gz34)(lf:Nat)(x1:(Lz Bq))(x2:Bq)(x3:(Lz zc)):Ez34 g (Az34 g lf) lf x1 x2 x3=Fz34 lf x1 x2 x3:=by
  refine(zex g (Az34 g lf) lf x1 x2 x3).trans ?_;rw[(show (fun q=>Az34 g lf 1 [lf] (qbq x1 x2 x3 q))=(fun q=>qe3 lf x1 x2 x3 lf q) from funext fun q=>q5c g lf x1 x2 x3 lf q)];rfl
theorem zuh(hrz31:ConR oa 165 wl)(hrz35:ConR oa 89 yu):zv oa qp2:=⟨z8 hrz31,⟨z8 hrz35,trivial⟩⟩
theorem mkz34{g:gz34}(hsm:SmOK oa qqb)(hrz31:ConR oa 165 wl)(hrz35:ConR oa 89 yu)(hg:∀(x:ElP [.ref (.box [.arr .str]),.dat .str,.dat (.list cExpr),.bnd 89 0]) (y:wq),WfP [.ref (.box [.arr .str]),.dat .str,.dat (.list cExpr),.bnd 89 0] x->g x=iz y->∃lf,Fz34 lf x.1.1 x.2.1 x.2.2.1=iz y):ConR oa 280 ⟨[.ref (.box [.arr .str]),.dat .str,.dat (.list cExpr),.bnd 89 0],[],g⟩ :=
 conTR (nmf:=qgl) (sml:=qqb) (hxl:=qp2) (st:=qfy) (hd:=qsf) 20 mixed ttOK ftOK hsm (zuh hrz31 hrz35) zxd (by kernel_rfl) (fun x=>by kernel_rfl) q8y q8d fun x y z b a=>by
  obtain⟨lf,h⟩:=hg x (y,z) b a;exact⟨lf,(zxf g lf x.1.1 x.2.1 x.2.2.1).trans h⟩
def qfu:Nat->Oq Nm:=fun k=>cond (od k 20) (iz ⟨[0,3,5],[],[],[],[],0,0,eb⟩) (cond (od k 30) (iz ⟨[0,3,4,7,8],[],[],[],[],0,0,eb⟩) (cond (od k 999999) (iz ⟨[],[],[],[],[],0,0,eb⟩) i6))
def qho:Nat->Bool:=fun k=>cond (od k 20) i7 (cond (od k 30) i7 (eb))
def qtf:Nat->Bool:=fun k=>eb
abbrev j9:Type:=(Unit) × ((Lz Bq) × Unit) × Unit
def qs1:Lz (Nat × Sm):=[(169,qsm),(166,qdw)]
def qn8:Lz (Nat × Hx):=[(165,hxR wl),(167,hxR qil),(168,hxR qlh)]
def quy(R:Type)(lf:Nat):ClK R:=zn oa ttT.get ftT.get (fun _ _=>i6) (smL qs1) (hxL qn8) lf 20 R
def qhr(x1:(Lz Bq))(x2:zc)(p:(Lz zc) × (Lz Bq)):NRes:=(NRes.mk (.node (iz (IV.ptr 0 0)) (.node i6 (.node (iz (IV.ptr 1 0)) .leaf .leaf) (.node (iz (IV.lst cExpr p.1)) .leaf .leaf)) .leaf) (IS.mk (.node (iz (IObj.row [(IV.arr 2)])) (.node (iz (IObj.row (ou (IV.int .i64 x2.1) (ou (IV.str x2.2.1) (ou (IV.int .i64 x2.2.2.1) (ou (IV.lst cExpr (fc (fun v50870=>(match v50870 with|.mk v50871=>v50871)) x2.2.2.2)) [])))))) .leaf .leaf) (.node (iz (IObj.arr TC.str p.2)) .leaf .leaf)) 3) [] 0)
def qjg(x1:(Lz Bq))(x2:zc)(p:Int × Int):NRes:=(NRes.mk (.node (iz (IV.ptr 0 0)) (.node i6 (.node (iz (IV.ptr 1 0)) (.node (iz (IV.int .i64 p.1)) .leaf .leaf) .leaf) .leaf) (.node i6 (.node (iz (IV.fn 164 [(IV.ptr 1 0)])) (.node (iz (IV.int .i64 p.2)) .leaf .leaf) .leaf) .leaf)) (IS.mk (.node (iz (IObj.row [(IV.arr 2)])) (.node (iz (IObj.row (ou (IV.int .i64 x2.1) (ou (IV.str x2.2.1) (ou (IV.int .i64 x2.2.2.1) (ou (IV.lst cExpr (fc (fun v50872=>(match v50872 with|.mk v50873=>v50873)) x2.2.2.2)) [])))))) .leaf .leaf) (.node (iz (IObj.arr TC.str x1)) .leaf .leaf)) 3) [] 0)
def qlr(lf:Nat)(x1:(Lz Bq))(x2:zc)(L20:((Lz zc) × (Lz Bq))->Oq j9)(L30:(Int × Int)->Oq j9):Oq j9:=(cond (ieqI x2.1 (we 1)) (bd (S.dPut (x1,()) [(S.itoa x2.2.2.1)]) fun v0=>(iz ((),v0.2))) (cond (ieqI x2.1 (we 2)) (cond (ow (Eq (ieqI x2.2.2.1 (we 1)) i7)) (bd (S.dPut (x1,()) [(S.lit [84,114,117,101])]) fun v1=>(iz ((),v1.2))) (cond (ow (Eq (ieqI x2.2.2.1 (we 1)) eb)) (bd (S.dPut (x1,()) [(S.lit [70,97,108,115,101])]) fun v2=>(iz ((),v2.2))) (bd (S.dPut (x1,()) [(S.lit [])]) fun v3=>(iz ((),v3.2))))) (cond (ieqI x2.1 (we 3)) (bd (S.dPut (x1,()) [(S.lit [86,111,105,100])]) fun v4=>(iz ((),v4.2))) (cond (ieqI x2.1 (we 4)) (bd (S.dPut (x1,()) [(S.lit [67,117,114,114,101,110,116])]) fun v5=>(iz ((),v5.2))) (cond (ieqI x2.1 (we 5)) (bd (S.dPut (x1,()) [(S.lit [82,101,115,117,108,116])]) fun v6=>(iz ((),v6.2))) (cond (ieqI x2.1 (we 6)) (cond (ieqI x2.2.2.1 (we 1)) (cond (iltI (we 0) (we (oq (unL x2.2.2.2)))) (bd (jget (unL x2.2.2.2) (we 0)) fun v11=>(bd (S.dWithin (x1,()) (zl v11) (we 7)) fun v15=>(bd (S.dPut v15.2.1 [(S.lit [46])]) fun v16=>(cond (lchk (we 1) (we (oq (unL x2.2.2.2))) (we (oq (unL x2.2.2.2))) (we (oq (unL x2.2.2.2)))) (L20 ((lsub (unL x2.2.2.2) (we 1) (we (oq (unL x2.2.2.2)))),v16.2.1.1)) i6)))) (L20 ((unL x2.2.2.2),x1))) (L20 ((unL x2.2.2.2),x1))) (cond (ieqI x2.1 (we 7)) (cond (ieqI (S.levelOf (zl x2)) (we 0)) (L30 ((IntKind.i64.wrap (oe (S.levelOf (zl x2)) (we 1))),(S.levelOf (zl x2)))) (cond (ieqI (S.levelOf (zl x2)) (we 3)) (L30 ((IntKind.i64.wrap (oe (S.levelOf (zl x2)) (we 1))),(IntKind.i64.wrap (oe (S.levelOf (zl x2)) (we 1))))) (L30 ((S.levelOf (zl x2)),(IntKind.i64.wrap (oe (S.levelOf (zl x2)) (we 1))))))) (cond (ieqI x2.1 (we 8)) (bd (S.dPut (x1,()) [x2.2.1]) fun v66=>(cond (iltI (we 0) (we (oq (unL x2.2.2.2)))) (bd (jget (unL x2.2.2.2) (we 0)) fun v71=>(bd (S.dWithin v66.2.1 (zl v71) (we 6)) fun v75=>(iz ((),v75.2)))) (bd (S.dWithin v66.2.1 ((we 0),((S.lit []),((we 0),[]))) (we 6)) fun v76=>(iz ((),v76.2))))) (cond (ieqI x2.1 (we 9)) (bd (S.dPut (x1,()) [(S.lit [111,108,100])]) fun v77=>(cond (iltI (we 0) (we (oq (unL x2.2.2.2)))) (bd (jget (unL x2.2.2.2) (we 0)) fun v82=>(bd (S.dWithin v77.2.1 (zl v82) (we 6)) fun v86=>(iz ((),v86.2)))) (bd (S.dWithin v77.2.1 ((we 0),((S.lit []),((we 0),[]))) (we 6)) fun v87=>(iz ((),v87.2))))) (cond (ieqI x2.1 (we 10)) (bd (S.dPut (x1,()) [(S.lit [97,116,116,97,99,104,101,100])]) fun v88=>(cond (iltI (we 0) (we (oq (unL x2.2.2.2)))) (bd (jget (unL x2.2.2.2) (we 0)) fun v93=>(bd (S.dWithin v88.2.1 (zl v93) (we 7)) fun v97=>(bd (S.dPut v97.2.1 (ou (S.lit [97,115]) [x2.2.1])) fun v98=>(iz ((),v98.2))))) (bd (S.dWithin v88.2.1 ((we 0),((S.lit []),((we 0),[]))) (we 7)) fun v99=>(bd (S.dPut v99.2.1 (ou (S.lit [97,115]) [x2.2.1])) fun v100=>(iz ((),v100.2)))))) (bd (S.dPut (x1,()) [(S.lit [])]) fun v101=>(iz ((),v101.2)))))))))))))
def qv9(lf:Nat)(x1:(Lz Bq))(x2:zc)(p:(Lz zc) × (Lz Bq)):Oq j9:=(bd (S.dPut (p.2,()) [x2.2.1]) fun v0=>(bd (S.dArgsW v0.2.1 p.1) fun v1=>(iz ((),v1.2))))
def qpo(lf:Nat)(x1:(Lz Bq))(x2:zc)(p:Int × Int):Oq j9:=(cond (iltI (we 0) (we (oq (unL x2.2.2.2)))) (bd (jget (unL x2.2.2.2) (we 0)) fun v4=>(bd (S.dWithin (x1,()) (zl v4) p.1) fun v8=>(bd (S.dPut v8.2.1 [x2.2.1]) fun v9=>(cond (iltI (we 1) (we (oq (unL x2.2.2.2)))) (bd (jget (unL x2.2.2.2) (we 1)) fun v14=>(bd (S.dWithin v9.2.1 (zl v14) p.2) fun v18=>(iz ((),v18.2)))) (bd (S.dWithin v9.2.1 ((we 0),((S.lit []),((we 0),[]))) p.2) fun v19=>(iz ((),v19.2))))))) (bd (S.dWithin (x1,()) ((we 0),((S.lit []),((we 0),[]))) p.1) fun v20=>(bd (S.dPut v20.2.1 [x2.2.1]) fun v21=>(cond (iltI (we 1) (we (oq (unL x2.2.2.2)))) (bd (jget (unL x2.2.2.2) (we 1)) fun v26=>(bd (S.dWithin v21.2.1 (zl v26) p.2) fun v30=>(iz ((),v30.2)))) (bd (S.dWithin v21.2.1 ((we 0),((S.lit []),((we 0),[]))) p.2) fun v31=>(iz ((),v31.2)))))))
abbrev gz35:Type:=ElP [.ref (.box [.arr .str]),.dat cExpr]->Oq j9
abbrev sz35(g:gz35):SmR:=⟨[.ref (.box [.arr .str]),.dat cExpr],[],g⟩
abbrev Ez35(g:gz35)(J:JT j9)(lf:Nat)(x1:(Lz Bq))(x2:zc):=zm oa ttT.get qfu (mP [.ref (.box [.arr .str]),.dat cExpr]) fi89.nt (quy _ lf) lf qho J fi89.body [] (zk (ze [.ref (.box [.arr .str]),.dat cExpr] idN 0 ((x1,()),x2,())) 0 .leaf) (Sc [.ref (.box [.arr .str]),.dat cExpr] ((x1,()),x2,())) [] (z6 ttT.get fi89 (sz35 g))
abbrev Bz35(g:gz35)(J:JT j9)(lf k:Nat)(ms:Lz Nat)(q:NRes):=qj oa ttT.get qfu (mP [.ref (.box [.arr .str]),.dat cExpr]) fi89.nt (quy _ lf) lf qho J k fi89.body [] ms q (z6 ttT.get fi89 (sz35 g))
theorem zhv(g:gz35)(J:JT j9)(lf:Nat)(x1:(Lz Bq))(x2:zc):Ez35 g J lf x1 x2=qlr lf x1 x2 (fun q=>J 20 [] (qhr x1 x2 q)) (fun q=>J 30 [] (qjg x1 x2 q)):=by kernel_rfl
theorem zhn(g:gz35)(J:JT j9)(lf:Nat)(x1:(Lz Bq))(x2:zc)(p:(Lz zc) × (Lz Bq)):Bz35 g J lf 20 [] (qhr x1 x2 p)=qv9 lf x1 x2 p:=by kernel_rfl
theorem zth(g:gz35)(J:JT j9)(lf:Nat)(x1:(Lz Bq))(x2:zc)(p:Int × Int):Bz35 g J lf 30 [] (qjg x1 x2 p)=qpo lf x1 x2 p:=by kernel_rfl
theorem qup:(regs fi89.body).Nodup:=by decide +kernel
theorem qs3:okC qfu qho qtf fi89.body i6=i7:=by kernel_rfl
def Az35(g:gz35)(lf:Nat):JT j9:=atQ oa ttT.get qfu fi89 (sz35 g) (quy _ lf) lf qtf
def qb1(lf:Nat)(x1:(Lz Bq))(x2:zc)(p:(Lz zc) × (Lz Bq)):Oq j9:=qv9 lf x1 x2 p
theorem zsz(g:gz35)(lf:Nat)(x1:(Lz Bq))(x2:zc)(p:(Lz zc) × (Lz Bq)):Az35 g lf 20 [] (qhr x1 x2 p)=qb1 lf x1 x2 p:=by
  refine(ki rfl (qg 20 _) qup qs3 20 [] [] rfl _).trans ((zhn g (Az35 g lf) lf x1 x2 p).trans ?_);rfl
def qbr(lf:Nat)(x1:(Lz Bq))(x2:zc)(p:Int × Int):Oq j9:=qpo lf x1 x2 p
theorem zjs(g:gz35)(lf:Nat)(x1:(Lz Bq))(x2:zc)(p:Int × Int):Az35 g lf 30 [] (qjg x1 x2 p)=qbr lf x1 x2 p:=by
  refine(ki rfl (qg 20 _) qup qs3 30 [] [] rfl _).trans ((zth g (Az35 g lf) lf x1 x2 p).trans ?_);rfl
def Fz35(lf:Nat)(x1:(Lz Bq))(x2:zc):Oq j9:=qlr lf x1 x2 (fun q=>qb1 lf x1 x2 q) (fun q=>qbr lf x1 x2 q)
theorem zxp(g:gz35)(lf:Nat)(x1:(Lz Bq))(x2:zc):Ez35 g (Az35 g lf) lf x1 x2=Fz35 lf x1 x2:=by
  refine(zhv g (Az35 g lf) lf x1 x2).trans ?_;rw[(show (fun q=>Az35 g lf 20 [] (qhr x1 x2 q))=(fun q=>qb1 lf x1 x2 q) from funext fun q=>zsz g lf x1 x2 q),(show (fun q=>Az35 g lf 30 [] (qjg x1 x2 q))=(fun q=>qbr lf x1 x2 q) from funext fun q=>zjs g lf x1 x2 q)];rfl
theorem zsn(hrz31:ConR oa 165 wl)(hrz32:ConR oa 167 qil)(hrz33:ConR oa 168 qlh):zv oa qn8:=⟨z8 hrz31,⟨z8 hrz32,⟨z8 hrz33,trivial⟩⟩⟩
theorem ze6{g:gz35}(hsm:SmOK oa qs1)(hrz31:ConR oa 165 wl)(hrz32:ConR oa 167 qil)(hrz33:ConR oa 168 qlh)(hg:∀(x:ElP [.ref (.box [.arr .str]),.dat cExpr]) (y:j9),WfP [.ref (.box [.arr .str]),.dat cExpr] x->g x=iz y->∃lf,Fz35 lf x.1.1 x.2.1=iz y):ConR oa 89 ⟨[.ref (.box [.arr .str]),.dat cExpr],[],g⟩ :=
 conTR (nmf:=qfu) (sml:=qs1) (hxl:=qn8) (st:=qho) (hd:=qtf) 20 mixed ttOK ftOK hsm (zsn hrz31 hrz32 hrz33) qxz (by kernel_rfl) (fun x=>by kernel_rfl) qup qs3 fun x y z b a=>by
  obtain⟨lf,h⟩:=hg x (y,z) b a;exact⟨lf,(zxp g lf x.1.1 x.2.1).trans h⟩
def qgk:Nat->Oq Nm:=fun k=>cond (od k 3) (iz ⟨[4,12,13,14],[(4,zd)],[],[],[],0,0,eb⟩) (cond (od k 999999) (iz ⟨[],[],[],[],[],0,0,eb⟩) i6)
def qdl:Nat->Bool:=fun k=>cond (od k 3) i7 (eb)
def qpk:=qdl
abbrev ve:Type:=((Lz zb) × Bool × Unit) × ((Lz Bq) × Unit) × Unit
def qvg:Lz (Nat × Sm):=[(275,qd1)]
def quu:Lz (Nat × Hx):=[]
def qq8(R:Type)(lf:Nat):ClK R:=zn oa ttT.get ftT.get (fun _ _=>i6) (smL qvg) (hxL quu) lf 20 R
abbrev zeh:Nat:=170
def qbt(x1:(Lz Bq))(p:Int × (Lz zb)):NRes:=(NRes.mk (.node i6 (.node i6 .leaf (.node i6 .leaf (.node (iz (IV.int .i64 (we x1.length))) .leaf .leaf))) (.node i6 (.node (iz (IV.arr 1)) .leaf (.node (iz (IV.arr 2)) .leaf .leaf)) (.node i6 .leaf (.node (iz (IV.int .i64 p.1)) .leaf .leaf)))) (IS.mk (.node (iz (IObj.row [(IV.arr 2)])) (.node (iz (IObj.arr zd p.2)) .leaf .leaf) (.node (iz (IObj.arr TC.str x1)) .leaf .leaf)) 3) [] 0)
def q4n(lf:Nat)(x1:(Lz Bq))(L3:(Int × (Lz zb))->Oq ve):Oq ve:=(L3 ((we 0),[]))
def qkc(lf:Nat)(x1:(Lz Bq))(L3:(Int × (Lz zb))->Oq ve)(p:Int × (Lz zb)):Oq ve:=(cond (iltI p.1 (we x1.length)) (bd (jget x1 p.1) fun v0=>(bd (av x1 (f7 p.1)) fun v1=>(cond (Bool.not (ieqI (S.shape v1).2 (we 0))) (iz (([],(eb,())),((x1,()),()))) (cond (og (o7 (o5 p.2.length 1) 40) 140737488355328) (L3 ((IntKind.i64.wrap (oe p.1 (we 1))),(oz p.2 (ou ((S.shape v1).1,(v1,((we 0),(we 0)))) [])))) i6)))) (iz ((p.2,(i7,())),((x1,()),()))))
abbrev gz36:Type:=ElP [.ref (.box [.arr .str])]->Oq ve
abbrev sz36(g:gz36):SmR:=⟨[.ref (.box [.arr .str])],[(eb,(.list zd)),(eb,.bool)],g⟩
abbrev Ez36(g:gz36)(J:JT ve)(lf:Nat)(x1:(Lz Bq)):=zm oa ttT.get qgk (mP [.ref (.box [.arr .str])]) uf.nt (qq8 _ lf) lf qdl J uf.body [] (zk (ze [.ref (.box [.arr .str])] idN 0 ((x1,()),())) 0 .leaf) (Sc [.ref (.box [.arr .str])] ((x1,()),())) [] (z6 ttT.get uf (sz36 g))
abbrev Bz36(g:gz36)(J:JT ve)(lf k:Nat)(ms:Lz Nat)(q:NRes):=qj oa ttT.get qgk (mP [.ref (.box [.arr .str])]) uf.nt (qq8 _ lf) lf qdl J k uf.body [] ms q (z6 ttT.get uf (sz36 g))
theorem zwb(g:gz36)(J:JT ve)(lf:Nat)(x1:(Lz Bq)):Ez36 g J lf x1=q4n lf x1 (fun q=>J 3 [lf] (qbt x1 q)):=by kernel_rfl
theorem zej(g:gz36)(J:JT ve)(lf:Nat)(x1:(Lz Bq))(m1:Nat)(p:Int × (Lz zb)):Bz36 g J lf 3 [m1] (qbt x1 p)=qkc lf x1 (fun q=>J 3 [m1] (qbt x1 q)) p:=by kernel_rfl
theorem qzs:(regs uf.body).Nodup:=by decide +kernel
theorem q1c:okC qgk qdl qpk uf.body i6=i7:=by kernel_rfl
def Az36(g:gz36)(lf:Nat):JT ve:=atQ oa ttT.get qgk uf (sz36 g) (qq8 _ lf) lf qpk
def qa9(lf:Nat)(x1:(Lz Bq)):Nat->(Int × (Lz zb))->Oq ve:=rounds fun K p=>qkc lf x1 K p
theorem qz6(g:gz36)(lf:Nat)(x1:(Lz Bq)):∀(n:Nat) (p:Int × (Lz zb)),Az36 g lf 3 [n] (qbt x1 p)=qa9 lf x1 n p
 | 0,p=>wg 3 [0] rfl _
 | n+1,p=>by
  have ih:=qz6 g lf x1 n;refine(ki rfl (qg 20 _) qzs q1c 3 [n+1] [n] rfl _).trans ((zej g (Az36 g lf) lf x1 n p).trans ?_);rw[(show (fun q=>Az36 g lf 3 [n] (qbt x1 q))=(fun q=>qa9 lf x1 n q) from funext ih)];rfl
def Fz36(lf:Nat)(x1:(Lz Bq)):Oq ve:=q4n lf x1 (fun q=>qa9 lf x1 lf q)
theorem zor(g:gz36)(lf:Nat)(x1:(Lz Bq)):Ez36 g (Az36 g lf) lf x1=Fz36 lf x1:=by
  refine(zwb g (Az36 g lf) lf x1).trans ?_;rw[(show (fun q=>Az36 g lf 3 [lf] (qbt x1 q))=(fun q=>qa9 lf x1 lf q) from funext fun q=>qz6 g lf x1 lf q)];rfl
theorem zpn:zv oa quu:=trivial
theorem zn8{g:gz36}(hsm:SmOK oa qvg)(hg:∀(x:ElP [.ref (.box [.arr .str])]) (y:ve),WfP [.ref (.box [.arr .str])] x->g x=iz y->∃lf,Fz36 lf x.1.1=iz y):ConR oa 170 ⟨[.ref (.box [.arr .str])],[(eb,(.list zd)),(eb,.bool)],g⟩ :=
 conTR (nmf:=qgk) (sml:=qvg) (hxl:=quu) (st:=qdl) (hd:=qpk) 20 mixed ttOK ftOK hsm zpn zca (by kernel_rfl) (fun x=>by kernel_rfl) qzs q1c fun x y z b a=>by
  obtain⟨lf,h⟩:=hg x (y,z) b a;exact⟨lf,(zor g lf x.1.1).trans h⟩
end
section
def Lq{α:Type}(a b:Oq α):Prop:=∀y,a=iz y->b=iz y
theorem Lq.rfl{α:Type}{a:Oq α}:Lq a a:=fun _ h=>h
theorem Lq.eq{α:Type}{a b:Oq α}(h:a=b):Lq a b:=fun _ k=>h▸k
theorem Lq.cond{α:Type}{c:Bool}{a b a' b':Oq α}(h1:c=i7->Lq a a')(h2:c=eb->Lq b b'):Lq (cond c a b) (cond c a' b'):=by
 grind
theorem q5g{α σ A R:Type}{T:(A->Oq R)->A->Oq R}(l:Lz α)(mk:Int->σ->A)(g:Lz α->Nat->σ->Oq R)(hl:l.length<LF)(hnil:∀K s,Lq (g [] l.length s) (T K (mk (we l.length) s)))
  (hcons:∀K i v rest s,Rnd l i v rest->(∀s',Lq (g rest (i+1) s') (K (mk (we (i+1)) s')))->Lq (g (v::rest) i s) (T K (mk (we i) s))) :
  ∀n i s,i<=l.length->l.length-i<n->Lq (g (l.drop i) i s) (rounds T n (mk (we i) s))
 | 0,i,s,_,h=>by omega
 | n+1,i,s,hi,h=>by
  show Lq _ (T (rounds T n) (mk (we i) s));by_cases e:i=l.length
  ·grind
  ·obtain⟨v,rest,r⟩:=qob (l:=l) (i:=i) (by omega) hl;rw[r.drop];refine hcons (rounds T n) i v rest s r fun s'=>?_;have:=q5g l mk g hl hnil hcons n (i+1) s' (by have:=r.lt;omega) (by omega)
   rwa [r.tail] at this
theorem qmd{α σ A R:Type}{T:(A->Oq R)->A->Oq R}{n:Nat}{l:Lz α}(hn:l.length<n)(mk:Int->σ->A)(g:Lz α->Nat->σ->Oq R)(hl:l.length<LF)(hnil:∀K s,Lq (g [] l.length s) (T K (mk (we l.length) s)))
  (hcons:∀K i v rest s,Rnd l i v rest->(∀s',Lq (g rest (i+1) s') (K (mk (we (i+1)) s')))->Lq (g (v::rest) i s) (T K (mk (we i) s))) (s:σ):Lq (g l 0 s) (rounds T n (mk (we 0) s)):=by
 have:=q5g l mk g hl hnil hcons n 0 s (pm _) (by omega)
 grind
section
variable [Φ : Fuel]
theorem qsl(l:Lz RExpr):(unL l).length=l.length:=gt _
theorem q5z{x:zc}(h:WfE cExpr x):(unL x.2.2.2).length<LF:=by
 have d:Wfi (.rl 1) x.2.2.2:=h.2.2.2;have a:∀{k:Nat} {l:Lz (RT k)},Wfi (.rl k) l->l.length*bsz (rcC k)<=140737488355328:=fun h=>by
  cases h with
  | rl _ _ h _=>exact h
 have b:=a d;rw[qsl];have c:bsz (rcC 1)=56:=rfl;rw[c] at b;have b:oq (α:=RExpr) x.2.2.2*56<=140737488355328:=b;unfold LF;omega
theorem qwn{l:Lz zc}(h:WfE (.list cExpr) l):l.length<LF:=q94 h
theorem zyp(lf:Nat)(x:zc):qo1 lf x=iz (S.levelOf x,()):=by
 show cond (ieqI x.1 7) (S.lev x.2.1 fun n _=>iz (n,())) (cond (ieqI x.1 8) (cond (ieqI x.1 8) (iz ((6:Int),())) (iz ((7:Int),()))) (cond (ieqI x.1 9) (iz ((6:Int),())) (iz ((7:Int),()))))=_;unfold S.levelOf;cases ieqI x.1 7 with
 | true=>exact(qsn (fun n=>(iz (n,()):Oq (Int × Unit))) x.2.1 fun n _=>n).symm
 | false =>
  grind
theorem qzk:Con oa zpd qsm:=zlk trivial fun x y a h=>⟨0,(zyp 0 x.1).trans h⟩
theorem zks{x:zc}(hx:WfE cExpr x)(lf:Nat)(hlf:(unL x.2.2.2).length<lf):Lq (S.oU (S.oU (S.dep (Φ.n+1) x))) (Fz29 lf x):=by
 show Lq (S.oU (S.oU (match S.depL (S.dep Φ.n) (unL x.2.2.2) 0 with|none=>i6|some m=>iz (IntKind.i64.wrap (oe m (we 1)))))) (qg1 lf x lf (we 0,we 0));refine qmd hlf (σ:=Int) (fun i s=>(s,i)) (fun a _ s=>S.oU (S.oU (match S.depL (S.dep Φ.n) a s with|none=>i6|some m=>iz (IntKind.i64.wrap (oe m (we 1)))))) (q5z hx) (fun K s=>?_) (fun K i v a s r h=>?_) 0
 ·refine Lq.eq ?_;unfold qls;simp only[jt,xe];rfl
 ·unfold qls;simp only[r.ilt,r.get,r.next,xa,bd,qz,S.depL];simp only[S.dDepth];cases S.dep Φ.n v with
  | none=>exact fun y h=>by cases h
  | some d=>exact h (imax s d)
theorem zxy{l m:Lz zc}(hl:l.length<LF){lf:Nat}(hlf:l.length<lf)(hm:m.length=l.length):Lq (match S.eqL (S.eqE Φ.n) l m with|none=>i6|some b=>iz ((b,()),())) (qbs lf l m lf (we 0)):=by
 refine qmd hlf (σ:=Unit) (fun i _=>i) (fun a i _=>match S.eqL (S.eqE Φ.n) a (m.drop i) with|none=>i6|some b=>iz ((b,()),())) hl (fun K s=>?_) (fun K i v a s r h=>?_) ()
 ·refine Lq.eq ?_;unfold qjd;simp only[jt,xe];rfl
 ·unfold qjd;have c:i<m.length:=by have:=r.lt;omega
  have d:jget m (we i)=iz m[i]:=by rw[bm];exact xc c
  simp only[r.ilt,r.get,r.next,d,xa,bd,qz];rw[dw c];simp only[S.dSame,S.eqL];cases S.eqE Φ.n v m[i] with
  | none=>exact fun y h=>by cases h
  | some b=>cases b with
   | true=>exact h ()
   | false=>exact Lq.rfl
theorem q6k{l m:Lz zc}(hl:l.length<LF){lf:Nat}(hlf:l.length<lf):Lq (S.dEqQ l m) (Fz30 lf l m):=by
 show Lq (S.dEqQ l m) (cond (Bool.not (ieqI (we l.length) (we m.length))) (iz ((eb,()),())) (qbs lf l m lf (we 0)));unfold S.dEqQ S.eqQ;cases h:ieqI (we l.length) (we m.length) with
 | false=>exact Lq.rfl
 | true =>
  rw[zx] at h;have h:=xu h;exact zxy hl hlf (by have:=jak h;exact this.symm)
theorem qxy(x y:zc)(lf:Nat):qwb lf x y=S.oU (S.eqE (Φ.n+1) x y):=by
 show cond (ieqI x.1 y.1) (cond (keqS x.2.1 y.2.1) (cond (ieqI x.2.2.1 y.2.2.1) (bd (S.dEqQ (unL x.2.2.2) (unL y.2.2.2)) fun a=>iz a.1) (iz (eb,()))) (iz (eb,()))) (iz (eb,()))=S.oU (cond (ieqI x.1 y.1) (cond (keqS x.2.1 y.2.1) (cond (ieqI x.2.2.1 y.2.2.1) (S.eqQ (S.eqE Φ.n) (unL x.2.2.2) (unL y.2.2.2)) (iz eb)) (iz eb)) (iz eb));cases ieqI x.1 y.1 with
 | false=>rfl
 | true=>cases keqS x.2.1 y.2.1 with
  | false=>rfl
  | true=>cases ieqI x.2.2.1 y.2.2.1 with
   | false=>rfl
   | true =>
    simp only[xa];unfold S.dEqQ;cases S.eqQ (S.eqE Φ.n) (unL x.2.2.2) (unL y.2.2.2)<;>rfl
theorem zrs{β:Type}(x:Oq (Unit × β)):bd x (fun v=>iz ((),v.2))=x:=by cases x<;>rfl
theorem q36{w:DWr}{r:Oq (Lz Bq)}{y}(h:S.wPut w r=iz y):∃a,r=iz a/\(w.1.length+a.length)*16<=140737488355328/\y=((),(w.1++a,()),()):=by
 unfold S.wPut at h;cases r with
 | none=>cases h
 | some a =>
  obtain⟨c,b⟩:=yx h;exact⟨a,rfl,by simpa using c,by cases b;rfl⟩
theorem zax{w:DWr}{a:Lz Bq}(h:(w.1.length+a.length)*16<=140737488355328):S.wPut w (iz a)=iz ((),(w.1++a,()),()):=by
 show cond (og _ _) _ i6=_;rw[show og ((w.1.length+a.length)*16) 140737488355328=i7 by simpa using h];rfl
theorem j0{w:DWr}{r q:Oq (Lz Bq)}{K:Unit × DWr × Unit->Oq (Unit × DWr × Unit)}(h:∀v:DWr,Lq (S.wPut v q) (K ((),v,()))):Lq (S.wPut w (S.cat r q)) (bd (S.wPut w r) K):=fun y e=>by
 obtain⟨c,d,f,rfl⟩:=q36 e;unfold S.cat at d;split at d
 ·grind
 rename_i a;split at d<;>cases d;rename_i b;rw[xp] at f;rw[zax (by omega)];show K ((),(w.1++a,()),())=_;refine h _ _ ?_;rw[zax (by rw[xp];omega)]
 grind
theorem endW{w:DWr}{r:Oq (Lz Bq)}:Lq (S.wPut w r) (bd (S.wPut w r) fun v=>iz ((),v.2)):=Lq.eq (zrs _).symm
theorem nilW{w:DWr}:Lq (S.wPut w (iz [])) (iz ((),w,())):=fun y a=>by
 obtain⟨c,d,b,rfl⟩:=q36 a
 grind
theorem zsx(w l:Lz Bq):Fz31 0 w l=S.dPut (w,()) l:=rfl
theorem qg9:ConR oa zcx wl:=zcd trivial fun x y a h=>⟨0,(zsx x.1.1 x.2.1).trans h⟩
theorem znf(w:Lz Bq)(x:zc)(k:Int)(lf:Nat):Lq (S.dWithin (w,()) x k) (Fz32 lf w x k):=by
 show Lq (S.wPut (w,()) (cond (iltI (S.levelOf x) k) _ _)) (qi0 lf w x k);unfold qi0;simp only[qz];cases iltI (S.levelOf x) k with
 | false=>exact endW
 | true =>
  simp only[gd,xa,xe];refine j0 fun v=>?_;refine j0 fun v=>?_;exact endW
theorem zil(w:Lz Bq)(l:Lz zc)(lf:Nat):Lq (S.dArgsW (w,()) l) (Fz33 lf w l):=by
 show Lq (S.wPut (w,()) (cond (iltI 0 (we l.length)) _ _)) (qkf lf w l);unfold qkf;show Lq _ (cond (iltI 0 (we l.length)) _ _);cases iltI 0 (we l.length) with
 | false=>exact nilW
 | true =>
  simp only[gd,xa,xe];refine j0 fun v=>?_;refine j0 fun v=>?_;exact endW
theorem zrr(w:Lz Bq)(s:Bq){l:Lz zc}(hl:l.length<LF){lf:Nat}(hlf:l.length<lf):Lq (S.dListW (w,()) s l) (Fz34 lf w s l):=by
 show Lq (S.wPut (w,()) (S.wlist (S.wexpr Φ.n) s l 0)) (qe3 lf w s l lf (we 0,w));refine qmd hlf (σ:=Lz Bq) (fun i s=>(i,s)) (fun a i v=>S.wPut (v,()) (S.wlist (S.wexpr Φ.n) s a i)) hl (fun K v=>?_) (fun K i x a v r h=>?_) w
 ·unfold qhp;simp only[jt,xe];exact nilW
 ·unfold qhp S.wlist;simp only[r.ilt,r.get,r.next,xa,qz];show Lq _ (cond (iltI 0 (we i)) _ _);cases iltI 0 (we i) with
  | true =>
   refine j0 fun v=>?_;refine j0 fun v=>?_
   grind
  | false =>
   simp only[xe];have b:∀q,S.cat (iz []) q=q:=fun q=>by cases q<;>rfl
   rw[b];exact j0 fun v=>h v.1
theorem zyx{w:Lz Bq}(hl:w.length<=1099511627776){lf:Nat}(hlf:w.length<lf):Lq (iz (((S.wtokL w []).1,(S.wtokL w []).2,()),(w,()),())) (qa9 lf w lf (we 0,[])):=by
 have b:∀n i (a:Lz zb),i<=w.length->a.length<=i->w.length-i<n->qa9 lf w n (we i,a)=iz (((S.wtokL (w.drop i) a).1,(S.wtokL (w.drop i) a).2,()),(w,()),()):=by
  intro n;induction n with
  | zero=>intro i a g f h;omega
  | succ n ih =>
   intro i a g f h;show qkc lf w (qa9 lf w n) (we i,a)=_;unfold qkc;by_cases e:i=w.length
   ·subst e;simp only[jt,xe,jb0];rfl
   ·obtain⟨v,c,r⟩:=qob (l:=w) (i:=i) (by omega) (by unfold LF;omega);simp only[r.ilt,r.get,r.next,xa,bd,r.drop,S.wtokL,rr,show (we i).toNat=i from rfl,r.get?];show cond (Bool.not (ieqI (S.shape v).2 0)) _ _=_;cases ieqI (S.shape v).2 0 with
    | false=>rfl
    | true =>
     have d:og (o7 (o5 a.length 1) 40) 140737488355328=i7:=by
      simp only[Nat.ble_eq]
      grind
     simp only[gd,xe,xa];rw[d,xa];have:=ih (i+1) (a++[((S.shape v).1,v,0,0)]) (by have:=r.lt;omega) (by simp;omega) (by omega);rw[r.tail] at this;exact this
 refine Lq.eq ?_;have:=b lf 0 [] (pm _) (xl _) (by omega)
 grind
theorem zu7(w:Lz Bq){lf:Nat}(hlf:w.length<lf):Lq (S.wTokens (w,())) (Fz36 lf w):=fun y a=>by
 obtain⟨c,b⟩:=yx a;exact zyx (by simpa using c) hlf y b
theorem qxf:ConR oa zeh qhb:=zn8 ⟨qkq,trivial⟩ fun x y a h=>⟨oq (α:=Bq) x.1.1+1,zu7 x.1.1 (dy _) y h⟩
end
end
section
theorem qfj{R:Type}{l:Lz zc}{i:Nat}{a:Oq R}{K:zc->Oq R}(h:Lq a (K (S.kidAt l i))):Lq a (cond (iltI (we i) (we l.length)) (bd (jget l (we i)) fun v=>K (zl v)) (K S.zE)):=by
 rw[qc,bm];unfold S.kidAt at h;by_cases b:i<l.length
 ·rw[xt (by show (i:Int)<(l.length:Int);omega),xc b];rw[xc b] at h;simp only[xa,bd,qz];exact h
 ·rw[xq (by show ¬(i:Int)<(l.length:Int);omega)];rw[p6 (by omega)] at h;exact h
section
variable [Φ : Fuel] {w : Lz Bq} {x : zc}
theorem que(p:Lz zc)(v:DWr)(lf:Nat):Lq (S.wPut v (S.cat (iz [x.2.1]) (S.wargs (S.wexpr Φ.n) p))) (qb1 lf w x (p,v.1)):=by
 unfold qb1 qv9;refine j0 fun v=>?_;exact endW
theorem qq2(a b:Int)(lf:Nat):Lq (S.wPut (w,()) (S.cat (S.within (S.wexpr Φ.n) (S.kidAt (unL x.2.2.2) 0) a) (S.cat (iz [x.2.1]) (S.within (S.wexpr Φ.n) (S.kidAt (unL x.2.2.2) 1) b)))) (qbr lf w x (a,b)):=by
 unfold qbr qpo;refine qfj (i:=0) (l:=unL x.2.2.2) (K:=fun z=>bd (S.dWithin (w,()) z a) fun f=>bd (S.dPut f.2.1 [x.2.1]) fun e=>cond (iltI (we 1) (we (unL x.2.2.2).length)) (bd (jget (unL x.2.2.2) (we 1)) fun d=>bd (S.dWithin e.2.1 (zl d) b) fun c=>iz ((),c.2)) (bd (S.dWithin e.2.1 S.zE b) fun c=>iz ((),c.2))) ?_;refine j0 fun v=>?_;refine j0 fun v=>?_;refine qfj (i:=1) (l:=unL x.2.2.2) (K:=fun z=>bd (S.dWithin v z b) fun c=>iz ((),c.2)) ?_;exact endW
theorem zfs(lf:Nat):Lq (S.wPut (w,()) (S.wexpr (Φ.n+1) x)) (Fz35 lf w x):=by
 show Lq _ (qlr lf w x (fun q=>qb1 lf w x q) (fun q=>qbr lf w x q));unfold qlr S.wexpr;have j:oq (α:=zc) (unL x.2.2.2)=oq (α:=zc) (unL x.2.2.2):=rfl;have d:∀{c:Bool} {a b:Oq (Lz Bq)} {X Y:Oq (Unit × DWr × Unit)},(c=i7->Lq (S.wPut (w,()) a) X)->(c=eb->Lq (S.wPut (w,()) b) Y)->Lq (S.wPut (w,()) (cond c a b)) (cond c X Y):=fun {c a b X Y} f o=>by
  cases c
  ·exact o rfl
  ·exact f rfl
 refine d (fun _=>endW) fun _=>d (fun _=>?_) fun _=>d (fun _=>endW) fun _=>d (fun _=>endW) fun _=>d (fun _=>endW) fun _=>d (fun _=>?_) fun _=>d (fun _=>?_) fun _=>d (fun _=>?_) fun _=>d (fun _=>?_) fun _=>d (fun _=>?_) fun _=>endW
 ·show Lq (S.wPut (w,()) (cond (ieqI x.2.2.1 1) _ _)) (cond (decide (ieqI x.2.2.1 1=i7)) _ (cond (decide (ieqI x.2.2.1 1=eb)) _ _));cases ieqI x.2.2.1 1
  ·exact endW
  ·exact endW
 ·show Lq (S.wPut (w,()) (cond (ieqI x.2.2.1 1&&iltI 0 (we (unL x.2.2.2).length)) _ _)) (cond (ieqI x.2.2.1 1) (cond (iltI 0 (we (unL x.2.2.2).length)) _ _) _);cases ieqI x.2.2.1 1 with
  | false=>exact que (w:=w) _ (w,()) lf
  | true =>
   cases e:iltI 0 (we (unL x.2.2.2).length) with
   | false=>exact que (w:=w) _ (w,()) lf
   | true =>
    have e:0<(unL x.2.2.2).length:=by
     rw[qc] at e;have f:=xu e;have f:(0:Int)<((unL x.2.2.2).length:Int):=f;omega
    have k:S.kidAt (unL x.2.2.2) 0=(unL x.2.2.2)[0]:=by unfold S.kidAt;rw[xc e]
    have m:jget (unL x.2.2.2) (we 0)=iz (unL x.2.2.2)[0]:=by rw[bm];exact xc e
    have h:lchk (we 1) (we (unL x.2.2.2).length) (we (unL x.2.2.2).length) (we (unL x.2.2.2).length)=i7:=cu.2 ⟨by decide,by show (1:Int)<=((unL x.2.2.2).length:Int);omega,by omega,by omega⟩;have g:lsub (unL x.2.2.2) (we 1) (we (unL x.2.2.2).length)=(unL x.2.2.2).drop 1:=by
     unfold lsub;show ((unL x.2.2.2).take (unL x.2.2.2).length).drop 1=_;rw[jba]
    simp only[dx,xa,m,k,h,g,bd,qz];refine j0 fun v=>?_;refine j0 fun v=>?_;exact que (w:=w) _ v lf
 ·simp only[qz];unfold S.leftOf S.rightOf;show Lq _ (cond (ieqI (S.levelOf x) 0) _ (cond (ieqI (S.levelOf x) 3) _ _));cases ieqI (S.levelOf x) 0 with
  | true=>exact qq2 _ _ lf
  | false=>cases ieqI (S.levelOf x) 3 with
   | true=>exact qq2 _ _ lf
   | false=>exact qq2 _ _ lf
 ·refine j0 fun v=>?_;refine qfj (i:=0) (l:=unL x.2.2.2) (K:=fun z=>bd (S.dWithin v z 6) fun q=>iz ((),q.2)) ?_;exact endW
 ·refine j0 fun v=>?_;refine qfj (i:=0) (l:=unL x.2.2.2) (K:=fun z=>bd (S.dWithin v z 6) fun q=>iz ((),q.2)) ?_;exact endW
 ·refine j0 fun v=>?_;refine qfj (i:=0) (l:=unL x.2.2.2) (K:=fun z=>bd (S.dWithin v z 7) fun q=>bd (S.dPut q.2.1 [Go.Jx.S.lit [97,115],x.2.1]) fun q=>iz ((),q.2)) ?_;refine j0 fun v=>?_;exact endW
end
end
theorem qvt{P:om}{f:Nat}{s:SmR}(hc:zg P f)(h:∀x,s.f x=i6):ConR P f s:=⟨hc,fun E x b y z a=>by rw[h] at a;cases a⟩
theorem qyy{P:om}{f:Nat}{ps:Lz PK}{rts:Lz (Bool × TC)}{F:Nat->ElP ps->Oq (ElR rts × ElP (refs ps))}{G:ElP ps->Oq (ElR rts × ElP (refs ps))}(h:∀n,n<=68719476736->ConR P f ⟨ps,rts,F n⟩)
  (hG:∀x y,G x=iz y->∃n,n<=68719476736/\F n x=iz y):ConR P f ⟨ps,rts,G⟩:=⟨(h 0 (pm _)).callable,fun E x a y z d p b=>by
 obtain⟨n,c,e⟩:=hG x (y,z) d;exact(h n c).calls E x a y z e p b⟩
namespace S
def depR(x:zc):Oq Int:=lim fun n=>dep n x
def eqR(x y:zc):Oq Bool:=lim fun n=>eqE n x y
def wexprR(x:zc):Oq (Lz Bq):=lim fun n=>wexpr n x
def dDepthR(x:zc):Oq ((Int × Unit) × Unit):=oU (oU (depR x))
def dSameR(x y:zc):Oq (Bool × Unit):=oU (eqR x y)
def dExprWR(w:DWr)(x:zc):Oq (Unit × DWr × Unit):=wPut w (wexprR x)
end S
def qbb:SmR:=⟨[.dat cExpr],[(eb,.int .i64)],fun x=>S.dDepthR x.1⟩
def qw5:Sm:=⟨[cExpr,cExpr],[(eb,.bool)],fun x=>S.dSameR x.1 x.2.1⟩
def qnp:SmR:=⟨[pkW,.dat cExpr],[],fun x=>S.dExprWR x.1 x.2.1⟩
theorem qqf:∀(n:Nat) (h:n<=68719476736),ConR oa 54 (@qea ⟨n,h⟩)
 | 0,h=>qvt q47 fun x=>rfl
 | n+1,h=>zvd (Φ:=⟨n,by omega⟩) trivial (qqf n (by omega)) fun x y hx hy=>⟨oq (α:=RExpr) x.1.2.2.2+1,zks (Φ:=⟨n,by omega⟩) hx.1 _ (by rw[qsl (Φ:=⟨n,by omega⟩)];exact dy _) y hy⟩
theorem q7l:ConR oa 54 qbb:=qyy (rts:=[(eb,.int .i64)]) (F:=fun n (x:ElP [.dat cExpr])=>S.oU (S.oU (S.dep n x.1))) (fun n h=>qqf n h) fun x y a=>by
 have a:S.oU (S.oU (lim fun n=>S.dep n x.1))=iz y:=a;cases b:lim fun n=>S.dep n x.1 with
 | none=>rw[b] at a;cases a
 | some d =>
  obtain⟨n,c,e⟩:=nx b;refine⟨n,c,?_⟩;rw[b] at a;show S.oU (S.oU (S.dep n x.1))=_;rw[e];exact a
theorem zss(n:Nat)(h:n<=68719476736)(hs:Con oa 91 (@qi6 ⟨n,h⟩)):ConR oa 172 (@qi1 ⟨n,h⟩) :=
 mkz30 (Φ:=⟨n,h⟩) ⟨hs,trivial⟩ fun x y b a=>⟨oq (α:=zc) x.1+1,q6k (Φ:=⟨n,h⟩) (qwn (Φ:=⟨n,h⟩) b.1) (dy _) y a⟩
theorem qx2{P:om}{f:Nat}{s:Sm}(hc:zg P f)(h:∀x,s.f x=i6):Con P f s:=⟨hc,fun M w x b y a=>by rw[h] at a;cases a⟩
theorem qkz:∀(n:Nat) (h:n<=68719476736),Con oa 91 (@qi6 ⟨n,h⟩)
 | 0,h=>qx2 q7x fun x=>rfl
 | n+1,h=>zz4 (Φ:=⟨n,by omega⟩) trivial (zss n (by omega) (qkz n (by omega))) fun x y hx hy=>⟨0,(qxy (Φ:=⟨n,by omega⟩) x.1 x.2.1 0).trans hy⟩
theorem zdc:Con oa 91 qw5:=⟨(qkz 0 (pm _)).callable,fun M w x c y a=>by
 have a:S.oU (lim fun n=>S.eqE n x.1 x.2.1)=iz y:=a;cases b:lim fun n=>S.eqE n x.1 x.2.1 with
 | none=>rw[b] at a;cases a
 | some d =>
  obtain⟨n,e,f⟩:=nx b;rw[b] at a;exact(qkz n e).calls M w x c y (by show S.oU (S.eqE n x.1 x.2.1)=_;rw[f];exact a)⟩
theorem zgg(n:Nat)(h:n<=68719476736)(he:ConR oa 89 (@yu ⟨n,h⟩)):ConR oa 167 (@qil ⟨n,h⟩) :=
 mkz32 (Φ:=⟨n,h⟩) ⟨(qzk (Φ:=⟨n,h⟩)),trivial⟩ (qg9 (Φ:=⟨n,h⟩)) he fun x y b a=>⟨0,znf (Φ:=⟨n,h⟩) x.1.1 x.2.1 x.2.2.1 0 y a⟩
theorem zp2(n:Nat)(h:n<=68719476736)(he:ConR oa 89 (@yu ⟨n,h⟩)):ConR oa 280 (@qm3 ⟨n,h⟩) :=
 mkz34 (Φ:=⟨n,h⟩) trivial (qg9 (Φ:=⟨n,h⟩)) he fun x y b a=>⟨oq (α:=zc) x.2.2.1+1,zrr (Φ:=⟨n,h⟩) x.1.1 x.2.1 (qwn (Φ:=⟨n,h⟩) b.2.2.1) (dy _) y a⟩
theorem zb7(n:Nat)(h:n<=68719476736)(he:ConR oa 89 (@yu ⟨n,h⟩)):ConR oa 168 (@qlh ⟨n,h⟩) :=
 mkz33 (Φ:=⟨n,h⟩) trivial (qg9 (Φ:=⟨n,h⟩)) (zp2 n h he) fun x y b a=>⟨0,zil (Φ:=⟨n,h⟩) x.1.1 x.2.1 0 y a⟩
theorem qmz(hI:Con oa 166 qdw):∀(n:Nat) (h:n<=68719476736),ConR oa 89 (@yu ⟨n,h⟩)
 | 0,h=>qvt qxz fun x=>rfl
 | n+1,h=>ze6 (Φ:=⟨n,by omega⟩) ⟨(qzk (Φ:=⟨n,by omega⟩)),hI,trivial⟩ (qg9 (Φ:=⟨n,by omega⟩)) (zgg n (by omega) (qmz hI n (by omega))) (zb7 n (by omega) (qmz hI n (by omega))) fun x y hx hy=>⟨0,zfs (Φ:=⟨n,by omega⟩) 0 y hy⟩
theorem zqi(hI:Con oa 166 qdw):ConR oa 89 qnp:=qyy (rts:=[]) (F:=fun n (x:ElP [pkW,.dat cExpr])=>S.wPut x.1 (S.wexpr n x.2.1)) (fun n h=>qmz hI n h) fun x y a=>by
 have a:S.wPut x.1 (lim fun n=>S.wexpr n x.2.1)=iz y:=a;cases b:lim fun n=>S.wexpr n x.2.1 with
 | none=>rw[b] at a;cases a
 | some d =>
  obtain⟨n,c,e⟩:=nx b;refine⟨n,c,?_⟩;rw[b] at a;show S.wPut x.1 (S.wexpr n x.2.1)=_;rw[e];exact a
end Go.Proofs.YtaepcfidpcoofaaGreatDoor
end

noncomputable section
namespace Go.Jx
open Go Go.Sx Go.RowKit
universe u

def i0(n:Int):IV:=.int .i64 n
def tryV(pt:Nat)(v:IV):Oq (Lz IV):=match qy v with
 | some p=>match p with
  | .iface t (.agg [.int .i64 a,.int .i64 b,.int .i64 e])=>cond (od t pt) (iz [i0 a,i0 b,i0 e]) i6
  | _=>i6
 | none=>match v with
  | .tup []=>iz [i0 0,i0 0,i0 0]
  | _=>i6
def tryS(S:IS):IS:=S.new (.row [i0 0,i0 0,i0 0])
def tryR(S:IS)(cs:Lz IV)(r:Res):Oq Res:=match r.S.heap.get S.next with
 | some (.row _)=>iz ⟨.agg cs,r.S.set S.next (.row cs),r.rd,r.wr ||| 2 ^ S.next⟩
 | _=>i6
def tryF(pt:Nat)(cl:Cl)(vs:Lz IV)(S:IS):Oq Res:=match vs with
 | [.fn g caps]=>match cl (.fn g) caps (tryS S) with
  | none=>i6
  | some r=>match tryV pt r.v with
   | none=>i6
   | some cs=>tryR S cs r
 | _=>i6
def tryK{R:Type}(pt:Nat)(cl:ClK R)(vs:Lz IV)(S:IS)(kk:Res->Oq R):Oq R:=match vs with
 | [.fn g caps]=>cl (.fn g) caps (tryS S) fun r=>match tryV pt r.v with
  | none=>i6
  | some cs=>match r.S.heap.get S.next with
   | some (.row _)=>kk ⟨.agg cs,r.S.set S.next (.row cs),r.rd,r.wr ||| 2 ^ S.next⟩
   | _=>i6
 | _=>i6
theorem zua{R:Type}{pt:Nat}{cl:Cl}{clK:ClK R}(h:ClEq cl clK)(vs:Lz IV)(S:IS)(kk:Res->Oq R):tryK pt clK vs S kk=ob (tryF pt cl vs S) kk:=by
 unfold tryK tryF;split
 ·rename_i g a;simp only[h (.fn g)];cases cl (.fn g) a (tryS S) with
  | none=>rfl
  | some r =>
   simp only[ob];cases tryV pt r.v with
   | none=>rfl
   | some cs =>
    simp only[tryR];cases r.S.heap.get S.next with
    | none=>rfl
    | some o=>cases o<;>rfl
 ·rename_i b;cases vs with
  | nil=>rfl
  | cons v vs=>cases vs with
   | cons w vs=>rfl
   | nil=>cases v<;>first|rfl|exact absurd rfl (b _ _)
def hxT(pt:Nat):Hx:=⟨fun cl vs S=>tryF pt cl vs S,fun clP R vs S kk=>tryK pt (clP R) vs S kk,fun cl clP hcl R vs S kk=>zua (hcl R) vs S kk⟩
section
variable {P : om} {T : TW} {E : Env} {S : IS}
theorem qn6{pt:Nat}{cl:Cl}{vs:Lz IV}{r:Res}(h:tryF pt cl vs S=iz r):∃g caps r1 cs cs1,vs=[.fn g caps]/\cl (.fn g) caps (tryS S)=iz r1/\tryV pt r1.v=iz cs/\r1.S.heap.get S.next=iz (.row cs1)/\r=⟨.agg cs,r1.S.set S.next (.row cs),r1.rd,r1.wr ||| 2 ^ S.next⟩:=by
 unfold tryF at h;split at h
 ·rename_i g caps;split at h
  ·cases h
  rename_i r1 c;split at h
  ·cases h
  rename_i cs b;unfold tryR at h;split at h<;>cases h;rename_i cs1 a;exact⟨g,caps,r1,cs,cs1,rfl,c,b,a,rfl⟩
 ·cases h
theorem zxc{pt:Nat}{cl:Cl}(hcl:ClFr cl){vs:Lz IV}:FrO S (tryF pt cl vs S):=fun r h=>by
 obtain⟨g,a,b,i,d,rfl,c,f,e,rfl⟩:=qn6 h;exact FrX.newTrans (FrX.trans (S1:=b.S) (hcl _ _ _ _ c) (FrX.set _ _ _))
theorem zdr{pt:Nat}{cl:Cl}{vs:Lz IV}{r:Res}(h:tryF pt cl vs S=iz r)(hw:r.wr=0):False:=by
 obtain⟨g,a,c,i,b,rfl,f,e,d,rfl⟩:=qn6 h;have:=(or_zero hw).2;have:=Nat.one_le_two_pow (n:=S.next);omega
end
end Go.Jx
end

noncomputable section
set_option maxRecDepth 100000
set_option maxHeartbeats 4000000
namespace Go.Proofs.YtaepcfidpcoofaaGreatDoor
open Go Go.Sx Go.RowKit Go.Jx
def boxS(a b e:Int):Array oc:=#[.int .i64 a,.int .i64 b,.int .i64 e]
def wS(w:oh):oh:=w.alloc (.cells (boxS 0 0 0) 113)
def BxS(n:Nat)(w:oh):Prop:=∃x y z t,w.heap[n]?=iz (.cells #[x,y,z] t (0,0))
theorem BxS.c{n:Nat}{w:oh}(h:BxS n w):∃x y z,w.cell? { block:=n,off:=0 }=iz x/\w.cell? { block:=n,off:=1 }=iz y/\w.cell? { block:=n,off:=2 }=iz z/\w.frozen? { block:=n,off:=0 }=eb/\w.frozen? { block:=n,off:=1 }=eb/\w.frozen? { block:=n,off:=2 }=eb:=by
 obtain⟨x,y,z,t,a⟩:=h;refine⟨x,y,z,?_,?_,?_,?_,?_,?_⟩<;>simp [fu,World.frozen?,a]
theorem BxS.lt{n:Nat}{w:oh}(h:BxS n w):n<w.heap.size:=by
 obtain⟨x,y,z,t,a⟩:=h
 grind
theorem BxS.alloc{n:Nat}{w:oh}(h:BxS n w)(o:Obj):BxS n (w.alloc o):=by
 have b:=h.lt;obtain⟨x,y,z,t,a⟩:=h;refine⟨x,y,z,t,?_⟩;rw[<- a];simp only[World.alloc,jah];rw[xr (by omega)]
theorem zyg(p:f9)(w:oh) :
  CallsD oa 160 #[.pointer (iz p)] .returning w fun e u' w'=>e=.returned (.tuple #[])/\u'=.returning/\w'=w:=by
 refine callsD_of_wpS Tryz.func160 rfl fun b c a=>?_;apply wpS_seq;apply wpS_region;simp[wpOpsS,go_sem,recoverD,a,Tryz.ntmps160,Exit.thenS];apply wpS_seq;apply wpS_region;simp[wpOpsS,go_sem,Exit.thenS];refine wpS_cond (t:=eb) (by simp[Act.eval,fg]) ?_;simp only[pu,p9];refine wpS_of_wp (wp_skip ?_);cases b
 simp_all [bodyPostS,results,Tryz.results160,Exit.thenS]
def setS(n:Nat)(a b e:Int)(w:oh):oh:=((w.setCell { block:=n,off:=0 } (.int .i64 a)).setCell { block:=n,off:=1 } (.int .i64 b)).setCell { block:=n,off:=2 } (.int .i64 e)
theorem q10{n:Nat}{a b e:Int}{W:oh}{tmps:Array oc}(ht:tmps[2]?.getD undef=.pointer (iz ⟨n,0,i6⟩))(h:∃t,W.heap[n]?=iz (.cells (boxS a b e) t (0,0))) :
  (results Tryz.f82 tmps).run oa W=.ok (.agg (boxS a b e)) W:=by
 obtain⟨t,h⟩:=h;have f:W.cell? { block:=n,off:=0 }=iz (.int .i64 a):=by simp[fu,h,boxS]
 have d:W.cell? { block:=n,off:=1 }=iz (.int .i64 b):=by simp[fu,h,boxS]
 have c:W.cell? { block:=n,off:=2 }=iz (.int .i64 e):=by simp[fu,h,boxS]
 simp[results,Tryz.results82,go_sem,ht,f,d,c,boxS]
theorem qqi{n:Nat}{a b e:Int}{W:oh}(h:BxS n W):∃t,(setS n a b e W).heap[n]?=iz (.cells (boxS a b e) t (0,0)):=by
 obtain⟨x,y,z,t,h⟩:=h;exact⟨t,by simp[setS,fp,gv,h,boxS]⟩
theorem zlj{g:Nat}(hg:zg oa g)(us:Array oc)(w:oh)(Q:oh->Prop)(h:mi oa g us (wS w) fun e w'=>e=.returned (.tuple #[])/\Q w')(h0:∀w',Q w'->BxS w.heap.size w') :
  mi oa 82 #[.func (.func g) #[] us] w fun e w'=>∃w1,Q w1/\e=.returned (.agg (boxS 0 0 0))/\w'=setS w.heap.size 0 0 0 w1:=by
 go_enter_defers Tryz.func82,Tryz.ntmps82
 go_wp2
 rw[qp6 hg,Oper.upon_enter];refine h.mono ?_;rintro e w' ⟨rfl,a⟩;obtain⟨x,y,z,k,j,i,n,m,l⟩:=(h0 w' a).c
 go_wp2
 refine leaves_cons (f:=160) (args:=#[.pointer (iz ⟨w.heap.size,0,i6⟩)]) (by simp) (by simp[go_sem]) ?_;refine(zyg ⟨w.heap.size,0,i6⟩ _).mono ?_;rintro e d b ⟨rfl,rfl,rfl⟩;exact⟨_,q10 rfl (qqi (h0 w' a)),w',a,rfl,rfl⟩
def panS(n:Nat)(a b e:Int)(w:oh):oh:=(setS n a b e w).alloc (.cells (boxS a b e) 113)
theorem zjq(n:Nat)(a b e:Int)(w:oh)(hb:BxS n w) :
  CallsD oa 160 #[.pointer (iz ⟨n,0,i6⟩)] (.panicking [{ v:=.iface 113 (.agg (boxS a b e)),recovered:=eb }]) w fun e' u' w'=>e'=.returned (.tuple #[])/\u'=.panicking [{ v:=.iface 113 (.agg (boxS a b e)),recovered:=i7 }]/\w'=panS n a b e w:=by
 obtain⟨r,q,p,h,g,f,o,m,l⟩:=(hb.alloc (.cells (boxS a b e) 113)).c;obtain⟨x,y,z,u,t,s,C,B,A⟩:=hb.c;have k:n<w.heap.size:=hb.lt;refine callsD_of_wpS Tryz.func160 rfl fun D E i=>?_;apply wpS_seq;apply wpS_region;simp[wpOpsS,go_sem,recoverD,i,Tryz.ntmps160,Exit.thenS];refine wpS_of_wp ?_;unfold boxS at h g f o m l ⊢
 have d:(#[Value.pointer (iz { block:=n,off:=0 })] ++
     ((fg 15 undef).setIfInBounds 3 (Value.iface 113 (Value.agg #[.int .i64 a,.int .i64 b,.int .i64 e]))).setIfInBounds 0 (Value.iface 113 (Value.agg #[.int .i64 a,.int .i64 b,.int .i64 e])))=#[.pointer (iz ⟨n,0,i6⟩),.iface 113 (.agg #[.int .i64 a,.int .i64 b,.int .i64 e]),undef,undef,.iface 113 (.agg #[.int .i64 a,.int .i64 b,.int .i64 e]),undef,undef,undef,undef,undef,undef,undef,undef,undef,undef,undef]:=by kernel_rfl
 rw[d];clear d;have j:∀w:oh,(ik (Value.iface 113 (Value.agg #[.int .i64 a,.int .i64 b,.int .i64 e])) 20 113 i7).run oa w=.ok (.tuple #[.agg #[.int .i64 a,.int .i64 b,.int .i64 e],.bool i7]) w:=fun _=>by kernel_rfl
 go_wp2
 exact⟨rfl,_,rfl,_,by simp[results,Tryz.results160,xd],rfl,rfl,rfl⟩
theorem qz2{n:Nat}{a b e:Int}{W:oh}(hb:BxS n W):∃t,(panS n a b e W).heap[n]?=iz (.cells (boxS a b e) t (0,0)):=by
 have c:=hb.lt;have d:(setS n a b e W).heap.size=W.heap.size:=by simp[setS,fp]
 obtain⟨t,h⟩:=qqi (a:=a) (b:=b) (e:=e) hb;refine⟨t,?_⟩;unfold panS World.alloc
 grind
theorem z0c{g:Nat}(hg:zg oa g)(us:Array oc)(a b e:Int)(w:oh)(Q:oh->Prop)(h:mi oa g us (wS w) fun e' w'=>e'=.panicked [{ v:=.iface 113 (.agg (boxS a b e)),recovered:=eb }]/\Q w')(h0:∀w',Q w'->BxS w.heap.size w') :
  mi oa 82 #[.func (.func g) #[] us] w fun e' w'=>∃w1,Q w1/\e'=.returned (.agg (boxS a b e))/\w'=panS w.heap.size a b e w1:=by
 go_enter_defers Tryz.func82,Tryz.ntmps82
 go_wp2
 rw[qp6 hg,Oper.upon_enter];refine h.mono ?_;rintro e w' ⟨rfl,c⟩;have d:=h0 w' c;refine leaves_cons (f:=160) (args:=#[.pointer (iz ⟨w.heap.size,0,i6⟩)]) (by simp) (by simp[go_sem]) ?_;refine(zjq w.heap.size a b e _ d).mono ?_;rintro e j i ⟨rfl,rfl,rfl⟩;exact⟨_,q10 rfl (qz2 d),w',c,rfl,rfl⟩
theorem q8f{n:Nat}{a b e:Int}{w:oh}:Upd [n] w (setS n a b e w):=by
 have c:∀(w:oh) (o:Nat) (v:oc),Upd [n] w (w.setCell { block:=n,off:=o } v):=fun w o v=>by
  refine⟨rfl,rfl,rfl,by simp[fp],fun x d f=>?_⟩;simp only[fp,gv]
  grind
 exact((c _ 0 _).trans (c _ 1 _)).trans (c _ 2 _)
theorem zit{n:Nat}{a b e:Int}{w:oh}:Upd [n] w (panS n a b e w):=q8f.trans ((Upd.push _ _).mono (by simp))
theorem q78{E:Env}{id:Nat}{a b e:Int}{t:ov}(h:E.w.heap[E.ρ id]?=iz (.cells (boxS a b e) t (0,0)))(hk:E.κ id=3)(ha:IntKind.i64.wrap a=a)(hb:IntKind.i64.wrap b=b)(he:IntKind.i64.wrap e=e):OR E id (.row [i0 a,i0 b,i0 e]) :=
 ⟨boxS a b e,t,h,by rw[hk];rfl,by show 3<=3;omega,VRs.cons (.int _ _ ha) (VRs.cons (.int _ _ hb) (VRs.cons (.int _ _ he) VRs.nil))⟩
theorem zcl{E:Env}{a b e:Int}(ha:IntKind.i64.wrap a=a)(hb:IntKind.i64.wrap b=b)(he:IntKind.i64.wrap e=e):VR E (.agg [i0 a,i0 b,i0 e]) (.agg (boxS a b e)):=by
 have h:VRs E [i0 a,i0 b,i0 e] [.int .i64 a,.int .i64 b,.int .i64 e]:=VRs.cons (.int _ _ ha) (VRs.cons (.int _ _ hb) (VRs.cons (.int _ _ he) VRs.nil));exact .agg (us:=[.int .i64 a,.int .i64 b,.int .i64 e]) h.1 h.2
theorem qs2:HxOK oa 82 (hxT 113).f where
 fr:=fun χ D ν S=>zxc D
 calm:=fun χ _ ν S r h hw _=>(zdr h hw).elim
 fn:=fun χ D hfr _ ν S r h T E us p β Y hv=>by
   refine⟨⟨_,Tryz.func82,by kernel_rfl,by kernel_rfl⟩,?_⟩;obtain⟨g,N,m,cs,cs1,rfl,h1,i,η,rfl⟩:=qn6 h;obtain⟨u0,V,rfl,a1,a2⟩:=hv.inv;obtain rfl:V=[]:=p8.1 a2.1.symm;cases a1 with
   | fn hl hh =>
   rename_i s;obtain⟨g1,g2⟩:=zp Y
   -- the box
   have u1:Upd [] E.w (wS E.w):=Upd.push _ _;have hz:(wS E.w).heap.size=E.w.heap.size+1:=Array.size_push _;have γ:(wS E.w).heap[E.w.heap.size]?=iz (.cells (boxS 0 0 0) 113 (0,0)):=Array.getElem?_push_size;obtain⟨q1,θ⟩:=Post.new p (k:=3) (hd:=.nilFunc) (o:=.row [i0 0,i0 0,i0 0]) u1 hz (q78 (t:=113) (by rw[show (E.with_ S.next 3 .nilFunc (wS E.w)).ρ S.next=E.w.heap.size from zj _ _ _];exact γ) (zj _ _ _) rfl rfl rfl);generalize j:E.with_ S.next 3 .nilFunc (wS E.w)=E1 at q1 θ
   have Z:E1.w=wS E.w:=by rw[<- j];rfl
   have ζ:E1.A S.next:=by rw[<- j];exact .inr rfl
   have W:E1.ρ S.next=E.w.heap.size:=by rw[<- j];exact zj _ _ _
   have X:E1.κ S.next=3:=by rw[<- j];exact zj _ _ _
   have L:Pre T E1 (tryS S):=q1.pre p;obtain⟨σ,M⟩:=D.fn g N (tryS S) m h1 T E1 s L β g1 (VRs.mono (q1.env p) ⟨hl,hh⟩);rw[Z] at M;have M:=dc.1 M;have δ:T.w S.next:=p.nw _ (xl _)
   have μ:∀c:Env,Post T E1 (tryS S) c m.S->c.ρ S.next=E.w.heap.size/\c.κ S.next=3/\c.A S.next/\BxS E.w.heap.size c.w:=fun c v=>by
     obtain⟨O,K,G,_,_⟩:=(v.env L).alw _ ζ;have K:=K.trans W;have G:=G.trans X;obtain⟨F,t,ω,ψ,c3,c4⟩:=(v.pre L).st.objs S.next (T.sub _ δ) O _ η
     rw[K] at ω;rw[G] at ψ;refine⟨K,G,O,?_⟩;obtain⟨l⟩:=F;match l,ψ with
     | [x,y,z],_=>exact⟨x,y,z,t,ω⟩
   have fin:∀(c:Env) (a b e:Int) (d:oh),IntKind.i64.wrap a=a->IntKind.i64.wrap b=b->IntKind.i64.wrap e=e->Post T E1 (tryS S) c m.S->Fresh E1 (tryS S) c->Upd [E.w.heap.size] c.w d->(∃t,d.heap[E.w.heap.size]?=iz (.cells (boxS a b e) t (0,0))) ->
       RetX T E S ⟨.agg [i0 a,i0 b,i0 e],m.S.set S.next (.row [i0 a,i0 b,i0 e]),m.rd,m.wr ||| 2 ^ S.next⟩ (.returned (.agg (boxS a b e))) d:=fun c a b e d υ J τ v φ hu ⟨t,ht⟩=>by
     obtain⟨O,K,G,_⟩:=μ c v;have ξ:=v.pre L;obtain⟨z1,z2⟩:=Post.write ξ (id:=S.next) (o':=.row [i0 a,i0 b,i0 e]) (w':=d) δ G ⟨ξ.st.blk S.next (T.sub _ δ) G _ η rfl,_,η,rfl⟩ (by rw[O];exact hu) (q78 (E:=c.at_ d) (t:=t) (by rw[show (c.at_ d).ρ S.next=E.w.heap.size from O];exact ht) K υ J τ);exact RetX.of ⟨_,c.at_ d,rfl,rfl,zcl υ J τ,Post.trans p q1 θ (Post.trans L v φ z1),θ.trans (φ.trans z2 v.le) q1.le⟩
   have B:∀{E:Env} {n:Int} {u:oc},VR E (i0 n) u->u=.int .i64 n/\IntKind.i64.wrap n=n:=fun h=>by cases h;exact⟨rfl,by assumption⟩
   unfold tryV at i;refine dc.2 ?_;split at i
   · rename_i pv C;split at i<;>try cases i
     rename_i t a b e;cases J:od t 113 with
     | false=>rw[J] at i;cases i
     | true =>
     rw[J] at i;cases i;obtain rfl:=xg J;refine(z0c σ s.toArray a b e E.w (fun w'=>∃c,c.w=w'/\(IntKind.i64.wrap a=a/\IntKind.i64.wrap b=b/\IntKind.i64.wrap e=e)/\Post T E1 (tryS S) c m.S/\Fresh E1 (tryS S) c) (M.mono ?_) ?_).mono ?_
     · intro ι w' ε;obtain⟨u,c,rfl,rfl,I,q,H⟩:=ε.pan C;cases I with
       | iface I =>
       cases I with
       | agg hl hh =>
       rename_i U;match U,hl,hh with
       | [x,y,z],_,hh =>
         obtain⟨rfl,R⟩:=B (hh 0 (by simp) (by simp));obtain⟨rfl,Q⟩:=B (hh 1 (by simp) (by simp));obtain⟨rfl,P⟩:=B (hh 2 (by simp) (by simp));exact⟨rfl,c,rfl,⟨R,Q,P⟩,q,H⟩
     · grind
     · rintro ι d ⟨w1,⟨c,rfl,⟨R,Q,P⟩,q,H⟩,rfl,rfl⟩;exact fin c a b e _ R Q P q H zit (qz2 (μ c q).2.2.2)
   · rename_i C;split at i<;>cases i;rename_i α;refine(zlj σ s.toArray E.w (fun w'=>∃c,c.w=w'/\Post T E1 (tryS S) c m.S/\Fresh E1 (tryS S) c) (M.mono ?_) ?_).mono ?_
     · intro ι w' ε;obtain⟨u,c,rfl,rfl,I,q,H⟩:=ε.val C;rw[α] at I;cases I with
       | tup hl hh =>
       grind
     · grind
     · rintro ι d ⟨w1,⟨c,rfl,q,H⟩,rfl,rfl⟩;exact fin c 0 0 0 _ rfl rfl rfl q H q8f (qqi (μ c q).2.2.2)
end Go.Proofs.YtaepcfidpcoofaaGreatDoor
end

noncomputable section
set_option maxRecDepth 100000
namespace Go.Proofs.YtaepcfidpcoofaaGreatDoor
open Go Go.Sx Go.RowKit Go.Jx
section
variable [Φ : Fuel]
def q8e:Lz (Nat × Hx):=[(54,hxR qbb),(67,hxP tc),(137,panO (hxP kz)),(82,hxT 113)]
abbrev qm1:Type:=zc × zf × Int × Unit
def q38(lf:Nat)(x1:Bq):Oq qm1:=(bd (cond (S.fits x1) (iz ((S.tokens x1).1,((S.tokens x1).2.2.1,((S.tokens x1).2.2.2,())))) i6) fun v0=>(cond (Bool.not (ieqI v0.2.2.1 (we 0))) (cond (Bool.not (ieqI v0.2.2.1 (we 0))) (iz (((we 0),((S.lit []),((we 0),[]))),v0.2)) i6) (bd (cond (S.fits x1) (iz ((S.placeOf x1 (we x1.size)).1,((S.placeOf x1 (we x1.size)).2,()))) i6) fun v1=>(bd (S.dExprR (v0.1,((we 0),(v1.1,([],()))))) fun v2=>(match v2 with|.inl v3=>(cond (Bool.not (ieqI v3.2.2.1 (we 0))) (iz (((we 0),((S.lit []),((we 0),[]))),((v3.1,v3.2.1),v3.2.2))) (iz (((we 0),((S.lit []),((we 0),[]))),(((we 0),(we 0)),((we 0),())))))|.inr v4=>(bd (S.dDepthR (zl v4.1.1)) fun v8=>(cond (ieqI v4.2.1.2.1 (we v4.2.1.1.length)) (cond (iltI (we 40) v8.1.1) (bd (jget v4.2.1.1 (we 0)) fun v9=>(iz (((we 0),((S.lit []),((we 0),[]))),(v9.2.2,((we 3),()))))) (cond (iltI v4.2.1.2.1 (we v4.2.1.1.length)) (bd (S.dFail v4.2.1 (we 2)) fun v10=>(match v10 with|.inl v11=>(cond (Bool.not (ieqI v11.2.2.1 (we 0))) (iz (((we 0),((S.lit []),((we 0),[]))),((v11.1,v11.2.1),v11.2.2))) i6)|.inr v12=>i6)) (iz ((zl v4.1.1),(((we 0),(we 0)),((we 0),())))))) (cond (iltI v4.2.1.2.1 (we v4.2.1.1.length)) (bd (S.dFail v4.2.1 (we 2)) fun v16=>(match v16 with|.inl v17=>(cond (Bool.not (ieqI v17.2.2.1 (we 0))) (iz (((we 0),((S.lit []),((we 0),[]))),((v17.1,v17.2.1),v17.2.2))) i6)|.inr v18=>i6)) (iz ((zl v4.1.1),(((we 0),(we 0)),((we 0),()))))))))))))
def qir(lf:Nat)(x1:Bq):Oq qm1:=q38 lf x1
theorem zu6(hr_d_DepthR:ConR oa 54 qbb)(hp_d_parser_exprR:ConP oa 67 tc)(hp_d_parser_fail:ConP oa 137 kz):zv oa q8e:=⟨z8 hr_d_DepthR,⟨z7 hp_d_parser_exprR,⟨qfe (z7 hp_d_parser_fail),⟨qs2,trivial⟩⟩⟩⟩
theorem zur{g:ElA [.str]->Oq qm1}(hsm:SmOK oa [(31,qor),(157,qpl)])(hr_d_DepthR:ConR oa 54 qbb)(hp_d_parser_exprR:ConP oa 67 tc)(hp_d_parser_fail:ConP oa 137 kz)(hg:∀(x:ElA [.str]) (y:qm1),WfA [.str] x->g x=iz y->∃lf,qir lf x.1=iz y):Con oa 16 ⟨[.str],[(eb,cExpr),(eb,jl),(eb,(.int .i64))],g⟩ :=
 conU (fi:=fi16) (hxl:=q8e) (fun lf x=>qir lf x.1) cm3 zi2 (zu6 hr_d_DepthR hp_d_parser_exprR hp_d_parser_fail) hsm hg
end
namespace S
def wholeT{α:Type}(z:α)(r:Lz KT->Nat->PR α)(dp:α->Oq Int)(T:Lz zb)(e:zf):Oq (α × zf × Int × Unit):=match r (kts T) 0 with
 | none=>i6
 | some (.inl (er,a))=>cond (Bool.not (ieqI er 0)) (iz (z,place T e a,er,())) (iz (z,(0,0),0,()))
 | some (.inr (v,a))=>bd (dp v) fun d=>cond (ieqI (we a) (we T.length)) (cond (iltI 40 d) (bd (jget T 0) fun t=>iz (z,t.2.2,3,())) (iz (v,(0,0),0,()))) (iz (z,place T e a,2,()))
def wholeS{α:Type}(z:α)(r:Lz KT->Nat->PR α)(dp:α->Oq Int)(x:Bq):Oq (α × zf × Int × Unit) :=
 cond (fits x) (cond (Bool.not (ieqI (tokens x).2.2.2 0)) (iz (z,(tokens x).2.2.1,(tokens x).2.2.2,())) (wholeT z r dp (tokens x).1 (placeOf x (we x.size)).1)) i6
def exprOf(x:Bq):Oq (zc × zf × Int × Unit):=wholeS zE exprR depR x
def rereadT{α:Type}(z:α)(r:Lz KT->Nat->PR α)(T:Lz zb):Oq (α × Bool):=match r (kts T) 0 with
 | none=>i6
 | some (.inl (er,a))=>cond (ieqI er 0) i6 (iz (z,eb))
 | some (.inr (v,a))=>iz (v,ieqI (we a) (we T.length))
end S
def q2x:Sm:=⟨[.str],[(eb,cExpr),(eb,jl),(eb,.int .i64)],fun x=>S.exprOf x.1⟩
theorem q4v(T:Lz zb)(e:zf)(fm:Lz Bq):S.dExprR (T,we 0,e,fm,())=S.out un1 (T,we 0,e,fm,()) (S.exprR (S.kts T) 0):=by
 unfold S.dExprR S.dLim;rw[qfw (pm _)];rfl
theorem zke[Φ:Fuel](lf:Nat)(x:Bq):Lq (S.exprOf x) (qir lf x):=by
 unfold S.exprOf S.wholeS qir q38;cases j:S.fits x with
 | false=>exact fun y h=>by cases h
 | true =>
  simp only[xa,bd];show Lq (cond (Bool.not (ieqI (S.tokens x).2.2.2 0)) _ _) (cond (Bool.not (ieqI (S.tokens x).2.2.2 (we 0))) _ _);cases k:Bool.not (ieqI (S.tokens x).2.2.2 (we 0)) with
  | true =>
   exact Lq.rfl
  | false =>
   simp only[xe];generalize (S.tokens x).1=T;generalize (S.placeOf x (we x.size)).1=e;rw[q4v];unfold S.wholeT;cases f:S.exprR (S.kts T) 0 with
   | none=>exact fun y h=>by cases h
   | some r =>
    cases r with
    | inl q=>exact Lq.rfl
    | inr q =>
     obtain⟨v,a⟩:=q;obtain⟨n,g⟩:=qq4 f;have i:a<=T.length:=by
      have:=(kh g).2 (pm _)
      rwa [wm] at this
     simp only[S.out,qz,S.dDepthR];cases l:S.depR v with
     | none=>exact fun y h=>by cases h
     | some d =>
      simp only[S.oU,bd];cases c:ieqI (we a) (we T.length) with
      | true =>
       have b:iltI (we a) (we T.length)=eb:=by
        rw[zx] at c;rw[qc];have:=xu c;exact xq (by omega)
       simp only[c,b,xa,xe];exact Lq.rfl
      | false =>
       have b:iltI (we a) (we T.length)=i7:=by
        rw[zx] at c;rw[qc];have:=gx c;exact xt (by show (a:Int)<(T.length:Int);have:¬(a:Int)=T.length:=this;omega)
       simp only[c,b,xa,xe,S.dFail,qfw i];exact Lq.rfl
theorem zfp:Con oa 16 q2x:=zur (Φ:=⟨0,pm _⟩) ⟨qly,qx9,trivial⟩ q7l q7f qdq fun x y b a=>⟨0,zke (Φ:=⟨0,pm _⟩) 0 x.1 y a⟩
end Go.Proofs.YtaepcfidpcoofaaGreatDoor
end

noncomputable section
namespace Go.Proofs.YtaepcfidpcoofaaGreatDoor
open Go Go.RowKit Go.Shelf
def q6g:Go.Shelf.Ren:=⟨fun|156=>115|165=>203|166=>177|169=>179|240=>283|241=>304|276=>347|277=>357|n=>n,fun|31=>22|9=>9|3=>3|4=>4|0=>0|20=>20|72=>253|76=>257|70=>250|37=>251|75=>255|127=>332|164=>364|5=>5|80=>260|n=>n,fun|n=>n⟩
theorem q11:Go.Proofs.Lays.n156 oa q6g:={
 mixed:=by kernel_rfl
 f156:=Tryz.func115.trans (xy iz (by kernel_rfl))
 f165:=Tryz.func203.trans (xy iz (by kernel_rfl))
 f166:=Tryz.func177.trans (xy iz (by kernel_rfl))
 f169:=Tryz.func179.trans (xy iz (by kernel_rfl))
 f240:=Tryz.func283.trans (xy iz (by kernel_rfl))
 f241:=Tryz.func304.trans (xy iz (by kernel_rfl))
 f276:=Tryz.func347.trans (xy iz (by kernel_rfl))
 f277:=Tryz.func357.trans (xy iz (by kernel_rfl))
 t0:=Tryz.underlying0
 a0:=Tryz.isAgg0
 z0:=Tryz.sizeOf0
 v0:=Tryz.zeroValue0
 t3:=Tryz.underlying3
 a3:=Tryz.isAgg3
 z3:=Tryz.sizeOf3
 v3:=Tryz.zeroValue3
 t4:=Tryz.underlying4
 a4:=Tryz.isAgg4
 z4:=Tryz.sizeOf4
 v4:=Tryz.zeroValue4
 t9:=Tryz.underlying9
 a9:=Tryz.isAgg9
 z9:=Tryz.sizeOf9
 v9:=Tryz.zeroValue9
 t20:=Tryz.underlying20
 a20:=Tryz.isAgg20
 z20:=Tryz.sizeOf20
 v20:=Tryz.zeroValue20
 t31:=Tryz.underlying22
 a31:=Tryz.isAgg22
 z31:=Tryz.sizeOf22
 v31:=Tryz.zeroValue22
 t37:=Tryz.underlying251
 a37:=Tryz.isAgg251
 z37:=Tryz.sizeOf251
 v37:=Tryz.zeroValue251
 t70:=Tryz.underlying250
 a70:=Tryz.isAgg250
 z70:=Tryz.sizeOf250
 v70:=Tryz.zeroValue250
 t72:=Tryz.underlying253
 a72:=Tryz.isAgg253
 z72:=Tryz.sizeOf253
 v72:=Tryz.zeroValue253
 t75:=Tryz.underlying255
 a75:=Tryz.isAgg255
 z75:=Tryz.sizeOf255
 v75:=Tryz.zeroValue255
 t76:=Tryz.underlying257
 a76:=Tryz.isAgg257
 z76:=Tryz.sizeOf257
 v76:=Tryz.zeroValue257
 t127:=Tryz.underlying332
 a127:=Tryz.isAgg332
 z127:=Tryz.sizeOf332
 v127:=Tryz.zeroValue332
 t164:=Tryz.underlying364
 a164:=Tryz.isAgg364
 z164:=Tryz.sizeOf364
 v164:=Tryz.zeroValue364 }
theorem q0i:Builder.Extra oa q6g:={
 sizeBuilder:=by kernel_rfl
 liesBuilder:=by kernel_rfl
 t5:=Tryz.underlying5
 a5:=Tryz.isAgg5
 z5:=Tryz.sizeOf5
 v5:=Tryz.zeroValue5
 infoByte:=by kernel_rfl
 cellsByte:=by kernel_rfl
 sizeByte:=by kernel_rfl
 neB5:=by decide }
theorem zqy(a:Oq f9)(c:Nat)(sep:Bq)(w:oh) :
  mi oa 115 #[.slice a 0 c,.string sep] w fun e w'=>e=.returned (.string ⟨#[]⟩)/\w'=w:=Any.strings_Join_none q11 q0i a c sep w
theorem zb5(bk o c:Nat)(xs:Lz Bq)(sep:Bq)(w:oh)(hcells:∀(j:Nat) x,xs[j]?=iz x->w.cell? ⟨bk,o+j,i6⟩=iz (.string x))(hbk:bk<w.heap.size)(hN:xs.length<=140737488355328)(hcap:xs.length<=c)(hlen:(Lib.join (xs.map (·.data.toList)) sep.data.toList).length<=140737488355328) :
  mi oa 115 #[.slice (iz ⟨bk,o,i6⟩) xs.length c,.string sep] w fun e w'=>e=.returned (.string ⟨(Lib.join (xs.map (·.data.toList)) sep.data.toList).toArray⟩)/\Below w.heap.size w w':=Any.strings_Join q11 q0i bk o c xs sep w hcells hbk hN hcap hlen
def zm0:Go.Shelf.Ren:=⟨fun|171=>166|243=>279|246=>346|283=>370|284=>371|285=>372|286=>373|129=>382|317=>381|318=>383|319=>384|320=>385|337=>389|338=>390|n=>n,fun|3=>3|9=>9|2=>2|4=>4|171=>371|0=>0|53=>372|37=>251|5=>5|173=>375|212=>385|51=>381|20=>20|213=>386|46=>370|232=>395|233=>396|n=>n,fun|17=>3|18=>6|19=>7|n=>n⟩
theorem zm4:Go.Proofs.LaysM.n171 oa zm0:={
 mixed:=by kernel_rfl
 f129:=Tryz.func382.trans (xy iz (by kernel_rfl))
 f171:=Tryz.func166.trans (xy iz (by kernel_rfl))
 f243:=Tryz.func279.trans (xy iz (by kernel_rfl))
 f246:=Tryz.func346.trans (xy iz (by kernel_rfl))
 f283:=Tryz.func370.trans (xy iz (by kernel_rfl))
 f284:=Tryz.func371.trans (xy iz (by kernel_rfl))
 f285:=Tryz.func372.trans (xy iz (by kernel_rfl))
 f286:=Tryz.func373.trans (xy iz (by kernel_rfl))
 f317:=Tryz.func381.trans (xy iz (by kernel_rfl))
 f318:=Tryz.func383.trans (xy iz (by kernel_rfl))
 f319:=Tryz.func384.trans (xy iz (by kernel_rfl))
 f320:=Tryz.func385.trans (xy iz (by kernel_rfl))
 f337:=Tryz.func389.trans (xy iz (by kernel_rfl))
 f338:=Tryz.func390.trans (xy iz (by kernel_rfl))
 t0:=Tryz.underlying0
 a0:=Tryz.isAgg0
 z0:=Tryz.sizeOf0
 v0:=Tryz.zeroValue0
 t2:=Tryz.underlying2
 a2:=Tryz.isAgg2
 z2:=Tryz.sizeOf2
 v2:=Tryz.zeroValue2
 t3:=Tryz.underlying3
 a3:=Tryz.isAgg3
 z3:=Tryz.sizeOf3
 v3:=Tryz.zeroValue3
 t4:=Tryz.underlying4
 a4:=Tryz.isAgg4
 z4:=Tryz.sizeOf4
 v4:=Tryz.zeroValue4
 t5:=Tryz.underlying5
 a5:=Tryz.isAgg5
 z5:=Tryz.sizeOf5
 v5:=Tryz.zeroValue5
 t9:=Tryz.underlying9
 a9:=Tryz.isAgg9
 z9:=Tryz.sizeOf9
 v9:=Tryz.zeroValue9
 t20:=Tryz.underlying20
 a20:=Tryz.isAgg20
 z20:=Tryz.sizeOf20
 v20:=Tryz.zeroValue20
 t37:=Tryz.underlying251
 a37:=Tryz.isAgg251
 z37:=Tryz.sizeOf251
 v37:=Tryz.zeroValue251
 t46:=Tryz.underlying370
 a46:=Tryz.isAgg370
 z46:=Tryz.sizeOf370
 v46:=Tryz.zeroValue370
 t51:=Tryz.underlying381
 a51:=Tryz.isAgg381
 z51:=Tryz.sizeOf381
 v51:=Tryz.zeroValue381
 t53:=Tryz.underlying372
 a53:=Tryz.isAgg372
 z53:=Tryz.sizeOf372
 v53:=Tryz.zeroValue372
 t171:=Tryz.underlying371
 a171:=Tryz.isAgg371
 z171:=Tryz.sizeOf371
 v171:=Tryz.zeroValue371
 t173:=Tryz.underlying375
 a173:=Tryz.isAgg375
 z173:=Tryz.sizeOf375
 v173:=Tryz.zeroValue375
 t212:=Tryz.underlying385
 a212:=Tryz.isAgg385
 z212:=Tryz.sizeOf385
 v212:=Tryz.zeroValue385
 t213:=Tryz.underlying386
 a213:=Tryz.isAgg386
 z213:=Tryz.sizeOf386
 t232:=Tryz.underlying395
 a232:=Tryz.isAgg395
 z232:=Tryz.sizeOf395
 v232:=Tryz.zeroValue395
 t233:=Tryz.underlying396
 a233:=Tryz.isAgg396
 z233:=Tryz.sizeOf396
 v233:=Tryz.zeroValue396
 g17:=by kernel_rfl
 g18:=by kernel_rfl
 g19:=by kernel_rfl
 i0:=by kernel_rfl
 i2:=by kernel_rfl
 i3:=by kernel_rfl
 i4:=by kernel_rfl
 i5:=by kernel_rfl
 i9:=by kernel_rfl
 i20:=by kernel_rfl
 i37:=by kernel_rfl
 i46:=by kernel_rfl
 i51:=by kernel_rfl
 i53:=by kernel_rfl
 i171:=by kernel_rfl
 i173:=by kernel_rfl
 i212:=by kernel_rfl
 i232:=by kernel_rfl
 i233:=by kernel_rfl
 m17:=by kernel_rfl
 m18:=by kernel_rfl
 m19:=by kernel_rfl }
open Go.RowKit Go.Sort Go.Lib in
theorem zbe (n:Int) (h0:-9223372036854775808<=n) (h1:n<=9223372036854775807) (w:oh) (htab:Lib.TabIs oa w "internal/strconv.uint64pow10" .u64 Lib.pow10Tab) :
  mi oa 166 #[.int .i64 n] w fun e w'=>e=.returned (.string ⟨(Lib.itoa n).toArray⟩)/\∃k os,w'=grow (w.drewN k) os:=Any.strconv_Itoa zm4 n h0 h1 w htab
end Go.Proofs.YtaepcfidpcoofaaGreatDoor
end

noncomputable section
set_option maxRecDepth 100000
namespace Go.Proofs.YtaepcfidpcoofaaGreatDoor
open Go Go.Sx Go.RowKit Go.Jx
namespace S
def joinW(l:Lz Bq)(s:Bq):Bq:=⟨(Lib.join (l.map (·.data.toList)) s.data.toList).toArray⟩
def dJoin(l:Lz Bq)(s:Bq):Oq (Bq × Unit):=cond (og (joinW l s).size 100000000) (iz (joinW l s,())) i6
def exprText(x:zc):Oq (Bq × Int × Unit):=bd (depR x) fun d=>cond (iltI 40 d) (iz (Go.Jx.S.lit [],3,())) (bd (wexprR x) fun W=>cond (og W.length 1099511627776) (cond (wtokL W []).2
 (bd (rereadT zE exprR (wtokL W []).1) fun r=>cond r.2 (bd (eqR r.1 x) fun b=>cond b (bd (dJoin W (Go.Jx.S.lit [32])) fun s=>cond (iltI 20000 (we s.1.size)||iltI 6000 (we W.length)) (iz (Go.Jx.S.lit [],3,())) (iz (s.1,0,()))) (iz (Go.Jx.S.lit [],2,()))) (iz (Go.Jx.S.lit [],2,())))
 (iz (Go.Jx.S.lit [],2,()))) i6)
end S
def quw:Sm:=⟨[.list .str,.str],[(eb,.str)],fun x=>S.dJoin x.1 x.2.1⟩
def qx8:Sm:=⟨[cExpr],[(eb,.str),(eb,.int .i64)],fun x=>S.exprText x.1⟩
section
variable [Φ : Fuel]
def qyn:Lz (Nat × Hx):=[(54,hxR qbb),(89,hxR qnp),(170,hxR qhb),(67,hxP tc),(82,hxT 113)]
abbrev qhz:Type:=Bq × Int × Unit
def qyb(lf:Nat)(x1:zc):Oq qhz:=(bd (S.dDepthR (zl x1)) fun v3=>(cond (iltI (we 40) v3.1.1) (iz ((S.lit []),((we 3),()))) (bd (S.dExprWR ([],()) (zl x1)) fun v7=>(bd (S.wTokens v7.2.1) fun v8=>(cond (Bool.not v8.1.2.1) (iz ((S.lit []),((we 2),()))) (bd (S.dExprR (v8.1.1,((we 0),(((we 0),(we 0)),([],()))))) fun v9=>(match v9 with|.inl v10=>(cond (ieqI v10.2.2.1 (we 0)) i6 (iz ((S.lit []),((we 2),()))))|.inr v11=>(cond (Bool.not (ieqI v11.2.1.2.1 (we v8.1.1.length))) (iz ((S.lit []),((we 2),()))) (bd (S.dSameR (zl v11.1.1) (zl x1)) fun v18=>(cond (Bool.not v18.1) (iz ((S.lit []),((we 2),()))) (bd (S.dJoin v8.2.1.1 (S.lit [32])) fun v19=>(cond (iltI (we 20000) (we v19.1.size)) (iz ((S.lit []),((we 3),()))) (cond (iltI (we 6000) (we v8.2.1.1.length)) (iz ((S.lit []),((we 3),()))) (iz (v19.1,((we 0),()))))))))))))))))
def qku(lf:Nat)(x1:zc):Oq qhz:=qyb lf x1
theorem zek(hr_d_DepthR:ConR oa 54 qbb)(hr_d_writer_exprR:ConR oa 89 qnp)(hrz36:ConR oa 170 qhb)(hp_d_parser_exprR:ConP oa 67 tc):zv oa qyn:=⟨z8 hr_d_DepthR,⟨z8 hr_d_writer_exprR,⟨z8 hrz36,⟨z7 hp_d_parser_exprR,⟨qs2,trivial⟩⟩⟩⟩⟩
theorem zye{g:ElA [cExpr]->Oq qhz}(hsm:SmOK oa [(91,qw5),(115,quw)])(hr_d_DepthR:ConR oa 54 qbb)(hr_d_writer_exprR:ConR oa 89 qnp)(hrz36:ConR oa 170 qhb)(hp_d_parser_exprR:ConP oa 67 tc)(hg:∀(x:ElA [cExpr]) (y:qhz),WfA [cExpr] x->g x=iz y->∃lf,qku lf x.1=iz y):Con oa 34 ⟨[cExpr],[(eb,.str),(eb,(.int .i64))],g⟩ :=
 conU (fi:=fi34) (hxl:=qyn) (fun lf x=>qku lf x.1) cm3 zeg (zek hr_d_DepthR hr_d_writer_exprR hrz36 hp_d_parser_exprR) hsm hg
end
theorem zx7{f:Nat}{s:Sm}(hC:zg oa f)(hr:∀y,resO s.rts y=[])
  (h:∀(M:Lz Nat) (w:oh) (x:ElA s.pts) (us:Lz oc) (y:ElR s.rts),s.f x=iz y->VRs (EM M w) (argV s.pts x) us->∃v,(∀E':Env,VR E' (tupI (resV s.rts 0 y)) v)/\mi oa f us.toArray w fun e w'=>e=.returned v/\Below w.heap.size w w'):Con oa f s :=
 ⟨hC,fun M w x us y b j d c=>by
  obtain⟨v,l,k⟩:=h M w x us y b c;refine(dc.2 k).mono fun e w' i=>?_;obtain⟨rfl,g⟩:=i;rw[hr y];obtain⟨q1,a⟩:=Post.idle (preM j d) (Upd.of_below g);exact⟨v,(EM M w).at_ w',rfl,rfl,l _,q1,a⟩⟩
theorem zyh{E:Env}(l:Lz Bq)(t:Bq){us:Lz oc}{y:Bq × Unit}(hy:S.dJoin l t=iz y)(hv:VRs E [.lst .str l,.str t] us) :
  ∃v,(∀E':Env,VR E' (.str y.1) v)/\mi oa 115 us.toArray E.w fun e w'=>e=.returned v/\Below E.w.heap.size E.w w':=by
 obtain⟨o,hy⟩:=yx hy;cases hy;have n:=xk o;obtain⟨A,k,rfl,u,s⟩:=hv.inv;obtain⟨z,d,rfl,r,q⟩:=s.inv;have e:d=[]:=by have:=q.1;simpa using this.symm
 subst e;cases r;refine⟨.string (S.joinW l t),fun E'=>.str _ (by show (S.joinW l t).size<_;omega),?_⟩;cases u with
 | lst0 h =>
  refine(zqy _ _ _ E.w).mono fun e w' h=>?_;obtain⟨rfl,rfl⟩:=h;exact⟨rfl,Below.refl _ _⟩
 | @lst _ l b off cap cells ty fz vs h1 h2 h3 hb hh hc hu =>
  have B:l.length*16<=140737488355328:=h3;refine(zb5 b off cap l t E.w (fun j x m=>?_) (qk hh) (by omega) h1 (by
   have:(S.joinW l t).size=(Lib.join (l.map (·.data.toList)) t.data.toList).length:=rfl;omega)).mono fun e w' h=>?_
  ·obtain⟨i,f⟩:=x9.1 m;have c:=hc j i 0 (by decide);have a:=hu j i 0 (by exact Nat.zero_lt_one);have a:VR E (.str l[j]) (vs j 0):=a;rw[f] at a;have p:off+j*csz .str+0=off+j:=by show off+j*1+0=off+j;omega
   rw[p] at c;generalize vs j 0=vv at a c;cases a;simp only[fu,hh];exact c
  ·obtain⟨rfl,g⟩:=h;exact⟨rfl,g⟩
theorem qxu:Con oa 115 quw :=
 zx7 zvq (fun y=>rfl) fun M w x c y a b=>zyh x.1 x.2.1 a b
theorem zsi[Φ:Fuel](lf:Nat)(x:zc):Lq (S.exprText x) (qku lf x):=by
 unfold S.exprText qku qyb;simp only[qz,S.dDepthR];cases l:S.depR x with
 | none=>exact fun y h=>by cases h
 | some d =>
  simp only[S.oU,bd];show Lq (cond (iltI 40 d) _ _) (cond (iltI 40 d) _ _);refine Lq.cond (fun _=>Lq.rfl) fun _=>?_;simp only[S.dExprWR];cases m:S.wexprR x with
  | none=>exact fun y h=>by cases h
  | some W =>
   simp only[bd];cases f:og W.length 1099511627776 with
   | false=>exact fun y h=>by cases h
   | true =>
    have i:=xk f;have c:og ((([]:Lz Bq).length+W.length)*16) 140737488355328=i7:=x7 (by rw[rh];omega);simp only[S.wPut,c,xa,S.wTokens,jag,f];cases n:(S.wtokL W []).2 with
    | false=>exact Lq.rfl
    | true =>
     simp only[gd,xa,xe];rw[q4v];unfold S.rereadT;cases k:S.exprR (S.kts (S.wtokL W []).1) 0 with
     | none=>exact fun y h=>by cases h
     | some r =>
      cases r with
      | inl q =>
       obtain⟨g,a⟩:=q;cases e:ieqI g 0 with
       | false =>
        have j:ieqI g (we 0)=eb:=e;simp only[S.out,e,j,xe];exact Lq.rfl
       | true =>
        simp only[e,xa];exact fun y h=>by cases h
      | inr q =>
       obtain⟨v,a⟩:=q;simp only[S.out];show Lq (cond (ieqI (we a) (we (S.wtokL W []).1.length)) _ _) (cond (Bool.not (ieqI (we a) (we (S.wtokL W []).1.length))) _ _);cases ieqI (we a) (we (S.wtokL W []).1.length) with
       | false=>exact Lq.rfl
       | true =>
        simp only[gd,xa,xe,S.dSameR];cases p:S.eqR v x with
        | none=>exact fun y h=>by cases h
        | some b =>
         cases b with
         | false=>exact Lq.rfl
         | true =>
          simp only[S.oU,gd,xa,xe];cases o:S.dJoin W (Go.Jx.S.lit [32]) with
          | none=>exact fun y h=>by cases h
          | some s =>
           simp only;show Lq (cond (iltI 20000 (we s.1.size)||iltI 6000 (we W.length)) _ _) (cond (iltI 20000 (we s.1.size)) _ (cond (iltI 6000 (we W.length)) _ _));cases iltI 20000 (we s.1.size)
           ·cases iltI 6000 (we W.length)
            ·exact Lq.rfl
            ·exact Lq.rfl
           ·exact Lq.rfl
theorem zmk(hI:Con oa 166 qdw):Con oa 34 qx8:=zye (Φ:=⟨0,pm _⟩) ⟨zdc,qxu,trivial⟩ q7l (zqi hI) (qxf (Φ:=⟨0,pm _⟩)) q7f fun x y b a=>⟨0,zsi (Φ:=⟨0,pm _⟩) 0 x.1 y a⟩
theorem zbh {m:Lz Nat} {w:oh} (g:Gl m w):Lib.TabIs oa w "internal/strconv.uint64pow10" .u64 Lib.pow10Tab:=by
 obtain⟨_,o,c,a,t,d,rfl,_,b⟩:=g.h 3 rfl;unfold Lib.TabIs World.var?;rw[show Tryz.prog.globalNamed "internal/strconv.uint64pow10" = iz 3 by kernel_rfl];show (match w.heap[3]? with|some (.cells cs _ _)=>iz cs|_=>i6)=_;rw[c];exact xy iz (b _ rfl)
theorem zze(n:Int)(h0:-9223372036854775808<=n)(h1:n<=9223372036854775807):(S.itoa n).size<9223372036854775808:=by
 have:=Lib.itoa_length_le n h0 h1;show (Lib.itoa n).length<_;omega
theorem zgw{w:oh}{m:Lz Nat}(n:Int){E:Env}(hg:Gl m E.w){us:Lz oc}(hv:VRs E [.int .i64 n] us) :
  mi oa 166 us.toArray E.w fun e w'=>e=.returned (.string (S.itoa n))/\Below E.w.heap.size E.w w'/\(S.itoa n).size<9223372036854775808:=by
 obtain⟨i,a,rfl,h,g⟩:=hv.inv;have e:a=[]:=by have:=g.1;simpa using this.symm
 subst e;cases h with
 | int _ _ hk =>
 unfold ag at hk;simp only[az,m8] at hk;simp only[jae,rp,show (2:Int) ^ 64=18446744073709551616 from rfl,show (2:Int) ^ (64-1)=9223372036854775808 from rfl] at hk;obtain⟨c,b⟩:-9223372036854775808<=n/\n<=9223372036854775807:=by
  split at hk;all_goals
   omega
 refine(zbe n c b E.w (zbh hg)).mono fun e w' f=>?_;obtain⟨rfl,k,d,rfl⟩:=f;exact⟨rfl,Lib.below_grow E.w.heap.size E.w (xl _) k d,zze n c b⟩
theorem q37:Con oa 166 qdw :=
 ⟨zcq,fun M w x k y c i a d=>by
  cases c;refine(dc.2 (zgw (w:=w) (E:=EM M w) x.1 a d)).mono fun e j h=>?_;obtain⟨rfl,g,f⟩:=h;obtain⟨q1,b⟩:=Post.idle (preM i a) (Upd.of_below g);exact⟨_,(EM M w).at_ _,rfl,rfl,.str _ f,q1,b⟩⟩
section
namespace S
def cntL(f:zc->Int->Oq (Bool × Int)):Lz zc->Int->Oq (Bool × Int)
 | [],n=>iz (i7,n)
 | x::l,n=>match f x n with
  | none=>i6
  | some r=>cond r.1 (cntL f l r.2) (iz (eb,r.2))
def cntE:Nat->zc->Int->Int->Oq (Bool × Int)
 | 0,_,_,_=>i6
 | m+1,x,d,n=>cond (iltI 60 d||(iltI 400 (add1 n)||iltI 100 (we (unL x.2.2.2).length))) (iz (eb,add1 n)) (cntL (fun y n=>cntE m y (add1 d) n) (unL x.2.2.2) (add1 n))
section
variable [Φ : Fuel]
def lExprs(x:zc)(d:Int)(n:Int):Oq ((Bool × Unit) × (Int × Unit) × Unit):=match cntE Φ.n x d n with
 | none=>i6
 | some r=>iz ((r.1,()),(r.2,()),())
end
end S
section
variable [Φ : Fuel]
def qhy:Sm:=⟨[cExpr,cExpr],[(eb,.bool)],fun x=>S.dSame x.1 x.2.1⟩
def qmp:SmR:=⟨[.dat (.list cExpr),.dat (.list cExpr)],[(eb,.bool)],fun x=>S.dEqQ x.1 x.2.1⟩
def qkm:SmR:=⟨[.dat cExpr,.dat (.int .i64),.ref (.box [.dat (.int .i64)])],[(eb,.bool)],fun x=>S.lExprs x.1 x.2.1 x.2.2.1.1⟩
end
end
section
variable [Φ : Fuel]
def qyk:Lz (Nat × Hx):=[(73,hxR qmp)]
abbrev qlz:Type:=Bool × Unit
def zuy(lf:Nat)(x1:zc)(x2:zc):Oq qlz:=(cond (ieqI x1.1 x2.1) (cond (keqS x1.2.1 x2.2.1) (cond (ieqI x1.2.2.1 x2.2.2.1) (bd (S.dEqQ (fc (fun v0=>(match v0 with|.mk v1=>v1)) x1.2.2.2) (fc (fun v2=>(match v2 with|.mk v3=>v3)) x2.2.2.2)) fun v4=>(iz v4.1)) (iz (eb,()))) (iz (eb,()))) (iz (eb,())))
def qpz(lf:Nat)(x1:zc)(x2:zc):Oq qlz:=zuy lf x1 x2
theorem zlh(hrz37:ConR oa 73 qmp):zv oa qyk:=⟨z8 hrz37,trivial⟩
theorem zrm{g:ElA [cExpr,cExpr]->Oq qlz}(hsm:SmOK oa [])(hrz37:ConR oa 73 qmp)(hg:∀(x:ElA [cExpr,cExpr]) (y:qlz),WfA [cExpr,cExpr] x->g x=iz y->∃lf,qpz lf x.1 x.2.1=iz y):Con oa 21 ⟨[cExpr,cExpr],[(eb,.bool)],g⟩ :=
 conU (fi:=fi21) (hxl:=qyk) (fun lf x=>qpz lf x.1 x.2.1) cm3 q07 (zlh hrz37) hsm hg
def qd8:Nat->Oq Nm:=fun k=>cond (od k 4) (iz ⟨[0,1,5],[],[],[],[],0,0,eb⟩) (cond (od k 999999) (iz ⟨[],[],[],[],[],0,0,eb⟩) i6)
def qfb:Nat->Bool:=fun k=>cond (od k 4) i7 (eb)
def qug:=qfb
abbrev va:Type:=(Bool × Unit) × Unit
def qoh:Lz (Nat × Sm):=[(21,qhy)]
def qu4:Lz (Nat × Hx):=[]
def qp3(R:Type)(lf:Nat):ClK R:=zn oa ttT.get ftT.get (fun _ _=>i6) (smL qoh) (hxL qu4) lf 20 R
def qcb(x1:(Lz zc))(x2:(Lz zc))(p:Int):NRes:=(NRes.mk (.node (iz (IV.lst cExpr x1)) (.node (iz (IV.lst cExpr x2)) .leaf (.node (iz (IV.int .i64 p)) .leaf .leaf)) .leaf) (IS.mk .leaf 0) [] 0)
def q5d(lf:Nat)(x1:(Lz zc))(x2:(Lz zc))(L4:Int->Oq va):Oq va:=(cond (Bool.not (ieqI (we x1.length) (we x2.length))) (iz ((eb,()),())) (L4 (we 0)))
def q8m(lf:Nat)(x1:(Lz zc))(x2:(Lz zc))(L4:Int->Oq va)(p:Int):Oq va:=(cond (iltI p (we x1.length)) (bd (jget x1 p) fun v0=>(bd (jget x2 p) fun v1=>(bd (S.dSame (zl v0) (zl v1)) fun v8=>(cond (Bool.not v8.1) (iz ((eb,()),())) (L4 (IntKind.i64.wrap (oe p (we 1)))))))) (iz ((i7,()),())))
abbrev gz37:Type:=ElP [.dat (.list cExpr),.dat (.list cExpr)]->Oq va
abbrev sz37(g:gz37):SmR:=⟨[.dat (.list cExpr),.dat (.list cExpr)],[(eb,.bool)],g⟩
abbrev Ez37(g:gz37)(J:JT va)(lf:Nat)(x1:(Lz zc))(x2:(Lz zc)):=zm oa ttT.get qd8 (mP [.dat (.list cExpr),.dat (.list cExpr)]) fi73.nt (qp3 _ lf) lf qfb J fi73.body [] (zk (ze [.dat (.list cExpr),.dat (.list cExpr)] idN 0 (x1,x2,())) 0 .leaf) (Sc [.dat (.list cExpr),.dat (.list cExpr)] (x1,x2,())) [] (z6 ttT.get fi73 (sz37 g))
abbrev Bz37(g:gz37)(J:JT va)(lf k:Nat)(ms:Lz Nat)(q:NRes):=qj oa ttT.get qd8 (mP [.dat (.list cExpr),.dat (.list cExpr)]) fi73.nt (qp3 _ lf) lf qfb J k fi73.body [] ms q (z6 ttT.get fi73 (sz37 g))
theorem zgx(g:gz37)(J:JT va)(lf:Nat)(x1:(Lz zc))(x2:(Lz zc)):Ez37 g J lf x1 x2=q5d lf x1 x2 (fun q=>J 4 [lf] (qcb x1 x2 q)):=by kernel_rfl
theorem zx4(g:gz37)(J:JT va)(lf:Nat)(x1:(Lz zc))(x2:(Lz zc))(m1:Nat)(p:Int):Bz37 g J lf 4 [m1] (qcb x1 x2 p)=q8m lf x1 x2 (fun q=>J 4 [m1] (qcb x1 x2 q)) p:=by kernel_rfl
theorem q60:(regs fi73.body).Nodup:=by decide +kernel
theorem q4j:okC qd8 qfb qug fi73.body i6=i7:=by kernel_rfl
def Az37(g:gz37)(lf:Nat):JT va:=atQ oa ttT.get qd8 fi73 (sz37 g) (qp3 _ lf) lf qug
def qjc(lf:Nat)(x1:(Lz zc))(x2:(Lz zc)):Nat->(Int)->Oq va:=rounds fun K p=>q8m lf x1 x2 K p
theorem q1f(g:gz37)(lf:Nat)(x1:(Lz zc))(x2:(Lz zc)):∀(n:Nat) (p:Int),Az37 g lf 4 [n] (qcb x1 x2 p)=qjc lf x1 x2 n p
 | 0,p=>wg 4 [0] rfl _
 | n+1,p=>by
  have ih:=q1f g lf x1 x2 n;refine(ki rfl (qg 20 _) q60 q4j 4 [n+1] [n] rfl _).trans ((zx4 g (Az37 g lf) lf x1 x2 n p).trans ?_);rw[(show (fun q=>Az37 g lf 4 [n] (qcb x1 x2 q))=(fun q=>qjc lf x1 x2 n q) from funext ih)];rfl
def Fz37(lf:Nat)(x1:(Lz zc))(x2:(Lz zc)):Oq va:=q5d lf x1 x2 (fun q=>qjc lf x1 x2 lf q)
theorem zyy(g:gz37)(lf:Nat)(x1:(Lz zc))(x2:(Lz zc)):Ez37 g (Az37 g lf) lf x1 x2=Fz37 lf x1 x2:=by
  refine(zgx g (Az37 g lf) lf x1 x2).trans ?_;rw[(show (fun q=>Az37 g lf 4 [lf] (qcb x1 x2 q))=(fun q=>qjc lf x1 x2 lf q) from funext fun q=>q1f g lf x1 x2 lf q)];rfl
theorem zu3:zv oa qu4:=trivial
theorem mkz37{g:gz37}(hsm:SmOK oa qoh)(hg:∀(x:ElP [.dat (.list cExpr),.dat (.list cExpr)]) (y:va),WfP [.dat (.list cExpr),.dat (.list cExpr)] x->g x=iz y->∃lf,Fz37 lf x.1 x.2.1=iz y):ConR oa 73 ⟨[.dat (.list cExpr),.dat (.list cExpr)],[(eb,.bool)],g⟩ :=
 conTR (nmf:=qd8) (sml:=qoh) (hxl:=qu4) (st:=qfb) (hd:=qug) 20 mixed ttOK ftOK hsm zu3 zq4 (by kernel_rfl) (fun x=>by kernel_rfl) q60 q4j fun x y z b a=>by
  obtain⟨lf,h⟩:=hg x (y,z) b a;exact⟨lf,(zyy g lf x.1 x.2.1).trans h⟩
def qet:Nat->Oq Nm:=fun k=>cond (od k 5) (iz ⟨[1,2,3,7],[],[],[],[],0,0,eb⟩) (cond (od k 999999) (iz ⟨[],[],[],[],[],0,0,eb⟩) i6)
def qf0:Nat->Bool:=fun k=>cond (od k 5) i7 (eb)
def qqu:=qf0
abbrev wu:Type:=(Bool × Unit) × (Int × Unit) × Unit
def qwt:Lz (Nat × Sm):=[]
def qwr:Lz (Nat × Hx):=[(33,hxR qkm)]
def qt5(R:Type)(lf:Nat):ClK R:=zn oa ttT.get ftT.get (fun _ _=>i6) (smL qwt) (hxL qwr) lf 20 R
def qcg(x1:zc)(x2:Int)(x3:Int)(p:Int × Int):NRes:=(NRes.mk (.node i6 (.node (iz (IV.int .i64 x2)) (.node (iz (IV.ptr 1 0)) (.node (iz (IV.int .i64 p.1)) .leaf .leaf) .leaf) .leaf) (.node (iz (IV.ptr 0 0)) .leaf .leaf)) (IS.mk (.node (iz (IObj.row [(IV.int .i64 p.2)])) (.node (iz (IObj.row (ou (IV.int .i64 x1.1) (ou (IV.str x1.2.1) (ou (IV.int .i64 x1.2.2.1) (ou (IV.lst cExpr (fc (fun v11610=>(match v11610 with|.mk v11611=>v11611)) x1.2.2.2)) [])))))) .leaf .leaf) .leaf) 2) [] 0)
def q5l(lf:Nat)(x1:zc)(x2:Int)(x3:Int)(L5:(Int × Int)->Oq wu):Oq wu:=(cond (iltI (we 60) x2) (iz ((eb,()),(((IntKind.i64.wrap (oe x3 (we 1))),()),()))) (cond (iltI (we 400) (IntKind.i64.wrap (oe x3 (we 1)))) (iz ((eb,()),(((IntKind.i64.wrap (oe x3 (we 1))),()),()))) (cond (iltI (we 100) (we (oq (fc (fun v0=>(match v0 with|.mk v1=>v1)) x1.2.2.2)))) (iz ((eb,()),(((IntKind.i64.wrap (oe x3 (we 1))),()),()))) (L5 ((we 0),(IntKind.i64.wrap (oe x3 (we 1))))))))
def qhs(lf:Nat)(x1:zc)(x2:Int)(x3:Int)(L5:(Int × Int)->Oq wu)(p:Int × Int):Oq wu:=(cond (iltI p.1 (we (oq (unL x1.2.2.2)))) (bd (jget (unL x1.2.2.2) p.1) fun v4=>(bd (S.lExprs (zl v4) (IntKind.i64.wrap (oe x2 (we 1))) p.2) fun v8=>(cond (Bool.not v8.1.1) (iz ((eb,()),v8.2)) (L5 ((IntKind.i64.wrap (oe p.1 (we 1))),v8.2.1.1))))) (iz ((i7,()),((p.2,()),()))))
abbrev gz38:Type:=ElP [.dat cExpr,.dat (.int .i64),.ref (.box [.dat (.int .i64)])]->Oq wu
abbrev sz38(g:gz38):SmR:=⟨[.dat cExpr,.dat (.int .i64),.ref (.box [.dat (.int .i64)])],[(eb,.bool)],g⟩
abbrev Ez38(g:gz38)(J:JT wu)(lf:Nat)(x1:zc)(x2:Int)(x3:Int):=zm oa ttT.get qet (mP [.dat cExpr,.dat (.int .i64),.ref (.box [.dat (.int .i64)])]) fi33.nt (qt5 _ lf) lf qf0 J fi33.body [] (zk (ze [.dat cExpr,.dat (.int .i64),.ref (.box [.dat (.int .i64)])] idN 0 (x1,x2,(x3,()),())) 0 .leaf) (Sc [.dat cExpr,.dat (.int .i64),.ref (.box [.dat (.int .i64)])] (x1,x2,(x3,()),())) [] (z6 ttT.get fi33 (sz38 g))
abbrev Bz38(g:gz38)(J:JT wu)(lf k:Nat)(ms:Lz Nat)(q:NRes):=qj oa ttT.get qet (mP [.dat cExpr,.dat (.int .i64),.ref (.box [.dat (.int .i64)])]) fi33.nt (qt5 _ lf) lf qf0 J k fi33.body [] ms q (z6 ttT.get fi33 (sz38 g))
theorem zid(g:gz38)(J:JT wu)(lf:Nat)(x1:zc)(x2:Int)(x3:Int):Ez38 g J lf x1 x2 x3=q5l lf x1 x2 x3 (fun q=>J 5 [lf] (qcg x1 x2 x3 q)):=by kernel_rfl
theorem ztr(g:gz38)(J:JT wu)(lf:Nat)(x1:zc)(x2:Int)(x3:Int)(m1:Nat)(p:Int × Int):Bz38 g J lf 5 [m1] (qcg x1 x2 x3 p)=qhs lf x1 x2 x3 (fun q=>J 5 [m1] (qcg x1 x2 x3 q)) p:=by kernel_rfl
theorem q8v:(regs fi33.body).Nodup:=by decide +kernel
theorem q3s:okC qet qf0 qqu fi33.body i6=i7:=by kernel_rfl
def Az38(g:gz38)(lf:Nat):JT wu:=atQ oa ttT.get qet fi33 (sz38 g) (qt5 _ lf) lf qqu
def qez(lf:Nat)(x1:zc)(x2:Int)(x3:Int):Nat->(Int × Int)->Oq wu:=rounds fun K p=>qhs lf x1 x2 x3 K p
theorem q2n(g:gz38)(lf:Nat)(x1:zc)(x2:Int)(x3:Int):∀(n:Nat) (p:Int × Int),Az38 g lf 5 [n] (qcg x1 x2 x3 p)=qez lf x1 x2 x3 n p
 | 0,p=>wg 5 [0] rfl _
 | n+1,p=>by
  have ih:=q2n g lf x1 x2 x3 n;refine(ki rfl (qg 20 _) q8v q3s 5 [n+1] [n] rfl _).trans ((ztr g (Az38 g lf) lf x1 x2 x3 n p).trans ?_);rw[(show (fun q=>Az38 g lf 5 [n] (qcg x1 x2 x3 q))=(fun q=>qez lf x1 x2 x3 n q) from funext ih)];rfl
def Fz38(lf:Nat)(x1:zc)(x2:Int)(x3:Int):Oq wu:=q5l lf x1 x2 x3 (fun q=>qez lf x1 x2 x3 lf q)
theorem zez(g:gz38)(lf:Nat)(x1:zc)(x2:Int)(x3:Int):Ez38 g (Az38 g lf) lf x1 x2 x3=Fz38 lf x1 x2 x3:=by
  refine(zid g (Az38 g lf) lf x1 x2 x3).trans ?_;rw[(show (fun q=>Az38 g lf 5 [lf] (qcg x1 x2 x3 q))=(fun q=>qez lf x1 x2 x3 lf q) from funext fun q=>q2n g lf x1 x2 x3 lf q)];rfl
theorem zfh(hrz38:ConR oa 33 qkm):zv oa qwr:=⟨z8 hrz38,trivial⟩
theorem zm6{g:gz38}(hsm:SmOK oa qwt)(hrz38:ConR oa 33 qkm)(hg:∀(x:ElP [.dat cExpr,.dat (.int .i64),.ref (.box [.dat (.int .i64)])]) (y:wu),WfP [.dat cExpr,.dat (.int .i64),.ref (.box [.dat (.int .i64)])] x->g x=iz y->∃lf,Fz38 lf x.1 x.2.1 x.2.2.1.1=iz y):ConR oa 33 ⟨[.dat cExpr,.dat (.int .i64),.ref (.box [.dat (.int .i64)])],[(eb,.bool)],g⟩ :=
 conTR (nmf:=qet) (sml:=qwt) (hxl:=qwr) (st:=qf0) (hd:=qqu) 20 mixed ttOK ftOK hsm (zfh hrz38) q5m (by kernel_rfl) (fun x=>by kernel_rfl) q8v q3s fun x y z b a=>by
  obtain⟨lf,h⟩:=hg x (y,z) b a;exact⟨lf,(zez g lf x.1 x.2.1 x.2.2.1.1).trans h⟩
end
section
section
variable [Φ : Fuel]
theorem zb9{l m:Lz zc}(hl:l.length<LF){lf:Nat}(hlf:l.length<lf):Lq (S.dEqQ l m) (Fz37 lf l m):=q6k hl hlf
theorem zjw(x y:zc)(lf:Nat):qpz lf x y=S.oU (S.eqE (Φ.n+1) x y):=qxy x y lf
theorem zo6{x:zc}(hx:WfE cExpr x)(d n:Int){lf:Nat}(hlf:(unL x.2.2.2).length<lf):Lq (match S.cntE (Φ.n+1) x d n with|none=>i6|some r=>iz ((r.1,()),(r.2,()),())) (Fz38 lf x d n):=by
 have f:IntKind.i64.wrap (oe n (we 1))=S.add1 n:=rfl;have e:IntKind.i64.wrap (oe d (we 1))=S.add1 d:=rfl;show Lq (match cond (iltI 60 d||(iltI 400 (S.add1 n)||iltI 100 (we (unL x.2.2.2).length))) (iz (eb,S.add1 n)) (S.cntL (fun y n=>S.cntE Φ.n y (S.add1 d) n) (unL x.2.2.2) (S.add1 n)) with|none=>i6|some r=>iz ((r.1,()),(r.2,()),()))
  (cond (iltI 60 d) (iz ((eb,()),(S.add1 n,()),())) (cond (iltI 400 (S.add1 n)) (iz ((eb,()),(S.add1 n,()),())) (cond (iltI 100 (we (unL x.2.2.2).length)) (iz ((eb,()),(S.add1 n,()),())) (qez lf x d n lf (we 0,S.add1 n)))))
 cases iltI 60 d with
 | true=>exact Lq.rfl
 | false =>
  cases iltI 400 (S.add1 n) with
  | true=>exact Lq.rfl
  | false =>
   cases iltI 100 (we (unL x.2.2.2).length) with
   | true=>exact Lq.rfl
   | false =>
    simp only[xe,Bool.or_self];refine qmd hlf (σ:=Int) (fun i s=>(i,s)) (fun a _ s=>match S.cntL (fun y n=>S.cntE Φ.n y (S.add1 d) n) a s with|none=>i6|some r=>iz ((r.1,()),(r.2,()),())) (q5z hx) (fun K s=>?_) (fun K i v a s r h=>?_) (S.add1 n)
    ·refine Lq.eq ?_;unfold qhs;simp only[jt,xe];rfl
    ·unfold qhs;simp only[r.ilt,r.get,r.next,xa,bd,qz,S.cntL,e];simp only[S.lExprs];cases S.cntE Φ.n v (S.add1 d) s with
     | none=>exact fun y h=>by cases h
     | some q =>
      obtain⟨b,c⟩:=q;cases b with
      | false=>exact Lq.rfl
      | true=>exact h c
end
theorem zts(n:Nat)(h:n<=68719476736)(hs:Con oa 21 (@qhy ⟨n,h⟩)):ConR oa 73 (@qmp ⟨n,h⟩) :=
 mkz37 (Φ:=⟨n,h⟩) ⟨hs,trivial⟩ fun x y b a=>⟨oq (α:=zc) x.1+1,zb9 (Φ:=⟨n,h⟩) (qwn (Φ:=⟨n,h⟩) b.1) (dy _) y a⟩
theorem qh1:∀(n:Nat) (h:n<=68719476736),Con oa 21 (@qhy ⟨n,h⟩)
 | 0,h=>qx2 q07 fun x=>rfl
 | n+1,h=>zrm (Φ:=⟨n,by omega⟩) trivial (zts n (by omega) (qh1 n (by omega))) fun x y hx hy=>⟨0,(zjw (Φ:=⟨n,by omega⟩) x.1 x.2.1 0).trans hy⟩
def q9h:Sm:=⟨[cExpr,cExpr],[(eb,.bool)],fun x=>S.dSameR x.1 x.2.1⟩
theorem zn2:Con oa 21 q9h:=⟨(qh1 0 (pm _)).callable,fun M w x c y a=>by
 have a:S.oU (lim fun n=>S.eqE n x.1 x.2.1)=iz y:=a;cases b:lim fun n=>S.eqE n x.1 x.2.1 with
 | none=>rw[b] at a;cases a
 | some d =>
  obtain⟨n,e,f⟩:=nx b;rw[b] at a;exact(qh1 n e).calls M w x c y (by show S.oU (S.eqE n x.1 x.2.1)=_;rw[f];exact a)⟩
theorem q0x:∀(n:Nat) (h:n<=68719476736),ConR oa 33 (@qkm ⟨n,h⟩)
 | 0,h=>qvt q5m fun x=>rfl
 | n+1,h=>zm6 (Φ:=⟨n,by omega⟩) trivial (q0x n (by omega)) fun x y hx hy=>⟨oq (α:=RExpr) x.1.2.2.2+1,zo6 (Φ:=⟨n,by omega⟩) hx.1 _ _ (by rw[qsl (Φ:=⟨n,by omega⟩)];exact dy _) y hy⟩
def S.lExprsR(x:zc)(d:Int)(n:Int):Oq ((Bool × Unit) × (Int × Unit) × Unit):=match S.cntE 70 x d n with
 | none=>i6
 | some r=>iz ((r.1,()),(r.2,()),())
def qki:SmR:=⟨[.dat cExpr,.dat (.int .i64),.ref (.box [.dat (.int .i64)])],[(eb,.bool)],fun x=>S.lExprsR x.1 x.2.1 x.2.2.1.1⟩
theorem zch:ConR oa 33 qki:=q0x 70 (by decide)
end
def S.lName(s:Bq):zc:=(we 6,s,we 0,[])
def q3l:Sm:=⟨[.str],[(eb,cExpr)],fun x=>iz (S.lName x.1,())⟩
def q4c:Sm:=⟨[.str,cExpr,cExpr],[(eb,cExpr)],fun x=>iz (S.binE x.1 x.2.1 x.2.2.1,())⟩
def q0n:Sm:=⟨[.str,cExpr],[(eb,cExpr)],fun x=>iz (S.unE (we 8) x.1 x.2.1,())⟩
abbrev qmo:Type:=zc × Unit
def zjt(lf:Nat)(x1:Bq):Oq qmo:=(iz (((we 6),(x1,((we 0),[]))),()))
def q9g(lf:Nat)(x1:Bq):Oq qmo:=zjt lf x1
theorem zbv{g:ElA [.str]->Oq qmo}(hsm:SmOK oa [])(hg:∀(x:ElA [.str]) (y:qmo),WfA [.str] x->g x=iz y->∃lf,q9g lf x.1=iz y):Con oa 56 ⟨[.str],[(eb,cExpr)],g⟩ :=
 conU (fi:=fi56) (hxl:=[]) (fun lf x=>q9g lf x.1) cm3 zbq trivial hsm hg
abbrev qkj:Type:=zc × Unit
def zc9(lf:Nat)(x1:Bq)(x2:zc)(x3:zc):Oq qkj:=(iz (((we 7),(x1,((we 0),(ou (RExpr.mk (x2.1,(x2.2.1,(x2.2.2.1,(fc (fun v0=>(RExpr.mk v0)) (fc (fun v1=>(match v1 with|.mk v2=>v2)) x2.2.2.2)))))) (ou (RExpr.mk (x3.1,(x3.2.1,(x3.2.2.1,(fc (fun v3=>(RExpr.mk v3)) (fc (fun v4=>(match v4 with|.mk v5=>v5)) x3.2.2.2)))))) []))))),()))
def qs5(lf:Nat)(x1:Bq)(x2:zc)(x3:zc):Oq qkj:=zc9 lf x1 x2 x3
theorem zx1{g:ElA [.str,cExpr,cExpr]->Oq qkj}(hsm:SmOK oa [])(hg:∀(x:ElA [.str,cExpr,cExpr]) (y:qkj),WfA [.str,cExpr,cExpr] x->g x=iz y->∃lf,qs5 lf x.1 x.2.1 x.2.2.1=iz y):Con oa 57 ⟨[.str,cExpr,cExpr],[(eb,cExpr)],g⟩ :=
 conU (fi:=fi57) (hxl:=[]) (fun lf x=>qs5 lf x.1 x.2.1 x.2.2.1) cm3 zd4 trivial hsm hg
abbrev qnb:Type:=zc × Unit
def zp9(lf:Nat)(x1:Bq)(x2:zc):Oq qnb:=(iz (((we 8),(x1,((we 0),(ou (RExpr.mk (x2.1,(x2.2.1,(x2.2.2.1,(fc (fun v0=>(RExpr.mk v0)) (fc (fun v1=>(match v1 with|.mk v2=>v2)) x2.2.2.2)))))) [])))),()))
def qo9(lf:Nat)(x1:Bq)(x2:zc):Oq qnb:=zp9 lf x1 x2
theorem zsc{g:ElA [.str,cExpr]->Oq qnb}(hsm:SmOK oa [])(hg:∀(x:ElA [.str,cExpr]) (y:qnb),WfA [.str,cExpr] x->g x=iz y->∃lf,qo9 lf x.1 x.2.1=iz y):Con oa 58 ⟨[.str,cExpr],[(eb,cExpr)],g⟩ :=
 conU (fi:=fi58) (hxl:=[]) (fun lf x=>qo9 lf x.1 x.2.1) cm3 ztu trivial hsm hg
theorem zgs(s:Bq)(x y:zc):qs5 0 s x y=iz (S.binE s x y,()):=by
 show iz ((we 7,s,we 0,[RExpr.mk (zl x),RExpr.mk (zl y)]),())=_;rw[qz,qz];rfl
theorem zol(s:Bq)(x:zc):qo9 0 s x=iz (S.unE (we 8) s x,()):=by
 show iz ((we 8,s,we 0,[RExpr.mk (zl x)]),())=_;rw[qz];rfl
theorem zoj:Con oa 56 q3l:=zbv trivial fun x y a h=>⟨0,h⟩
theorem zxt:Con oa 57 q4c:=zx1 trivial fun x y a h=>⟨0,(zgs x.1 x.2.1 x.2.2.1).trans h⟩
theorem zja:Con oa 58 q0n:=zsc trivial fun x y a h=>⟨0,(zol x.1 x.2.1).trans h⟩
end Go.Proofs.YtaepcfidpcoofaaGreatDoor
end

noncomputable section
set_option maxRecDepth 100000
namespace Go.Sx
open Go
section
variable {P : om} {ops : Array o8} {Q : Exit -> Act -> oh -> Prop} {n : Nat} {σ : Nat -> oc} {w : oh} {rest : Lz o8} {d : Nat} {ty : ov} {pos : String} {aft : Array Edge} {g : Oq (Nat × Bool)}
theorem zm8{T E:ov}{size bytes:Nat}{zero:oc}{x:fh}{a:Oq f9}{l c:Nat}(hT:Ty P T (.slice E) size bytes zero)(hg:qf ops σ n g=i7)(hx:okO n x=i7)(ex:ev σ x=.slice a l c)
  (k:wpList P ops Q rest (Fr n (upd σ d (.int .i64 c))) w):wpList P ops Q (⟨iz d,.call ⟨.builtin .cap,#[x],#[T]⟩,ty,pos,aft,g⟩::rest) (Fr n σ) w :=
 ju hg (by
  have b:(#[x].map (Fr n σ).eval)=#[Value.slice a l c]:=by simp[ql hx,ex]
  simp only[execOp,resolve,b,invoke,builtin,Builtin.cap_,xh,xd,xb,pf,xo,xm hT.und,goInt]) k
end
end Go.Sx
namespace Go.Proofs.YtaepcfidpcoofaaGreatDoor
open Go Go.Sx Go.RowKit Go.Jx
theorem za8{w:oh}{a:Oq f9}{c:Nat}(hc:c<9223372036854775808):mi oa 305 #[.slice a 0 c,.int .i64 0] w (Ret fun v w'=>v=.slice a 0 c/\w'=w):=by
 refine enter (l:=[.slice a 0 c,.int .i64 0]) Tryz.func305 rfl Tryz.ntmps305 rfl ?_;refine qw fun KhK1 m=>?_;refine qx ?_;refine j8 (v:=.slice i6 0 0) rfl rfl rfl ?_;refine gm ?_;refine m _ _ ?_;refine qw fun KhK2 k=>?_;refine qw fun KhK3 j=>?_;refine qx ?_;refine qh (v:=.int .i64 0) rfl rfl rfl ?_;refine q1m (a:=0) (b:=0) rfl rfl rfl rfl ?_;refine gm ?_;refine j _ _ ?_;refine c_if rfl rfl (fun e=>absurd e (by omega)) (fun e=>?_);refine wp_skip ?_;refine k _ _ ?_;refine qw fun KhK4 i=>?_;refine qw fun KhK5 h=>?_;refine qx ?_;refine qh (v:=.int .i64 0) rfl rfl rfl ?_;refine qh (v:=.slice a 0 c) rfl rfl rfl ?_;refine zm8 (a:=a) (l:=0) (c:=c) q5b rfl rfl rfl ?_;refine qh (v:=.slice a 0 c) rfl rfl rfl ?_;refine zbb (a:=a) (l:=0) (c:=c) q5b rfl rfl rfl ?_;refine q71 (a:=(c:Int)) (b:=0) rfl rfl rfl rfl (by omega) ?_;refine q71 (a:=0) (b:=(c:Int)-0) rfl rfl rfl rfl (by omega) ?_;refine j8 (v:=.int .i64 (0-((c:Int)-0))) rfl rfl rfl ?_;refine gm ?_;refine h _ _ ?_;refine qw fun KhK6 g=>?_;refine qx ?_;refine qh (v:=.int .i64 (0-((c:Int)-0))) rfl rfl rfl ?_;refine qsi (a:=0-((c:Int)-0)) (b:=0) rfl rfl rfl rfl ?_;refine gm ?_;refine g _ _ ?_;refine c_if rfl rfl (fun d=>absurd d (by omega)) (fun d=>?_);refine wp_skip ?_;refine i _ _ ?_;refine qw fun KhK8 f=>?_;refine qx ?_;refine qh (v:=.slice a 0 c) rfl rfl rfl ?_;refine j8 (v:=.slice a 0 c) rfl rfl rfl ?_;refine gm ?_;refine f _ _ ?_;refine wp_ret ?_;exact ret1 Tryz.results305 rfl ⟨rfl,rfl⟩
def qec(vs:Lz IV)(Z:IS):Oq Res:=match vs with
 | [.nilsl,.int .i64 n]=>cond (ieqI n 0) (iz ⟨.nilsl,Z,0,0⟩) i6
 | _=>i6
def qv5(R:Type)(vs:Lz IV)(Z:IS)(kk:Res->Oq R):Oq R:=match vs with
 | [.nilsl,.int .i64 n]=>cond (ieqI n 0) (kk ⟨.nilsl,Z,0,0⟩) i6
 | _=>i6
theorem zns(R:Type)(vs:Lz IV)(Z:IS)(kk:Res->Oq R):qv5 R vs Z kk=ob (qec vs Z) kk:=by
 unfold qv5 qec;split
 ·rename_i n;cases ieqI n 0<;>rfl
 ·rfl
def qxm:Hx:=⟨fun _ vs Z=>qec vs Z,fun _ R vs Z kk=>qv5 R vs Z kk,fun _ _ _ R vs Z kk=>zns R vs Z kk⟩
theorem qs6{vs:Lz IV}{Z:IS}{r:Res}(h:qec vs Z=iz r):vs=[.nilsl,.int .i64 0]/\r=⟨.nilsl,Z,0,0⟩:=by
 unfold qec at h;split at h
 ·rename_i n;cases a:ieqI n 0 with
  | false=>rw[a] at h;cases h
  | true =>
   rw[a,xa] at h;cases h;rw[zx] at a;rw[xu a];exact⟨rfl,rfl⟩
 ·cases h
theorem zlu:HxOK oa 305 qxm.f:=HxOK.of (fun i _ _ _ g Z r h T E b p l j k=>by
  obtain⟨rfl,rfl⟩:=qs6 h;obtain⟨u,b,rfl,q,o⟩:=k.inv;obtain⟨t,b,rfl,n,m⟩:=o.inv;have e:b=[]:=by have:=m.1;simpa using this.symm
  subst e;cases q;cases n;refine⟨zys,(dc.2 (za8 (w:=E.w) (a:=i6) (c:=0) (by omega))).mono fun e s d=>?_⟩;cases e with
  | returned v =>
   obtain⟨rfl,rfl⟩:=d;exact⟨_,E,rfl,rfl,.nilsl,Post.refl p,Fresh.refl _ _⟩
  | panicked c=>exact d.elim
  | outgrown=>exact d.elim)
 (fun i _ g Z r h=>by obtain⟨rfl,rfl⟩:=qs6 h;exact FrO.same _ rfl)
 (fun i _ g Z r h _ _=>by obtain⟨rfl,rfl⟩:=qs6 h;rfl)
end Go.Proofs.YtaepcfidpcoofaaGreatDoor
end

noncomputable section
set_option maxRecDepth 100000
namespace Go.Proofs.YtaepcfidpcoofaaGreatDoor
open Go Go.Sx Go.RowKit Go.Jx
abbrev Φh:Fuel:=⟨60,by decide⟩
def qr3:Lz (Nat × Sm):=[(31,qyd),(157,qpl),(115,quw),(21,@qhy Φh),(91,@qi6 Φh),(364,qji),(254,qul),(56,q3l),(57,q4c),(58,q0n)]
def qv2:Lz (Nat × Hx):=[(82,hxT 113),(139,hxR jk),(217,hxR qeg),(137,panO (hxP kz)),(142,hxP qgs),(138,hxP ji),(144,hxP nv),(243,hxP ni),(249,hxP sh),(141,hxP qx7),(67,hxP (@cv Φh)),(327,hxP (@sp Φh)),(54,hxR (@qea Φh)),(89,hxR (@yu Φh)),(170,hxR qhb),(165,hxR wl),(305,qxm)]
theorem znc:SmOK oa qr3:=⟨zn0,qx9,qxu,qh1 60 _,qkz 60 _,qz3,q82,zoj,zxt,zja,trivial⟩
theorem ze5:zv oa qv2:=⟨qs2,z8 qbc,z8 q33,qfe (z7 qdq),z7 qzx,z7 qaz,z7 qw2,z7 qnv,z7 qvz,z7 zwe,z7 (allE 60 (by decide)).expr,z7 (allE 60 (by decide)).call,z8 (qqf 60 _),z8 (qmz q37 60 _),z8 (qxf (Φ:=Φh)),z8 (qg9 (Φ:=Φh)),zlu,trivial⟩
def qr9:Sm:=⟨[],[(eb,.bool)],fun x=>iz (i7,())⟩
theorem zmx:zn oa ttT.get ftT.get (fun _ _=>i6) (smL qr3) (hxL qv2) 1000 200 _ (.fn 12) [] S0 (runR qr9)=iz (i7,()):=by kernel_rfl
theorem zhx:Con oa 12 qr9 :=
 conK (nm:=fun _ _=>i6) (sm:=smL qr3) (hx:=hxL qv2) mixed ttOK ftOK (u6 znc) (bp ze5) zxz fun x y hx h=>⟨200,1000,zmx.trans h⟩
namespace S
def small(t:zb):Bool:=og t.2.1.size 400000
def smallL(l:Lz zb):Bool:=l.all small
def put(bl:zb->zb->Bool)(l:Lz zb):Bq × Int :=
 if 6000<l.length then (S.lit [],3)
 else if l.any (fun t=>!right t) then (S.lit [],1)
 else if 20000<(putB bl l).length then (S.lit [],3)
 else (zq (putB bl l),0)
def always(_ _:zb):Bool:=i7
def same(a b:Bq):Bool × Int :=
 if (tokens a).2.2.2=0 then (if (tokens b).2.2.2=0 then (sameK (tokens a).1 (tokens b).1,0) else (eb,(tokens b).2.2.2)) else (eb,(tokens a).2.2.2)
end S
def qon:Sm:=⟨[zd],[(eb,.bool)],fun x=>iz (S.right x.1,())⟩
def qmq:SmR:=⟨[.dat (.list zd),.dat (.list zd),.fn 206],[(eb,.bool)],fun x=>iz ((S.sameK x.1 x.2.1,()),())⟩
def qw7:Sm:=⟨[.list (.list zd)],[(i7,zd)],fun x=>cond (og (x.1.flatten).length 1000000000) (iz (x.1.flatten,())) i6⟩
def qk8:Sm:=⟨[zd,zd],[(eb,.bool)],fun x=>cond ((S.right x.1&&S.right x.2.1)&&(S.small x.1&&S.small x.2.1)) (iz (S.needs x.1 x.2.1,())) i6⟩
def qya:SmR:=⟨[.dat (.list zd),.fn 94],[(eb,.str),(eb,.int .i64)],fun x=>cond (S.smallL x.1) (iz (((S.put S.always x.1).1,(S.put S.always x.1).2,()),())) i6⟩
def qz9:SmR:=⟨[.dat (.list zd),.fn 116],[(eb,.str),(eb,.int .i64)],fun x=>cond (S.smallL x.1) (iz (((S.put S.needs x.1).1,(S.put S.needs x.1).2,()),())) i6⟩
def S.dWrite(l:Lz zb):Oq (Bq × Int × Unit):=cond (S.smallL l) (iz ((S.put S.always l).1,(S.put S.always l).2,())) i6
def q95:Sm:=⟨[.list zd],[(eb,.str),(eb,.int .i64)],fun x=>S.dWrite x.1⟩
abbrev qmx:Type:=Bool × Unit
abbrev zq5:Nat:=175
def q3k(lf:Nat)(x1:zb):Oq qmx:=(cond (ieqI (S.shape x1.2.1).2 (we 0)) (cond (ieqI (S.shape x1.2.1).1 x1.1) (iz ((Bool.not (ieqI x1.1 (we 6))),())) (iz (eb,()))) (iz (eb,())))
def qne(lf:Nat)(x1:zb):Oq qmx:=q3k lf x1
theorem zui{g:ElA [zd]->Oq qmx}(hsm:SmOK oa [(275,qd1)])(hg:∀(x:ElA [zd]) (y:qmx),WfA [zd] x->g x=iz y->∃lf,qne lf x.1=iz y):Con oa 175 ⟨[zd],[(eb,.bool)],g⟩ :=
 conU (fi:=q3b) (hxl:=[]) (fun lf x=>qne lf x.1) cm3 zsv trivial hsm hg
def qfg:Nat->Oq Nm:=fun k=>cond (od k 4) (iz ⟨[1,2,15,16,17],[],[],[],[],0,0,eb⟩) (cond (od k 999999) (iz ⟨[],[],[],[],[],0,0,eb⟩) i6)
def qer:Nat->Bool:=fun k=>cond (od k 4) i7 (eb)
def qq1:=qer
abbrev kw:Type:=(Bool × Unit) × Unit
def qvj:Lz (Nat × Sm):=[]
def qud:Lz (Nat × Hx):=[]
def qrg(R:Type)(lf:Nat):ClK R:=zn oa ttT.get ftT.get (fun _ _=>i6) (smL qvj) (hxL qud) lf 20 R
abbrev zjh:Nat:=204
def qcn(x1:(Lz zb))(x2:(Lz zb))(p:Int):NRes:=(NRes.mk (.node i6 (.node (iz (IV.lst zd x2)) (.node i6 (.node i6 (.node (iz (IV.lst zd x1)) .leaf .leaf) .leaf) .leaf) (.node i6 (.node i6 (.node (iz (IV.int .i64 p)) .leaf .leaf) .leaf) .leaf)) (.node (iz (IV.fn 206 [])) (.node i6 (.node i6 (.node (iz (IV.int .i64 (we x1.length))) .leaf .leaf) .leaf) .leaf) .leaf)) (IS.mk .leaf 0) [] 0)
def qss(lf:Nat)(x1:(Lz zb))(x2:(Lz zb))(L4:Int->Oq kw):Oq kw:=(cond (Bool.not (ieqI (we x1.length) (we x2.length))) (iz ((eb,()),())) (L4 (we 0)))
def qjp(lf:Nat)(x1:(Lz zb))(x2:(Lz zb))(L4:Int->Oq kw)(p:Int):Oq kw:=(cond (iltI p (we x1.length)) (bd (jget x1 p) fun v0=>(bd (jget x2 p) fun v1=>(cond (ieqI v0.1 v1.1) (cond (Bool.not (keqS v0.2.1 v1.2.1)) (iz ((eb,()),())) (L4 (IntKind.i64.wrap (oe p (we 1))))) (iz ((eb,()),()))))) (iz ((i7,()),())))
abbrev gz39:Type:=ElP [.dat (.list zd),.dat (.list zd),.fn 206]->Oq kw
abbrev sz39(g:gz39):SmR:=⟨[.dat (.list zd),.dat (.list zd),.fn 206],[(eb,.bool)],g⟩
abbrev Ez39(g:gz39)(J:JT kw)(lf:Nat)(x1:(Lz zb))(x2:(Lz zb)):=zm oa ttT.get qfg (mP [.dat (.list zd),.dat (.list zd),.fn 206]) uz.nt (qrg _ lf) lf qer J uz.body [] (zk (ze [.dat (.list zd),.dat (.list zd),.fn 206] idN 0 (x1,x2,())) 0 .leaf) (Sc [.dat (.list zd),.dat (.list zd),.fn 206] (x1,x2,())) [] (z6 ttT.get uz (sz39 g))
abbrev Bz39(g:gz39)(J:JT kw)(lf k:Nat)(ms:Lz Nat)(q:NRes):=qj oa ttT.get qfg (mP [.dat (.list zd),.dat (.list zd),.fn 206]) uz.nt (qrg _ lf) lf qer J k uz.body [] ms q (z6 ttT.get uz (sz39 g))
theorem zvt(g:gz39)(J:JT kw)(lf:Nat)(x1:(Lz zb))(x2:(Lz zb)):Ez39 g J lf x1 x2=qss lf x1 x2 (fun q=>J 4 [lf] (qcn x1 x2 q)):=by kernel_rfl
theorem zvu(g:gz39)(J:JT kw)(lf:Nat)(x1:(Lz zb))(x2:(Lz zb))(m1:Nat)(p:Int):Bz39 g J lf 4 [m1] (qcn x1 x2 p)=qjp lf x1 x2 (fun q=>J 4 [m1] (qcn x1 x2 q)) p:=by kernel_rfl
theorem q3w:(regs uz.body).Nodup:=by decide +kernel
theorem zau:okC qfg qer qq1 uz.body i6=i7:=by kernel_rfl
def Az39(g:gz39)(lf:Nat):JT kw:=atQ oa ttT.get qfg uz (sz39 g) (qrg _ lf) lf qq1
def qhl(lf:Nat)(x1:(Lz zb))(x2:(Lz zb)):Nat->(Int)->Oq kw:=rounds fun K p=>qjp lf x1 x2 K p
theorem q2c(g:gz39)(lf:Nat)(x1:(Lz zb))(x2:(Lz zb)):∀(n:Nat) (p:Int),Az39 g lf 4 [n] (qcn x1 x2 p)=qhl lf x1 x2 n p
 | 0,p=>wg 4 [0] rfl _
 | n+1,p=>by
  have ih:=q2c g lf x1 x2 n;refine(ki rfl (qg 20 _) q3w zau 4 [n+1] [n] rfl _).trans ((zvu g (Az39 g lf) lf x1 x2 n p).trans ?_);rw[(show (fun q=>Az39 g lf 4 [n] (qcn x1 x2 q))=(fun q=>qhl lf x1 x2 n q) from funext ih)];rfl
def Fz39(lf:Nat)(x1:(Lz zb))(x2:(Lz zb)):Oq kw:=qss lf x1 x2 (fun q=>qhl lf x1 x2 lf q)
theorem zsj(g:gz39)(lf:Nat)(x1:(Lz zb))(x2:(Lz zb)):Ez39 g (Az39 g lf) lf x1 x2=Fz39 lf x1 x2:=by
  refine(zvt g (Az39 g lf) lf x1 x2).trans ?_;rw[(show (fun q=>Az39 g lf 4 [lf] (qcn x1 x2 q))=(fun q=>qhl lf x1 x2 lf q) from funext fun q=>q2c g lf x1 x2 lf q)];rfl
theorem zsa:zv oa qud:=trivial
theorem zdb{g:gz39}(hsm:SmOK oa qvj)(hg:∀(x:ElP [.dat (.list zd),.dat (.list zd),.fn 206]) (y:kw),WfP [.dat (.list zd),.dat (.list zd),.fn 206] x->g x=iz y->∃lf,Fz39 lf x.1 x.2.1=iz y):ConR oa 204 ⟨[.dat (.list zd),.dat (.list zd),.fn 206],[(eb,.bool)],g⟩ :=
 conTR (nmf:=qfg) (sml:=qvj) (hxl:=qud) (st:=qer) (hd:=qq1) 20 mixed ttOK ftOK hsm zsa zw9 (by kernel_rfl) (fun x=>by kernel_rfl) q3w zau fun x y z b a=>by
  obtain⟨lf,h⟩:=hg x (y,z) b a;exact⟨lf,(zsj g lf x.1 x.2.1).trans h⟩
def qfl:Nat->Oq Nm:=fun k=>cond (od k 3) (iz ⟨[3,6,7,8],[(3,zd)],[],[],[],0,0,eb⟩) (i6)
def qd6:Nat->Bool:=fun k=>cond (od k 3) i7 (eb)
def zan:=qd6
abbrev wb:Type:=(Lz zb) × Unit
def q48:Lz (Nat × Sm):=[]
def q68:Lz (Nat × Hx):=[]
def qvv(R:Type)(lf:Nat):ClK R:=zn oa ttT.get ftT.get (nm1 205 qfl) (smL q48) (hxL q68) lf 20 R
abbrev zm1:Nat:=205
def qbj(x1:(Lz (Lz zb)))(p:Int × (Lz zb)):NRes:=(NRes.mk (.node i6 (.node i6 (.node (iz (IV.arr 0)) (.node (iz (IV.int .i64 (we x1.length))) .leaf .leaf) .leaf) .leaf) (.node i6 (.node i6 (.node (iz (IV.int .i64 p.1)) .leaf .leaf) .leaf) (.node (iz (IV.lst (TC.list zd) x1)) .leaf .leaf))) (IS.mk (.node (iz (IObj.arr zd p.2)) .leaf .leaf) 1) [] 0)
def q4a(lf:Nat)(x1:(Lz (Lz zb)))(L3:(Int × (Lz zb))->Oq wb):Oq wb:=(L3 ((we 0),[]))
def qm9(lf:Nat)(x1:(Lz (Lz zb)))(L3:(Int × (Lz zb))->Oq wb)(p:Int × (Lz zb)):Oq wb:=(cond (iltI p.1 (we x1.length)) (bd (jget x1 p.1) fun v0=>(cond (og (o7 (o5 p.2.length v0.length) 40) 140737488355328) (L3 ((IntKind.i64.wrap (oe p.1 (we 1))),(oz p.2 v0))) i6)) (iz (p.2,())))
abbrev gz40:Type:=ElA [(.list (.list zd))]->Oq wb
abbrev sz40(g:gz40):Sm:=⟨[(.list (.list zd))],[(i7,zd)],g⟩
abbrev Ez40(g:gz40)(J:JT wb)(lf:Nat)(x1:(Lz (Lz zb))):=yr oa ttT.get qfl ug.nt (qvv _ lf) lf qd6 J ug.body [] (zk (argV [(.list (.list zd))] (x1,())) 0 .leaf) S0 [] (jf ttT.get ug (sz40 g))
abbrev Bz40(g:gz40)(J:JT wb)(lf k:Nat)(ms:Lz Nat)(q:NRes):=nn oa ttT.get qfl ug.nt (qvv _ lf) lf qd6 J k ug.body [] ms q (jf ttT.get ug (sz40 g))
theorem zg0(g:gz40)(J:JT wb)(lf:Nat)(x1:(Lz (Lz zb))):Ez40 g J lf x1=q4a lf x1 (fun q=>J 3 [lf] (qbj x1 q)):=by kernel_rfl
theorem zf5(g:gz40)(J:JT wb)(lf:Nat)(x1:(Lz (Lz zb)))(m1:Nat)(p:Int × (Lz zb)):Bz40 g J lf 3 [m1] (qbj x1 p)=qm9 lf x1 (fun q=>J 3 [m1] (qbj x1 q)) p:=by kernel_rfl
theorem q1i:(regs ug.body).Nodup:=by decide +kernel
theorem q6s:okC qfl qd6 zan ug.body i6=i7:=by kernel_rfl
def Az40(g:gz40)(lf:Nat):JT wb:=atN oa ttT.get qfl ug (sz40 g) (qvv _ lf) lf zan
def qgy(lf:Nat)(x1:(Lz (Lz zb))):Nat->(Int × (Lz zb))->Oq wb:=rounds fun K p=>qm9 lf x1 K p
theorem qxs(g:gz40)(lf:Nat)(x1:(Lz (Lz zb))):∀(n:Nat) (p:Int × (Lz zb)),Az40 g lf 3 [n] (qbj x1 p)=qgy lf x1 n p
 | 0,p=>sn 3 [0] rfl _
 | n+1,p=>by
  have ih:=qxs g lf x1 n;refine(c8 (qg 20 _) q1i q6s 3 [n+1] [n] rfl _).trans ((zf5 g (Az40 g lf) lf x1 n p).trans ?_);rw[(show (fun q=>Az40 g lf 3 [n] (qbj x1 q))=(fun q=>qgy lf x1 n q) from funext ih)];rfl
def Fz40(lf:Nat)(x1:(Lz (Lz zb))):Oq wb:=q4a lf x1 (fun q=>qgy lf x1 lf q)
theorem zo8(g:gz40)(lf:Nat)(x1:(Lz (Lz zb))):Ez40 g (Az40 g lf) lf x1=Fz40 lf x1:=by
  refine(zg0 g (Az40 g lf) lf x1).trans ?_;rw[(show (fun q=>Az40 g lf 3 [lf] (qbj x1 q))=(fun q=>qgy lf x1 lf q) from funext fun q=>qxs g lf x1 lf q)];rfl
theorem zmq:zv oa q68:=trivial
theorem za5{g:gz40}(hsm:SmOK oa q48)(hg:∀(x:ElA [(.list (.list zd))]) (y:wb),WfA [(.list (.list zd))] x->g x=iz y->∃lf,Fz40 lf x.1=iz y):Con oa 205 ⟨[(.list (.list zd))],[(i7,zd)],g⟩ :=
 conV (st:=qd6) (fun lf x=>Fz40 lf x.1) cm3 ze1 zmq q1i q6s (fun lf x=>zo8 g lf x.1) hsm hg
def q8h:Lz (Nat × Hx):=[(204,hxR qmq),(86,qeb (qey 88) (hxR qqt) (hxR qo8))]
abbrev qj1:Type:=Bool × Unit
abbrev zpv:Nat:=116
def qy5(lf:Nat)(x1:zb)(x2:zb):Oq qj1:=(cond (og (Nat.succ (o5 x1.2.1.size x2.2.1.size)) 9223372036854775808) (bd (cond (S.okL [(mn x1.2.1 x2.2.1)] (we 1)) (iz (((S.readX S.wTok [(mn x1.2.1 x2.2.1)] (we 1)).1,((S.readX S.wTok [(mn x1.2.1 x2.2.1)] (we 1)).2.1,((S.readX S.wTok [(mn x1.2.1 x2.2.1)] (we 1)).2.2,()))),())) i6) fun v0=>(cond (Bool.not (ieqI v0.1.2.2.1 (we 0))) (iz (i7,())) (iz ((Bool.not (S.sameK v0.1.1 (ou x1 [x2]))),())))) i6)
def qit(lf:Nat)(x1:zb)(x2:zb):Oq qj1:=qy5 lf x1 x2
theorem zpx(hrz39:ConR oa 204 qmq):zv oa q8h:=⟨z8 hrz39,⟨qhu (z8 q2u) (z8 zav),trivial⟩⟩
theorem zuq{g:ElA [zd,zd]->Oq qj1}(hsm:SmOK oa [(205,qw7)])(hrz39:ConR oa 204 qmq)(hg:∀(x:ElA [zd,zd]) (y:qj1),WfA [zd,zd] x->g x=iz y->∃lf,qit lf x.1 x.2.1=iz y):Con oa 116 ⟨[zd,zd],[(eb,.bool)],g⟩ :=
 conU (fi:=q14) (hxl:=q8h) (fun lf x=>qit lf x.1 x.2.1) cm3 zyt (zpx hrz39) hsm hg
theorem qdx(b:Int)(t:Lz Int):S.runL (b::t)=if S.isPart b=i7 then S.runL t+1 else 0:=by
 unfold S.runL;rw[jbd]
 grind
theorem qwu:∀(n:Nat) (r r':Lz Int),r'.take n=r.take n->n<=r'.length->(r'.length=n\/r'.take (n+1)=r.take (n+1))->S.runL r=n->S.runL r'=n
 | 0,r,r',_,_,h3,h=>by
  rcases h3 with h3|h3
  ·rw[p8.1 h3];rfl
  ·cases r' with
   | nil=>rfl
   | cons b t' =>
    cases r with
    | nil=>simp at h3
    | cons b2 t =>
     obtain rfl:b=b2:=by simpa using h3
     rw[qdx] at h ⊢
     grind
 | n+1,r,r',h1,h2,h3,h=>by
  cases r with
  | nil=>simp [S.runL] at h
  | cons b t =>
   cases r' with
   | nil=>simp at h2
   | cons b2 t' =>
    rw[jb5,jb5] at h1;injection h1 with e1 e2
    subst e1;rw[qdx] at h ⊢;split at h
    ·rename_i hb;rw[xx hb,qwu n t t' e2 (by simpa using h2) (by simpa using h3) (by omega)]
    ·omega
theorem q86{r r':Lz Int}(p1:∀y∈S.signs,za y <+: r'->za y <+: r)(p2:za (S.signL r) <+: r')(hs:¬(S.signL r).size=0):S.signL r'=S.signL r:=by
 unfold S.signL at p2 hs ⊢;cases h:S.signs.find? (fun x=>(za x).isPrefixOf r) with
 | none=>rw[h] at hs;exact absurd rfl hs
 | some x =>
  rw[h] at p2;have a:S.signs.find? (fun x=>(za x).isPrefixOf r')=iz x:=by
   rw[List.find?_eq_some_iff_append] at h ⊢
   grind
  grind
theorem zl3{r r':Lz Int}{n:Nat}{k:Int}(h:S.tok r=(n,k,0,0))(hk:¬k=6)(hn:0<n)(h1:r'.take n=r.take n)(h2:n<=r'.length)(h3:r'.length=n\/r'.take (n+1)=r.take (n+1)):S.tok r'=(n,k,0,0):=by
 have a:∀y:Lz Int,y.length<=n+1->y <+: r'->y <+: r:=by
  intro y f d;rcases h3 with h3|h3
  ·grind
  ·have:y <+: r'.take (n+1):=List.prefix_take_iff.2 ⟨d,f⟩
   grind
 have g:∀y:Lz Int,y.length<=n->y <+: r->y <+: r':=by
  intro y f d;have:y <+: r.take n:=List.prefix_take_iff.2 ⟨d,f⟩
  grind
 unfold S.tok at h ⊢;have i:¬[45,45].isPrefixOf r=i7:=by
  grind
 have m:¬[45,45].isPrefixOf r'=i7:=fun e=>i (gj.2 (a _ (by simp only[xw,rh];omega) (gj.1 e)));rw[xr i] at h;rw[xr m];by_cases b:0<S.runL r
 ·rw[xx b] at h;obtain rfl:S.runL r=n:=xy (fun x=>x.1) h;have e:=qwu _ r r' h1 h2 h3 rfl
  grind
 ·rw[xr b] at h;have e:S.runL r'=0:=qwu 0 r r' rfl (pm _) (.inr (by
   have:=xy (ao 1) h1
   rwa [jbt,jbt,show min 1 n=1 by omega] at this)) (by omega)
  rw[e,xr (by omega)];by_cases c:(S.signL r).size=0
  ·rw[xx c] at h;exact absurd (xy (fun x=>x.2.2.1) h) (show ¬(2:Int)=0 by decide)
  ·rw[xr c] at h;have j:(S.signL r).size=n:=xy (fun x=>x.1) h;have d:za (S.signL r) <+: r:=by
    rcases n9 r with e|⟨_,e,_⟩
    ·rw[e] at c;exact absurd rfl c
    ·rw[e];exact List.take_prefix _ _
   have l:=q86 (r:=r) (r':=r') (fun y f d=>a _ (by rw[zt];have:=(qzi f).2;omega) d) (g _ (by rw[zt];omega) d) c;rw[l,xr c];exact h
theorem zq3:∀x∈S.signs,(32:Int) ∉ za x:=by
 have:S.signs.all (fun x=>!decide ((32:Int)∈za x))=i7:=by decide +kernel
 grind
theorem q64{y A x:Lz Int}(h:y <+: A++32::x)(hy:(32:Int) ∉ y):y <+: A:=by
 rcases List.prefix_or_prefix_of_prefix h (List.prefix_append A (32::x)) with a|⟨z,rfl⟩
 ·grind
 ·rw[List.prefix_append_right_inj] at h;cases z with
  | nil=>rw[gz];exact List.prefix_refl _
  | cons c z =>
   grind
theorem zzi{A x:Lz Int}{k:Int}(h:S.tok A=(A.length,k,0,0))(hk:¬k=6)(hn:0<A.length):S.tok (A++32::x)=(A.length,k,0,0):=by
 unfold S.tok at h ⊢;have g:¬[45,45].isPrefixOf A=i7:=by
  grind
 have j:¬[45,45].isPrefixOf (A++32::x)=i7:=fun e=>g (gj.2 (q64 (gj.1 e) (by decide)));rw[xr g] at h;rw[xr j];have a:S.isPart 32=eb:=by decide +kernel
 have d:∀B:Lz Int,S.runL (B++32::x)=S.runL B:=by
  intro B;induction B with
  | nil=>rw[jag,qdx,a];rfl
  | cons c B ih=>rw[rn,qdx,qdx,ih]
 rw[d A];by_cases b:0<S.runL A
 ·grind
 ·rw[xr b] at h ⊢;by_cases c:(S.signL A).size=0
  ·grind
  ·rw[xr c] at h;have f:za (S.signL A) <+: A:=by
    rcases n9 A with e|⟨_,e,_⟩
    ·rw[e] at c;exact absurd rfl c
    ·grind
   have l:=q86 (r:=A) (r':=A++32::x) (fun y i f=>q64 f (zq3 y i)) (f.trans (List.prefix_append _ _)) c
   grind
theorem qyu{p:Int->Bool}:∀{l:Lz Int} {b:Int},b∈l.takeWhile p->p b=i7
 | [],b,h=>by cases h
 | c::l,b,h=>by
  rw[jbd] at h;split at h
  ·rename_i hc;rcases po.1 h with rfl|h
   ·grind
   ·exact qyu h
  ·grind
theorem bt{s:Bq}{k:Int}(h:S.shape s=(k,0)):S.tok (za s)=((za s).length,k,0,0)/\0<s.size/\∀b∈za s,¬b=10/\¬b=32:=by
 have j:S.signs.all (fun s=>decide (S.tok (za s)=((za s).length,5,0,0))&&(decide (0<s.size)&&(za s).all fun b=>!decide (b=10)&&!decide (b=32)))=i7:=by decide +kernel
 have l:=h;unfold S.shape at h;split at h
 ·rename_i n;obtain rfl:5=k:=xy (fun x=>x.1) h;have:=xz.1 j s (qa5.1 n)
  grind
 ·cases f:(za s)[0]? with
  | none=>rw[f] at h;exact absurd (xy (fun x=>x.2) h) (show ¬(2:Int)=0 by decide)
  | some b0 =>
   rw[f] at h;simp only at h;split at h
   ·grind
   rename_i q;split at h
   ·grind
   rename_i o;have a:S.runL (za s)=(za s).length:=by
    have:=qll (za s);rw[zt] at this ⊢;omega
   have d:0<s.size:=by
    rw[<- zt]
    grind
   have g:∀b∈za s,S.isPart b=i7:=by
    have e:(za s).takeWhile S.isPart=za s:=(jby (p:=S.isPart)).eq_of_length a;intro b c;rw[<- e] at c;exact qyu c
   have m:∀b∈za s,¬b=10/\¬b=32/\¬b=45:=by
    intro b c;have c:=g b c;refine⟨?_,?_,?_⟩<;>(intro e;subst e;exact absurd c (by decide +kernel))
   refine⟨?_,d,fun b c=>⟨(m b c).1,(m b c).2.1⟩⟩;have i:S.shape s=(k,0):=l;unfold S.tok;rw[xr,xx (by rw[a,zt];exact d),a,jba,yc,i];intro e;have:=(gj.1 e).subset (x8)
   grind
theorem qrk{r:Lz Int}{n:Nat}{k:Int}(f c:Nat)(h:S.tok r=(n,k,0,0))(hr:¬r[0]?=iz 32)(h0:r≠[]):S.pcs (f+1) r c=((k,zq (r.take n),c)::(S.pcs f (r.drop n) (c+n)).1,(S.pcs f (r.drop n) (c+n)).2):=by
 cases r with
 | nil=>exact absurd rfl h0
 | cons b t =>
  have a:¬b=32:=fun e=>hr (by rw[e];rfl);show (if b=32 then _ else if (S.tok (b::t)).2.2.1=0 then _ else _)=_
  grind
theorem zpr(f c:Nat)(r:Lz Int):S.pcs (f+1) (32::r) c=S.pcs f r (c+1):=by
 show (if (32:Int)=32 then _ else _)=_
 grind
theorem ye{t:zb}(h:S.right t=i7):S.shape t.2.1=(t.1,0):=by
 unfold S.right at h
 grind
theorem qql{t:zb}(h:S.right t=i7):¬t.1=6:=by
 have:=ye h;have a:=qt7 t.2.1
 grind
theorem ny(bl:zb->zb->Bool)(a b:zb)(l:Lz zb):S.putB bl (a::b::l)=za a.2.1++(cond (bl a b) (32::S.putB bl (b::l)) (S.putB bl (b::l))):=rfl
theorem zz0(bl:zb->zb->Bool)(a:zb)(l:Lz zb):∃z,S.putB bl (a::l)=za a.2.1++z:=by
 cases l with
 | nil=>exact⟨[],(gz _).symm⟩
 | cons b l=>exact⟨_,ny bl a b l⟩
theorem qi5{s:Bq}{z:Lz Int}(h0:0<s.size)(h:∀b∈za s,¬b=10/\¬b=32):¬(za s++z)[0]?=iz 32/\za s++z≠[]:=by
 rw[<- zt] at h0
 grind
theorem zas{s:Bq}{z:Lz Int}:zq ((za s++z).take (za s).length)=s:=by
 rw[jca,yc]
theorem qrd(f c:Nat):S.pcs f [] c=([],i6):=by cases f<;>rfl
theorem zlz{r:Lz Int}{f c:Nat}{k:Int}{x:Bq}{ks:Lz (Int × Bq)}(h0:r≠[])(h32:¬r[0]?=iz 32)(hn:∀b∈r,¬b=10)(hbs:∀b∈r,0<=b/\b<256)(h1:(S.pcs (f+1) r c).2=i6)(h2:S.pk ((S.pcs (f+1) r c).1.filter S.plain)=(k,x)::ks) :
  S.tok r=((za x).length,k,0,0)/\¬k=6/\r.take (za x).length=za x/\0<x.size/\(S.pcs f (r.drop (za x).length) (c+(za x).length)).2=i6/\S.pk ((S.pcs f (r.drop (za x).length) (c+(za x).length)).1.filter S.plain)=ks:=by
 cases r with
 | nil=>exact absurd rfl h0
 | cons b t =>
  have q:¬b=32:=fun e=>h32 (by rw[e];rfl);have o:S.pcs (f+1) (b::t) c=if b=32 then S.pcs f t (c+1) else if (S.tok (b::t)).2.2.1=0 then (((S.tok (b::t)).2.1,zq ((b::t).take (S.tok (b::t)).1),c)::(S.pcs f ((b::t).drop (S.tok (b::t)).1) (c+(S.tok (b::t)).1)).1,(S.pcs f ((b::t).drop (S.tok (b::t)).1) (c+(S.tok (b::t)).1)).2) else ([],iz (c+(S.tok (b::t)).2.2.2,(S.tok (b::t)).2.2.1)):=rfl
  rw[o,xr q] at h1 h2;by_cases g:(S.tok (b::t)).2.2.1=0
  ·rw[xx g] at h1 h2;obtain⟨n,u⟩:=zqd g (by simp);have a:¬(S.tok (b::t)).2.1=6:=by
    intro a;have h:(S.tok (b::t)).1=(b::t).length:=by
     unfold S.tok at g a ⊢;by_cases e:[45,45].isPrefixOf (b::t)=i7
     ·rw[xx e] at g a ⊢;rw[q2f _ e hn] at g a ⊢
      grind
     ·rw[xr e] at a;split at a
      ·exact absurd a (qt7 _)
      grind
    rw[h,jb0,qrd,a] at h2;have:S.plain (6,zq ((b::t).take (b::t).length),c)=eb:=rfl;rw[jcg,this] at h2;simp[S.pk] at h2
   have i:S.plain ((S.tok (b::t)).2.1,zq ((b::t).take (S.tok (b::t)).1),c)=i7:=by
    unfold S.plain
    grind
   rw[jcg,i,xx rfl] at h2;have h2:(((S.tok (b::t)).2.1,zq ((b::t).take (S.tok (b::t)).1))::S.pk ((S.pcs f ((b::t).drop (S.tok (b::t)).1) (c+(S.tok (b::t)).1)).1.filter S.plain))=(k,x)::ks:=h2;injection h2 with h3 h4
   have m:(S.tok (b::t)).2.1=k:=xy Prod.fst h3;have s:zq ((b::t).take (S.tok (b::t)).1)=x:=xy Prod.snd h3;have l:(b::t).take (S.tok (b::t)).1=za x:=by
    rw[<- s,qmf fun d p=>hbs d (jaz p)]
   have j:(S.tok (b::t)).1=(za x).length:=by
    grind
   rw[j] at h4 h1 l n;refine⟨Prod.ext j (Prod.ext m (Prod.ext g (q6x g))),fun e=>a (m.trans e),l,?_,h1,h4⟩;rw[<- zt];omega
  ·grind
theorem qwg{A B:Lz Int}{p:Int->Prop}(ha:∀b∈A,p b)(hb:∀b∈B,p b):∀b∈A++B,p b:=fun b h=>(p4.1 h).elim (ha b) (hb b)
theorem zg7{a b:zb}(ha:S.right a=i7)(hb:S.right b=i7)(h:S.needs a b=eb):S.tok (za a.2.1++za b.2.1)=((za a.2.1).length,a.1,0,0):=by
 obtain⟨o,l,e⟩:=bt (ye ha);obtain⟨n,m,k⟩:=bt (ye hb);unfold S.needs at h;rw[Bool.not_eq_false',xf,du] at h;obtain⟨j,i⟩:=h;obtain⟨g,f⟩:=qi5 (z:=za b.2.1) l e;exact(zlz f g (qwg (fun c d=>(e c d).1) fun c d=>(k c d).1) (qwg (fun c d=>ce d) fun c d=>ce d) (Option.isNone_iff_eq_none.1 j) i).1
theorem q4w(bl:zb->zb->Bool)(hbl:∀a b,bl a b=eb->S.needs a b=eb):∀(l:Lz zb),(∀t∈l,S.right t=i7)->∀(f c:Nat),(S.putB bl l).length<f->∃q,S.pcs f (S.putB bl l) c=(q,i6)/\S.pk q=S.kinds l
 | [],_,f,c,_=>⟨[],qrd f c,rfl⟩
 | [a],hr,f,c,hf=>by
  have ha:=hr a x8;obtain⟨a1,a2,a3⟩:=bt (ye ha);obtain⟨n1,n2⟩:=qi5 (z:=[]) a2 a3;rw[gz] at n1 n2;have e:S.putB bl [a]=za a.2.1:=rfl;rw[e] at hf ⊢;cases f with
  | zero=>omega
  | succ f =>
   rw[qrk f c a1 n1 n2,jba,yc,jb0,qrd];exact⟨_,rfl,rfl⟩
 | a::b::l,hr,f,c,hf=>by
  have ha:=hr a x8;have hb:=hr b (xv _ x8);obtain⟨a1,a2,a3⟩:=bt (ye ha);obtain⟨b1,b2,b3⟩:=bt (ye hb);have la:=zt a.2.1;have lb:=zt b.2.1;have ih:=q4w bl hbl (b::l) fun t ht=>hr t (xv _ ht);rw[ny] at hf ⊢;cases f with
  | zero=>omega
  | succ f =>
   rw[xp] at hf;cases hbl':bl a b with
   | true =>
    rw[hbl',xa] at hf;rw[xa];rw[xw] at hf;obtain⟨n1,n2⟩:=qi5 (z:=32::S.putB bl (b::l)) a2 a3;rw[qrk f c (zzi a1 (qql ha) (by omega)) n1 n2,zas,List.drop_left];cases f with
    | zero=>omega
    | succ f =>
     rw[zpr];obtain⟨q,q1,q2⟩:=ih f (c+(za a.2.1).length+1) (by omega);rw[q1];exact⟨_,rfl,by simp only[S.pk,S.kinds,ga] at q2 ⊢;rw[q2]⟩
   | false =>
    rw[hbl',xe] at hf;rw[xe];obtain⟨z,hz⟩:=zz0 bl b l;have ht:=zg7 ha hb (hbl a b hbl');have h1:S.tok (za a.2.1++S.putB bl (b::l))=((za a.2.1).length,a.1,0,0):=by
     refine zl3 ht (qql ha) (by omega) (by rw[jca,jca]) (by rw[xp];omega) (.inr ?_)
     grind
    obtain⟨n1,n2⟩:=qi5 (z:=S.putB bl (b::l)) a2 a3;rw[qrk f c h1 n1 n2,zas,List.drop_left];obtain⟨q,q1,q2⟩:=ih f (c+(za a.2.1).length) (by omega);rw[q1];exact⟨_,rfl,by simp only[S.pk,S.kinds,ga] at q2 ⊢;rw[q2]⟩
def qtg(bl:zb->zb->Bool):Oq zb->Lz zb->Nat
 | some a,b::_=>cond (bl a b) 1 0
 | _,_=>0
theorem qzm(bl:zb->zb->Bool)(a:zb)(l:Lz zb):(S.putB bl (a::l)).length=a.2.1.size+qtg bl (iz a) l+(S.putB bl l).length:=by
 cases l with
 | nil=>exact zt a.2.1
 | cons b l =>
  rw[ny,xp,zt];show _=a.2.1.size+cond (bl a b) 1 0+_;cases bl a b with
  | true=>simp only[xa,xw];omega
  | false=>simp only[xe];omega
theorem zus{r:Lz Int}(hbs:∀b∈r,0<=b/\b<256)(h0:(S.tok r).2.2.1=0)(h6:¬(S.tok r).2.1=6):S.shape (zq (r.take (S.tok r).1))=((S.tok r).2.1,0):=by
 unfold S.tok at h0 h6 ⊢;split at h0
 ·rename_i e;rw[xx e] at h6;cases f:(S.noteGo (r.drop 2) 2).1 with
  | true=>rw[f] at h6;exact absurd rfl h6
  | false=>rw[f] at h0;exact absurd (show (2:Int)=0 from h0) (by decide)
 ·rename_i e;rw[xr e];split at h0
  ·rename_i d;rw[xx d];exact Prod.ext rfl h0
  ·rename_i d;rw[xr d];split at h0
   ·exact absurd (show (2:Int)=0 from h0) (by decide)
   ·rename_i c;rw[xr c];rcases n9 r with a|⟨a,g,_⟩
    ·rw[a] at c;exact absurd rfl c
    ·show S.shape (zq (r.take (S.signL r).size))=(5,0);rw[<- g,yc];exact zo1 a
theorem qok:∀(f:Nat) (r:Lz Int) (c:Nat),(∀b∈r,0<=b/\b<256)->∀p∈(S.pcs f r c).1,¬p.1=6->S.shape p.2.1=(p.1,0)
 | 0,_,_,_,p,hp,_=>by cases hp
 | f+1,[],_,_,p,hp,_=>by cases hp
 | f+1,b::r,c,hbs,p,hp,h6=>by
  have hpc:S.pcs (f+1) (b::r) c=if b=32 then S.pcs f r (c+1) else if (S.tok (b::r)).2.2.1=0 then (((S.tok (b::r)).2.1,zq ((b::r).take (S.tok (b::r)).1),c)::(S.pcs f ((b::r).drop (S.tok (b::r)).1) (c+(S.tok (b::r)).1)).1,(S.pcs f ((b::r).drop (S.tok (b::r)).1) (c+(S.tok (b::r)).1)).2) else ([],iz (c+(S.tok (b::r)).2.2.2,(S.tok (b::r)).2.2.1)):=rfl
  rw[hpc] at hp;split at hp
  ·exact qok f r _ (fun d hd=>hbs d (xv _ hd)) p hp h6
  split at hp
  ·rename_i h0;rcases po.1 hp with rfl|hp
   ·exact zus hbs h0 h6
   ·exact qok f _ _ (fun d hd=>hbs d (ja0 hd)) p hp h6
  ·cases hp
theorem qtz:∀(ls:Lz (Lz Int)) (n:Int) (t:zb),t∈(S.readL ls n).1->∃x∈ls,∃p∈(S.line x).1,t.1=p.1/\t.2.1=p.2.1
 | [],n,t,h=>by cases h
 | x::ls,n,t,h=>by
  rw[t8] at h;split at h
  ·cases h
  split at h
  ·rcases p4.1 h with h|h
   ·unfold S.at_ at h;obtain⟨p,hp,rfl⟩:=dh.1 h;exact⟨x,x8,p,hp,rfl,rfl⟩
   ·obtain⟨y,hy,q⟩:=qtz ls _ t h;exact⟨y,xv _ hy,q⟩
  ·obtain⟨y,hy,q⟩:=qtz ls _ t h;exact⟨y,xv _ hy,q⟩
theorem zgz(s:Bq):∀t∈(S.readG s).1,S.isTok t=i7:=by
 intro t a;unfold S.readG S.lexed at a;split at a
 ·exact(jat.1 a).2
 ·cases a
theorem zio(s:Bq):∀t∈(S.readG s).1,S.right t=i7:=by
 intro t a;have c:=zgz s t a;unfold S.readG S.lexed at a;split at a
 ·obtain⟨x,e,p,f,d,h⟩:=qtz _ _ t (jat.1 a).1;have c:(!decide (t.1=6))=i7:=c;rw[dt,rj,d] at c;have:=qok _ x 1 (fun b g=>ce (qgu _ x b e g).1) p f c;unfold S.right;rw[h,this,d];simp
 ·cases a
theorem q25(n:Int)(q:Lz (Int × Bq × Nat)):(S.at_ n q).filter S.isTok=S.at_ n (q.filter S.plain):=by
 unfold S.at_;rw[List.filter_map];rfl
theorem qxa(n:Int)(q:Lz (Int × Bq × Nat)):S.kinds (S.at_ n q)=S.pk q:=by
 unfold S.at_ S.kinds S.pk;rw[jbx];rfl
theorem zn3{s:Bq}{r:Lz Int}(hs:S.splitL (za s)=[r]):(∀c e,(S.line r).2=iz (c,e)->S.readG s=([],[],(1,we c),e))/\((S.line r).2=i6->(S.readG s).1=S.at_ 1 ((S.line r).1.filter S.plain)/\(S.readG s).2.2=((0,0),0)):=by
 have e:S.readL [r] 1=(match (S.line r).2 with
  | some (c,e)=>([],(1,we c),e)
  | none=>(S.at_ 1 (S.line r).1++[],(0,0),0)):=t8 r [] 1
 unfold S.readG;rw[hs,e];constructor
 ·intro c a h;rw[h];unfold S.lexed;rw[xr (qae _ _ _ _ h)]
 ·intro h;rw[h];unfold S.lexed;rw[xx rfl,gz,q25];exact⟨rfl,rfl⟩
theorem qr8(bl:zb->zb->Bool):∀(l:Lz zb),(∀t∈l,S.right t=i7)->∀b∈S.putB bl l,(0<=b/\b<256)/\¬b=10
 | [],_,b,hb=>by cases hb
 | [a],hr,b,hb=>⟨ce hb,((bt (ye (hr a x8))).2.2 b hb).1⟩
 | a::c::l,hr,b,hb=>by
  have ih:=qr8 bl (c::l) fun t ht=>hr t (xv _ ht);rw[ny] at hb;rcases p4.1 hb with hb|hb
  ·exact⟨ce hb,((bt (ye (hr a x8))).2.2 b hb).1⟩
  ·cases h:bl a c with
   | true =>
    rw[h,xa] at hb;rcases po.1 hb with rfl|hb
    ·exact⟨by decide,by decide⟩
    ·exact ih b hb
   | false =>
    rw[h,xe] at hb;exact ih b hb
def putS(bl:zb->zb->Bool)(l:Lz zb):Bq:=zq (S.putB bl l)
theorem q3d{bl:zb->zb->Bool}{l:Lz zb}(hr:∀t∈l,S.right t=i7):za (putS bl l)=S.putB bl l:=qmf fun b a=>(qr8 bl l hr b a).1
theorem zgr{bl:zb->zb->Bool}{l:Lz zb}(hr:∀t∈l,S.right t=i7):S.splitL (za (putS bl l))=[S.putB bl l]:=by
 rw[q3d hr];exact zah fun b a=>(qr8 bl l hr b a).2
theorem q8w{bl:zb->zb->Bool}{l:Lz zb}(hr:∀t∈l,S.right t=i7):(putS bl l).size=(S.putB bl l).length:=by rw[<- zt,q3d hr]
theorem zb6(bl:zb->zb->Bool)(hbl:∀a b,bl a b=eb->S.needs a b=eb){l:Lz zb}(hr:∀t∈l,S.right t=i7):(S.readG (putS bl l)).2.2=((0,0),0)/\S.kinds (S.readG (putS bl l)).1=S.kinds l:=by
 obtain⟨q,q1,c⟩:=q4w bl hbl l hr ((S.putB bl l).length+1) 1 (dy _);have d:S.line (S.putB bl l)=(q,i6):=q1;obtain⟨j,i⟩:=(zn3 (zgr hr)).2 (by rw[d]);refine⟨i,?_⟩;rw[j,qxa,d];have h:q.filter S.plain=q:=by
  refine List.filter_eq_self.2 fun x f=>?_;have:(x.1,x.2.1)∈S.kinds l:=by rw[<- c];exact dh.2 ⟨x,f,rfl⟩
  obtain⟨t,g,e⟩:=dh.1 this;unfold S.plain;rw[<- show t.1=x.1 from xy Prod.fst e,xq (qql (hr t g))];rfl
 simp only[h];exact c
theorem zwf(lf:Nat)(t:zb):qne lf t=iz (S.right t,()):=by
 simp only[qne,q3k,S.right];by_cases b:(S.shape t.2.1).2=0
 ·rw[qep (show (S.shape t.2.1).2=we 0 from b),xa,xt b];by_cases a:(S.shape t.2.1).1=t.1
  ·have c:¬t.1=we 6:=by rw[<- a];exact qt7 _
   rw[qep a,xa,xt a,sg c];rfl
  ·rw[sg a,xe,xq a];rfl
 ·rw[sg (show ¬(S.shape t.2.1).2=we 0 from b),xe,xq b];rfl
theorem qyr:Con oa zq5 qon:=zui ⟨qkq,trivial⟩ fun x y a h=>⟨0,(zwf 0 x.1).trans h⟩
theorem zfq(a b:Lz zb)(ha:a.length<LF):Fz39 LF a b=iz ((S.sameK a b,()),()):=by
 simp only[Fz39,qss,qom];have n:∀l:Lz zb,(S.kinds l).length=l.length:=fun l=>gt _;by_cases f:a.length=b.length
 ·rw[xt f,gd,xe];refine range0 (σ:=Unit) (R:=kw) a (fun i _=>i) (fun i _=>(S.kinds a).take i=(S.kinds b).take i) (fun _ _ _=>iz ((S.sameK a b,()),())) ha (fun K q p=>?_) (fun K i v m q p r h=>?_) () rfl
  ·simp only[qjp,jt,xe];have:S.kinds a=S.kinds b:=by
    grind
   show iz ((i7,()),())=iz ((decide (S.kinds a=S.kinds b),()),())
   grind
  ·obtain⟨w,o⟩:∃w,b[i]?=iz w:=⟨_,xc (by have:=r.lt;omega)⟩;have s:jget b (we i)=iz w:=bm.trans o;simp only[qjp,r.ilt,r.get,s,r.next,xa,bd];have j:(S.kinds a)[i]?=iz (v.1,v.2.1):=by unfold S.kinds;rw[ru,r.get?];rfl
   have g:(S.kinds b)[i]?=iz (w.1,w.2.1):=by unfold S.kinds;rw[ru,o];rfl
   have c:=zxu (a:=S.kinds a) (b:=S.kinds b) j g p;have t:¬(v.1,v.2.1)=(w.1,w.2.1)->iz ((eb,()),())=iz ((S.sameK a b,()),()):=fun e=>by
    have:¬S.kinds a=S.kinds b:=fun d=>e (c.1 (by rw[d]));show iz ((eb,()),())=iz ((decide (S.kinds a=S.kinds b),()),())
    grind
   by_cases k:v.1=w.1
   ·rw[qep k,xa];by_cases d:v.2.1=w.2.1
    ·rw[show keqS v.2.1 w.2.1=i7 from xt d,gd,xe];exact h () (c.2 (by rw[k,d]))
    ·rw[show keqS v.2.1 w.2.1=eb from xq d,gh,xa]
     grind
   ·rw[sg k,xe]
    grind
 ·rw[xq f,gh,xa];have:¬S.kinds a=S.kinds b:=fun e=>f (by rw[<- n a,e,n b]);show iz ((eb,()),())=iz ((decide (S.kinds a=S.kinds b),()),())
  grind
theorem zhs:ConR oa zjh qmq:=zdb trivial fun x y a h=>⟨LF,(zfq x.1 x.2.1 (zfb a.1.1)).trans h⟩
theorem zs1(l:Lz (Lz zb))(hl:l.length<LF)(hf:l.flatten.length<=1000000000):Fz40 LF l=iz (l.flatten,()):=by
 have d:qgy LF l LF (we 0,[])=iz ([]++l.flatten,()):=by
  refine range0 (σ:=Lz zb) (R:=wb) l (fun i q=>(i,q)) (fun i q=>q++(l.drop i).flatten=l.flatten) (fun a i q=>iz (q++a.flatten,())) hl (fun K q c=>?_) (fun K i v a q c r h=>?_) [] (by simp)
  ·simp only[qm9,jt,xe]
   grind
  ·rw[r.drop,List.flatten_cons] at c;have b:=xy oq c;rw[xp,xp] at b;have e:og (o7 (o5 q.length v.length) 40) 140737488355328=i7:=x7 (by show (q.length+v.length)*40<=_;omega);simp only[qm9,r.ilt,r.get,r.next,xa,e,bd];refine(h (q++v) (by rw[r.tail,gq];exact c)).trans ?_
   grind
 exact d
theorem zrf{l:Lz (Lz zb)}(h:l.length*24<=140737488355328):l.length<LF:=by unfold LF;omega
theorem zj1:Con oa zm1 qw7:=za5 trivial fun x y a h=>⟨LF,by
 obtain⟨c,b⟩:=vn (show cond (og (x.1.flatten).length 1000000000) (iz (x.1.flatten,())) i6=iz y from h);exact(zs1 x.1 (zrf a.1.1) (xk c)).trans (xy iz b)⟩
theorem ztb(s:Bq):S.readX S.wTok [s] 1=match (S.line (za s)).2 with
  | some (c,e)=>([],(1,we c),e)
  | none=>(S.at_ 1 ((S.line (za s)).1.filter S.plain),(0,0),0):=by
 have e:S.readL [za s] 1=(match (S.line (za s)).2 with
  | some (c,e)=>([],(1,we c),e)
  | none=>(S.at_ 1 (S.line (za s)).1++[],(0,0),0)):=t8 (za s) [] 1
 unfold S.readX;rw[show [s].map za=[za s] from rfl,e];cases (S.line (za s)).2 with
 | some x=>rfl
 | none =>
  simp only[gz];rw[show (fun t:zb=>S.wTok t.1)=S.isTok from rfl,q25]
theorem znr(lf:Nat)(a b:zb)(ha:S.right a=i7)(hb:S.right b=i7)(sa:S.small a=i7)(sb:S.small b=i7):qit lf a b=iz (S.needs a b,()):=by
 have q:a.2.1.size<=400000:=xk sa;have p:b.2.1.size<=400000:=xk sb;have j:og (Nat.succ (o5 a.2.1.size b.2.1.size)) 9223372036854775808=i7:=x7 (by show a.2.1.size+b.2.1.size+1<=_;omega);have d:za (mn a.2.1 b.2.1)=za a.2.1++za b.2.1:=zlq _ _;have f:(mn a.2.1 b.2.1).size=a.2.1.size+b.2.1.size:=by rw[<- zt,d,xp,zt,zt]
 obtain⟨_,_,o⟩:=bt (ye ha);obtain⟨_,_,n⟩:=bt (ye hb);have g:S.okL [mn a.2.1 b.2.1] 1=i7:=by
  unfold S.okL;simp only[xf,du,xz,dt,rj];refine⟨x7 (by simp),fun t i=>?_,by decide,by decide⟩;rw[gn.1 i,d,f];exact⟨x7 (by omega),qwg (fun c h=>(o c h).1) fun c h=>(n c h).1⟩
 have m:we 1=(1:Int):=rfl;simp only[qit,qy5,bd,j,xa,m,g,ztb,d,S.needs];cases k:(S.line (za a.2.1++za b.2.1)).2 with
 | some x =>
  obtain⟨c,e⟩:=x;have l:¬e=0:=qae _ _ _ _ k;simp only;rw[sg (show ¬e=we 0 from l)];rfl
 | none =>
  simp only;rw[qep (show (0:Int)=we 0 from rfl),gd,xe];unfold S.sameK;rw[qxa];rfl
theorem q6u:Con oa zpv qk8:=by
 have c:=zuq (g:=qk8.f) ⟨zj1,trivial⟩ zhs fun x y d h=>⟨0,by
  obtain⟨a,b⟩:=vn (show cond ((S.right x.1&&S.right x.2.1)&&(S.small x.1&&S.small x.2.1)) (iz (S.needs x.1 x.2.1,())) i6=iz y from h);simp only[xf] at a;exact(znr 0 x.1 x.2.1 a.1.1 a.1.2 a.2.1 a.2.2).trans (xy iz b)⟩
 exact c
def qhc:Nat->Oq Nm:=fun k=>cond (od k 7) (iz ⟨[0,1,6,14,15,16],[],[],[],[],0,0,eb⟩) (cond (od k 999999) (iz ⟨[],[],[],[],[],0,0,eb⟩) i6)
def qe7:Nat->Bool:=fun k=>cond (od k 7) i7 (eb)
def qsb:=qe7
abbrev ky:Type:=(Bq × Int × Unit) × Unit
def qu1:Lz (Nat × Sm):=[(175,qon),(116,qk8)]
def qrp:Lz (Nat × Hx):=[(282,qy4 zd),(283,ccHx),(179,bsHx)]
def qo6(R:Type)(lf:Nat):ClK R:=zn oa ttT.get ftT.get (fun _ _=>i6) (smL qu1) (hxL qrp) lf 20 R
abbrev ztq:Nat:=93
def qbw(x1:(Lz zb))(p:Int × (Lz Int)):NRes:=(NRes.mk (.node (iz (IV.lst zd x1)) (.node (iz (IV.fn 94 [])) (.node i6 (.node i6 (.node (iz (IV.int .i64 (we x1.length))) .leaf .leaf) .leaf) .leaf) .leaf) (.node i6 (.node i6 (.node i6 (.node (iz (IV.int .i64 p.1)) .leaf .leaf) .leaf) .leaf) (.node (iz (IV.ptr 0 0)) .leaf (.node (iz (IV.lst zd x1)) .leaf .leaf)))) (IS.mk (.node (iz (IObj.bld 1)) (.node (iz (IObj.arr (TC.int .u8) p.2)) .leaf .leaf) .leaf) 2) [] 0)
def qpb(lf:Nat)(x1:(Lz zb))(L7:(Int × (Lz Int))->Oq ky):Oq ky:=(cond (iltI (we 6000) (we x1.length)) (iz (((S.lit []),((we 3),())),())) (bd (idxO (fun v0=>(iz (Bool.not (S.right v0)))) x1 0) fun v1=>(cond (Bool.not (iltI v1 (we 0))) (iz (((S.lit []),((we 1),())),())) (L7 ((we 0),[])))))
def qhk(lf:Nat)(x1:(Lz zb))(L7:(Int × (Lz Int))->Oq ky)(p:Int × (Lz Int)):Oq ky:=(cond (iltI p.1 (we x1.length)) (bd (jget x1 p.1) fun v0=>(cond (iltI (we 0) p.1) (bd (jget x1 (IntKind.i64.wrap (fq p.1 (we 1)))) fun v1=>(cond (og (o7 (o5 p.2.length 1) 1) 140737488355328) (cond (og (o7 (o5 (oq (oz p.2 [(we 32)])) (oq (za v0.2.1))) 1) 140737488355328) (L7 ((IntKind.i64.wrap (oe p.1 (we 1))),(oz (oz p.2 [(we 32)]) (za v0.2.1)))) i6) i6)) (cond (og (o7 (o5 p.2.length (oq (za v0.2.1))) 1) 140737488355328) (L7 ((IntKind.i64.wrap (oe p.1 (we 1))),(oz p.2 (za v0.2.1)))) i6))) (cond (iltI (we 20000) (we p.2.length)) (iz (((S.lit []),((we 3),())),())) (iz (((zq p.2),((we 0),())),()))))
abbrev gz41:Type:=ElP [.dat (.list zd),.fn 94]->Oq ky
abbrev sz41(g:gz41):SmR:=⟨[.dat (.list zd),.fn 94],[(eb,.str),(eb,(.int .i64))],g⟩
abbrev Ez41(g:gz41)(J:JT ky)(lf:Nat)(x1:(Lz zb)):=zm oa ttT.get qhc (mP [.dat (.list zd),.fn 94]) fi93.nt (qo6 _ lf) lf qe7 J fi93.body [] (zk (ze [.dat (.list zd),.fn 94] idN 0 (x1,())) 0 .leaf) (Sc [.dat (.list zd),.fn 94] (x1,())) [] (z6 ttT.get fi93 (sz41 g))
abbrev Bz41(g:gz41)(J:JT ky)(lf k:Nat)(ms:Lz Nat)(q:NRes):=qj oa ttT.get qhc (mP [.dat (.list zd),.fn 94]) fi93.nt (qo6 _ lf) lf qe7 J k fi93.body [] ms q (z6 ttT.get fi93 (sz41 g))
theorem zj9(g:gz41)(J:JT ky)(lf:Nat)(x1:(Lz zb)):Ez41 g J lf x1=qpb lf x1 (fun q=>J 7 [lf] (qbw x1 q)):=by kernel_rfl
theorem zh7(g:gz41)(J:JT ky)(lf:Nat)(x1:(Lz zb))(m1:Nat)(p:Int × (Lz Int)):Bz41 g J lf 7 [m1] (qbw x1 p)=qhk lf x1 (fun q=>J 7 [m1] (qbw x1 q)) p:=by kernel_rfl
theorem qy8:(regs fi93.body).Nodup:=by decide +kernel
theorem qz4:okC qhc qe7 qsb fi93.body i6=i7:=by kernel_rfl
def Az41(g:gz41)(lf:Nat):JT ky:=atQ oa ttT.get qhc fi93 (sz41 g) (qo6 _ lf) lf qsb
def qfi(lf:Nat)(x1:(Lz zb)):Nat->(Int × (Lz Int))->Oq ky:=rounds fun K p=>qhk lf x1 K p
theorem q3n(g:gz41)(lf:Nat)(x1:(Lz zb)):∀(n:Nat) (p:Int × (Lz Int)),Az41 g lf 7 [n] (qbw x1 p)=qfi lf x1 n p
 | 0,p=>wg 7 [0] rfl _
 | n+1,p=>by
  have ih:=q3n g lf x1 n;refine(ki rfl (qg 20 _) qy8 qz4 7 [n+1] [n] rfl _).trans ((zh7 g (Az41 g lf) lf x1 n p).trans ?_);rw[(show (fun q=>Az41 g lf 7 [n] (qbw x1 q))=(fun q=>qfi lf x1 n q) from funext ih)];rfl
def Fz41(lf:Nat)(x1:(Lz zb)):Oq ky:=qpb lf x1 (fun q=>qfi lf x1 lf q)
theorem zlw(g:gz41)(lf:Nat)(x1:(Lz zb)):Ez41 g (Az41 g lf) lf x1=Fz41 lf x1:=by
  refine(zj9 g (Az41 g lf) lf x1).trans ?_;rw[(show (fun q=>Az41 g lf 7 [lf] (qbw x1 q))=(fun q=>qfi lf x1 lf q) from funext fun q=>q3n g lf x1 lf q)];rfl
theorem zwc:zv oa qrp:=⟨q9b,⟨qx5,⟨zaw,trivial⟩⟩⟩
theorem zr2{g:gz41}(hsm:SmOK oa qu1)(hg:∀(x:ElP [.dat (.list zd),.fn 94]) (y:ky),WfP [.dat (.list zd),.fn 94] x->g x=iz y->∃lf,Fz41 lf x.1=iz y):ConR oa 93 ⟨[.dat (.list zd),.fn 94],[(eb,.str),(eb,(.int .i64))],g⟩ :=
 conTR (nmf:=qhc) (sml:=qu1) (hxl:=qrp) (st:=qe7) (hd:=qsb) 20 mixed ttOK ftOK hsm zwc qzc (by kernel_rfl) (fun x=>by kernel_rfl) qy8 qz4 fun x y z b a=>by
  obtain⟨lf,h⟩:=hg x (y,z) b a;exact⟨lf,(zlw g lf x.1).trans h⟩
def qfv:Nat->Oq Nm:=fun k=>cond (od k 7) (iz ⟨[0,1,6,14,15,16],[],[],[],[],0,0,eb⟩) (cond (od k 999999) (iz ⟨[],[],[],[],[],0,0,eb⟩) i6)
def qds:Nat->Bool:=fun k=>cond (od k 7) i7 (eb)
def qu7:=qds
abbrev wj:Type:=(Bq × Int × Unit) × Unit
def qt6:Lz (Nat × Sm):=[(175,qon),(116,qk8)]
def qp8:Lz (Nat × Hx):=[(282,qy4 zd),(283,ccHx),(179,bsHx)]
def qpt(R:Type)(lf:Nat):ClK R:=zn oa ttT.get ftT.get (fun _ _=>i6) (smL qt6) (hxL qp8) lf 20 R
abbrev zbo:Nat:=93
def qcs(x1:(Lz zb))(p:Int × (Lz Int)):NRes:=(NRes.mk (.node (iz (IV.lst zd x1)) (.node (iz (IV.fn 116 [])) (.node i6 (.node i6 (.node (iz (IV.int .i64 (we x1.length))) .leaf .leaf) .leaf) .leaf) .leaf) (.node i6 (.node i6 (.node i6 (.node (iz (IV.int .i64 p.1)) .leaf .leaf) .leaf) .leaf) (.node (iz (IV.ptr 0 0)) .leaf (.node (iz (IV.lst zd x1)) .leaf .leaf)))) (IS.mk (.node (iz (IObj.bld 1)) (.node (iz (IObj.arr (TC.int .u8) p.2)) .leaf .leaf) .leaf) 2) [] 0)
def qwl(lf:Nat)(x1:(Lz zb))(L7:(Int × (Lz Int))->Oq wj):Oq wj:=(cond (iltI (we 6000) (we x1.length)) (iz (((S.lit []),((we 3),())),())) (bd (idxO (fun v0=>(iz (Bool.not (S.right v0)))) x1 0) fun v1=>(cond (Bool.not (iltI v1 (we 0))) (iz (((S.lit []),((we 1),())),())) (L7 ((we 0),[])))))
def qlo(lf:Nat)(x1:(Lz zb))(L7:(Int × (Lz Int))->Oq wj)(p:Int × (Lz Int)):Oq wj:=(cond (iltI p.1 (we x1.length)) (bd (jget x1 p.1) fun v0=>(cond (iltI (we 0) p.1) (bd (jget x1 (IntKind.i64.wrap (fq p.1 (we 1)))) fun v1=>(bd (cond (Bool.and (Bool.and (S.right v1) (S.right v0)) (Bool.and (S.small v1) (S.small v0))) (iz ((S.needs v1 v0),())) i6) fun v2=>(cond v2.1 (cond (og (o7 (o5 p.2.length 1) 1) 140737488355328) (cond (og (o7 (o5 (oq (oz p.2 [(we 32)])) (oq (za v0.2.1))) 1) 140737488355328) (L7 ((IntKind.i64.wrap (oe p.1 (we 1))),(oz (oz p.2 [(we 32)]) (za v0.2.1)))) i6) i6) (cond (og (o7 (o5 p.2.length (oq (za v0.2.1))) 1) 140737488355328) (L7 ((IntKind.i64.wrap (oe p.1 (we 1))),(oz p.2 (za v0.2.1)))) i6)))) (cond (og (o7 (o5 p.2.length (oq (za v0.2.1))) 1) 140737488355328) (L7 ((IntKind.i64.wrap (oe p.1 (we 1))),(oz p.2 (za v0.2.1)))) i6))) (cond (iltI (we 20000) (we p.2.length)) (iz (((S.lit []),((we 3),())),())) (iz (((zq p.2),((we 0),())),()))))
abbrev gz42:Type:=ElP [.dat (.list zd),.fn 116]->Oq wj
abbrev sz42(g:gz42):SmR:=⟨[.dat (.list zd),.fn 116],[(eb,.str),(eb,(.int .i64))],g⟩
abbrev Ez42(g:gz42)(J:JT wj)(lf:Nat)(x1:(Lz zb)):=zm oa ttT.get qfv (mP [.dat (.list zd),.fn 116]) fi93.nt (qpt _ lf) lf qds J fi93.body [] (zk (ze [.dat (.list zd),.fn 116] idN 0 (x1,())) 0 .leaf) (Sc [.dat (.list zd),.fn 116] (x1,())) [] (z6 ttT.get fi93 (sz42 g))
abbrev Bz42(g:gz42)(J:JT wj)(lf k:Nat)(ms:Lz Nat)(q:NRes):=qj oa ttT.get qfv (mP [.dat (.list zd),.fn 116]) fi93.nt (qpt _ lf) lf qds J k fi93.body [] ms q (z6 ttT.get fi93 (sz42 g))
theorem zly(g:gz42)(J:JT wj)(lf:Nat)(x1:(Lz zb)):Ez42 g J lf x1=qwl lf x1 (fun q=>J 7 [lf] (qcs x1 q)):=by kernel_rfl
theorem zn4(g:gz42)(J:JT wj)(lf:Nat)(x1:(Lz zb))(m1:Nat)(p:Int × (Lz Int)):Bz42 g J lf 7 [m1] (qcs x1 p)=qlo lf x1 (fun q=>J 7 [m1] (qcs x1 q)) p:=by kernel_rfl
theorem q34:(regs fi93.body).Nodup:=by decide +kernel
theorem q8x:okC qfv qds qu7 fi93.body i6=i7:=by kernel_rfl
def Az42(g:gz42)(lf:Nat):JT wj:=atQ oa ttT.get qfv fi93 (sz42 g) (qpt _ lf) lf qu7
def qfh(lf:Nat)(x1:(Lz zb)):Nat->(Int × (Lz Int))->Oq wj:=rounds fun K p=>qlo lf x1 K p
theorem q9f(g:gz42)(lf:Nat)(x1:(Lz zb)):∀(n:Nat) (p:Int × (Lz Int)),Az42 g lf 7 [n] (qcs x1 p)=qfh lf x1 n p
 | 0,p=>wg 7 [0] rfl _
 | n+1,p=>by
  have ih:=q9f g lf x1 n;refine(ki rfl (qg 20 _) q34 q8x 7 [n+1] [n] rfl _).trans ((zn4 g (Az42 g lf) lf x1 n p).trans ?_);rw[(show (fun q=>Az42 g lf 7 [n] (qcs x1 q))=(fun q=>qfh lf x1 n q) from funext ih)];rfl
def Fz42(lf:Nat)(x1:(Lz zb)):Oq wj:=qwl lf x1 (fun q=>qfh lf x1 lf q)
theorem zbm(g:gz42)(lf:Nat)(x1:(Lz zb)):Ez42 g (Az42 g lf) lf x1=Fz42 lf x1:=by
  refine(zly g (Az42 g lf) lf x1).trans ?_;rw[(show (fun q=>Az42 g lf 7 [lf] (qcs x1 q))=(fun q=>qfh lf x1 lf q) from funext fun q=>q9f g lf x1 lf q)];rfl
theorem zmb:zv oa qp8:=⟨q9b,⟨qx5,⟨zaw,trivial⟩⟩⟩
theorem ztg{g:gz42}(hsm:SmOK oa qt6)(hg:∀(x:ElP [.dat (.list zd),.fn 116]) (y:wj),WfP [.dat (.list zd),.fn 116] x->g x=iz y->∃lf,Fz42 lf x.1=iz y):ConR oa 93 ⟨[.dat (.list zd),.fn 116],[(eb,.str),(eb,(.int .i64))],g⟩ :=
 conTR (nmf:=qfv) (sml:=qt6) (hxl:=qp8) (st:=qds) (hd:=qu7) 20 mixed ttOK ftOK hsm zmb qzc (by kernel_rfl) (fun x=>by kernel_rfl) q34 q8x fun x y z b a=>by
  obtain⟨lf,h⟩:=hg x (y,z) b a;exact⟨lf,(zbm g lf x.1).trans h⟩
def sepB(bl:zb->zb->Bool)(l:Lz zb)(v:zb):Lz Int:=match l.getLast? with
 | none=>[]
 | some p=>cond (bl p v) [32] []
theorem qto(bl:zb->zb->Bool)(v:zb):∀l:Lz zb,S.putB bl (l++[v])=S.putB bl l++(sepB bl l v++za v.2.1)
 | []=>rfl
 | [a]=>by
  show S.putB bl [a,v]=za a.2.1++(cond (bl a v) [32] []++za v.2.1);rw[ny];cases bl a v<;>rfl
 | a::b::l=>by
  have ih:=qto bl v (b::l);have hs:sepB bl (a::b::l) v=sepB bl (b::l) v:=by unfold sepB;rw[List.getLast?_cons_cons]
  rw[rn,rn,ny,ny,hs,<- rn,ih]
  grind
theorem qtp(bl:zb->zb->Bool):∀l:Lz zb,(∀t∈l,t.2.1.size<=400000)->(S.putB bl l).length<=400001*l.length
 | [],_=>xl _
 | [a],h=>by
  show (za a.2.1).length<=400001*1;rw[zt]
  grind
 | a::b::l,h=>by
  have ih:=qtp bl (b::l) fun t ht=>h t (xv _ ht);have:=h a x8;rw[ny,xp,zt]
  grind
theorem q1q{l:Lz zb}{i:Nat}{p:zb}(h:l[i]?=iz p):(l.take (i+1)).getLast?=iz p:=by
 grind
theorem q3r{l:Lz zb}(h:S.smallL l=i7):∀t∈l,t.2.1.size<=400000:=fun t a=>xk (xz.1 h t a)
theorem zee(l:Lz zb)(hl:l.length<=6000)(hs:S.smallL l=i7)(hr:∀t∈l,S.right t=i7):qfi LF l LF (we 0,[])=if 20000<(S.putB S.always l).length then iz ((S.lit [],3,()),()) else iz ((zq (S.putB S.always l),0,()),()):=by
 have e:=q3r hs;refine range0 (σ:=Lz Int) (R:=ky) l (fun i q=>(i,q)) (fun i q=>q=S.putB S.always (l.take i)) (fun _ _ _=>if 20000<(S.putB S.always l).length then iz ((S.lit [],3,()),()) else iz ((zq (S.putB S.always l),0,()),())) (by unfold LF;omega) (fun K q d=>?_) (fun K i v k q d r h=>?_) [] rfl
 ·rw[jba] at d;simp only[qhk,jt,xe,yq];rw[<- d];by_cases c:20000<q.length
  ·rw[xt c,xa,xx c];rfl
  ·rw[xq c,xe,xr c];rfl
 ·have B:=r.lt;have A:=e v r.mem;have x:q.length<=2400100000:=by
   have:=qtp S.always (l.take i) fun t w=>e t (jaz w);rw[jab] at this;rw[d];omega
  have z:=zt v.2.1;have u:og (o7 (o5 q.length 1) 1) 140737488355328=i7:=x7 (by show (q.length+1)*1<=_;omega);have s:og (o7 (o5 (oz q [we 32]).length (za v.2.1).length) 1) 140737488355328=i7:=x7 (by
   show ((q++[we 32]).length+(za v.2.1).length)*1<=_;rw[xp];simp only[xw,rh];omega)
  have o:og (o7 (o5 q.length (za v.2.1).length) 1) 140737488355328=i7:=x7 (by show (q.length+(za v.2.1).length)*1<=_;omega);simp only[qhk,r.ilt,r.get,r.next,xa,yq,bd];have a:=qto S.always v (l.take i);rw[<- r.take] at a;cases i with
  | zero =>
   rw[show decide (0<0)=eb from rfl,xe,o,xa];refine h _ ?_;rw[a,<- d];rfl
  | succ i =>
   obtain⟨p,g⟩:∃p,l[i]?=iz p:=⟨_,xc (by omega)⟩;have m:IntKind.i64.wrap (fq (we (i+1)) (we 1))=we i:=by
    rw[show fq (we (i+1)) (we 1)=we i by show ((i+1:Nat):Int)-1=(i:Int);omega];exact qdb (n:=i) (by omega)
   have j:jget l (we i)=iz p:=bm.trans g;have b:=q1q g;have f:sepB S.always (l.take (i+1)) v=cond (S.always p v) [32] []:=by unfold sepB;rw[b]
   have y:=p7 g;rw[f] at a;rw[xt (Nat.succ_pos i),xa,m,j];simp only[bd];rw[u,xa,s,xa];refine h _ ?_;rw[a,<- d];show (q++[32])++za v.2.1=q++([32]++za v.2.1);rw[gq]
theorem zkb(l:Lz zb)(hs:S.smallL l=i7):Fz41 LF l=iz (((S.put S.always l).1,(S.put S.always l).2,()),()):=by
 have g:idxO (fun v0:zb=>(iz (Bool.not (S.right (v0.1,(v0.2.1,(v0.2.2.1,v0.2.2.2))))))) l 0=iz (Go.Jx.S.idx (fun t=>!S.right t) l):=q9u (fun t=>!S.right t) fun x _=>rfl;simp only[Fz41,qpb,yq,S.put];by_cases c:6000<l.length
 ·rw[xt c,xa,xx c];rfl
 ·rw[xq c,xe,xr c];rw[g];simp only[bd];have d:=Go.Jx.S.idx_nonneg (fun t=>!S.right t) l;by_cases a:l.any (fun t=>!S.right t)=i7
  ·rw[xx a,bq (show ¬Go.Jx.S.idx (fun t=>!S.right t) l<we 0 by have:=d.2 a;show ¬_<(0:Int);omega),gh,xa];rfl
  ·rw[xr a,sc (show Go.Jx.S.idx (fun t=>!S.right t) l<we 0 by
    refine Int.not_le.1 fun h=>a (d.1 h)),gd,xe]
   have f:∀t∈l,S.right t=i7:=fun t e=>by
    cases h:S.right t with
    | true=>rfl
    | false=>exact absurd (r6.2 ⟨t,e,by rw[h];rfl⟩) a
   refine(zee l (by omega) hs f).trans ?_;by_cases b:20000<(S.putB S.always l).length
   ·rw[xx b,xx b]
   ·rw[xr b,xr b]
theorem zto:ConR oa ztq qya:=zr2 ⟨qyr,q6u,trivial⟩ fun x y c h=>⟨LF,by
 obtain⟨b,a⟩:=vn (show cond (S.smallL x.1) (iz (((S.put S.always x.1).1,(S.put S.always x.1).2,()),())) i6=iz y from h);exact(zkb x.1 b).trans (xy iz a)⟩
theorem zpj(l:Lz zb)(hl:l.length<=6000)(hs:S.smallL l=i7)(hr:∀t∈l,S.right t=i7):qfh LF l LF (we 0,[])=if 20000<(S.putB S.needs l).length then iz ((S.lit [],3,()),()) else iz ((zq (S.putB S.needs l),0,()),()):=by
 have e:=q3r hs;refine range0 (σ:=Lz Int) (R:=wj) l (fun i q=>(i,q)) (fun i q=>q=S.putB S.needs (l.take i)) (fun _ _ _=>if 20000<(S.putB S.needs l).length then iz ((S.lit [],3,()),()) else iz ((zq (S.putB S.needs l),0,()),())) (by unfold LF;omega) (fun K q b=>?_) (fun K i v m q b r h=>?_) [] rfl
 ·rw[jba] at b;simp only[qlo,jt,xe,yq];rw[<- b];by_cases c:20000<q.length
  ·rw[xt c,xa,xx c];rfl
  ·rw[xq c,xe,xr c];rfl
 ·have G:=r.lt;have F:=e v r.mem;have z:q.length<=2400100000:=by
   have:=qtp S.needs (l.take i) fun t y=>e t (jaz y);rw[jab] at this;rw[b];omega
  have A:=zt v.2.1;have x:og (o7 (o5 q.length 1) 1) 140737488355328=i7:=x7 (by show (q.length+1)*1<=_;omega);have w:og (o7 (o5 (oz q [we 32]).length (za v.2.1).length) 1) 140737488355328=i7:=x7 (by
   show ((q++[we 32]).length+(za v.2.1).length)*1<=_;rw[xp];simp only[xw,rh];omega)
  have o:og (o7 (o5 q.length (za v.2.1).length) 1) 140737488355328=i7:=x7 (by show (q.length+(za v.2.1).length)*1<=_;omega);simp only[qlo,r.ilt,r.get,r.next,xa,yq,bd];have a:=qto S.needs v (l.take i);rw[<- r.take] at a;cases i with
  | zero =>
   rw[show decide (0<0)=eb from rfl,xe,o,xa];refine h _ ?_;rw[a,<- b];rfl
  | succ i =>
   obtain⟨p,j⟩:∃p,l[i]?=iz p:=⟨_,xc (by omega)⟩;have u:IntKind.i64.wrap (fq (we (i+1)) (we 1))=we i:=by
    rw[show fq (we (i+1)) (we 1)=we i by show ((i+1:Nat):Int)-1=(i:Int);omega];exact qdb (n:=i) (by omega)
   have k:jget l (we i)=iz p:=bm.trans j;have d:=q1q j;have f:sepB S.needs (l.take (i+1)) v=cond (S.needs p v) [32] []:=by unfold sepB;rw[d]
   have g:=p7 j;rw[f] at a;rw[xt (Nat.succ_pos i),xa,u,k];simp only[bd];have E:S.right p=i7:=hr p g;have D:S.right v=i7:=hr v r.mem;have C:S.small p=i7:=xz.1 hs p g;have B:S.small v=i7:=xz.1 hs v r.mem;rw[show S.right (p.1,(p.2.1,(p.2.2.1,p.2.2.2)))=i7 from E,show S.right (v.1,(v.2.1,(v.2.2.1,v.2.2.2)))=i7 from D,show S.small (p.1,(p.2.1,(p.2.2.1,p.2.2.2)))=i7 from C,show S.small (v.1,(v.2.1,(v.2.2.1,v.2.2.2)))=i7 from B];simp only[Bool.and_true,xa];show cond (S.needs p v) _ _=_;cases s:S.needs p v with
   | true =>
    rw[s] at a;rw[xa,x,xa,w,xa];refine h _ ?_;rw[a,<- b];show (q++[32])++za v.2.1=q++([32]++za v.2.1);rw[gq]
   | false =>
    rw[s] at a;rw[xe,o,xa];refine h _ ?_;rw[a,<- b];rfl
theorem zfx(l:Lz zb)(hs:S.smallL l=i7):Fz42 LF l=iz (((S.put S.needs l).1,(S.put S.needs l).2,()),()):=by
 have g:idxO (fun v0:zb=>(iz (Bool.not (S.right (v0.1,(v0.2.1,(v0.2.2.1,v0.2.2.2))))))) l 0=iz (Go.Jx.S.idx (fun t=>!S.right t) l):=q9u (fun t=>!S.right t) fun x _=>rfl;simp only[Fz42,qwl,yq,S.put];by_cases c:6000<l.length
 ·rw[xt c,xa,xx c];rfl
 ·rw[xq c,xe,xr c];rw[g];simp only[bd];have d:=Go.Jx.S.idx_nonneg (fun t=>!S.right t) l;by_cases a:l.any (fun t=>!S.right t)=i7
  ·rw[xx a,bq (show ¬Go.Jx.S.idx (fun t=>!S.right t) l<we 0 by have:=d.2 a;show ¬_<(0:Int);omega),gh,xa];rfl
  ·rw[xr a,sc (show Go.Jx.S.idx (fun t=>!S.right t) l<we 0 by
    refine Int.not_le.1 fun h=>a (d.1 h)),gd,xe]
   have f:∀t∈l,S.right t=i7:=fun t e=>by
    cases h:S.right t with
    | true=>rfl
    | false=>exact absurd (r6.2 ⟨t,e,by rw[h];rfl⟩) a
   refine(zpj l (by omega) hs f).trans ?_;by_cases b:20000<(S.putB S.needs l).length
   ·rw[xx b,xx b]
   ·rw[xr b,xr b]
theorem zla:ConR oa zbo qz9:=ztg ⟨qyr,q6u,trivial⟩ fun x y c h=>⟨LF,by
 obtain⟨b,a⟩:=vn (show cond (S.smallL x.1) (iz (((S.put S.needs x.1).1,(S.put S.needs x.1).2,()),())) i6=iz y from h);exact(zfx x.1 b).trans (xy iz a)⟩
abbrev qix:Type:=Bq × Int × Unit
abbrev zg2:Nat:=35
def q0s(lf:Nat)(x1:(Lz zb)):Oq qix:=(bd (cond (S.smallL x1) (iz (((S.put S.always x1).1,((S.put S.always x1).2,())),())) i6) fun v0=>(iz v0.1))
def qiw(lf:Nat)(x1:(Lz zb)):Oq qix:=q0s lf x1
theorem zu9{g:ElA [(.list zd)]->Oq qix}(hsm:SmOK oa [])(hg:∀(x:ElA [(.list zd)]) (y:qix),WfA [(.list zd)] x->g x=iz y->∃lf,qiw lf x.1=iz y):Con oa 35 ⟨[(.list zd)],[(eb,.str),(eb,(.int .i64))],g⟩ :=
 conU (fi:=fi35) (hxl:=[(93,qeb (qey 94) (hxR qya) (hxR qz9))]) (fun lf x=>qiw lf x.1) cm3 zml ⟨qhu (z8 zto) (z8 zla),trivial⟩ hsm hg
theorem zf7(lf:Nat)(l:Lz zb)(hs:S.smallL l=i7):qiw lf l=iz ((S.put S.always l).1,(S.put S.always l).2,()):=by
 simp only[qiw,q0s,bd,hs,xa]
theorem zqo:Con oa zg2 q95:=zu9 trivial fun x y c h=>⟨0,by
 obtain⟨b,a⟩:=vn (show cond (S.smallL x.1) (iz ((S.put S.always x.1).1,(S.put S.always x.1).2,())) i6=iz y from h);exact(zf7 0 x.1 b).trans (xy iz a)⟩
def qed:Nat->Oq Nm:=fun k=>cond (od k 11) (iz ⟨[1,2,5,9,12,13],[(12,(.int .i64))],[],[],[],0,0,eb⟩) (cond (od k 21) (iz ⟨[2,5,9,14,15,16,17],[],[],[],[],0,0,eb⟩) (i6))
def qf5:Nat->Bool:=fun k=>cond (od k 11) i7 (cond (od k 21) i7 (eb))
def q6p:=qf5
abbrev jb:Type:=Bool × Unit
def q7j:Lz (Nat × Sm):=[(12,qr9),(31,qor),(35,q95),(34,qx8),(16,q2x),(21,q9h)]
def q7t:Lz (Nat × Hx):=[(33,hxR qki)]
def qr4(R:Type)(lf:Nat):ClK R:=zn oa ttT.get ftT.get (nm1 6 qed) (smL q7j) (hxL q7t) lf 20 R
def qbk(x1:zc)(x2:Int)(p:(Lz zb) × Int × (Lz Int)):NRes:=(NRes.mk (.node i6 (.node (iz (IV.int .u8 x2)) .leaf (.node (iz (IV.bool i7)) (.node (iz (IV.lst zd p.1)) .leaf .leaf) (.node (iz (IV.int .i64 p.2.1)) .leaf .leaf))) (.node (iz (IV.ptr 0 0)) (.node i6 .leaf (.node (iz (IV.arr 1)) .leaf .leaf)) .leaf)) (IS.mk (.node (iz (IObj.row (ou (IV.int .i64 x1.1) (ou (IV.str x1.2.1) (ou (IV.int .i64 x1.2.2.1) (ou (IV.lst cExpr (fc (fun v72468=>(match v72468 with|.mk v72469=>v72469)) x1.2.2.2)) [])))))) (.node (iz (IObj.arr (TC.int .i64) p.2.2)) .leaf .leaf) .leaf) 2) [] 0)
def qc0(x1:zc)(x2:Int)(p:Int × (Lz zb) × Int × Int × Int):NRes:=(NRes.mk (.node i6 (.node i6 (.node i6 (.node i6 (.node (iz (IV.int .i64 p.2.2.2.2)) .leaf .leaf) .leaf) .leaf) (.node (iz (IV.bool i7)) (.node (iz (IV.lst zd p.2.1)) (.node (iz (IV.int .i64 p.1)) .leaf .leaf) .leaf) .leaf)) (.node (iz (IV.ptr 0 0)) (.node i6 (.node i6 (.node (iz (IV.int .i64 p.2.2.1)) .leaf .leaf) .leaf) .leaf) (.node i6 .leaf (.node (iz (IV.int .i64 p.2.2.2.1)) .leaf .leaf)))) (IS.mk (.node (iz (IObj.row (ou (IV.int .i64 x1.1) (ou (IV.str x1.2.1) (ou (IV.int .i64 x1.2.2.1) (ou (IV.lst cExpr (fc (fun v72470=>(match v72470 with|.mk v72471=>v72471)) x1.2.2.2)) [])))))) .leaf .leaf) 1) [] 0)
def qse(lf:Nat)(x1:zc)(x2:Int)(L11:((Lz zb) × Int × (Lz Int))->Oq jb):Oq jb:=(bd (S.lExprsR (x1.1,(x1.2.1,(x1.2.2.1,(fc (fun v0=>(RExpr.mk v0)) (fc (fun v1=>(match v1 with|.mk v2=>v2)) x1.2.2.2))))) (we 0) (we 0)) fun v3=>(cond (Bool.not v3.1.1) (iz (i7,())) (bd (S.exprText (x1.1,(x1.2.1,(x1.2.2.1,(fc (fun v4=>(RExpr.mk v4)) (fc (fun v5=>(match v5 with|.mk v6=>v6)) x1.2.2.2)))))) fun v7=>(bd (cond (S.fits v7.1) (iz ((S.tokens v7.1).1,((S.tokens v7.1).2.2.1,((S.tokens v7.1).2.2.2,())))) i6) fun v8=>(cond (Bool.not (ieqI v7.2.1 (we 0))) (iz (i7,())) (cond (Bool.not (ieqI v8.2.2.1 (we 0))) (iz (i7,())) (L11 (v8.1,(we 0),[]))))))))
def qsk(lf:Nat)(x1:zc)(x2:Int)(L11:((Lz zb) × Int × (Lz Int))->Oq jb)(L21:(Int × (Lz zb) × Int × Int × Int)->Oq jb)(p:(Lz zb) × Int × (Lz Int)):Oq jb:=(cond (iltI p.2.1 (we p.1.length)) (bd (jget p.1 p.2.1) fun v0=>(cond (keqS v0.2.1 (S.lit [40])) (cond (ieqI p.2.1 (we 0)) (cond (og (o7 (o5 p.2.2.length 1) 8) 140737488355328) (L11 (p.1,(IntKind.i64.wrap (oe p.2.1 (we 1))),(oz p.2.2 [p.2.1]))) i6) (bd (jget p.1 (IntKind.i64.wrap (fq p.2.1 (we 1)))) fun v26=>(cond (Bool.not (ieqI v26.1 (we 1))) (cond (og (o7 (o5 p.2.2.length 1) 8) 140737488355328) (L11 (p.1,(IntKind.i64.wrap (oe p.2.1 (we 1))),(oz p.2.2 [p.2.1]))) i6) (L11 (p.1,(IntKind.i64.wrap (oe p.2.1 (we 1))),p.2.2))))) (L11 (p.1,(IntKind.i64.wrap (oe p.2.1 (we 1))),p.2.2)))) (cond (ieqI (we p.2.2.length) (we 0)) (iz (i7,())) (cond (ieqI (we p.2.2.length) (we 0)) i6 (bd (jget p.2.2 (Int.tmod (IntKind.i64.wrap x2) (we p.2.2.length))) fun v27=>(bd (av p.2.2 (f7 (Int.tmod (IntKind.i64.wrap x2) (we p.2.2.length)))) fun v28=>(L21 (v28,p.1,v28,v28,(we 0))))))))
def qnq(lf:Nat)(x1:zc)(x2:Int)(L21:(Int × (Lz zb) × Int × Int × Int)->Oq jb)(p:Int × (Lz zb) × Int × Int × Int):Oq jb:=(cond (iltI p.1 (we p.2.1.length)) (bd (jget p.2.1 p.1) fun v0=>(cond (keqS v0.2.1 (S.lit [40])) (bd (jget p.2.1 p.1) fun v1=>(cond (keqS v1.2.1 (S.lit [41])) (cond (ieqI (IntKind.i64.wrap (fq (IntKind.i64.wrap (oe p.2.2.2.2 (we 1))) (we 1))) (we 0)) (cond (lchk (we 0) p.2.2.2.1 (we p.2.1.length) (we p.2.1.length)) (cond (og (o7 (o5 0 (oq (lsub p.2.1 (we 0) p.2.2.2.1))) 40) 140737488355328) (cond (lchk (IntKind.i64.wrap (oe p.2.2.2.1 (we 1))) p.1 (we p.2.1.length) (we p.2.1.length)) (cond (og (o7 (o5 (oq (lsub p.2.1 (we 0) p.2.2.2.1)) (oq (lsub p.2.1 (IntKind.i64.wrap (oe p.2.2.2.1 (we 1))) p.1))) 40) 140737488355328) (cond (lchk (IntKind.i64.wrap (oe p.1 (we 1))) (we p.2.1.length) (we p.2.1.length) (we p.2.1.length)) (cond (og (o7 (o5 (oq (oz (lsub p.2.1 (we 0) p.2.2.2.1) (lsub p.2.1 (IntKind.i64.wrap (oe p.2.2.2.1 (we 1))) p.1))) (oq (lsub p.2.1 (IntKind.i64.wrap (oe p.1 (we 1))) (we p.2.1.length)))) 40) 140737488355328) (bd (S.dWrite (oz (oz (lsub p.2.1 (we 0) p.2.2.2.1) (lsub p.2.1 (IntKind.i64.wrap (oe p.2.2.2.1 (we 1))) p.1)) (lsub p.2.1 (IntKind.i64.wrap (oe p.1 (we 1))) (we p.2.1.length)))) fun v2=>(bd (S.exprOf v2.1) fun v3=>(bd (S.dSameR (x1.1,(x1.2.1,(x1.2.2.1,(fc (fun v4=>(RExpr.mk v4)) (fc (fun v5=>(match v5 with|.mk v6=>v6)) x1.2.2.2))))) (v3.1.1,(v3.1.2.1,(v3.1.2.2.1,(fc (fun v7=>(RExpr.mk v7)) (fc (fun v8=>(match v8 with|.mk v9=>v9)) v3.1.2.2.2)))))) fun v10=>(cond (ieqI v2.2.1 (we 0)) (cond (iltI p.2.2.2.1 p.1) (cond (Bool.not (ieqI v3.2.2.1 (we 0))) (iz (i7,())) (iz ((Bool.not v10.1),()))) (iz (eb,()))) (iz (eb,())))))) i6) i6) i6) i6) i6) i6) (L21 ((IntKind.i64.wrap (oe p.1 (we 1))),p.2.1,p.2.2.1,p.2.2.2.1,(IntKind.i64.wrap (fq (IntKind.i64.wrap (oe p.2.2.2.2 (we 1))) (we 1)))))) (L21 ((IntKind.i64.wrap (oe p.1 (we 1))),p.2.1,p.2.2.1,p.2.2.2.1,(IntKind.i64.wrap (oe p.2.2.2.2 (we 1))))))) (bd (jget p.2.1 p.1) fun v82=>(cond (keqS v82.2.1 (S.lit [41])) (cond (ieqI (IntKind.i64.wrap (fq p.2.2.2.2 (we 1))) (we 0)) (cond (lchk (we 0) p.2.2.2.1 (we p.2.1.length) (we p.2.1.length)) (cond (og (o7 (o5 0 (oq (lsub p.2.1 (we 0) p.2.2.2.1))) 40) 140737488355328) (cond (lchk (IntKind.i64.wrap (oe p.2.2.2.1 (we 1))) p.1 (we p.2.1.length) (we p.2.1.length)) (cond (og (o7 (o5 (oq (lsub p.2.1 (we 0) p.2.2.2.1)) (oq (lsub p.2.1 (IntKind.i64.wrap (oe p.2.2.2.1 (we 1))) p.1))) 40) 140737488355328) (cond (lchk (IntKind.i64.wrap (oe p.1 (we 1))) (we p.2.1.length) (we p.2.1.length) (we p.2.1.length)) (cond (og (o7 (o5 (oq (oz (lsub p.2.1 (we 0) p.2.2.2.1) (lsub p.2.1 (IntKind.i64.wrap (oe p.2.2.2.1 (we 1))) p.1))) (oq (lsub p.2.1 (IntKind.i64.wrap (oe p.1 (we 1))) (we p.2.1.length)))) 40) 140737488355328) (bd (S.dWrite (oz (oz (lsub p.2.1 (we 0) p.2.2.2.1) (lsub p.2.1 (IntKind.i64.wrap (oe p.2.2.2.1 (we 1))) p.1)) (lsub p.2.1 (IntKind.i64.wrap (oe p.1 (we 1))) (we p.2.1.length)))) fun v83=>(bd (S.exprOf v83.1) fun v84=>(bd (S.dSameR (x1.1,(x1.2.1,(x1.2.2.1,(fc (fun v85=>(RExpr.mk v85)) (fc (fun v86=>(match v86 with|.mk v87=>v87)) x1.2.2.2))))) (v84.1.1,(v84.1.2.1,(v84.1.2.2.1,(fc (fun v88=>(RExpr.mk v88)) (fc (fun v89=>(match v89 with|.mk v90=>v90)) v84.1.2.2.2)))))) fun v91=>(cond (ieqI v83.2.1 (we 0)) (cond (iltI p.2.2.2.1 p.1) (cond (Bool.not (ieqI v84.2.2.1 (we 0))) (iz (i7,())) (iz ((Bool.not v91.1),()))) (iz (eb,()))) (iz (eb,())))))) i6) i6) i6) i6) i6) i6) (L21 ((IntKind.i64.wrap (oe p.1 (we 1))),p.2.1,p.2.2.1,p.2.2.2.1,(IntKind.i64.wrap (fq p.2.2.2.2 (we 1)))))) (L21 ((IntKind.i64.wrap (oe p.1 (we 1))),p.2.1,p.2.2.1,p.2.2.2.1,p.2.2.2.2)))))) (cond (lchk (we 0) p.2.2.2.1 (we p.2.1.length) (we p.2.1.length)) (cond (og (o7 (o5 0 (oq (lsub p.2.1 (we 0) p.2.2.2.1))) 40) 140737488355328) (cond (lchk (IntKind.i64.wrap (oe p.2.2.2.1 (we 1))) p.2.2.1 (we p.2.1.length) (we p.2.1.length)) (cond (og (o7 (o5 (oq (lsub p.2.1 (we 0) p.2.2.2.1)) (oq (lsub p.2.1 (IntKind.i64.wrap (oe p.2.2.2.1 (we 1))) p.2.2.1))) 40) 140737488355328) (cond (lchk (IntKind.i64.wrap (oe p.2.2.1 (we 1))) (we p.2.1.length) (we p.2.1.length) (we p.2.1.length)) (cond (og (o7 (o5 (oq (oz (lsub p.2.1 (we 0) p.2.2.2.1) (lsub p.2.1 (IntKind.i64.wrap (oe p.2.2.2.1 (we 1))) p.2.2.1))) (oq (lsub p.2.1 (IntKind.i64.wrap (oe p.2.2.1 (we 1))) (we p.2.1.length)))) 40) 140737488355328) (bd (S.dWrite (oz (oz (lsub p.2.1 (we 0) p.2.2.2.1) (lsub p.2.1 (IntKind.i64.wrap (oe p.2.2.2.1 (we 1))) p.2.2.1)) (lsub p.2.1 (IntKind.i64.wrap (oe p.2.2.1 (we 1))) (we p.2.1.length)))) fun v117=>(bd (S.exprOf v117.1) fun v118=>(bd (S.dSameR (x1.1,(x1.2.1,(x1.2.2.1,(fc (fun v119=>(RExpr.mk v119)) (fc (fun v120=>(match v120 with|.mk v121=>v121)) x1.2.2.2))))) (v118.1.1,(v118.1.2.1,(v118.1.2.2.1,(fc (fun v122=>(RExpr.mk v122)) (fc (fun v123=>(match v123 with|.mk v124=>v124)) v118.1.2.2.2)))))) fun v125=>(cond (ieqI v117.2.1 (we 0)) (cond (iltI p.2.2.2.1 p.2.2.1) (cond (Bool.not (ieqI v118.2.2.1 (we 0))) (iz (i7,())) (iz ((Bool.not v125.1),()))) (iz (eb,()))) (iz (eb,())))))) i6) i6) i6) i6) i6) i6))
abbrev gz43:Type:=ElA [cExpr,(.int .u8)]->Oq jb
abbrev sz43(g:gz43):Sm:=⟨[cExpr,(.int .u8)],[(eb,.bool)],g⟩
abbrev Ez43(g:gz43)(J:JT jb)(lf:Nat)(x1:zc)(x2:Int):=yr oa ttT.get qed fi6.nt (qr4 _ lf) lf qf5 J fi6.body [] (zk (argV [cExpr,(.int .u8)] (x1,x2,())) 0 .leaf) S0 [] (jf ttT.get fi6 (sz43 g))
abbrev Bz43(g:gz43)(J:JT jb)(lf k:Nat)(ms:Lz Nat)(q:NRes):=nn oa ttT.get qed fi6.nt (qr4 _ lf) lf qf5 J k fi6.body [] ms q (jf ttT.get fi6 (sz43 g))
theorem zji(g:gz43)(J:JT jb)(lf:Nat)(x1:zc)(x2:Int):Ez43 g J lf x1 x2=qse lf x1 x2 (fun q=>J 11 [lf] (qbk x1 x2 q)):=by kernel_rfl
theorem zdk(g:gz43)(J:JT jb)(lf:Nat)(x1:zc)(x2:Int)(m1:Nat)(p:(Lz zb) × Int × (Lz Int)):Bz43 g J lf 11 [m1] (qbk x1 x2 p)=qsk lf x1 x2 (fun q=>J 11 [m1] (qbk x1 x2 q)) (fun q=>J 21 [lf] (qc0 x1 x2 q)) p:=by kernel_rfl
theorem zud(g:gz43)(J:JT jb)(lf:Nat)(x1:zc)(x2:Int)(m1:Nat)(p:Int × (Lz zb) × Int × Int × Int):Bz43 g J lf 21 [m1] (qc0 x1 x2 p)=qnq lf x1 x2 (fun q=>J 21 [m1] (qc0 x1 x2 q)) p:=by kernel_rfl
theorem qvf:(regs fi6.body).Nodup:=by decide +kernel
theorem qpv:okC qed qf5 q6p fi6.body i6=i7:=by kernel_rfl
def Az43(g:gz43)(lf:Nat):JT jb:=atN oa ttT.get qed fi6 (sz43 g) (qr4 _ lf) lf q6p
def qap(lf:Nat)(x1:zc)(x2:Int):Nat->(Int × (Lz zb) × Int × Int × Int)->Oq jb:=rounds fun K p=>qnq lf x1 x2 K p
theorem q04(g:gz43)(lf:Nat)(x1:zc)(x2:Int):∀(n:Nat) (p:Int × (Lz zb) × Int × Int × Int),Az43 g lf 21 [n] (qc0 x1 x2 p)=qap lf x1 x2 n p
 | 0,p=>sn 21 [0] rfl _
 | n+1,p=>by
  have ih:=q04 g lf x1 x2 n;refine(c8 (qg 20 _) qvf qpv 21 [n+1] [n] rfl _).trans ((zud g (Az43 g lf) lf x1 x2 n p).trans ?_);rw[(show (fun q=>Az43 g lf 21 [n] (qc0 x1 x2 q))=(fun q=>qap lf x1 x2 n q) from funext ih)];rfl
def qak(lf:Nat)(x1:zc)(x2:Int):Nat->((Lz zb) × Int × (Lz Int))->Oq jb:=rounds fun K p=>qsk lf x1 x2 K (fun q=>qap lf x1 x2 lf q) p
theorem qxp(g:gz43)(lf:Nat)(x1:zc)(x2:Int):∀(n:Nat) (p:(Lz zb) × Int × (Lz Int)),Az43 g lf 11 [n] (qbk x1 x2 p)=qak lf x1 x2 n p
 | 0,p=>sn 11 [0] rfl _
 | n+1,p=>by
  have ih:=qxp g lf x1 x2 n;refine(c8 (qg 20 _) qvf qpv 11 [n+1] [n] rfl _).trans ((zdk g (Az43 g lf) lf x1 x2 n p).trans ?_);rw[(show (fun q=>Az43 g lf 21 [lf] (qc0 x1 x2 q))=(fun q=>qap lf x1 x2 lf q) from funext fun q=>q04 g lf x1 x2 lf q),(show (fun q=>Az43 g lf 11 [n] (qbk x1 x2 q))=(fun q=>qak lf x1 x2 n q) from funext ih)];rfl
def Fz43(lf:Nat)(x1:zc)(x2:Int):Oq jb:=qse lf x1 x2 (fun q=>qak lf x1 x2 lf q)
theorem zqp(g:gz43)(lf:Nat)(x1:zc)(x2:Int):Ez43 g (Az43 g lf) lf x1 x2=Fz43 lf x1 x2:=by
  refine(zji g (Az43 g lf) lf x1 x2).trans ?_;rw[(show (fun q=>Az43 g lf 11 [lf] (qbk x1 x2 q))=(fun q=>qak lf x1 x2 lf q) from funext fun q=>qxp g lf x1 x2 lf q)];rfl
theorem zfa(hr_l_ExprsR:ConR oa 33 qki):zv oa q7t:=⟨z8 hr_l_ExprsR,trivial⟩
theorem zfy{g:gz43}(hsm:SmOK oa q7j)(hr_l_ExprsR:ConR oa 33 qki)(hg:∀(x:ElA [cExpr,(.int .u8)]) (y:jb),WfA [cExpr,(.int .u8)] x->g x=iz y->∃lf,Fz43 lf x.1 x.2.1=iz y):Con oa 6 ⟨[cExpr,(.int .u8)],[(eb,.bool)],g⟩ :=
 conV (st:=qf5) (fun lf x=>Fz43 lf x.1 x.2.1) cm3 cal6 (zfa hr_l_ExprsR) qvf qpv (fun lf x=>zqp g lf x.1 x.2.1) hsm hg
section
namespace S
def LP:Bq:=Go.Jx.S.lit [40]
def cb(l:Lz Bq):Nat:=l.countP fun s=>keqS s LP
def pT(T:Lz KT)(a:Nat):Nat:=(T.take a).countP fun t=>keqS t.2 LP
end S
def NoLP(T:Lz S.KT):Prop:=∀t∈T,t.1=1->keqS t.2 S.LP=eb
def LbR(f:Nat->Oq (Lz Bq))(i j:Nat):Prop:=∀m W,f m=iz W->i+S.cb W<=j
section
variable {f g : Nat -> Oq (Lz Bq)} {i j k : Nat} {T : Lz S.KT} {a b : Nat}
theorem qr0(l m:Lz Bq):S.cb (l++m)=S.cb l+S.cb m:=jbm
theorem wi(h:a<=b):S.pT T a<=S.pT T b:=(List.take_sublist_take_left h).countP_le
theorem LbR.le{i' j':Nat}(h:LbR f i j)(h1:i'<=i)(h2:j<=j'):LbR f i' j':=fun m W e=>by have:=h m W e;omega
theorem LbR.cat(h1:LbR f i j)(h2:LbR g j k):LbR (fun m=>S.cat (f m) (g m)) i k:=fun m W e=>by
 have e:S.cat (f m) (g m)=iz W:=e;cases a:f m with
 | none=>rw[a] at e;cases e
 | some A =>
  cases b:g m with
  | none=>rw[a,b] at e;cases e
  | some B =>
   rw[a,b] at e;cases e;have:=h1 m A a;have:=h2 m B b;rw[qr0];omega
theorem LbR.words{l:Lz Bq}(h:i+S.cb l<=j):LbR (fun _=>iz l) i j:=fun m W e=>by cases e;exact h
theorem LbR.word{s:Bq}(hs:keqS s S.LP=eb)(h:i<=j):LbR (fun _=>iz [s]) i j:=LbR.words (by
 unfold S.cb;rw[jap,hs];simpa using h)
theorem LbR.step{v:zc}(h:LbR (fun m=>S.wexpr (m+1) v) i j):LbR (fun m=>S.wexpr m v) i j:=fun m W e=>by
 cases m with
 | zero=>cases e
 | succ m=>exact h m W e
def LbE(v:zc)(k:Int)(i j:Nat):Prop:=LbR (fun m=>S.within (S.wexpr m) v k) i j
theorem ql9{f:zc->Oq (Lz Bq)}{v:zc}{k:Int}(h:k<=S.levelOf v):S.within f v k=f v:=by
 unfold S.within;rw[qc,xq (by omega)];rfl
theorem qmg{f:zc->Oq (Lz Bq)}{v:zc}{k:Int}(h:S.levelOf v<k):S.within f v k=S.cat (iz [S.LP]) (S.cat (f v) (iz [(Go.Jx.S.lit [41])])):=by
 unfold S.within;rw[qc,xt h];rfl
theorem LbE.mk{v:zc}{k:Int}(h:k<=S.levelOf v)(h1:LbR (fun m=>S.wexpr m v) i j):LbE v k i j:=fun m W e=>h1 m W ((ql9 h).symm.trans e)
theorem LbE.plain{v:zc}{k:Int}(h:LbE v k i j):LbR (fun m=>S.wexpr m v) i j:=fun m W e=>by
 rcases jb8 (S.levelOf v) k with h1|h1
 ·have:=h m ([S.LP]++(W++[Go.Jx.S.lit [41]])) ((qmg h1).trans (by have e:S.wexpr m v=iz W:=e;rw[e];rfl));rw[qr0,qr0] at this;omega
 ·exact h m W ((ql9 h1).trans e)
theorem LbE.down{v:zc}{k k':Int}(h:LbE v k i j)(hk:k'<=k):LbE v k' i j:=fun m W e=>by
 rcases jb8 (S.levelOf v) k' with h1|h1
 ·refine h m W ?_;show S.within (S.wexpr m) v k=_;rw[qmg (by omega)];rw[<- qmg (k:=k') h1];exact e
 ·exact h.plain m W ((ql9 h1).symm.trans e)
theorem q1a:keqS (Go.Jx.S.lit [41]) S.LP=eb:=by decide +kernel
theorem LbE.paren{v:zc}{k k':Int}(h:LbE v k' (i+1) j):LbE v k i j:=fun m W e=>by
 rcases jb8 (S.levelOf v) k with h1|h1
 ·have a:LbR (fun m=>S.cat (iz [S.LP]) (S.cat (S.wexpr m v) (iz [(Go.Jx.S.lit [41])]))) i j:=by
   refine LbR.cat (j:=i+1) (LbR.words (by
    unfold S.cb;rw[jap,List.countP_nil];rw[show keqS S.LP S.LP=i7 by decide +kernel];simp)) (LbR.cat h.plain (LbR.word q1a (xl _)))
  exact a m W ((qmg h1).symm.trans e)
 ·exact(h.plain.le (df _) (xl _)) m W ((ql9 h1).symm.trans e)
def LbL:Lz zc->Nat->Nat->Prop
 | [],i,j=>i<=j
 | x::l,i,j=>∃k,LbR (fun m=>S.wexpr m x) i k/\LbL l k j
theorem LbL.le:∀{l:Lz zc} {i i' j j':Nat},LbL l i j->i'<=i->j<=j'->LbL l i' j'
 | [],i,i',j,j',h,h1,h2=>by have h:i<=j:=h;show i'<=j';omega
 | x::l,i,i',j,j',⟨k,h3,h4⟩,h1,h2=>⟨k,h3.le h1 (xl _),LbL.le h4 (xl _) h2⟩
theorem LbL.snoc:∀{l:Lz zc} {x:zc} {i j k:Nat},LbL l i j->LbR (fun m=>S.wexpr m x) j k->LbL (l++[x]) i k
 | [],x,i,j,k,h,h1=>⟨k,h1.le h (xl _),xl _⟩
 | y::l,x,i,j,k,⟨q,h3,h4⟩,h1=>⟨q,h3,LbL.snoc h4 h1⟩
theorem LbL.wlist{s:Bq}(hs:keqS s S.LP=eb):∀{l:Lz zc} {i j q:Nat},LbL l i j->LbR (fun m=>S.wlist (S.wexpr m) s l q) i j
 | [],i,j,q,h=>LbR.words (by show i+0<=j;exact h)
 | x::l,i,j,q,⟨k,h3,h4⟩=>by
  have hd:LbR (fun _=>cond (iltI 0 (we q)) (iz [s]) (iz [])) i i:=by
   cases iltI 0 (we q)
   ·exact LbR.words (xl _)
   ·exact LbR.word hs (xl _)
  exact LbR.cat hd (LbR.cat h3 (LbL.wlist hs h4))
theorem LbL.wargs{l:Lz zc}(h:LbL l (i+1) j\/l=[]/\i<=j):LbR (fun m=>S.wargs (S.wexpr m) l) i j:=by
 unfold S.wargs;rcases h with h|⟨rfl,h⟩
 ·cases a:iltI 0 (we l.length) with
  | false =>
   have:i+1<=j:=by
    rw[qc] at a;have a:=gx a;cases l with
    | nil=>exact h
    | cons x l=>exact absurd (show (0:Int)<((l.length+1:Nat):Int) by omega) a
   exact LbR.words (by show i+0<=j;omega)
  | true=>exact LbR.cat (j:=i+1) (LbR.words (by
    unfold S.cb;rw[jap,List.countP_nil];rw[show keqS (Go.Jx.S.lit [40]) S.LP=i7 by decide +kernel];simp)) (LbR.cat (h.wlist (by decide +kernel)) (LbR.word q1a (xl _)))
 ·exact LbR.words (by show i+0<=j;omega)
end
end
section
theorem kq{s t l:Bq}(h:keqS t s=i7)(h2:keqS s l=eb):keqS t l=eb:=by
 have e:t=s:=xu h
 grind
theorem q6t(s:Bq):(∃n:Int,0<=n/\n<=5/\keqS s S.LP=eb/\∀(α:Type) (f:Int->Bool->α),S.lev s f=f n i7)\/∀(α:Type) (f:Int->Bool->α),S.lev s f=f 0 eb:=by
 cases a:keqS s (Go.Jx.S.lit [105,109,112,108,105,101,115]) with
 | true=>exact .inl ⟨0,by decide,by decide,kq (s:=Go.Jx.S.lit [105,109,112,108,105,101,115]) a (by decide +kernel),fun α f=>by unfold S.lev;simp only[a,xa,xe]⟩
 | false =>
 cases b:keqS s (Go.Jx.S.lit [111,114]) with
 | true=>exact .inl ⟨1,by decide,by decide,kq (s:=Go.Jx.S.lit [111,114]) b (by decide +kernel),fun α f=>by unfold S.lev;simp only[a,b,xa,xe]⟩
 | false =>
 cases c:keqS s (Go.Jx.S.lit [97,110,100]) with
 | true=>exact .inl ⟨2,by decide,by decide,kq (s:=Go.Jx.S.lit [97,110,100]) c (by decide +kernel),fun α f=>by unfold S.lev;simp only[a,b,c,xa,xe]⟩
 | false =>
 cases d:keqS s (Go.Jx.S.lit [61]) with
 | true=>exact .inl ⟨3,by decide,by decide,kq (s:=Go.Jx.S.lit [61]) d (by decide +kernel),fun α f=>by unfold S.lev;simp only[a,b,c,d,xa,xe]⟩
 | false =>
 cases g:keqS s (Go.Jx.S.lit [47,61]) with
 | true=>exact .inl ⟨3,by decide,by decide,kq (s:=Go.Jx.S.lit [47,61]) g (by decide +kernel),fun α f=>by unfold S.lev;simp only[a,b,c,d,g,xa,xe]⟩
 | false =>
 cases h:keqS s (Go.Jx.S.lit [60]) with
 | true=>exact .inl ⟨3,by decide,by decide,kq (s:=Go.Jx.S.lit [60]) h (by decide +kernel),fun α f=>by unfold S.lev;simp only[a,b,c,d,g,h,xa,xe]⟩
 | false =>
 cases j:keqS s (Go.Jx.S.lit [60,61]) with
 | true=>exact .inl ⟨3,by decide,by decide,kq (s:=Go.Jx.S.lit [60,61]) j (by decide +kernel),fun α f=>by unfold S.lev;simp only[a,b,c,d,g,h,j,xa,xe]⟩
 | false =>
 cases k:keqS s (Go.Jx.S.lit [62]) with
 | true=>exact .inl ⟨3,by decide,by decide,kq (s:=Go.Jx.S.lit [62]) k (by decide +kernel),fun α f=>by unfold S.lev;simp only[a,b,c,d,g,h,j,k,xa,xe]⟩
 | false =>
 cases m:keqS s (Go.Jx.S.lit [62,61]) with
 | true=>exact .inl ⟨3,by decide,by decide,kq (s:=Go.Jx.S.lit [62,61]) m (by decide +kernel),fun α f=>by unfold S.lev;simp only[a,b,c,d,g,h,j,k,m,xa,xe]⟩
 | false =>
 cases o:keqS s (Go.Jx.S.lit [43]) with
 | true=>exact .inl ⟨4,by decide,by decide,kq (s:=Go.Jx.S.lit [43]) o (by decide +kernel),fun α f=>by unfold S.lev;simp only[a,b,c,d,g,h,j,k,m,o,xa,xe]⟩
 | false =>
 cases e:keqS s (Go.Jx.S.lit [45]) with
 | true=>exact .inl ⟨4,by decide,by decide,kq (s:=Go.Jx.S.lit [45]) e (by decide +kernel),fun α f=>by unfold S.lev;simp only[a,b,c,d,g,h,j,k,m,o,e,xa,xe]⟩
 | false =>
 cases i:keqS s (Go.Jx.S.lit [42]) with
 | true=>exact .inl ⟨5,by decide,by decide,kq (s:=Go.Jx.S.lit [42]) i (by decide +kernel),fun α f=>by unfold S.lev;simp only[a,b,c,d,g,h,j,k,m,o,e,i,xa,xe]⟩
 | false =>
 cases l:keqS s (Go.Jx.S.lit [47,47]) with
 | true=>exact .inl ⟨5,by decide,by decide,kq (s:=Go.Jx.S.lit [47,47]) l (by decide +kernel),fun α f=>by unfold S.lev;simp only[a,b,c,d,g,h,j,k,m,o,e,i,l,xa,xe]⟩
 | false =>
 cases p:keqS s (Go.Jx.S.lit [37]) with
 | true=>exact .inl ⟨5,by decide,by decide,kq (s:=Go.Jx.S.lit [37]) p (by decide +kernel),fun α f=>by unfold S.lev;simp only[a,b,c,d,g,h,j,k,m,o,e,i,l,p,xa,xe]⟩
 | false =>
 exact .inr fun α f=>by unfold S.lev;simp only[a,b,c,d,g,h,j,k,m,o,e,i,l,p,xe]
section
variable {α β : Type} {T : Lz S.KT} {a b : Nat}
theorem zz{t:S.Pr α}{f:α->S.Pr β}{r:β × Nat}(h:S.run T a (t.bind f)=iz (.inr r)):∃u c,S.run T a t=iz (.inr (u,c))/\S.run T c (f u)=iz (.inr r):=by
 rw[run_bind] at h
 grind
theorem yb{t:S.Pr α}{r:α × Nat}(h:S.run T a (.next t)=iz (.inr r)):a<T.length/\S.run T (a+1) t=iz (.inr r):=by
 have h:cond (oo a T.length) (S.run T (a+1) t) i6=_:=h;cases b:oo a T.length with
 | false=>rw[b] at h;cases h
 | true=>rw[b] at h;exact⟨by simpa using b,h⟩
theorem q9{s:Bq}{X Y:S.Pr α}{r:α × Nat}(h:S.run T a ((S.may s).bind fun b=>cond b X Y)=iz (.inr r)):(a<T.length/\S.isT (S.tkA T a) s=i7/\S.run T (a+1) X=iz (.inr r))\/S.run T a Y=iz (.inr r):=by
 obtain⟨u,c,d,f⟩:=zz h;rw[qj8] at d;cases e:S.isT (S.tkA T a) s with
 | false=>rw[e] at d;cases d;exact .inr f
 | true =>
  rw[e] at d;obtain⟨i,g⟩:=yx d;cases g;exact .inl ⟨by simpa using i,rfl,f⟩
theorem zri(s:Bq)(X:Unit->S.Pr α):(S.must s).bind X=(S.may s).bind fun b=>cond b (X ()) (.fail 2):=by
 unfold S.must S.may;simp only[S.Pr.bind];congr 1;funext t;cases S.isT t s<;>rfl
theorem vu{s:Bq}{X:Unit->S.Pr α}{r:α × Nat}(h:S.run T a ((S.must s).bind X)=iz (.inr r)):a<T.length/\S.isT (S.tkA T a) s=i7/\S.run T (a+1) (X ())=iz (.inr r):=by
 rw[zri] at h;rcases q9 h with h|h
 ·grind
 ·cases h
theorem qde{k:Int}{X:Bq->S.Pr α}{r:α × Nat}(h:S.run T a ((S.kind k).bind X)=iz (.inr r)):a<T.length/\(S.tkA T a).1=k/\S.run T (a+1) (X (S.tkA T a).2)=iz (.inr r):=by
 have h:S.run T a ((cond (ieqI (S.tkA T a).1 k) (.next (.ret (S.tkA T a).2)) (.fail 2):S.Pr Bq).bind X)=_:=h;cases b:ieqI (S.tkA T a).1 k with
 | false=>rw[b] at h;cases h
 | true =>
  rw[b] at h;obtain⟨d,c⟩:=yb h;rw[zx] at b;exact⟨d,xu b,c⟩
theorem co{t:S.KT}{s:Bq}(h:S.isT t s=i7):t.2=s:=by
 unfold S.isT at h;rw[xf] at h;exact xu h.1
theorem q4e(h:a<T.length):S.pT T (a+1)=S.pT T a+cond (keqS (S.tkA T a).2 S.LP) 1 0:=by
 unfold S.pT S.tkA;rw[jbr,xc h,jbm]
 grind
theorem q1d(h:a<T.length)(hk:S.isT (S.tkA T a) (Go.Jx.S.lit [40])=i7):S.pT T (a+1)=S.pT T a+1:=by
 rw[q4e h,co hk,show keqS (Go.Jx.S.lit [40]) S.LP=i7 by decide +kernel];rfl
theorem qg7(h:a<T.length):S.tkA T a∈T:=by
 unfold S.tkA
 grind
end
theorem zbf{k:Int}{t:S.KT}(h:keqS (S.opT k t) (Go.Jx.S.lit [])=eb):keqS (S.opT k t) S.LP=eb/\(0<=k/\k<=5)/\∀x y,S.levelOf (S.binE (S.opT k t) x y)=k:=by
 rcases q6t t.2 with ⟨n,j,i,g,h2⟩|h2
 ·have e:S.opT k t=cond (ieqI n k) (cond (ieqI t.1 3) t.2 (cond (ieqI t.1 5) t.2 (Go.Jx.S.lit []))) (Go.Jx.S.lit []):=by unfold S.opT;rw[h2];rfl
  have nil:keqS (Go.Jx.S.lit []) (Go.Jx.S.lit [])=i7:=by decide +kernel
  rw[e] at h ⊢;cases b:ieqI n k with
  | false=>rw[b] at h;exact absurd (h.symm.trans nil) (by decide)
  | true =>
   rw[b] at h;rw[zx] at b;have c:=xu b;have a:keqS t.2 S.LP=eb/\(0<=k/\k<=5)/\∀x y,S.levelOf (S.binE t.2 x y)=k:=⟨g,by omega,fun x y=>by
    unfold S.levelOf S.binE;simp only[show ieqI (we 7) 7=i7 by decide +kernel,xa];rw[h2];exact c⟩
   simp only[xa] at h ⊢;cases f:ieqI t.1 3 with
   | true=>exact a
   | false =>
    cases d:ieqI t.1 5 with
    | true=>exact a
    | false=>rw[f,d] at h;exact absurd (h.symm.trans nil) (by decide)
 ·have e:S.opT k t=Go.Jx.S.lit []:=by unfold S.opT;rw[h2];rfl
  rw[e] at h;exact absurd (h.symm.trans (by decide +kernel:keqS (Go.Jx.S.lit []) (Go.Jx.S.lit [])=i7)) (by decide)
structure BrE (T:List S.KT) (n:Nat):Prop where
 expr:∀{a v b},S.run T a (S.expr n)=iz (.inr (v,b))->LbR (fun m=>S.wexpr m v) (S.pT T a) (S.pT T b)
 level:∀{a v b} {k:Int},0<=k->k<=6->S.run T a (S.level n k)=iz (.inr (v,b))->LbE v k (S.pT T a) (S.pT T b)
 front:∀{a v b},S.run T a (S.front n)=iz (.inr (v,b))->LbE v 6 (S.pT T a) (S.pT T b)
 call:∀{a v b},S.run T a (S.call n)=iz (.inr (v,b))->LbE v 7 (S.pT T a) (S.pT T b)
 primary:∀{a v b},S.run T a (S.primary n)=iz (.inr (v,b))->LbE v 7 (S.pT T a) (S.pT T b)
 args:∀{a v b},S.run T a (S.args n)=iz (.inr (v,b))->LbL v (S.pT T a+1) (S.pT T b)\/v=[]/\S.pT T a<=S.pT T b
theorem q5u{k:Int}(h0:0<=k)(h:k<=6):S.add1 k=k+1:=by
 show IntKind.i64.wrap (k+1)=k+1;exact w64 (by omega) (by omega)
section
variable {T : Lz S.KT} {a b : Nat}
theorem zes(m:Nat)(op:Bq)(x y:zc):S.wexpr (m+1) (S.binE op x y)=S.cat (S.within (S.wexpr m) x (S.leftOf (S.levelOf (S.binE op x y)))) (S.cat (iz [op]) (S.within (S.wexpr m) y (S.rightOf (S.levelOf (S.binE op x y))))):=rfl
theorem LbE.bin{k:Int}{t:S.KT}{x y:zc}{i j j' l:Nat}(hop:keqS (S.opT k t) (Go.Jx.S.lit [])=eb)(h1:LbE x (S.leftOf k) i j)(hj:j<=j')(h2:LbE y (S.rightOf k) j' l):LbE (S.binE (S.opT k t) x y) k i l:=by
 obtain⟨b,c,a⟩:=zbf hop;refine LbE.mk (by rw[a];exact gr _) (LbR.step ?_);have e:(fun m=>S.wexpr (m+1) (S.binE (S.opT k t) x y))=fun m=>S.cat (S.within (S.wexpr m) x (S.leftOf k)) (S.cat (iz [S.opT k t]) (S.within (S.wexpr m) y (S.rightOf k))):=by
  funext m;rw[zes,a]
 rw[e];exact LbR.cat h1 (LbR.cat (LbR.word b hj) h2)
theorem qyt{one:S.Pr zc}{s:Bq}(h:∀{a v b},S.run T a one=iz (.inr (v,b))->LbR (fun m=>S.wexpr m v) (S.pT T a) (S.pT T b)):∀(n:Nat) {acc:Lz zc} {a b:Nat} {v} {i:Nat},LbL acc i (S.pT T a)->S.run T a (S.more s one n acc)=iz (.inr (v,b))->LbL v i (S.pT T b)
 | 0,acc,a,b,v,i,h0,hr=>by cases hr
 | n+1,acc,a,b,v,i,h0,hr=>by
  unfold S.more at hr;rcases q9 hr with ⟨h1,h2,h3⟩|h3
  ·obtain⟨u,c,h4,h5⟩:=zz h3;exact qyt h n (LbL.snoc (h0.le (xl _) (wi (df _))) (h h4)) h5
  ·cases h3;exact h0
theorem q46{L:Int->S.Pr zc}{k:Int}(hk0:0<=k)(hk:k<6)(hL:∀{a v b} {q:Int},q=k\/q=k+1->S.run T a (L q)=iz (.inr (v,b))->LbE v q (S.pT T a) (S.pT T b)) :
  ∀(n:Nat) {x:zc} {a b:Nat} {v} {i:Nat},LbE x k i (S.pT T a)->(k=0\/k=3->LbE x (k+1) i (S.pT T a))->S.run T a (S.levelL L k n x)=iz (.inr (v,b))->LbE v k i (S.pT T b)
 | 0,x,a,b,v,i,h0,h1,hr=>by cases hr
 | n+1,x,a,b,v,i,h0,h1,hr=>by
  unfold S.levelL at hr;have hr:S.run T a (cond (keqS (S.opT k (S.tkA T a)) (Go.Jx.S.lit [])) (.ret x) (.next (cond (ieqI k 0) ((L k).bind fun y=>.ret (S.binE (S.opT k (S.tkA T a)) x y)) (cond (ieqI k 3) ((L (S.add1 k)).bind fun y=>.ret (S.binE (S.opT k (S.tkA T a)) x y)) ((L (S.add1 k)).bind fun y=>S.levelL L k n (S.binE (S.opT k (S.tkA T a)) x y))))))=iz (.inr (v,b)):=hr;cases hop:keqS (S.opT k (S.tkA T a)) (Go.Jx.S.lit []) with
  | true=>rw[hop] at hr;cases hr;exact h0
  | false =>
   rw[hop] at hr;obtain⟨hlt,hr⟩:=yb hr;have hs:S.pT T a<=S.pT T (a+1):=wi (df _);have ha:=q5u hk0 (by omega);rw[zx,zx,ha] at hr;by_cases k0:k=0
   ·rw[xt k0] at hr;obtain⟨y,c,h4,h5⟩:=zz hr;cases h5;have hl:S.leftOf k=k+1:=by rw[<- ha];unfold S.leftOf;rw[zx,xt k0];rfl
    have hR:S.rightOf k=k:=by unfold S.rightOf;rw[zx,xt k0];rfl
    exact LbE.bin hop (by rw[hl];exact h1 (.inl k0)) hs (by rw[hR];exact hL (.inl rfl) h4)
   ·rw[xq k0] at hr;have hR:S.rightOf k=k+1:=by rw[<- ha];unfold S.rightOf;rw[zx,xq k0];rfl
    by_cases k3:k=3
    ·rw[xt k3] at hr;obtain⟨y,c,h4,h5⟩:=zz hr;cases h5;have hl:S.leftOf k=k+1:=by rw[<- ha];unfold S.leftOf;rw[zx,zx,xq k0,xt k3];rfl
     exact LbE.bin hop (by rw[hl];exact h1 (.inr k3)) hs (by rw[hR];exact hL (.inr rfl) h4)
    ·rw[xq k3] at hr;obtain⟨y,c,h4,h5⟩:=zz hr;have hl:S.leftOf k=k:=by unfold S.leftOf;rw[zx,zx,xq k0,xq k3];rfl
     exact q46 hk0 hk hL n (LbE.bin hop (by rw[hl];exact h0) hs (by rw[hR];exact hL (.inr rfl) h4)) (fun h=>by omega) h5
end
end
section
theorem zhc(m:Nat)(nm:Bq)(l:Lz zc):S.wexpr (m+1) (S.callE nm (we 0) l)=S.cat (iz [nm]) (S.wargs (S.wexpr m) l):=by
 show S.cat (iz [nm]) (S.wargs (S.wexpr m) (unL (S.kid l)))=_;rw[qf9 (Φ:=⟨0,by omega⟩)]
theorem zsu(m:Nat)(nm:Bq)(x:zc)(l:Lz zc):S.wexpr (m+1) (S.callE nm (we 1) (x::l))=S.cat (S.within (S.wexpr m) x 7) (S.cat (iz [(Go.Jx.S.lit [46])]) (S.cat (iz [nm]) (S.wargs (S.wexpr m) l))):=by
 have h:iltI 0 (we (unL (S.kid (x::l))).length)=i7:=by
  rw[qf9 (Φ:=⟨0,by omega⟩),qc];exact xt (by show (0:Int)<((l.length+1:Nat):Int);omega)
 show cond (ieqI (we 1) 1&&iltI 0 (we (unL (S.kid (x::l))).length)) (S.cat (S.within (S.wexpr m) (S.kidAt (unL (S.kid (x::l))) 0) 7) (S.cat (iz [(Go.Jx.S.lit [46])]) (S.cat (iz [nm]) (S.wargs (S.wexpr m) ((unL (S.kid (x::l))).drop 1))))) (S.cat (iz [nm]) (S.wargs (S.wexpr m) (unL (S.kid (x::l)))))=_;rw[h,qf9 (Φ:=⟨0,by omega⟩)];rfl
theorem q4s(m:Nat)(op:Bq)(x:zc):S.wexpr (m+1) (S.unE (we 8) op x)=S.cat (iz [op]) (S.within (S.wexpr m) x 6):=rfl
theorem zyf(m:Nat)(op:Bq)(x:zc):S.wexpr (m+1) (S.unE (we 9) op x)=S.cat (iz [(Go.Jx.S.lit [111,108,100])]) (S.within (S.wexpr m) x 6):=rfl
theorem zpg(m:Nat)(nm:Bq)(x:zc):S.wexpr (m+1) (S.unE (we 10) nm x)=S.cat (iz [(Go.Jx.S.lit [97,116,116,97,99,104,101,100])]) (S.cat (S.within (S.wexpr m) x 7) (iz [(Go.Jx.S.lit [97,115]),nm])):=rfl
theorem znv(m:Nat)(n:Int):S.wexpr (m+1) (we 1,Go.Jx.S.lit [],n,[])=iz [S.itoa n]:=rfl
theorem zn9(nm:Bq)(n:Int)(l:Lz zc):S.levelOf (S.callE nm n l)=7:=rfl
theorem q9k:∀(u:Nat) (b:UInt8),b∈Lib.decDigits u->48<=b.toNat
 | u,b,h=>by
  rw[Lib.decDigits] at h;split at h
  ·rename_i hu;rw[gn] at h;subst h;have:(mm (48+u)).toNat=(48+u) % 256:=jaq;omega
  ·rename_i hu;rw[p4,gn] at h;rcases h with h|h
   ·exact q9k (u / 10) b h
   ·subst h;have:(mm (48+u % 10)).toNat=(48+u % 10) % 256:=jaq;omega
termination_by u=>u
decreasing_by omega
theorem zmt(n:Int):keqS (S.itoa n) S.LP=eb:=by
 refine xq fun e=>?_;have b:(Lib.itoa n).toArray=#[(40:UInt8)]:=xy ByteArray.data e;have a:Lib.itoa n=[(40:UInt8)]:=xy Array.toList b;unfold Lib.itoa at a;split at a
 ·grind
 ·have:=q9k n.toNat 40 (by rw[a];exact gn.2 rfl)
  grind
section
variable {T : Lz S.KT}
theorem qyh(hT:NoLP T){A:S.Pr (Lz zc)}(hA:∀{a v b},S.run T a A=iz (.inr (v,b))->LbL v (S.pT T a+1) (S.pT T b)\/v=[]/\S.pT T a<=S.pT T b) :
  ∀(n:Nat) {x:zc} {a b:Nat} {v} {i:Nat},LbE x 7 i (S.pT T a)->S.run T a (S.callL A n x)=iz (.inr (v,b))->LbE v 7 i (S.pT T b)
 | 0,x,a,b,v,i,h0,hr=>by cases hr
 | n+1,x,a,b,v,i,h0,hr=>by
  unfold S.callL at hr;rcases q9 hr with ⟨h1,h2,h3⟩|h3
  ·obtain⟨h4,h5,h6⟩:=qde h3;obtain⟨l,c,h7,h8⟩:=zz h6;refine qyh hT hA n (LbE.mk (by rw[zn9];exact gr _) (LbR.step ?_)) h8;have e:(fun m=>S.wexpr (m+1) (S.callE (S.tkA T (a+1)).2 (we 1) (x::l)))=fun m=>S.cat (S.within (S.wexpr m) x 7) (S.cat (iz [(Go.Jx.S.lit [46])]) (S.cat (iz [(S.tkA T (a+1)).2]) (S.wargs (S.wexpr m) l))):=funext fun m=>zsu m _ x l;rw[e];exact LbR.cat h0 (LbR.cat (LbR.word (by decide +kernel) (wi (df _))) (LbR.cat (LbR.word (hT _ (qg7 h4) h5) (wi (df _))) (LbL.wargs (hA h7))))
  ·cases h3;exact h0
theorem q56(s:Bq):(∃x:zc,S.levelOf x=7/\(∃w,keqS w S.LP=eb/\∀m,S.wexpr (m+1) x=iz [w])/\∀(α:Type) (f:zc->Bool->α),S.wrd s f=f x i7)\/∀(α:Type) (f:zc->Bool->α),∃x,S.wrd s f=f x eb:=by
 by_cases a:keqS s (Go.Jx.S.lit [84,114,117,101])=i7
 ·exact .inl ⟨_,rfl,⟨_,(by decide +kernel:keqS (Go.Jx.S.lit [84,114,117,101]) S.LP=eb),fun m=>rfl⟩,fun α f=>by unfold S.wrd;rw[a];rfl⟩
 by_cases b:keqS s (Go.Jx.S.lit [70,97,108,115,101])=i7
 ·exact .inl ⟨_,rfl,⟨_,(by decide +kernel:keqS (Go.Jx.S.lit [70,97,108,115,101]) S.LP=eb),fun m=>rfl⟩,fun α f=>by unfold S.wrd;rw[jao] at a;rw[a,b];rfl⟩
 by_cases c:keqS s (Go.Jx.S.lit [86,111,105,100])=i7
 ·exact .inl ⟨_,rfl,⟨_,(by decide +kernel:keqS (Go.Jx.S.lit [86,111,105,100]) S.LP=eb),fun m=>rfl⟩,fun α f=>by unfold S.wrd;rw[jao] at a b;rw[a,b,c];rfl⟩
 by_cases d:keqS s (Go.Jx.S.lit [67,117,114,114,101,110,116])=i7
 ·exact .inl ⟨_,rfl,⟨_,(by decide +kernel:keqS (Go.Jx.S.lit [67,117,114,114,101,110,116]) S.LP=eb),fun m=>rfl⟩,fun α f=>by unfold S.wrd;rw[jao] at a b c;rw[a,b,c,d];rfl⟩
 by_cases e:keqS s (Go.Jx.S.lit [82,101,115,117,108,116])=i7
 ·exact .inl ⟨_,rfl,⟨_,(by decide +kernel:keqS (Go.Jx.S.lit [82,101,115,117,108,116]) S.LP=eb),fun m=>rfl⟩,fun α f=>by unfold S.wrd;rw[jao] at a b c d;rw[a,b,c,d,e];rfl⟩
 ·exact .inr fun α f=>⟨_,by unfold S.wrd;rw[jao] at a b c d e;rw[a,b,c,d,e];rfl⟩
theorem zbi(hT:NoLP T){E C:S.Pr zc}(hE:∀{a v b},S.run T a E=iz (.inr (v,b))->LbR (fun m=>S.wexpr m v) (S.pT T a) (S.pT T b))(hC:∀{a v b},S.run T a C=iz (.inr (v,b))->LbE v 7 (S.pT T a) (S.pT T b))
  {a v b} (hr:S.run T a (S.prim2 E C)=iz (.inr (v,b))):LbE v 7 (S.pT T a) (S.pT T b):=by
 unfold S.prim2 at hr;rcases q9 hr with ⟨j,i,h3⟩|h3
 ·obtain⟨x,c,f,d⟩:=zz h3;obtain⟨h,l,g⟩:=vu d;cases g;refine LbE.paren (k':=S.levelOf v) (LbE.mk (gr _) ?_);rw[<- q1d j i];exact(hE f).le (xl _) (wi (df _))
 ·obtain⟨j,i,f⟩:=vu h3;obtain⟨x,c,d,h⟩:=zz f;obtain⟨l,g,k⟩:=vu h;obtain⟨p,o,n⟩:=qde k;cases n;refine LbE.mk (by exact gr 7) (LbR.step ?_);have e:(fun m=>S.wexpr (m+1) (S.unE (we 10) (S.tkA T (c+1)).2 x))=fun m=>S.cat (iz [(Go.Jx.S.lit [97,116,116,97,99,104,101,100])]) (S.cat (S.within (S.wexpr m) x 7) (iz [(Go.Jx.S.lit [97,115]),(S.tkA T (c+1)).2])):=funext fun m=>zpg m _ x;rw[e];refine LbR.cat (LbR.word (by decide +kernel) (wi (df _))) (LbR.cat (hC d) (LbR.words ?_));unfold S.cb;rw[jap,jap,List.countP_nil,hT _ (qg7 p) o,show keqS (Go.Jx.S.lit [97,115]) S.LP=eb by decide +kernel];exact wi (by omega)
end
theorem brE{T:Lz S.KT}(hT:NoLP T):∀n,BrE T n
 | 0=>by constructor<;>(intros;rename_i h;cases h)
 | n+1=>by
  have ih:=brE hT n;refine⟨fun {a v b} hr=>?_,fun {a v b k} hk0 hk hr=>?_,fun {a v b} hr=>?_,fun {a v b} hr=>?_,fun {a v b} hr=>?_,fun {a v b} hr=>?_⟩
  ·exact(ih.level (gr 0) (by decide) hr).plain
  ·have hr:S.run T a (cond (ieqI k 6) (S.front n) ((S.level n (S.add1 k)).bind fun x=>S.levelL (S.level n) k n x))=iz (.inr (v,b)):=hr;rw[zx] at hr;by_cases h6:k=6
   ·rw[xt h6] at hr;rw[h6];exact ih.front hr
   ·rw[xq h6] at hr;obtain⟨x,c,h1,h2⟩:=zz hr;rw[q5u hk0 hk] at h1;have h3:=ih.level (by omega) (by omega) h1;exact q46 hk0 (by omega) (fun {a v b q} hq h=>ih.level (by omega) (by omega) h) n (h3.down (by omega)) (fun _=>h3) h2
  ·unfold S.front at hr
   have hr:S.run T a ((S.may (Go.Jx.S.lit [45])).bind fun b=>cond b ((S.front n).bind fun x=>.ret (S.unE (we 8) (S.tkA T a).2 x)) ((S.may (Go.Jx.S.lit [110,111,116])).bind fun b=>cond b ((S.front n).bind fun x=>.ret (S.unE (we 8) (S.tkA T a).2 x))
     ((S.may (Go.Jx.S.lit [111,108,100])).bind fun b=>cond b ((S.front n).bind fun x=>.ret (S.unE (we 9) (Go.Jx.S.lit []) x)) (S.call n))))=iz (.inr (v,b)):=hr
   rcases q9 hr with ⟨h1,h2,h3⟩|hr
   ·obtain⟨x,c,h4,h5⟩:=zz h3;cases h5;refine LbE.mk (by exact gr 6) (LbR.step ?_);rw[funext fun m=>q4s m _ x,co h2];exact LbR.cat (LbR.word (by decide +kernel) (wi (df _))) (ih.front h4)
   rcases q9 hr with ⟨h1,h2,h3⟩|hr
   ·obtain⟨x,c,h4,h5⟩:=zz h3;cases h5;refine LbE.mk (by exact gr 6) (LbR.step ?_);rw[funext fun m=>q4s m _ x,co h2];exact LbR.cat (LbR.word (by decide +kernel) (wi (df _))) (ih.front h4)
   rcases q9 hr with ⟨h1,h2,h3⟩|hr
   ·obtain⟨x,c,h4,h5⟩:=zz h3;cases h5;refine LbE.mk (by exact gr 6) (LbR.step ?_);rw[funext fun m=>zyf m _ x];exact LbR.cat (LbR.word (by decide +kernel) (wi (df _))) (ih.front h4)
   ·exact(ih.call hr).down (by decide)
  ·unfold S.call at hr;obtain⟨x,c,h4,h5⟩:=zz hr;exact qyh hT ih.args n (ih.primary h4) h5
  ·unfold S.primary at hr
   have hr:S.run T a (cond (ieqI (S.tkA T a).1 4) (.next (.ret (we 1,Go.Jx.S.lit [],(S.value (S.tkA T a).2).1,[]))) (cond (ieqI (S.tkA T a).1 1) (.next ((S.args n).bind fun l=>.ret (S.callE (S.tkA T a).2 (we 0) l)))
     (cond (ieqI (S.tkA T a).1 3) (S.wrd (S.tkA T a).2 fun x b=>cond b (.next (.ret x)) (S.prim2 (S.expr n) (S.call n))) (S.prim2 (S.expr n) (S.call n)))))=iz (.inr (v,b)):=hr
   have hp2:∀{v b},S.run T a (S.prim2 (S.expr n) (S.call n))=iz (.inr (v,b))->LbE v 7 (S.pT T a) (S.pT T b):=fun h=>zbi hT ih.expr ih.call h;cases h4:ieqI (S.tkA T a).1 4 with
   | true =>
    rw[h4] at hr;obtain⟨h1,h2⟩:=yb hr;cases h2;refine LbE.mk (by exact gr 7) (LbR.step ?_);rw[funext fun m=>znv m _];exact LbR.word (zmt _) (wi (df _))
   | false =>
    rw[h4] at hr;cases h5:ieqI (S.tkA T a).1 1 with
    | true =>
     rw[h5] at hr;obtain⟨h1,h2⟩:=yb hr;obtain⟨l,c,h6,h7⟩:=zz h2;cases h7;rw[zx] at h5;refine LbE.mk (by exact gr 7) (LbR.step ?_);rw[funext fun m=>zhc m _ l];exact LbR.cat (LbR.word (hT _ (qg7 h1) (xu h5)) (wi (df _))) (LbL.wargs (ih.args h6))
    | false =>
     rw[h5] at hr;cases h6:ieqI (S.tkA T a).1 3 with
     | false=>rw[h6] at hr;exact hp2 hr
     | true =>
      rw[h6] at hr;simp only[xa,xe] at hr;rcases q56 (S.tkA T a).2 with ⟨x,hl,⟨w,hw,hx⟩,hf⟩|hf
      ·rw[hf] at hr;obtain⟨h1,h2⟩:=yb hr;cases h2;refine LbE.mk (by rw[hl];exact gr 7) (LbR.step ?_);rw[funext fun m=>hx m];exact LbR.word hw (wi (df _))
      ·obtain⟨x,hf⟩:=hf _ fun x b=>cond b (.next (.ret x)) (S.prim2 (S.expr n) (S.call n))
       grind
  ·unfold S.args at hr;rcases q9 hr with ⟨h1,h2,h3⟩|h3
   ·obtain⟨l,c,h4,h5⟩:=zz h3;obtain⟨h6,h7,h8⟩:=vu h5;cases h8;unfold S.someT at h4;obtain⟨x,d,g1,g2⟩:=zz h4;have h9:=qyt ih.expr n (acc:=[x]) (i:=S.pT T (a+1)) ⟨_,ih.expr g1,xl _⟩ g2;rw[q1d h1 h2] at h9;exact .inl (h9.le (xl _) (wi (df _)))
   ·cases h3;exact .inr ⟨rfl,xl _⟩
end
theorem qyv{f:zc->zc->Oq Bool}(h:∀x y,f x y=iz i7->x=y):∀{l m:Lz zc},l.length=m.length->S.eqL f l m=iz i7->l=m
 | [],[],_,_=>rfl
 | [],y::m,e,_=>by cases e
 | x::l,[],e,_=>by cases e
 | x::l,y::m,e,hr=>by
  have hr:(match f x y with|none=>i6|some b=>cond b (S.eqL f l m) (iz eb))=iz i7:=hr;cases hf:f x y with
  | none=>rw[hf] at hr;cases hr
  | some b =>
   rw[hf] at hr;cases b with
   | false=>cases hr
   | true=>rw[h x y hf,qyv h (Nat.succ.inj e) hr]
theorem zif{l m:Lz RExpr}(h:unL l=unL m):l=m:=by rw[<- qj6 l,h,qj6]
theorem q7y:∀(n:Nat) (x y:zc),S.eqE n x y=iz i7->x=y
 | 0,x,y,h=>by cases h
 | n+1,x,y,h=>by
  have h:cond (ieqI x.1 y.1) (cond (keqS x.2.1 y.2.1) (cond (ieqI x.2.2.1 y.2.2.1) (S.eqQ (S.eqE n) (unL x.2.2.2) (unL y.2.2.2)) (iz eb)) (iz eb)) (iz eb)=iz i7:=h;cases h1:ieqI x.1 y.1 with
  | false=>rw[h1] at h;cases h
  | true =>
   cases h2:keqS x.2.1 y.2.1 with
   | false=>rw[h1,h2] at h;cases h
   | true =>
    cases h3:ieqI x.2.2.1 y.2.2.1 with
    | false=>rw[h1,h2,h3] at h;cases h
    | true =>
     rw[h1,h2,h3] at h;rw[zx] at h1 h3;have h:cond (ieqI (we (unL x.2.2.2).length) (we (unL y.2.2.2).length)) (S.eqL (S.eqE n) (unL x.2.2.2) (unL y.2.2.2)) (iz eb)=iz i7:=h;cases h4:ieqI (we (unL x.2.2.2).length) (we (unL y.2.2.2).length) with
     | false=>rw[h4] at h;cases h
     | true =>
      rw[h4] at h;rw[zx] at h4;have hk:=zif (qyv (q7y n) (jak (xu h4)) h);obtain⟨a,b,c,d⟩:=x;obtain⟨a',b',c',d'⟩:=y;have e1:a=a':=xu h1;have e2:b=b':=xu h2;have e3:c=c':=xu h3;have e4:d=d':=hk;rw[e1,e2,e3,e4]
theorem qxk{x y:zc}(h:S.eqR x y=iz i7):x=y:=by
 obtain⟨n,_,h⟩:=nx h;exact q7y n x y h
end Go.Proofs.YtaepcfidpcoofaaGreatDoor
end

/- Texts: Xp19, Xg11, Xg12, Xp20, Xg13, Xp21, Xl12, Xl10, Xl4, Xsan, Xl5, Xl11, Xl13. -/
import Derived.Test.YtanenikkloolfaaDoorMg5
import Derived.Test.YtanenikkloolfaaDoorMg4
set_option linter.unusedVariables false
noncomputable section
set_option maxRecDepth 100000
namespace Go.Proofs.YtanenikkloolfaaDoor
open Go Go.Sx Go.RowKit Go.Jx
theorem Fz17_eq (lf : Nat) (t : DToken) : Fz17 lf t = some (S.right t, ()) := by
 simp only [Fz17, Rz17_in, S.right]
 by_cases h0 : (S.shape t.2.1).2 = 0
 · rw [ieq_t (show (S.shape t.2.1).2 = Int.ofNat 0 from h0), cond_true, decide_eq_true h0]
   by_cases h1 : (S.shape t.2.1).1 = t.1
   · have h6 : ¬ t.1 = Int.ofNat 6 := by rw [← h1]; exact shape_kind _
     rw [ieq_t h1, cond_true, decide_eq_true h1, ieq_f h6]; rfl
   · rw [ieq_f h1, cond_false, decide_eq_false h1]; rfl
 · rw [ieq_f (show ¬ (S.shape t.2.1).2 = Int.ofNat 0 from h0), cond_false, decide_eq_false h0]; rfl
theorem conz17 : Con Tryd.prog idz17 spz17 := mkz17 ⟨conz11, trivial⟩ fun x y hx h => ⟨0, (Fz17_eq 0 x.1).trans h⟩
theorem Fz18_eq (a b : List DToken) (ha : a.length < LF) : Fz18 LF a b = some ((S.sameK a b, ()), ()) := by
 simp only [Fz18, Rz18_in, ieq_nat]
 have kl : ∀ l : List DToken, (S.kinds l).length = l.length := fun l => List.length_map _
 by_cases hl : a.length = b.length
 · rw [decide_eq_true hl, Bool.not_true, cond_false]
   refine range0 (σ := Unit) (R := Rtz18) a (fun i _ => i) (fun i _ => (S.kinds a).take i = (S.kinds b).take i) (fun _ _ _ => some ((S.sameK a b, ()), ())) ha (fun K q hq => ?_) (fun K i v rest q hq r h => ?_) () rfl
   · simp only [Rz18_4, ilt_self, cond_false]
     have : S.kinds a = S.kinds b := by
       rw [← kl a, List.take_length, kl a, hl, ← kl b, List.take_length] at hq; exact hq
     show some ((true, ()), ()) = some ((decide (S.kinds a = S.kinds b), ()), ())
     rw [decide_eq_true this]
   · obtain ⟨w, hw⟩ : ∃ w, b[i]? = some w := ⟨_, List.getElem?_eq_getElem (by have := r.lt; omega)⟩
     have hj : jget b (Int.ofNat i) = some w := jget_nat.trans hw
     simp only [Rz18_4, r.ilt, r.get, hj, r.next, cond_true]
     have ha' : (S.kinds a)[i]? = some (v.1, v.2.1) := by unfold S.kinds; rw [List.getElem?_map, r.get?]; rfl
     have hb' : (S.kinds b)[i]? = some (w.1, w.2.1) := by unfold S.kinds; rw [List.getElem?_map, hw]; rfl
     have hts := take_same (a := S.kinds a) (b := S.kinds b) ha' hb' hq
     have no : ¬ (v.1, v.2.1) = (w.1, w.2.1) → some ((false, ()), ()) = some ((S.sameK a b, ()), ()) := fun e => by
       have : ¬ S.kinds a = S.kinds b := fun e2 => e (hts.1 (by rw [e2]))
       show some ((false, ()), ()) = some ((decide (S.kinds a = S.kinds b), ()), ())
       rw [decide_eq_false this]
     by_cases e1 : v.1 = w.1
     · rw [ieq_t e1, cond_true]
       by_cases e2 : v.2.1 = w.2.1
       · rw [show keqS v.2.1 w.2.1 = true from decide_eq_true e2, Bool.not_true, cond_false]
         exact h () (hts.2 (by rw [e1, e2]))
       · rw [show keqS v.2.1 w.2.1 = false from decide_eq_false e2, Bool.not_false, cond_true]
         exact no fun e => e2 (Prod.mk.inj e).2
     · rw [ieq_f e1, cond_false]
       exact no fun e => e1 (Prod.mk.inj e).1
 · rw [decide_eq_false hl, Bool.not_false, cond_true]
   have : ¬ S.kinds a = S.kinds b := fun e => hl (by rw [← kl a, e, kl b])
   show some ((false, ()), ()) = some ((decide (S.kinds a = S.kinds b), ()), ())
   rw [decide_eq_false this]
theorem conz18 : ConR Tryd.prog idz18 spz18 := mkz18 trivial fun x y hx h => ⟨LF, (Fz18_eq x.1 x.2.1 (toks_small hx.1.1)).trans h⟩
theorem Fz19_eq (l : List (List DToken)) (hl : l.length < LF) (hf : l.flatten.length ≤ 1000000000) : Fz19 LF l = some (l.flatten, ()) := by
 have key : Gz19_3 LF l LF (Int.ofNat 0, []) = some ([] ++ l.flatten, ()) := by
   refine range0 (σ := List DToken) (R := Rtz19) l (fun i q => (i, q)) (fun i q => q ++ (l.drop i).flatten = l.flatten) (fun rest i q => some (q ++ rest.flatten, ())) hl (fun K q hq => ?_) (fun K i v rest q hq r h => ?_) [] (by simp)
   · simp only [Rz19_3, ilt_self, cond_false]
     rw [List.flatten_nil, List.append_nil]
   · rw [r.drop, List.flatten_cons] at hq
     have hlen := congrArg List.length hq
     rw [List.length_append, List.length_append] at hlen
     have hr : Nat.ble (Nat.mul (Nat.add q.length v.length) 40) 140737488355328 = true := Nat.ble_eq_true_of_le (by show (q.length + v.length) * 40 ≤ _; omega)
     simp only [Rz19_3, r.ilt, r.get, r.next, cond_true, hr]
     refine (h (q ++ v) (by rw [r.tail, List.append_assoc]; exact hq)).trans ?_
     rw [List.flatten_cons, List.append_assoc]
 exact key
theorem small24 {l : List (List DToken)} (h : l.length * 24 ≤ 140737488355328) : l.length < LF := by unfold LF; omega
theorem conz19 : Con Tryd.prog idz19 spz19 := mkz19 trivial fun x y hx h => ⟨LF, by
 obtain ⟨h1, h2⟩ := cond_some' (show cond (Nat.ble (x.1.flatten).length 1000000000) (some (x.1.flatten, ())) none = some y from h)
 exact (Fz19_eq x.1 (small24 hx.1.1) (Nat.le_of_ble_eq_true h1)).trans (congrArg some h2)⟩
theorem line_readX (s : ByteArray) : S.readX S.wTok [s] 1 = match (S.line (byteList s)).2 with
   | some (c, e) => ([], (1, Int.ofNat c), e)
   | none => (S.at_ 1 ((S.line (byteList s)).1.filter S.plain), (0, 0), 0) := by
 have e : S.readL [byteList s] 1 = (match (S.line (byteList s)).2 with
   | some (c, e) => ([], (1, Int.ofNat c), e)
   | none => (S.at_ 1 (S.line (byteList s)).1 ++ [], (0, 0), 0)) := readL_cons (byteList s) [] 1
 unfold S.readX
 rw [show [s].map byteList = [byteList s] from rfl, e]
 cases (S.line (byteList s)).2 with
 | some x => rfl
 | none =>
   simp only [List.append_nil]
   rw [show (fun t : DToken => S.wTok t.1) = S.isTok from rfl, at_filter]
theorem Fz20_eq (lf : Nat) (a b : DToken) (ha : S.right a = true) (hb : S.right b = true) (sa : S.small a = true) (sb : S.small b = true) : Fz20 lf a b = some (S.needs a b, ()) := by
 have h1 : a.2.1.size ≤ 400000 := Nat.le_of_ble_eq_true sa
 have h2 : b.2.1.size ≤ 400000 := Nat.le_of_ble_eq_true sb
 have hr : Nat.ble (Nat.succ (Nat.add a.2.1.size b.2.1.size)) 9223372036854775808 = true := Nat.ble_eq_true_of_le (by show a.2.1.size + b.2.1.size + 1 ≤ _; omega)
 have hbl : byteList (ByteArray.append a.2.1 b.2.1) = byteList a.2.1 ++ byteList b.2.1 := bl_append _ _
 have hsz : (ByteArray.append a.2.1 b.2.1).size = a.2.1.size + b.2.1.size := by rw [← bl_len, hbl, List.length_append, bl_len, bl_len]
 obtain ⟨_, _, a3⟩ := right_tok (right_shape ha)
 obtain ⟨_, _, b3⟩ := right_tok (right_shape hb)
 have hok : S.okL [ByteArray.append a.2.1 b.2.1] 1 = true := by
   unfold S.okL
   simp only [Bool.and_eq_true, decide_eq_true_iff, List.all_eq_true, Bool.not_eq_true', decide_eq_false_iff_not]
   refine ⟨Nat.ble_eq_true_of_le (by simp), fun t ht => ?_, by decide, by decide⟩
   rw [List.mem_singleton.1 ht, hbl, hsz]
   exact ⟨Nat.ble_eq_true_of_le (by omega), mem_two (fun c hc => (a3 c hc).1) fun c hc => (b3 c hc).1⟩
 have e1 : Int.ofNat 1 = (1 : Int) := rfl
 simp only [Fz20, Rz20_in, hr, cond_true, e1, hok, line_readX, hbl, S.needs]
 cases hl : (S.line (byteList a.2.1 ++ byteList b.2.1)).2 with
 | some x =>
   obtain ⟨c, e⟩ := x
   have he : ¬ e = 0 := pcs_err _ _ _ _ hl
   simp only
   rw [ieq_f (show ¬ e = Int.ofNat 0 from he)]; rfl
 | none =>
   simp only
   rw [ieq_t (show (0 : Int) = Int.ofNat 0 from rfl), Bool.not_true, cond_false]
   unfold S.sameK
   rw [kinds_at]
   rfl
theorem conz20 : Con Tryd.prog idz20 spz20 := by
 have h0 := mkz20 (g := spz20.f) ⟨conz19, trivial⟩ conz18 fun x y hx h => ⟨0, by
   obtain ⟨h1, h2⟩ := cond_some' (show cond ((S.right x.1 && S.right x.2.1) && (S.small x.1 && S.small x.2.1)) (some (S.needs x.1 x.2.1, ())) none = some y from h)
   simp only [Bool.and_eq_true] at h1
   exact (Fz20_eq 0 x.1 x.2.1 h1.1.1 h1.1.2 h1.2.1 h1.2.2).trans (congrArg some h2)⟩
 exact h0
def nmz21 : Nat → Option Nm := fun k => cond (Nat.beq k 7) (some ⟨[0, 1, 6, 14, 15, 16], [], [], [], [], 0, 0, false⟩) (cond (Nat.beq k 999999) (some ⟨[], [], [], [], [], 0, 0, false⟩) none)
def stz21 : Nat → Bool := fun k => cond (Nat.beq k 7) true (false)
def hdz21 := stz21
abbrev Rtz21 : Type := (ByteArray × Int × Unit) × Unit
def smlz21 : List (Nat × Sm) := [(86, spz17), (56, spz20)]
def hxlz21 : List (Nat × Hx) := [(115, idxHx cToken), (79, ccHx), (47, bsHx)]
def clz21 (R : Type) (lf : Nat) : ClK R := icallK Tryd.prog ttT.get ftT.get (fun _ _ => none) (smL smlz21) (hxL hxlz21) lf 20 R
abbrev idz21 : Nat := 54
def encz21_7 (x1 : (List DToken)) (p : Int × (List Int)) : NRes := (NRes.mk (.node (some (IV.lst cToken x1)) (.node (some (IV.fn 55 [])) (.node none (.node none (.node (some (IV.int .i64 (Int.ofNat (List.length x1)))) .leaf .leaf) .leaf) .leaf) .leaf) (.node none (.node none (.node none (.node (some (IV.int .i64 p.1)) .leaf .leaf) .leaf) .leaf) (.node (some (IV.ptr 0 0)) .leaf (.node (some (IV.lst cToken x1)) .leaf .leaf)))) (IS.mk (.node (some (IObj.bld 1)) (.node (some (IObj.arr (TC.int .u8) p.2)) .leaf .leaf) .leaf) 2) [] 0)
def Rz21_in (lf : Nat) (x1 : (List DToken)) (L7 : (Int × (List Int)) → Option Rtz21) : Option Rtz21 := (cond (iltI (Int.ofNat 6000) (Int.ofNat (List.length x1))) (some (((S.lit []), ((Int.ofNat 3), ())), ())) (match (idxO (fun v0 => (some (Bool.not (S.right (v0.1, (v0.2.1, (v0.2.2.1, v0.2.2.2))))))) x1 0) with | .none  => none | .some v1 => (cond (Bool.not (iltI v1 (Int.ofNat 0))) (some (((S.lit []), ((Int.ofNat 1), ())), ())) (L7 ((Int.ofNat 0), [])))))
def Rz21_7 (lf : Nat) (x1 : (List DToken)) (L7 : (Int × (List Int)) → Option Rtz21) (p : Int × (List Int)) : Option Rtz21 := (cond (iltI p.1 (Int.ofNat (List.length x1))) (match (jget x1 p.1) with | .none  => none | .some v0 => (cond (iltI (Int.ofNat 0) p.1) (match (jget x1 (IntKind.i64.wrap (Int.sub p.1 (Int.ofNat 1)))) with | .none  => none | .some v1 => (cond (Nat.ble (Nat.mul (Nat.add (List.length p.2) 1) 1) 140737488355328) (cond (Nat.ble (Nat.mul (Nat.add (List.length (List.append p.2 (List.cons (Int.ofNat 32) []))) (List.length (byteList v0.2.1))) 1) 140737488355328) (L7 ((IntKind.i64.wrap (Int.add p.1 (Int.ofNat 1))), (List.append (List.append p.2 (List.cons (Int.ofNat 32) [])) (byteList v0.2.1)))) none) none)) (cond (Nat.ble (Nat.mul (Nat.add (List.length p.2) (List.length (byteList v0.2.1))) 1) 140737488355328) (L7 ((IntKind.i64.wrap (Int.add p.1 (Int.ofNat 1))), (List.append p.2 (byteList v0.2.1)))) none))) (cond (iltI (Int.ofNat 20000) (Int.ofNat (List.length p.2))) (some (((S.lit []), ((Int.ofNat 3), ())), ())) (some (((strOf p.2), ((Int.ofNat 0), ())), ()))))
abbrev gz21 : Type := ElP [.dat (.list cToken), .fn 55] → Option Rtz21
abbrev sz21 (g : gz21) : SmR := ⟨[.dat (.list cToken), .fn 55], [(false, .str), (false, (.int .i64))], g⟩
abbrev Ez21 (g : gz21) (J : JT Rtz21) (lf : Nat) (x1 : (List DToken)) := icodeTB Tryd.prog ttT.get nmz21 (mP [.dat (.list cToken), .fn 55]) fi54.nt (clz21 _ lf) lf stz21 J fi54.body [] (argGo (argsP [.dat (.list cToken), .fn 55] idN 0 (x1, ())) 0 .leaf) (Sc [.dat (.list cToken), .fn 55] (x1, ())) [] (lastQ ttT.get fi54 (sz21 g))
abbrev Bz21 (g : gz21) (J : JT Rtz21) (lf k : Nat) (ms : List Nat) (q : NRes) := icodeFTB Tryd.prog ttT.get nmz21 (mP [.dat (.list cToken), .fn 55]) fi54.nt (clz21 _ lf) lf stz21 J k fi54.body [] ms q (lastQ ttT.get fi54 (sz21 g))
theorem inz21 (g : gz21) (J : JT Rtz21) (lf : Nat) (x1 : (List DToken)) : Ez21 g J lf x1 = Rz21_in lf x1 (fun q => J 7 [lf] (encz21_7 x1 q)) := by kernel_rfl
theorem stz21_7 (g : gz21) (J : JT Rtz21) (lf : Nat) (x1 : (List DToken)) (m1 : Nat) (p : Int × (List Int)) : Bz21 g J lf 7 [m1] (encz21_7 x1 p) = Rz21_7 lf x1 (fun q => J 7 [m1] (encz21_7 x1 q)) p := by kernel_rfl
theorem ndz21 : (regs fi54.body).Nodup := by decide +kernel
theorem okz21 : okC nmz21 stz21 hdz21 fi54.body none = true := by kernel_rfl
def Az21 (g : gz21) (lf : Nat) : JT Rtz21 := atQ Tryd.prog ttT.get nmz21 fi54 (sz21 g) (clz21 _ lf) lf hdz21
def Gz21_7 (lf : Nat) (x1 : (List DToken)) : Nat → (Int × (List Int)) → Option Rtz21 := rounds fun K p => Rz21_7 lf x1 K p
theorem atz21_7 (g : gz21) (lf : Nat) (x1 : (List DToken)) : ∀ (n : Nat) (p : Int × (List Int)), Az21 g lf 7 [n] (encz21_7 x1 p) = Gz21_7 lf x1 n p
 | 0, p => atQ_zero 7 [0] rfl _
 | n + 1, p => by
   have ih := atz21_7 g lf x1 n
   refine (atQ_eq rfl (icallK_eq 20 _) ndz21 okz21 7 [n + 1] [n] rfl _).trans ((stz21_7 g (Az21 g lf) lf x1 n p).trans ?_)
   rw [(show (fun q => Az21 g lf 7 [n] (encz21_7 x1 q)) = (fun q => Gz21_7 lf x1 n q) from funext ih)]
   rfl
def Fz21 (lf : Nat) (x1 : (List DToken)) : Option Rtz21 := Rz21_in lf x1 (fun q => Gz21_7 lf x1 lf q)
theorem runz21 (g : gz21) (lf : Nat) (x1 : (List DToken)) : Ez21 g (Az21 g lf) lf x1 = Fz21 lf x1 := by
   refine (inz21 g (Az21 g lf) lf x1).trans ?_
   rw [(show (fun q => Az21 g lf 7 [lf] (encz21_7 x1 q)) = (fun q => Gz21_7 lf x1 lf q) from funext fun q => atz21_7 g lf x1 lf q)]
   rfl
theorem hxsz21 : HxsOK Tryd.prog hxlz21 := ⟨ixO115, ⟨ccHx_ok, ⟨bsHx_ok, trivial⟩⟩⟩
theorem mkz21 {g : gz21} (hsm : SmOK Tryd.prog smlz21) (hg : ∀ (x : ElP [.dat (.list cToken), .fn 55]) (y : Rtz21), WfP [.dat (.list cToken), .fn 55] x → g x = some y → ∃ lf, Fz21 lf x.1 = some y) : ConR Tryd.prog 54 ⟨[.dat (.list cToken), .fn 55], [(false, .str), (false, (.int .i64))], g⟩ :=
 conTR (nmf := nmz21) (sml := smlz21) (hxl := hxlz21) (st := stz21) (hd := hdz21) 20 mixed ttOK ftOK hsm hxsz21 cal54 (by kernel_rfl) (fun x => by kernel_rfl) ndz21 okz21 fun x y z hx hy => by
   obtain ⟨lf, h⟩ := hg x (y, z) hx hy
   exact ⟨lf, (runz21 g lf x.1).trans h⟩
def nmz22 : Nat → Option Nm := fun k => cond (Nat.beq k 7) (some ⟨[0, 1, 6, 14, 15, 16], [], [], [], [], 0, 0, false⟩) (cond (Nat.beq k 999999) (some ⟨[], [], [], [], [], 0, 0, false⟩) none)
def stz22 : Nat → Bool := fun k => cond (Nat.beq k 7) true (false)
def hdz22 := stz22
abbrev Rtz22 : Type := (ByteArray × Int × Unit) × Unit
def smlz22 : List (Nat × Sm) := [(86, spz17), (56, spz20)]
def hxlz22 : List (Nat × Hx) := [(115, idxHx cToken), (79, ccHx), (47, bsHx)]
def clz22 (R : Type) (lf : Nat) : ClK R := icallK Tryd.prog ttT.get ftT.get (fun _ _ => none) (smL smlz22) (hxL hxlz22) lf 20 R
abbrev idz22 : Nat := 54
def encz22_7 (x1 : (List DToken)) (p : Int × (List Int)) : NRes := (NRes.mk (.node (some (IV.lst cToken x1)) (.node (some (IV.fn 56 [])) (.node none (.node none (.node (some (IV.int .i64 (Int.ofNat (List.length x1)))) .leaf .leaf) .leaf) .leaf) .leaf) (.node none (.node none (.node none (.node (some (IV.int .i64 p.1)) .leaf .leaf) .leaf) .leaf) (.node (some (IV.ptr 0 0)) .leaf (.node (some (IV.lst cToken x1)) .leaf .leaf)))) (IS.mk (.node (some (IObj.bld 1)) (.node (some (IObj.arr (TC.int .u8) p.2)) .leaf .leaf) .leaf) 2) [] 0)
def Rz22_in (lf : Nat) (x1 : (List DToken)) (L7 : (Int × (List Int)) → Option Rtz22) : Option Rtz22 := (cond (iltI (Int.ofNat 6000) (Int.ofNat (List.length x1))) (some (((S.lit []), ((Int.ofNat 3), ())), ())) (match (idxO (fun v0 => (some (Bool.not (S.right (v0.1, (v0.2.1, (v0.2.2.1, v0.2.2.2))))))) x1 0) with | .none  => none | .some v1 => (cond (Bool.not (iltI v1 (Int.ofNat 0))) (some (((S.lit []), ((Int.ofNat 1), ())), ())) (L7 ((Int.ofNat 0), [])))))
def Rz22_7 (lf : Nat) (x1 : (List DToken)) (L7 : (Int × (List Int)) → Option Rtz22) (p : Int × (List Int)) : Option Rtz22 := (cond (iltI p.1 (Int.ofNat (List.length x1))) (match (jget x1 p.1) with | .none  => none | .some v0 => (cond (iltI (Int.ofNat 0) p.1) (match (jget x1 (IntKind.i64.wrap (Int.sub p.1 (Int.ofNat 1)))) with | .none  => none | .some v1 => (match (cond (Bool.and (Bool.and (S.right (v1.1, (v1.2.1, (v1.2.2.1, v1.2.2.2)))) (S.right (v0.1, (v0.2.1, (v0.2.2.1, v0.2.2.2))))) (Bool.and (S.small (v1.1, (v1.2.1, (v1.2.2.1, v1.2.2.2)))) (S.small (v0.1, (v0.2.1, (v0.2.2.1, v0.2.2.2)))))) (some ((S.needs (v1.1, (v1.2.1, (v1.2.2.1, v1.2.2.2))) (v0.1, (v0.2.1, (v0.2.2.1, v0.2.2.2)))), ())) none) with | .none  => none | .some v2 => (cond v2.1 (cond (Nat.ble (Nat.mul (Nat.add (List.length p.2) 1) 1) 140737488355328) (cond (Nat.ble (Nat.mul (Nat.add (List.length (List.append p.2 (List.cons (Int.ofNat 32) []))) (List.length (byteList v0.2.1))) 1) 140737488355328) (L7 ((IntKind.i64.wrap (Int.add p.1 (Int.ofNat 1))), (List.append (List.append p.2 (List.cons (Int.ofNat 32) [])) (byteList v0.2.1)))) none) none) (cond (Nat.ble (Nat.mul (Nat.add (List.length p.2) (List.length (byteList v0.2.1))) 1) 140737488355328) (L7 ((IntKind.i64.wrap (Int.add p.1 (Int.ofNat 1))), (List.append p.2 (byteList v0.2.1)))) none)))) (cond (Nat.ble (Nat.mul (Nat.add (List.length p.2) (List.length (byteList v0.2.1))) 1) 140737488355328) (L7 ((IntKind.i64.wrap (Int.add p.1 (Int.ofNat 1))), (List.append p.2 (byteList v0.2.1)))) none))) (cond (iltI (Int.ofNat 20000) (Int.ofNat (List.length p.2))) (some (((S.lit []), ((Int.ofNat 3), ())), ())) (some (((strOf p.2), ((Int.ofNat 0), ())), ()))))
abbrev gz22 : Type := ElP [.dat (.list cToken), .fn 56] → Option Rtz22
abbrev sz22 (g : gz22) : SmR := ⟨[.dat (.list cToken), .fn 56], [(false, .str), (false, (.int .i64))], g⟩
abbrev Ez22 (g : gz22) (J : JT Rtz22) (lf : Nat) (x1 : (List DToken)) := icodeTB Tryd.prog ttT.get nmz22 (mP [.dat (.list cToken), .fn 56]) fi54.nt (clz22 _ lf) lf stz22 J fi54.body [] (argGo (argsP [.dat (.list cToken), .fn 56] idN 0 (x1, ())) 0 .leaf) (Sc [.dat (.list cToken), .fn 56] (x1, ())) [] (lastQ ttT.get fi54 (sz22 g))
abbrev Bz22 (g : gz22) (J : JT Rtz22) (lf k : Nat) (ms : List Nat) (q : NRes) := icodeFTB Tryd.prog ttT.get nmz22 (mP [.dat (.list cToken), .fn 56]) fi54.nt (clz22 _ lf) lf stz22 J k fi54.body [] ms q (lastQ ttT.get fi54 (sz22 g))
theorem inz22 (g : gz22) (J : JT Rtz22) (lf : Nat) (x1 : (List DToken)) : Ez22 g J lf x1 = Rz22_in lf x1 (fun q => J 7 [lf] (encz22_7 x1 q)) := by kernel_rfl
theorem stz22_7 (g : gz22) (J : JT Rtz22) (lf : Nat) (x1 : (List DToken)) (m1 : Nat) (p : Int × (List Int)) : Bz22 g J lf 7 [m1] (encz22_7 x1 p) = Rz22_7 lf x1 (fun q => J 7 [m1] (encz22_7 x1 q)) p := by kernel_rfl
theorem ndz22 : (regs fi54.body).Nodup := by decide +kernel
theorem okz22 : okC nmz22 stz22 hdz22 fi54.body none = true := by kernel_rfl
def Az22 (g : gz22) (lf : Nat) : JT Rtz22 := atQ Tryd.prog ttT.get nmz22 fi54 (sz22 g) (clz22 _ lf) lf hdz22
def Gz22_7 (lf : Nat) (x1 : (List DToken)) : Nat → (Int × (List Int)) → Option Rtz22 := rounds fun K p => Rz22_7 lf x1 K p
theorem atz22_7 (g : gz22) (lf : Nat) (x1 : (List DToken)) : ∀ (n : Nat) (p : Int × (List Int)), Az22 g lf 7 [n] (encz22_7 x1 p) = Gz22_7 lf x1 n p
 | 0, p => atQ_zero 7 [0] rfl _
 | n + 1, p => by
   have ih := atz22_7 g lf x1 n
   refine (atQ_eq rfl (icallK_eq 20 _) ndz22 okz22 7 [n + 1] [n] rfl _).trans ((stz22_7 g (Az22 g lf) lf x1 n p).trans ?_)
   rw [(show (fun q => Az22 g lf 7 [n] (encz22_7 x1 q)) = (fun q => Gz22_7 lf x1 n q) from funext ih)]
   rfl
def Fz22 (lf : Nat) (x1 : (List DToken)) : Option Rtz22 := Rz22_in lf x1 (fun q => Gz22_7 lf x1 lf q)
theorem runz22 (g : gz22) (lf : Nat) (x1 : (List DToken)) : Ez22 g (Az22 g lf) lf x1 = Fz22 lf x1 := by
   refine (inz22 g (Az22 g lf) lf x1).trans ?_
   rw [(show (fun q => Az22 g lf 7 [lf] (encz22_7 x1 q)) = (fun q => Gz22_7 lf x1 lf q) from funext fun q => atz22_7 g lf x1 lf q)]
   rfl
theorem hxsz22 : HxsOK Tryd.prog hxlz22 := ⟨ixO115, ⟨ccHx_ok, ⟨bsHx_ok, trivial⟩⟩⟩
theorem mkz22 {g : gz22} (hsm : SmOK Tryd.prog smlz22) (hg : ∀ (x : ElP [.dat (.list cToken), .fn 56]) (y : Rtz22), WfP [.dat (.list cToken), .fn 56] x → g x = some y → ∃ lf, Fz22 lf x.1 = some y) : ConR Tryd.prog 54 ⟨[.dat (.list cToken), .fn 56], [(false, .str), (false, (.int .i64))], g⟩ :=
 conTR (nmf := nmz22) (sml := smlz22) (hxl := hxlz22) (st := stz22) (hd := hdz22) 20 mixed ttOK ftOK hsm hxsz22 cal54 (by kernel_rfl) (fun x => by kernel_rfl) ndz22 okz22 fun x y z hx hy => by
   obtain ⟨lf, h⟩ := hg x (y, z) hx hy
   exact ⟨lf, (runz22 g lf x.1).trans h⟩
def sepB (bl : DToken → DToken → Bool) (l : List DToken) (v : DToken) : List Int := match l.getLast? with
 | none => []
 | some p => cond (bl p v) [32] []
theorem put_snoc (bl : DToken → DToken → Bool) (v : DToken) : ∀ l : List DToken, S.putB bl (l ++ [v]) = S.putB bl l ++ (sepB bl l v ++ byteList v.2.1)
 | [] => rfl
 | [a] => by
   show S.putB bl [a, v] = byteList a.2.1 ++ (cond (bl a v) [32] [] ++ byteList v.2.1)
   rw [put_cons]
   cases bl a v <;> rfl
 | a :: b :: l => by
   have ih := put_snoc bl v (b :: l)
   have hs : sepB bl (a :: b :: l) v = sepB bl (b :: l) v := by unfold sepB; rw [List.getLast?_cons_cons]
   rw [List.cons_append, List.cons_append, put_cons, put_cons, hs, ← List.cons_append, ih]
   cases bl a b <;> simp
theorem put_le (bl : DToken → DToken → Bool) : ∀ l : List DToken, (∀ t ∈ l, t.2.1.size ≤ 400000) → (S.putB bl l).length ≤ 400001 * l.length
 | [], _ => Nat.le_refl _
 | [a], h => by
   show (byteList a.2.1).length ≤ 400001 * 1
   rw [bl_len]
   have := h a List.mem_cons_self
   omega
 | a :: b :: l, h => by
   have ih := put_le bl (b :: l) fun t ht => h t (List.mem_cons_of_mem _ ht)
   have := h a List.mem_cons_self
   rw [put_cons, List.length_append, bl_len]
   cases bl a b with
   | true => simp only [cond_true, List.length_cons] at ih ⊢; omega
   | false => simp only [cond_false, List.length_cons] at ih ⊢; omega
theorem last_take {l : List DToken} {i : Nat} {p : DToken} (h : l[i]? = some p) : (l.take (i + 1)).getLast? = some p := by
 rw [List.take_add_one, h]
 simp
theorem smallL_inv {l : List DToken} (h : S.smallL l = true) : ∀ t ∈ l, t.2.1.size ≤ 400000 := fun t ht => Nat.le_of_ble_eq_true (List.all_eq_true.1 h t ht)
theorem write_all_go (l : List DToken) (hl : l.length ≤ 6000) (hs : S.smallL l = true) (hr : ∀ t ∈ l, S.right t = true) : Gz21_7 LF l LF (Int.ofNat 0, []) = if 20000 < (S.putB S.always l).length then some ((S.lit [], 3, ()), ()) else some ((strOf (S.putB S.always l), 0, ()), ()) := by
 have hsm := smallL_inv hs
 refine range0 (σ := List Int) (R := Rtz21) l (fun i q => (i, q)) (fun i q => q = S.putB S.always (l.take i)) (fun _ _ _ => if 20000 < (S.putB S.always l).length then some ((S.lit [], 3, ()), ()) else some ((strOf (S.putB S.always l), 0, ()), ())) (by unfold LF; omega) (fun K q hq => ?_) (fun K i v rest q hq r h => ?_) [] rfl
 · rw [List.take_length] at hq
   simp only [Rz21_7, ilt_self, cond_false, ilt_nat]
   rw [← hq]
   by_cases c : 20000 < q.length
   · rw [decide_eq_true c, cond_true, if_pos c]; rfl
   · rw [decide_eq_false c, cond_false, if_neg c]; rfl
 · have hi := r.lt
   have hv := hsm v r.mem
   have hql : q.length ≤ 2400100000 := by
     have := put_le S.always (l.take i) fun t ht => hsm t (List.mem_of_mem_take ht)
     rw [List.length_take] at this
     rw [hq]; omega
   have hbv := bl_len v.2.1
   have r1 : Nat.ble (Nat.mul (Nat.add q.length 1) 1) 140737488355328 = true := Nat.ble_eq_true_of_le (by show (q.length + 1) * 1 ≤ _; omega)
   have r2 : Nat.ble (Nat.mul (Nat.add (List.append q [Int.ofNat 32]).length (byteList v.2.1).length) 1) 140737488355328 = true := Nat.ble_eq_true_of_le (by
     show ((q ++ [Int.ofNat 32]).length + (byteList v.2.1).length) * 1 ≤ _
     rw [List.length_append]
     simp only [List.length_cons, List.length_nil]; omega)
   have r3 : Nat.ble (Nat.mul (Nat.add q.length (byteList v.2.1).length) 1) 140737488355328 = true := Nat.ble_eq_true_of_le (by show (q.length + (byteList v.2.1).length) * 1 ≤ _; omega)
   simp only [Rz21_7, r.ilt, r.get, r.next, cond_true, ilt_nat]
   have hsn := put_snoc S.always v (l.take i)
   rw [← r.take] at hsn
   cases i with
   | zero =>
     rw [show decide (0 < 0) = false from rfl, cond_false, r3, cond_true]
     refine h _ ?_
     rw [hsn, ← hq]; rfl
   | succ i =>
     obtain ⟨p, hp⟩ : ∃ p, l[i]? = some p := ⟨_, List.getElem?_eq_getElem (by omega)⟩
     have w1 : IntKind.i64.wrap (Int.sub (Int.ofNat (i + 1)) (Int.ofNat 1)) = Int.ofNat i := by
       rw [show Int.sub (Int.ofNat (i + 1)) (Int.ofNat 1) = Int.ofNat i by show ((i + 1 : Nat) : Int) - 1 = (i : Int); omega]
       exact wrap_nat (n := i) (by omega)
     have hjp : jget l (Int.ofNat i) = some p := jget_nat.trans hp
     have hlast := last_take hp
     have hsep : sepB S.always (l.take (i + 1)) v = cond (S.always p v) [32] [] := by unfold sepB; rw [hlast]
     have hpm := List.mem_of_getElem? hp
     rw [hsep] at hsn
     rw [decide_eq_true (Nat.succ_pos i), cond_true, w1, hjp]
     simp only
     rw [r1, cond_true, r2, cond_true]
     refine h _ ?_
     rw [hsn, ← hq]
     show (q ++ [32]) ++ byteList v.2.1 = q ++ ([32] ++ byteList v.2.1)
     rw [List.append_assoc]
theorem Fz21_eq (l : List DToken) (hs : S.smallL l = true) : Fz21 LF l = some (((S.put S.always l).1, (S.put S.always l).2, ()), ()) := by
 have hi : idxO (fun v0 : DToken => (some (Bool.not (S.right (v0.1, (v0.2.1, (v0.2.2.1, v0.2.2.2))))))) l 0 = some (Go.Jx.S.idx (fun t => !S.right t) l) := idxO_idx (fun t => !S.right t) fun x _ => rfl
 simp only [Fz21, Rz21_in, ilt_nat, S.put]
 by_cases c : 6000 < l.length
 · rw [decide_eq_true c, cond_true, if_pos c]; rfl
 · rw [decide_eq_false c, cond_false, if_neg c]
   rw [hi]
   simp only
   have hz := Go.Jx.S.idx_nonneg (fun t => !S.right t) l
   by_cases ha : l.any (fun t => !S.right t) = true
   · rw [if_pos ha, ilt_f (show ¬ Go.Jx.S.idx (fun t => !S.right t) l < Int.ofNat 0 by have := hz.2 ha; show ¬ _ < (0 : Int); omega), Bool.not_false, cond_true]
     rfl
   · rw [if_neg ha, ilt_t (show Go.Jx.S.idx (fun t => !S.right t) l < Int.ofNat 0 by
       refine Int.not_le.1 fun h => ha (hz.1 h)), Bool.not_true, cond_false]
     have hr : ∀ t ∈ l, S.right t = true := fun t ht => by
       cases h : S.right t with
       | true => rfl
       | false => exact absurd (List.any_eq_true.2 ⟨t, ht, by rw [h]; rfl⟩) ha
     refine (write_all_go l (by omega) hs hr).trans ?_
     by_cases c2 : 20000 < (S.putB S.always l).length
     · rw [if_pos c2, if_pos c2]
     · rw [if_neg c2, if_neg c2]
theorem conz21 : ConR Tryd.prog idz21 spz21 := mkz21 ⟨conz17, conz20, trivial⟩ fun x y hx h => ⟨LF, by
 obtain ⟨h1, h2⟩ := cond_some' (show cond (S.smallL x.1) (some (((S.put S.always x.1).1, (S.put S.always x.1).2, ()), ())) none = some y from h)
 exact (Fz21_eq x.1 h1).trans (congrArg some h2)⟩
theorem write_need_go (l : List DToken) (hl : l.length ≤ 6000) (hs : S.smallL l = true) (hr : ∀ t ∈ l, S.right t = true) : Gz22_7 LF l LF (Int.ofNat 0, []) = if 20000 < (S.putB S.needs l).length then some ((S.lit [], 3, ()), ()) else some ((strOf (S.putB S.needs l), 0, ()), ()) := by
 have hsm := smallL_inv hs
 refine range0 (σ := List Int) (R := Rtz22) l (fun i q => (i, q)) (fun i q => q = S.putB S.needs (l.take i)) (fun _ _ _ => if 20000 < (S.putB S.needs l).length then some ((S.lit [], 3, ()), ()) else some ((strOf (S.putB S.needs l), 0, ()), ())) (by unfold LF; omega) (fun K q hq => ?_) (fun K i v rest q hq r h => ?_) [] rfl
 · rw [List.take_length] at hq
   simp only [Rz22_7, ilt_self, cond_false, ilt_nat]
   rw [← hq]
   by_cases c : 20000 < q.length
   · rw [decide_eq_true c, cond_true, if_pos c]; rfl
   · rw [decide_eq_false c, cond_false, if_neg c]; rfl
 · have hi := r.lt
   have hv := hsm v r.mem
   have hql : q.length ≤ 2400100000 := by
     have := put_le S.needs (l.take i) fun t ht => hsm t (List.mem_of_mem_take ht)
     rw [List.length_take] at this
     rw [hq]; omega
   have hbv := bl_len v.2.1
   have r1 : Nat.ble (Nat.mul (Nat.add q.length 1) 1) 140737488355328 = true := Nat.ble_eq_true_of_le (by show (q.length + 1) * 1 ≤ _; omega)
   have r2 : Nat.ble (Nat.mul (Nat.add (List.append q [Int.ofNat 32]).length (byteList v.2.1).length) 1) 140737488355328 = true := Nat.ble_eq_true_of_le (by
     show ((q ++ [Int.ofNat 32]).length + (byteList v.2.1).length) * 1 ≤ _
     rw [List.length_append]
     simp only [List.length_cons, List.length_nil]; omega)
   have r3 : Nat.ble (Nat.mul (Nat.add q.length (byteList v.2.1).length) 1) 140737488355328 = true := Nat.ble_eq_true_of_le (by show (q.length + (byteList v.2.1).length) * 1 ≤ _; omega)
   simp only [Rz22_7, r.ilt, r.get, r.next, cond_true, ilt_nat]
   have hsn := put_snoc S.needs v (l.take i)
   rw [← r.take] at hsn
   cases i with
   | zero =>
     rw [show decide (0 < 0) = false from rfl, cond_false, r3, cond_true]
     refine h _ ?_
     rw [hsn, ← hq]; rfl
   | succ i =>
     obtain ⟨p, hp⟩ : ∃ p, l[i]? = some p := ⟨_, List.getElem?_eq_getElem (by omega)⟩
     have w1 : IntKind.i64.wrap (Int.sub (Int.ofNat (i + 1)) (Int.ofNat 1)) = Int.ofNat i := by
       rw [show Int.sub (Int.ofNat (i + 1)) (Int.ofNat 1) = Int.ofNat i by show ((i + 1 : Nat) : Int) - 1 = (i : Int); omega]
       exact wrap_nat (n := i) (by omega)
     have hjp : jget l (Int.ofNat i) = some p := jget_nat.trans hp
     have hlast := last_take hp
     have hsep : sepB S.needs (l.take (i + 1)) v = cond (S.needs p v) [32] [] := by unfold sepB; rw [hlast]
     have hpm := List.mem_of_getElem? hp
     rw [hsep] at hsn
     rw [decide_eq_true (Nat.succ_pos i), cond_true, w1, hjp]
     simp only
     have g1 : S.right p = true := hr p hpm
     have g2 : S.right v = true := hr v r.mem
     have g3 : S.small p = true := List.all_eq_true.1 hs p hpm
     have g4 : S.small v = true := List.all_eq_true.1 hs v r.mem
     rw [show S.right (p.1, (p.2.1, (p.2.2.1, p.2.2.2))) = true from g1, show S.right (v.1, (v.2.1, (v.2.2.1, v.2.2.2))) = true from g2, show S.small (p.1, (p.2.1, (p.2.2.1, p.2.2.2))) = true from g3, show S.small (v.1, (v.2.1, (v.2.2.1, v.2.2.2))) = true from g4]
     simp only [Bool.and_true, cond_true]
     show cond (S.needs p v) _ _ = _
     cases hn : S.needs p v with
     | true =>
       rw [hn] at hsn
       rw [cond_true, r1, cond_true, r2, cond_true]
       refine h _ ?_
       rw [hsn, ← hq]
       show (q ++ [32]) ++ byteList v.2.1 = q ++ ([32] ++ byteList v.2.1)
       rw [List.append_assoc]
     | false =>
       rw [hn] at hsn
       rw [cond_false, r3, cond_true]
       refine h _ ?_
       rw [hsn, ← hq]
       rfl
theorem Fz22_eq (l : List DToken) (hs : S.smallL l = true) : Fz22 LF l = some (((S.put S.needs l).1, (S.put S.needs l).2, ()), ()) := by
 have hi : idxO (fun v0 : DToken => (some (Bool.not (S.right (v0.1, (v0.2.1, (v0.2.2.1, v0.2.2.2))))))) l 0 = some (Go.Jx.S.idx (fun t => !S.right t) l) := idxO_idx (fun t => !S.right t) fun x _ => rfl
 simp only [Fz22, Rz22_in, ilt_nat, S.put]
 by_cases c : 6000 < l.length
 · rw [decide_eq_true c, cond_true, if_pos c]; rfl
 · rw [decide_eq_false c, cond_false, if_neg c]
   rw [hi]
   simp only
   have hz := Go.Jx.S.idx_nonneg (fun t => !S.right t) l
   by_cases ha : l.any (fun t => !S.right t) = true
   · rw [if_pos ha, ilt_f (show ¬ Go.Jx.S.idx (fun t => !S.right t) l < Int.ofNat 0 by have := hz.2 ha; show ¬ _ < (0 : Int); omega), Bool.not_false, cond_true]
     rfl
   · rw [if_neg ha, ilt_t (show Go.Jx.S.idx (fun t => !S.right t) l < Int.ofNat 0 by
       refine Int.not_le.1 fun h => ha (hz.1 h)), Bool.not_true, cond_false]
     have hr : ∀ t ∈ l, S.right t = true := fun t ht => by
       cases h : S.right t with
       | true => rfl
       | false => exact absurd (List.any_eq_true.2 ⟨t, ht, by rw [h]; rfl⟩) ha
     refine (write_need_go l (by omega) hs hr).trans ?_
     by_cases c2 : 20000 < (S.putB S.needs l).length
     · rw [if_pos c2, if_pos c2]
     · rw [if_neg c2, if_neg c2]
theorem conz22 : ConR Tryd.prog idz22 spz22 := mkz22 ⟨conz17, conz20, trivial⟩ fun x y hx h => ⟨LF, by
 obtain ⟨h1, h2⟩ := cond_some' (show cond (S.smallL x.1) (some (((S.put S.needs x.1).1, (S.put S.needs x.1).2, ()), ())) none = some y from h)
 exact (Fz22_eq x.1 h1).trans (congrArg some h2)⟩
def nmz23 : Nat → Option Nm := fun k => none
def stz23 : Nat → Bool := fun k => false
def hdz23 := stz23
abbrev Rtz23 : Type := ByteArray × Int × Unit
def smlz23 : List (Nat × Sm) := []
def hxlz23 : List (Nat × Hx) := [(54, hxSel (lastFn 55) (hxR spz21) (hxR spz22))]
def clz23 (R : Type) (lf : Nat) : ClK R := icallK Tryd.prog ttT.get ftT.get (nm1 27 nmz23) (smL smlz23) (hxL hxlz23) lf 20 R
abbrev idz23 : Nat := 27
def Rz23_in (lf : Nat) (x1 : (List DToken)) : Option Rtz23 := (match (cond (S.smallL x1) (some (((S.put S.always x1).1, ((S.put S.always x1).2, ())), ())) none) with | .none  => none | .some v0 => (some (v0.1.1, (v0.1.2.1, ()))))
abbrev gz23 : Type := ElA [(.list cToken)] → Option Rtz23
abbrev sz23 (g : gz23) : Sm := ⟨[(.list cToken)], [(false, .str), (false, (.int .i64))], g⟩
abbrev Ez23 (g : gz23) (J : JT Rtz23) (lf : Nat) (x1 : (List DToken)) := icodeT Tryd.prog ttT.get nmz23 fi27.nt (clz23 _ lf) lf stz23 J fi27.body [] (argGo (argV [(.list cToken)] (x1, ())) 0 .leaf) S0 [] (lastK ttT.get fi27 (sz23 g))
theorem inz23 (g : gz23) (J : JT Rtz23) (lf : Nat) (x1 : (List DToken)) : Ez23 g J lf x1 = Rz23_in lf x1 := by kernel_rfl
theorem ndz23 : (regs fi27.body).Nodup := by decide +kernel
theorem okz23 : okC nmz23 stz23 hdz23 fi27.body none = true := by kernel_rfl
def Az23 (g : gz23) (lf : Nat) : JT Rtz23 := atN Tryd.prog ttT.get nmz23 fi27 (sz23 g) (clz23 _ lf) lf hdz23
def Fz23 (lf : Nat) (x1 : (List DToken)) : Option Rtz23 := Rz23_in lf x1
theorem runz23 (g : gz23) (lf : Nat) (x1 : (List DToken)) : Ez23 g (Az23 g lf) lf x1 = Fz23 lf x1 := by
   refine (inz23 g (Az23 g lf) lf x1).trans ?_
   rfl
theorem hxsz23 : HxsOK Tryd.prog hxlz23 := ⟨hxSel_ok (hxR_ok conz21) (hxR_ok conz22), trivial⟩
theorem mkz23 {g : gz23} (hsm : SmOK Tryd.prog smlz23) (hg : ∀ (x : ElA [(.list cToken)]) (y : Rtz23), WfA [(.list cToken)] x → g x = some y → ∃ lf, Fz23 lf x.1 = some y) : Con Tryd.prog 27 ⟨[(.list cToken)], [(false, .str), (false, (.int .i64))], g⟩ :=
 conT (nmf := nmz23) (sml := smlz23) (hxl := hxlz23) (st := stz23) (hd := hdz23) 20 mixed ttOK ftOK hsm hxsz23 cal27 rfl rfl (by kernel_rfl) (fun x => by kernel_rfl) ndz23 okz23 fun x y hx hy => by
   obtain ⟨lf, h⟩ := hg x y hx hy
   exact ⟨lf, (runz23 g lf x.1).trans h⟩
def nmz24 : Nat → Option Nm := fun k => none
def stz24 : Nat → Bool := fun k => false
def hdz24 := stz24
abbrev Rtz24 : Type := ByteArray × Int × Unit
def smlz24 : List (Nat × Sm) := []
def hxlz24 : List (Nat × Hx) := [(54, hxSel (lastFn 55) (hxR spz21) (hxR spz22))]
def clz24 (R : Type) (lf : Nat) : ClK R := icallK Tryd.prog ttT.get ftT.get (nm1 28 nmz24) (smL smlz24) (hxL hxlz24) lf 20 R
abbrev idz24 : Nat := 28
def Rz24_in (lf : Nat) (x1 : (List DToken)) : Option Rtz24 := (match (cond (S.smallL x1) (some (((S.put S.needs x1).1, ((S.put S.needs x1).2, ())), ())) none) with | .none  => none | .some v0 => (some (v0.1.1, (v0.1.2.1, ()))))
abbrev gz24 : Type := ElA [(.list cToken)] → Option Rtz24
abbrev sz24 (g : gz24) : Sm := ⟨[(.list cToken)], [(false, .str), (false, (.int .i64))], g⟩
abbrev Ez24 (g : gz24) (J : JT Rtz24) (lf : Nat) (x1 : (List DToken)) := icodeT Tryd.prog ttT.get nmz24 fi28.nt (clz24 _ lf) lf stz24 J fi28.body [] (argGo (argV [(.list cToken)] (x1, ())) 0 .leaf) S0 [] (lastK ttT.get fi28 (sz24 g))
theorem inz24 (g : gz24) (J : JT Rtz24) (lf : Nat) (x1 : (List DToken)) : Ez24 g J lf x1 = Rz24_in lf x1 := by kernel_rfl
theorem ndz24 : (regs fi28.body).Nodup := by decide +kernel
theorem okz24 : okC nmz24 stz24 hdz24 fi28.body none = true := by kernel_rfl
def Az24 (g : gz24) (lf : Nat) : JT Rtz24 := atN Tryd.prog ttT.get nmz24 fi28 (sz24 g) (clz24 _ lf) lf hdz24
def Fz24 (lf : Nat) (x1 : (List DToken)) : Option Rtz24 := Rz24_in lf x1
theorem runz24 (g : gz24) (lf : Nat) (x1 : (List DToken)) : Ez24 g (Az24 g lf) lf x1 = Fz24 lf x1 := by
   refine (inz24 g (Az24 g lf) lf x1).trans ?_
   rfl
theorem hxsz24 : HxsOK Tryd.prog hxlz24 := ⟨hxSel_ok (hxR_ok conz21) (hxR_ok conz22), trivial⟩
theorem mkz24 {g : gz24} (hsm : SmOK Tryd.prog smlz24) (hg : ∀ (x : ElA [(.list cToken)]) (y : Rtz24), WfA [(.list cToken)] x → g x = some y → ∃ lf, Fz24 lf x.1 = some y) : Con Tryd.prog 28 ⟨[(.list cToken)], [(false, .str), (false, (.int .i64))], g⟩ :=
 conT (nmf := nmz24) (sml := smlz24) (hxl := hxlz24) (st := stz24) (hd := hdz24) 20 mixed ttOK ftOK hsm hxsz24 cal28 rfl rfl (by kernel_rfl) (fun x => by kernel_rfl) ndz24 okz24 fun x y hx hy => by
   obtain ⟨lf, h⟩ := hg x y hx hy
   exact ⟨lf, (runz24 g lf x.1).trans h⟩
theorem Fz23_eq (lf : Nat) (l : List DToken) (hs : S.smallL l = true) : Fz23 lf l = some ((S.put S.always l).1, (S.put S.always l).2, ()) := by
 simp only [Fz23, Rz23_in, hs, cond_true]
theorem conz23 : Con Tryd.prog idz23 spz23 := mkz23 trivial fun x y hx h => ⟨0, by
 obtain ⟨h1, h2⟩ := cond_some' (show cond (S.smallL x.1) (some ((S.put S.always x.1).1, (S.put S.always x.1).2, ())) none = some y from h)
 exact (Fz23_eq 0 x.1 h1).trans (congrArg some h2)⟩
theorem Fz24_eq (lf : Nat) (l : List DToken) (hs : S.smallL l = true) : Fz24 lf l = some ((S.put S.needs l).1, (S.put S.needs l).2, ()) := by
 simp only [Fz24, Rz24_in, hs, cond_true]
theorem conz24 : Con Tryd.prog idz24 spz24 := mkz24 trivial fun x y hx h => ⟨0, by
 obtain ⟨h1, h2⟩ := cond_some' (show cond (S.smallL x.1) (some ((S.put S.needs x.1).1, (S.put S.needs x.1).2, ())) none = some y from h)
 exact (Fz24_eq 0 x.1 h1).trans (congrArg some h2)⟩
def nmz25 : Nat → Option Nm := fun k => cond (Nat.beq k 4) (some ⟨[0, 25, 26, 27], [], [], [], [], 0, 0, false⟩) (cond (Nat.beq k 19) (some ⟨[0, 7, 17], [], [], [], [], 0, 0, false⟩) (none))
def stz25 : Nat → Bool := fun k => cond (Nat.beq k 4) true (cond (Nat.beq k 19) true (false))
def hdz25 := stz25
abbrev Rtz25 : Type := Bool × Unit
def smlz25 : List (Nat × Sm) := [(22, spz15), (28, spz24), (27, spz23), (29, spz16), (13, sp_l_sanity)]
def hxlz25 : List (Nat × Hx) := []
def clz25 (R : Type) (lf : Nat) : ClK R := icallK Tryd.prog ttT.get ftT.get (nm1 7 nmz25) (smL smlz25) (hxL hxlz25) lf 20 R
abbrev idz25 : Nat := 7
def encz25_4 (x1 : (List DToken)) (p : Int) : NRes := (NRes.mk (.node (some (IV.lst cToken x1)) (.node none (.node none .leaf (.node none .leaf (.node (some (IV.int .i64 p)) .leaf .leaf))) (.node none (.node none .leaf (.node (some (IV.lst cToken x1)) .leaf .leaf)) .leaf)) (.node none .leaf (.node none (.node none .leaf (.node (some (IV.int .i64 (Int.ofNat (List.length x1)))) .leaf .leaf)) .leaf))) (IS.mk .leaf 0) [] 0)
def encz25_19 (x1 : (List DToken)) (p : ByteArray × Int) : NRes := (NRes.mk (.node (some (IV.lst cToken x1)) (.node none (.node none (.node (some (IV.str p.1)) .leaf .leaf) .leaf) (.node none (.node none (.node (some (IV.int .i64 p.2)) .leaf .leaf) .leaf) .leaf)) .leaf) (IS.mk .leaf 0) [] 0)
def Rz25_in (lf : Nat) (x1 : (List DToken)) (L4 : Int → Option Rtz25) : Option Rtz25 := (cond (iltI (Int.ofNat 200) (Int.ofNat (List.length x1))) (some (Bool.true, ())) (L4 (Int.ofNat 0)))
def Rz25_4 (lf : Nat) (x1 : (List DToken)) (L4 : Int → Option Rtz25) (L19 : (ByteArray × Int) → Option Rtz25) (p : Int) : Option Rtz25 := (cond (iltI p (Int.ofNat (List.length x1))) (match (jget x1 p) with | .none  => none | .some v0 => (cond (iltI (Int.ofNat 60) (Int.ofNat (ByteArray.size v0.2.1))) (some (Bool.true, ())) (L4 (IntKind.i64.wrap (Int.add p (Int.ofNat 1)))))) (match (cond (S.smallL x1) (some ((S.put S.always x1).1, ((S.put S.always x1).2, ()))) none) with | .none  => none | .some v24 => (match (cond (S.smallL x1) (some ((S.put S.needs x1).1, ((S.put S.needs x1).2, ()))) none) with | .none  => none | .some v25 => (cond (Bool.not (ieqI v24.2.1 (Int.ofNat 0))) (some ((ieqI v24.2.1 v25.2.1), ())) (cond (Bool.not (ieqI v25.2.1 (Int.ofNat 0))) (some ((ieqI v24.2.1 v25.2.1), ())) (match (cond (S.fits v24.1) (some ((S.tokens v24.1).1, ((S.tokens v24.1).2.2.1, ((S.tokens v24.1).2.2.2, ())))) none) with | .none  => none | .some v26 => (match (cond (S.fits v25.1) (some ((S.tokens v25.1).1, ((S.tokens v25.1).2.2.1, ((S.tokens v25.1).2.2.2, ())))) none) with | .none  => none | .some v27 => (match (cond (S.smallL v27.1) (some ((S.put S.needs v27.1).1, ((S.put S.needs v27.1).2, ()))) none) with | .none  => none | .some v28 => (cond (Bool.not (ieqI v26.2.2.1 (Int.ofNat 0))) (some (Bool.false, ())) (cond (Bool.not (ieqI v27.2.2.1 (Int.ofNat 0))) (some (Bool.false, ())) (cond (Bool.not (ieqI v28.2.1 (Int.ofNat 0))) (some (Bool.false, ())) (cond (Bool.not (S.sameK v26.1 x1)) (some (Bool.false, ())) (cond (Bool.not (S.sameK v27.1 x1)) (some (Bool.false, ())) (cond (iltI (Int.ofNat (ByteArray.size v24.1)) (Int.ofNat (ByteArray.size v25.1))) (some (Bool.false, ())) (cond (Bool.not (keqS v28.1 v25.1)) (some (Bool.false, ())) (L19 (v25.1, (Int.ofNat 0))))))))))))))))))
def Rz25_19 (lf : Nat) (x1 : (List DToken)) (L19 : (ByteArray × Int) → Option Rtz25) (p : ByteArray × Int) : Option Rtz25 := (cond (iltI p.2 (Int.ofNat (ByteArray.size p.1))) (match (jget (byteList p.1) p.2) with | .none  => none | .some v0 => (cond (Bool.not (ieqI v0 (Int.ofNat 32))) (L19 (p.1, (IntKind.i64.wrap (Int.add p.2 (Int.ofNat 1))))) (cond (lchk (Int.ofNat 0) p.2 (Int.ofNat (ByteArray.size p.1)) (Int.ofNat (ByteArray.size p.1))) (cond (lchk (IntKind.i64.wrap (Int.add p.2 (Int.ofNat 1))) (Int.ofNat (ByteArray.size p.1)) (Int.ofNat (ByteArray.size p.1)) (Int.ofNat (ByteArray.size p.1))) (cond (Nat.ble (Nat.succ (Nat.add (ByteArray.size (ByteArray.extract p.1 0 (Int.toNat p.2))) (ByteArray.size (ByteArray.extract p.1 (Int.toNat (IntKind.i64.wrap (Int.add p.2 (Int.ofNat 1)))) (Int.toNat (Int.ofNat (ByteArray.size p.1))))))) 9223372036854775808) (match (cond (S.fits (ByteArray.append (ByteArray.extract p.1 0 (Int.toNat p.2)) (ByteArray.extract p.1 (Int.toNat (IntKind.i64.wrap (Int.add p.2 (Int.ofNat 1)))) (Int.toNat (Int.ofNat (ByteArray.size p.1)))))) (some ((S.tokens (ByteArray.append (ByteArray.extract p.1 0 (Int.toNat p.2)) (ByteArray.extract p.1 (Int.toNat (IntKind.i64.wrap (Int.add p.2 (Int.ofNat 1)))) (Int.toNat (Int.ofNat (ByteArray.size p.1)))))).1, ((S.tokens (ByteArray.append (ByteArray.extract p.1 0 (Int.toNat p.2)) (ByteArray.extract p.1 (Int.toNat (IntKind.i64.wrap (Int.add p.2 (Int.ofNat 1)))) (Int.toNat (Int.ofNat (ByteArray.size p.1)))))).2.2.1, ((S.tokens (ByteArray.append (ByteArray.extract p.1 0 (Int.toNat p.2)) (ByteArray.extract p.1 (Int.toNat (IntKind.i64.wrap (Int.add p.2 (Int.ofNat 1)))) (Int.toNat (Int.ofNat (ByteArray.size p.1)))))).2.2.2, ())))) none) with | .none  => none | .some v24 => (cond (ieqI v24.2.2.1 (Int.ofNat 0)) (cond (S.sameK v24.1 x1) (some (Bool.false, ())) (L19 (p.1, (IntKind.i64.wrap (Int.add p.2 (Int.ofNat 1)))))) (L19 (p.1, (IntKind.i64.wrap (Int.add p.2 (Int.ofNat 1))))))) none) none) none))) (some (Bool.true, ())))
abbrev gz25 : Type := ElA [(.list cToken)] → Option Rtz25
abbrev sz25 (g : gz25) : Sm := ⟨[(.list cToken)], [(false, .bool)], g⟩
abbrev Ez25 (g : gz25) (J : JT Rtz25) (lf : Nat) (x1 : (List DToken)) := icodeT Tryd.prog ttT.get nmz25 fi7.nt (clz25 _ lf) lf stz25 J fi7.body [] (argGo (argV [(.list cToken)] (x1, ())) 0 .leaf) S0 [] (lastK ttT.get fi7 (sz25 g))
abbrev Bz25 (g : gz25) (J : JT Rtz25) (lf k : Nat) (ms : List Nat) (q : NRes) := icodeFT Tryd.prog ttT.get nmz25 fi7.nt (clz25 _ lf) lf stz25 J k fi7.body [] ms q (lastK ttT.get fi7 (sz25 g))
theorem inz25 (g : gz25) (J : JT Rtz25) (lf : Nat) (x1 : (List DToken)) : Ez25 g J lf x1 = Rz25_in lf x1 (fun q => J 4 [lf] (encz25_4 x1 q)) := by kernel_rfl
theorem stz25_4 (g : gz25) (J : JT Rtz25) (lf : Nat) (x1 : (List DToken)) (m1 : Nat) (p : Int) : Bz25 g J lf 4 [m1] (encz25_4 x1 p) = Rz25_4 lf x1 (fun q => J 4 [m1] (encz25_4 x1 q)) (fun q => J 19 [lf] (encz25_19 x1 q)) p := by kernel_rfl
theorem stz25_19 (g : gz25) (J : JT Rtz25) (lf : Nat) (x1 : (List DToken)) (m1 : Nat) (p : ByteArray × Int) : Bz25 g J lf 19 [m1] (encz25_19 x1 p) = Rz25_19 lf x1 (fun q => J 19 [m1] (encz25_19 x1 q)) p := by kernel_rfl
theorem ndz25 : (regs fi7.body).Nodup := by decide +kernel
theorem okz25 : okC nmz25 stz25 hdz25 fi7.body none = true := by kernel_rfl
def Az25 (g : gz25) (lf : Nat) : JT Rtz25 := atN Tryd.prog ttT.get nmz25 fi7 (sz25 g) (clz25 _ lf) lf hdz25
def Gz25_19 (lf : Nat) (x1 : (List DToken)) : Nat → (ByteArray × Int) → Option Rtz25 := rounds fun K p => Rz25_19 lf x1 K p
theorem atz25_19 (g : gz25) (lf : Nat) (x1 : (List DToken)) : ∀ (n : Nat) (p : ByteArray × Int), Az25 g lf 19 [n] (encz25_19 x1 p) = Gz25_19 lf x1 n p
 | 0, p => atN_zero 19 [0] rfl _
 | n + 1, p => by
   have ih := atz25_19 g lf x1 n
   refine (atN_eq (icallK_eq 20 _) ndz25 okz25 19 [n + 1] [n] rfl _).trans ((stz25_19 g (Az25 g lf) lf x1 n p).trans ?_)
   rw [(show (fun q => Az25 g lf 19 [n] (encz25_19 x1 q)) = (fun q => Gz25_19 lf x1 n q) from funext ih)]
   rfl
def Gz25_4 (lf : Nat) (x1 : (List DToken)) : Nat → (Int) → Option Rtz25 := rounds fun K p => Rz25_4 lf x1 K (fun q => Gz25_19 lf x1 lf q) p
theorem atz25_4 (g : gz25) (lf : Nat) (x1 : (List DToken)) : ∀ (n : Nat) (p : Int), Az25 g lf 4 [n] (encz25_4 x1 p) = Gz25_4 lf x1 n p
 | 0, p => atN_zero 4 [0] rfl _
 | n + 1, p => by
   have ih := atz25_4 g lf x1 n
   refine (atN_eq (icallK_eq 20 _) ndz25 okz25 4 [n + 1] [n] rfl _).trans ((stz25_4 g (Az25 g lf) lf x1 n p).trans ?_)
   rw [(show (fun q => Az25 g lf 19 [lf] (encz25_19 x1 q)) = (fun q => Gz25_19 lf x1 lf q) from funext fun q => atz25_19 g lf x1 lf q), (show (fun q => Az25 g lf 4 [n] (encz25_4 x1 q)) = (fun q => Gz25_4 lf x1 n q) from funext ih)]
   rfl
def Fz25 (lf : Nat) (x1 : (List DToken)) : Option Rtz25 := Rz25_in lf x1 (fun q => Gz25_4 lf x1 lf q)
theorem runz25 (g : gz25) (lf : Nat) (x1 : (List DToken)) : Ez25 g (Az25 g lf) lf x1 = Fz25 lf x1 := by
   refine (inz25 g (Az25 g lf) lf x1).trans ?_
   rw [(show (fun q => Az25 g lf 4 [lf] (encz25_4 x1 q)) = (fun q => Gz25_4 lf x1 lf q) from funext fun q => atz25_4 g lf x1 lf q)]
   rfl
theorem hxsz25 : HxsOK Tryd.prog hxlz25 := trivial
theorem mkz25 {g : gz25} (hsm : SmOK Tryd.prog smlz25) (hg : ∀ (x : ElA [(.list cToken)]) (y : Rtz25), WfA [(.list cToken)] x → g x = some y → ∃ lf, Fz25 lf x.1 = some y) : Con Tryd.prog 7 ⟨[(.list cToken)], [(false, .bool)], g⟩ :=
 conT (nmf := nmz25) (sml := smlz25) (hxl := hxlz25) (st := stz25) (hd := hdz25) 20 mixed ttOK ftOK hsm hxsz25 cal7 rfl rfl (by kernel_rfl) (fun x => by kernel_rfl) ndz25 okz25 fun x y hx hy => by
   obtain ⟨lf, h⟩ := hg x y hx hy
   exact ⟨lf, (runz25 g lf x.1).trans h⟩


def smSan : List (Nat × Sm) := [(36, sp_x_Keywords), (42, sp_strings_Count), (122, sp_internal_stringslite_IndexByte), (32, spz11)]
def hxSan : List (Nat × Hx) := [(79, ccHx), (47, bsHx)]
theorem run_l_sanity : icallK Tryd.prog ttT.get ftT.get (fun _ _ => none) (smL smSan) (hxL hxSan) 1000 100 _ (.fn 13) [] S0 (runR sp_l_sanity) = some (true, ()) := by kernel_rfl
theorem con_l_sanity : Con Tryd.prog 13 sp_l_sanity :=
 conK (nm := fun _ _ => none) (sm := smL smSan) (hx := hxL hxSan) mixed ttOK ftOK (smL_ok ⟨con_x_Keywords, con_strings_Count, con_internal_stringslite_IndexByte, conz11, trivial⟩) (hxL_ok ⟨ccHx_ok, bsHx_ok, trivial⟩) cal13 fun x y hx h => ⟨100, 1000, run_l_sanity.trans h⟩
theorem ieq_self (a : Int) : ieqI a a = true := ieq_t rfl
theorem put_ok {bl : DToken → DToken → Bool} {l : List DToken} (hl : l.length ≤ 6000) (hr : ∀ t ∈ l, S.right t = true) (hp : (S.putB bl l).length ≤ 20000) : S.put bl l = (putS bl l, 0) := by
 unfold S.put
 rw [if_neg (by omega), if_neg, if_neg (by omega)]
 · rfl
 · intro h
   obtain ⟨t, ht, h2⟩ := List.any_eq_true.1 h
   rw [hr t ht] at h2
   cases h2
theorem smallL_of {l : List DToken} {n : Nat} (hn : n ≤ 400000) (h : ∀ t ∈ l, t.2.1.size ≤ n) : S.smallL l = true := List.all_eq_true.2 fun t ht => Nat.ble_eq_true_of_le (Nat.le_trans (h t ht) hn)
theorem put_bound (bl : DToken → DToken → Bool) (n : Nat) : ∀ l : List DToken, (∀ t ∈ l, t.2.1.size ≤ n) → (S.putB bl l).length ≤ (n + 1) * l.length
 | [], _ => Nat.zero_le _
 | a :: l, h => by
   have ih := put_bound bl n l fun t ht => h t (List.mem_cons_of_mem _ ht)
   have := h a List.mem_cons_self
   rw [put_len, List.length_cons, Nat.mul_succ]
   have h1 : need1 bl (some a) l ≤ 1 := by
     cases l with
     | nil => exact Nat.zero_le _
     | cons b l =>
       show cond (bl a b) 1 0 ≤ 1
       cases bl a b <;> decide
   omega
theorem kinds_cons (a : DToken) (l : List DToken) : S.kinds (a :: l) = (a.1, a.2.1) :: S.kinds l := rfl
theorem needs_kinds {a b a' b' : DToken} (ha : (a.1, a.2.1) = (a'.1, a'.2.1)) (hb : (b.1, b.2.1) = (b'.1, b'.2.1)) : S.needs a b = S.needs a' b' := by
 obtain ⟨h1, h2⟩ := Prod.mk.inj ha
 obtain ⟨h3, h4⟩ := Prod.mk.inj hb
 unfold S.needs S.kinds
 simp only [List.map_cons, List.map_nil, h1, h2, h3, h4]
theorem put_kinds : ∀ {l l' : List DToken}, S.kinds l = S.kinds l' → S.putB S.needs l = S.putB S.needs l' ∧ l.any (fun t => !S.right t) = l'.any (fun t => !S.right t) ∧ S.smallL l = S.smallL l' ∧ l.length = l'.length
 | [], [], _ => ⟨rfl, rfl, rfl, rfl⟩
 | [], b :: l', h => by cases h
 | a :: l, [], h => by cases h
 | a :: l, a' :: l', h => by
   rw [kinds_cons, kinds_cons] at h
   injection h with h1 h2
   obtain ⟨i1, i2, i3, i4⟩ := put_kinds h2
   obtain ⟨g1, g2⟩ := Prod.mk.inj h1
   have hr : S.right a = S.right a' := by unfold S.right; rw [g1, g2]
   have hs : S.small a = S.small a' := by unfold S.small; rw [g2]
   refine ⟨?_, by rw [List.any_cons, List.any_cons, i2, hr], ?_, by rw [List.length_cons, List.length_cons, i4]⟩
   · cases l with
     | nil =>
       cases l' with
       | nil => show byteList a.2.1 = byteList a'.2.1; rw [g2]
       | cons b' l' => cases h2
     | cons b l =>
       cases l' with
       | nil => cases h2
       | cons b' l' =>
         rw [put_cons, put_cons, i1, g2]
         rw [kinds_cons, kinds_cons] at h2
         injection h2 with h3 h4
         rw [needs_kinds h1 h3]
   · show (S.small a && S.smallL l) = (S.small a' && S.smallL l')
     rw [hs, i3]
theorem sput_kinds {l l' : List DToken} (h : S.kinds l = S.kinds l') : S.put S.needs l = S.put S.needs l' := by
 obtain ⟨h1, h2, _, h4⟩ := put_kinds h
 unfold S.put
 rw [h1, h2, h4]
theorem backs_19 (l : List DToken) (hr : ∀ t ∈ l, S.right t = true) (hsz : (putS S.needs l).size ≤ 20000) : Gz25_19 LF l LF (putS S.needs l, Int.ofNat 0) = some (true, ()) := by
 have hbl : byteList (putS S.needs l) = S.putB S.needs l := putS_bl hr
 have hn : (byteList (putS S.needs l)).length = (putS S.needs l).size := bl_len _
 generalize ht : putS S.needs l = t at hsz hbl hn ⊢
 refine range0 (σ := Unit) (R := Rtz25) (byteList t) (fun i _ => (t, i)) (fun _ _ => True) (fun _ _ _ => some (true, ())) (by rw [hn]; unfold LF; omega) (fun K q _ => ?_) (fun K i v rest q _ r h => ?_) () trivial
 · have := ilt_self (byteList t).length
   rw [hn] at this ⊢
   simp only [Rz25_19, this, cond_false]
 · have hi := r.lt
   have hil := r.ilt
   rw [hn] at hil hi
   have w1 : IntKind.i64.wrap (Int.add (Int.ofNat i) (Int.ofNat 1)) = Int.ofNat (i + 1) := r.next
   simp only [Rz25_19, hil, r.get, w1, cond_true]
   by_cases h32 : v = 32
   · subst h32
     have c1 : lchk (Int.ofNat 0) (Int.ofNat i) (Int.ofNat t.size) (Int.ofNat t.size) = true := lchk_iff.2 ⟨Int.le_refl _, by show (0 : Int) ≤ (i : Int); omega, by show (i : Int) ≤ (t.size : Int); omega, Int.le_refl _⟩
     have c2 : lchk (Int.ofNat (i + 1)) (Int.ofNat t.size) (Int.ofNat t.size) (Int.ofNat t.size) = true := lchk_iff.2 ⟨by show (0 : Int) ≤ ((i + 1 : Nat) : Int); omega, by show ((i + 1 : Nat) : Int) ≤ (t.size : Int); omega, Int.le_refl _, Int.le_refl _⟩
     have t1 : (Int.ofNat i).toNat = i := rfl
     have t2 : (Int.ofNat (i + 1)).toNat = i + 1 := rfl
     have t3 : (Int.ofNat t.size).toNat = t.size := rfl
     have s1 : (t.extract 0 i).size ≤ t.size := by rw [ByteArray.size_extract]; omega
     have s2 : (t.extract (i + 1) t.size).size ≤ t.size := by rw [ByteArray.size_extract]; omega
     have hrm : Nat.ble (Nat.succ (Nat.add (t.extract 0 i).size (t.extract (i + 1) t.size).size)) 9223372036854775808 = true := Nat.ble_eq_true_of_le (by show (t.extract 0 i).size + (t.extract (i + 1) t.size).size + 1 ≤ _; omega)
     have hub : byteList (ByteArray.append (t.extract 0 i) (t.extract (i + 1) t.size)) = (byteList t).take i ++ (byteList t).drop (i + 1) := by
       refine (bl_append _ _).trans ?_
       rw [bl_take, bl_drop t (i + 1) t.size (Nat.le_refl _)]
     have hus : (ByteArray.append (t.extract 0 i) (t.extract (i + 1) t.size)).size ≤ 40000 := by
       rw [← bl_len, hub, List.length_append, List.length_take, List.length_drop, hn]; omega
     simp only [c1, c2, t1, t2, t3, hrm, cond_true]
     generalize hu : ByteArray.append (t.extract 0 i) (t.extract (i + 1) t.size) = u at hub hus ⊢
     have fu : S.fits u = true := Nat.ble_eq_true_of_le (by omega)
     rw [fu]
     simp only [cond_true]
     rw [ieq_t (show (32 : Int) = Int.ofNat 32 from rfl), Bool.not_true, cond_false]
     have hnext := h () trivial
     by_cases h0 : (S.tokens u).2.2.2 = 0
     · rw [ieq_t (show (S.tokens u).2.2.2 = Int.ofNat 0 from h0), cond_true]
       have hno : S.sameK (S.tokens u).1 l = false := by
         rw [Bool.eq_false_iff]
         intro hk
         have hk : S.kinds (S.tokens u).1 = S.kinds l := of_decide_eq_true hk
         obtain ⟨l1, a, b, l2, e1, e2, e3, e4⟩ := put_at S.needs l hr i (by rw [← hbl]; exact r.get?)
         rw [← hbl] at e3 e4
         rw [e3, e4] at hub
         have hrl : ∀ x ∈ S.putB S.needs (l1 ++ [a]) ++ S.putB S.needs (b :: l2), ¬ x = 10 := by
           refine mem_two (fun x hx => (put_mem S.needs _ (fun z hz => hr z ?_) x hx).2) fun x hx => (put_mem S.needs _ (fun z hz => hr z ?_) x hx).2
           · rw [e1]
             rcases List.mem_append.1 hz with hz | hz
             · exact List.mem_append_left _ hz
             · exact List.mem_append_right _ (by rw [List.mem_singleton.1 hz]; exact List.mem_cons_self)
           · rw [e1]
             exact List.mem_append_right _ (List.mem_cons_of_mem _ hz)
         have hsp : S.splitL (byteList u) = [S.putB S.needs (l1 ++ [a]) ++ S.putB S.needs (b :: l2)] := by
           rw [hub]
           exact splitL_none hrl
         obtain ⟨hto, _⟩ := tokens_ok h0
         rw [hto] at h0 hk
         have hlr := line_read hsp
         cases hln : (S.line (S.putB S.needs (l1 ++ [a]) ++ S.putB S.needs (b :: l2))).2 with
         | some x =>
           obtain ⟨c, e⟩ := x
           have := hlr.1 c e hln
           rw [this] at h0
           exact pcs_err _ _ _ _ hln h0
         | none =>
           obtain ⟨q1, q2⟩ := hlr.2 hln
           rw [q1, kinds_at, e1] at hk
           exact put_cut S.needs a b l2 e2 l1 (by rw [← e1]; exact hr) _ 1 (Nat.lt_succ_self _) hln hk
       rw [hno, cond_false]
       exact hnext
     · rw [ieq_f (show ¬ (S.tokens u).2.2.2 = Int.ofNat 0 from h0), cond_false]
       exact hnext
   · rw [ieq_f (show ¬ v = Int.ofNat 32 from h32), Bool.not_false, cond_true]
     exact h () trivial
theorem backs_4 (l : List DToken) (hl : l.length ≤ 200) : Gz25_4 LF l LF (Int.ofNat 0) = some (true, ()) := by
 refine range0 (σ := Unit) (R := Rtz25) l (fun i _ => i) (fun i _ => ∀ t ∈ l.take i, t.2.1.size ≤ 60) (fun _ _ _ => some (true, ())) (by unfold LF; omega) (fun K q hq => ?_) (fun K i v rest q hq r h => ?_) () (by simp)
 · rw [List.take_length] at hq
   have hsm := smallL_of (n := 60) (by omega) hq
   simp only [Rz25_4, ilt_self, cond_false, hsm, cond_true]
   have b1 := put_bound S.always 60 l hq
   have b2 := put_bound S.needs 60 l hq
   by_cases ha : l.any (fun t => !S.right t) = true
   · have e1 : ∀ bl, S.put bl l = (S.lit [], 1) := fun bl => by
       unfold S.put
       rw [if_neg (by omega), if_pos ha]
     rw [e1, e1]
     rw [ieq_f (show ¬ (1 : Int) = Int.ofNat 0 by decide), Bool.not_false, cond_true, ieq_self]
   · have hr : ∀ t ∈ l, S.right t = true := fun t ht => by
       cases h : S.right t with
       | true => rfl
       | false => exact absurd (List.any_eq_true.2 ⟨t, ht, by rw [h]; rfl⟩) ha
     have hp1 := put_ok (bl := S.always) (l := l) (by omega) hr (by omega)
     have hp2 := put_ok (bl := S.needs) (l := l) (by omega) hr (by omega)
     have z1 : (putS S.always l).size = (S.putB S.always l).length := putS_size hr
     have z2 : (putS S.needs l).size = (S.putB S.needs l).length := putS_size hr
     have f1 : S.fits (putS S.always l) = true := Nat.ble_eq_true_of_le (by rw [z1]; omega)
     have f2 : S.fits (putS S.needs l) = true := Nat.ble_eq_true_of_le (by rw [z2]; omega)
     obtain ⟨q1, q2⟩ := put_read S.always (fun a b h => by cases h) hr
     obtain ⟨q3, q4⟩ := put_read S.needs (fun a b h => h) hr
     have kl : ∀ l : List DToken, (S.kinds l).length = l.length := fun l => List.length_map _
     have n1 : (S.readG (putS S.always l)).1.length = l.length := by rw [← kl, q2, kl]
     have n2 : (S.readG (putS S.needs l)).1.length = l.length := by rw [← kl, q4, kl]
     have t1 : S.tokens (putS S.always l) = S.readG (putS S.always l) := tokens_else (by rw [z1]; omega) (by rw [n1]; intro h; omega)
     have t2 : S.tokens (putS S.needs l) = S.readG (putS S.needs l) := tokens_else (by rw [z2]; omega) (by rw [n2]; intro h; omega)
     have hag : S.put S.needs (S.readG (putS S.needs l)).1 = (putS S.needs l, 0) := by rw [sput_kinds q4, hp2]
     have hsm2 : S.smallL (S.readG (putS S.needs l)).1 = true := by rw [(put_kinds q4).2.2.1, hsm]
     have k1 : S.sameK (S.readG (putS S.always l)).1 l = true := decide_eq_true q2
     have k2 : S.sameK (S.readG (putS S.needs l)).1 l = true := decide_eq_true q4
     have hmono := put_mono S.needs S.always (fun _ _ _ => rfl) l
     have e0 : ieqI (0 : Int) (Int.ofNat 0) = true := ieq_t rfl
     rw [hp1, hp2]
     simp only [e0, Bool.not_true, cond_false, f1, f2, cond_true, t1, t2, hsm2, hag, q1, q3, k1, k2, keqS, decide_true, ilt_nat]
     rw [decide_eq_false (by rw [z1, z2]; omega), cond_false]
     exact backs_19 l hr (by rw [z2]; omega)
 · simp only [Rz25_4, r.ilt, r.get, r.next, cond_true, ilt_nat]
   by_cases c : 60 < v.2.1.size
   · rw [decide_eq_true c, cond_true]
   · rw [decide_eq_false c, cond_false]
     refine h () fun s hs => ?_
     rw [r.take] at hs
     rcases List.mem_append.1 hs with hs | hs
     · exact hq s hs
     · rw [List.mem_singleton.1 hs]; omega
theorem Fz25_eq (l : List DToken) : Fz25 LF l = some (true, ()) := by
 simp only [Fz25, Rz25_in, ilt_nat]
 by_cases c : 200 < l.length
 · rw [decide_eq_true c]; rfl
 · rw [decide_eq_false c, cond_false]
   exact backs_4 l (by omega)
theorem conz25 : Con Tryd.prog idz25 ⟨[.list cToken], [(false, .bool)], fun _ => some (true, ())⟩ := mkz25 ⟨conz15, conz24, conz23, conz16, con_l_sanity, trivial⟩ fun x y hx h => ⟨LF, (Fz25_eq x.1).trans h⟩
end Go.Proofs.YtanenikkloolfaaDoor
end

/- Texts: Xt6, Xp19, Xg11, Xg12, Xp20, Xg13, Xp21, Xl10, Xl4, Xsan, Xl5, Xl11. -/
import Derived.Test.YtanenikkloolfaaDoorMf5
import Derived.Test.YtanenikkloolfaaDoorMf4
set_option linter.unusedVariables false
noncomputable section
set_option maxRecDepth 100000
namespace Go.Proofs.YtanenikkloolfaaDoor
open Go Go.Sx Go.RowKit Go.Jx
theorem at_filter (n : Int) (q : List (Int × ByteArray × Nat)) : (S.at_ n q).filter S.isTok = S.at_ n (q.filter S.plain) := by
 unfold S.at_
 rw [List.filter_map]; rfl
theorem kinds_at (n : Int) (q : List (Int × ByteArray × Nat)) : S.kinds (S.at_ n q) = S.pk q := by
 unfold S.at_ S.kinds S.pk
 rw [List.map_map]; rfl
theorem line_read {s : ByteArray} {r : List Int} (hs : S.splitL (byteList s) = [r]) : (∀ c e, (S.line r).2 = some (c, e) → S.readG s = ([], [], (1, Int.ofNat c), e)) ∧ ((S.line r).2 = none → (S.readG s).1 = S.at_ 1 ((S.line r).1.filter S.plain) ∧ (S.readG s).2.2 = ((0, 0), 0)) := by
 have e : S.readL [r] 1 = (match (S.line r).2 with
   | some (c, e) => ([], (1, Int.ofNat c), e)
   | none => (S.at_ 1 (S.line r).1 ++ [], (0, 0), 0)) := readL_cons r [] 1
 unfold S.readG
 rw [hs, e]
 constructor
 · intro c er h
   rw [h]
   unfold S.lexed
   rw [if_neg (pcs_err _ _ _ _ h)]
 · intro h
   rw [h]
   unfold S.lexed
   rw [if_pos rfl, List.append_nil, at_filter]
   exact ⟨rfl, rfl⟩
theorem put_mem (bl : DToken → DToken → Bool) : ∀ (l : List DToken), (∀ t ∈ l, S.right t = true) → ∀ b ∈ S.putB bl l, (0 ≤ b ∧ b < 256) ∧ ¬ b = 10
 | [], _, b, hb => by cases hb
 | [a], hr, b, hb => ⟨bl_range hb, ((right_tok (right_shape (hr a List.mem_cons_self))).2.2 b hb).1⟩
 | a :: c :: l, hr, b, hb => by
   have ih := put_mem bl (c :: l) fun t ht => hr t (List.mem_cons_of_mem _ ht)
   rw [put_cons] at hb
   rcases List.mem_append.1 hb with hb | hb
   · exact ⟨bl_range hb, ((right_tok (right_shape (hr a List.mem_cons_self))).2.2 b hb).1⟩
   · cases h : bl a c with
     | true =>
       rw [h, cond_true] at hb
       rcases List.mem_cons.1 hb with rfl | hb
       · exact ⟨by decide, by decide⟩
       · exact ih b hb
     | false =>
       rw [h, cond_false] at hb
       exact ih b hb
def putS (bl : DToken → DToken → Bool) (l : List DToken) : ByteArray := strOf (S.putB bl l)
theorem putS_bl {bl : DToken → DToken → Bool} {l : List DToken} (hr : ∀ t ∈ l, S.right t = true) : byteList (putS bl l) = S.putB bl l := bl_strOf fun b hb => (put_mem bl l hr b hb).1
theorem putS_split {bl : DToken → DToken → Bool} {l : List DToken} (hr : ∀ t ∈ l, S.right t = true) : S.splitL (byteList (putS bl l)) = [S.putB bl l] := by
 rw [putS_bl hr]
 exact splitL_none fun b hb => (put_mem bl l hr b hb).2
theorem putS_size {bl : DToken → DToken → Bool} {l : List DToken} (hr : ∀ t ∈ l, S.right t = true) : (putS bl l).size = (S.putB bl l).length := by rw [← bl_len, putS_bl hr]
theorem put_read (bl : DToken → DToken → Bool) (hbl : ∀ a b, bl a b = false → S.needs a b = false) {l : List DToken} (hr : ∀ t ∈ l, S.right t = true) : (S.readG (putS bl l)).2.2 = ((0, 0), 0) ∧ S.kinds (S.readG (putS bl l)).1 = S.kinds l := by
 obtain ⟨q, q1, q2⟩ := put_pcs bl hbl l hr ((S.putB bl l).length + 1) 1 (Nat.lt_succ_self _)
 have hl : S.line (S.putB bl l) = (q, none) := q1
 obtain ⟨h1, h2⟩ := (line_read (putS_split hr)).2 (by rw [hl])
 refine ⟨h2, ?_⟩
 rw [h1, kinds_at, hl]
 have hf : q.filter S.plain = q := by
   refine List.filter_eq_self.2 fun x hx => ?_
   have : (x.1, x.2.1) ∈ S.kinds l := by rw [← q2]; exact List.mem_map.2 ⟨x, hx, rfl⟩
   obtain ⟨t, ht, e⟩ := List.mem_map.1 this
   unfold S.plain
   rw [← show t.1 = x.1 from congrArg Prod.fst e, decide_eq_false (right_not (hr t ht))]
   rfl
 simp only [hf]
 exact q2
theorem Fz16_eq (lf : Nat) (t : DToken) : Fz16 lf t = some (S.right t, ()) := by
 simp only [Fz16, Rz16_in, S.right]
 by_cases h0 : (S.shape t.2.1).2 = 0
 · rw [ieq_t (show (S.shape t.2.1).2 = Int.ofNat 0 from h0), cond_true, decide_eq_true h0]
   by_cases h1 : (S.shape t.2.1).1 = t.1
   · have h6 : ¬ t.1 = Int.ofNat 6 := by rw [← h1]; exact shape_kind _
     rw [ieq_t h1, cond_true, decide_eq_true h1, ieq_f h6]; rfl
   · rw [ieq_f h1, cond_false, decide_eq_false h1]; rfl
 · rw [ieq_f (show ¬ (S.shape t.2.1).2 = Int.ofNat 0 from h0), cond_false, decide_eq_false h0]; rfl
theorem conz16 : Con Tryd.prog idz16 spz16 := mkz16 ⟨conz11, trivial⟩ fun x y hx h => ⟨0, (Fz16_eq 0 x.1).trans h⟩
theorem Fz17_eq (a b : List DToken) (ha : a.length < LF) : Fz17 LF a b = some ((S.sameK a b, ()), ()) := by
 simp only [Fz17, Rz17_in, ieq_nat]
 have kl : ∀ l : List DToken, (S.kinds l).length = l.length := fun l => List.length_map _
 by_cases hl : a.length = b.length
 · rw [decide_eq_true hl, Bool.not_true, cond_false]
   refine range0 (σ := Unit) (R := Rtz17) a (fun i _ => i) (fun i _ => (S.kinds a).take i = (S.kinds b).take i) (fun _ _ _ => some ((S.sameK a b, ()), ())) ha (fun K q hq => ?_) (fun K i v rest q hq r h => ?_) () rfl
   · simp only [Rz17_4, ilt_self, cond_false]
     have : S.kinds a = S.kinds b := by
       rw [← kl a, List.take_length, kl a, hl, ← kl b, List.take_length] at hq; exact hq
     show some ((true, ()), ()) = some ((decide (S.kinds a = S.kinds b), ()), ())
     rw [decide_eq_true this]
   · obtain ⟨w, hw⟩ : ∃ w, b[i]? = some w := ⟨_, List.getElem?_eq_getElem (by have := r.lt; omega)⟩
     have hj : jget b (Int.ofNat i) = some w := jget_nat.trans hw
     simp only [Rz17_4, r.ilt, r.get, hj, r.next, cond_true]
     have ha' : (S.kinds a)[i]? = some (v.1, v.2.1) := by unfold S.kinds; rw [List.getElem?_map, r.get?]; rfl
     have hb' : (S.kinds b)[i]? = some (w.1, w.2.1) := by unfold S.kinds; rw [List.getElem?_map, hw]; rfl
     have hts := take_same (a := S.kinds a) (b := S.kinds b) ha' hb' hq
     have no : ¬ (v.1, v.2.1) = (w.1, w.2.1) → some ((false, ()), ()) = some ((S.sameK a b, ()), ()) := fun e => by
       have : ¬ S.kinds a = S.kinds b := fun e2 => e (hts.1 (by rw [e2]))
       show some ((false, ()), ()) = some ((decide (S.kinds a = S.kinds b), ()), ())
       rw [decide_eq_false this]
     by_cases e1 : v.1 = w.1
     · rw [ieq_t e1, cond_true]
       by_cases e2 : v.2.1 = w.2.1
       · rw [show keqS v.2.1 w.2.1 = true from decide_eq_true e2, Bool.not_true, cond_false]
         exact h () (hts.2 (by rw [e1, e2]))
       · rw [show keqS v.2.1 w.2.1 = false from decide_eq_false e2, Bool.not_false, cond_true]
         exact no fun e => e2 (Prod.mk.inj e).2
     · rw [ieq_f e1, cond_false]
       exact no fun e => e1 (Prod.mk.inj e).1
 · rw [decide_eq_false hl, Bool.not_false, cond_true]
   have : ¬ S.kinds a = S.kinds b := fun e => hl (by rw [← kl a, e, kl b])
   show some ((false, ()), ()) = some ((decide (S.kinds a = S.kinds b), ()), ())
   rw [decide_eq_false this]
theorem conz17 : ConR Tryd.prog idz17 spz17 := mkz17 trivial fun x y hx h => ⟨LF, (Fz17_eq x.1 x.2.1 (toks_small hx.1.1)).trans h⟩
theorem Fz18_eq (l : List (List DToken)) (hl : l.length < LF) (hf : l.flatten.length ≤ 1000000000) : Fz18 LF l = some (l.flatten, ()) := by
 have key : Gz18_3 LF l LF (Int.ofNat 0, []) = some ([] ++ l.flatten, ()) := by
   refine range0 (σ := List DToken) (R := Rtz18) l (fun i q => (i, q)) (fun i q => q ++ (l.drop i).flatten = l.flatten) (fun rest i q => some (q ++ rest.flatten, ())) hl (fun K q hq => ?_) (fun K i v rest q hq r h => ?_) [] (by simp)
   · simp only [Rz18_3, ilt_self, cond_false]
     rw [List.flatten_nil, List.append_nil]
   · rw [r.drop, List.flatten_cons] at hq
     have hlen := congrArg List.length hq
     rw [List.length_append, List.length_append] at hlen
     have hr : Nat.ble (Nat.mul (Nat.add q.length v.length) 40) 140737488355328 = true := Nat.ble_eq_true_of_le (by show (q.length + v.length) * 40 ≤ _; omega)
     simp only [Rz18_3, r.ilt, r.get, r.next, cond_true, hr]
     refine (h (q ++ v) (by rw [r.tail, List.append_assoc]; exact hq)).trans ?_
     rw [List.flatten_cons, List.append_assoc]
 exact key
theorem small24 {l : List (List DToken)} (h : l.length * 24 ≤ 140737488355328) : l.length < LF := by unfold LF; omega
theorem conz18 : Con Tryd.prog idz18 spz18 := mkz18 trivial fun x y hx h => ⟨LF, by
 obtain ⟨h1, h2⟩ := cond_some' (show cond (Nat.ble (x.1.flatten).length 1000000000) (some (x.1.flatten, ())) none = some y from h)
 exact (Fz18_eq x.1 (small24 hx.1.1) (Nat.le_of_ble_eq_true h1)).trans (congrArg some h2)⟩
theorem line_readX (s : ByteArray) : S.readX S.wTok [s] 1 = match (S.line (byteList s)).2 with
   | some (c, e) => ([], (1, Int.ofNat c), e)
   | none => (S.at_ 1 ((S.line (byteList s)).1.filter S.plain), (0, 0), 0) := by
 have e : S.readL [byteList s] 1 = (match (S.line (byteList s)).2 with
   | some (c, e) => ([], (1, Int.ofNat c), e)
   | none => (S.at_ 1 (S.line (byteList s)).1 ++ [], (0, 0), 0)) := readL_cons (byteList s) [] 1
 unfold S.readX
 rw [show [s].map byteList = [byteList s] from rfl, e]
 cases (S.line (byteList s)).2 with
 | some x => rfl
 | none =>
   simp only [List.append_nil]
   rw [show (fun t : DToken => S.wTok t.1) = S.isTok from rfl, at_filter]
theorem Fz19_eq (lf : Nat) (a b : DToken) (ha : S.right a = true) (hb : S.right b = true) (sa : S.small a = true) (sb : S.small b = true) : Fz19 lf a b = some (S.needs a b, ()) := by
 have h1 : a.2.1.size ≤ 400000 := Nat.le_of_ble_eq_true sa
 have h2 : b.2.1.size ≤ 400000 := Nat.le_of_ble_eq_true sb
 have hr : Nat.ble (Nat.succ (Nat.add a.2.1.size b.2.1.size)) 9223372036854775808 = true := Nat.ble_eq_true_of_le (by show a.2.1.size + b.2.1.size + 1 ≤ _; omega)
 have hbl : byteList (ByteArray.append a.2.1 b.2.1) = byteList a.2.1 ++ byteList b.2.1 := bl_append _ _
 have hsz : (ByteArray.append a.2.1 b.2.1).size = a.2.1.size + b.2.1.size := by rw [← bl_len, hbl, List.length_append, bl_len, bl_len]
 obtain ⟨_, _, a3⟩ := right_tok (right_shape ha)
 obtain ⟨_, _, b3⟩ := right_tok (right_shape hb)
 have hok : S.okL [ByteArray.append a.2.1 b.2.1] 1 = true := by
   unfold S.okL
   simp only [Bool.and_eq_true, decide_eq_true_iff, List.all_eq_true, Bool.not_eq_true', decide_eq_false_iff_not]
   refine ⟨Nat.ble_eq_true_of_le (by simp), fun t ht => ?_, by decide, by decide⟩
   rw [List.mem_singleton.1 ht, hbl, hsz]
   exact ⟨Nat.ble_eq_true_of_le (by omega), mem_two (fun c hc => (a3 c hc).1) fun c hc => (b3 c hc).1⟩
 have e1 : Int.ofNat 1 = (1 : Int) := rfl
 simp only [Fz19, Rz19_in, hr, cond_true, e1, hok, line_readX, hbl, S.needs]
 cases hl : (S.line (byteList a.2.1 ++ byteList b.2.1)).2 with
 | some x =>
   obtain ⟨c, e⟩ := x
   have he : ¬ e = 0 := pcs_err _ _ _ _ hl
   simp only
   rw [ieq_f (show ¬ e = Int.ofNat 0 from he)]; rfl
 | none =>
   simp only
   rw [ieq_t (show (0 : Int) = Int.ofNat 0 from rfl), Bool.not_true, cond_false]
   unfold S.sameK
   rw [kinds_at]
   rfl
theorem conz19 : Con Tryd.prog idz19 spz19 := by
 have h0 := mkz19 (g := spz19.f) ⟨conz18, trivial⟩ conz17 fun x y hx h => ⟨0, by
   obtain ⟨h1, h2⟩ := cond_some' (show cond ((S.right x.1 && S.right x.2.1) && (S.small x.1 && S.small x.2.1)) (some (S.needs x.1 x.2.1, ())) none = some y from h)
   simp only [Bool.and_eq_true] at h1
   exact (Fz19_eq 0 x.1 x.2.1 h1.1.1 h1.1.2 h1.2.1 h1.2.2).trans (congrArg some h2)⟩
 exact h0
def nmz20 : Nat → Option Nm := fun k => cond (Nat.beq k 7) (some ⟨[0, 1, 6, 14, 15, 16], [], [], [], [], 0, 0, false⟩) (cond (Nat.beq k 999999) (some ⟨[], [], [], [], [], 0, 0, false⟩) none)
def stz20 : Nat → Bool := fun k => cond (Nat.beq k 7) true (false)
def hdz20 := stz20
abbrev Rtz20 : Type := (ByteArray × Int × Unit) × Unit
def smlz20 : List (Nat × Sm) := [(86, spz16), (56, spz19)]
def hxlz20 : List (Nat × Hx) := [(115, idxHx cToken), (79, ccHx), (47, bsHx)]
def clz20 (R : Type) (lf : Nat) : ClK R := icallK Tryd.prog ttT.get ftT.get (fun _ _ => none) (smL smlz20) (hxL hxlz20) lf 20 R
abbrev idz20 : Nat := 54
def encz20_7 (x1 : (List DToken)) (p : Int × (List Int)) : NRes := (NRes.mk (.node (some (IV.lst cToken x1)) (.node (some (IV.fn 55 [])) (.node none (.node none (.node (some (IV.int .i64 (Int.ofNat (List.length x1)))) .leaf .leaf) .leaf) .leaf) .leaf) (.node none (.node none (.node none (.node (some (IV.int .i64 p.1)) .leaf .leaf) .leaf) .leaf) (.node (some (IV.ptr 0 0)) .leaf (.node (some (IV.lst cToken x1)) .leaf .leaf)))) (IS.mk (.node (some (IObj.bld 1)) (.node (some (IObj.arr (TC.int .u8) p.2)) .leaf .leaf) .leaf) 2) [] 0)
def Rz20_in (lf : Nat) (x1 : (List DToken)) (L7 : (Int × (List Int)) → Option Rtz20) : Option Rtz20 := (cond (iltI (Int.ofNat 6000) (Int.ofNat (List.length x1))) (some (((S.lit []), ((Int.ofNat 3), ())), ())) (match (idxO (fun v0 => (some (Bool.not (S.right (v0.1, (v0.2.1, (v0.2.2.1, v0.2.2.2))))))) x1 0) with | .none  => none | .some v1 => (cond (Bool.not (iltI v1 (Int.ofNat 0))) (some (((S.lit []), ((Int.ofNat 1), ())), ())) (L7 ((Int.ofNat 0), [])))))
def Rz20_7 (lf : Nat) (x1 : (List DToken)) (L7 : (Int × (List Int)) → Option Rtz20) (p : Int × (List Int)) : Option Rtz20 := (cond (iltI p.1 (Int.ofNat (List.length x1))) (match (jget x1 p.1) with | .none  => none | .some v0 => (cond (iltI (Int.ofNat 0) p.1) (match (jget x1 (IntKind.i64.wrap (Int.sub p.1 (Int.ofNat 1)))) with | .none  => none | .some v1 => (cond (Nat.ble (Nat.mul (Nat.add (List.length p.2) 1) 1) 140737488355328) (cond (Nat.ble (Nat.mul (Nat.add (List.length (List.append p.2 (List.cons (Int.ofNat 32) []))) (List.length (byteList v0.2.1))) 1) 140737488355328) (L7 ((IntKind.i64.wrap (Int.add p.1 (Int.ofNat 1))), (List.append (List.append p.2 (List.cons (Int.ofNat 32) [])) (byteList v0.2.1)))) none) none)) (cond (Nat.ble (Nat.mul (Nat.add (List.length p.2) (List.length (byteList v0.2.1))) 1) 140737488355328) (L7 ((IntKind.i64.wrap (Int.add p.1 (Int.ofNat 1))), (List.append p.2 (byteList v0.2.1)))) none))) (cond (iltI (Int.ofNat 20000) (Int.ofNat (List.length p.2))) (some (((S.lit []), ((Int.ofNat 3), ())), ())) (some (((strOf p.2), ((Int.ofNat 0), ())), ()))))
abbrev gz20 : Type := ElP [.dat (.list cToken), .fn 55] → Option Rtz20
abbrev sz20 (g : gz20) : SmR := ⟨[.dat (.list cToken), .fn 55], [(false, .str), (false, (.int .i64))], g⟩
abbrev Ez20 (g : gz20) (J : JT Rtz20) (lf : Nat) (x1 : (List DToken)) := icodeTB Tryd.prog ttT.get nmz20 (mP [.dat (.list cToken), .fn 55]) fi54.nt (clz20 _ lf) lf stz20 J fi54.body [] (argGo (argsP [.dat (.list cToken), .fn 55] idN 0 (x1, ())) 0 .leaf) (Sc [.dat (.list cToken), .fn 55] (x1, ())) [] (lastQ ttT.get fi54 (sz20 g))
abbrev Bz20 (g : gz20) (J : JT Rtz20) (lf k : Nat) (ms : List Nat) (q : NRes) := icodeFTB Tryd.prog ttT.get nmz20 (mP [.dat (.list cToken), .fn 55]) fi54.nt (clz20 _ lf) lf stz20 J k fi54.body [] ms q (lastQ ttT.get fi54 (sz20 g))
theorem inz20 (g : gz20) (J : JT Rtz20) (lf : Nat) (x1 : (List DToken)) : Ez20 g J lf x1 = Rz20_in lf x1 (fun q => J 7 [lf] (encz20_7 x1 q)) := by kernel_rfl
theorem stz20_7 (g : gz20) (J : JT Rtz20) (lf : Nat) (x1 : (List DToken)) (m1 : Nat) (p : Int × (List Int)) : Bz20 g J lf 7 [m1] (encz20_7 x1 p) = Rz20_7 lf x1 (fun q => J 7 [m1] (encz20_7 x1 q)) p := by kernel_rfl
theorem ndz20 : (regs fi54.body).Nodup := by decide +kernel
theorem okz20 : okC nmz20 stz20 hdz20 fi54.body none = true := by kernel_rfl
def Az20 (g : gz20) (lf : Nat) : JT Rtz20 := atQ Tryd.prog ttT.get nmz20 fi54 (sz20 g) (clz20 _ lf) lf hdz20
def Gz20_7 (lf : Nat) (x1 : (List DToken)) : Nat → (Int × (List Int)) → Option Rtz20 := rounds fun K p => Rz20_7 lf x1 K p
theorem atz20_7 (g : gz20) (lf : Nat) (x1 : (List DToken)) : ∀ (n : Nat) (p : Int × (List Int)), Az20 g lf 7 [n] (encz20_7 x1 p) = Gz20_7 lf x1 n p
 | 0, p => atQ_zero 7 [0] rfl _
 | n + 1, p => by
   have ih := atz20_7 g lf x1 n
   refine (atQ_eq rfl (icallK_eq 20 _) ndz20 okz20 7 [n + 1] [n] rfl _).trans ((stz20_7 g (Az20 g lf) lf x1 n p).trans ?_)
   rw [(show (fun q => Az20 g lf 7 [n] (encz20_7 x1 q)) = (fun q => Gz20_7 lf x1 n q) from funext ih)]
   rfl
def Fz20 (lf : Nat) (x1 : (List DToken)) : Option Rtz20 := Rz20_in lf x1 (fun q => Gz20_7 lf x1 lf q)
theorem runz20 (g : gz20) (lf : Nat) (x1 : (List DToken)) : Ez20 g (Az20 g lf) lf x1 = Fz20 lf x1 := by
   refine (inz20 g (Az20 g lf) lf x1).trans ?_
   rw [(show (fun q => Az20 g lf 7 [lf] (encz20_7 x1 q)) = (fun q => Gz20_7 lf x1 lf q) from funext fun q => atz20_7 g lf x1 lf q)]
   rfl
theorem hxsz20 : HxsOK Tryd.prog hxlz20 := ⟨ixO115, ⟨ccHx_ok, ⟨bsHx_ok, trivial⟩⟩⟩
theorem mkz20 {g : gz20} (hsm : SmOK Tryd.prog smlz20) (hg : ∀ (x : ElP [.dat (.list cToken), .fn 55]) (y : Rtz20), WfP [.dat (.list cToken), .fn 55] x → g x = some y → ∃ lf, Fz20 lf x.1 = some y) : ConR Tryd.prog 54 ⟨[.dat (.list cToken), .fn 55], [(false, .str), (false, (.int .i64))], g⟩ :=
 conTR (nmf := nmz20) (sml := smlz20) (hxl := hxlz20) (st := stz20) (hd := hdz20) 20 mixed ttOK ftOK hsm hxsz20 cal54 (by kernel_rfl) (fun x => by kernel_rfl) ndz20 okz20 fun x y z hx hy => by
   obtain ⟨lf, h⟩ := hg x (y, z) hx hy
   exact ⟨lf, (runz20 g lf x.1).trans h⟩
def nmz21 : Nat → Option Nm := fun k => cond (Nat.beq k 7) (some ⟨[0, 1, 6, 14, 15, 16], [], [], [], [], 0, 0, false⟩) (cond (Nat.beq k 999999) (some ⟨[], [], [], [], [], 0, 0, false⟩) none)
def stz21 : Nat → Bool := fun k => cond (Nat.beq k 7) true (false)
def hdz21 := stz21
abbrev Rtz21 : Type := (ByteArray × Int × Unit) × Unit
def smlz21 : List (Nat × Sm) := [(86, spz16), (56, spz19)]
def hxlz21 : List (Nat × Hx) := [(115, idxHx cToken), (79, ccHx), (47, bsHx)]
def clz21 (R : Type) (lf : Nat) : ClK R := icallK Tryd.prog ttT.get ftT.get (fun _ _ => none) (smL smlz21) (hxL hxlz21) lf 20 R
abbrev idz21 : Nat := 54
def encz21_7 (x1 : (List DToken)) (p : Int × (List Int)) : NRes := (NRes.mk (.node (some (IV.lst cToken x1)) (.node (some (IV.fn 56 [])) (.node none (.node none (.node (some (IV.int .i64 (Int.ofNat (List.length x1)))) .leaf .leaf) .leaf) .leaf) .leaf) (.node none (.node none (.node none (.node (some (IV.int .i64 p.1)) .leaf .leaf) .leaf) .leaf) (.node (some (IV.ptr 0 0)) .leaf (.node (some (IV.lst cToken x1)) .leaf .leaf)))) (IS.mk (.node (some (IObj.bld 1)) (.node (some (IObj.arr (TC.int .u8) p.2)) .leaf .leaf) .leaf) 2) [] 0)
def Rz21_in (lf : Nat) (x1 : (List DToken)) (L7 : (Int × (List Int)) → Option Rtz21) : Option Rtz21 := (cond (iltI (Int.ofNat 6000) (Int.ofNat (List.length x1))) (some (((S.lit []), ((Int.ofNat 3), ())), ())) (match (idxO (fun v0 => (some (Bool.not (S.right (v0.1, (v0.2.1, (v0.2.2.1, v0.2.2.2))))))) x1 0) with | .none  => none | .some v1 => (cond (Bool.not (iltI v1 (Int.ofNat 0))) (some (((S.lit []), ((Int.ofNat 1), ())), ())) (L7 ((Int.ofNat 0), [])))))
def Rz21_7 (lf : Nat) (x1 : (List DToken)) (L7 : (Int × (List Int)) → Option Rtz21) (p : Int × (List Int)) : Option Rtz21 := (cond (iltI p.1 (Int.ofNat (List.length x1))) (match (jget x1 p.1) with | .none  => none | .some v0 => (cond (iltI (Int.ofNat 0) p.1) (match (jget x1 (IntKind.i64.wrap (Int.sub p.1 (Int.ofNat 1)))) with | .none  => none | .some v1 => (match (cond (Bool.and (Bool.and (S.right (v1.1, (v1.2.1, (v1.2.2.1, v1.2.2.2)))) (S.right (v0.1, (v0.2.1, (v0.2.2.1, v0.2.2.2))))) (Bool.and (S.small (v1.1, (v1.2.1, (v1.2.2.1, v1.2.2.2)))) (S.small (v0.1, (v0.2.1, (v0.2.2.1, v0.2.2.2)))))) (some ((S.needs (v1.1, (v1.2.1, (v1.2.2.1, v1.2.2.2))) (v0.1, (v0.2.1, (v0.2.2.1, v0.2.2.2)))), ())) none) with | .none  => none | .some v2 => (cond v2.1 (cond (Nat.ble (Nat.mul (Nat.add (List.length p.2) 1) 1) 140737488355328) (cond (Nat.ble (Nat.mul (Nat.add (List.length (List.append p.2 (List.cons (Int.ofNat 32) []))) (List.length (byteList v0.2.1))) 1) 140737488355328) (L7 ((IntKind.i64.wrap (Int.add p.1 (Int.ofNat 1))), (List.append (List.append p.2 (List.cons (Int.ofNat 32) [])) (byteList v0.2.1)))) none) none) (cond (Nat.ble (Nat.mul (Nat.add (List.length p.2) (List.length (byteList v0.2.1))) 1) 140737488355328) (L7 ((IntKind.i64.wrap (Int.add p.1 (Int.ofNat 1))), (List.append p.2 (byteList v0.2.1)))) none)))) (cond (Nat.ble (Nat.mul (Nat.add (List.length p.2) (List.length (byteList v0.2.1))) 1) 140737488355328) (L7 ((IntKind.i64.wrap (Int.add p.1 (Int.ofNat 1))), (List.append p.2 (byteList v0.2.1)))) none))) (cond (iltI (Int.ofNat 20000) (Int.ofNat (List.length p.2))) (some (((S.lit []), ((Int.ofNat 3), ())), ())) (some (((strOf p.2), ((Int.ofNat 0), ())), ()))))
abbrev gz21 : Type := ElP [.dat (.list cToken), .fn 56] → Option Rtz21
abbrev sz21 (g : gz21) : SmR := ⟨[.dat (.list cToken), .fn 56], [(false, .str), (false, (.int .i64))], g⟩
abbrev Ez21 (g : gz21) (J : JT Rtz21) (lf : Nat) (x1 : (List DToken)) := icodeTB Tryd.prog ttT.get nmz21 (mP [.dat (.list cToken), .fn 56]) fi54.nt (clz21 _ lf) lf stz21 J fi54.body [] (argGo (argsP [.dat (.list cToken), .fn 56] idN 0 (x1, ())) 0 .leaf) (Sc [.dat (.list cToken), .fn 56] (x1, ())) [] (lastQ ttT.get fi54 (sz21 g))
abbrev Bz21 (g : gz21) (J : JT Rtz21) (lf k : Nat) (ms : List Nat) (q : NRes) := icodeFTB Tryd.prog ttT.get nmz21 (mP [.dat (.list cToken), .fn 56]) fi54.nt (clz21 _ lf) lf stz21 J k fi54.body [] ms q (lastQ ttT.get fi54 (sz21 g))
theorem inz21 (g : gz21) (J : JT Rtz21) (lf : Nat) (x1 : (List DToken)) : Ez21 g J lf x1 = Rz21_in lf x1 (fun q => J 7 [lf] (encz21_7 x1 q)) := by kernel_rfl
theorem stz21_7 (g : gz21) (J : JT Rtz21) (lf : Nat) (x1 : (List DToken)) (m1 : Nat) (p : Int × (List Int)) : Bz21 g J lf 7 [m1] (encz21_7 x1 p) = Rz21_7 lf x1 (fun q => J 7 [m1] (encz21_7 x1 q)) p := by kernel_rfl
theorem ndz21 : (regs fi54.body).Nodup := by decide +kernel
theorem okz21 : okC nmz21 stz21 hdz21 fi54.body none = true := by kernel_rfl
def Az21 (g : gz21) (lf : Nat) : JT Rtz21 := atQ Tryd.prog ttT.get nmz21 fi54 (sz21 g) (clz21 _ lf) lf hdz21
def Gz21_7 (lf : Nat) (x1 : (List DToken)) : Nat → (Int × (List Int)) → Option Rtz21 := rounds fun K p => Rz21_7 lf x1 K p
theorem atz21_7 (g : gz21) (lf : Nat) (x1 : (List DToken)) : ∀ (n : Nat) (p : Int × (List Int)), Az21 g lf 7 [n] (encz21_7 x1 p) = Gz21_7 lf x1 n p
 | 0, p => atQ_zero 7 [0] rfl _
 | n + 1, p => by
   have ih := atz21_7 g lf x1 n
   refine (atQ_eq rfl (icallK_eq 20 _) ndz21 okz21 7 [n + 1] [n] rfl _).trans ((stz21_7 g (Az21 g lf) lf x1 n p).trans ?_)
   rw [(show (fun q => Az21 g lf 7 [n] (encz21_7 x1 q)) = (fun q => Gz21_7 lf x1 n q) from funext ih)]
   rfl
def Fz21 (lf : Nat) (x1 : (List DToken)) : Option Rtz21 := Rz21_in lf x1 (fun q => Gz21_7 lf x1 lf q)
theorem runz21 (g : gz21) (lf : Nat) (x1 : (List DToken)) : Ez21 g (Az21 g lf) lf x1 = Fz21 lf x1 := by
   refine (inz21 g (Az21 g lf) lf x1).trans ?_
   rw [(show (fun q => Az21 g lf 7 [lf] (encz21_7 x1 q)) = (fun q => Gz21_7 lf x1 lf q) from funext fun q => atz21_7 g lf x1 lf q)]
   rfl
theorem hxsz21 : HxsOK Tryd.prog hxlz21 := ⟨ixO115, ⟨ccHx_ok, ⟨bsHx_ok, trivial⟩⟩⟩
theorem mkz21 {g : gz21} (hsm : SmOK Tryd.prog smlz21) (hg : ∀ (x : ElP [.dat (.list cToken), .fn 56]) (y : Rtz21), WfP [.dat (.list cToken), .fn 56] x → g x = some y → ∃ lf, Fz21 lf x.1 = some y) : ConR Tryd.prog 54 ⟨[.dat (.list cToken), .fn 56], [(false, .str), (false, (.int .i64))], g⟩ :=
 conTR (nmf := nmz21) (sml := smlz21) (hxl := hxlz21) (st := stz21) (hd := hdz21) 20 mixed ttOK ftOK hsm hxsz21 cal54 (by kernel_rfl) (fun x => by kernel_rfl) ndz21 okz21 fun x y z hx hy => by
   obtain ⟨lf, h⟩ := hg x (y, z) hx hy
   exact ⟨lf, (runz21 g lf x.1).trans h⟩
def sepB (bl : DToken → DToken → Bool) (l : List DToken) (v : DToken) : List Int := match l.getLast? with
 | none => []
 | some p => cond (bl p v) [32] []
theorem put_snoc (bl : DToken → DToken → Bool) (v : DToken) : ∀ l : List DToken, S.putB bl (l ++ [v]) = S.putB bl l ++ (sepB bl l v ++ byteList v.2.1)
 | [] => rfl
 | [a] => by
   show S.putB bl [a, v] = byteList a.2.1 ++ (cond (bl a v) [32] [] ++ byteList v.2.1)
   rw [put_cons]
   cases bl a v <;> rfl
 | a :: b :: l => by
   have ih := put_snoc bl v (b :: l)
   have hs : sepB bl (a :: b :: l) v = sepB bl (b :: l) v := by unfold sepB; rw [List.getLast?_cons_cons]
   rw [List.cons_append, List.cons_append, put_cons, put_cons, hs, ← List.cons_append, ih]
   cases bl a b <;> simp
theorem put_le (bl : DToken → DToken → Bool) : ∀ l : List DToken, (∀ t ∈ l, t.2.1.size ≤ 400000) → (S.putB bl l).length ≤ 400001 * l.length
 | [], _ => Nat.le_refl _
 | [a], h => by
   show (byteList a.2.1).length ≤ 400001 * 1
   rw [bl_len]
   have := h a List.mem_cons_self
   omega
 | a :: b :: l, h => by
   have ih := put_le bl (b :: l) fun t ht => h t (List.mem_cons_of_mem _ ht)
   have := h a List.mem_cons_self
   rw [put_cons, List.length_append, bl_len]
   cases bl a b with
   | true => simp only [cond_true, List.length_cons] at ih ⊢; omega
   | false => simp only [cond_false, List.length_cons] at ih ⊢; omega
theorem last_take {l : List DToken} {i : Nat} {p : DToken} (h : l[i]? = some p) : (l.take (i + 1)).getLast? = some p := by
 rw [List.take_add_one, h]
 simp
theorem smallL_inv {l : List DToken} (h : S.smallL l = true) : ∀ t ∈ l, t.2.1.size ≤ 400000 := fun t ht => Nat.le_of_ble_eq_true (List.all_eq_true.1 h t ht)
theorem write_all_go (l : List DToken) (hl : l.length ≤ 6000) (hs : S.smallL l = true) (hr : ∀ t ∈ l, S.right t = true) : Gz20_7 LF l LF (Int.ofNat 0, []) = if 20000 < (S.putB S.always l).length then some ((S.lit [], 3, ()), ()) else some ((strOf (S.putB S.always l), 0, ()), ()) := by
 have hsm := smallL_inv hs
 refine range0 (σ := List Int) (R := Rtz20) l (fun i q => (i, q)) (fun i q => q = S.putB S.always (l.take i)) (fun _ _ _ => if 20000 < (S.putB S.always l).length then some ((S.lit [], 3, ()), ()) else some ((strOf (S.putB S.always l), 0, ()), ())) (by unfold LF; omega) (fun K q hq => ?_) (fun K i v rest q hq r h => ?_) [] rfl
 · rw [List.take_length] at hq
   simp only [Rz20_7, ilt_self, cond_false, ilt_nat]
   rw [← hq]
   by_cases c : 20000 < q.length
   · rw [decide_eq_true c, cond_true, if_pos c]; rfl
   · rw [decide_eq_false c, cond_false, if_neg c]; rfl
 · have hi := r.lt
   have hv := hsm v r.mem
   have hql : q.length ≤ 2400100000 := by
     have := put_le S.always (l.take i) fun t ht => hsm t (List.mem_of_mem_take ht)
     rw [List.length_take] at this
     rw [hq]; omega
   have hbv := bl_len v.2.1
   have r1 : Nat.ble (Nat.mul (Nat.add q.length 1) 1) 140737488355328 = true := Nat.ble_eq_true_of_le (by show (q.length + 1) * 1 ≤ _; omega)
   have r2 : Nat.ble (Nat.mul (Nat.add (List.append q [Int.ofNat 32]).length (byteList v.2.1).length) 1) 140737488355328 = true := Nat.ble_eq_true_of_le (by
     show ((q ++ [Int.ofNat 32]).length + (byteList v.2.1).length) * 1 ≤ _
     rw [List.length_append]
     simp only [List.length_cons, List.length_nil]; omega)
   have r3 : Nat.ble (Nat.mul (Nat.add q.length (byteList v.2.1).length) 1) 140737488355328 = true := Nat.ble_eq_true_of_le (by show (q.length + (byteList v.2.1).length) * 1 ≤ _; omega)
   simp only [Rz20_7, r.ilt, r.get, r.next, cond_true, ilt_nat]
   have hsn := put_snoc S.always v (l.take i)
   rw [← r.take] at hsn
   cases i with
   | zero =>
     rw [show decide (0 < 0) = false from rfl, cond_false, r3, cond_true]
     refine h _ ?_
     rw [hsn, ← hq]; rfl
   | succ i =>
     obtain ⟨p, hp⟩ : ∃ p, l[i]? = some p := ⟨_, List.getElem?_eq_getElem (by omega)⟩
     have w1 : IntKind.i64.wrap (Int.sub (Int.ofNat (i + 1)) (Int.ofNat 1)) = Int.ofNat i := by
       rw [show Int.sub (Int.ofNat (i + 1)) (Int.ofNat 1) = Int.ofNat i by show ((i + 1 : Nat) : Int) - 1 = (i : Int); omega]
       exact wrap_nat (n := i) (by omega)
     have hjp : jget l (Int.ofNat i) = some p := jget_nat.trans hp
     have hlast := last_take hp
     have hsep : sepB S.always (l.take (i + 1)) v = cond (S.always p v) [32] [] := by unfold sepB; rw [hlast]
     have hpm := List.mem_of_getElem? hp
     rw [hsep] at hsn
     rw [decide_eq_true (Nat.succ_pos i), cond_true, w1, hjp]
     simp only
     rw [r1, cond_true, r2, cond_true]
     refine h _ ?_
     rw [hsn, ← hq]
     show (q ++ [32]) ++ byteList v.2.1 = q ++ ([32] ++ byteList v.2.1)
     rw [List.append_assoc]
theorem Fz20_eq (l : List DToken) (hs : S.smallL l = true) : Fz20 LF l = some (((S.put S.always l).1, (S.put S.always l).2, ()), ()) := by
 have hi : idxO (fun v0 : DToken => (some (Bool.not (S.right (v0.1, (v0.2.1, (v0.2.2.1, v0.2.2.2))))))) l 0 = some (Go.Jx.S.idx (fun t => !S.right t) l) := idxO_idx (fun t => !S.right t) fun x _ => rfl
 simp only [Fz20, Rz20_in, ilt_nat, S.put]
 by_cases c : 6000 < l.length
 · rw [decide_eq_true c, cond_true, if_pos c]; rfl
 · rw [decide_eq_false c, cond_false, if_neg c]
   rw [hi]
   simp only
   have hz := Go.Jx.S.idx_nonneg (fun t => !S.right t) l
   by_cases ha : l.any (fun t => !S.right t) = true
   · rw [if_pos ha, ilt_f (show ¬ Go.Jx.S.idx (fun t => !S.right t) l < Int.ofNat 0 by have := hz.2 ha; show ¬ _ < (0 : Int); omega), Bool.not_false, cond_true]
     rfl
   · rw [if_neg ha, ilt_t (show Go.Jx.S.idx (fun t => !S.right t) l < Int.ofNat 0 by
       refine Int.not_le.1 fun h => ha (hz.1 h)), Bool.not_true, cond_false]
     have hr : ∀ t ∈ l, S.right t = true := fun t ht => by
       cases h : S.right t with
       | true => rfl
       | false => exact absurd (List.any_eq_true.2 ⟨t, ht, by rw [h]; rfl⟩) ha
     refine (write_all_go l (by omega) hs hr).trans ?_
     by_cases c2 : 20000 < (S.putB S.always l).length
     · rw [if_pos c2, if_pos c2]
     · rw [if_neg c2, if_neg c2]
theorem conz20 : ConR Tryd.prog idz20 spz20 := mkz20 ⟨conz16, conz19, trivial⟩ fun x y hx h => ⟨LF, by
 obtain ⟨h1, h2⟩ := cond_some' (show cond (S.smallL x.1) (some (((S.put S.always x.1).1, (S.put S.always x.1).2, ()), ())) none = some y from h)
 exact (Fz20_eq x.1 h1).trans (congrArg some h2)⟩
theorem write_need_go (l : List DToken) (hl : l.length ≤ 6000) (hs : S.smallL l = true) (hr : ∀ t ∈ l, S.right t = true) : Gz21_7 LF l LF (Int.ofNat 0, []) = if 20000 < (S.putB S.needs l).length then some ((S.lit [], 3, ()), ()) else some ((strOf (S.putB S.needs l), 0, ()), ()) := by
 have hsm := smallL_inv hs
 refine range0 (σ := List Int) (R := Rtz21) l (fun i q => (i, q)) (fun i q => q = S.putB S.needs (l.take i)) (fun _ _ _ => if 20000 < (S.putB S.needs l).length then some ((S.lit [], 3, ()), ()) else some ((strOf (S.putB S.needs l), 0, ()), ())) (by unfold LF; omega) (fun K q hq => ?_) (fun K i v rest q hq r h => ?_) [] rfl
 · rw [List.take_length] at hq
   simp only [Rz21_7, ilt_self, cond_false, ilt_nat]
   rw [← hq]
   by_cases c : 20000 < q.length
   · rw [decide_eq_true c, cond_true, if_pos c]; rfl
   · rw [decide_eq_false c, cond_false, if_neg c]; rfl
 · have hi := r.lt
   have hv := hsm v r.mem
   have hql : q.length ≤ 2400100000 := by
     have := put_le S.needs (l.take i) fun t ht => hsm t (List.mem_of_mem_take ht)
     rw [List.length_take] at this
     rw [hq]; omega
   have hbv := bl_len v.2.1
   have r1 : Nat.ble (Nat.mul (Nat.add q.length 1) 1) 140737488355328 = true := Nat.ble_eq_true_of_le (by show (q.length + 1) * 1 ≤ _; omega)
   have r2 : Nat.ble (Nat.mul (Nat.add (List.append q [Int.ofNat 32]).length (byteList v.2.1).length) 1) 140737488355328 = true := Nat.ble_eq_true_of_le (by
     show ((q ++ [Int.ofNat 32]).length + (byteList v.2.1).length) * 1 ≤ _
     rw [List.length_append]
     simp only [List.length_cons, List.length_nil]; omega)
   have r3 : Nat.ble (Nat.mul (Nat.add q.length (byteList v.2.1).length) 1) 140737488355328 = true := Nat.ble_eq_true_of_le (by show (q.length + (byteList v.2.1).length) * 1 ≤ _; omega)
   simp only [Rz21_7, r.ilt, r.get, r.next, cond_true, ilt_nat]
   have hsn := put_snoc S.needs v (l.take i)
   rw [← r.take] at hsn
   cases i with
   | zero =>
     rw [show decide (0 < 0) = false from rfl, cond_false, r3, cond_true]
     refine h _ ?_
     rw [hsn, ← hq]; rfl
   | succ i =>
     obtain ⟨p, hp⟩ : ∃ p, l[i]? = some p := ⟨_, List.getElem?_eq_getElem (by omega)⟩
     have w1 : IntKind.i64.wrap (Int.sub (Int.ofNat (i + 1)) (Int.ofNat 1)) = Int.ofNat i := by
       rw [show Int.sub (Int.ofNat (i + 1)) (Int.ofNat 1) = Int.ofNat i by show ((i + 1 : Nat) : Int) - 1 = (i : Int); omega]
       exact wrap_nat (n := i) (by omega)
     have hjp : jget l (Int.ofNat i) = some p := jget_nat.trans hp
     have hlast := last_take hp
     have hsep : sepB S.needs (l.take (i + 1)) v = cond (S.needs p v) [32] [] := by unfold sepB; rw [hlast]
     have hpm := List.mem_of_getElem? hp
     rw [hsep] at hsn
     rw [decide_eq_true (Nat.succ_pos i), cond_true, w1, hjp]
     simp only
     have g1 : S.right p = true := hr p hpm
     have g2 : S.right v = true := hr v r.mem
     have g3 : S.small p = true := List.all_eq_true.1 hs p hpm
     have g4 : S.small v = true := List.all_eq_true.1 hs v r.mem
     rw [show S.right (p.1, (p.2.1, (p.2.2.1, p.2.2.2))) = true from g1, show S.right (v.1, (v.2.1, (v.2.2.1, v.2.2.2))) = true from g2, show S.small (p.1, (p.2.1, (p.2.2.1, p.2.2.2))) = true from g3, show S.small (v.1, (v.2.1, (v.2.2.1, v.2.2.2))) = true from g4]
     simp only [Bool.and_true, cond_true]
     show cond (S.needs p v) _ _ = _
     cases hn : S.needs p v with
     | true =>
       rw [hn] at hsn
       rw [cond_true, r1, cond_true, r2, cond_true]
       refine h _ ?_
       rw [hsn, ← hq]
       show (q ++ [32]) ++ byteList v.2.1 = q ++ ([32] ++ byteList v.2.1)
       rw [List.append_assoc]
     | false =>
       rw [hn] at hsn
       rw [cond_false, r3, cond_true]
       refine h _ ?_
       rw [hsn, ← hq]
       rfl
theorem Fz21_eq (l : List DToken) (hs : S.smallL l = true) : Fz21 LF l = some (((S.put S.needs l).1, (S.put S.needs l).2, ()), ()) := by
 have hi : idxO (fun v0 : DToken => (some (Bool.not (S.right (v0.1, (v0.2.1, (v0.2.2.1, v0.2.2.2))))))) l 0 = some (Go.Jx.S.idx (fun t => !S.right t) l) := idxO_idx (fun t => !S.right t) fun x _ => rfl
 simp only [Fz21, Rz21_in, ilt_nat, S.put]
 by_cases c : 6000 < l.length
 · rw [decide_eq_true c, cond_true, if_pos c]; rfl
 · rw [decide_eq_false c, cond_false, if_neg c]
   rw [hi]
   simp only
   have hz := Go.Jx.S.idx_nonneg (fun t => !S.right t) l
   by_cases ha : l.any (fun t => !S.right t) = true
   · rw [if_pos ha, ilt_f (show ¬ Go.Jx.S.idx (fun t => !S.right t) l < Int.ofNat 0 by have := hz.2 ha; show ¬ _ < (0 : Int); omega), Bool.not_false, cond_true]
     rfl
   · rw [if_neg ha, ilt_t (show Go.Jx.S.idx (fun t => !S.right t) l < Int.ofNat 0 by
       refine Int.not_le.1 fun h => ha (hz.1 h)), Bool.not_true, cond_false]
     have hr : ∀ t ∈ l, S.right t = true := fun t ht => by
       cases h : S.right t with
       | true => rfl
       | false => exact absurd (List.any_eq_true.2 ⟨t, ht, by rw [h]; rfl⟩) ha
     refine (write_need_go l (by omega) hs hr).trans ?_
     by_cases c2 : 20000 < (S.putB S.needs l).length
     · rw [if_pos c2, if_pos c2]
     · rw [if_neg c2, if_neg c2]
theorem conz21 : ConR Tryd.prog idz21 spz21 := mkz21 ⟨conz16, conz19, trivial⟩ fun x y hx h => ⟨LF, by
 obtain ⟨h1, h2⟩ := cond_some' (show cond (S.smallL x.1) (some (((S.put S.needs x.1).1, (S.put S.needs x.1).2, ()), ())) none = some y from h)
 exact (Fz21_eq x.1 h1).trans (congrArg some h2)⟩
def nmz22 : Nat → Option Nm := fun k => none
def stz22 : Nat → Bool := fun k => false
def hdz22 := stz22
abbrev Rtz22 : Type := ByteArray × Int × Unit
def smlz22 : List (Nat × Sm) := []
def hxlz22 : List (Nat × Hx) := [(54, hxSel (lastFn 55) (hxR spz20) (hxR spz21))]
def clz22 (R : Type) (lf : Nat) : ClK R := icallK Tryd.prog ttT.get ftT.get (nm1 28 nmz22) (smL smlz22) (hxL hxlz22) lf 20 R
abbrev idz22 : Nat := 28
def Rz22_in (lf : Nat) (x1 : (List DToken)) : Option Rtz22 := (match (cond (S.smallL x1) (some (((S.put S.needs x1).1, ((S.put S.needs x1).2, ())), ())) none) with | .none  => none | .some v0 => (some (v0.1.1, (v0.1.2.1, ()))))
abbrev gz22 : Type := ElA [(.list cToken)] → Option Rtz22
abbrev sz22 (g : gz22) : Sm := ⟨[(.list cToken)], [(false, .str), (false, (.int .i64))], g⟩
abbrev Ez22 (g : gz22) (J : JT Rtz22) (lf : Nat) (x1 : (List DToken)) := icodeT Tryd.prog ttT.get nmz22 fi28.nt (clz22 _ lf) lf stz22 J fi28.body [] (argGo (argV [(.list cToken)] (x1, ())) 0 .leaf) S0 [] (lastK ttT.get fi28 (sz22 g))
theorem inz22 (g : gz22) (J : JT Rtz22) (lf : Nat) (x1 : (List DToken)) : Ez22 g J lf x1 = Rz22_in lf x1 := by kernel_rfl
theorem ndz22 : (regs fi28.body).Nodup := by decide +kernel
theorem okz22 : okC nmz22 stz22 hdz22 fi28.body none = true := by kernel_rfl
def Az22 (g : gz22) (lf : Nat) : JT Rtz22 := atN Tryd.prog ttT.get nmz22 fi28 (sz22 g) (clz22 _ lf) lf hdz22
def Fz22 (lf : Nat) (x1 : (List DToken)) : Option Rtz22 := Rz22_in lf x1
theorem runz22 (g : gz22) (lf : Nat) (x1 : (List DToken)) : Ez22 g (Az22 g lf) lf x1 = Fz22 lf x1 := by
   refine (inz22 g (Az22 g lf) lf x1).trans ?_
   rfl
theorem hxsz22 : HxsOK Tryd.prog hxlz22 := ⟨hxSel_ok (hxR_ok conz20) (hxR_ok conz21), trivial⟩
theorem mkz22 {g : gz22} (hsm : SmOK Tryd.prog smlz22) (hg : ∀ (x : ElA [(.list cToken)]) (y : Rtz22), WfA [(.list cToken)] x → g x = some y → ∃ lf, Fz22 lf x.1 = some y) : Con Tryd.prog 28 ⟨[(.list cToken)], [(false, .str), (false, (.int .i64))], g⟩ :=
 conT (nmf := nmz22) (sml := smlz22) (hxl := hxlz22) (st := stz22) (hd := hdz22) 20 mixed ttOK ftOK hsm hxsz22 cal28 rfl rfl (by kernel_rfl) (fun x => by kernel_rfl) ndz22 okz22 fun x y hx hy => by
   obtain ⟨lf, h⟩ := hg x y hx hy
   exact ⟨lf, (runz22 g lf x.1).trans h⟩
def nmz23 : Nat → Option Nm := fun k => none
def stz23 : Nat → Bool := fun k => false
def hdz23 := stz23
abbrev Rtz23 : Type := Bool × Int × Unit
def smlz23 : List (Nat × Sm) := [(22, spz15)]
def hxlz23 : List (Nat × Hx) := [(71, hxR spz17)]
def clz23 (R : Type) (lf : Nat) : ClK R := icallK Tryd.prog ttT.get ftT.get (nm1 38 nmz23) (smL smlz23) (hxL hxlz23) lf 20 R
abbrev idz23 : Nat := 38
def Rz23_in (lf : Nat) (x1 : ByteArray) (x2 : ByteArray) : Option Rtz23 := (match (cond (S.fits x1) (some ((S.tokens x1).1, ((S.tokens x1).2.2.1, ((S.tokens x1).2.2.2, ())))) none) with | .none  => none | .some v0 => (cond (Bool.not (ieqI v0.2.2.1 (Int.ofNat 0))) (some (Bool.false, (v0.2.2.1, ()))) (match (cond (S.fits x2) (some ((S.tokens x2).1, ((S.tokens x2).2.2.1, ((S.tokens x2).2.2.2, ())))) none) with | .none  => none | .some v1 => (cond (Bool.not (ieqI v1.2.2.1 (Int.ofNat 0))) (some (Bool.false, (v1.2.2.1, ()))) (some ((S.sameK v0.1 v1.1), ((Int.ofNat 0), ())))))))
abbrev gz23 : Type := ElA [.str, .str] → Option Rtz23
abbrev sz23 (g : gz23) : Sm := ⟨[.str, .str], [(false, .bool), (false, (.int .i64))], g⟩
abbrev Ez23 (g : gz23) (J : JT Rtz23) (lf : Nat) (x1 : ByteArray) (x2 : ByteArray) := icodeT Tryd.prog ttT.get nmz23 fi38.nt (clz23 _ lf) lf stz23 J fi38.body [] (argGo (argV [.str, .str] (x1, x2, ())) 0 .leaf) S0 [] (lastK ttT.get fi38 (sz23 g))
theorem inz23 (g : gz23) (J : JT Rtz23) (lf : Nat) (x1 : ByteArray) (x2 : ByteArray) : Ez23 g J lf x1 x2 = Rz23_in lf x1 x2 := by kernel_rfl
theorem ndz23 : (regs fi38.body).Nodup := by decide +kernel
theorem okz23 : okC nmz23 stz23 hdz23 fi38.body none = true := by kernel_rfl
def Az23 (g : gz23) (lf : Nat) : JT Rtz23 := atN Tryd.prog ttT.get nmz23 fi38 (sz23 g) (clz23 _ lf) lf hdz23
def Fz23 (lf : Nat) (x1 : ByteArray) (x2 : ByteArray) : Option Rtz23 := Rz23_in lf x1 x2
theorem runz23 (g : gz23) (lf : Nat) (x1 : ByteArray) (x2 : ByteArray) : Ez23 g (Az23 g lf) lf x1 x2 = Fz23 lf x1 x2 := by
   refine (inz23 g (Az23 g lf) lf x1 x2).trans ?_
   rfl
theorem hxsz23 (hrz17 : ConR Tryd.prog 71 spz17) : HxsOK Tryd.prog hxlz23 := ⟨hxR_ok hrz17, trivial⟩
theorem mkz23 {g : gz23} (hsm : SmOK Tryd.prog smlz23) (hrz17 : ConR Tryd.prog 71 spz17) (hg : ∀ (x : ElA [.str, .str]) (y : Rtz23), WfA [.str, .str] x → g x = some y → ∃ lf, Fz23 lf x.1 x.2.1 = some y) : Con Tryd.prog 38 ⟨[.str, .str], [(false, .bool), (false, (.int .i64))], g⟩ :=
 conT (nmf := nmz23) (sml := smlz23) (hxl := hxlz23) (st := stz23) (hd := hdz23) 20 mixed ttOK ftOK hsm (hxsz23 hrz17) cal38 rfl rfl (by kernel_rfl) (fun x => by kernel_rfl) ndz23 okz23 fun x y hx hy => by
   obtain ⟨lf, h⟩ := hg x y hx hy
   exact ⟨lf, (runz23 g lf x.1 x.2.1).trans h⟩
theorem Fz22_eq (lf : Nat) (l : List DToken) (hs : S.smallL l = true) : Fz22 lf l = some ((S.put S.needs l).1, (S.put S.needs l).2, ()) := by
 simp only [Fz22, Rz22_in, hs, cond_true]
theorem conz22 : Con Tryd.prog idz22 spz22 := mkz22 trivial fun x y hx h => ⟨0, by
 obtain ⟨h1, h2⟩ := cond_some' (show cond (S.smallL x.1) (some ((S.put S.needs x.1).1, (S.put S.needs x.1).2, ())) none = some y from h)
 exact (Fz22_eq 0 x.1 h1).trans (congrArg some h2)⟩
theorem Fz23_eq (lf : Nat) (a b : ByteArray) (ha : S.fits a = true) (hb : S.fits b = true) : Fz23 lf a b = some ((S.same a b).1, (S.same a b).2, ()) := by
 simp only [Fz23, Rz23_in, ha, hb, cond_true, S.same]
 by_cases h1 : (S.tokens a).2.2.2 = 0
 · rw [ieq_t (show (S.tokens a).2.2.2 = Int.ofNat 0 from h1), Bool.not_true, cond_false, if_pos h1]
   by_cases h2 : (S.tokens b).2.2.2 = 0
   · rw [ieq_t (show (S.tokens b).2.2.2 = Int.ofNat 0 from h2), Bool.not_true, cond_false, if_pos h2]; rfl
   · rw [ieq_f (show ¬ (S.tokens b).2.2.2 = Int.ofNat 0 from h2), Bool.not_false, cond_true, if_neg h2]
 · rw [ieq_f (show ¬ (S.tokens a).2.2.2 = Int.ofNat 0 from h1), Bool.not_false, cond_true, if_neg h1]
theorem conz23 : Con Tryd.prog idz23 spz23 := mkz23 ⟨conz15, trivial⟩ conz17 fun x y hx h => ⟨0, by
 obtain ⟨h1, h2⟩ := cond_some' (show cond (S.fits x.1 && S.fits x.2.1) (some ((S.same x.1 x.2.1).1, (S.same x.1 x.2.1).2, ())) none = some y from h)
 rw [Bool.and_eq_true] at h1
 exact (Fz23_eq 0 x.1 x.2.1 h1.1 h1.2).trans (congrArg some h2)⟩
def nmz24 : Nat → Option Nm := fun k => none
def stz24 : Nat → Bool := fun k => false
def hdz24 := stz24
abbrev Rtz24 : Type := Bool × Unit
def smlz24 : List (Nat × Sm) := [(22, spz15), (28, spz22), (38, spz23), (13, sp_l_sanity)]
def hxlz24 : List (Nat × Hx) := []
def clz24 (R : Type) (lf : Nat) : ClK R := icallK Tryd.prog ttT.get ftT.get (nm1 10 nmz24) (smL smlz24) (hxL hxlz24) lf 20 R
abbrev idz24 : Nat := 10
def Rz24_in (lf : Nat) (x1 : ByteArray) : Option Rtz24 := (cond (iltI (Int.ofNat 400) (Int.ofNat (ByteArray.size x1))) (some (Bool.true, ())) (match (cond (S.fits x1) (some ((S.tokens x1).1, ((S.tokens x1).2.2.1, ((S.tokens x1).2.2.2, ())))) none) with | .none  => none | .some v0 => (cond (Bool.not (ieqI v0.2.2.1 (Int.ofNat 0))) (some ((ieqI (Int.ofNat (List.length v0.1)) (Int.ofNat 0)), ())) (match (cond (S.smallL v0.1) (some ((S.put S.needs v0.1).1, ((S.put S.needs v0.1).2, ()))) none) with | .none  => none | .some v1 => (cond (Bool.not (ieqI v1.2.1 (Int.ofNat 0))) (some (Bool.false, ())) (cond (iltI (Int.ofNat (ByteArray.size x1)) (Int.ofNat (ByteArray.size v1.1))) (some (Bool.false, ())) (match (cond (Bool.and (S.fits x1) (S.fits v1.1)) (some ((S.same x1 v1.1).1, ((S.same x1 v1.1).2, ()))) none) with | .none  => none | .some v2 => (cond (ieqI v2.2.1 (Int.ofNat 0)) (some (v2.1, ())) (some (Bool.false, ()))))))))))
abbrev gz24 : Type := ElA [.str] → Option Rtz24
abbrev sz24 (g : gz24) : Sm := ⟨[.str], [(false, .bool)], g⟩
abbrev Ez24 (g : gz24) (J : JT Rtz24) (lf : Nat) (x1 : ByteArray) := icodeT Tryd.prog ttT.get nmz24 fi10.nt (clz24 _ lf) lf stz24 J fi10.body [] (argGo (argV [.str] (x1, ())) 0 .leaf) S0 [] (lastK ttT.get fi10 (sz24 g))
theorem inz24 (g : gz24) (J : JT Rtz24) (lf : Nat) (x1 : ByteArray) : Ez24 g J lf x1 = Rz24_in lf x1 := by kernel_rfl
theorem ndz24 : (regs fi10.body).Nodup := by decide +kernel
theorem okz24 : okC nmz24 stz24 hdz24 fi10.body none = true := by kernel_rfl
def Az24 (g : gz24) (lf : Nat) : JT Rtz24 := atN Tryd.prog ttT.get nmz24 fi10 (sz24 g) (clz24 _ lf) lf hdz24
def Fz24 (lf : Nat) (x1 : ByteArray) : Option Rtz24 := Rz24_in lf x1
theorem runz24 (g : gz24) (lf : Nat) (x1 : ByteArray) : Ez24 g (Az24 g lf) lf x1 = Fz24 lf x1 := by
   refine (inz24 g (Az24 g lf) lf x1).trans ?_
   rfl
theorem hxsz24 : HxsOK Tryd.prog hxlz24 := trivial
theorem mkz24 {g : gz24} (hsm : SmOK Tryd.prog smlz24) (hg : ∀ (x : ElA [.str]) (y : Rtz24), WfA [.str] x → g x = some y → ∃ lf, Fz24 lf x.1 = some y) : Con Tryd.prog 10 ⟨[.str], [(false, .bool)], g⟩ :=
 conT (nmf := nmz24) (sml := smlz24) (hxl := hxlz24) (st := stz24) (hd := hdz24) 20 mixed ttOK ftOK hsm hxsz24 cal10 rfl rfl (by kernel_rfl) (fun x => by kernel_rfl) ndz24 okz24 fun x y hx hy => by
   obtain ⟨lf, h⟩ := hg x y hx hy
   exact ⟨lf, (runz24 g lf x.1).trans h⟩

def smSan : List (Nat × Sm) := [(36, sp_x_Keywords), (42, sp_strings_Count), (122, sp_internal_stringslite_IndexByte), (32, spz11)]
def hxSan : List (Nat × Hx) := [(79, ccHx), (47, bsHx)]
theorem run_l_sanity : icallK Tryd.prog ttT.get ftT.get (fun _ _ => none) (smL smSan) (hxL hxSan) 1000 100 _ (.fn 13) [] S0 (runR sp_l_sanity) = some (true, ()) := by kernel_rfl
theorem con_l_sanity : Con Tryd.prog 13 sp_l_sanity :=
 conK (nm := fun _ _ => none) (sm := smL smSan) (hx := hxL hxSan) mixed ttOK ftOK (smL_ok ⟨con_x_Keywords, con_strings_Count, con_internal_stringslite_IndexByte, conz11, trivial⟩) (hxL_ok ⟨ccHx_ok, bsHx_ok, trivial⟩) cal13 fun x y hx h => ⟨100, 1000, run_l_sanity.trans h⟩

theorem stand_size {s : ByteArray} : ∀ {l : List DToken} {m : Nat}, stand s l m → ∀ t ∈ l, t.2.1.size ≤ s.size
 | [], _, _, t, ht => by cases ht
 | u :: l, m, ⟨o, h1, h2, h3, h4, h5, h6⟩, t, ht => by
   rcases List.mem_cons.1 ht with rfl | ht
   · omega
   · exact stand_size h6 t ht
theorem put_ok {bl : DToken → DToken → Bool} {l : List DToken} (hl : l.length ≤ 6000) (hr : ∀ t ∈ l, S.right t = true) (hp : (S.putB bl l).length ≤ 20000) : S.put bl l = (putS bl l, 0) := by
 unfold S.put
 rw [if_neg (by omega), if_neg, if_neg (by omega)]
 · rfl
 · intro h
   obtain ⟨t, ht, h2⟩ := List.any_eq_true.1 h
   rw [hr t ht] at h2
   cases h2
theorem smallL_of {l : List DToken} {n : Nat} (hn : n ≤ 400000) (h : ∀ t ∈ l, t.2.1.size ≤ n) : S.smallL l = true := List.all_eq_true.2 fun t ht => Nat.ble_eq_true_of_le (Nat.le_trans (h t ht) hn)
theorem Fz24_eq (lf : Nat) (s : ByteArray) : Fz24 lf s = some (true, ()) := by
 simp only [Fz24, Rz24_in, ilt_nat]
 by_cases c : 400 < s.size
 · rw [decide_eq_true c]; rfl
 · have f : S.fits s = true := Nat.ble_eq_true_of_le (by omega)
   rw [decide_eq_false c, cond_false, f]
   simp only [cond_true]
   by_cases h0 : (S.tokens s).2.2.2 = 0
   · have ht := tokens_small (s := s) (by omega)
     have h0' : (S.readG s).2.2.2 = 0 := by rw [← ht]; exact h0
     rw [ieq_t (show (S.tokens s).2.2.2 = Int.ofNat 0 from h0), Bool.not_true, cond_false, ht]
     have hst := (stand_readG s).1
     have hsz := stand_size hst
     have hlen := (readG_len s).1
     have hr := readG_right s
     have htl := tight_len (S.readG s).1 0 none (standT_readG s) (Nat.zero_le _) (readG_tok s) (fun a e => by cases e)
     have htl : (S.putB S.needs (S.readG s).1).length ≤ s.size := by omega
     have hpo := put_ok (bl := S.needs) (l := (S.readG s).1) (by omega) hr (by omega)
     rw [smallL_of (n := s.size) (by omega) hsz, hpo]
     simp only [cond_true]
     have hps : (putS S.needs (S.readG s).1).size = (S.putB S.needs (S.readG s).1).length := putS_size hr
     have ft : S.fits (putS S.needs (S.readG s).1) = true := Nat.ble_eq_true_of_le (by rw [hps]; omega)
     rw [ieq_t (show (0 : Int) = Int.ofNat 0 from rfl), Bool.not_true, cond_false, decide_eq_false (by rw [hps]; omega), cond_false, ft]
     simp only [Bool.and_true, cond_true]
     have ht2 := tokens_small (s := putS S.needs (S.readG s).1) (by rw [hps]; omega)
     obtain ⟨q1, q2⟩ := put_read S.needs (fun a b h => h) hr
     have hsame : S.same s (putS S.needs (S.readG s).1) = (true, 0) := by
       unfold S.same
       rw [ht, ht2, if_pos h0', if_pos (by rw [q1])]
       have : S.sameK (S.readG s).1 (S.readG (putS S.needs (S.readG s).1)).1 = true := decide_eq_true q2.symm
       rw [this]
     rw [hsame]
     rfl
   · rw [ieq_f (show ¬ (S.tokens s).2.2.2 = Int.ofNat 0 from h0), Bool.not_false, cond_true, (tokens_err h0).1]
     rfl
theorem conz24 : Con Tryd.prog idz24 ⟨[.str], [(false, .bool)], fun _ => some (true, ())⟩ := mkz24 ⟨conz15, conz22, conz23, con_l_sanity, trivial⟩ fun x y hx h => ⟨0, (Fz24_eq 0 x.1).trans h⟩
end Go.Proofs.YtanenikkloolfaaDoor
end

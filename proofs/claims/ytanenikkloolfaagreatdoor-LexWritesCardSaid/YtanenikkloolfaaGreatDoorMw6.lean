/- Texts: Xp20, Xg13, Xp21, Xz1, Xsan, Xl9, Xz2, Xz3. -/
import Derived.Test.YtanenikkloolfaaGreatDoorMw5
import Derived.Test.YtanenikkloolfaaGreatDoorMw4
set_option linter.unusedVariables false
noncomputable section
set_option maxRecDepth 100000
namespace Go.Proofs.YtanenikkloolfaaGreatDoor
open Go Go.Sx Go.RowKit Go.Jx
def sepB (bl : qab -> qab -> Bool) (l : List qab) (v : qab) : List Int := match l.getLast? with
 | none => []
 | some p => cond (bl p v) [32] []
theorem qgo (bl : qab -> qab -> Bool) (v : qab) : ∀ l : List qab, S.putB bl (l ++ [v]) = S.putB bl l ++ (sepB bl l v ++ qaa v.2.1)
 | [] => rfl
 | [a] => by
   show S.putB bl [a, v] = qaa a.2.1 ++ (cond (bl a v) [32] [] ++ qaa v.2.1)
   rw [qiy]
   cases bl a v <;> rfl
 | a :: b :: l => by
   have ih := qgo bl v (b :: l)
   have hs : sepB bl (a :: b :: l) v = sepB bl (b :: l) v := by unfold sepB; rw [List.getLast?_cons_cons]
   rw [List.cons_append, List.cons_append, qiy, qiy, hs, <- List.cons_append, ih]
   cases bl a b <;> simp
theorem qfo (bl : qab -> qab -> Bool) : ∀ l : List qab, (∀ t ∈ l, t.2.1.size <= 400000) -> (S.putB bl l).length <= 400001 * l.length
 | [], _ => Nat.le_refl _
 | [a], h => by
   show (qaa a.2.1).length <= 400001 * 1
   rw [qaf]
   have := h a List.mem_cons_self
   omega
 | a :: b :: l, h => by
   have ih := qfo bl (b :: l) fun t ht => h t (List.mem_cons_of_mem _ ht)
   have := h a List.mem_cons_self
   rw [qiy, List.length_append, qaf]
   cases bl a b with
   | true => simp only [cond_true, List.length_cons] at ih ⊢; omega
   | false => simp only [cond_false, List.length_cons] at ih ⊢; omega
theorem qm4 {l : List qab} {i : Nat} {p : qab} (h : l[i]? = some p) : (l.take (i + 1)).getLast? = some p := by
 rw [List.take_add_one, h]
 simp
theorem qhb {l : List qab} (h : S.smallL l = true) : ∀ t ∈ l, t.2.1.size <= 400000 := fun t ht => Nat.le_of_ble_eq_true (List.all_eq_true.1 h t ht)
theorem qy9 (l : List qab) (hl : l.length <= 6000) (hs : S.smallL l = true) (hr : ∀ t ∈ l, S.right t = true) : qfu LF l LF (Int.ofNat 0, []) = if 20000 < (S.putB S.always l).length then some ((S.lit [], 3, ()), ()) else some ((strOf (S.putB S.always l), 0, ()), ()) := by
 have hsm := qhb hs
 refine range0 (σ := List Int) (R := Rtz28) l (fun i q => (i, q)) (fun i q => q = S.putB S.always (l.take i)) (fun _ _ _ => if 20000 < (S.putB S.always l).length then some ((S.lit [], 3, ()), ()) else some ((strOf (S.putB S.always l), 0, ()), ())) (by unfold LF; omega) (fun K q hq => ?_) (fun K i v rest q hq r h => ?_) [] rfl
 · rw [List.take_length] at hq
   simp only [qhm, qa0, cond_false, qay]
   rw [<- hq]
   by_cases c : 20000 < q.length
   · rw [decide_eq_true c, cond_true, if_pos c]; rfl
   · rw [decide_eq_false c, cond_false, if_neg c]; rfl
 · have hi := r.lt
   have hv := hsm v r.mem
   have hql : q.length <= 2400100000 := by
     have := qfo S.always (l.take i) fun t ht => hsm t (List.mem_of_mem_take ht)
     rw [List.length_take] at this
     rw [hq]; omega
   have hbv := qaf v.2.1
   have r1 : Nat.ble (Nat.mul (Nat.add q.length 1) 1) 140737488355328 = true := Nat.ble_eq_true_of_le (by show (q.length + 1) * 1 <= _; omega)
   have r2 : Nat.ble (Nat.mul (Nat.add (List.append q [Int.ofNat 32]).length (qaa v.2.1).length) 1) 140737488355328 = true := Nat.ble_eq_true_of_le (by
     show ((q ++ [Int.ofNat 32]).length + (qaa v.2.1).length) * 1 <= _
     rw [List.length_append]
     simp only [List.length_cons, List.length_nil]; omega)
   have r3 : Nat.ble (Nat.mul (Nat.add q.length (qaa v.2.1).length) 1) 140737488355328 = true := Nat.ble_eq_true_of_le (by show (q.length + (qaa v.2.1).length) * 1 <= _; omega)
   simp only [qhm, r.ilt, r.get, r.next, cond_true, qay]
   have hsn := qgo S.always v (l.take i)
   rw [<- r.take] at hsn
   cases i with
   | zero =>
     rw [show decide (0 < 0) = false from rfl, cond_false, r3, cond_true]
     refine h _ ?_
     rw [hsn, <- hq]; rfl
   | succ i =>
     obtain ⟨p, hp⟩ : ∃ p, l[i]? = some p := ⟨_, List.getElem?_eq_getElem (by omega)⟩
     have w1 : IntKind.i64.wrap (Int.sub (Int.ofNat (i + 1)) (Int.ofNat 1)) = Int.ofNat i := by
       rw [show Int.sub (Int.ofNat (i + 1)) (Int.ofNat 1) = Int.ofNat i by show ((i + 1 : Nat) : Int) - 1 = (i : Int); omega]
       exact qa7 (n := i) (by omega)
     have hjp : jget l (Int.ofNat i) = some p := qbe.trans hp
     have hlast := qm4 hp
     have hsep : sepB S.always (l.take (i + 1)) v = cond (S.always p v) [32] [] := by unfold sepB; rw [hlast]
     have hpm := List.mem_of_getElem? hp
     rw [hsep] at hsn
     rw [decide_eq_true (Nat.succ_pos i), cond_true, w1, hjp]
     simp only
     rw [r1, cond_true, r2, cond_true]
     refine h _ ?_
     rw [hsn, <- hq]
     show (q ++ [32]) ++ qaa v.2.1 = q ++ ([32] ++ qaa v.2.1)
     rw [List.append_assoc]
theorem Fz28_eq (l : List qab) (hs : S.smallL l = true) : Fz28 LF l = some (((S.put S.always l).1, (S.put S.always l).2, ()), ()) := by
 have hi : idxO (fun v0 : qab => (some (Bool.not (S.right (v0.1, (v0.2.1, (v0.2.2.1, v0.2.2.2))))))) l 0 = some (Go.Jx.S.idx (fun t => !S.right t) l) := qub (fun t => !S.right t) fun x _ => rfl
 simp only [Fz28, qoo, qay, S.put]
 by_cases c : 6000 < l.length
 · rw [decide_eq_true c, cond_true, if_pos c]; rfl
 · rw [decide_eq_false c, cond_false, if_neg c]
   rw [hi]
   simp only
   have hz := Go.Jx.S.idx_nonneg (fun t => !S.right t) l
   by_cases ha : l.any (fun t => !S.right t) = true
   · rw [if_pos ha, ilt_f (show ¬ Go.Jx.S.idx (fun t => !S.right t) l < Int.ofNat 0 by have := hz.2 ha; show ¬ _ < (0 : Int); omega), Bool.not_false, cond_true]
     rfl
   · rw [if_neg ha, ilt_t (show Go.Jx.S.idx (fun t => !S.right t) l < Int.ofNat 0 by
       refine Int.not_le.1 fun h => ha (hz.1 h)), Bool.not_true, cond_false]
     have hr : ∀ t ∈ l, S.right t = true := fun t ht => by
       cases h : S.right t with
       | true => rfl
       | false => exact absurd (List.any_eq_true.2 ⟨t, ht, by rw [h]; rfl⟩) ha
     refine (qy9 l (by omega) hs hr).trans ?_
     by_cases c2 : 20000 < (S.putB S.always l).length
     · rw [if_pos c2, if_pos c2]
     · rw [if_neg c2, if_neg c2]
theorem qp7 : ConR Tryz.prog idz28 spz28 := mkz28 ⟨qk5, qm3, trivial⟩ fun x y hx h => ⟨LF, by
 obtain ⟨h1, h2⟩ := qa9 (show cond (S.smallL x.1) (some (((S.put S.always x.1).1, (S.put S.always x.1).2, ()), ())) none = some y from h)
 exact (Fz28_eq x.1 h1).trans (congrArg some h2)⟩
theorem qzt (l : List qab) (hl : l.length <= 6000) (hs : S.smallL l = true) (hr : ∀ t ∈ l, S.right t = true) : qgd LF l LF (Int.ofNat 0, []) = if 20000 < (S.putB S.needs l).length then some ((S.lit [], 3, ()), ()) else some ((strOf (S.putB S.needs l), 0, ()), ()) := by
 have hsm := qhb hs
 refine range0 (σ := List Int) (R := Rtz29) l (fun i q => (i, q)) (fun i q => q = S.putB S.needs (l.take i)) (fun _ _ _ => if 20000 < (S.putB S.needs l).length then some ((S.lit [], 3, ()), ()) else some ((strOf (S.putB S.needs l), 0, ()), ())) (by unfold LF; omega) (fun K q hq => ?_) (fun K i v rest q hq r h => ?_) [] rfl
 · rw [List.take_length] at hq
   simp only [qie, qa0, cond_false, qay]
   rw [<- hq]
   by_cases c : 20000 < q.length
   · rw [decide_eq_true c, cond_true, if_pos c]; rfl
   · rw [decide_eq_false c, cond_false, if_neg c]; rfl
 · have hi := r.lt
   have hv := hsm v r.mem
   have hql : q.length <= 2400100000 := by
     have := qfo S.needs (l.take i) fun t ht => hsm t (List.mem_of_mem_take ht)
     rw [List.length_take] at this
     rw [hq]; omega
   have hbv := qaf v.2.1
   have r1 : Nat.ble (Nat.mul (Nat.add q.length 1) 1) 140737488355328 = true := Nat.ble_eq_true_of_le (by show (q.length + 1) * 1 <= _; omega)
   have r2 : Nat.ble (Nat.mul (Nat.add (List.append q [Int.ofNat 32]).length (qaa v.2.1).length) 1) 140737488355328 = true := Nat.ble_eq_true_of_le (by
     show ((q ++ [Int.ofNat 32]).length + (qaa v.2.1).length) * 1 <= _
     rw [List.length_append]
     simp only [List.length_cons, List.length_nil]; omega)
   have r3 : Nat.ble (Nat.mul (Nat.add q.length (qaa v.2.1).length) 1) 140737488355328 = true := Nat.ble_eq_true_of_le (by show (q.length + (qaa v.2.1).length) * 1 <= _; omega)
   simp only [qie, r.ilt, r.get, r.next, cond_true, qay]
   have hsn := qgo S.needs v (l.take i)
   rw [<- r.take] at hsn
   cases i with
   | zero =>
     rw [show decide (0 < 0) = false from rfl, cond_false, r3, cond_true]
     refine h _ ?_
     rw [hsn, <- hq]; rfl
   | succ i =>
     obtain ⟨p, hp⟩ : ∃ p, l[i]? = some p := ⟨_, List.getElem?_eq_getElem (by omega)⟩
     have w1 : IntKind.i64.wrap (Int.sub (Int.ofNat (i + 1)) (Int.ofNat 1)) = Int.ofNat i := by
       rw [show Int.sub (Int.ofNat (i + 1)) (Int.ofNat 1) = Int.ofNat i by show ((i + 1 : Nat) : Int) - 1 = (i : Int); omega]
       exact qa7 (n := i) (by omega)
     have hjp : jget l (Int.ofNat i) = some p := qbe.trans hp
     have hlast := qm4 hp
     have hsep : sepB S.needs (l.take (i + 1)) v = cond (S.needs p v) [32] [] := by unfold sepB; rw [hlast]
     have hpm := List.mem_of_getElem? hp
     rw [hsep] at hsn
     rw [decide_eq_true (Nat.succ_pos i), cond_true, w1, hjp]
     simp only
     have g1 : S.right p = true := hr p hpm
     have g2 : S.right v = true := hr v r.mem
     have g3 : S.small p = true := List.all_eq_true.1 hs p hpm
     have g4 : S.small v = true := List.all_eq_true.1 hs v r.mem
     rw [show S.right (p.1, (p.2.1, (p.2.2.1, p.2.2.2))) = true from g1, show S.right (v.1, (v.2.1, (v.2.2.1, v.2.2.2))) = true from g2, show S.small (p.1, (p.2.1, (p.2.2.1, p.2.2.2))) = true from g3, show S.small (v.1, (v.2.1, (v.2.2.1, v.2.2.2))) = true from g4]
     simp only [Bool.and_true, cond_true]
     show cond (S.needs p v) _ _ = _
     cases hn : S.needs p v with
     | true =>
       rw [hn] at hsn
       rw [cond_true, r1, cond_true, r2, cond_true]
       refine h _ ?_
       rw [hsn, <- hq]
       show (q ++ [32]) ++ qaa v.2.1 = q ++ ([32] ++ qaa v.2.1)
       rw [List.append_assoc]
     | false =>
       rw [hn] at hsn
       rw [cond_false, r3, cond_true]
       refine h _ ?_
       rw [hsn, <- hq]
       rfl
theorem Fz29_eq (l : List qab) (hs : S.smallL l = true) : Fz29 LF l = some (((S.put S.needs l).1, (S.put S.needs l).2, ()), ()) := by
 have hi : idxO (fun v0 : qab => (some (Bool.not (S.right (v0.1, (v0.2.1, (v0.2.2.1, v0.2.2.2))))))) l 0 = some (Go.Jx.S.idx (fun t => !S.right t) l) := qub (fun t => !S.right t) fun x _ => rfl
 simp only [Fz29, qnh, qay, S.put]
 by_cases c : 6000 < l.length
 · rw [decide_eq_true c, cond_true, if_pos c]; rfl
 · rw [decide_eq_false c, cond_false, if_neg c]
   rw [hi]
   simp only
   have hz := Go.Jx.S.idx_nonneg (fun t => !S.right t) l
   by_cases ha : l.any (fun t => !S.right t) = true
   · rw [if_pos ha, ilt_f (show ¬ Go.Jx.S.idx (fun t => !S.right t) l < Int.ofNat 0 by have := hz.2 ha; show ¬ _ < (0 : Int); omega), Bool.not_false, cond_true]
     rfl
   · rw [if_neg ha, ilt_t (show Go.Jx.S.idx (fun t => !S.right t) l < Int.ofNat 0 by
       refine Int.not_le.1 fun h => ha (hz.1 h)), Bool.not_true, cond_false]
     have hr : ∀ t ∈ l, S.right t = true := fun t ht => by
       cases h : S.right t with
       | true => rfl
       | false => exact absurd (List.any_eq_true.2 ⟨t, ht, by rw [h]; rfl⟩) ha
     refine (qzt l (by omega) hs hr).trans ?_
     by_cases c2 : 20000 < (S.putB S.needs l).length
     · rw [if_pos c2, if_pos c2]
     · rw [if_neg c2, if_neg c2]
theorem qsg : ConR Tryz.prog idz29 spz29 := mkz29 ⟨qk5, qm3, trivial⟩ fun x y hx h => ⟨LF, by
 obtain ⟨h1, h2⟩ := qa9 (show cond (S.smallL x.1) (some (((S.put S.needs x.1).1, (S.put S.needs x.1).2, ()), ())) none = some y from h)
 exact (Fz29_eq x.1 h1).trans (congrArg some h2)⟩
def nmz30 : Nat -> Option Nm := fun k => none
def stz30 : Nat -> Bool := fun k => false
def hdz30 := stz30
abbrev Rtz30 : Type := ByteArray × Int × Unit
def qm8 : List (Nat × Sm) := []
def qoh : List (Nat × Hx) := [(40, hxSel (qfw 41) (hxR spz28) (hxR spz29))]
def clz30 (R : Type) (lf : Nat) : ClK R := qai Tryz.prog ttT.get ftT.get (nm1 13 nmz30) (smL qm8) (hxL qoh) lf 20 R
abbrev idz30 : Nat := 13
def qmh (lf : Nat) (x1 : (List qab)) : Option Rtz30 := (match (cond (S.smallL x1) (some (((S.put S.always x1).1, ((S.put S.always x1).2, ())), ())) none) with | .none  => none | .some v0 => (some (v0.1.1, (v0.1.2.1, ()))))
abbrev gz30 : Type := ElA [(.list cToken)] -> Option Rtz30
abbrev sz30 (g : gz30) : Sm := ⟨[(.list cToken)], [(false, .str), (false, (.int .i64))], g⟩
abbrev Ez30 (g : gz30) (J : JT Rtz30) (lf : Nat) (x1 : (List qab)) := qao Tryz.prog ttT.get nmz30 fi13.nt (clz30 _ lf) lf stz30 J fi13.body [] (argGo (argV [(.list cToken)] (x1, ())) 0 .leaf) S0 [] (lastK ttT.get fi13 (sz30 g))
theorem inz30 (g : gz30) (J : JT Rtz30) (lf : Nat) (x1 : (List qab)) : Ez30 g J lf x1 = qmh lf x1 := by kernel_rfl
theorem ndz30 : (regs fi13.body).Nodup := by decide +kernel
theorem okz30 : okC nmz30 stz30 hdz30 fi13.body none = true := by kernel_rfl
def Az30 (g : gz30) (lf : Nat) : JT Rtz30 := atN Tryz.prog ttT.get nmz30 fi13 (sz30 g) (clz30 _ lf) lf hdz30
def Fz30 (lf : Nat) (x1 : (List qab)) : Option Rtz30 := qmh lf x1
theorem runz30 (g : gz30) (lf : Nat) (x1 : (List qab)) : Ez30 g (Az30 g lf) lf x1 = Fz30 lf x1 := by
   refine (inz30 g (Az30 g lf) lf x1).trans ?_
   rfl
theorem hxsz30 : HxsOK Tryz.prog qoh := ⟨qjx (qb8 qp7) (qb8 qsg), trivial⟩
theorem mkz30 {g : gz30} (hsm : SmOK Tryz.prog qm8) (hg : ∀ (x : ElA [(.list cToken)]) (y : Rtz30), WfA [(.list cToken)] x -> g x = some y -> ∃ lf, Fz30 lf x.1 = some y) : Con Tryz.prog 13 ⟨[(.list cToken)], [(false, .str), (false, (.int .i64))], g⟩ :=
 conT (nmf := nmz30) (sml := qm8) (hxl := qoh) (st := stz30) (hd := hdz30) 20 mixed ttOK ftOK hsm hxsz30 cal13 rfl rfl (by kernel_rfl) (fun x => by kernel_rfl) ndz30 okz30 fun x y hx hy => by
   obtain ⟨lf, h⟩ := hg x y hx hy
   exact ⟨lf, (runz30 g lf x.1).trans h⟩
def nmz31 : Nat -> Option Nm := fun k => none
def stz31 : Nat -> Bool := fun k => false
def hdz31 := stz31
abbrev Rtz31 : Type := ByteArray × Int × Unit
def qlk : List (Nat × Sm) := []
def qo7 : List (Nat × Hx) := [(40, hxSel (qfw 41) (hxR spz28) (hxR spz29))]
def clz31 (R : Type) (lf : Nat) : ClK R := qai Tryz.prog ttT.get ftT.get (nm1 15 nmz31) (smL qlk) (hxL qo7) lf 20 R
abbrev idz31 : Nat := 15
def qni (lf : Nat) (x1 : (List qab)) : Option Rtz31 := (match (cond (S.smallL x1) (some (((S.put S.needs x1).1, ((S.put S.needs x1).2, ())), ())) none) with | .none  => none | .some v0 => (some (v0.1.1, (v0.1.2.1, ()))))
abbrev gz31 : Type := ElA [(.list cToken)] -> Option Rtz31
abbrev sz31 (g : gz31) : Sm := ⟨[(.list cToken)], [(false, .str), (false, (.int .i64))], g⟩
abbrev Ez31 (g : gz31) (J : JT Rtz31) (lf : Nat) (x1 : (List qab)) := qao Tryz.prog ttT.get nmz31 fi15.nt (clz31 _ lf) lf stz31 J fi15.body [] (argGo (argV [(.list cToken)] (x1, ())) 0 .leaf) S0 [] (lastK ttT.get fi15 (sz31 g))
theorem inz31 (g : gz31) (J : JT Rtz31) (lf : Nat) (x1 : (List qab)) : Ez31 g J lf x1 = qni lf x1 := by kernel_rfl
theorem ndz31 : (regs fi15.body).Nodup := by decide +kernel
theorem okz31 : okC nmz31 stz31 hdz31 fi15.body none = true := by kernel_rfl
def Az31 (g : gz31) (lf : Nat) : JT Rtz31 := atN Tryz.prog ttT.get nmz31 fi15 (sz31 g) (clz31 _ lf) lf hdz31
def Fz31 (lf : Nat) (x1 : (List qab)) : Option Rtz31 := qni lf x1
theorem runz31 (g : gz31) (lf : Nat) (x1 : (List qab)) : Ez31 g (Az31 g lf) lf x1 = Fz31 lf x1 := by
   refine (inz31 g (Az31 g lf) lf x1).trans ?_
   rfl
theorem hxsz31 : HxsOK Tryz.prog qo7 := ⟨qjx (qb8 qp7) (qb8 qsg), trivial⟩
theorem mkz31 {g : gz31} (hsm : SmOK Tryz.prog qlk) (hg : ∀ (x : ElA [(.list cToken)]) (y : Rtz31), WfA [(.list cToken)] x -> g x = some y -> ∃ lf, Fz31 lf x.1 = some y) : Con Tryz.prog 15 ⟨[(.list cToken)], [(false, .str), (false, (.int .i64))], g⟩ :=
 conT (nmf := nmz31) (sml := qlk) (hxl := qo7) (st := stz31) (hd := hdz31) 20 mixed ttOK ftOK hsm hxsz31 cal15 rfl rfl (by kernel_rfl) (fun x => by kernel_rfl) ndz31 okz31 fun x y hx hy => by
   obtain ⟨lf, h⟩ := hg x y hx hy
   exact ⟨lf, (runz31 g lf x.1).trans h⟩
theorem Fz30_eq (lf : Nat) (l : List qab) (hs : S.smallL l = true) : Fz30 lf l = some ((S.put S.always l).1, (S.put S.always l).2, ()) := by
 simp only [Fz30, qmh, hs, cond_true]
theorem conz30 : Con Tryz.prog idz30 spz30 := mkz30 trivial fun x y hx h => ⟨0, by
 obtain ⟨h1, h2⟩ := qa9 (show cond (S.smallL x.1) (some ((S.put S.always x.1).1, (S.put S.always x.1).2, ())) none = some y from h)
 exact (Fz30_eq 0 x.1 h1).trans (congrArg some h2)⟩
theorem Fz31_eq (lf : Nat) (l : List qab) (hs : S.smallL l = true) : Fz31 lf l = some ((S.put S.needs l).1, (S.put S.needs l).2, ()) := by
 simp only [Fz31, qni, hs, cond_true]
theorem conz31 : Con Tryz.prog idz31 spz31 := mkz31 trivial fun x y hx h => ⟨0, by
 obtain ⟨h1, h2⟩ := qa9 (show cond (S.smallL x.1) (some ((S.put S.needs x.1).1, (S.put S.needs x.1).2, ())) none = some y from h)
 exact (Fz31_eq 0 x.1 h1).trans (congrArg some h2)⟩
namespace S
def needsE (a b : qab) : Bool × Int := if right a && right b then (needs a b, 0) else (false, 1)
def allOr (all : Bool) (a b : qab) : Bool := all || needs a b
def few (l : List qab) : Bool := l.all (fun t => !decide (60 < t.2.1.size)) && (decide (l.length <= 40) || (decide (6000 < l.length) && decide (l.length <= 6010)))
end S
def spz32 : Sm := ⟨[cToken], [(false, .bool)], fun x => some (S.right x.1, ())⟩
def spz34 : Sm := ⟨[cToken, cToken], [(false, .bool)], fun x => cond ((S.right x.1 && S.right x.2.1) && (S.small x.1 && S.small x.2.1)) (some (S.needs x.1 x.2.1, ())) none⟩
def spz35 : Sm := ⟨[cToken, cToken], [(false, qkl)], fun x => cond (S.small x.1 && S.small x.2.1) (some (S.needsE x.1 x.2.1, ())) none⟩
def spz33 : Sm := ⟨[cToken, cToken], [(false, .bool), (false, .int .i64)], fun x => cond (S.small x.1 && S.small x.2.1) (some ((S.needsE x.1 x.2.1).1, (S.needsE x.1 x.2.1).2, ())) none⟩
def spz36 : Sm := ⟨[.list cToken, .bool], [(false, qcg)], fun x => cond (S.smallL x.1) (some (S.put (S.allOr x.2.1) x.1, ())) none⟩
def spz37 : Sm := ⟨[.list cToken], [(false, qcg)], fun x => cond (S.smallL x.1) (some (S.put S.always x.1, ())) none⟩
def spz38 : Sm := ⟨[.list cToken], [(false, qcg)], fun x => cond (S.smallL x.1) (some (S.put S.needs x.1, ())) none⟩
def spz39 : Sm := ⟨[.list cToken], [(false, .bool)], fun x => some (S.few x.1, ())⟩
def smSan : List (Nat × Sm) := [(27, qjw), (54, qut), (128, qq0), (73, spz16)]
def hxSan : List (Nat × Hx) := [(83, ccHx), (57, bsHx)]
theorem q13 : qai Tryz.prog ttT.get ftT.get (fun _ _ => none) (smL smSan) (hxL hxSan) 1000 100 _ (.fn 7) [] S0 (runR qlx) = some (true, ()) := by kernel_rfl
theorem qxv : Con Tryz.prog 7 qlx :=
 conK (nm := fun _ _ => none) (sm := smL smSan) (hx := hxL hxSan) mixed ttOK ftOK (qde ⟨qqp, q08, qxw, qpf, trivial⟩) (qc8 ⟨qpe, qoy, trivial⟩) cal7 fun x y hx h => ⟨100, 1000, q13.trans h⟩
theorem qrc (a : Int) : ieqI a a = true := ieq_t rfl
def nmz32 : Nat -> Option Nm := fun k => none
def stz32 : Nat -> Bool := fun k => false
def hdz32 := stz32
abbrev Rtz32 : Type := Bool × Unit
def qp1 : List (Nat × Sm) := [(69, spz9)]
def qlq : List (Nat × Hx) := []
def clz32 (R : Type) (lf : Nat) : ClK R := qai Tryz.prog ttT.get ftT.get (nm1 45 nmz32) (smL qp1) (hxL qlq) lf 20 R
abbrev idz32 : Nat := 45
def qpy (lf : Nat) (x1 : qab) : Option Rtz32 := (cond (ieqI (S.shape x1.2.1).2 (Int.ofNat 0)) (some ((ieqI (S.shape x1.2.1).1 x1.1), ())) (some (Bool.false, ())))
abbrev gz32 : Type := ElA [cToken] -> Option Rtz32
abbrev sz32 (g : gz32) : Sm := ⟨[cToken], [(false, .bool)], g⟩
abbrev Ez32 (g : gz32) (J : JT Rtz32) (lf : Nat) (x1 : qab) := qao Tryz.prog ttT.get nmz32 fi45.nt (clz32 _ lf) lf stz32 J fi45.body [] (argGo (argV [cToken] (x1, ())) 0 .leaf) S0 [] (lastK ttT.get fi45 (sz32 g))
theorem inz32 (g : gz32) (J : JT Rtz32) (lf : Nat) (x1 : qab) : Ez32 g J lf x1 = qpy lf x1 := by kernel_rfl
theorem ndz32 : (regs fi45.body).Nodup := by decide +kernel
theorem okz32 : okC nmz32 stz32 hdz32 fi45.body none = true := by kernel_rfl
def Az32 (g : gz32) (lf : Nat) : JT Rtz32 := atN Tryz.prog ttT.get nmz32 fi45 (sz32 g) (clz32 _ lf) lf hdz32
def Fz32 (lf : Nat) (x1 : qab) : Option Rtz32 := qpy lf x1
theorem runz32 (g : gz32) (lf : Nat) (x1 : qab) : Ez32 g (Az32 g lf) lf x1 = Fz32 lf x1 := by
   refine (inz32 g (Az32 g lf) lf x1).trans ?_
   rfl
theorem hxsz32 : HxsOK Tryz.prog qlq := trivial
theorem mkz32 {g : gz32} (hsm : SmOK Tryz.prog qp1) (hg : ∀ (x : ElA [cToken]) (y : Rtz32), WfA [cToken] x -> g x = some y -> ∃ lf, Fz32 lf x.1 = some y) : Con Tryz.prog 45 ⟨[cToken], [(false, .bool)], g⟩ :=
 conT (nmf := nmz32) (sml := qp1) (hxl := qlq) (st := stz32) (hd := hdz32) 20 mixed ttOK ftOK hsm hxsz32 cal45 rfl rfl (by kernel_rfl) (fun x => by kernel_rfl) ndz32 okz32 fun x y hx hy => by
   obtain ⟨lf, h⟩ := hg x y hx hy
   exact ⟨lf, (runz32 g lf x.1).trans h⟩
def nmz33 : Nat -> Option Nm := fun k => none
def stz33 : Nat -> Bool := fun k => false
def hdz33 := stz33
abbrev Rtz33 : Type := Bool × Int × Unit
def qpg : List (Nat × Sm) := [(44, spz24), (43, spz27)]
def qjy : List (Nat × Hx) := []
def clz33 (R : Type) (lf : Nat) : ClK R := qai Tryz.prog ttT.get ftT.get (nm1 17 nmz33) (smL qpg) (hxL qjy) lf 20 R
abbrev idz33 : Nat := 17
def qn9 (lf : Nat) (x1 : qab) (x2 : qab) : Option Rtz33 := (cond (Bool.not (S.right (x1.1, (x1.2.1, (x1.2.2.1, x1.2.2.2))))) (some (Bool.false, ((Int.ofNat 1), ()))) (cond (Bool.not (S.right (x2.1, (x2.2.1, (x2.2.2.1, x2.2.2.2))))) (some (Bool.false, ((Int.ofNat 1), ()))) (match (cond (Bool.and (Bool.and (S.right (x1.1, (x1.2.1, (x1.2.2.1, x1.2.2.2)))) (S.right (x2.1, (x2.2.1, (x2.2.2.1, x2.2.2.2))))) (Bool.and (S.small (x1.1, (x1.2.1, (x1.2.2.1, x1.2.2.2)))) (S.small (x2.1, (x2.2.1, (x2.2.2.1, x2.2.2.2)))))) (some ((S.needs (x1.1, (x1.2.1, (x1.2.2.1, x1.2.2.2))) (x2.1, (x2.2.1, (x2.2.2.1, x2.2.2.2)))), ())) none) with | .none  => none | .some v0 => (some (v0.1, ((Int.ofNat 0), ()))))))
abbrev gz33 : Type := ElA [cToken, cToken] -> Option Rtz33
abbrev sz33 (g : gz33) : Sm := ⟨[cToken, cToken], [(false, .bool), (false, (.int .i64))], g⟩
abbrev Ez33 (g : gz33) (J : JT Rtz33) (lf : Nat) (x1 : qab) (x2 : qab) := qao Tryz.prog ttT.get nmz33 fi17.nt (clz33 _ lf) lf stz33 J fi17.body [] (argGo (argV [cToken, cToken] (x1, x2, ())) 0 .leaf) S0 [] (lastK ttT.get fi17 (sz33 g))
theorem inz33 (g : gz33) (J : JT Rtz33) (lf : Nat) (x1 : qab) (x2 : qab) : Ez33 g J lf x1 x2 = qn9 lf x1 x2 := by kernel_rfl
theorem ndz33 : (regs fi17.body).Nodup := by decide +kernel
theorem okz33 : okC nmz33 stz33 hdz33 fi17.body none = true := by kernel_rfl
def Az33 (g : gz33) (lf : Nat) : JT Rtz33 := atN Tryz.prog ttT.get nmz33 fi17 (sz33 g) (clz33 _ lf) lf hdz33
def Fz33 (lf : Nat) (x1 : qab) (x2 : qab) : Option Rtz33 := qn9 lf x1 x2
theorem runz33 (g : gz33) (lf : Nat) (x1 : qab) (x2 : qab) : Ez33 g (Az33 g lf) lf x1 x2 = Fz33 lf x1 x2 := by
   refine (inz33 g (Az33 g lf) lf x1 x2).trans ?_
   rfl
theorem hxsz33 : HxsOK Tryz.prog qjy := trivial
theorem mkz33 {g : gz33} (hsm : SmOK Tryz.prog qpg) (hg : ∀ (x : ElA [cToken, cToken]) (y : Rtz33), WfA [cToken, cToken] x -> g x = some y -> ∃ lf, Fz33 lf x.1 x.2.1 = some y) : Con Tryz.prog 17 ⟨[cToken, cToken], [(false, .bool), (false, (.int .i64))], g⟩ :=
 conT (nmf := nmz33) (sml := qpg) (hxl := qjy) (st := stz33) (hd := hdz33) 20 mixed ttOK ftOK hsm hxsz33 cal17 rfl rfl (by kernel_rfl) (fun x => by kernel_rfl) ndz33 okz33 fun x y hx hy => by
   obtain ⟨lf, h⟩ := hg x y hx hy
   exact ⟨lf, (runz33 g lf x.1 x.2.1).trans h⟩
def nmz34 : Nat -> Option Nm := fun k => none
def stz34 : Nat -> Bool := fun k => false
def hdz34 := stz34
abbrev Rtz34 : Type := Bool × Unit
def qmb : List (Nat × Sm) := [(39, spz20), (53, spz23)]
def qko : List (Nat × Hx) := []
def clz34 (R : Type) (lf : Nat) : ClK R := qai Tryz.prog ttT.get ftT.get (nm1 46 nmz34) (smL qmb) (hxL qko) lf 20 R
abbrev idz34 : Nat := 46
def qmj (lf : Nat) (x1 : qab) (x2 : qab) : Option Rtz34 := (cond (Nat.ble (Nat.succ (Nat.add (ByteArray.size x1.2.1) (ByteArray.size x2.2.1))) 9223372036854775808) (match (cond (S.fits (ByteArray.append x1.2.1 x2.2.1)) (some ((S.readG (ByteArray.append x1.2.1 x2.2.1)), ())) none) with | .none  => none | .some v0 => (cond (Bool.not (ieqI v0.1.2.2.2 (Int.ofNat 0))) (some (Bool.true, ())) (some ((Bool.not (S.sameK v0.1.1 (List.cons (x1.1, (x1.2.1, (x1.2.2.1, x1.2.2.2))) (List.cons (x2.1, (x2.2.1, (x2.2.2.1, x2.2.2.2))) [])))), ())))) none)
abbrev gz34 : Type := ElA [cToken, cToken] -> Option Rtz34
abbrev sz34 (g : gz34) : Sm := ⟨[cToken, cToken], [(false, .bool)], g⟩
abbrev Ez34 (g : gz34) (J : JT Rtz34) (lf : Nat) (x1 : qab) (x2 : qab) := qao Tryz.prog ttT.get nmz34 fi46.nt (clz34 _ lf) lf stz34 J fi46.body [] (argGo (argV [cToken, cToken] (x1, x2, ())) 0 .leaf) S0 [] (lastK ttT.get fi46 (sz34 g))
theorem inz34 (g : gz34) (J : JT Rtz34) (lf : Nat) (x1 : qab) (x2 : qab) : Ez34 g J lf x1 x2 = qmj lf x1 x2 := by kernel_rfl
theorem ndz34 : (regs fi46.body).Nodup := by decide +kernel
theorem okz34 : okC nmz34 stz34 hdz34 fi46.body none = true := by kernel_rfl
def Az34 (g : gz34) (lf : Nat) : JT Rtz34 := atN Tryz.prog ttT.get nmz34 fi46 (sz34 g) (clz34 _ lf) lf hdz34
def Fz34 (lf : Nat) (x1 : qab) (x2 : qab) : Option Rtz34 := qmj lf x1 x2
theorem runz34 (g : gz34) (lf : Nat) (x1 : qab) (x2 : qab) : Ez34 g (Az34 g lf) lf x1 x2 = Fz34 lf x1 x2 := by
   refine (inz34 g (Az34 g lf) lf x1 x2).trans ?_
   rfl
theorem hxsz34 : HxsOK Tryz.prog qko := trivial
theorem mkz34 {g : gz34} (hsm : SmOK Tryz.prog qmb) (hg : ∀ (x : ElA [cToken, cToken]) (y : Rtz34), WfA [cToken, cToken] x -> g x = some y -> ∃ lf, Fz34 lf x.1 x.2.1 = some y) : Con Tryz.prog 46 ⟨[cToken, cToken], [(false, .bool)], g⟩ :=
 conT (nmf := nmz34) (sml := qmb) (hxl := qko) (st := stz34) (hd := hdz34) 20 mixed ttOK ftOK hsm hxsz34 cal46 rfl rfl (by kernel_rfl) (fun x => by kernel_rfl) ndz34 okz34 fun x y hx hy => by
   obtain ⟨lf, h⟩ := hg x y hx hy
   exact ⟨lf, (runz34 g lf x.1 x.2.1).trans h⟩
def nmz35 : Nat -> Option Nm := fun k => none
def stz35 : Nat -> Bool := fun k => false
def hdz35 := stz35
abbrev Rtz35 : Type := q2b × Unit
def qj8 : List (Nat × Sm) := [(45, spz32), (46, spz34)]
def qn7 : List (Nat × Hx) := []
def clz35 (R : Type) (lf : Nat) : ClK R := qai Tryz.prog ttT.get ftT.get (nm1 18 nmz35) (smL qj8) (hxL qn7) lf 20 R
abbrev idz35 : Nat := 18
def qof (lf : Nat) (x1 : qab) (x2 : qab) : Option Rtz35 := (cond (Bool.not (S.right (x1.1, (x1.2.1, (x1.2.2.1, x1.2.2.2))))) (some ((Bool.false, (Int.ofNat 1)), ())) (cond (Bool.not (S.right (x2.1, (x2.2.1, (x2.2.2.1, x2.2.2.2))))) (some ((Bool.false, (Int.ofNat 1)), ())) (match (cond (Bool.and (Bool.and (S.right (x1.1, (x1.2.1, (x1.2.2.1, x1.2.2.2)))) (S.right (x2.1, (x2.2.1, (x2.2.2.1, x2.2.2.2))))) (Bool.and (S.small (x1.1, (x1.2.1, (x1.2.2.1, x1.2.2.2)))) (S.small (x2.1, (x2.2.1, (x2.2.2.1, x2.2.2.2)))))) (some ((S.needs (x1.1, (x1.2.1, (x1.2.2.1, x1.2.2.2))) (x2.1, (x2.2.1, (x2.2.2.1, x2.2.2.2)))), ())) none) with | .none  => none | .some v0 => (some ((v0.1, (Int.ofNat 0)), ())))))
abbrev gz35 : Type := ElA [cToken, cToken] -> Option Rtz35
abbrev sz35 (g : gz35) : Sm := ⟨[cToken, cToken], [(false, qkl)], g⟩
abbrev Ez35 (g : gz35) (J : JT Rtz35) (lf : Nat) (x1 : qab) (x2 : qab) := qao Tryz.prog ttT.get nmz35 fi18.nt (clz35 _ lf) lf stz35 J fi18.body [] (argGo (argV [cToken, cToken] (x1, x2, ())) 0 .leaf) S0 [] (lastK ttT.get fi18 (sz35 g))
theorem inz35 (g : gz35) (J : JT Rtz35) (lf : Nat) (x1 : qab) (x2 : qab) : Ez35 g J lf x1 x2 = qof lf x1 x2 := by kernel_rfl
theorem ndz35 : (regs fi18.body).Nodup := by decide +kernel
theorem okz35 : okC nmz35 stz35 hdz35 fi18.body none = true := by kernel_rfl
def Az35 (g : gz35) (lf : Nat) : JT Rtz35 := atN Tryz.prog ttT.get nmz35 fi18 (sz35 g) (clz35 _ lf) lf hdz35
def Fz35 (lf : Nat) (x1 : qab) (x2 : qab) : Option Rtz35 := qof lf x1 x2
theorem runz35 (g : gz35) (lf : Nat) (x1 : qab) (x2 : qab) : Ez35 g (Az35 g lf) lf x1 x2 = Fz35 lf x1 x2 := by
   refine (inz35 g (Az35 g lf) lf x1 x2).trans ?_
   rfl
theorem hxsz35 : HxsOK Tryz.prog qn7 := trivial
theorem mkz35 {g : gz35} (hsm : SmOK Tryz.prog qj8) (hg : ∀ (x : ElA [cToken, cToken]) (y : Rtz35), WfA [cToken, cToken] x -> g x = some y -> ∃ lf, Fz35 lf x.1 x.2.1 = some y) : Con Tryz.prog 18 ⟨[cToken, cToken], [(false, qkl)], g⟩ :=
 conT (nmf := nmz35) (sml := qj8) (hxl := qn7) (st := stz35) (hd := hdz35) 20 mixed ttOK ftOK hsm hxsz35 cal18 rfl rfl (by kernel_rfl) (fun x => by kernel_rfl) ndz35 okz35 fun x y hx hy => by
   obtain ⟨lf, h⟩ := hg x y hx hy
   exact ⟨lf, (runz35 g lf x.1 x.2.1).trans h⟩
def nmz36 : Nat -> Option Nm := fun k => cond (Nat.beq k 5) (some ⟨[0, 1, 4, 5, 6], [], [], [], [], 0, 0, false⟩) (cond (Nat.beq k 11) (some ⟨[0, 1, 4, 5, 8], [], [], [], [], 0, 0, false⟩) (cond (Nat.beq k 20) (some ⟨[0, 1, 4, 9, 10], [], [], [], [], 0, 0, false⟩) (none)))
def stz36 : Nat -> Bool := fun k => cond (Nat.beq k 5) true (cond (Nat.beq k 11) true (cond (Nat.beq k 20) true (false)))
def hdz36 := stz36
abbrev Rtz36 : Type := qnb × Unit
def qo3 : List (Nat × Sm) := [(45, spz32), (46, spz34)]
def qj7 : List (Nat × Hx) := []
def clz36 (R : Type) (lf : Nat) : ClK R := qai Tryz.prog ttT.get ftT.get (nm1 42 nmz36) (smL qo3) (hxL qj7) lf 20 R
abbrev idz36 : Nat := 42
def qfd (x1 : (List qab)) (x2 : Bool) (p : Int) : NRes := (NRes.mk (.node (some (IV.lst cToken x1)) (.node (some (IV.bool x2)) .leaf (.node (some (IV.int .i64 (Int.ofNat 0))) .leaf .leaf)) (.node none (.node (some (IV.ptr 0 0)) .leaf .leaf) (.node (some (IV.int .i64 p)) .leaf .leaf))) (IS.mk (.node (some (IObj.row (List.cons (IV.str (S.lit [])) (List.cons (IV.int .i64 (Int.ofNat 0)) [])))) .leaf .leaf) 1) [] 0)
def qee (x1 : (List qab)) (x2 : Bool) (p : Int × Int) : NRes := (NRes.mk (.node (some (IV.lst cToken x1)) (.node (some (IV.bool x2)) .leaf (.node (some (IV.int .i64 p.1)) .leaf .leaf)) (.node none (.node (some (IV.ptr 0 0)) (.node (some (IV.int .i64 p.2)) .leaf .leaf) .leaf) .leaf)) (IS.mk (.node (some (IObj.row (List.cons (IV.str (S.lit [])) (List.cons (IV.int .i64 (Int.ofNat 0)) [])))) .leaf .leaf) 1) [] 0)
def qe3 (x1 : (List qab)) (x2 : Bool) (p : Int × (List Int)) : NRes := (NRes.mk (.node (some (IV.lst cToken x1)) (.node (some (IV.bool x2)) .leaf (.node none (.node (some (IV.arr 1)) .leaf .leaf) .leaf)) (.node none (.node (some (IV.ptr 0 0)) .leaf .leaf) (.node none (.node (some (IV.int .i64 p.1)) .leaf .leaf) .leaf))) (IS.mk (.node (some (IObj.row (List.cons (IV.str (S.lit [])) (List.cons (IV.int .i64 (Int.ofNat 0)) [])))) (.node (some (IObj.arr (TC.int .u8) p.2)) .leaf .leaf) .leaf) 2) [] 0)
def qli (lf : Nat) (x1 : (List qab)) (x2 : Bool) (L5 : Int -> Option Rtz36) : Option Rtz36 := (cond (iltI (Int.ofNat 6000) (Int.ofNat (List.length x1))) (some (((S.lit []), (Int.ofNat 3)), ())) (L5 (Int.ofNat 0)))
def qhf (lf : Nat) (x1 : (List qab)) (x2 : Bool) (L5 : Int -> Option Rtz36) (L11 : (Int × Int) -> Option Rtz36) (p : Int) : Option Rtz36 := (cond (iltI p (Int.ofNat (List.length x1))) (match (jget x1 p) with | .none  => none | .some v0 => (cond (Bool.not (S.right (v0.1, (v0.2.1, (v0.2.2.1, v0.2.2.2))))) (some (((S.lit []), (Int.ofNat 1)), ())) (L5 (IntKind.i64.wrap (Int.add p (Int.ofNat 1)))))) (L11 ((Int.ofNat 0), (Int.ofNat 0))))
def qjj (lf : Nat) (x1 : (List qab)) (x2 : Bool) (L11 : (Int × Int) -> Option Rtz36) (L20 : (Int × (List Int)) -> Option Rtz36) (p : Int × Int) : Option Rtz36 := (cond (iltI p.2 (Int.ofNat (List.length x1))) (match (jget x1 p.2) with | .none  => none | .some v0 => (cond (iltI (Int.ofNat 0) p.2) (cond x2 (L11 ((IntKind.i64.wrap (Int.add (IntKind.i64.wrap (Int.add p.1 (Int.ofNat (ByteArray.size v0.2.1)))) (Int.ofNat 1))), (IntKind.i64.wrap (Int.add p.2 (Int.ofNat 1))))) (match (jget x1 (imax (Int.ofNat 0) (IntKind.i64.wrap (Int.sub p.2 (Int.ofNat 1))))) with | .none  => none | .some v76 => (match (jget x1 p.2) with | .none  => none | .some v77 => (match (cond (Bool.and (Bool.and (S.right (v76.1, (v76.2.1, (v76.2.2.1, v76.2.2.2)))) (S.right (v77.1, (v77.2.1, (v77.2.2.1, v77.2.2.2))))) (Bool.and (S.small (v76.1, (v76.2.1, (v76.2.2.1, v76.2.2.2)))) (S.small (v77.1, (v77.2.1, (v77.2.2.1, v77.2.2.2)))))) (some ((S.needs (v76.1, (v76.2.1, (v76.2.2.1, v76.2.2.2))) (v77.1, (v77.2.1, (v77.2.2.1, v77.2.2.2)))), ())) none) with | .none  => none | .some v78 => (cond v78.1 (L11 ((IntKind.i64.wrap (Int.add (IntKind.i64.wrap (Int.add p.1 (Int.ofNat (ByteArray.size v0.2.1)))) (Int.ofNat 1))), (IntKind.i64.wrap (Int.add p.2 (Int.ofNat 1))))) (L11 ((IntKind.i64.wrap (Int.add p.1 (Int.ofNat (ByteArray.size v0.2.1)))), (IntKind.i64.wrap (Int.add p.2 (Int.ofNat 1)))))))))) (L11 ((IntKind.i64.wrap (Int.add p.1 (Int.ofNat (ByteArray.size v0.2.1)))), (IntKind.i64.wrap (Int.add p.2 (Int.ofNat 1))))))) (cond (iltI (Int.ofNat 20000) p.1) (some (((S.lit []), (Int.ofNat 3)), ())) (cond (iltI p.1 (Int.ofNat 0)) none (cond (Nat.ble (Nat.mul (Int.toNat p.1) 1) 140737488355328) (L20 ((Int.ofNat 0), (S.rep (Int.ofNat 0) (Int.ofNat 0)))) none))))
def qjf (lf : Nat) (x1 : (List qab)) (x2 : Bool) (L20 : (Int × (List Int)) -> Option Rtz36) (p : Int × (List Int)) : Option Rtz36 := (cond (iltI p.1 (Int.ofNat (List.length x1))) (cond (iltI (Int.ofNat 0) p.1) (cond x2 (cond (Nat.ble (Nat.mul (Nat.add (List.length p.2) 1) 1) 140737488355328) (match (jget x1 p.1) with | .none  => none | .some v0 => (cond (Nat.ble (Nat.mul (Nat.add (List.length (List.append p.2 (List.cons (Int.ofNat 32) []))) (List.length (qaa v0.2.1))) 1) 140737488355328) (L20 ((IntKind.i64.wrap (Int.add p.1 (Int.ofNat 1))), (List.append (List.append p.2 (List.cons (Int.ofNat 32) [])) (qaa v0.2.1)))) none)) none) (match (jget x1 (imax (Int.ofNat 0) (IntKind.i64.wrap (Int.sub p.1 (Int.ofNat 1))))) with | .none  => none | .some v32 => (match (jget x1 p.1) with | .none  => none | .some v33 => (match (cond (Bool.and (Bool.and (S.right (v32.1, (v32.2.1, (v32.2.2.1, v32.2.2.2)))) (S.right (v33.1, (v33.2.1, (v33.2.2.1, v33.2.2.2))))) (Bool.and (S.small (v32.1, (v32.2.1, (v32.2.2.1, v32.2.2.2)))) (S.small (v33.1, (v33.2.1, (v33.2.2.1, v33.2.2.2)))))) (some ((S.needs (v32.1, (v32.2.1, (v32.2.2.1, v32.2.2.2))) (v33.1, (v33.2.1, (v33.2.2.1, v33.2.2.2)))), ())) none) with | .none  => none | .some v34 => (cond v34.1 (cond (Nat.ble (Nat.mul (Nat.add (List.length p.2) 1) 1) 140737488355328) (match (jget x1 p.1) with | .none  => none | .some v35 => (cond (Nat.ble (Nat.mul (Nat.add (List.length (List.append p.2 (List.cons (Int.ofNat 32) []))) (List.length (qaa v35.2.1))) 1) 140737488355328) (L20 ((IntKind.i64.wrap (Int.add p.1 (Int.ofNat 1))), (List.append (List.append p.2 (List.cons (Int.ofNat 32) [])) (qaa v35.2.1)))) none)) none) (match (jget x1 p.1) with | .none  => none | .some v41 => (cond (Nat.ble (Nat.mul (Nat.add (List.length p.2) (List.length (qaa v41.2.1))) 1) 140737488355328) (L20 ((IntKind.i64.wrap (Int.add p.1 (Int.ofNat 1))), (List.append p.2 (qaa v41.2.1)))) none))))))) (match (jget x1 p.1) with | .none  => none | .some v47 => (cond (Nat.ble (Nat.mul (Nat.add (List.length p.2) (List.length (qaa v47.2.1))) 1) 140737488355328) (L20 ((IntKind.i64.wrap (Int.add p.1 (Int.ofNat 1))), (List.append p.2 (qaa v47.2.1)))) none))) (some (((strOf p.2), (Int.ofNat 0)), ())))
abbrev gz36 : Type := ElA [(.list cToken), .bool] -> Option Rtz36
abbrev sz36 (g : gz36) : Sm := ⟨[(.list cToken), .bool], [(false, qcg)], g⟩
abbrev Ez36 (g : gz36) (J : JT Rtz36) (lf : Nat) (x1 : (List qab)) (x2 : Bool) := qao Tryz.prog ttT.get nmz36 fi42.nt (clz36 _ lf) lf stz36 J fi42.body [] (argGo (argV [(.list cToken), .bool] (x1, x2, ())) 0 .leaf) S0 [] (lastK ttT.get fi42 (sz36 g))
abbrev Bz36 (g : gz36) (J : JT Rtz36) (lf k : Nat) (ms : List Nat) (q : NRes) := qbi Tryz.prog ttT.get nmz36 fi42.nt (clz36 _ lf) lf stz36 J k fi42.body [] ms q (lastK ttT.get fi42 (sz36 g))
theorem inz36 (g : gz36) (J : JT Rtz36) (lf : Nat) (x1 : (List qab)) (x2 : Bool) : Ez36 g J lf x1 x2 = qli lf x1 x2 (fun q => J 5 [lf] (qfd x1 x2 q)) := by kernel_rfl
theorem stz36_5 (g : gz36) (J : JT Rtz36) (lf : Nat) (x1 : (List qab)) (x2 : Bool) (m1 : Nat) (p : Int) : Bz36 g J lf 5 [m1] (qfd x1 x2 p) = qhf lf x1 x2 (fun q => J 5 [m1] (qfd x1 x2 q)) (fun q => J 11 [lf] (qee x1 x2 q)) p := by kernel_rfl
theorem q0k (g : gz36) (J : JT Rtz36) (lf : Nat) (x1 : (List qab)) (x2 : Bool) (m1 : Nat) (p : Int × Int) : Bz36 g J lf 11 [m1] (qee x1 x2 p) = qjj lf x1 x2 (fun q => J 11 [m1] (qee x1 x2 q)) (fun q => J 20 [lf] (qe3 x1 x2 q)) p := by kernel_rfl
theorem qzo (g : gz36) (J : JT Rtz36) (lf : Nat) (x1 : (List qab)) (x2 : Bool) (m1 : Nat) (p : Int × (List Int)) : Bz36 g J lf 20 [m1] (qe3 x1 x2 p) = qjf lf x1 x2 (fun q => J 20 [m1] (qe3 x1 x2 q)) p := by kernel_rfl
theorem ndz36 : (regs fi42.body).Nodup := by decide +kernel
theorem okz36 : okC nmz36 stz36 hdz36 fi42.body none = true := by kernel_rfl
def Az36 (g : gz36) (lf : Nat) : JT Rtz36 := atN Tryz.prog ttT.get nmz36 fi42 (sz36 g) (clz36 _ lf) lf hdz36
def qgu (lf : Nat) (x1 : (List qab)) (x2 : Bool) : Nat -> (Int × (List Int)) -> Option Rtz36 := rounds fun K p => qjf lf x1 x2 K p
theorem qtn (g : gz36) (lf : Nat) (x1 : (List qab)) (x2 : Bool) : ∀ (n : Nat) (p : Int × (List Int)), Az36 g lf 20 [n] (qe3 x1 x2 p) = qgu lf x1 x2 n p
 | 0, p => qbb 20 [0] rfl _
 | n + 1, p => by
   have ih := qtn g lf x1 x2 n
   refine (qa5 (qak 20 _) ndz36 okz36 20 [n + 1] [n] rfl _).trans ((qzo g (Az36 g lf) lf x1 x2 n p).trans ?_)
   rw [(show (fun q => Az36 g lf 20 [n] (qe3 x1 x2 q)) = (fun q => qgu lf x1 x2 n q) from funext ih)]
   rfl
def qdu (lf : Nat) (x1 : (List qab)) (x2 : Bool) : Nat -> (Int × Int) -> Option Rtz36 := rounds fun K p => qjj lf x1 x2 K (fun q => qgu lf x1 x2 lf q) p
theorem qq2 (g : gz36) (lf : Nat) (x1 : (List qab)) (x2 : Bool) : ∀ (n : Nat) (p : Int × Int), Az36 g lf 11 [n] (qee x1 x2 p) = qdu lf x1 x2 n p
 | 0, p => qbb 11 [0] rfl _
 | n + 1, p => by
   have ih := qq2 g lf x1 x2 n
   refine (qa5 (qak 20 _) ndz36 okz36 11 [n + 1] [n] rfl _).trans ((q0k g (Az36 g lf) lf x1 x2 n p).trans ?_)
   rw [(show (fun q => Az36 g lf 20 [lf] (qe3 x1 x2 q)) = (fun q => qgu lf x1 x2 lf q) from funext fun q => qtn g lf x1 x2 lf q), (show (fun q => Az36 g lf 11 [n] (qee x1 x2 q)) = (fun q => qdu lf x1 x2 n q) from funext ih)]
   rfl
def qgv (lf : Nat) (x1 : (List qab)) (x2 : Bool) : Nat -> (Int) -> Option Rtz36 := rounds fun K p => qhf lf x1 x2 K (fun q => qdu lf x1 x2 lf q) p
theorem qqb (g : gz36) (lf : Nat) (x1 : (List qab)) (x2 : Bool) : ∀ (n : Nat) (p : Int), Az36 g lf 5 [n] (qfd x1 x2 p) = qgv lf x1 x2 n p
 | 0, p => qbb 5 [0] rfl _
 | n + 1, p => by
   have ih := qqb g lf x1 x2 n
   refine (qa5 (qak 20 _) ndz36 okz36 5 [n + 1] [n] rfl _).trans ((stz36_5 g (Az36 g lf) lf x1 x2 n p).trans ?_)
   rw [(show (fun q => Az36 g lf 11 [lf] (qee x1 x2 q)) = (fun q => qdu lf x1 x2 lf q) from funext fun q => qq2 g lf x1 x2 lf q), (show (fun q => Az36 g lf 5 [n] (qfd x1 x2 q)) = (fun q => qgv lf x1 x2 n q) from funext ih)]
   rfl
def Fz36 (lf : Nat) (x1 : (List qab)) (x2 : Bool) : Option Rtz36 := qli lf x1 x2 (fun q => qgv lf x1 x2 lf q)
theorem runz36 (g : gz36) (lf : Nat) (x1 : (List qab)) (x2 : Bool) : Ez36 g (Az36 g lf) lf x1 x2 = Fz36 lf x1 x2 := by
   refine (inz36 g (Az36 g lf) lf x1 x2).trans ?_
   rw [(show (fun q => Az36 g lf 5 [lf] (qfd x1 x2 q)) = (fun q => qgv lf x1 x2 lf q) from funext fun q => qqb g lf x1 x2 lf q)]
   rfl
theorem hxsz36 : HxsOK Tryz.prog qj7 := trivial
theorem mkz36 {g : gz36} (hsm : SmOK Tryz.prog qo3) (hg : ∀ (x : ElA [(.list cToken), .bool]) (y : Rtz36), WfA [(.list cToken), .bool] x -> g x = some y -> ∃ lf, Fz36 lf x.1 x.2.1 = some y) : Con Tryz.prog 42 ⟨[(.list cToken), .bool], [(false, qcg)], g⟩ :=
 conT (nmf := nmz36) (sml := qo3) (hxl := qj7) (st := stz36) (hd := hdz36) 20 mixed ttOK ftOK hsm hxsz36 cal42 rfl rfl (by kernel_rfl) (fun x => by kernel_rfl) ndz36 okz36 fun x y hx hy => by
   obtain ⟨lf, h⟩ := hg x y hx hy
   exact ⟨lf, (runz36 g lf x.1 x.2.1).trans h⟩
def nmz37 : Nat -> Option Nm := fun k => none
def stz37 : Nat -> Bool := fun k => false
def hdz37 := stz37
abbrev Rtz37 : Type := qnb × Unit
def qn5 : List (Nat × Sm) := [(42, spz36)]
def qlt : List (Nat × Hx) := []
def clz37 (R : Type) (lf : Nat) : ClK R := qai Tryz.prog ttT.get ftT.get (nm1 14 nmz37) (smL qn5) (hxL qlt) lf 20 R
abbrev idz37 : Nat := 14
def ql7 (lf : Nat) (x1 : (List qab)) : Option Rtz37 := (match (cond (S.smallL x1) (some ((S.put (S.allOr Bool.true) x1), ())) none) with | .none  => none | .some v0 => (some ((v0.1.1, v0.1.2), ())))
abbrev gz37 : Type := ElA [(.list cToken)] -> Option Rtz37
abbrev sz37 (g : gz37) : Sm := ⟨[(.list cToken)], [(false, qcg)], g⟩
abbrev Ez37 (g : gz37) (J : JT Rtz37) (lf : Nat) (x1 : (List qab)) := qao Tryz.prog ttT.get nmz37 fi14.nt (clz37 _ lf) lf stz37 J fi14.body [] (argGo (argV [(.list cToken)] (x1, ())) 0 .leaf) S0 [] (lastK ttT.get fi14 (sz37 g))
theorem inz37 (g : gz37) (J : JT Rtz37) (lf : Nat) (x1 : (List qab)) : Ez37 g J lf x1 = ql7 lf x1 := by kernel_rfl
theorem ndz37 : (regs fi14.body).Nodup := by decide +kernel
theorem okz37 : okC nmz37 stz37 hdz37 fi14.body none = true := by kernel_rfl
def Az37 (g : gz37) (lf : Nat) : JT Rtz37 := atN Tryz.prog ttT.get nmz37 fi14 (sz37 g) (clz37 _ lf) lf hdz37
def Fz37 (lf : Nat) (x1 : (List qab)) : Option Rtz37 := ql7 lf x1
theorem runz37 (g : gz37) (lf : Nat) (x1 : (List qab)) : Ez37 g (Az37 g lf) lf x1 = Fz37 lf x1 := by
   refine (inz37 g (Az37 g lf) lf x1).trans ?_
   rfl
theorem hxsz37 : HxsOK Tryz.prog qlt := trivial
theorem mkz37 {g : gz37} (hsm : SmOK Tryz.prog qn5) (hg : ∀ (x : ElA [(.list cToken)]) (y : Rtz37), WfA [(.list cToken)] x -> g x = some y -> ∃ lf, Fz37 lf x.1 = some y) : Con Tryz.prog 14 ⟨[(.list cToken)], [(false, qcg)], g⟩ :=
 conT (nmf := nmz37) (sml := qn5) (hxl := qlt) (st := stz37) (hd := hdz37) 20 mixed ttOK ftOK hsm hxsz37 cal14 rfl rfl (by kernel_rfl) (fun x => by kernel_rfl) ndz37 okz37 fun x y hx hy => by
   obtain ⟨lf, h⟩ := hg x y hx hy
   exact ⟨lf, (runz37 g lf x.1).trans h⟩
def nmz38 : Nat -> Option Nm := fun k => none
def stz38 : Nat -> Bool := fun k => false
def hdz38 := stz38
abbrev Rtz38 : Type := qnb × Unit
def qkd : List (Nat × Sm) := [(42, spz36)]
def qlg : List (Nat × Hx) := []
def clz38 (R : Type) (lf : Nat) : ClK R := qai Tryz.prog ttT.get ftT.get (nm1 16 nmz38) (smL qkd) (hxL qlg) lf 20 R
abbrev idz38 : Nat := 16
def qou (lf : Nat) (x1 : (List qab)) : Option Rtz38 := (match (cond (S.smallL x1) (some ((S.put (S.allOr Bool.false) x1), ())) none) with | .none  => none | .some v0 => (some ((v0.1.1, v0.1.2), ())))
abbrev gz38 : Type := ElA [(.list cToken)] -> Option Rtz38
abbrev sz38 (g : gz38) : Sm := ⟨[(.list cToken)], [(false, qcg)], g⟩
abbrev Ez38 (g : gz38) (J : JT Rtz38) (lf : Nat) (x1 : (List qab)) := qao Tryz.prog ttT.get nmz38 fi16.nt (clz38 _ lf) lf stz38 J fi16.body [] (argGo (argV [(.list cToken)] (x1, ())) 0 .leaf) S0 [] (lastK ttT.get fi16 (sz38 g))
theorem inz38 (g : gz38) (J : JT Rtz38) (lf : Nat) (x1 : (List qab)) : Ez38 g J lf x1 = qou lf x1 := by kernel_rfl
theorem ndz38 : (regs fi16.body).Nodup := by decide +kernel
theorem okz38 : okC nmz38 stz38 hdz38 fi16.body none = true := by kernel_rfl
def Az38 (g : gz38) (lf : Nat) : JT Rtz38 := atN Tryz.prog ttT.get nmz38 fi16 (sz38 g) (clz38 _ lf) lf hdz38
def Fz38 (lf : Nat) (x1 : (List qab)) : Option Rtz38 := qou lf x1
theorem runz38 (g : gz38) (lf : Nat) (x1 : (List qab)) : Ez38 g (Az38 g lf) lf x1 = Fz38 lf x1 := by
   refine (inz38 g (Az38 g lf) lf x1).trans ?_
   rfl
theorem hxsz38 : HxsOK Tryz.prog qlg := trivial
theorem mkz38 {g : gz38} (hsm : SmOK Tryz.prog qkd) (hg : ∀ (x : ElA [(.list cToken)]) (y : Rtz38), WfA [(.list cToken)] x -> g x = some y -> ∃ lf, Fz38 lf x.1 = some y) : Con Tryz.prog 16 ⟨[(.list cToken)], [(false, qcg)], g⟩ :=
 conT (nmf := nmz38) (sml := qkd) (hxl := qlg) (st := stz38) (hd := hdz38) 20 mixed ttOK ftOK hsm hxsz38 cal16 rfl rfl (by kernel_rfl) (fun x => by kernel_rfl) ndz38 okz38 fun x y hx hy => by
   obtain ⟨lf, h⟩ := hg x y hx hy
   exact ⟨lf, (runz38 g lf x.1).trans h⟩
def nmz39 : Nat -> Option Nm := fun k => cond (Nat.beq k 2) (some ⟨[0, 3], [], [], [], [], 0, 0, false⟩) (none)
def stz39 : Nat -> Bool := fun k => cond (Nat.beq k 2) true (false)
def hdz39 := stz39
abbrev Rtz39 : Type := Bool × Unit
def qpr : List (Nat × Sm) := []
def qox : List (Nat × Hx) := []
def clz39 (R : Type) (lf : Nat) : ClK R := qai Tryz.prog ttT.get ftT.get (nm1 12 nmz39) (smL qpr) (hxL qox) lf 20 R
abbrev idz39 : Nat := 12
def qeo (x1 : (List qab)) (p : Int) : NRes := (NRes.mk (.node (some (IV.lst cToken x1)) (.node none (.node (some (IV.int .i64 p)) .leaf .leaf) .leaf) .leaf) (IS.mk .leaf 0) [] 0)
def quf (lf : Nat) (x1 : (List qab)) (L2 : Int -> Option Rtz39) : Option Rtz39 := (L2 (Int.ofNat 0))
def qhu (lf : Nat) (x1 : (List qab)) (L2 : Int -> Option Rtz39) (p : Int) : Option Rtz39 := (cond (iltI p (Int.ofNat (List.length x1))) (match (jget x1 p) with | .none  => none | .some v0 => (cond (iltI (Int.ofNat 60) (Int.ofNat (ByteArray.size v0.2.1))) (some (Bool.false, ())) (L2 (IntKind.i64.wrap (Int.add p (Int.ofNat 1)))))) (cond (Bool.not (iltI (Int.ofNat 40) (Int.ofNat (List.length x1)))) (some (Bool.true, ())) (cond (iltI (Int.ofNat 6000) (Int.ofNat (List.length x1))) (some ((Bool.not (iltI (Int.ofNat 6010) (Int.ofNat (List.length x1)))), ())) (some (Bool.false, ())))))
abbrev gz39 : Type := ElA [(.list cToken)] -> Option Rtz39
abbrev sz39 (g : gz39) : Sm := ⟨[(.list cToken)], [(false, .bool)], g⟩
abbrev Ez39 (g : gz39) (J : JT Rtz39) (lf : Nat) (x1 : (List qab)) := qao Tryz.prog ttT.get nmz39 fi12.nt (clz39 _ lf) lf stz39 J fi12.body [] (argGo (argV [(.list cToken)] (x1, ())) 0 .leaf) S0 [] (lastK ttT.get fi12 (sz39 g))
abbrev Bz39 (g : gz39) (J : JT Rtz39) (lf k : Nat) (ms : List Nat) (q : NRes) := qbi Tryz.prog ttT.get nmz39 fi12.nt (clz39 _ lf) lf stz39 J k fi12.body [] ms q (lastK ttT.get fi12 (sz39 g))
theorem inz39 (g : gz39) (J : JT Rtz39) (lf : Nat) (x1 : (List qab)) : Ez39 g J lf x1 = quf lf x1 (fun q => J 2 [lf] (qeo x1 q)) := by kernel_rfl
theorem stz39_2 (g : gz39) (J : JT Rtz39) (lf : Nat) (x1 : (List qab)) (m1 : Nat) (p : Int) : Bz39 g J lf 2 [m1] (qeo x1 p) = qhu lf x1 (fun q => J 2 [m1] (qeo x1 q)) p := by kernel_rfl
theorem ndz39 : (regs fi12.body).Nodup := by decide +kernel
theorem okz39 : okC nmz39 stz39 hdz39 fi12.body none = true := by kernel_rfl
def Az39 (g : gz39) (lf : Nat) : JT Rtz39 := atN Tryz.prog ttT.get nmz39 fi12 (sz39 g) (clz39 _ lf) lf hdz39
def qgt (lf : Nat) (x1 : (List qab)) : Nat -> (Int) -> Option Rtz39 := rounds fun K p => qhu lf x1 K p
theorem qp5 (g : gz39) (lf : Nat) (x1 : (List qab)) : ∀ (n : Nat) (p : Int), Az39 g lf 2 [n] (qeo x1 p) = qgt lf x1 n p
 | 0, p => qbb 2 [0] rfl _
 | n + 1, p => by
   have ih := qp5 g lf x1 n
   refine (qa5 (qak 20 _) ndz39 okz39 2 [n + 1] [n] rfl _).trans ((stz39_2 g (Az39 g lf) lf x1 n p).trans ?_)
   rw [(show (fun q => Az39 g lf 2 [n] (qeo x1 q)) = (fun q => qgt lf x1 n q) from funext ih)]
   rfl
def Fz39 (lf : Nat) (x1 : (List qab)) : Option Rtz39 := quf lf x1 (fun q => qgt lf x1 lf q)
theorem runz39 (g : gz39) (lf : Nat) (x1 : (List qab)) : Ez39 g (Az39 g lf) lf x1 = Fz39 lf x1 := by
   refine (inz39 g (Az39 g lf) lf x1).trans ?_
   rw [(show (fun q => Az39 g lf 2 [lf] (qeo x1 q)) = (fun q => qgt lf x1 lf q) from funext fun q => qp5 g lf x1 lf q)]
   rfl
theorem hxsz39 : HxsOK Tryz.prog qox := trivial
theorem mkz39 {g : gz39} (hsm : SmOK Tryz.prog qpr) (hg : ∀ (x : ElA [(.list cToken)]) (y : Rtz39), WfA [(.list cToken)] x -> g x = some y -> ∃ lf, Fz39 lf x.1 = some y) : Con Tryz.prog 12 ⟨[(.list cToken)], [(false, .bool)], g⟩ :=
 conT (nmf := nmz39) (sml := qpr) (hxl := qox) (st := stz39) (hd := hdz39) 20 mixed ttOK ftOK hsm hxsz39 cal12 rfl rfl (by kernel_rfl) (fun x => by kernel_rfl) ndz39 okz39 fun x y hx hy => by
   obtain ⟨lf, h⟩ := hg x y hx hy
   exact ⟨lf, (runz39 g lf x.1).trans h⟩
def nmz40 : Nat -> Option Nm := fun k => none
def stz40 : Nat -> Bool := fun k => false
def hdz40 := stz40
abbrev Rtz40 : Type := Bool × Unit
def qpi : List (Nat × Sm) := [(12, spz39), (13, spz30), (14, spz37), (15, spz31), (16, spz38), (17, spz33), (18, spz35), (7, qlx)]
def qng : List (Nat × Hx) := []
def clz40 (R : Type) (lf : Nat) : ClK R := qai Tryz.prog ttT.get ftT.get (nm1 4 nmz40) (smL qpi) (hxL qng) lf 20 R
abbrev idz40 : Nat := 4
def qj4 (lf : Nat) (x1 : (List qab)) : Option Rtz40 := (cond (Bool.not (S.few x1)) (some (Bool.true, ())) (match (cond (S.smallL x1) (some ((S.put S.always x1).1, ((S.put S.always x1).2, ()))) none) with | .none  => none | .some v0 => (match (cond (S.smallL x1) (some ((S.put S.always x1), ())) none) with | .none  => none | .some v1 => (match (cond (S.smallL x1) (some ((S.put S.needs x1).1, ((S.put S.needs x1).2, ()))) none) with | .none  => none | .some v2 => (match (cond (S.smallL x1) (some ((S.put S.needs x1), ())) none) with | .none  => none | .some v3 => (cond (Bool.not (keqS v0.1 v1.1.1)) (some (Bool.false, ())) (cond (Bool.not (ieqI v0.2.1 v1.1.2)) (some (Bool.false, ())) (cond (Bool.not (keqS v2.1 v3.1.1)) (some (Bool.false, ())) (cond (Bool.not (ieqI v2.2.1 v3.1.2)) (some (Bool.false, ())) (cond (Bool.not (iltI (Int.ofNat (List.length x1)) (Int.ofNat 2))) (match (jget x1 (Int.ofNat 0)) with | .none  => none | .some v4 => (match (jget x1 (Int.ofNat 1)) with | .none  => none | .some v5 => (match (cond (Bool.and (S.small (v4.1, (v4.2.1, (v4.2.2.1, v4.2.2.2)))) (S.small (v5.1, (v5.2.1, (v5.2.2.1, v5.2.2.2))))) (some ((S.needsE (v4.1, (v4.2.1, (v4.2.2.1, v4.2.2.2))) (v5.1, (v5.2.1, (v5.2.2.1, v5.2.2.2)))).1, ((S.needsE (v4.1, (v4.2.1, (v4.2.2.1, v4.2.2.2))) (v5.1, (v5.2.1, (v5.2.2.1, v5.2.2.2)))).2, ()))) none) with | .none  => none | .some v6 => (match (jget x1 (Int.ofNat 0)) with | .none  => none | .some v7 => (match (jget x1 (Int.ofNat 1)) with | .none  => none | .some v8 => (match (cond (Bool.and (S.small (v7.1, (v7.2.1, (v7.2.2.1, v7.2.2.2)))) (S.small (v8.1, (v8.2.1, (v8.2.2.1, v8.2.2.2))))) (some ((S.needsE (v7.1, (v7.2.1, (v7.2.2.1, v7.2.2.2))) (v8.1, (v8.2.1, (v8.2.2.1, v8.2.2.2)))), ())) none) with | .none  => none | .some v9 => (cond (Bool.not (Decidable.decide (Eq v6.1 v9.1.1))) (some (Bool.false, ())) (cond (Bool.not (ieqI v6.2.1 v9.1.2)) (some (Bool.false, ())) (some (Bool.true, ())))))))))) (some (Bool.true, ()))))))))))))
abbrev gz40 : Type := ElA [(.list cToken)] -> Option Rtz40
abbrev sz40 (g : gz40) : Sm := ⟨[(.list cToken)], [(false, .bool)], g⟩
abbrev Ez40 (g : gz40) (J : JT Rtz40) (lf : Nat) (x1 : (List qab)) := qao Tryz.prog ttT.get nmz40 fi4.nt (clz40 _ lf) lf stz40 J fi4.body [] (argGo (argV [(.list cToken)] (x1, ())) 0 .leaf) S0 [] (lastK ttT.get fi4 (sz40 g))
theorem inz40 (g : gz40) (J : JT Rtz40) (lf : Nat) (x1 : (List qab)) : Ez40 g J lf x1 = qj4 lf x1 := by kernel_rfl
theorem ndz40 : (regs fi4.body).Nodup := by decide +kernel
theorem okz40 : okC nmz40 stz40 hdz40 fi4.body none = true := by kernel_rfl
def Az40 (g : gz40) (lf : Nat) : JT Rtz40 := atN Tryz.prog ttT.get nmz40 fi4 (sz40 g) (clz40 _ lf) lf hdz40
def Fz40 (lf : Nat) (x1 : (List qab)) : Option Rtz40 := qj4 lf x1
theorem runz40 (g : gz40) (lf : Nat) (x1 : (List qab)) : Ez40 g (Az40 g lf) lf x1 = Fz40 lf x1 := by
   refine (inz40 g (Az40 g lf) lf x1).trans ?_
   rfl
theorem hxsz40 : HxsOK Tryz.prog qng := trivial
theorem mkz40 {g : gz40} (hsm : SmOK Tryz.prog qpi) (hg : ∀ (x : ElA [(.list cToken)]) (y : Rtz40), WfA [(.list cToken)] x -> g x = some y -> ∃ lf, Fz40 lf x.1 = some y) : Con Tryz.prog 4 ⟨[(.list cToken)], [(false, .bool)], g⟩ :=
 conT (nmf := nmz40) (sml := qpi) (hxl := qng) (st := stz40) (hd := hdz40) 20 mixed ttOK ftOK hsm hxsz40 cal4 rfl rfl (by kernel_rfl) (fun x => by kernel_rfl) ndz40 okz40 fun x y hx hy => by
   obtain ⟨lf, h⟩ := hg x y hx hy
   exact ⟨lf, (runz40 g lf x.1).trans h⟩
theorem Fz32_eq (lf : Nat) (t : qab) : Fz32 lf t = some (S.right t, ()) := by
 simp only [Fz32, qpy, S.right]
 by_cases h0 : (S.shape t.2.1).2 = 0
 · rw [ieq_t (show (S.shape t.2.1).2 = Int.ofNat 0 from h0), cond_true, decide_eq_true h0]
   by_cases h1 : (S.shape t.2.1).1 = t.1
   · rw [ieq_t h1, decide_eq_true h1]; rfl
   · rw [ieq_f h1, decide_eq_false h1]; rfl
 · rw [ieq_f (show ¬ (S.shape t.2.1).2 = Int.ofNat 0 from h0), cond_false, decide_eq_false h0]; rfl
theorem qtj : Con Tryz.prog idz32 spz32 := mkz32 ⟨conz9, trivial⟩ fun x y hx h => ⟨0, (Fz32_eq 0 x.1).trans h⟩
theorem q2v {s : ByteArray} (h : ∀ b ∈ qaa s, ¬ b = 10) : S.readG s = match (S.line (qaa s)).2 with
   | some (c, e) => ([], [], (1, Int.ofNat c), e)
   | none => ((S.at_ 1 (S.line (qaa s)).1).filter S.isTok, (S.at_ 1 (S.line (qaa s)).1).filter S.isNote, (0, 0), 0) := by
 unfold S.readG
 rw [q2r h]
 have e : S.readL [qaa s] 1 = (match (S.line (qaa s)).2 with
   | some (c, e) => ([], (1, Int.ofNat c), e)
   | none => (S.at_ 1 (S.line (qaa s)).1 ++ [], (0, 0), 0)) := qez (qaa s) [] 1
 rw [e]
 cases hl : (S.line (qaa s)).2 with
 | some x =>
   obtain ⟨c, e⟩ := x
   have he : ¬ e = 0 := qb2 _ _ _ _ hl
   simp only [S.lexed]
   rw [if_neg he]
 | none =>
   simp only [S.lexed, List.append_nil]
   rw [if_pos trivial]
theorem Fz34_eq (lf : Nat) (a b : qab) (ha : S.right a = true) (hb : S.right b = true) (sa : S.small a = true) (sb : S.small b = true) : Fz34 lf a b = some (S.needs a b, ()) := by
 have h1 : a.2.1.size <= 400000 := Nat.le_of_ble_eq_true sa
 have h2 : b.2.1.size <= 400000 := Nat.le_of_ble_eq_true sb
 have hr : Nat.ble (Nat.succ (Nat.add a.2.1.size b.2.1.size)) 9223372036854775808 = true := Nat.ble_eq_true_of_le (by show a.2.1.size + b.2.1.size + 1 <= _; omega)
 have hbl : qaa (ByteArray.append a.2.1 b.2.1) = qaa a.2.1 ++ qaa b.2.1 := qtb _ _
 have hsz : (ByteArray.append a.2.1 b.2.1).size = a.2.1.size + b.2.1.size := by rw [<- qaf, hbl, List.length_append, qaf, qaf]
 obtain ⟨_, _, a3⟩ := qht (qi0 ha)
 obtain ⟨_, _, b3⟩ := qht (qi0 hb)
 have hf : S.fits (ByteArray.append a.2.1 b.2.1) = true := Nat.ble_eq_true_of_le (by rw [hsz]; omega)
 have hn : ∀ c ∈ qaa (ByteArray.append a.2.1 b.2.1), ¬ c = 10 := by rw [hbl]; exact qs5 (fun c hc => (a3 c hc).1) fun c hc => (b3 c hc).1
 simp only [Fz34, qmj, hr, cond_true, hf, q2v hn, hbl, S.needs]
 cases hl : (S.line (qaa a.2.1 ++ qaa b.2.1)).2 with
 | some x =>
   obtain ⟨c, e⟩ := x
   have he : ¬ e = 0 := qb2 _ _ _ _ hl
   simp only
   rw [ieq_f (show ¬ e = Int.ofNat 0 from he)]; rfl
 | none =>
   simp only
   rw [ieq_t (show (0 : Int) = Int.ofNat 0 from rfl), Bool.not_true, cond_false]
   unfold S.sameK
   rw [qwz, qqh]
   rfl
theorem qsh : Con Tryz.prog idz34 spz34 := mkz34 ⟨conz20, conz23, trivial⟩ fun x y hx h => ⟨0, by
 obtain ⟨h1, h2⟩ := qa9 (show cond ((S.right x.1 && S.right x.2.1) && (S.small x.1 && S.small x.2.1)) (some (S.needs x.1 x.2.1, ())) none = some y from h)
 simp only [Bool.and_eq_true] at h1
 exact (Fz34_eq 0 x.1 x.2.1 h1.1.1 h1.1.2 h1.2.1 h1.2.2).trans (congrArg some h2)⟩
theorem qs7 {p v : qab} (g1 : S.right p = true) (g2 : S.right v = true) (g3 : S.small p = true) (g4 : S.small v = true) :
   (cond (Bool.and (Bool.and (S.right (p.1, (p.2.1, (p.2.2.1, p.2.2.2)))) (S.right (v.1, (v.2.1, (v.2.2.1, v.2.2.2))))) (Bool.and (S.small (p.1, (p.2.1, (p.2.2.1, p.2.2.2)))) (S.small (v.1, (v.2.1, (v.2.2.1, v.2.2.2)))))) (some ((S.needs (p.1, (p.2.1, (p.2.2.1, p.2.2.2))) (v.1, (v.2.1, (v.2.2.1, v.2.2.2)))), ())) none : Option (Bool × Unit)) = some (S.needs p v, ()) := by
 rw [show S.right (p.1, (p.2.1, (p.2.2.1, p.2.2.2))) = true from g1, show S.right (v.1, (v.2.1, (v.2.2.1, v.2.2.2))) = true from g2, show S.small (p.1, (p.2.1, (p.2.2.1, p.2.2.2))) = true from g3, show S.small (v.1, (v.2.1, (v.2.2.1, v.2.2.2))) = true from g4]
 rfl
theorem Fz33_eq (lf : Nat) (a b : qab) (sa : S.small a = true) (sb : S.small b = true) : Fz33 lf a b = some ((S.needsE a b).1, (S.needsE a b).2, ()) := by
 simp only [Fz33, qn9, S.needsE]
 cases ha : S.right a with
 | false => rfl
 | true =>
   cases hb : S.right b with
   | false => rfl
   | true => rw [show S.small (a.1, (a.2.1, (a.2.2.1, a.2.2.2))) = true from sa, show S.small (b.1, (b.2.1, (b.2.2.1, b.2.2.2))) = true from sb]; rfl
theorem conz33 : Con Tryz.prog idz33 spz33 := mkz33 ⟨qk5, qm3, trivial⟩ fun x y hx h => ⟨0, by
 obtain ⟨h1, h2⟩ := qa9 (show cond (S.small x.1 && S.small x.2.1) (some ((S.needsE x.1 x.2.1).1, (S.needsE x.1 x.2.1).2, ())) none = some y from h)
 rw [Bool.and_eq_true] at h1
 exact (Fz33_eq 0 x.1 x.2.1 h1.1 h1.2).trans (congrArg some h2)⟩
theorem Fz35_eq (lf : Nat) (a b : qab) (sa : S.small a = true) (sb : S.small b = true) : Fz35 lf a b = some (S.needsE a b, ()) := by
 simp only [Fz35, qof, S.needsE]
 cases ha : S.right a with
 | false => rfl
 | true =>
   cases hb : S.right b with
   | false => rfl
   | true => rw [show S.small (a.1, (a.2.1, (a.2.2.1, a.2.2.2))) = true from sa, show S.small (b.1, (b.2.1, (b.2.2.1, b.2.2.2))) = true from sb]; rfl
theorem conz35 : Con Tryz.prog idz35 spz35 := mkz35 ⟨qtj, qsh, trivial⟩ fun x y hx h => ⟨0, by
 obtain ⟨h1, h2⟩ := qa9 (show cond (S.small x.1 && S.small x.2.1) (some (S.needsE x.1 x.2.1, ())) none = some y from h)
 rw [Bool.and_eq_true] at h1
 exact (Fz35_eq 0 x.1 x.2.1 h1.1 h1.2).trans (congrArg some h2)⟩
theorem im0 (i : Nat) : imax (Int.ofNat 0) (Int.ofNat i) = Int.ofNat i := by
 rw [qkw]
 cases i with
 | zero => rfl
 | succ i => rw [if_pos (show Int.ofNat (i + 1) > Int.ofNat 0 by show (0 : Int) < ((i + 1 : Nat) : Int); omega)]
theorem wsub1 (i : Nat) (h : i < 9223372036854775808) : IntKind.i64.wrap (Int.sub (Int.ofNat (i + 1)) (Int.ofNat 1)) = Int.ofNat i := by
 rw [show Int.sub (Int.ofNat (i + 1)) (Int.ofNat 1) = Int.ofNat i by show ((i + 1 : Nat) : Int) - 1 = (i : Int); omega]
 exact qa7 (n := i) (by omega)
theorem qrk {bl : qab -> qab -> Bool} {l : List qab} {i : Nat} {p v : qab} (hp : l[i]? = some p) : sepB bl (l.take (i + 1)) v = cond (bl p v) [32] [] := by
 unfold sepB; rw [qm4 hp]
theorem put_20 (l : List qab) (all : Bool) (hl : l.length <= 6000) (hs : S.smallL l = true) (hr : ∀ t ∈ l, S.right t = true) : qgu LF l all LF (Int.ofNat 0, []) = some ((strOf (S.putB (S.allOr all) l), 0), ()) := by
 have hsm := qhb hs
 refine range0 (σ := List Int) (R := Rtz36) l (fun i q => (i, q)) (fun i q => q = S.putB (S.allOr all) (l.take i)) (fun _ _ _ => some ((strOf (S.putB (S.allOr all) l), 0), ())) (by unfold LF; omega) (fun K q hq => ?_) (fun K i v rest q hq r h => ?_) [] rfl
 · rw [List.take_length] at hq
   simp only [qjf, qa0, cond_false]
   rw [<- hq]
   rfl
 · have hi := r.lt
   have hv := hsm v r.mem
   have hql : q.length <= 2400100000 := by
     have := qfo (S.allOr all) (l.take i) fun t ht => hsm t (List.mem_of_mem_take ht)
     rw [List.length_take] at this
     rw [hq]; omega
   have hbv := qaf v.2.1
   have r1 : Nat.ble (Nat.mul (Nat.add q.length 1) 1) 140737488355328 = true := Nat.ble_eq_true_of_le (by show (q.length + 1) * 1 <= _; omega)
   have r2 : Nat.ble (Nat.mul (Nat.add (List.append q [Int.ofNat 32]).length (qaa v.2.1).length) 1) 140737488355328 = true := Nat.ble_eq_true_of_le (by
     show ((q ++ [Int.ofNat 32]).length + (qaa v.2.1).length) * 1 <= _
     rw [List.length_append]
     simp only [List.length_cons, List.length_nil]; omega)
   have r3 : Nat.ble (Nat.mul (Nat.add q.length (qaa v.2.1).length) 1) 140737488355328 = true := Nat.ble_eq_true_of_le (by show (q.length + (qaa v.2.1).length) * 1 <= _; omega)
   simp only [qjf, r.ilt, r.get, r.next, cond_true, qay]
   have hsn := qgo (S.allOr all) v (l.take i)
   rw [<- r.take] at hsn
   cases i with
   | zero =>
     rw [show decide (0 < 0) = false from rfl, cond_false, r3, cond_true]
     refine h _ ?_
     rw [hsn, <- hq]; rfl
   | succ i =>
     obtain ⟨p, hp⟩ : ∃ p, l[i]? = some p := ⟨_, List.getElem?_eq_getElem (by omega)⟩
     have hjp : jget l (Int.ofNat i) = some p := qbe.trans hp
     have hpm := List.mem_of_getElem? hp
     rw [qrk hp] at hsn
     rw [decide_eq_true (Nat.succ_pos i), cond_true, wsub1 i (by omega), im0, hjp]
     simp only
     rw [qs7 (hr p hpm) (hr v r.mem) (List.all_eq_true.1 hs p hpm) (List.all_eq_true.1 hs v r.mem), r1, r2, r3]
     simp only [cond_true]
     have yes : S.allOr all p v = true -> K (Int.ofNat (i + 1 + 1), List.append (List.append q [Int.ofNat 32]) (qaa v.2.1)) = some ((strOf (S.putB (S.allOr all) l), 0), ()) := fun e => by
       refine h _ ?_
       rw [hsn, <- hq, e]
       show (q ++ [32]) ++ qaa v.2.1 = q ++ ([32] ++ qaa v.2.1)
       rw [List.append_assoc]
     cases all with
     | true => rw [cond_true]; exact yes rfl
     | false =>
       rw [cond_false]
       cases hn : S.needs p v with
       | true => rw [cond_true]; exact yes hn
       | false =>
         rw [cond_false]
         have e : S.allOr false p v = false := hn
         refine h _ ?_
         rw [hsn, <- hq, e]
         rfl
theorem put_11 (l : List qab) (all : Bool) (hl : l.length <= 6000) (hs : S.smallL l = true) (hr : ∀ t ∈ l, S.right t = true) : qdu LF l all LF (Int.ofNat 0, Int.ofNat 0) = if 20000 < (S.putB (S.allOr all) l).length then some ((S.lit [], 3), ()) else some ((strOf (S.putB (S.allOr all) l), 0), ()) := by
 have hsm := qhb hs
 refine range0 (σ := Int) (R := Rtz36) l (fun i q => (q, i)) (fun i q => q = Int.ofNat (S.putB (S.allOr all) (l.take i)).length) (fun _ _ _ => if 20000 < (S.putB (S.allOr all) l).length then some ((S.lit [], 3), ()) else some ((strOf (S.putB (S.allOr all) l), 0), ())) (by unfold LF; omega) (fun K q hq => ?_) (fun K i v rest q hq r h => ?_) (Int.ofNat 0) rfl
 · rw [List.take_length] at hq
   subst hq
   simp only [qjj, qa0, cond_false, qay]
   have h0 : iltI (Int.ofNat (S.putB (S.allOr all) l).length) (Int.ofNat 0) = false := by rw [qay]; exact decide_eq_false (Nat.not_lt_zero _)
   by_cases c : 20000 < (S.putB (S.allOr all) l).length
   · rw [decide_eq_true c, cond_true, if_pos c]; rfl
   · have hb : Nat.ble (Nat.mul (Int.toNat (Int.ofNat (S.putB (S.allOr all) l).length)) 1) 140737488355328 = true := Nat.ble_eq_true_of_le (by show (S.putB (S.allOr all) l).length * 1 <= _; omega)
     rw [decide_eq_false c, cond_false, if_neg c, decide_eq_false (Nat.not_lt_zero _), cond_false, hb, cond_true]
     exact put_20 l all hl hs hr
 · have hi := r.lt
   have hv := hsm v r.mem
   have hql : (S.putB (S.allOr all) (l.take i)).length <= 2400100000 := by
     have := qfo (S.allOr all) (l.take i) fun t ht => hsm t (List.mem_of_mem_take ht)
     rw [List.length_take] at this
     omega
   have hsn := congrArg List.length (qgo (S.allOr all) v (l.take i))
   rw [<- r.take, List.length_append, List.length_append, qaf] at hsn
   subst hq
   generalize (S.putB (S.allOr all) (l.take i)).length = n at hql hsn h
   have w1 : IntKind.i64.wrap (Int.add (Int.ofNat n) (Int.ofNat v.2.1.size)) = Int.ofNat (n + v.2.1.size) := qa7 (n := n + v.2.1.size) (by omega)
   have w2 : IntKind.i64.wrap (Int.add (Int.ofNat (n + v.2.1.size)) (Int.ofNat 1)) = Int.ofNat (n + v.2.1.size + 1) := qa7 (n := n + v.2.1.size + 1) (by omega)
   simp only [qjj, r.ilt, r.get, r.next, cond_true, qay, w1, w2]
   cases i with
   | zero =>
     rw [show decide (0 < 0) = false from rfl, cond_false]
     refine h _ ?_
     rw [hsn]
     show Int.ofNat (n + v.2.1.size) = Int.ofNat (n + (0 + v.2.1.size))
     rw [Nat.zero_add]
   | succ i =>
     obtain ⟨p, hp⟩ : ∃ p, l[i]? = some p := ⟨_, List.getElem?_eq_getElem (by omega)⟩
     have hjp : jget l (Int.ofNat i) = some p := qbe.trans hp
     have hpm := List.mem_of_getElem? hp
     rw [qrk hp] at hsn
     rw [decide_eq_true (Nat.succ_pos i), cond_true, wsub1 i (by omega), im0, hjp]
     simp only
     rw [qs7 (hr p hpm) (hr v r.mem) (List.all_eq_true.1 hs p hpm) (List.all_eq_true.1 hs v r.mem)]
     simp only
     have yes : S.allOr all p v = true -> K (Int.ofNat (n + v.2.1.size + 1), Int.ofNat (i + 1 + 1)) = if 20000 < (S.putB (S.allOr all) l).length then some ((S.lit [], 3), ()) else some ((strOf (S.putB (S.allOr all) l), 0), ()) := fun e => by
       refine h _ ?_
       rw [hsn, e]
       show Int.ofNat (n + v.2.1.size + 1) = Int.ofNat (n + (1 + v.2.1.size))
       congr 1; omega
     cases all with
     | true => rw [cond_true]; exact yes rfl
     | false =>
       rw [cond_false]
       cases hn : S.needs p v with
       | true => rw [cond_true]; exact yes hn
       | false =>
         rw [cond_false]
         have e : S.allOr false p v = false := hn
         refine h (Int.ofNat (n + v.2.1.size)) ?_
         rw [hsn, e]
         show Int.ofNat (n + v.2.1.size) = Int.ofNat (n + (0 + v.2.1.size))
         rw [Nat.zero_add]
theorem Fz36_eq (l : List qab) (all : Bool) (hs : S.smallL l = true) (hl : l.length < LF) : Fz36 LF l all = some (S.put (S.allOr all) l, ()) := by
 have key : ∀ Z : Option Rtz36, (l.any (fun t => !S.right t) = false -> qdu LF l all LF (Int.ofNat 0, Int.ofNat 0) = Z) -> qgv LF l all LF (Int.ofNat 0) = if l.any (fun t => !S.right t) = true then some ((S.lit [], 1), ()) else Z := fun Z hZ => by
   refine range0 (σ := Unit) (R := Rtz36) l (fun i _ => i) (fun i _ => (l.take i).any (fun t => !S.right t) = false) (fun rest _ _ => if rest.any (fun t => !S.right t) = true then some ((S.lit [], 1), ()) else Z) hl (fun K q hq => ?_) (fun K i v rest q hq r h => ?_) () rfl
   · rw [List.take_length] at hq
     simp only [qhf, qa0, cond_false]
     exact (hZ hq).trans (if_neg (show ¬ ([] : List qab).any (fun t => !S.right t) = true from (by simp))).symm
   · simp only [qhf, r.ilt, r.get, r.next, cond_true]
     show cond (!S.right v) _ _ = _
     rw [List.any_cons]
     cases hv : S.right v with
     | false => rfl
     | true =>
       rw [Bool.not_true, cond_false, Bool.false_or]
       refine h () ?_
       rw [r.take, List.any_append, hq, List.any_cons, hv]; rfl
 simp only [Fz36, qli, qay, S.put]
 by_cases c : 6000 < l.length
 · rw [decide_eq_true c, cond_true, if_pos c]; rfl
 · rw [decide_eq_false c, cond_false, if_neg c]
   refine (key _ fun ha => put_11 l all (by omega) hs fun t ht => ?_).trans ?_
   · cases h : S.right t with
     | true => rfl
     | false => rw [List.any_eq_true.2 ⟨t, ht, by rw [h]; rfl⟩] at ha; cases ha
   · by_cases ha : l.any (fun t => !S.right t) = true
     · rw [if_pos ha, if_pos ha]
     · rw [if_neg ha, if_neg ha]
       by_cases c2 : 20000 < (S.putB (S.allOr all) l).length
       · rw [if_pos c2, if_pos c2]
       · rw [if_neg c2, if_neg c2]
theorem qsm : Con Tryz.prog idz36 spz36 := mkz36 ⟨qtj, qsh, trivial⟩ fun x y hx h => ⟨LF, by
 obtain ⟨h1, h2⟩ := qa9 (show cond (S.smallL x.1) (some (S.put (S.allOr x.2.1) x.1, ())) none = some y from h)
 exact (Fz36_eq x.1 x.2.1 h1 (qhy hx.1.1)).trans (congrArg some h2)⟩
theorem allOr_t : S.allOr true = S.always := rfl
theorem allOr_f : S.allOr false = S.needs := rfl
theorem conz37 : Con Tryz.prog idz37 spz37 := mkz37 ⟨qsm, trivial⟩ fun x y hx h => ⟨0, by
 obtain ⟨h1, h2⟩ := qa9 (show cond (S.smallL x.1) (some (S.put S.always x.1, ())) none = some y from h)
 simp only [Fz37, ql7, h1, cond_true, allOr_t]
 exact congrArg some h2⟩
theorem conz38 : Con Tryz.prog idz38 spz38 := mkz38 ⟨qsm, trivial⟩ fun x y hx h => ⟨0, by
 obtain ⟨h1, h2⟩ := qa9 (show cond (S.smallL x.1) (some (S.put S.needs x.1, ())) none = some y from h)
 simp only [Fz38, qou, h1, cond_true, allOr_f]
 exact congrArg some h2⟩
theorem Fz39_eq (l : List qab) (hl : l.length < LF) : Fz39 LF l = some (S.few l, ()) := by
 have key : qgt LF l LF (Int.ofNat 0) = some (l.all (fun t => !decide (60 < t.2.1.size)) && (decide (l.length <= 40) || (decide (6000 < l.length) && decide (l.length <= 6010))), ()) := by
   refine qdo (R := Rtz39) l (fun rest _ => some (rest.all (fun t => !decide (60 < t.2.1.size)) && (decide (l.length <= 40) || (decide (6000 < l.length) && decide (l.length <= 6010))), ())) hl (fun K => ?_) (fun K i v rest r h => ?_)
   · simp only [qhu, qa0, cond_false, qay, List.all_nil, Bool.true_and]
     by_cases c : 40 < l.length
     · rw [decide_eq_true c, decide_eq_false (show ¬ l.length <= 40 by omega), Bool.not_true, cond_false, Bool.false_or]
       by_cases c2 : 6000 < l.length
       · rw [decide_eq_true c2, cond_true, Bool.true_and]
         by_cases c3 : 6010 < l.length
         · rw [decide_eq_true c3, decide_eq_false (show ¬ l.length <= 6010 by omega)]; rfl
         · rw [decide_eq_false c3, decide_eq_true (show l.length <= 6010 by omega)]; rfl
       · rw [decide_eq_false c2, cond_false]; rfl
     · rw [decide_eq_false c, decide_eq_true (show l.length <= 40 by omega)]; rfl
   · simp only [qhu, r.ilt, r.get, r.next, cond_true, qay, List.all_cons]
     by_cases c : 60 < v.2.1.size
     · rw [decide_eq_true c]; rfl
     · rw [decide_eq_false c, cond_false, h]; rfl
 exact key
theorem conz39 : Con Tryz.prog idz39 spz39 := mkz39 trivial fun x y hx h => ⟨LF, (Fz39_eq x.1 (qhy hx.1.1)).trans h⟩
theorem qx1 {l : List qab} (h : S.few l = true) : S.smallL l = true := by
 unfold S.few at h
 rw [Bool.and_eq_true] at h
 refine List.all_eq_true.2 fun t ht => Nat.ble_eq_true_of_le ?_
 have := List.all_eq_true.1 h.1 t ht
 rw [Bool.not_eq_true', decide_eq_false_iff_not] at this
 omega
theorem Fz40_eq (l : List qab) : Fz40 0 l = some (true, ()) := by
 simp only [Fz40, qj4]
 cases hf : S.few l with
 | false => rfl
 | true =>
   have hs := qx1 hf
   have hk : ∀ a : ByteArray, keqS a a = true := fun a => decide_eq_true rfl
   simp only [Bool.not_true, cond_false, hs, cond_true, hk, qrc]
   cases l with
   | nil => rfl
   | cons a l =>
     cases l with
     | nil => rfl
     | cons b l =>
       have g1 : S.small a = true := List.all_eq_true.1 hs a List.mem_cons_self
       have g2 : S.small b = true := List.all_eq_true.1 hs b (List.mem_cons_of_mem _ List.mem_cons_self)
       have e0 : jget (a :: b :: l) (Int.ofNat 0) = some a := rfl
       have e1 : jget (a :: b :: l) (Int.ofNat 1) = some b := rfl
       have hl : iltI (Int.ofNat (a :: b :: l).length) (Int.ofNat 2) = false := by rw [qay]; exact decide_eq_false (by simp)
       simp only [hl, Bool.not_false, cond_true, e0, e1]
       rw [show S.small (a.1, (a.2.1, (a.2.2.1, a.2.2.2))) = true from g1, show S.small (b.1, (b.2.1, (b.2.2.1, b.2.2.2))) = true from g2]
       simp only [Bool.and_true, cond_true, qrc]
       cases (S.needsE (a.1, (a.2.1, (a.2.2.1, a.2.2.2))) (b.1, (b.2.1, (b.2.2.1, b.2.2.2)))).1 <;> rfl
theorem conz40 : Con Tryz.prog idz40 ⟨[.list cToken], [(false, .bool)], fun _ => some (true, ())⟩ :=
 mkz40 ⟨conz39, conz30, conz37, conz31, conz38, conz33, conz35, qxv, trivial⟩ fun x y hx h => ⟨0, (Fz40_eq x.1).trans h⟩
end Go.Proofs.YtanenikkloolfaaGreatDoor
end

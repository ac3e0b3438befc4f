/- Texts: Xp23, Xp24, Xt10, Xl17. -/
import Derived.Test.YtanenikkloolfaaDoorMi5
import Derived.Test.YtanenikkloolfaaDoorMi4
set_option linter.unusedVariables false
noncomputable section
set_option maxRecDepth 100000
namespace Go.Proofs.YtanenikkloolfaaDoor
open Go Go.Sx Go.RowKit Go.Jx
theorem qvn {f : Nat} {s : Sm} (hC : qai Tryd.prog f) (hr : ∀ y, resO s.rts y = [])
   (h : ∀ (M : List Nat) (w : World) (x : ElA s.pts) (us : List Value) (y : ElR s.rts), s.f x = some y -> VRs (EM M w) (argV s.pts x) us -> ∃ v, (∀ E' : Env, VR E' (tupI (resV s.rts 0 y)) v) /\ Calls Tryd.prog f us.toArray w fun e w' => e = .returned v /\ Below w.heap.size w w') : Con Tryd.prog f s :=
 ⟨hC, fun M w x us y hy hM hg hv => by
   obtain ⟨v, h1, h2⟩ := h M w x us y hy hv
   refine (callsIn_wide.2 h2).mono fun e w' hR => ?_
   obtain ⟨rfl, hb⟩ := hR
   rw [hr y]
   obtain ⟨q1, q2⟩ := Post.idle (preM hM hg) (Upd.of_below hb)
   exact ⟨v, (EM M w).at_ w', rfl, rfl, h1 _, q1, q2⟩⟩
theorem qtq : ∀ r : List UInt8, ((r.dropWhile (· == 32)).reverse.map fun x => ((x.toNat : Nat) : Int)) = S.trimR (r.reverse.map fun x => ((x.toNat : Nat) : Int))
 | [] => rfl
 | b :: t => by
   have ih := qtq t
   rw [List.dropWhile_cons]
   by_cases h : b = 32
   · subst h
     rw [List.reverse_cons, List.map_append, List.map_cons, List.map_nil, qnp]
     exact ih
   · have h2 : ¬ ((b.toNat : Nat) : Int) = 32 := fun e => h (qmq (b := 32) e)
     rw [show (b == 32) = false by simp [h]]
     simp only [Bool.false_eq_true, if_false]
     rw [List.reverse_cons, List.map_append, List.map_cons, List.map_nil, qnp, if_neg h2]
theorem qud (l : List UInt8) : qaa ⟨l.toArray⟩ = l.map fun x => ((x.toNat : Nat) : Int) := rfl
theorem q1s (s : ByteArray) : (⟨(Lib.trimRightB s.data.toList 32).toArray⟩ : ByteArray) = strOf (S.trimR (qaa s)) := by
 have h := qtq s.data.toList.reverse
 rw [List.reverse_reverse] at h
 have hb : qaa s = s.data.toList.map fun x => ((x.toNat : Nat) : Int) := rfl
 refine qg7 ?_
 rw [qco fun b hb => qcm ((qd5 _).subset hb), qud, hb]
 exact h
theorem qn8 : ∀ xs : List ByteArray, ((Lib.join (xs.map (·.data.toList)) [10]).map fun x => ((x.toNat : Nat) : Int)) = S.joinN (xs.map qaa)
 | [] => rfl
 | [x] => by
   rw [List.map_cons, List.map_nil, Lib.join_one]; rfl
 | x :: y :: l => by
   have ih := qn8 (y :: l)
   rw [List.map_cons, List.map_cons, Lib.join_cons] at ih ⊢
   rw [List.map_cons, List.map_cons, qdh]
   rw [<- ih, Lib.joinTail, List.map_cons, List.flatten_cons]
   simp only [List.map_append, List.map_cons, Lib.joinTail, List.append_assoc, List.cons_append, List.nil_append]
   rfl
theorem qyx (xs : List ByteArray) : (⟨(Lib.join (xs.map (·.data.toList)) [10]).toArray⟩ : ByteArray) = strOf (S.joinN (xs.map qaa)) := by
 refine qg7 ?_
 rw [qco fun b hb => ?_, qud, qn8]
 rcases qku _ b hb with rfl | ⟨x, hx, hb⟩
 · exact ⟨by decide, by decide⟩
 · obtain ⟨y, _, rfl⟩ := List.mem_map.1 hx
   exact qcm hb
theorem qyc {E : Env} (s t : ByteArray) {us : List Value} {y : ByteArray × Unit} (hy : cond (keqS t (S.lit [32])) (some (strOf (S.trimR (qaa s)), ())) none = some y) (hv : VRs E [.str s, .str t] us) :
   ∃ v, VR E (.str y.1) v /\ Calls Tryd.prog 73 us.toArray E.w fun e w' => e = .returned v /\ w' = E.w := by
 obtain ⟨hk, hy⟩ := qbo hy
 subst hy
 have ht : t = S.lit [32] := of_decide_eq_true hk
 subst ht
 obtain ⟨u1, us1, rfl, a1, a2⟩ := hv.inv
 obtain ⟨u2, us2, rfl, a3, a4⟩ := a2.inv
 have e : us2 = [] := by have := a4.1; simpa using this.symm
 subst e
 cases a1 with
 | str _ hs =>
 cases a3
 refine ⟨.string (strOf (S.trimR (qaa s))), .str _ ?_, (qw6 s 32 (by decide) E.w (by omega)).mono fun e w' h => ?_⟩
 · rw [qdv]
   have := (qd5 (qaa s)).length_le
   rw [qae] at this
   omega
 · rw [<- q1s]
   exact h
theorem q13 : Con Tryd.prog 73 qp1 :=
 qkp cal73 (fun y => rfl) fun M w x us y hy hv => qyc x.1 x.2.1 hy hv
theorem qzt {E : Env} (l : List ByteArray) (t : ByteArray) {us : List Value} {y : ByteArray × Unit} (hy : cond (keqS t (S.lit [10]) && Nat.ble (S.joinN (l.map qaa)).length 100000000) (some (strOf (S.joinN (l.map qaa)), ())) none = some y) (hv : VRs E [.lst .str l, .str t] us) :
   ∃ v, (∀ E' : Env, VR E' (.str y.1) v) /\ Calls Tryd.prog 74 us.toArray E.w fun e w' => e = .returned v /\ Below E.w.heap.size E.w w' := by
 obtain ⟨hk, hy⟩ := qbo hy
 subst hy
 rw [Bool.and_eq_true] at hk
 have ht : t = S.lit [10] := of_decide_eq_true hk.1
 subst ht
 have hle := Nat.le_of_ble_eq_true hk.2
 obtain ⟨u1, us1, rfl, a1, a2⟩ := hv.inv
 obtain ⟨u2, us2, rfl, a3, a4⟩ := a2.inv
 have e : us2 = [] := by have := a4.1; simpa using this.symm
 subst e
 cases a3
 refine ⟨.string (strOf (S.joinN (l.map qaa))), fun E' => .str _ (by rw [qdv]; omega), ?_⟩
 cases a1 with
 | lst0 h =>
   refine (qz3 _ _ _ E.w).mono fun e w' h => ?_
   obtain ⟨rfl, rfl⟩ := h
   exact ⟨rfl, Below.refl _ _⟩
 | @lst _ l b off cap cells ty fz vs h1 h2 h3 hb hh hc hu =>
   have hl : l.length * 16 <= 140737488355328 := h3
   have hjl : (Lib.join (l.map (·.data.toList)) [10]).length = (S.joinN (l.map qaa)).length := by rw [<- qn8, List.length_map]
   refine (qwz b off cap l (S.lit [10]) E.w (fun j x hx => ?_) (qal hh) (by omega) h1 (by show (Lib.join (l.map (·.data.toList)) [10]).length <= _; omega)).mono fun e w' h => ?_
   · obtain ⟨hj, hxe⟩ := List.getElem?_eq_some_iff.1 hx
     have hcc := hc j hj 0 (by decide)
     have hvu := hu j hj 0 (by exact Nat.zero_lt_one)
     have hvu : VR E (.str l[j]) (vs j 0) := hvu
     rw [hxe] at hvu
     have e1 : off + j * csz .str + 0 = off + j := by show off + j * 1 + 0 = off + j; omega
     rw [e1] at hcc
     generalize vs j 0 = vv at hvu hcc
     cases hvu
     simp only [World.cell?, hh]
     exact hcc
   · obtain ⟨rfl, hbw⟩ := h
     refine ⟨?_, hbw⟩
     rw [<- qyx]
     rfl
theorem qv7 : Con Tryd.prog 74 qti :=
 qvn cal74 (fun y => rfl) fun M w x us y hy hv => qzt x.1 x.2.1 hy hv
def cutB : List ByteArray -> List qab -> List ByteArray
 | ls, [] => ls
 | ls, t :: l => cutB (ls.set (t.2.2.1 - 1).toNat ((ls.getD (t.2.2.1 - 1).toNat (S.lit [])).extract 0 (t.2.2.2 - 1).toNat)) l
theorem qob (ls : List ByteArray) (k : Nat) : (ls.map qaa).getD k [] = qaa (ls.getD k (S.lit [])) := by
 rw [List.getD_eq_getElem?_getD, List.getD_eq_getElem?_getD, List.getElem?_map]
 cases ls[k]? <;> rfl
theorem qs8 : ∀ (l : List qab) (ls : List ByteArray), (cutB ls l).length = ls.length
 | [], ls => rfl
 | t :: l, ls => by
   show (cutB (ls.set _ _) l).length = _
   rw [qs8 l, List.length_set]
theorem qpw : ∀ (l : List qab) (ls : List ByteArray), (cutB ls l).map qaa = cutN (ls.map qaa) l
 | [], ls => rfl
 | t :: l, ls => by
   show (cutB (ls.set _ _) l).map qaa = cutN ((ls.map qaa).set _ _) l
   rw [qpw l, List.map_set, qob, qda]
theorem qzm (s : ByteArray) (ls : List ByteArray) (hl : ls.length < LF) (hj : (S.joinN (ls.map fun x => S.trimR (qaa x))).length <= 100000000) :
   qcx LF s LF (ls, Int.ofNat ls.length, Int.ofNat 0) = some (strOf (S.joinN (ls.map fun x => S.trimR (qaa x))), Int.ofNat 0, ()) := by
 have tb : ∀ x : ByteArray, qaa (strOf (S.trimR (qaa x))) = S.trimR (qaa x) := fun x => qco fun b hb => qcm ((qd5 _).subset hb)
 refine range0 (σ := List ByteArray) (R := Rtz21) ls (fun i q => (q, Int.ofNat ls.length, i)) (fun i q => q = (ls.take i).map (fun x => strOf (S.trimR (qaa x))) ++ ls.drop i) (fun _ _ _ => some (strOf (S.joinN (ls.map fun x => S.trimR (qaa x))), Int.ofNat 0, ())) hl (fun K q hq => ?_) (fun K i v rest q hq r h => ?_) ls rfl
 · rw [List.take_length, List.drop_length, List.append_nil] at hq
   have e : q.map qaa = ls.map fun x => S.trimR (qaa x) := by
     rw [hq, List.map_map]
     exact List.map_congr_left fun x _ => tb x
   have hb : Nat.ble (S.joinN (ls.map fun x => S.trimR (qaa x))).length 100000000 = true := Nat.ble_eq_true_of_le hj
   simp only [qh6, qbc, cond_false, e, hb, Bool.and_true, cond_true]
 · have hi := r.lt
   have hlen : ((ls.take i).map (fun x => strOf (S.trimR (qaa x)))).length = i := by rw [List.length_map, List.length_take]; omega
   rw [r.drop] at hq
   have hg : q[i]? = some v := by
     rw [hq, List.getElem?_append_right (by omega), hlen, Nat.sub_self]; rfl
   have hj : jget q (Int.ofNat i) = some v := qcg.trans hg
   have hg' : q[Int.toNat (Int.ofNat i)]? = some v := hg
   simp only [qh6, r.ilt, r.next, cond_true, hj, hg']
   refine h _ ?_
   show q.set i (strOf (S.trimR (qaa v))) = _
   rw [hq, List.set_append_right _ _ (by omega), hlen, Nat.sub_self, r.take, r.tail, List.map_append, List.append_assoc]
   rfl
theorem strip_6 (s : ByteArray) (l : List qab) (ls : List ByteArray) (hn : l.length < LF) (hl : ls.length <= 1000001) (hs : ∀ x ∈ ls, x.size <= 1000000) (hg : GoodN (ls.map qaa) l) (Z : List ByteArray -> Option Rtz21) (hZ : ∀ q : List ByteArray, q.length = ls.length -> qcx LF s LF (q, Int.ofNat q.length, Int.ofNat 0) = Z q) :
   qgm LF s LF (l, ls, Int.ofNat 0) = Z (cutB ls l) := by
 refine range0 (σ := List ByteArray) (R := Rtz21) l (fun i q => (l, q, i)) (fun i q => q.length = ls.length /\ (∀ x ∈ q, x.size <= 1000000) /\ GoodN (q.map qaa) (l.drop i)) (fun rest i q => Z (cutB q rest)) hn (fun K q hq => ?_) (fun K i v rest q hq r h => ?_) ls ⟨rfl, hs, hg⟩
 · simp only [qih, qbc, cond_false]
   exact hZ q hq.1
 · obtain ⟨q1, q2, q3⟩ := hq
   rw [r.drop] at q3
   obtain ⟨g1, g2, g3, g4, g5⟩ := q3
   rw [List.length_map] at g2
   rw [qob, qae] at g4
   obtain ⟨x, hx⟩ : ∃ x, q[(v.2.2.1 - 1).toNat]? = some x := ⟨_, List.getElem?_eq_getElem g2⟩
   have hxs := q2 x (List.mem_of_getElem? hx)
   have hgd : q.getD (v.2.2.1 - 1).toNat (S.lit []) = x := by rw [List.getD_eq_getElem?_getD, hx]; rfl
   rw [hgd] at g4
   have w1 : IntKind.i64.wrap (Int.sub v.2.2.1 (Int.ofNat 1)) = Int.ofNat (v.2.2.1 - 1).toNat := by
     rw [show Int.sub v.2.2.1 (Int.ofNat 1) = Int.ofNat (v.2.2.1 - 1).toNat by show v.2.2.1 - 1 = (((v.2.2.1 - 1).toNat : Nat) : Int); omega]
     exact qb5 (by omega)
   have w2 : IntKind.i64.wrap (Int.sub v.2.2.2 (Int.ofNat 1)) = Int.ofNat (v.2.2.2 - 1).toNat := by
     rw [show Int.sub v.2.2.2 (Int.ofNat 1) = Int.ofNat (v.2.2.2 - 1).toNat by show v.2.2.2 - 1 = (((v.2.2.2 - 1).toNat : Nat) : Int); omega]
     exact qb5 (by omega)
   have hj : jget q (Int.ofNat (v.2.2.1 - 1).toNat) = some x := qcg.trans hx
   have hx' : q[Int.toNat (Int.ofNat (v.2.2.1 - 1).toNat)]? = some x := hx
   have hv' : l[Int.toNat (Int.ofNat i)]? = some v := r.get?
   simp only [qih, r.ilt, r.get, r.next, cond_true, hv', w1, w2, hj, hx', qge g4]
   have hd : cutB q (v :: rest) = cutB (q.set (v.2.2.1 - 1).toNat (x.extract 0 (v.2.2.2 - 1).toNat)) rest := by
     show cutB (q.set _ ((q.getD _ _).extract 0 _)) rest = _
     rw [hgd]
   show K (l, q.set (v.2.2.1 - 1).toNat (x.extract 0 (v.2.2.2 - 1).toNat), Int.ofNat (i + 1)) = Z (cutB q (v :: rest))
   rw [hd]
   refine h _ ⟨by rw [List.length_set]; exact q1, fun y hy => ?_, ?_⟩
   · rcases List.mem_or_eq_of_mem_set hy with hy | hy
     · exact q2 y hy
     · rw [hy, <- qae, qda, List.length_take, qae]; omega
   · rw [r.tail, List.map_set, qda]
     rw [qob, hgd] at g5
     exact g5
theorem Fz21_eq (s : ByteArray) (hs : S.fits s = true) : Fz21 LF s = some ((S.strip s).1, (S.strip s).2, ()) := by
 simp only [Fz21, qnz, hs, cond_true, Bool.and_true]
 by_cases h0 : (S.tokens s).2.2.2 = 0
 · obtain ⟨h1, h2⟩ := qji h0
   have hst : S.strip s = (strOf (S.joinN ((S.splitL (qaa s)).map S.bareL)), 0) := by unfold S.strip; rw [if_pos h0]
   rw [ieq_t (show (S.tokens s).2.2.2 = Int.ofNat 0 from h0), Bool.not_true, cond_false, hst]
   have hsz := qg3 hs
   have hmem : ∀ x ∈ S.splitL (qaa s), ∀ b ∈ x, ¬ b = 10 := fun x hx b hb => (qcc _ x b hx hb).2
   have hno : (S.tokens s).2.1 = (S.readL (S.splitL (qaa s)) 1).1.filter S.isNote := by rw [h1, qcs h2]
   obtain ⟨c1, c2⟩ := qs6 (S.splitL (qaa s)) [] hmem (by simpa using h2)
   have c1 : GoodN (S.splitL (qaa s)) ((S.readL (S.splitL (qaa s)) 1).1.filter S.isNote) := c1
   have c2 : cutN (S.splitL (qaa s)) ((S.readL (S.splitL (qaa s)) 1).1.filter S.isNote) = (S.splitL (qaa s)).map cutL := c2
   have hll : (S.lines s).length <= 1000001 := by
     unfold S.lines
     rw [List.length_map, qe4]
     have := List.count_le_length (a := (10 : Int)) (l := qaa s)
     rw [qae] at this
     omega
   have hnl : ((S.readL (S.splitL (qaa s)) 1).1.filter S.isNote).length < LF := by
     have := qpx s.size (S.splitL (qaa s)) 1 fun x hx => by
       have := qgh (s := s) (t := strOf x) (by unfold S.lines; exact List.mem_map.2 ⟨x, hx, rfl⟩)
       rw [qdv] at this
       exact this
     have h3 := List.length_filter_le S.isNote (S.readL (S.splitL (qaa s)) 1).1
     have h4 : (S.splitL (qaa s)).length <= 1000001 := by
       have := hll
       unfold S.lines at this
       rwa [List.length_map] at this
     have h5 : s.size * (S.splitL (qaa s)).length <= 1000000 * 1000001 := Nat.mul_le_mul hsz h4
     unfold LF
     omega
   rw [hno]
   have hcb : ∀ q : List ByteArray, q.length = (S.lines s).length -> (S.joinN (q.map fun x => S.trimR (qaa x))).length <= 100000000 -> qcx LF s LF (q, Int.ofNat q.length, Int.ofNat 0) = some (strOf (S.joinN (q.map fun x => S.trimR (qaa x))), Int.ofNat 0, ()) := fun q hq hj => qzm s q (by unfold LF; omega) hj
   have hbare : (cutB (S.lines s) ((S.readL (S.splitL (qaa s)) 1).1.filter S.isNote)).map (fun x => S.trimR (qaa x)) = (S.splitL (qaa s)).map S.bareL := by
     have e := qpw ((S.readL (S.splitL (qaa s)) 1).1.filter S.isNote) (S.lines s)
     rw [qee, c2] at e
     have : (cutB (S.lines s) ((S.readL (S.splitL (qaa s)) 1).1.filter S.isNote)).map (fun x => S.trimR (qaa x)) = ((cutB (S.lines s) ((S.readL (S.splitL (qaa s)) 1).1.filter S.isNote)).map qaa).map S.trimR := by rw [List.map_map]; rfl
     rw [this, e, List.map_map]
     rfl
   have hjl : (S.joinN ((S.splitL (qaa s)).map S.bareL)).length <= 100000000 := by
     have := qjt S.bareL (fun x => (qmf x).length_le) (S.splitL (qaa s))
     rw [qk3, qae] at this
     omega
   have h6 := strip_6 s ((S.readL (S.splitL (qaa s)) 1).1.filter S.isNote) (S.lines s) hnl hll (fun x hx => Nat.le_trans (qgh hx) hsz) (by rw [qee]; exact c1) (fun q => qcx LF s LF (q, Int.ofNat q.length, Int.ofNat 0)) fun q _ => rfl
   refine h6.trans ?_
   simp only
   rw [hcb _ (qs8 _ _) (by rw [hbare]; exact hjl), hbare]
   rfl
 · have hst : S.strip s = (S.lit [], (S.tokens s).2.2.2) := by unfold S.strip; rw [if_neg h0]
   rw [ieq_f (show ¬ (S.tokens s).2.2.2 = Int.ofNat 0 from h0), Bool.not_false, cond_true, hst]
theorem conz21 : Con Tryd.prog idz21 spz21 := mkz21 ⟨qte, qha, q13, qv7, trivial⟩ fun x y hx h => ⟨LF, by
 obtain ⟨h1, h2⟩ := qbo (show cond (S.fits x.1) (some ((S.strip x.1).1, (S.strip x.1).2, ())) none = some y from h)
 exact (Fz21_eq x.1 h1).trans (congrArg some h2)⟩
theorem qjg : ∀ (N : Nat) (r : List Int) (c : Nat) (q1 : List (Int × ByteArray × Nat)) (p : Int × ByteArray × Nat) (q2 : List (Int × ByteArray × Nat)), r.length <= N -> (∀ b ∈ r, ¬ b = 10) -> PP r c = (q1 ++ p :: q2, none) ->
   ∃ j, j <= r.length /\ p.2.2 = c + j /\ (∀ y, PP (r.take j ++ 32 :: y) c = (q1 ++ (PP y (c + j + 1)).1, (PP y (c + j + 1)).2)) /\ PP (r.drop j) (c + j) = (p :: q2, none)
 | N, [], c, q1, p, q2, _, _, h => by
   rw [qcz] at h
   have := congrArg (fun x => x.1.length) h
   simp at this
 | 0, b :: t, c, q1, p, q2, h, _, _ => by simp at h
 | N + 1, b :: t, c, q1, p, q2, hN, hn, h => by
   rcases qgq (show (PP (b :: t) c).2 = none by rw [h]) with e | ⟨t', e⟩ | ⟨n, k, h1, h2, h3, h4, h5⟩
   · cases e
   · injection e with e1 e2
     subst e1 e2
     rw [qb4] at h
     obtain ⟨j, j1, j2, j3, j4⟩ := qjg N t (c + 1) q1 p q2 (by simpa using hN) (fun d hd => hn d (List.mem_cons_of_mem _ hd)) h
     refine ⟨j + 1, by simpa using j1, by rw [j2]; omega, fun y => ?_, ?_⟩
     · rw [List.take_succ_cons, List.cons_append, qb4, j3 y, show c + 1 + j + 1 = c + (j + 1) + 1 by omega]
     · rw [List.drop_succ_cons, show c + (j + 1) = c + 1 + j by omega]
       exact j4
   · have hp := qcw c h1 h4 h5 h2
     cases q1 with
     | nil =>
       have e0 := h
       rw [hp] at h
       have ep : (k, strOf ((b :: t).take n), c) = p := by
         have := congrArg (fun x => x.1.head?) h
         simpa using this
       refine ⟨0, Nat.zero_le _, by rw [<- ep]; rfl, fun y => ?_, ?_⟩
       · rw [List.take_zero, List.nil_append, qb4, List.nil_append]
       · rw [List.drop_zero, Nat.add_zero]
         exact e0
     | cons p0 q1 =>
       rw [hp] at h
       have e1 : (PP ((b :: t).drop n) (c + n)).1 = q1 ++ p :: q2 := by
         have := congrArg (fun x => x.1.tail) h
         simpa using this
       have e2 : (PP ((b :: t).drop n) (c + n)).2 = none := congrArg (fun x => x.2) h
       have e3 : (k, strOf ((b :: t).take n), c) = p0 := by
         have := congrArg (fun x => x.1.head?) h
         simpa using this
       have hk : ¬ k = 6 := by
         intro e
         subst e
         rw [qjq h1 hn, List.drop_length, qcz] at e1
         have := congrArg List.length e1
         simp at this
       have hlen : ((b :: t).drop n).length <= N := by rw [List.length_drop]; omega
       obtain ⟨j, j1, j2, j3, j4⟩ := qjg N ((b :: t).drop n) (c + n) q1 p q2 hlen (fun d hd => hn d (List.mem_of_mem_drop hd)) (Prod.ext e1 e2)
       rw [List.length_drop] at j1
       have hAl : ((b :: t).take n).length = n := by rw [List.length_take]; omega
       refine ⟨n + j, by omega, by rw [j2]; omega, fun y => ?_, ?_⟩
       · have htk : (b :: t).take (n + j) = (b :: t).take n ++ ((b :: t).drop n).take j := by rw [List.take_add]
         have hr : (b :: t).take (n + j) ++ 32 :: y = (b :: t).take n ++ (((b :: t).drop n).take j ++ 32 :: y) := by rw [htk, List.append_assoc]
         have ht : S.tok ((b :: t).take (n + j) ++ 32 :: y) = (n, k, 0, 0) := by
           rw [hr]
           by_cases hj : j = 0
           · subst hj
             rw [List.take_zero, List.nil_append]
             have hA : S.tok ((b :: t).take n) = (((b :: t).take n).length, k, 0, 0) := by
               rw [hAl]
               exact qir h1 hk (by omega) (by rw [List.take_take, Nat.min_self]) (by omega) (.inl hAl)
             have := qxi (x := y) hA hk (by omega)
             rw [hAl] at this
             exact this
           · refine qir h1 hk (by omega) ?_ (by rw [List.length_append]; omega) (.inr ?_)
             · exact List.take_left' hAl
             · obtain ⟨z, zs, hz⟩ : ∃ z zs, (b :: t).drop n = z :: zs := by
                 cases hd : (b :: t).drop n with
                 | nil => have := congrArg List.length hd; rw [List.length_drop] at this; simp at this; simp at j1; omega
                 | cons z zs => exact ⟨z, zs, rfl⟩
               obtain ⟨j', rfl⟩ : ∃ j', j = j' + 1 := ⟨j - 1, by omega⟩
               have e1 : n + 1 = ((b :: t).take n).length + 1 := by omega
               rw [hz, List.take_succ_cons]
               conv => rhs; rw [<- List.take_append_drop n (b :: t), hz]
               rw [e1, List.take_length_add_append, List.take_length_add_append]
               rfl
         have hne : (b :: t).take (n + j) ++ 32 :: y ≠ [] := by simp
         have h32 : ¬ ((b :: t).take (n + j) ++ 32 :: y)[0]? = some 32 := by
           rw [hr, List.getElem?_append_left (by omega), List.getElem?_take, if_pos (by omega)]; exact h5
         have htn : ((b :: t).take (n + j) ++ 32 :: y).take n = (b :: t).take n := by
           rw [hr]
           exact List.take_left' hAl
         have hdn : ((b :: t).take (n + j) ++ 32 :: y).drop n = ((b :: t).drop n).take j ++ 32 :: y := by
           rw [hr]
           exact List.drop_left' hAl
         rw [qcw c ht hne h32 h2, htn, hdn, j3 y, e3, show c + n + j + 1 = c + (n + j) + 1 by omega]
         rfl
       · rw [<- List.drop_drop, show c + (n + j) = c + n + j by omega]
         exact j4
theorem pp_note (rem : List Int) (c : Nat) (hn : ∀ b ∈ rem, ¬ b = 10) : (rem.any S.badB = true -> ¬ (PP (45 :: 45 :: rem) c).2 = none) /\ (rem.any S.badB = false -> ∃ x, PP (45 :: 45 :: rem) c = ([(6, x, c)], none)) := by
 have hnn : ∀ b ∈ (45 :: 45 :: rem : List Int), ¬ b = 10 := by
   intro b hb
   rcases List.mem_cons.1 hb with rfl | hb
   · decide
   rcases List.mem_cons.1 hb with rfl | hb
   · decide
   · exact hn b hb
 have hpf : [45, 45].isPrefixOf (45 :: 45 :: rem : List Int) = true := List.isPrefixOf_iff_prefix.2 ⟨rem, rfl⟩
 have hng := note2 (45 :: 45 :: rem) hpf hnn
 have hff : List.findIdx? S.badB (45 :: 45 :: rem) = (List.findIdx? S.badB rem).map (· + 2) := by
   rw [List.findIdx?_cons, List.findIdx?_cons, show S.badB 45 = false from rfl]
   simp only [Bool.false_eq_true, if_false]
   cases List.findIdx? S.badB rem with
   | none => rfl
   | some i => rfl
 constructor
 · intro ha h
   rcases qgq h with e | ⟨t, e⟩ | ⟨n, k, h1, _⟩
   · cases e
   · injection e with e1 e2; exact absurd e1 (by decide)
   · unfold S.tok at h1
     rw [if_pos hpf, hng, hff] at h1
     obtain ⟨b, hb, hbb⟩ := List.any_eq_true.1 ha
     cases hi : List.findIdx? S.badB rem with
     | none => exact absurd hbb (by have := List.findIdx?_eq_none_iff.1 hi b hb; rw [this]; decide)
     | some i =>
       rw [hi] at h1
       exact absurd (congrArg (fun x => x.2.2.1) h1) (show ¬ (2 : Int) = 0 by decide)
 · intro ha
   have hi : List.findIdx? S.badB rem = none := List.findIdx?_eq_none_iff.2 fun b hb => by
     cases h : S.badB b with
     | false => rfl
     | true => rw [List.any_eq_true.2 ⟨b, hb, h⟩] at ha; cases ha
   have ht : S.tok (45 :: 45 :: rem) = ((45 :: 45 :: rem).length, 6, 0, 0) := by
     unfold S.tok
     rw [if_pos hpf, hng, hff, hi]
     rfl
   refine ⟨strOf ((45 :: 45 :: rem).take (45 :: 45 :: rem).length), (qcw c ht (by simp) (by simp) (by simp)).trans ?_⟩
   rw [List.drop_length, qcz]
theorem qya (k : Int) (l : List qab) : S.kinds (l.map (moveT k)) = S.kinds l := by
 unfold S.kinds
 rw [List.map_map]; rfl
theorem qyp (a b : List qab) : S.kinds (a ++ b) = S.kinds a ++ S.kinds b := by
 unfold S.kinds
 rw [List.map_append]
def kt (A : List (List Int)) : List (Int × ByteArray) := S.kinds ((S.readL A 1).1.filter S.isTok)
def okA (A : List (List Int)) : Prop := (S.readL A 1).2.2 = 0
theorem kt_at (A : List (List Int)) (n : Int) : S.kinds ((S.readL A n).1.filter S.isTok) = kt A /\ ((S.readL A n).2.2 = 0 ↔ okA A) := by
 obtain ⟨h1, h2, _⟩ := qqm A 1 (n - 1)
 rw [show 1 + (n - 1) = n by omega] at h1 h2
 rw [h1, qzj, qya, h2]
 exact ⟨rfl, Iff.rfl⟩
theorem qbn (A B : List (List Int)) : (okA (A ++ B) ↔ okA A /\ okA B) /\ (okA A -> okA B -> kt (A ++ B) = kt A ++ kt B) := by
 have h := que A B 1
 obtain ⟨k1, k2⟩ := kt_at B (1 + (A.length : Int))
 constructor
 · unfold okA at *
   rw [h]
   by_cases c1 : (S.readL A 1).2.2 = 0
   · rw [if_pos c1]
     by_cases c2 : (S.readL B (1 + (A.length : Int))).2.2 = 0
     · rw [if_pos c2]; exact ⟨fun _ => ⟨c1, k2.1 c2⟩, fun _ => rfl⟩
     · rw [if_neg c2]; exact ⟨fun h => absurd h c2, fun h => absurd (k2.2 h.2) c2⟩
   · rw [if_neg c1]; exact ⟨fun h => absurd h c1, fun h => absurd h.1 c1⟩
 · intro a b
   have a' : (S.readL A 1).2.2 = 0 := a
   have e : kt (A ++ B) = S.kinds ((S.readL (A ++ B) 1).1.filter S.isTok) := rfl
   rw [e, h, if_pos a', if_pos (k2.2 b)]
   simp only
   rw [List.filter_append, qyp, k1]
   rfl
theorem qen (x : List Int) : (okA [x] ↔ (S.line x).2 = none) /\ ((S.line x).2 = none -> kt [x] = S.pk ((S.line x).1.filter S.plain)) := by
 have e : S.readL [x] 1 = (match (S.line x).2 with
   | some (c, e) => ([], (1, Int.ofNat c), e)
   | none => (S.at_ 1 (S.line x).1 ++ [], (0, 0), 0)) := qba x [] 1
 unfold okA kt
 rw [e]
 cases hp : (S.line x).2 with
 | some y => exact ⟨⟨fun h => absurd h (qbu _ _ _ _ hp), fun h => by cases h⟩, fun h => by cases h⟩
 | none =>
   refine ⟨⟨fun _ => rfl, fun _ => rfl⟩, fun _ => ?_⟩
   simp only
   rw [List.append_nil, qrh, q14]
theorem qq1 : ∀ (ls : List (List Int)) (n : Int) (t : qab), (S.readL ls n).2.2 = 0 -> t ∈ (S.readL ls n).1 -> ∃ (k : Nat) (x : List Int), ls[k]? = some x /\ (S.line x).2 = none /\ ∃ p ∈ (S.line x).1, t = (p.1, p.2.1, n + (k : Int), Int.ofNat p.2.2)
 | [], n, t, _, h => by cases h
 | x :: ls, n, t, h0, h => by
   rw [qba] at h h0
   have hl : S.pcs (x.length + 1) x 1 = S.line x := rfl
   rw [hl] at h h0
   cases hp : (S.line x).2 with
   | some y => rw [hp] at h0; exact absurd h0 (qbu _ _ _ _ hp)
   | none =>
     rw [hp] at h h0
     simp only at h h0
     by_cases c : (S.readL ls (n + 1)).2.2 = 0
     · rw [if_pos c] at h
       rcases List.mem_append.1 h with h | h
       · unfold S.at_ at h
         obtain ⟨p, hp2, rfl⟩ := List.mem_map.1 h
         exact ⟨0, x, rfl, hp, p, hp2, by rw [show n + ((0 : Nat) : Int) = n by omega]⟩
       · obtain ⟨k, y, g1, g2, p, g3, g4⟩ := qq1 ls (n + 1) t c h
         exact ⟨k + 1, y, g1, g2, p, g3, by rw [g4, show n + 1 + (k : Int) = n + ((k + 1 : Nat) : Int) by omega]⟩
     · rw [if_neg c] at h0; exact absurd h0 c
theorem qzx {l : List (List Int)} {k1 k2 j1 j2 : Nat} {x1 x2 : List Int} (h1 : l[k1]? = some x1) (h2 : l[k2]? = some x2) (a1 : j1 <= x1.length) (a2 : j2 <= x2.length) (h : S.sumLen (l.take k1) + (j1 : Int) = S.sumLen (l.take k2) + (j2 : Int)) : k1 = k2 /\ j1 = j2 := by
 rcases Nat.lt_trichotomy k1 k2 with h3 | h3 | h3
 · have := qq7 h1 h3; omega
 · subst h3; exact ⟨rfl, by omega⟩
 · have := qq7 h2 h3; omega
theorem qkn : ∀ d : List Int, S.sumLen (S.splitL d) = (d.length : Int) + 1
 | [] => rfl
 | b :: d => by
   have ih := qkn d
   by_cases hb : b = 10
   · subst hb
     rw [qbj, qbh, ih, List.length_cons]
     simp only [List.length_nil]; omega
   · obtain ⟨x, xs, e1, e2⟩ := qa5 hb d
     rw [e1, qbh] at ih
     rw [e2, qbh, List.length_cons, List.length_cons]
     omega
theorem qx3 {d : List Int} {k j o : Nat} {x : List Int} (hx : (S.splitL d)[k]? = some x) (hj : j <= x.length) (ho : (o : Int) = S.sumLen ((S.splitL d).take k) + (j : Int)) (hod : o <= d.length) :
   S.splitL (d.take o) = (S.splitL d).take k ++ [x.take j] /\ S.splitL (d.drop o) = x.drop j :: (S.splitL d).drop (k + 1) := by
 obtain ⟨i, x', y, t, h1, h2, h3⟩ := qmc (d.take o) (d.drop o)
 rw [List.take_append_drop] at h3
 have hs := qkn (d.take o)
 rw [h1, qut, List.length_take, Nat.min_eq_left hod] at hs
 have hget : (S.splitL d)[i.length]? = some (x' ++ y) := by
   rw [h3, List.getElem?_append_right (Nat.le_refl _), Nat.sub_self]; rfl
 have htk : (S.splitL d).take i.length = i := by rw [h3, List.take_left]
 obtain ⟨e1, e2⟩ := qzx (j1 := j) (j2 := x'.length) hx hget hj (by rw [List.length_append]; omega) (by rw [htk]; omega)
 subst e1
 rw [hget] at hx
 have hx := Option.some.inj hx
 refine ⟨?_, ?_⟩
 · rw [h1, htk, e2, <- hx, List.take_left]
 · rw [h2, e2, <- hx, List.drop_left]
   congr 1
   rw [h3, List.drop_length_add_append]
   rfl
theorem qvp : ∀ (Z : List Int), ∃ r0 rest, S.splitL Z = r0 :: rest /\ r0 = Z.takeWhile neL := fun Z => by
 obtain ⟨r0, rest, e⟩ := qem Z
 exact ⟨r0, rest, e, qju _ _ _ e⟩
theorem q0m {d : List Int} {k j o : Nat} {x : List Int} {q1 q2 : List (Int × ByteArray × Nat)} {p : Int × ByteArray × Nat} (rem : List Int) (hx : (S.splitL d)[k]? = some x) (hod : o <= d.length) (ho : (o : Int) = S.sumLen ((S.splitL d).take k) + (j : Int))
   (hok : okA (S.splitL d)) (hp : S.line x = (q1 ++ p :: q2, none)) (hpj : p.2.2 = 1 + j) :
   (∀ r0 rest, S.splitL rem = r0 :: rest -> r0.any S.badB = true -> ¬ okA (S.splitL (d.take o ++ [32, 45, 45] ++ rem ++ [10, 32, 32] ++ d.drop o))) /\
   (rem.any S.badB = false -> okA (S.splitL (d.take o ++ [32, 45, 45] ++ rem ++ [10, 32, 32] ++ d.drop o)) /\ kt (S.splitL (d.take o ++ [32, 45, 45] ++ rem ++ [10, 32, 32] ++ d.drop o)) = kt (S.splitL d)) := by
 have hxn : ∀ b ∈ x, ¬ b = 10 := fun b hb => (qcc d x b (List.mem_of_getElem? hx) hb).2
 obtain ⟨j', j1, j2, j3, j4⟩ := qjg x.length x 1 q1 p q2 (Nat.le_refl _) hxn hp
 obtain rfl : j' = j := by omega
 obtain ⟨c1, c2⟩ := qx3 hx j1 ho hod
 have eM : d.take o ++ [32, 45, 45] ++ rem ++ [10, 32, 32] ++ d.drop o = (d.take o ++ (32 :: 45 :: 45 :: rem)) ++ 10 :: (32 :: 32 :: d.drop o) := by simp
 -- the second part
 have hD : S.splitL (32 :: 32 :: d.drop o) = (32 :: 32 :: x.drop j') :: (S.splitL d).drop (k + 1) := by
   obtain ⟨y, ys, e1, e2⟩ := qa5 (b := 32) (by decide) (d.drop o)
   obtain ⟨z, zs, e3, e4⟩ := qa5 (b := 32) (by decide) (32 :: d.drop o)
   rw [c2] at e1
   rw [e2] at e3
   injection e1 with a1 a2
   injection e3 with a3 a4
   rw [e4, <- a3, <- a4, <- a1, <- a2]
 -- the first part
 obtain ⟨r0, rest, er, er0⟩ := qvp rem
 have hZ : S.splitL (32 :: 45 :: 45 :: rem) = (32 :: 45 :: 45 :: r0) :: rest := by
   obtain ⟨y1, l1, a1, b1⟩ := qa5 (b := 45) (by decide) rem
   obtain ⟨y2, l2, a2, b2⟩ := qa5 (b := 45) (by decide) (45 :: rem)
   obtain ⟨y3, l3, a3, b3⟩ := qa5 (b := 32) (by decide) (45 :: 45 :: rem)
   rw [er] at a1
   injection a1 with g1 g2
   rw [b1] at a2
   injection a2 with g3 g4
   rw [b2] at a3
   injection a3 with g5 g6
   rw [b3, <- g5, <- g6, <- g3, <- g4, <- g1, <- g2]
 have hF : S.splitL (d.take o ++ (32 :: 45 :: 45 :: rem)) = (S.splitL d).take k ++ (x.take j' ++ 32 :: 45 :: 45 :: r0) :: rest := by
   obtain ⟨i, x', y, t, h1, h2, h3⟩ := qmc (d.take o) (32 :: 45 :: 45 :: rem)
   rw [c1] at h1
   rw [hZ] at h2
   obtain ⟨e1, e2⟩ := List.append_inj' h1 rfl
   injection e2 with e2 _
   injection h2 with h4 h5
   rw [h3, <- e1, <- e2, <- h4, <- h5]
 have hM : S.splitL (d.take o ++ [32, 45, 45] ++ rem ++ [10, 32, 32] ++ d.drop o) = (S.splitL d).take k ++ ([x.take j' ++ 32 :: 45 :: 45 :: r0] ++ (rest ++ ([32 :: 32 :: x.drop j'] ++ (S.splitL d).drop (k + 1)))) := by
   rw [eM, qmu, hF, hD, List.append_assoc]
   rfl
 have hsd : S.splitL d = (S.splitL d).take k ++ ([x] ++ (S.splitL d).drop (k + 1)) := by
   conv => lhs; rw [<- List.take_append_drop k (S.splitL d)]
   congr 1
   have := List.drop_eq_getElem_cons (List.getElem?_eq_some_iff.1 hx).1
   rw [this, (List.getElem?_eq_some_iff.1 hx).2]
   rfl
 have hr0n : ∀ b ∈ r0, ¬ b = 10 := fun b hb => (qcc rem r0 b (by rw [er]; exact List.mem_cons_self) hb).2
 obtain ⟨n1, n2⟩ := pp_note r0 (1 + j' + 1) hr0n
 have hl1 : S.line (x.take j' ++ 32 :: 45 :: 45 :: r0) = (q1 ++ (PP (45 :: 45 :: r0) (1 + j' + 1)).1, (PP (45 :: 45 :: r0) (1 + j' + 1)).2) := j3 _
 have okd := hok
 rw [hsd] at okd
 obtain ⟨o1, o2⟩ := (qbn _ _).1.1 okd
 obtain ⟨o3, o4⟩ := (qbn _ _).1.1 o2
 rw [hM]
 constructor
 · intro r0' rest' er' hb h
   rw [er] at er'
   injection er' with g1 g2
   subst g1
   have h1 := ((qbn _ _).1.1 h).2
   have h2 := ((qbn _ _).1.1 h1).1
   have h3 := (qen _).1.1 h2
   rw [hl1] at h3
   exact n1 hb h3
 · intro hb
   have hnr : ∀ b ∈ rem, ¬ b = 10 := fun b hbm e => by
     have : rem.any S.badB = true := List.any_eq_true.2 ⟨b, hbm, by rw [e]; rfl⟩
     rw [this] at hb; cases hb
   have e1 := qjm hnr
   rw [er] at e1
   injection e1 with g1 g2
   subst g1 g2
   obtain ⟨nx, hnx⟩ := n2 hb
   rw [hnx] at hl1
   have oL1 : okA [x.take j' ++ 32 :: 45 :: 45 :: r0] := (qen _).1.2 (by rw [hl1])
   have hl2 : S.line (32 :: 32 :: x.drop j') = PP (x.drop j') (1 + 1 + 1) := by
     show PP (32 :: 32 :: x.drop j') 1 = _
     rw [qb4, qb4]
   have hsh : PP (x.drop j') (1 + j' + 2) = ((PP (x.drop j') (1 + j')).1.map (fun x => (x.1, x.2.1, x.2.2 + 2)), (PP (x.drop j') (1 + j')).2.map fun y => (y.1 + 2, y.2)) := qie _ _ _ _
   have hsh2 : PP (x.drop j') (1 + j' + 2) = ((PP (x.drop j') (1 + 1 + 1)).1.map (fun x => (x.1, x.2.1, x.2.2 + j')), (PP (x.drop j') (1 + 1 + 1)).2.map fun y => (y.1 + j', y.2)) := by
     rw [show 1 + j' + 2 = 1 + 1 + 1 + j' by omega]
     exact qie _ _ _ _
   rw [j4] at hsh
   have hno : (PP (x.drop j') (1 + 1 + 1)).2 = none := by
     rw [hsh] at hsh2
     have := congrArg (fun x => x.2) hsh2
     simp only [Option.map_none] at this
     exact Option.map_eq_none_iff.1 this.symm
   have hpk : S.pk ((PP (x.drop j') (1 + 1 + 1)).1.filter S.plain) = S.pk ((p :: q2).filter S.plain) := by
     rw [hsh] at hsh2
     have e := congrArg (fun x => x.1) hsh2
     simp only at e
     have key : ∀ (l : List (Int × ByteArray × Nat)) (n : Nat), S.pk ((l.map (fun x => (x.1, x.2.1, x.2.2 + n))).filter S.plain) = S.pk (l.filter S.plain) := by
       intro l n
       unfold S.pk
       rw [List.filter_map, List.map_map]
       rfl
     rw [<- key _ j', <- e, key]
   have oL2 : okA [32 :: 32 :: x.drop j'] := (qen _).1.2 (by rw [hl2]; exact hno)
   have hk1 : kt [x.take j' ++ 32 :: 45 :: 45 :: r0] = S.pk (q1.filter S.plain) := by
     rw [(qen _).2 (by rw [hl1]), hl1]
     simp only
     rw [List.filter_append]
     have : ([(6, nx, 1 + j' + 1)] : List (Int × ByteArray × Nat)).filter S.plain = [] := rfl
     rw [this, List.append_nil]
   have hk2 : kt [32 :: 32 :: x.drop j'] = S.pk ((p :: q2).filter S.plain) := by
     rw [(qen _).2 (by rw [hl2]; exact hno), hl2, hpk]
   have hkx : kt [x] = S.pk (q1.filter S.plain) ++ S.pk ((p :: q2).filter S.plain) := by
     rw [(qen _).2 (by rw [hp]), hp]
     simp only
     rw [List.filter_append]
     unfold S.pk
     rw [List.map_append]
   rw [List.nil_append]
   have oB := (qbn [32 :: 32 :: x.drop j'] ((S.splitL d).drop (k + 1))).1.2 ⟨oL2, o4⟩
   have oC := (qbn [x.take j' ++ 32 :: 45 :: 45 :: r0] _).1.2 ⟨oL1, oB⟩
   refine ⟨(qbn _ _).1.2 ⟨o1, oC⟩, ?_⟩
   rw [(qbn _ _).2 o1 oC, (qbn _ _).2 oL1 oB, (qbn _ _).2 oL2 o4, hk1, hk2]
   conv => rhs; rw [hsd]
   rw [(qbn _ _).2 o1 o2, (qbn _ _).2 o3 o4, hkx]
   simp only [List.append_assoc]
theorem comm_20 (s r : ByteArray) (w : Int) (l2 l : List qab) (e : Int) (hr : r.size <= 40)
   (hA : e = 0 -> ∀ (pre : List Int) (v : Int) (post : List Int), qaa r = pre ++ v :: post -> pre.any S.badB = false -> S.badB v = true -> v = 10)
   (hB : (qaa r).any S.badB = false -> e = 0 /\ S.sameK l2 l = true) : qgu LF s r w LF (l2, l, e, Int.ofNat 0) = some (true, ()) := by
 refine range0 (σ := Unit) (R := Rtz20) (qaa r) (fun i _ => (l2, l, e, i)) (fun i _ => ((qaa r).take i).any S.badB = false) (fun _ _ _ => some (true, ())) (by rw [qae]; unfold LF; omega) (fun K q hq => ?_) (fun K i v rest q hq rr h => ?_) () rfl
 · rw [List.take_length] at hq
   obtain ⟨e0, e1⟩ := hB hq
   have : iltI (Int.ofNat (qaa r).length) (Int.ofNat r.size) = false := by rw [qae]; exact qbc _
   simp only [qim, this, cond_false, e1]
   rw [ieq_t (show e = Int.ofNat 0 from e0)]
   rfl
 · have h1 := rr.ilt
   rw [qae] at h1
   have hsplit : qaa r = (qaa r).take i ++ v :: rest := by
     conv => lhs; rw [<- List.take_append_drop i (qaa r), rr.drop]
   have bad : S.badB v = true -> (cond (Bool.not (ieqI e (Int.ofNat 0))) (some (Bool.true, ())) (some ((ieqI v (Int.ofNat 10)), ())) : Option Rtz20) = some (true, ()) := fun hb => by
     by_cases e0 : e = 0
     · rw [ieq_t (show e = Int.ofNat 0 from e0), ieq_t (show v = Int.ofNat 10 from hA e0 _ v rest hsplit hq hb)]; rfl
     · rw [ieq_f (show ¬ e = Int.ofNat 0 from e0)]; rfl
   simp only [qim, h1, cond_true, rr.get, rr.next]
   by_cases c1 : v < 32
   · rw [ilt_t (show v < Int.ofNat 32 from c1), cond_true]
     exact bad (by unfold S.badB; rw [decide_eq_true c1]; rfl)
   · rw [ilt_f (show ¬ v < Int.ofNat 32 from c1), cond_false]
     by_cases c2 : 126 < v
     · rw [ilt_t (show Int.ofNat 126 < v from c2), cond_true]
       exact bad (by unfold S.badB; rw [decide_eq_true c2, Bool.or_true])
     · rw [ilt_f (show ¬ Int.ofNat 126 < v from c2), cond_false]
       refine h () ?_
       rw [rr.take, List.any_append, hq, List.any_cons]
       unfold S.badB
       rw [decide_eq_false c1, decide_eq_false c2]; rfl
theorem qpl : ∀ (pre : List Int) (v : Int) (post : List Int), pre.any S.badB = false -> ¬ v = 10 -> S.badB v = true -> ((pre ++ v :: post).takeWhile neL).any S.badB = true
 | [], v, post, _, h10, hb => by
   have : neL v = true := by unfold neL; rw [decide_eq_false h10]; rfl
   rw [List.nil_append, List.takeWhile_cons, this]
   simp only [if_true, List.any_cons, hb, Bool.true_or]
 | a :: pre, v, post, hp, h10, hb => by
   rw [List.any_cons, Bool.or_eq_false_iff] at hp
   have ha : ¬ a = 10 := fun e => by rw [e] at hp; exact absurd hp.1 (by decide)
   have : neL a = true := by unfold neL; rw [decide_eq_false ha]; rfl
   rw [List.cons_append, List.takeWhile_cons, this]
   simp only [if_true, List.any_cons]
   rw [qpl pre v post hp.2 h10 hb, Bool.or_true]
theorem Fz20_eq (s r : ByteArray) (w : Int) (hw0 : 0 <= w) (hw1 : w < 256) : Fz20 LF s r w = some (true, ()) := by
 simp only [Fz20, qmh, qep]
 by_cases c1 : 400 < s.size
 · rw [decide_eq_true c1]; rfl
 rw [decide_eq_false c1, cond_false]
 by_cases c2 : 40 < r.size
 · rw [decide_eq_true c2]; rfl
 rw [decide_eq_false c2, cond_false]
 have fs : S.fits s = true := Nat.ble_eq_true_of_le (by omega)
 simp only [fs, cond_true]
 by_cases h0 : ¬ (S.tokens s).2.2.2 = 0
 · have hst : S.strip s = (S.lit [], (S.tokens s).2.2.2) := by unfold S.strip; rw [if_neg h0]
   rw [ieq_f (show ¬ (S.tokens s).2.2.2 = Int.ofNat 0 from h0), Bool.not_false, cond_true, hst]
   simp only [qwn]
 have h0 := Decidable.not_not.1 h0
 obtain ⟨a1, a2, a3, a4⟩ := q04 (s := s) (by omega) h0
 have ft : S.fits (S.strip s).1 = true := Nat.ble_eq_true_of_le (by omega)
 have hk : ∀ a : ByteArray, keqS a a = true := fun a => decide_eq_true rfl
 have hT : S.sameT (S.tokens s).1 (S.tokens s).1 = true := decide_eq_true rfl
 have hz : ieqI 0 (Int.ofNat 0) = true := rfl
 simp only [ft, cond_true, a1, a3, a4, h0, hz, Bool.not_true, cond_false, hT, hk, List.length_nil, Nat.lt_irrefl, decide_false, qfk]
 by_cases hl : (S.tokens s).1.length = 0
 · rw [decide_eq_true hl]; rfl
 rw [decide_eq_false hl, cond_false, cond_false]
 have hww : IntKind.i64.wrap w = Int.ofNat w.toNat := by
   have : w = ((w.toNat : Nat) : Int) := by omega
   conv => lhs; rw [this]
   exact qb5 (by omega)
 have htm : Int.tmod (Int.ofNat w.toNat) (Int.ofNat (S.tokens s).1.length) = Int.ofNat (w.toNat % (S.tokens s).1.length) := rfl
 have hlt : w.toNat % (S.tokens s).1.length < (S.tokens s).1.length := Nat.mod_lt _ (by omega)
 rw [hww, htm]
 generalize hi : w.toNat % (S.tokens s).1.length = i at hlt
 obtain ⟨t, ht⟩ : ∃ t, (S.tokens s).1[i]? = some t := ⟨_, List.getElem?_eq_getElem hlt⟩
 have hj : jget (S.tokens s).1 (Int.ofNat i) = some t := qcg.trans ht
 have hg : (S.tokens s).1[Int.toNat (Int.ofNat i)]? = some t := ht
 rw [hj, hg]
 simp only
 -- where it stands
 obtain ⟨h1, h2⟩ := qji h0
 have htm : t ∈ (S.readL (S.splitL (qaa s)) 1).1 := by
   have := List.mem_of_getElem? ht
   rw [h1, qcs h2] at this
   exact (List.mem_filter.1 this).1
 obtain ⟨k, x, hx, hxo, p, hp, hte⟩ := qq1 _ 1 t h2 htm
 obtain ⟨q1, q2, hq⟩ := List.append_of_mem hp
 have hxn : ∀ b ∈ x, ¬ b = 10 := fun b hb => (qcc _ x b (List.mem_of_getElem? hx) hb).2
 have hline : S.line x = (q1 ++ p :: q2, none) := Prod.ext hq hxo
 obtain ⟨j, j1, j2, _, _⟩ := qjg x.length x 1 q1 p q2 (Nat.le_refl _) hxn hline
 have hoff : S.offset s (t.2.2.1, t.2.2.2) = ((j : Int) + S.sumLen ((S.splitL (qaa s)).take k), 0) := by
   rw [hte]
   have := qrt hx j1
   rw [<- this]
   show S.offset s (1 + (k : Int), Int.ofNat p.2.2) = _
   congr 2
   show ((p.2.2 : Nat) : Int) = 1 + (j : Int)
   omega
 have hs0 := qja ((S.splitL (qaa s)).take k)
 obtain ⟨o, ho⟩ : ∃ o : Nat, (o : Int) = S.sumLen ((S.splitL (qaa s)).take k) + (j : Int) := ⟨(S.sumLen ((S.splitL (qaa s)).take k) + (j : Int)).toNat, by omega⟩
 have hod : o <= (qaa s).length := by
   have e1 := qkn (qaa s)
   have e2 : S.splitL (qaa s) = (S.splitL (qaa s)).take k ++ x :: (S.splitL (qaa s)).drop (k + 1) := by
     conv => lhs; rw [<- List.take_append_drop k (S.splitL (qaa s))]
     rw [List.drop_eq_getElem_cons (List.getElem?_eq_some_iff.1 hx).1, (List.getElem?_eq_some_iff.1 hx).2]
   rw [e2, qjn, qbh] at e1
   have e3 := qja ((S.splitL (qaa s)).drop (k + 1))
   omega
 have hos : o <= s.size := by rw [qae] at hod; exact hod
 have hoe : (j : Int) + S.sumLen ((S.splitL (qaa s)).take k) = Int.ofNat o := by show _ = (o : Int); omega
 rw [hoe] at hoff
 simp only [hoff]
 have hc1 : lchk (Int.ofNat 0) (Int.ofNat o) (Int.ofNat s.size) (Int.ofNat s.size) = true := qge hos
 have hc2 : lchk (Int.ofNat o) (Int.ofNat s.size) (Int.ofNat s.size) (Int.ofNat s.size) = true := by simp [lchk]; omega
 have ex1 : (s.extract 0 o).size = o := by rw [<- qae, qda, List.length_take, qae]; omega
 have ex2 : (s.extract o s.size).size = s.size - o := by rw [<- qae, qgv _ _ _ (Nat.le_refl _), List.length_drop, qae]
 have sz : ∀ a b : ByteArray, (ByteArray.append a b).size = a.size + b.size := fun a b => by
   have : qaa (ByteArray.append a b) = qaa a ++ qaa b := qqh _ _
   rw [<- qae, this, List.length_append, qae, qae]
 have l3 : (S.lit [32, 45, 45]).size = 3 := rfl
 have l4 : (S.lit [10, 32, 32]).size = 3 := rfl
 have t1 : Int.toNat (Int.ofNat o) = o := rfl
 have t2 : Int.toNat (Int.ofNat s.size) = s.size := rfl
 rw [ieq_t (show (0 : Int) = Int.ofNat 0 from rfl), Bool.not_true, cond_false, t1, t2, hc1, cond_true, hc2]
 have b1 : Nat.ble (Nat.succ (Nat.add (s.extract 0 o).size 3)) 9223372036854775808 = true := Nat.ble_eq_true_of_le (by show (s.extract 0 o).size + 3 + 1 <= _; omega)
 have b2 : Nat.ble (Nat.succ (Nat.add (ByteArray.append (s.extract 0 o) (S.lit [32, 45, 45])).size r.size)) 9223372036854775808 = true := Nat.ble_eq_true_of_le (by show (ByteArray.append (s.extract 0 o) (S.lit [32, 45, 45])).size + r.size + 1 <= _; rw [sz, l3]; omega)
 have b3 : Nat.ble (Nat.succ (Nat.add (ByteArray.append (ByteArray.append (s.extract 0 o) (S.lit [32, 45, 45])) r).size 3)) 9223372036854775808 = true := Nat.ble_eq_true_of_le (by show (ByteArray.append (ByteArray.append (s.extract 0 o) (S.lit [32, 45, 45])) r).size + 3 + 1 <= _; rw [sz, sz, l3]; omega)
 have b4 : Nat.ble (Nat.succ (Nat.add (ByteArray.append (ByteArray.append (ByteArray.append (s.extract 0 o) (S.lit [32, 45, 45])) r) (S.lit [10, 32, 32])).size (s.extract o s.size).size)) 9223372036854775808 = true := Nat.ble_eq_true_of_le (by show (ByteArray.append (ByteArray.append (ByteArray.append (s.extract 0 o) (S.lit [32, 45, 45])) r) (S.lit [10, 32, 32])).size + (s.extract o s.size).size + 1 <= _; rw [sz, sz, sz, l3, l4]; omega)
 rw [b1, cond_true, b2, cond_true, b3, cond_true, cond_true, b4, cond_true]
 have hMs : (ByteArray.append (ByteArray.append (ByteArray.append (ByteArray.append (s.extract 0 o) (S.lit [32, 45, 45])) r) (S.lit [10, 32, 32])) (s.extract o s.size)).size <= 6000 := by rw [sz, sz, sz, sz, l3, l4]; omega
 have hMb : qaa (ByteArray.append (ByteArray.append (ByteArray.append (ByteArray.append (s.extract 0 o) (S.lit [32, 45, 45])) r) (S.lit [10, 32, 32])) (s.extract o s.size)) = (qaa s).take o ++ [32, 45, 45] ++ qaa r ++ [10, 32, 32] ++ (qaa s).drop o := by
   have ap : ∀ a b : ByteArray, qaa (ByteArray.append a b) = qaa a ++ qaa b := fun a b => qqh _ _
   rw [ap, ap, ap, ap, qda, qgv _ _ _ (Nat.le_refl _)]
   rfl
 generalize hM : ByteArray.append (ByteArray.append (ByteArray.append (ByteArray.append (s.extract 0 o) (S.lit [32, 45, 45])) r) (S.lit [10, 32, 32])) (s.extract o s.size) = M at hMs hMb
 have fM : S.fits M = true := Nat.ble_eq_true_of_le (by omega)
 rw [fM, cond_true]
 simp only
 have hj2 : p.2.2 = 1 + j := j2
 obtain ⟨m1, m2⟩ := q0m (d := qaa s) (o := o) (qaa r) hx hod ho h2 hline hj2
 rw [<- hMb] at m1 m2
 have hok : okA (S.splitL (qaa M)) ↔ (S.tokens M).2.2.2 = 0 := by
   rw [qj6 hMs]
   unfold okA
   by_cases c : (S.readL (S.splitL (qaa M)) 1).2.2 = 0
   · rw [qcs c]; exact ⟨fun _ => rfl, fun _ => c⟩
   · rw [qr3 c]
 refine comm_20 s r w _ _ _ (by omega) (fun e0 pre v post hpv hpre hb => ?_) fun hB => ?_
 · by_cases h10 : v = 10
   · exact h10
   · obtain ⟨r0, rest, er⟩ := qem (qaa r)
     refine absurd (hok.2 e0) (m1 r0 rest er ?_)
     rw [qju _ _ _ er, hpv]
     exact qpl pre v post hpre h10 hb
 · obtain ⟨g1, g2⟩ := m2 hB
   refine ⟨hok.1 g1, decide_eq_true ?_⟩
   have e1 : S.kinds (S.tokens M).1 = kt (S.splitL (qaa M)) := by rw [qj6 hMs, qcs g1]; rfl
   have e2 : S.kinds (S.tokens s).1 = kt (S.splitL (qaa s)) := by rw [h1, qcs h2]; rfl
   rw [e1, e2, g2]
theorem qv5 {v : Int} (h : IntKind.u8.wrap v = v) : 0 <= v /\ v < 256 := by
 have h : v % 256 = v := h
 omega
theorem conz20 : Con Tryd.prog idz20 ⟨[.str, .str, .int .u8], [(false, .bool)], fun _ => some (true, ())⟩ :=
 mkz20 ⟨qqd, conz21, qte, conz13, conz18, conz19, qx9, trivial⟩ fun x y hx h => ⟨LF, by
   have hw := qv5 hx.2.2.1
   exact (Fz20_eq x.1 x.2.1 x.2.2.1 hw.1 hw.2).trans h⟩
end Go.Proofs.YtanenikkloolfaaDoor
end

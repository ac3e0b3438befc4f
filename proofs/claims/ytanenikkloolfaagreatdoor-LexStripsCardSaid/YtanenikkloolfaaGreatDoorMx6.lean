/- Texts: Xr6, Xsp7, Xsp8, Xsp9, Xg9, Xp18, Xg10, Xt3, Xt4, Xt5, Xt6, Xp19, Xhg, Xg14, Xl9, Xt7, Xp22, Xt8, Xt9, Xg11, Xg12, Xp20, Xg13, Xp21, Xz4, Xsan, Xz7, Xz5, Xsh, Xp23, Xz6, Xp24, Xz8. -/
import Derived.Test.YtanenikkloolfaaGreatDoorMx5
import Derived.Test.YtanenikkloolfaaGreatDoorMx4
import Derived.Shelf.Strings.OnBuilder
import Derived.Shelf.Strings.Trim
import Derived.Test.YtanenikkloolfaaGreatDoorProg
set_option linter.unusedVariables false
noncomputable section
set_option maxRecDepth 100000
namespace Go.Proofs.YtanenikkloolfaaGreatDoor
open Go Go.Sx Go.RowKit Go.Jx
noncomputable section
namespace S
def okL (ls : List ByteArray) (n : Int) : Bool := Nat.ble ls.length 1000001 && (ls.all (fun s => Nat.ble s.size 1000000 && (qaa s).all fun b => !decide (b = 10)) && (decide (0 <= n) && decide (n <= 1000001)))
def readX (w : Int -> Bool) (ls : List ByteArray) (n : Int) : List qab × qcb × Int := ((readL (ls.map qaa) n).1.filter (fun t => w t.1), (readL (ls.map qaa) n).2)
def wTok (k : Int) : Bool := !decide (k = 6)
def wNote (k : Int) : Bool := decide (k = 6)
end S
abbrev DRd : Type := (Int × Unit) × (Unit × Unit) × (List qab × Unit) × (qcb × Unit) × (Int × Unit) × (List qab × Unit) × (Int × Unit) × Unit
def rdD (first : Int) (out : List qab) (i : Int) (pl : qcb) (e : Int) : DRd := ((first, ()), (((), ()), (([], ()), (((pl.1, pl.2), ()), ((e, ()), ((out, ()), ((i, ()), ())))))))
def Gtok : DRd -> qa0 -> Option (DRd × Bool) := (fun v2 v3 => (cond (Bool.not (ieqI v3.2.2 (Int.ofNat 0))) (some (((v2.1.1, ()), (((), ()), (([], ()), ((((Go.IntKind.wrap Go.IntKind.i64 (Int.add v2.1.1 v2.2.2.2.2.2.2.1.1)), (Go.IntKind.wrap Go.IntKind.i64 (Int.add (Int.ofNat 1) v3.2.1))), ()), ((v3.2.2, ()), ((v2.2.2.2.2.2.1.1, ()), ((v2.2.2.2.2.2.2.1.1, ()), ()))))))), Bool.true)) (cond (Bool.not (ieqI v3.1.1 (Int.ofNat 6))) (cond (Nat.ble (Nat.mul (Nat.add (List.length v2.2.2.2.2.2.1.1) 1) 40) 140737488355328) (some (((v2.1.1, ()), (((), ()), ((v2.2.2.1.1, ()), (((v2.2.2.2.1.1.1, v2.2.2.2.1.1.2), ()), ((v2.2.2.2.2.1.1, ()), (((List.append v2.2.2.2.2.2.1.1 (List.cons (v3.1.1, (v3.1.2.1, ((Go.IntKind.wrap Go.IntKind.i64 (Int.add v2.1.1 v2.2.2.2.2.2.2.1.1)), (Go.IntKind.wrap Go.IntKind.i64 (Int.add (Int.ofNat 1) v3.2.1))))) [])), ()), ((v2.2.2.2.2.2.2.1.1, ()), ()))))))), Bool.false)) none) (some (((v2.1.1, ()), (((), ()), ((v2.2.2.1.1, ()), (((v2.2.2.2.1.1.1, v2.2.2.2.1.1.2), ()), ((v2.2.2.2.2.1.1, ()), ((v2.2.2.2.2.2.1.1, ()), ((v2.2.2.2.2.2.2.1.1, ()), ()))))))), Bool.false)))))
def Gnote : DRd -> qa0 -> Option (DRd × Bool) := (fun v2 v3 => (cond (Bool.not (ieqI v3.2.2 (Int.ofNat 0))) (some (((v2.1.1, ()), (((), ()), (([], ()), ((((Go.IntKind.wrap Go.IntKind.i64 (Int.add v2.1.1 v2.2.2.2.2.2.2.1.1)), (Go.IntKind.wrap Go.IntKind.i64 (Int.add (Int.ofNat 1) v3.2.1))), ()), ((v3.2.2, ()), ((v2.2.2.2.2.2.1.1, ()), ((v2.2.2.2.2.2.2.1.1, ()), ()))))))), Bool.true)) (cond (ieqI v3.1.1 (Int.ofNat 6)) (cond (Nat.ble (Nat.mul (Nat.add (List.length v2.2.2.2.2.2.1.1) 1) 40) 140737488355328) (some (((v2.1.1, ()), (((), ()), ((v2.2.2.1.1, ()), (((v2.2.2.2.1.1.1, v2.2.2.2.1.1.2), ()), ((v2.2.2.2.2.1.1, ()), (((List.append v2.2.2.2.2.2.1.1 (List.cons (v3.1.1, (v3.1.2.1, ((Go.IntKind.wrap Go.IntKind.i64 (Int.add v2.1.1 v2.2.2.2.2.2.2.1.1)), (Go.IntKind.wrap Go.IntKind.i64 (Int.add (Int.ofNat 1) v3.2.1))))) [])), ()), ((v2.2.2.2.2.2.2.1.1, ()), ()))))))), Bool.false)) none) (some (((v2.1.1, ()), (((), ()), ((v2.2.2.1.1, ()), (((v2.2.2.2.1.1.1, v2.2.2.2.1.1.2), ()), ((v2.2.2.2.2.1.1, ()), ((v2.2.2.2.2.2.1.1, ()), ((v2.2.2.2.2.2.2.1.1, ()), ()))))))), Bool.false)))))
end
theorem que {ls : List ByteArray} {n : Int} (h : S.okL ls n = true) : ls.length <= 1000001 /\ (∀ s ∈ ls, s.size <= 1000000 /\ ∀ b ∈ qaa s, ¬ b = 10) /\ 0 <= n /\ n <= 1000001 := by
 unfold S.okL at h
 simp only [Bool.and_eq_true, decide_eq_true_iff, List.all_eq_true, Bool.not_eq_true', decide_eq_false_iff_not] at h
 exact ⟨Nat.le_of_ble_eq_true h.1, fun s hs => ⟨Nat.le_of_ble_eq_true (h.2.1 s hs).1, (h.2.1 s hs).2⟩, h.2.2⟩
theorem qkx {G : DRd -> qa0 -> Option (DRd × Bool)} {w : Int -> Bool} {first i n : Int} {N M : Nat}
   (hG : ∀ (out : List qab) (p : qa0), out.length < M -> okP N p -> G (rdD first out i (0, 0) 0) p = if p.2.2 = 0 then some (rdD first (cond (w p.1.1) (out ++ [(p.1.1, p.1.2.1, n, 1 + p.2.1)]) out) i (0, 0) 0, false) else some (rdD first out i (n, 1 + p.2.1) p.2.2, true)) :
   ∀ (ps : List qa0) (out : List qab), out.length + ps.length <= M -> (∀ p ∈ ps, okP N p) ->
     ((S.rdGo w n ps out).2 = none -> foldR G ps (rdD first out i (0, 0) 0) = some (rdD first (S.rdGo w n ps out).1 i (0, 0) 0, false) /\ (S.rdGo w n ps out).1.length <= out.length + ps.length) /\
     (∀ pl e, (S.rdGo w n ps out).2 = some (pl, e) -> ∃ out', foldR G ps (rdD first out i (0, 0) 0) = some (rdD first out' i pl e, true))
 | [], out, _, _ => ⟨fun _ => ⟨rfl, Nat.le_add_right _ _⟩, fun pl e h => by cases h⟩
 | p :: ps, out, hM, hp => by
   rw [List.length_cons] at hM
   have hg := hG out p (by omega) (hp p List.mem_cons_self)
   have hr : S.rdGo w n (p :: ps) out = if p.2.2 = 0 then S.rdGo w n ps (cond (w p.1.1) (out ++ [(p.1.1, p.1.2.1, n, 1 + p.2.1)]) out) else ([], some ((n, 1 + p.2.1), p.2.2)) := rfl
   rw [hr]
   unfold foldR
   rw [hg]
   by_cases h0 : p.2.2 = 0
   · rw [if_pos h0, if_pos h0]
     have hl : (cond (w p.1.1) (out ++ [(p.1.1, p.1.2.1, n, 1 + p.2.1)]) out).length <= out.length + 1 := by
       cases w p.1.1 <;> simp
     obtain ⟨a1, a2⟩ := qkx hG ps (cond (w p.1.1) (out ++ [(p.1.1, p.1.2.1, n, 1 + p.2.1)]) out) (by omega) (fun q hq => hp q (List.mem_cons_of_mem _ hq))
     refine ⟨fun h => ?_, a2⟩
     obtain ⟨b1, b2⟩ := a1 h
     exact ⟨b1, by rw [List.length_cons]; omega⟩
   · rw [if_neg h0, if_neg h0]
     refine ⟨fun h => (by cases h), fun pl e h => ?_⟩
     cases h
     exact ⟨out, rfl⟩
theorem qjf : ∀ (f : Nat) (r : List Int) (a : Nat), (S.piecesGo f r a).length <= f
 | 0, _, _ => Nat.le_refl _
 | f + 1, [], _ => Nat.zero_le _
 | f + 1, b :: r, a => by
   have e : S.piecesGo (f + 1) (b :: r) a = if b = 32 then S.piecesGo f r (a + 1) else if (S.pieceX (b :: r) a).1.2.2 = 0 then (S.pieceX (b :: r) a).1 :: S.piecesGo f ((b :: r).drop (S.pieceX (b :: r) a).2) (a + (S.pieceX (b :: r) a).2) else [(S.pieceX (b :: r) a).1] := rfl
   rw [e]
   split
   · exact Nat.le_succ_of_le (qjf f _ _)
   split
   · rw [List.length_cons]; exact Nat.succ_le_succ (qjf f _ _)
   · simp
theorem qic {a b : Int} (h : -9223372036854775808 <= a + b /\ a + b < 9223372036854775808) : IntKind.i64.wrap (Int.add a b) = a + b := qbk h
theorem Gtok_eq (first i n : Int) (N : Nat) (hn : n = first + i) (h : 0 <= n /\ n <= 4000000) (hN : N <= 1000000) (out : List qab) (p : qa0) (ho : out.length < 1100000000000) (hp : okP N p) : Gtok (rdD first out i (0, 0) 0) p = if p.2.2 = 0 then some (rdD first (cond (S.wTok p.1.1) (out ++ [(p.1.1, p.1.2.1, n, 1 + p.2.1)]) out) i (0, 0) 0, false) else some (rdD first out i (n, 1 + p.2.1) p.2.2, true) := by
 obtain ⟨_, _, _, ⟨d1, d2⟩, _⟩ := hp
 have w1 : IntKind.i64.wrap (Int.add first i) = n := by rw [hn]; exact qic (by omega)
 have w2 : IntKind.i64.wrap (Int.add (Int.ofNat 1) p.2.1) = 1 + p.2.1 := qic (by show -9223372036854775808 <= (1 : Int) + p.2.1 /\ (1 : Int) + p.2.1 < _; omega)
 have hr : Nat.ble (Nat.mul (Nat.add out.length 1) 40) 140737488355328 = true := Nat.ble_eq_true_of_le (by show (out.length + 1) * 40 <= _; omega)
 simp only [Gtok, rdD, w1, w2, hr, cond_true, S.wTok, qa9]
 by_cases h0 : p.2.2 = 0
 · rw [decide_eq_true (show p.2.2 = Int.ofNat 0 from h0), if_pos h0]
   simp only [Bool.not_true, cond_false]
   by_cases h6 : p.1.1 = 6
   · rw [decide_eq_true (show p.1.1 = Int.ofNat 6 from h6), decide_eq_true h6]; rfl
   · rw [decide_eq_false (show ¬ p.1.1 = Int.ofNat 6 from h6), decide_eq_false h6]; rfl
 · rw [decide_eq_false (show ¬ p.2.2 = Int.ofNat 0 from h0), if_neg h0]; rfl
theorem tokL_go (ls : List ByteArray) (n : Int) (hl : ls.length <= 1000001) (hs : ∀ s ∈ ls, s.size <= 1000000 /\ ∀ b ∈ qaa s, ¬ b = 10) (hn : 0 <= n /\ n <= 1000001) :
   Fz24 LF ls n = some (((S.readX S.wTok ls n).1, (S.readX S.wTok ls n).2.1, (S.readX S.wTok ls n).2.2, ()), ()) := by
 have key : qf9 LF ls n LF (Int.ofNat 0, n, Int.ofNat 0, Int.ofNat 0, [], Int.ofNat 0, []) = (if (S.readL (ls.map qaa) (n + (0 : Nat))).2.2 = 0 then some (([] ++ (S.readL (ls.map qaa) (n + (0 : Nat))).1.filter (fun t => S.wTok t.1), (0, 0), 0, ()), ()) else some (([], (S.readL (ls.map qaa) (n + (0 : Nat))).2.1, (S.readL (ls.map qaa) (n + (0 : Nat))).2.2, ()), ())) := by
   refine range0 (σ := List qab) (R := Rtz24) ls (fun i q => (i, n, Int.ofNat 0, Int.ofNat 0, q, Int.ofNat 0, [])) (fun i q => q.length <= i * 1000001) (fun rest i q => if (S.readL (rest.map qaa) (n + (i : Nat))).2.2 = 0 then some ((q ++ (S.readL (rest.map qaa) (n + (i : Nat))).1.filter (fun t => S.wTok t.1), (0, 0), 0, ()), ()) else some (([], (S.readL (rest.map qaa) (n + (i : Nat))).2.1, (S.readL (rest.map qaa) (n + (i : Nat))).2.2, ()), ())) (by unfold LF; omega) (fun K q hq => ?_) (fun K i v rest q hq r h => ?_) [] (Nat.zero_le _)
   · simp only [qgz, qa4, cond_false, List.map_nil]
     show some ((q, (0, 0), 0, ()), ()) = if (0 : Int) = 0 then some ((q ++ [], (0, 0), 0, ()), ()) else _
     rw [if_pos rfl, List.append_nil]
   · obtain ⟨hv, hnl⟩ := hs v r.mem
     have hi := r.lt
     have hb : Nat.ble (Nat.succ v.size) 9223372036854775807 = true := Nat.ble_eq_true_of_le (by omega)
     have hc : (cond (Nat.ble (Nat.succ v.size) 9223372036854775807) (some (S.pieces v)) (none : Option (List (El cLexPiece)))) = some (S.pieces v) := by rw [hb]; rfl
     have hpl : (S.pieces v).length <= v.size + 1 := qjf _ _ _
     have hlen : q.length + (S.pieces v).length <= (i + 1) * 1000001 := by
       have : (i + 1) * 1000001 = i * 1000001 + 1000001 := Nat.succ_mul _ _
       omega
     have hM : (i + 1) * 1000001 <= 1000001 * 1000001 := Nat.mul_le_mul_right _ (by omega)
     have hgo := qkx (G := Gtok) (w := S.wTok) (first := n) (i := Int.ofNat i) (n := n + (i : Nat)) (N := v.size) (M := 1100000000000) (fun out p ho hp => Gtok_eq n (Int.ofNat i) (n + (i : Nat)) v.size rfl (by omega) hv out p ho hp) (S.pieces v) q (by omega) (qgl v.size _ _ 0 (by rw [qaf]; omega))
     have hrd := qj3 S.wTok (n + (i : Nat)) (v.size + 1) (qaa v) 0 q (fun b hb => qbv hb) hnl
     have e0 : S.pieces v = S.piecesGo (v.size + 1) (qaa v) 0 := rfl
     rw [<- e0] at hrd
     have ec : S.readL ((v :: rest).map qaa) (n + (i : Nat)) = _ := qd0 (qaa v) (rest.map qaa) (n + (i : Nat))
     rw [qaf] at ec
     rw [ec]
     have step : qgz LF ls n K (Int.ofNat i, n, Int.ofNat 0, Int.ofNat 0, q, Int.ofNat 0, []) = match foldR Gtok (S.pieces v) (rdD n q (Int.ofNat i) (0, 0) 0) with
         | none => none
         | some v4 => cond v4.2 (some ((v4.1.2.2.1.1, ((v4.1.2.2.2.1.1.1, v4.1.2.2.2.1.1.2), (v4.1.2.2.2.2.1.1, ()))), ())) (K (Int.ofNat (i + 1), v4.1.1.1, v4.1.2.2.2.1.1.1, v4.1.2.2.2.1.1.2, v4.1.2.2.2.2.2.1.1, v4.1.2.2.2.2.1.1, v4.1.2.2.1.1)) := by
       simp only [qgz, r.ilt, r.get, r.next, cond_true, hc]
       rfl
     rw [step]
     cases hp : (S.pcs (v.size + 1) (qaa v) (0 + 1)).2 with
     | some x =>
       obtain ⟨c, e⟩ := x
       have he := qco _ _ _ _ hp
       rw [hp] at hrd
       obtain ⟨out', ho⟩ := hgo.2 _ _ (by rw [hrd])
       rw [ho]
       simp only [rdD, cond_true]
       rw [if_neg he]
     | none =>
       rw [hp] at hrd
       obtain ⟨g1, g2⟩ := hgo.1 (by rw [hrd])
       rw [hrd] at g1 g2
       simp only at g1 g2
       rw [g1]
       simp only [rdD, cond_false]
       refine (h _ (by omega)).trans ?_
       rw [show n + (i : Int) + 1 = n + ((i + 1 : Nat) : Int) by omega]
       by_cases hz : (S.readL (rest.map qaa) (n + ((i + 1 : Nat) : Int))).2.2 = 0
       · rw [if_pos hz, if_pos hz, if_pos rfl]
         simp only [List.filter_append, List.append_assoc]
       · rw [if_neg hz, if_neg hz, if_neg hz]
 refine key.trans ?_
 rw [show n + ((0 : Nat) : Int) = n by omega, List.nil_append]
 unfold S.readX
 by_cases hz : (S.readL (ls.map qaa) n).2.2 = 0
 · rw [if_pos hz, qpk _ _ hz, hz]
 · rw [if_neg hz, qka _ _ hz]; rfl
def spz24 : SmR := ⟨[.dat (.list .str), .dat (.int .i64), .fn 33], [(true, qae), (false, qbn), (false, .int .i64)], fun x => cond (S.okL x.1 x.2.1) (some (((S.readX S.wTok x.1 x.2.1).1, (S.readX S.wTok x.1 x.2.1).2.1, (S.readX S.wTok x.1 x.2.1).2.2, ()), ())) none⟩
theorem qxq : ConR Tryz.prog idz24 spz24 := mkz24 trivial fun x y hx h => ⟨LF, by
 obtain ⟨h1, h2⟩ := qa2 (show cond (S.okL x.1 x.2.1) (some (((S.readX S.wTok x.1 x.2.1).1, (S.readX S.wTok x.1 x.2.1).2.1, (S.readX S.wTok x.1 x.2.1).2.2, ()), ())) none = some y from h)
 obtain ⟨a1, a2, a3⟩ := que h1
 exact (tokL_go x.1 x.2.1 a1 a2 a3).trans (congrArg some h2)⟩
theorem qzm (first i n : Int) (N : Nat) (hn : n = first + i) (h : 0 <= n /\ n <= 4000000) (hN : N <= 1000000) (out : List qab) (p : qa0) (ho : out.length < 1100000000000) (hp : okP N p) : Gnote (rdD first out i (0, 0) 0) p = if p.2.2 = 0 then some (rdD first (cond (S.wNote p.1.1) (out ++ [(p.1.1, p.1.2.1, n, 1 + p.2.1)]) out) i (0, 0) 0, false) else some (rdD first out i (n, 1 + p.2.1) p.2.2, true) := by
 obtain ⟨_, _, _, ⟨d1, d2⟩, _⟩ := hp
 have w1 : IntKind.i64.wrap (Int.add first i) = n := by rw [hn]; exact qic (by omega)
 have w2 : IntKind.i64.wrap (Int.add (Int.ofNat 1) p.2.1) = 1 + p.2.1 := qic (by show -9223372036854775808 <= (1 : Int) + p.2.1 /\ (1 : Int) + p.2.1 < _; omega)
 have hr : Nat.ble (Nat.mul (Nat.add out.length 1) 40) 140737488355328 = true := Nat.ble_eq_true_of_le (by show (out.length + 1) * 40 <= _; omega)
 simp only [Gnote, rdD, w1, w2, hr, cond_true, S.wNote, qa9]
 by_cases h0 : p.2.2 = 0
 · rw [decide_eq_true (show p.2.2 = Int.ofNat 0 from h0), if_pos h0]
   simp only [Bool.not_true, cond_false]
   by_cases h6 : p.1.1 = 6
   · rw [decide_eq_true (show p.1.1 = Int.ofNat 6 from h6), decide_eq_true h6]; rfl
   · rw [decide_eq_false (show ¬ p.1.1 = Int.ofNat 6 from h6), decide_eq_false h6]; rfl
 · rw [decide_eq_false (show ¬ p.2.2 = Int.ofNat 0 from h0), if_neg h0]; rfl
theorem qx2 (ls : List ByteArray) (n : Int) (hl : ls.length <= 1000001) (hs : ∀ s ∈ ls, s.size <= 1000000 /\ ∀ b ∈ qaa s, ¬ b = 10) (hn : 0 <= n /\ n <= 1000001) :
   Fz25 LF ls n = some (((S.readX S.wNote ls n).1, (S.readX S.wNote ls n).2.1, (S.readX S.wNote ls n).2.2, ()), ()) := by
 have key : qhk LF ls n LF (Int.ofNat 0, n, Int.ofNat 0, Int.ofNat 0, [], Int.ofNat 0, []) = (if (S.readL (ls.map qaa) (n + (0 : Nat))).2.2 = 0 then some (([] ++ (S.readL (ls.map qaa) (n + (0 : Nat))).1.filter (fun t => S.wNote t.1), (0, 0), 0, ()), ()) else some (([], (S.readL (ls.map qaa) (n + (0 : Nat))).2.1, (S.readL (ls.map qaa) (n + (0 : Nat))).2.2, ()), ())) := by
   refine range0 (σ := List qab) (R := Rtz25) ls (fun i q => (i, n, Int.ofNat 0, Int.ofNat 0, q, Int.ofNat 0, [])) (fun i q => q.length <= i * 1000001) (fun rest i q => if (S.readL (rest.map qaa) (n + (i : Nat))).2.2 = 0 then some ((q ++ (S.readL (rest.map qaa) (n + (i : Nat))).1.filter (fun t => S.wNote t.1), (0, 0), 0, ()), ()) else some (([], (S.readL (rest.map qaa) (n + (i : Nat))).2.1, (S.readL (rest.map qaa) (n + (i : Nat))).2.2, ()), ())) (by unfold LF; omega) (fun K q hq => ?_) (fun K i v rest q hq r h => ?_) [] (Nat.zero_le _)
   · simp only [qfv, qa4, cond_false, List.map_nil]
     show some ((q, (0, 0), 0, ()), ()) = if (0 : Int) = 0 then some ((q ++ [], (0, 0), 0, ()), ()) else _
     rw [if_pos rfl, List.append_nil]
   · obtain ⟨hv, hnl⟩ := hs v r.mem
     have hi := r.lt
     have hb : Nat.ble (Nat.succ v.size) 9223372036854775807 = true := Nat.ble_eq_true_of_le (by omega)
     have hc : (cond (Nat.ble (Nat.succ v.size) 9223372036854775807) (some (S.pieces v)) (none : Option (List (El cLexPiece)))) = some (S.pieces v) := by rw [hb]; rfl
     have hpl : (S.pieces v).length <= v.size + 1 := qjf _ _ _
     have hlen : q.length + (S.pieces v).length <= (i + 1) * 1000001 := by
       have : (i + 1) * 1000001 = i * 1000001 + 1000001 := Nat.succ_mul _ _
       omega
     have hM : (i + 1) * 1000001 <= 1000001 * 1000001 := Nat.mul_le_mul_right _ (by omega)
     have hgo := qkx (G := Gnote) (w := S.wNote) (first := n) (i := Int.ofNat i) (n := n + (i : Nat)) (N := v.size) (M := 1100000000000) (fun out p ho hp => qzm n (Int.ofNat i) (n + (i : Nat)) v.size rfl (by omega) hv out p ho hp) (S.pieces v) q (by omega) (qgl v.size _ _ 0 (by rw [qaf]; omega))
     have hrd := qj3 S.wNote (n + (i : Nat)) (v.size + 1) (qaa v) 0 q (fun b hb => qbv hb) hnl
     have e0 : S.pieces v = S.piecesGo (v.size + 1) (qaa v) 0 := rfl
     rw [<- e0] at hrd
     have ec : S.readL ((v :: rest).map qaa) (n + (i : Nat)) = _ := qd0 (qaa v) (rest.map qaa) (n + (i : Nat))
     rw [qaf] at ec
     rw [ec]
     have step : qfv LF ls n K (Int.ofNat i, n, Int.ofNat 0, Int.ofNat 0, q, Int.ofNat 0, []) = match foldR Gnote (S.pieces v) (rdD n q (Int.ofNat i) (0, 0) 0) with
         | none => none
         | some v4 => cond v4.2 (some ((v4.1.2.2.1.1, ((v4.1.2.2.2.1.1.1, v4.1.2.2.2.1.1.2), (v4.1.2.2.2.2.1.1, ()))), ())) (K (Int.ofNat (i + 1), v4.1.1.1, v4.1.2.2.2.1.1.1, v4.1.2.2.2.1.1.2, v4.1.2.2.2.2.2.1.1, v4.1.2.2.2.2.1.1, v4.1.2.2.1.1)) := by
       simp only [qfv, r.ilt, r.get, r.next, cond_true, hc]
       rfl
     rw [step]
     cases hp : (S.pcs (v.size + 1) (qaa v) (0 + 1)).2 with
     | some x =>
       obtain ⟨c, e⟩ := x
       have he := qco _ _ _ _ hp
       rw [hp] at hrd
       obtain ⟨out', ho⟩ := hgo.2 _ _ (by rw [hrd])
       rw [ho]
       simp only [rdD, cond_true]
       rw [if_neg he]
     | none =>
       rw [hp] at hrd
       obtain ⟨g1, g2⟩ := hgo.1 (by rw [hrd])
       rw [hrd] at g1 g2
       simp only at g1 g2
       rw [g1]
       simp only [rdD, cond_false]
       refine (h _ (by omega)).trans ?_
       rw [show n + (i : Int) + 1 = n + ((i + 1 : Nat) : Int) by omega]
       by_cases hz : (S.readL (rest.map qaa) (n + ((i + 1 : Nat) : Int))).2.2 = 0
       · rw [if_pos hz, if_pos hz, if_pos rfl]
         simp only [List.filter_append, List.append_assoc]
       · rw [if_neg hz, if_neg hz, if_neg hz]
 refine key.trans ?_
 rw [show n + ((0 : Nat) : Int) = n by omega, List.nil_append]
 unfold S.readX
 by_cases hz : (S.readL (ls.map qaa) n).2.2 = 0
 · rw [if_pos hz, qpk _ _ hz, hz]
 · rw [if_neg hz, qka _ _ hz]; rfl
def spz25 : SmR := ⟨[.dat (.list .str), .dat (.int .i64), .fn 74], [(true, qae), (false, qbn), (false, .int .i64)], fun x => cond (S.okL x.1 x.2.1) (some (((S.readX S.wNote x.1 x.2.1).1, (S.readX S.wNote x.1 x.2.1).2.1, (S.readX S.wNote x.1 x.2.1).2.2, ()), ())) none⟩
theorem qrq : ConR Tryz.prog idz25 spz25 := mkz25 trivial fun x y hx h => ⟨LF, by
 obtain ⟨h1, h2⟩ := qa2 (show cond (S.okL x.1 x.2.1) (some (((S.readX S.wNote x.1 x.2.1).1, (S.readX S.wNote x.1 x.2.1).2.1, (S.readX S.wNote x.1 x.2.1).2.2, ()), ())) none = some y from h)
 obtain ⟨a1, a2, a3⟩ := que h1
 exact (qx2 x.1 x.2.1 a1 a2 a3).trans (congrArg some h2)⟩
namespace S
def small (t : qab) : Bool := Nat.ble t.2.1.size 400000
def put (bl : qab -> qab -> Bool) (l : List qab) : ByteArray × Int :=
 if 6000 < l.length then (S.lit [], 3)
 else if l.any (fun t => !right t) then (S.lit [], 1)
 else if 20000 < (putB bl l).length then (S.lit [], 3)
 else (strOf (putB bl l), 0)
def same (a b : ByteArray) : Bool × Int :=
 if (tokens a).2.2.2 = 0 then (if (tokens b).2.2.2 = 0 then (sameK (tokens a).1 (tokens b).1, 0) else (false, (tokens b).2.2.2)) else (false, (tokens a).2.2.2)
end S
def spz29 : SmR := ⟨[.dat (.list qae), .dat (.list qae), .fn 52], [(false, .bool)], fun x => some ((S.sameK x.1 x.2.1, ()), ())⟩
def spz30 : Sm := ⟨[.str, .str], [(false, .bool), (false, .int .i64)], fun x => cond (S.fits x.1 && S.fits x.2.1) (some ((S.same x.1 x.2.1).1, (S.same x.1 x.2.1).2, ())) none⟩
namespace S
end S
namespace S
def trimR : List Int -> List Int
 | [] => []
 | b :: t => match trimR t with
   | [] => if b = 32 then [] else [b]
   | y :: l => b :: y :: l
def isNoteP (p : Int × ByteArray × Nat) : Bool := decide (p.1 = 6)
def noteAt (x : List Int) : Nat := match (line x).1.find? isNoteP with
 | some p => p.2.2 - 1
 | none => x.length
def bareL (x : List Int) : List Int := trimR (x.take (noteAt x))
def joinN : List (List Int) -> List Int
 | [] => []
 | x :: l => match l with
   | [] => x
   | _ :: _ => x ++ 10 :: joinN l
def strip (s : ByteArray) : ByteArray × Int :=
 if (tokens s).2.2.2 = 0 then (strOf (joinN ((splitL (qaa s)).map bareL)), 0) else (S.lit [], (tokens s).2.2.2)
end S
def qqc : Sm := ⟨[.str, .str], [(false, .str)], fun x => cond (keqS x.2.1 (S.lit [32])) (some (strOf (S.trimR (qaa x.1)), ())) none⟩
def qtv : Sm := ⟨[.list .str, .str], [(false, .str)], fun x => cond (keqS x.2.1 (S.lit [10]) && Nat.ble (S.joinN (x.1.map qaa)).length 100000000) (some (strOf (S.joinN (x.1.map qaa)), ())) none⟩
def spz35 : Sm := ⟨[.str], [(false, .str), (false, .int .i64)], fun x => cond (S.fits x.1) (some ((S.strip x.1).1, (S.strip x.1).2, ())) none⟩
def nmz26 : Nat -> Option Nm := fun k => none
def stz26 : Nat -> Bool := fun k => false
def hdz26 := stz26
abbrev Rtz26 : Type := (List qab) × qcb × Int × Unit
def qpa : List (Nat × Sm) := [(32, qgu)]
def qle : List (Nat × Hx) := [(31, hxSel (qig 33) (hxR spz24) (hxR spz25))]
def clz26 (R : Type) (lf : Nat) : ClK R := qaj Tryz.prog ttT.get ftT.get (nm1 23 nmz26) (smL qpa) (hxL qle) lf 20 R
abbrev idz26 : Nat := 23
def qnj (lf : Nat) (x1 : ByteArray) : Option Rtz26 := (cond (iltI (Int.ofNat 20000) (Int.ofNat (ByteArray.size x1))) (some ([], (((Int.ofNat 0), (Int.ofNat 0)), ((Int.ofNat 3), ())))) (match (cond (Bool.and Bool.true (S.fits x1)) (some ((S.lines x1), ())) none) with | .none  => none | .some v0 => (match (cond (S.okL v0.1 (Int.ofNat 1)) (some (((S.readX S.wTok v0.1 (Int.ofNat 1)).1, ((S.readX S.wTok v0.1 (Int.ofNat 1)).2.1, ((S.readX S.wTok v0.1 (Int.ofNat 1)).2.2, ()))), ())) none) with | .none  => none | .some v1 => (cond (ieqI v1.1.2.2.1 (Int.ofNat 0)) (cond (iltI (Int.ofNat 6000) (Int.ofNat (List.length v1.1.1))) (some ([], (((Int.ofNat 0), (Int.ofNat 0)), ((Int.ofNat 3), ())))) (some (v1.1.1, ((v1.1.2.1.1, v1.1.2.1.2), (v1.1.2.2.1, ()))))) (some (v1.1.1, ((v1.1.2.1.1, v1.1.2.1.2), (v1.1.2.2.1, ()))))))))
abbrev gz26 : Type := ElA [.str] -> Option Rtz26
abbrev sz26 (g : gz26) : Sm := ⟨[.str], [(true, qae), (false, qbn), (false, (.int .i64))], g⟩
abbrev Ez26 (g : gz26) (J : JT Rtz26) (lf : Nat) (x1 : ByteArray) := qar Tryz.prog ttT.get nmz26 fi23.nt (clz26 _ lf) lf stz26 J fi23.body [] (argGo (argV [.str] (x1, ())) 0 .leaf) S0 [] (lastK ttT.get fi23 (sz26 g))
theorem inz26 (g : gz26) (J : JT Rtz26) (lf : Nat) (x1 : ByteArray) : Ez26 g J lf x1 = qnj lf x1 := by kernel_rfl
theorem ndz26 : (regs fi23.body).Nodup := by decide +kernel
theorem okz26 : okC nmz26 stz26 hdz26 fi23.body none = true := by kernel_rfl
def Az26 (g : gz26) (lf : Nat) : JT Rtz26 := atN Tryz.prog ttT.get nmz26 fi23 (sz26 g) (clz26 _ lf) lf hdz26
def Fz26 (lf : Nat) (x1 : ByteArray) : Option Rtz26 := qnj lf x1
theorem runz26 (g : gz26) (lf : Nat) (x1 : ByteArray) : Ez26 g (Az26 g lf) lf x1 = Fz26 lf x1 := by
   refine (inz26 g (Az26 g lf) lf x1).trans ?_
   rfl
theorem hxsz26 : HxsOK Tryz.prog qle := ⟨qno (qdd qxq) (qdd qrq), trivial⟩
theorem mkz26 {g : gz26} (hsm : SmOK Tryz.prog qpa) (hg : ∀ (x : ElA [.str]) (y : Rtz26), WfA [.str] x -> g x = some y -> ∃ lf, Fz26 lf x.1 = some y) : Con Tryz.prog 23 ⟨[.str], [(true, qae), (false, qbn), (false, (.int .i64))], g⟩ :=
 conT (nmf := nmz26) (sml := qpa) (hxl := qle) (st := stz26) (hd := hdz26) 20 mixed ttOK ftOK hsm hxsz26 cal23 rfl rfl (by kernel_rfl) (fun x => by kernel_rfl) ndz26 okz26 fun x y hx hy => by
   obtain ⟨lf, h⟩ := hg x y hx hy
   exact ⟨lf, (runz26 g lf x.1).trans h⟩
def nmz27 : Nat -> Option Nm := fun k => none
def stz27 : Nat -> Bool := fun k => false
def hdz27 := stz27
abbrev Rtz27 : Type := (List qab) × Int × Unit
def qm2 : List (Nat × Sm) := [(32, qgu), (23, spz26)]
def qp7 : List (Nat × Hx) := [(31, hxSel (qig 33) (hxR spz24) (hxR spz25))]
def clz27 (R : Type) (lf : Nat) : ClK R := qaj Tryz.prog ttT.get ftT.get (nm1 47 nmz27) (smL qm2) (hxL qp7) lf 20 R
abbrev idz27 : Nat := 47
def qlo (lf : Nat) (x1 : ByteArray) : Option Rtz27 := (match (cond (S.fits x1) (some ((S.tokens x1).1, ((S.tokens x1).2.2.1, ((S.tokens x1).2.2.2, ())))) none) with | .none  => none | .some v0 => (cond (Bool.not (ieqI v0.2.2.1 (Int.ofNat 0))) (some ([], (v0.2.2.1, ()))) (match (cond (Bool.and Bool.true (S.fits x1)) (some ((S.lines x1), ())) none) with | .none  => none | .some v1 => (match (cond (S.okL v1.1 (Int.ofNat 1)) (some (((S.readX S.wNote v1.1 (Int.ofNat 1)).1, ((S.readX S.wNote v1.1 (Int.ofNat 1)).2.1, ((S.readX S.wNote v1.1 (Int.ofNat 1)).2.2, ()))), ())) none) with | .none  => none | .some v2 => (some (v2.1.1, ((Int.ofNat 0), ())))))))
abbrev gz27 : Type := ElA [.str] -> Option Rtz27
abbrev sz27 (g : gz27) : Sm := ⟨[.str], [(true, qae), (false, (.int .i64))], g⟩
abbrev Ez27 (g : gz27) (J : JT Rtz27) (lf : Nat) (x1 : ByteArray) := qar Tryz.prog ttT.get nmz27 fi47.nt (clz27 _ lf) lf stz27 J fi47.body [] (argGo (argV [.str] (x1, ())) 0 .leaf) S0 [] (lastK ttT.get fi47 (sz27 g))
theorem inz27 (g : gz27) (J : JT Rtz27) (lf : Nat) (x1 : ByteArray) : Ez27 g J lf x1 = qlo lf x1 := by kernel_rfl
theorem ndz27 : (regs fi47.body).Nodup := by decide +kernel
theorem okz27 : okC nmz27 stz27 hdz27 fi47.body none = true := by kernel_rfl
def Az27 (g : gz27) (lf : Nat) : JT Rtz27 := atN Tryz.prog ttT.get nmz27 fi47 (sz27 g) (clz27 _ lf) lf hdz27
def Fz27 (lf : Nat) (x1 : ByteArray) : Option Rtz27 := qlo lf x1
theorem runz27 (g : gz27) (lf : Nat) (x1 : ByteArray) : Ez27 g (Az27 g lf) lf x1 = Fz27 lf x1 := by
   refine (inz27 g (Az27 g lf) lf x1).trans ?_
   rfl
theorem hxsz27 : HxsOK Tryz.prog qp7 := ⟨qno (qdd qxq) (qdd qrq), trivial⟩
theorem mkz27 {g : gz27} (hsm : SmOK Tryz.prog qm2) (hg : ∀ (x : ElA [.str]) (y : Rtz27), WfA [.str] x -> g x = some y -> ∃ lf, Fz27 lf x.1 = some y) : Con Tryz.prog 47 ⟨[.str], [(true, qae), (false, (.int .i64))], g⟩ :=
 conT (nmf := nmz27) (sml := qm2) (hxl := qp7) (st := stz27) (hd := hdz27) 20 mixed ttOK ftOK hsm hxsz27 cal47 rfl rfl (by kernel_rfl) (fun x => by kernel_rfl) ndz27 okz27 fun x y hx hy => by
   obtain ⟨lf, h⟩ := hg x y hx hy
   exact ⟨lf, (runz27 g lf x.1).trans h⟩
def nmz28 : Nat -> Option Nm := fun k => cond (Nat.beq k 4) (some ⟨[0, 1, 5], [], [], [], [], 0, 0, false⟩) (none)
def stz28 : Nat -> Bool := fun k => cond (Nat.beq k 4) true (false)
def hdz28 := stz28
abbrev Rtz28 : Type := Bool × Unit
def ql7 : List (Nat × Sm) := []
def qn0 : List (Nat × Hx) := []
def clz28 (R : Type) (lf : Nat) : ClK R := qaj Tryz.prog ttT.get ftT.get (nm1 53 nmz28) (smL ql7) (hxL qn0) lf 20 R
abbrev idz28 : Nat := 53
def qfe (x1 : (List qab)) (x2 : (List qab)) (p : Int) : NRes := (NRes.mk (.node (some (IV.lst qae x1)) (.node (some (IV.lst qae x2)) .leaf (.node (some (IV.int .i64 p)) .leaf .leaf)) .leaf) (IS.mk .leaf 0) [] 0)
def qmq (lf : Nat) (x1 : (List qab)) (x2 : (List qab)) (L4 : Int -> Option Rtz28) : Option Rtz28 := (cond (Bool.not (ieqI (Int.ofNat (List.length x1)) (Int.ofNat (List.length x2)))) (some (Bool.false, ())) (L4 (Int.ofNat 0)))
def qjz (lf : Nat) (x1 : (List qab)) (x2 : (List qab)) (L4 : Int -> Option Rtz28) (p : Int) : Option Rtz28 := (cond (iltI p (Int.ofNat (List.length x1))) (match (jget x1 p) with | .none  => none | .some v0 => (match (jget x2 p) with | .none  => none | .some v1 => (cond (Bool.not (ieqI v0.1 v1.1)) (some (Bool.false, ())) (match (jget x1 p) with | .none  => none | .some v2 => (match (jget x2 p) with | .none  => none | .some v3 => (cond (Bool.not (keqS v2.2.1 v3.2.1)) (some (Bool.false, ())) (L4 (IntKind.i64.wrap (Int.add p (Int.ofNat 1)))))))))) (some (Bool.true, ())))
abbrev gz28 : Type := ElA [(.list qae), (.list qae)] -> Option Rtz28
abbrev sz28 (g : gz28) : Sm := ⟨[(.list qae), (.list qae)], [(false, .bool)], g⟩
abbrev Ez28 (g : gz28) (J : JT Rtz28) (lf : Nat) (x1 : (List qab)) (x2 : (List qab)) := qar Tryz.prog ttT.get nmz28 fi53.nt (clz28 _ lf) lf stz28 J fi53.body [] (argGo (argV [(.list qae), (.list qae)] (x1, x2, ())) 0 .leaf) S0 [] (lastK ttT.get fi53 (sz28 g))
abbrev Bz28 (g : gz28) (J : JT Rtz28) (lf k : Nat) (ms : List Nat) (q : NRes) := qbb Tryz.prog ttT.get nmz28 fi53.nt (clz28 _ lf) lf stz28 J k fi53.body [] ms q (lastK ttT.get fi53 (sz28 g))
theorem inz28 (g : gz28) (J : JT Rtz28) (lf : Nat) (x1 : (List qab)) (x2 : (List qab)) : Ez28 g J lf x1 x2 = qmq lf x1 x2 (fun q => J 4 [lf] (qfe x1 x2 q)) := by kernel_rfl
theorem stz28_4 (g : gz28) (J : JT Rtz28) (lf : Nat) (x1 : (List qab)) (x2 : (List qab)) (m1 : Nat) (p : Int) : Bz28 g J lf 4 [m1] (qfe x1 x2 p) = qjz lf x1 x2 (fun q => J 4 [m1] (qfe x1 x2 q)) p := by kernel_rfl
theorem ndz28 : (regs fi53.body).Nodup := by decide +kernel
theorem okz28 : okC nmz28 stz28 hdz28 fi53.body none = true := by kernel_rfl
def Az28 (g : gz28) (lf : Nat) : JT Rtz28 := atN Tryz.prog ttT.get nmz28 fi53 (sz28 g) (clz28 _ lf) lf hdz28
def qin (lf : Nat) (x1 : (List qab)) (x2 : (List qab)) : Nat -> (Int) -> Option Rtz28 := rounds fun K p => qjz lf x1 x2 K p
theorem qs9 (g : gz28) (lf : Nat) (x1 : (List qab)) (x2 : (List qab)) : ∀ (n : Nat) (p : Int), Az28 g lf 4 [n] (qfe x1 x2 p) = qin lf x1 x2 n p
 | 0, p => qa5 4 [0] rfl _
 | n + 1, p => by
   have ih := qs9 g lf x1 x2 n
   refine (qaz (qal 20 _) ndz28 okz28 4 [n + 1] [n] rfl _).trans ((stz28_4 g (Az28 g lf) lf x1 x2 n p).trans ?_)
   rw [(show (fun q => Az28 g lf 4 [n] (qfe x1 x2 q)) = (fun q => qin lf x1 x2 n q) from funext ih)]
   rfl
def Fz28 (lf : Nat) (x1 : (List qab)) (x2 : (List qab)) : Option Rtz28 := qmq lf x1 x2 (fun q => qin lf x1 x2 lf q)
theorem runz28 (g : gz28) (lf : Nat) (x1 : (List qab)) (x2 : (List qab)) : Ez28 g (Az28 g lf) lf x1 x2 = Fz28 lf x1 x2 := by
   refine (inz28 g (Az28 g lf) lf x1 x2).trans ?_
   rw [(show (fun q => Az28 g lf 4 [lf] (qfe x1 x2 q)) = (fun q => qin lf x1 x2 lf q) from funext fun q => qs9 g lf x1 x2 lf q)]
   rfl
theorem hxsz28 : HxsOK Tryz.prog qn0 := trivial
theorem mkz28 {g : gz28} (hsm : SmOK Tryz.prog ql7) (hg : ∀ (x : ElA [(.list qae), (.list qae)]) (y : Rtz28), WfA [(.list qae), (.list qae)] x -> g x = some y -> ∃ lf, Fz28 lf x.1 x.2.1 = some y) : Con Tryz.prog 53 ⟨[(.list qae), (.list qae)], [(false, .bool)], g⟩ :=
 conT (nmf := nmz28) (sml := ql7) (hxl := qn0) (st := stz28) (hd := hdz28) 20 mixed ttOK ftOK hsm hxsz28 cal53 rfl rfl (by kernel_rfl) (fun x => by kernel_rfl) ndz28 okz28 fun x y hx hy => by
   obtain ⟨lf, h⟩ := hg x y hx hy
   exact ⟨lf, (runz28 g lf x.1 x.2.1).trans h⟩
theorem qxr {s : ByteArray} (h : S.fits s = true) : S.okL (S.lines s) 1 = true := by
 have hs := qb2 h
 unfold S.okL
 simp only [Bool.and_eq_true, decide_eq_true_iff, List.all_eq_true, Bool.not_eq_true', decide_eq_false_iff_not]
 refine ⟨Nat.ble_eq_true_of_le ?_, fun t ht => ⟨Nat.ble_eq_true_of_le (Nat.le_trans (qfw ht) hs), fun b hb => ?_⟩, by decide, by decide⟩
 · unfold S.lines
   rw [List.length_map, qep]
   have := List.count_le_length (a := (10 : Int)) (l := qaa s)
   rw [qaf] at this
   omega
 · have : qaa t ∈ S.splitL (qaa s) := by rw [<- qhf]; exact List.mem_map.2 ⟨t, ht, rfl⟩
   exact (qes _ _ b this hb).2
theorem qxt (w : Int -> Bool) (s : ByteArray) : S.readX w (S.lines s) 1 = ((S.readL (S.splitL (qaa s)) 1).1.filter (fun t => w t.1), (S.readL (S.splitL (qaa s)) 1).2) := by
 unfold S.readX
 rw [qhf]
theorem qv9 {s : ByteArray} (h : (S.readL (S.splitL (qaa s)) 1).2.2 = 0) : S.readG s = ((S.readL (S.splitL (qaa s)) 1).1.filter S.isTok, (S.readL (S.splitL (qaa s)) 1).1.filter S.isNote, (0, 0), 0) := by
 unfold S.readG S.lexed
 rw [if_pos h]
theorem q1o {s : ByteArray} (h : ¬ (S.readL (S.splitL (qaa s)) 1).2.2 = 0) : S.readG s = ([], [], (S.readL (S.splitL (qaa s)) 1).2.1, (S.readL (S.splitL (qaa s)) 1).2.2) := by
 unfold S.readG S.lexed
 rw [if_neg h]
theorem qx3 {s : ByteArray} (h : 20000 < s.size) : S.tokens s = ([], [], (0, 0), 3) := by
 unfold S.tokens
 rw [if_pos h]
theorem q2u {s : ByteArray} (h : ¬ 20000 < s.size) (h1 : (S.readG s).2.2.2 = 0) (h2 : 6000 < (S.readG s).1.length) : S.tokens s = ([], [], (0, 0), 3) := by
 unfold S.tokens
 rw [if_neg h, if_pos ⟨h1, h2⟩]
theorem qwi {s : ByteArray} (h : ¬ 20000 < s.size) (h1 : ¬ ((S.readG s).2.2.2 = 0 /\ 6000 < (S.readG s).1.length)) : S.tokens s = S.readG s := by
 unfold S.tokens
 rw [if_neg h, if_neg h1]
theorem Fz26_eq (lf : Nat) (s : ByteArray) (hs : S.fits s = true) : Fz26 lf s = some ((S.tokens s).1, (S.tokens s).2.2.1, (S.tokens s).2.2.2, ()) := by
 have ho := qxr hs
 have e1 : Int.ofNat 1 = (1 : Int) := rfl
 have hf : (fun t : qab => S.wTok t.1) = S.isTok := rfl
 simp only [Fz26, qnj, qbf, hs, Bool.and_true, cond_true, e1, ho, qxt, hf]
 by_cases c : 20000 < s.size
 · rw [decide_eq_true c, cond_true, qx3 c]; rfl
 · rw [decide_eq_false c, cond_false]
   by_cases h0 : (S.readL (S.splitL (qaa s)) 1).2.2 = 0
   · have hg := qv9 h0
     rw [ieq_t (show (S.readL (S.splitL (qaa s)) 1).2.2 = Int.ofNat 0 from h0), cond_true]
     by_cases h6 : 6000 < ((S.readL (S.splitL (qaa s)) 1).1.filter S.isTok).length
     · rw [decide_eq_true h6, cond_true, q2u c (by rw [hg]) (by rw [hg]; exact h6)]; rfl
     · rw [decide_eq_false h6, cond_false, qwi c (by rw [hg]; exact fun h => h6 h.2), hg, qpk _ _ h0, h0]
   · have hg := q1o h0
     rw [ieq_f (show ¬ (S.readL (S.splitL (qaa s)) 1).2.2 = Int.ofNat 0 from h0), cond_false, qwi c (by rw [hg]; exact fun h => h0 h.1), hg, qka _ _ h0]
     rfl
theorem qxa : Con Tryz.prog idz26 spz26 := mkz26 ⟨qnn, trivial⟩ fun x y hx h => ⟨0, by
 obtain ⟨h1, h2⟩ := qa2 (show cond (S.fits x.1) (some ((S.tokens x.1).1, (S.tokens x.1).2.2.1, (S.tokens x.1).2.2.2, ())) none = some y from h)
 exact (Fz26_eq 0 x.1 h1).trans (congrArg some h2)⟩
theorem q3s {s : ByteArray} (h : ¬ (S.tokens s).2.2.2 = 0) : (S.tokens s).1 = [] /\ (S.tokens s).2.1 = [] := by
 unfold S.tokens at h ⊢
 split
 · exact ⟨rfl, rfl⟩
 · rename_i c
   rw [if_neg c] at h
   split
   · exact ⟨rfl, rfl⟩
   · rename_i c2
     rw [if_neg c2] at h
     unfold S.readG S.lexed at h ⊢
     split
     · rename_i c3
       rw [if_pos c3] at h
       exact absurd rfl h
     · exact ⟨rfl, rfl⟩
theorem qp5 {s : ByteArray} (h : (S.tokens s).2.2.2 = 0) : S.tokens s = S.readG s /\ (S.readL (S.splitL (qaa s)) 1).2.2 = 0 := by
 unfold S.tokens at h ⊢
 split
 · rename_i c
   rw [if_pos c] at h
   exact absurd (show (3 : Int) = 0 from h) (by decide)
 · rename_i c
   rw [if_neg c] at h
   split
   · rename_i c2
     rw [if_pos c2] at h
     exact absurd (show (3 : Int) = 0 from h) (by decide)
   · rename_i c2
     rw [if_neg c2] at h
     refine ⟨rfl, ?_⟩
     unfold S.readG S.lexed at h
     split at h
     · rename_i h3; exact h3
     · exact h
theorem Fz27_eq (lf : Nat) (s : ByteArray) (hs : S.fits s = true) : Fz27 lf s = some ((S.tokens s).2.1, (S.tokens s).2.2.2, ()) := by
 have ho := qxr hs
 have e1 : Int.ofNat 1 = (1 : Int) := rfl
 simp only [Fz27, qlo, hs, Bool.and_true, cond_true, e1, ho, qxt]
 by_cases h0 : (S.tokens s).2.2.2 = 0
 · rw [ieq_t (show (S.tokens s).2.2.2 = Int.ofNat 0 from h0), Bool.not_true, cond_false]
   obtain ⟨a1, a2⟩ := qp5 h0
   rw [a1] at h0 ⊢
   have hf : (fun t : qab => S.wNote t.1) = S.isNote := rfl
   rw [hf, h0]
   unfold S.readG S.lexed
   rw [if_pos a2]; rfl
 · rw [ieq_f (show ¬ (S.tokens s).2.2.2 = Int.ofNat 0 from h0), Bool.not_false, cond_true, (q3s h0).2]
theorem conz27 : Con Tryz.prog idz27 spz27 := mkz27 ⟨qnn, qxa, trivial⟩ fun x y hx h => ⟨0, by
 obtain ⟨h1, h2⟩ := qa2 (show cond (S.fits x.1) (some ((S.tokens x.1).2.1, (S.tokens x.1).2.2.2, ())) none = some y from h)
 exact (Fz27_eq 0 x.1 h1).trans (congrArg some h2)⟩
theorem qwa {α : Type} {a b : List α} {i : Nat} {v w : α} (ha : a[i]? = some v) (hb : b[i]? = some w) (h : a.take i = b.take i) : (a.take (i + 1) = b.take (i + 1)) ↔ v = w := by
 rw [List.take_add_one, List.take_add_one, ha, hb, h]
 simp
theorem Fz28_eq (a b : List qab) (ha : a.length < LF) : Fz28 LF a b = some (S.sameK a b, ()) := by
 simp only [Fz28, qmq, qgg]
 have kl : ∀ l : List qab, (S.kinds l).length = l.length := fun l => List.length_map _
 by_cases hl : a.length = b.length
 · rw [decide_eq_true hl, Bool.not_true, cond_false]
   refine range0 (σ := Unit) (R := Rtz28) a (fun i _ => i) (fun i _ => (S.kinds a).take i = (S.kinds b).take i) (fun _ _ _ => some (S.sameK a b, ())) ha (fun K q hq => ?_) (fun K i v rest q hq r h => ?_) () rfl
   · simp only [qjz, qa4, cond_false]
     have : S.kinds a = S.kinds b := by
       rw [<- kl a, List.take_length, kl a, hl, <- kl b, List.take_length] at hq; exact hq
     show some (true, ()) = some (decide (S.kinds a = S.kinds b), ())
     rw [decide_eq_true this]
   · obtain ⟨w, hw⟩ : ∃ w, b[i]? = some w := ⟨_, List.getElem?_eq_getElem (by have := r.lt; omega)⟩
     have hj : jget b (Int.ofNat i) = some w := qa8.trans hw
     simp only [qjz, r.ilt, r.get, hj, r.next, cond_true]
     have ha' : (S.kinds a)[i]? = some (v.1, v.2.1) := by unfold S.kinds; rw [List.getElem?_map, r.get?]; rfl
     have hb' : (S.kinds b)[i]? = some (w.1, w.2.1) := by unfold S.kinds; rw [List.getElem?_map, hw]; rfl
     have hts := qwa (a := S.kinds a) (b := S.kinds b) ha' hb' hq
     have no : ¬ (v.1, v.2.1) = (w.1, w.2.1) -> some (false, ()) = some (S.sameK a b, ()) := fun e => by
       have : ¬ S.kinds a = S.kinds b := fun e2 => e (hts.1 (by rw [e2]))
       show some (false, ()) = some (decide (S.kinds a = S.kinds b), ())
       rw [decide_eq_false this]
     by_cases e1 : v.1 = w.1
     · rw [ieq_t e1, Bool.not_true, cond_false]
       by_cases e2 : v.2.1 = w.2.1
       · rw [show keqS v.2.1 w.2.1 = true from decide_eq_true e2, Bool.not_true, cond_false]
         exact h () (hts.2 (by rw [e1, e2]))
       · rw [show keqS v.2.1 w.2.1 = false from decide_eq_false e2, Bool.not_false, cond_true]
         exact no fun e => e2 (Prod.mk.inj e).2
     · rw [ieq_f e1, Bool.not_false, cond_true]
       exact no fun e => e1 (Prod.mk.inj e).1
 · rw [decide_eq_false hl, Bool.not_false, cond_true]
   have : ¬ S.kinds a = S.kinds b := fun e => hl (by rw [<- kl a, e, kl b])
   show some (false, ()) = some (decide (S.kinds a = S.kinds b), ())
   rw [decide_eq_false this]
theorem qul {l : List qab} (h : l.length * 40 <= 140737488355328) : l.length < LF := by unfold LF; omega
theorem conz28 : Con Tryz.prog idz28 spz28 := mkz28 trivial fun x y hx h => ⟨LF, (Fz28_eq x.1 x.2.1 (qul hx.1.1)).trans h⟩
def nmz29 : Nat -> Option Nm := fun k => cond (Nat.beq k 4) (some ⟨[1, 2, 15, 16, 17], [], [], [], [], 0, 0, false⟩) (cond (Nat.beq k 999999) (some ⟨[], [], [], [], [], 0, 0, false⟩) none)
def stz29 : Nat -> Bool := fun k => cond (Nat.beq k 4) true (false)
def hdz29 := stz29
abbrev Rtz29 : Type := (Bool × Unit) × Unit
def qob : List (Nat × Sm) := []
def qpf : List (Nat × Hx) := []
def clz29 (R : Type) (lf : Nat) : ClK R := qaj Tryz.prog ttT.get ftT.get (fun _ _ => none) (smL qob) (hxL qpf) lf 20 R
abbrev idz29 : Nat := 51
def qfu (x1 : (List qab)) (x2 : (List qab)) (p : Int) : NRes := (NRes.mk (.node none (.node (some (IV.lst qae x2)) (.node none (.node none (.node (some (IV.lst qae x1)) .leaf .leaf) .leaf) .leaf) (.node none (.node none (.node (some (IV.int .i64 p)) .leaf .leaf) .leaf) .leaf)) (.node (some (IV.fn 52 [])) (.node none (.node none (.node (some (IV.int .i64 (Int.ofNat (List.length x1)))) .leaf .leaf) .leaf) .leaf) .leaf)) (IS.mk .leaf 0) [] 0)
def qos (lf : Nat) (x1 : (List qab)) (x2 : (List qab)) (L4 : Int -> Option Rtz29) : Option Rtz29 := (cond (Bool.not (ieqI (Int.ofNat (List.length x1)) (Int.ofNat (List.length x2)))) (some ((Bool.false, ()), ())) (L4 (Int.ofNat 0)))
def qjw (lf : Nat) (x1 : (List qab)) (x2 : (List qab)) (L4 : Int -> Option Rtz29) (p : Int) : Option Rtz29 := (cond (iltI p (Int.ofNat (List.length x1))) (match (jget x1 p) with | .none  => none | .some v0 => (match (jget x2 p) with | .none  => none | .some v1 => (cond (ieqI v0.1 v1.1) (cond (Bool.not (keqS v0.2.1 v1.2.1)) (some ((Bool.false, ()), ())) (L4 (IntKind.i64.wrap (Int.add p (Int.ofNat 1))))) (some ((Bool.false, ()), ()))))) (some ((Bool.true, ()), ())))
abbrev gz29 : Type := ElP [.dat (.list qae), .dat (.list qae), .fn 52] -> Option Rtz29
abbrev sz29 (g : gz29) : SmR := ⟨[.dat (.list qae), .dat (.list qae), .fn 52], [(false, .bool)], g⟩
abbrev Ez29 (g : gz29) (J : JT Rtz29) (lf : Nat) (x1 : (List qab)) (x2 : (List qab)) := qax Tryz.prog ttT.get nmz29 (mP [.dat (.list qae), .dat (.list qae), .fn 52]) fi51.nt (clz29 _ lf) lf stz29 J fi51.body [] (argGo (argsP [.dat (.list qae), .dat (.list qae), .fn 52] idN 0 (x1, x2, ())) 0 .leaf) (Sc [.dat (.list qae), .dat (.list qae), .fn 52] (x1, x2, ())) [] (lastQ ttT.get fi51 (sz29 g))
abbrev Bz29 (g : gz29) (J : JT Rtz29) (lf k : Nat) (ms : List Nat) (q : NRes) := qa1 Tryz.prog ttT.get nmz29 (mP [.dat (.list qae), .dat (.list qae), .fn 52]) fi51.nt (clz29 _ lf) lf stz29 J k fi51.body [] ms q (lastQ ttT.get fi51 (sz29 g))
theorem inz29 (g : gz29) (J : JT Rtz29) (lf : Nat) (x1 : (List qab)) (x2 : (List qab)) : Ez29 g J lf x1 x2 = qos lf x1 x2 (fun q => J 4 [lf] (qfu x1 x2 q)) := by kernel_rfl
theorem stz29_4 (g : gz29) (J : JT Rtz29) (lf : Nat) (x1 : (List qab)) (x2 : (List qab)) (m1 : Nat) (p : Int) : Bz29 g J lf 4 [m1] (qfu x1 x2 p) = qjw lf x1 x2 (fun q => J 4 [m1] (qfu x1 x2 q)) p := by kernel_rfl
theorem ndz29 : (regs fi51.body).Nodup := by decide +kernel
theorem okz29 : okC nmz29 stz29 hdz29 fi51.body none = true := by kernel_rfl
def Az29 (g : gz29) (lf : Nat) : JT Rtz29 := atQ Tryz.prog ttT.get nmz29 fi51 (sz29 g) (clz29 _ lf) lf hdz29
def qh2 (lf : Nat) (x1 : (List qab)) (x2 : (List qab)) : Nat -> (Int) -> Option Rtz29 := rounds fun K p => qjw lf x1 x2 K p
theorem qtb (g : gz29) (lf : Nat) (x1 : (List qab)) (x2 : (List qab)) : ∀ (n : Nat) (p : Int), Az29 g lf 4 [n] (qfu x1 x2 p) = qh2 lf x1 x2 n p
 | 0, p => qe6 4 [0] rfl _
 | n + 1, p => by
   have ih := qtb g lf x1 x2 n
   refine (qeq rfl (qal 20 _) ndz29 okz29 4 [n + 1] [n] rfl _).trans ((stz29_4 g (Az29 g lf) lf x1 x2 n p).trans ?_)
   rw [(show (fun q => Az29 g lf 4 [n] (qfu x1 x2 q)) = (fun q => qh2 lf x1 x2 n q) from funext ih)]
   rfl
def Fz29 (lf : Nat) (x1 : (List qab)) (x2 : (List qab)) : Option Rtz29 := qos lf x1 x2 (fun q => qh2 lf x1 x2 lf q)
theorem runz29 (g : gz29) (lf : Nat) (x1 : (List qab)) (x2 : (List qab)) : Ez29 g (Az29 g lf) lf x1 x2 = Fz29 lf x1 x2 := by
   refine (inz29 g (Az29 g lf) lf x1 x2).trans ?_
   rw [(show (fun q => Az29 g lf 4 [lf] (qfu x1 x2 q)) = (fun q => qh2 lf x1 x2 lf q) from funext fun q => qtb g lf x1 x2 lf q)]
   rfl
theorem hxsz29 : HxsOK Tryz.prog qpf := trivial
theorem mkz29 {g : gz29} (hsm : SmOK Tryz.prog qob) (hg : ∀ (x : ElP [.dat (.list qae), .dat (.list qae), .fn 52]) (y : Rtz29), WfP [.dat (.list qae), .dat (.list qae), .fn 52] x -> g x = some y -> ∃ lf, Fz29 lf x.1 x.2.1 = some y) : ConR Tryz.prog 51 ⟨[.dat (.list qae), .dat (.list qae), .fn 52], [(false, .bool)], g⟩ :=
 conTR (nmf := nmz29) (sml := qob) (hxl := qpf) (st := stz29) (hd := hdz29) 20 mixed ttOK ftOK hsm hxsz29 cal51 (by kernel_rfl) (fun x => by kernel_rfl) ndz29 okz29 fun x y z hx hy => by
   obtain ⟨lf, h⟩ := hg x (y, z) hx hy
   exact ⟨lf, (runz29 g lf x.1 x.2.1).trans h⟩
theorem qs6 (b : Int) (t : List Int) : S.runL (b :: t) = if S.isPart b = true then S.runL t + 1 else 0 := by
 unfold S.runL
 rw [List.takeWhile_cons]
 split <;> simp
theorem qof : ∀ (n : Nat) (r r' : List Int), r'.take n = r.take n -> n <= r'.length -> (r'.length = n \/ r'.take (n + 1) = r.take (n + 1)) -> S.runL r = n -> S.runL r' = n
 | 0, r, r', _, _, h3, h => by
   rcases h3 with h3 | h3
   · rw [List.length_eq_zero_iff.1 h3]; rfl
   · cases r' with
     | nil => rfl
     | cons b t' =>
       cases r with
       | nil => simp at h3
       | cons b2 t =>
         obtain rfl : b = b2 := by simpa using h3
         rw [qs6] at h ⊢
         split at h
         · omega
         · rename_i hb; rw [if_neg hb]
 | n + 1, r, r', h1, h2, h3, h => by
   cases r with
   | nil => simp [S.runL] at h
   | cons b t =>
     cases r' with
     | nil => simp at h2
     | cons b2 t' =>
       rw [List.take_succ_cons, List.take_succ_cons] at h1
       injection h1 with e1 e2
       subst e1
       rw [qs6] at h ⊢
       split at h
       · rename_i hb
         rw [if_pos hb, qof n t t' e2 (by simpa using h2) (by simpa using h3) (by omega)]
       · omega
theorem qyn {r r' : List Int} (p1 : ∀ y ∈ S.signs, qaa y <+: r' -> qaa y <+: r) (p2 : qaa (S.signL r) <+: r') (hs : ¬ (S.signL r).size = 0) : S.signL r' = S.signL r := by
 unfold S.signL at p2 hs ⊢
 cases h : S.signs.find? (fun x => (qaa x).isPrefixOf r) with
 | none => rw [h] at hs; exact absurd rfl hs
 | some x =>
   rw [h] at p2
   have h' : S.signs.find? (fun x => (qaa x).isPrefixOf r') = some x := by
     rw [List.find?_eq_some_iff_append] at h ⊢
     obtain ⟨h1, l1, l2, h2, h3⟩ := h
     refine ⟨List.isPrefixOf_iff_prefix.2 p2, l1, l2, h2, fun a ha => ?_⟩
     have h4 := h3 a ha
     rw [Bool.not_eq_true'] at h4 ⊢
     rw [Bool.eq_false_iff] at h4 ⊢
     intro h5
     exact h4 (List.isPrefixOf_iff_prefix.2 (p1 a (by rw [h2]; exact List.mem_append_left _ ha) (List.isPrefixOf_iff_prefix.1 h5)))
   rw [h']
theorem q0v {r r' : List Int} {n : Nat} {k : Int} (h : S.tok r = (n, k, 0, 0)) (hk : ¬ k = 6) (hn : 0 < n) (h1 : r'.take n = r.take n) (h2 : n <= r'.length) (h3 : r'.length = n \/ r'.take (n + 1) = r.take (n + 1)) : S.tok r' = (n, k, 0, 0) := by
 have back : ∀ y : List Int, y.length <= n + 1 -> y <+: r' -> y <+: r := by
   intro y hy hp
   rcases h3 with h3 | h3
   · have e : r' = r.take n := by rw [<- h1, <- h3, List.take_length]
     rw [e] at hp
     exact hp.trans (List.take_prefix n r)
   · have : y <+: r'.take (n + 1) := List.prefix_take_iff.2 ⟨hp, hy⟩
     rw [h3] at this
     exact this.trans (List.take_prefix _ r)
 have fwd : ∀ y : List Int, y.length <= n -> y <+: r -> y <+: r' := by
   intro y hy hp
   have : y <+: r.take n := List.prefix_take_iff.2 ⟨hp, hy⟩
   rw [<- h1] at this
   exact this.trans (List.take_prefix _ r')
 unfold S.tok at h ⊢
 have a1 : ¬ [45, 45].isPrefixOf r = true := by
   intro e
   rw [if_pos e] at h
   cases hc : (S.noteGo (r.drop 2) 2).1 with
   | true => rw [hc, cond_true] at h; exact hk (congrArg (fun x => x.2.1) h).symm
   | false => rw [hc, cond_false] at h; exact absurd (congrArg (fun x => x.2.2.1) h) (show ¬ (2 : Int) = 0 by decide)
 have a2 : ¬ [45, 45].isPrefixOf r' = true := fun e => a1 (List.isPrefixOf_iff_prefix.2 (back _ (by simp only [List.length_cons, List.length_nil]; omega) (List.isPrefixOf_iff_prefix.1 e)))
 rw [if_neg a1] at h
 rw [if_neg a2]
 by_cases b : 0 < S.runL r
 · rw [if_pos b] at h
   obtain rfl : S.runL r = n := congrArg (fun x => x.1) h
   have e := qof _ r r' h1 h2 h3 rfl
   rw [e, if_pos b, h1]
   exact h
 · rw [if_neg b] at h
   have e : S.runL r' = 0 := qof 0 r r' rfl (Nat.zero_le _) (.inr (by
     have := congrArg (List.take 1) h1
     rwa [List.take_take, List.take_take, show min 1 n = 1 by omega] at this)) (by omega)
   rw [e, if_neg (by omega)]
   by_cases c : (S.signL r).size = 0
   · rw [if_pos c] at h
     exact absurd (congrArg (fun x => x.2.2.1) h) (show ¬ (2 : Int) = 0 by decide)
   · rw [if_neg c] at h
     have hsz : (S.signL r).size = n := congrArg (fun x => x.1) h
     have hp : qaa (S.signL r) <+: r := by
       rcases qc7 r with e | ⟨_, e, _⟩
       · rw [e] at c; exact absurd rfl c
       · rw [e]; exact List.take_prefix _ _
     have es := qyn (r := r) (r' := r') (fun y hy hp => back _ (by rw [qaf]; have := (qhu hy).2; omega) hp) (fwd _ (by rw [qaf]; omega) hp) c
     rw [es, if_neg c]
     exact h
theorem qmz : ∀ (n f g : Nat) (r : List Int) (c : Nat), r.length <= n -> r.length < f -> r.length < g -> S.pcs f r c = S.pcs g r c
 | _, 0, _, _, _, _, h, _ => by omega
 | _, _, 0, _, _, _, _, h => by omega
 | n, f + 1, g + 1, [], c, _, _, _ => rfl
 | 0, f + 1, g + 1, b :: r, c, h, _, _ => by simp at h
 | n + 1, f + 1, g + 1, b :: r, c, h, hf, hg => by
   simp only [List.length_cons] at h hf hg
   have hp : ∀ f, S.pcs (f + 1) (b :: r) c = if b = 32 then S.pcs f r (c + 1) else if (S.tok (b :: r)).2.2.1 = 0 then (((S.tok (b :: r)).2.1, strOf ((b :: r).take (S.tok (b :: r)).1), c) :: (S.pcs f ((b :: r).drop (S.tok (b :: r)).1) (c + (S.tok (b :: r)).1)).1, (S.pcs f ((b :: r).drop (S.tok (b :: r)).1) (c + (S.tok (b :: r)).1)).2) else ([], some (c + (S.tok (b :: r)).2.2.2, (S.tok (b :: r)).2.2.1)) := fun _ => rfl
   rw [hp, hp]
   by_cases h32 : b = 32
   · rw [if_pos h32, if_pos h32, qmz n f g r (c + 1) (by omega) (by omega) (by omega)]
   · rw [if_neg h32, if_neg h32]
     by_cases h0 : (S.tok (b :: r)).2.2.1 = 0
     · obtain ⟨t1, t2⟩ := qja h0 (by simp)
       rw [List.length_cons] at t2
       rw [if_pos h0, if_pos h0, qmz n f g ((b :: r).drop (S.tok (b :: r)).1) _ (by rw [List.length_drop, List.length_cons]; omega) (by rw [List.length_drop, List.length_cons]; omega) (by rw [List.length_drop, List.length_cons]; omega)]
     · rw [if_neg h0, if_neg h0]
theorem pcs_tok {r : List Int} {n : Nat} {k : Int} (f c : Nat) (h : S.tok r = (n, k, 0, 0)) (hr : ¬ r[0]? = some 32) (h0 : r ≠ []) : S.pcs (f + 1) r c = ((k, strOf (r.take n), c) :: (S.pcs f (r.drop n) (c + n)).1, (S.pcs f (r.drop n) (c + n)).2) := by
 cases r with
 | nil => exact absurd rfl h0
 | cons b t =>
   have hb : ¬ b = 32 := fun e => hr (by rw [e]; rfl)
   show (if b = 32 then _ else if (S.tok (b :: t)).2.2.1 = 0 then _ else _) = _
   rw [if_neg hb, h, if_pos rfl]
theorem q2k (f c : Nat) (r : List Int) : S.pcs (f + 1) (32 :: r) c = S.pcs f r (c + 1) := by
 show (if (32 : Int) = 32 then _ else _) = _
 rw [if_pos rfl]



theorem Fz29_eq (a b : List qab) (ha : a.length < LF) : Fz29 LF a b = some ((S.sameK a b, ()), ()) := by
 simp only [Fz29, qos, qgg]
 have kl : ∀ l : List qab, (S.kinds l).length = l.length := fun l => List.length_map _
 by_cases hl : a.length = b.length
 · rw [decide_eq_true hl, Bool.not_true, cond_false]
   refine range0 (σ := Unit) (R := Rtz29) a (fun i _ => i) (fun i _ => (S.kinds a).take i = (S.kinds b).take i) (fun _ _ _ => some ((S.sameK a b, ()), ())) ha (fun K q hq => ?_) (fun K i v rest q hq r h => ?_) () rfl
   · simp only [qjw, qa4, cond_false]
     have : S.kinds a = S.kinds b := by
       rw [<- kl a, List.take_length, kl a, hl, <- kl b, List.take_length] at hq; exact hq
     show some ((true, ()), ()) = some ((decide (S.kinds a = S.kinds b), ()), ())
     rw [decide_eq_true this]
   · obtain ⟨w, hw⟩ : ∃ w, b[i]? = some w := ⟨_, List.getElem?_eq_getElem (by have := r.lt; omega)⟩
     have hj : jget b (Int.ofNat i) = some w := qa8.trans hw
     simp only [qjw, r.ilt, r.get, hj, r.next, cond_true]
     have ha' : (S.kinds a)[i]? = some (v.1, v.2.1) := by unfold S.kinds; rw [List.getElem?_map, r.get?]; rfl
     have hb' : (S.kinds b)[i]? = some (w.1, w.2.1) := by unfold S.kinds; rw [List.getElem?_map, hw]; rfl
     have hts := qwa (a := S.kinds a) (b := S.kinds b) ha' hb' hq
     have no : ¬ (v.1, v.2.1) = (w.1, w.2.1) -> some ((false, ()), ()) = some ((S.sameK a b, ()), ()) := fun e => by
       have : ¬ S.kinds a = S.kinds b := fun e2 => e (hts.1 (by rw [e2]))
       show some ((false, ()), ()) = some ((decide (S.kinds a = S.kinds b), ()), ())
       rw [decide_eq_false this]
     by_cases e1 : v.1 = w.1
     · rw [ieq_t e1, cond_true]
       by_cases e2 : v.2.1 = w.2.1
       · rw [show keqS v.2.1 w.2.1 = true from decide_eq_true e2, Bool.not_true, cond_false]
         exact h () (hts.2 (by rw [e1, e2]))
       · rw [show keqS v.2.1 w.2.1 = false from decide_eq_false e2, Bool.not_false, cond_true]
         exact no fun e => e2 (Prod.mk.inj e).2
     · rw [ieq_f e1, cond_false]
       exact no fun e => e1 (Prod.mk.inj e).1
 · rw [decide_eq_false hl, Bool.not_false, cond_true]
   have : ¬ S.kinds a = S.kinds b := fun e => hl (by rw [<- kl a, e, kl b])
   show some ((false, ()), ()) = some ((decide (S.kinds a = S.kinds b), ()), ())
   rw [decide_eq_false this]
theorem conz29 : ConR Tryz.prog idz29 spz29 := mkz29 trivial fun x y hx h => ⟨LF, (Fz29_eq x.1 x.2.1 (qul hx.1.1)).trans h⟩
end Go.Proofs.YtanenikkloolfaaGreatDoor
end

section
namespace Go.Jx
open Go Go.Sx Go.RowKit
end Go.Jx
end

noncomputable section
set_option maxRecDepth 100000
namespace Go.Proofs.YtanenikkloolfaaGreatDoor
open Go Go.Sx Go.RowKit Go.Jx

theorem q11 (a : Int) : ieqI a a = true := ieq_t rfl
theorem qld : ∀ (f : Nat) (r : List Int) (c : Nat), (S.pcs f r c).1.length <= r.length
 | 0, r, _ => Nat.zero_le _
 | f + 1, [], _ => Nat.zero_le _
 | f + 1, b :: r, c => by
   have hpc : S.pcs (f + 1) (b :: r) c = if b = 32 then S.pcs f r (c + 1) else if (S.tok (b :: r)).2.2.1 = 0 then (((S.tok (b :: r)).2.1, strOf ((b :: r).take (S.tok (b :: r)).1), c) :: (S.pcs f ((b :: r).drop (S.tok (b :: r)).1) (c + (S.tok (b :: r)).1)).1, (S.pcs f ((b :: r).drop (S.tok (b :: r)).1) (c + (S.tok (b :: r)).1)).2) else ([], some (c + (S.tok (b :: r)).2.2.2, (S.tok (b :: r)).2.2.1)) := rfl
   rw [hpc]
   split
   · have := qld f r (c + 1)
     rw [List.length_cons]; omega
   split
   · rename_i h0
     obtain ⟨t1, t2⟩ := qja h0 (by simp)
     have := qld f ((b :: r).drop (S.tok (b :: r)).1) (c + (S.tok (b :: r)).1)
     rw [List.length_drop] at this
     show (_ :: _ : List _).length <= _
     rw [List.length_cons]
     rw [List.length_cons] at t2 this ⊢
     omega
   · exact Nat.zero_le _
theorem qxe (N : Nat) : ∀ (ls : List (List Int)) (n : Int), (∀ x ∈ ls, x.length <= N) -> (S.readL ls n).1.length <= N * ls.length
 | [], n, _ => Nat.zero_le _
 | x :: ls, n, h => by
   have ih := qxe N ls (n + 1) fun y hy => h y (List.mem_cons_of_mem _ hy)
   have hx := h x List.mem_cons_self
   have hp := qld (x.length + 1) x 1
   rw [qd0, List.length_cons, Nat.mul_succ]
   split
   · exact Nat.zero_le _
   split
   · rw [List.length_append]
     unfold S.at_
     rw [List.length_map]
     omega
   · omega


theorem qnc (b : Int) (t : List Int) : S.trimR (b :: t) = match S.trimR t with
   | [] => if b = 32 then [] else [b]
   | y :: l => b :: y :: l := rfl
theorem qc6 : ∀ r : List Int, S.trimR r <+: r
 | [] => List.prefix_refl _
 | b :: t => by
   have ih := qc6 t
   rw [qnc]
   cases h : S.trimR t with
   | nil =>
     simp only
     split
     · exact List.nil_prefix
     · exact List.cons_prefix_cons.2 ⟨rfl, List.nil_prefix⟩
   | cons y l =>
     rw [h] at ih
     exact List.cons_prefix_cons.2 ⟨rfl, ih⟩
abbrev PP (r : List Int) (c : Nat) : List (Int × ByteArray × Nat) × Option (Nat × Int) := S.pcs (r.length + 1) r c
theorem pp_any {f : Nat} {r : List Int} (c : Nat) (h : r.length < f) : S.pcs f r c = PP r c := qmz r.length f (r.length + 1) r c (Nat.le_refl _) h (Nat.lt_succ_self _)
theorem qms (c : Nat) : PP [] c = ([], none) := rfl
theorem qio (t : List Int) (c : Nat) : PP (32 :: t) c = PP t (c + 1) := by
 show S.pcs (t.length + 1 + 1) (32 :: t) c = _
 rw [q2k]
theorem qid {r : List Int} {n : Nat} {k : Int} (c : Nat) (h : S.tok r = (n, k, 0, 0)) (h0 : r ≠ []) (h32 : ¬ r[0]? = some 32) (hn : 1 <= n) : PP r c = ((k, strOf (r.take n), c) :: (PP (r.drop n) (c + n)).1, (PP (r.drop n) (c + n)).2) := by
 have hl : 0 < r.length := List.length_pos_iff.2 h0
 show S.pcs (r.length + 1) r c = _
 rw [pcs_tok r.length c h h32 h0, pp_any (f := r.length) (c + n) (by rw [List.length_drop]; omega)]
theorem qnm {r : List Int} {c : Nat} (h : (PP r c).2 = none) : r = [] \/ (∃ t, r = 32 :: t) \/ ∃ n k, S.tok r = (n, k, 0, 0) /\ 1 <= n /\ n <= r.length /\ r ≠ [] /\ ¬ r[0]? = some 32 := by
 cases r with
 | nil => exact .inl rfl
 | cons b t =>
   by_cases hb : b = 32
   · subst hb; exact .inr (.inl ⟨t, rfl⟩)
   · have hp : S.pcs (t.length + 1 + 1) (b :: t) c = if b = 32 then S.pcs (t.length + 1) t (c + 1) else if (S.tok (b :: t)).2.2.1 = 0 then (((S.tok (b :: t)).2.1, strOf ((b :: t).take (S.tok (b :: t)).1), c) :: (S.pcs (t.length + 1) ((b :: t).drop (S.tok (b :: t)).1) (c + (S.tok (b :: t)).1)).1, (S.pcs (t.length + 1) ((b :: t).drop (S.tok (b :: t)).1) (c + (S.tok (b :: t)).1)).2) else ([], some (c + (S.tok (b :: t)).2.2.2, (S.tok (b :: t)).2.2.1)) := rfl
     by_cases h0 : (S.tok (b :: t)).2.2.1 = 0
     · obtain ⟨t1, t2⟩ := qja h0 (by simp)
       exact .inr (.inr ⟨(S.tok (b :: t)).1, (S.tok (b :: t)).2.1, Prod.ext rfl (Prod.ext rfl (Prod.ext h0 (qs0 h0))), t1, t2, by simp, by simpa using hb⟩)
     · have h : (S.pcs (t.length + 1 + 1) (b :: t) c).2 = none := h
       rw [hp, if_neg hb, if_neg h0] at h
       cases h
theorem ql5 {r : List Int} {n : Nat} (h : S.tok r = (n, 6, 0, 0)) (hn : ∀ b ∈ r, ¬ b = 10) : n = r.length := by
 unfold S.tok at h
 by_cases e : [45, 45].isPrefixOf r = true
 · rw [if_pos e, note2 r e hn] at h
   cases hf : List.findIdx? S.badB r with
   | none => rw [hf] at h; exact (congrArg (fun x => x.1) h).symm
   | some i => rw [hf] at h; exact absurd (congrArg (fun x => x.2.2.1) h) (show ¬ (2 : Int) = 0 by decide)
 · rw [if_neg e] at h
   split at h
   · exact absurd (congrArg (fun x => x.2.1) h) (qor _)
   split at h
   · exact absurd (congrArg (fun x => x.2.2.1) h) (show ¬ (2 : Int) = 0 by decide)
   · exact absurd (congrArg (fun x => x.2.1) h) (show ¬ (5 : Int) = 6 by decide)
theorem qot : ∀ (N : Nat) (r : List Int) (c : Nat), r.length <= N -> (∀ b ∈ r, ¬ b = 10) -> (PP r c).2 = none -> ∃ m, m <= r.length /\ PP (r.take m) c = ((PP r c).1.filter S.plain, none) /\ (∀ p, (PP r c).1.find? S.isNoteP = some p -> p.2.2 = c + m) /\ ((PP r c).1.find? S.isNoteP = none -> m = r.length)
 | N, [], c, _, _, _ => ⟨0, Nat.le_refl _, rfl, fun p h => (by cases h), fun _ => rfl⟩
 | 0, b :: t, c, h, _, _ => by simp at h
 | N + 1, b :: t, c, hN, hn, h => by
   rcases qnm h with e | ⟨t', e⟩ | ⟨n, k, h1, h2, h3, h4, h5⟩
   · cases e
   · injection e with e1 e2
     subst e1 e2
     rw [qio] at h ⊢
     obtain ⟨m, m1, m2, m3, m4⟩ := qot N t (c + 1) (by simpa using hN) (fun d hd => hn d (List.mem_cons_of_mem _ hd)) h
     refine ⟨m + 1, by simpa using m1, ?_, fun p hp => by rw [m3 p hp]; omega, fun hp => by rw [m4 hp]; rfl⟩
     rw [List.take_succ_cons, qio]
     exact m2
   · have hp := qid c h1 h4 h5 h2
     rw [hp] at h ⊢
     by_cases h6 : k = 6
     · subst h6
       have hl := ql5 h1 hn
       rw [hl, List.drop_length, qms] at h ⊢
       refine ⟨0, Nat.zero_le _, ?_, fun p hp => ?_, fun hp => ?_⟩
       · rw [List.take_zero, qms]
         rfl
       · rw [List.find?_cons, show S.isNoteP (6, _, _) = true from rfl] at hp
         cases hp; rfl
       · rw [List.find?_cons, show S.isNoteP (6, _, _) = true from rfl] at hp
         cases hp
     · have hlen : ((b :: t).drop n).length <= N := by rw [List.length_drop]; omega
       obtain ⟨m, m1, m2, m3, m4⟩ := qot N ((b :: t).drop n) (c + n) hlen (fun d hd => hn d (List.mem_of_mem_drop hd)) h
       rw [List.length_drop] at m1
       have hpl : S.plain (k, strOf ((b :: t).take n), c) = true := by unfold S.plain; rw [decide_eq_false h6]; rfl
       have hnp : S.isNoteP (k, strOf ((b :: t).take n), c) = false := decide_eq_false h6
       refine ⟨n + m, by omega, ?_, fun p hp => ?_, fun hp => ?_⟩
       · have htl : ((b :: t).take (n + m)).length = n + m := by rw [List.length_take]; omega
         have htk : ((b :: t).take (n + m)).take n = (b :: t).take n := by rw [List.take_take, Nat.min_eq_left (by omega)]
         have ht : S.tok ((b :: t).take (n + m)) = (n, k, 0, 0) := by
           refine q0v h1 h6 (by omega) htk (by omega) ?_
           by_cases hm : m = 0
           · left; omega
           · right; rw [List.take_take, Nat.min_eq_left (by omega)]
         have hne : (b :: t).take (n + m) ≠ [] := fun e => by rw [e] at htl; simp at htl; omega
         have h32 : ¬ ((b :: t).take (n + m))[0]? = some 32 := by rw [List.getElem?_take, if_pos (by omega)]; exact h5
         rw [qid c ht hne h32 h2, htk]
         have hd : ((b :: t).take (n + m)).drop n = ((b :: t).drop n).take m := by rw [List.drop_take, Nat.add_sub_cancel_left]
         rw [hd, m2, List.filter_cons, hpl, if_pos rfl]
       · rw [List.find?_cons, hnp] at hp
         rw [m3 p hp]; omega
       · rw [List.find?_cons, hnp] at hp
         rw [m4 hp, List.length_drop]; omega
theorem q2w (x : List Int) : S.bareL x <+: x := (qc6 _).trans (List.take_prefix _ _)
theorem qcq (x y : List Int) (l : List (List Int)) : S.joinN (x :: y :: l) = x ++ 10 :: S.joinN (y :: l) := rfl
theorem qxp : ∀ d : List Int, S.joinN (S.splitL d) = d
 | [] => rfl
 | b :: d => by
   have ih := qxp d
   by_cases hb : b = 10
   · subst hb
     obtain ⟨x, xs, e⟩ := qgt d
     rw [qc1]
     rw [e] at ih ⊢
     rw [qcq, ih]; rfl
   · obtain ⟨x, xs, e1, e2⟩ := qcj hb d
     rw [e2]
     rw [e1] at ih
     cases xs with
     | nil => show b :: x = b :: d; rw [<- ih]; rfl
     | cons y l =>
       rw [qcq] at ih ⊢
       rw [<- ih]; rfl
theorem qn7 : ∀ (ls : List (List Int)) (b : Int), b ∈ S.joinN ls -> b = 10 \/ ∃ x ∈ ls, b ∈ x
 | [], b, h => by cases h
 | [x], b, h => .inr ⟨x, List.mem_cons_self, h⟩
 | x :: y :: l, b, h => by
   rw [qcq] at h
   rcases List.mem_append.1 h with h | h
   · exact .inr ⟨x, List.mem_cons_self, h⟩
   · rcases List.mem_cons.1 h with h | h
     · exact .inl h
     · rcases qn7 (y :: l) b h with h | ⟨z, hz, h⟩
       · exact .inl h
       · exact .inr ⟨z, List.mem_cons_of_mem _ hz, h⟩
theorem qvy (f : List Int -> List Int) (hf : ∀ x, (f x).length <= x.length) : ∀ ls : List (List Int), (S.joinN (ls.map f)).length <= (S.joinN ls).length
 | [] => Nat.le_refl _
 | [x] => hf x
 | x :: y :: l => by
   have ih := qvy f hf (y :: l)
   have := hf x
   rw [List.map_cons, List.map_cons, qcq, qcq, List.length_append, List.length_append, List.length_cons, List.length_cons]
   rw [List.map_cons] at ih
   omega
theorem qla : ∀ (N : Nat) (r : List Int) (c : Nat), r.length <= N -> (∀ b ∈ r, ¬ b = 10) -> (PP r c).2 = none -> (PP r c).1.filter S.isNoteP = ((PP r c).1.find? S.isNoteP).toList
 | N, [], c, _, _, _ => rfl
 | 0, b :: t, c, h, _, _ => by simp at h
 | N + 1, b :: t, c, hN, hn, h => by
   rcases qnm h with e | ⟨t', e⟩ | ⟨n, k, h1, h2, h3, h4, h5⟩
   · cases e
   · injection e with e1 e2
     subst e1 e2
     rw [qio] at h ⊢
     exact qla N t (c + 1) (by simpa using hN) (fun d hd => hn d (List.mem_cons_of_mem _ hd)) h
   · have hp := qid c h1 h4 h5 h2
     rw [hp] at h ⊢
     by_cases h6 : k = 6
     · subst h6
       rw [ql5 h1 hn, List.drop_length, qms]
       rfl
     · have hnp : S.isNoteP (k, strOf ((b :: t).take n), c) = false := decide_eq_false h6
       rw [List.filter_cons, List.find?_cons, hnp]
       simp only [Bool.false_eq_true, if_false]
       exact qla N _ (c + n) (by rw [List.length_drop]; omega) (fun d hd => hn d (List.mem_of_mem_drop hd)) h
def cutN : List (List Int) -> List qab -> List (List Int)
 | ls, [] => ls
 | ls, t :: l => cutN (ls.set (t.2.2.1 - 1).toNat ((ls.getD (t.2.2.1 - 1).toNat []).take (t.2.2.2 - 1).toNat)) l
def cutL (x : List Int) : List Int := x.take (S.noteAt x)
def GoodN : List (List Int) -> List qab -> Prop
 | _, [] => True
 | ls, t :: l => 1 <= t.2.2.1 /\ (t.2.2.1 - 1).toNat < ls.length /\ 1 <= t.2.2.2 /\ (t.2.2.2 - 1).toNat <= (ls.getD (t.2.2.1 - 1).toNat []).length /\ GoodN (ls.set (t.2.2.1 - 1).toNat ((ls.getD (t.2.2.1 - 1).toNat []).take (t.2.2.2 - 1).toNat)) l
theorem qr2 : ∀ (ls P : List (List Int)), (∀ x ∈ ls, ∀ b ∈ x, ¬ b = 10) -> (S.readL ls (1 + (P.length : Int))).2.2 = 0 -> GoodN (P ++ ls) ((S.readL ls (1 + (P.length : Int))).1.filter S.isNote) /\ cutN (P ++ ls) ((S.readL ls (1 + (P.length : Int))).1.filter S.isNote) = P ++ ls.map cutL
 | [], P, _, _ => ⟨trivial, rfl⟩
 | x :: ls, P, hn, h => by
   rw [qd0] at h ⊢
   have hl : S.pcs (x.length + 1) x 1 = S.line x := rfl
   rw [hl] at h ⊢
   have hxn := hn x List.mem_cons_self
   cases hp : (S.line x).2 with
   | some y => rw [hp] at h; exact absurd h (qco _ _ _ _ hp)
   | none =>
     rw [hp] at h
     simp only at h ⊢
     have h0 : (S.readL ls (1 + (P.length : Int) + 1)).2.2 = 0 := by
       by_cases c : (S.readL ls (1 + (P.length : Int) + 1)).2.2 = 0
       · exact c
       · rw [if_neg c] at h; exact absurd h c
     rw [if_pos h0]
     simp only
     rw [List.filter_append]
     obtain ⟨m, m1, m2, m3, m4⟩ := qot x.length x 1 (Nat.le_refl _) hxn hp
     have h1 := qla x.length x 1 (Nat.le_refl _) hxn hp
     have hat : (S.at_ (1 + (P.length : Int)) (S.line x).1).filter S.isNote = S.at_ (1 + (P.length : Int)) ((S.line x).1.filter S.isNoteP) := by
       unfold S.at_
       rw [List.filter_map]; rfl
     have ih := qr2 ls (P ++ [cutL x]) (fun y hy => hn y (List.mem_cons_of_mem _ hy))
     have hlen : (1 : Int) + ((P ++ [cutL x]).length : Int) = 1 + (P.length : Int) + 1 := by rw [List.length_append]; simp only [List.length_cons, List.length_nil]; omega
     rw [hlen] at ih
     have ih := ih h0
     rw [hat, show (S.line x).1.filter S.isNoteP = _ from h1]
     have hgo : ∀ z : List (List Int), z = P ++ cutL x :: ls -> GoodN z ((S.readL ls (1 + (P.length : Int) + 1)).1.filter S.isNote) /\ cutN z ((S.readL ls (1 + (P.length : Int) + 1)).1.filter S.isNote) = P ++ (x :: ls).map cutL := by
       rintro z rfl
       rw [List.append_assoc] at ih
       rw [List.map_cons]
       have e : P ++ cutL x :: ls = P ++ ([cutL x] ++ ls) := rfl
       rw [e]
       exact ⟨ih.1, by rw [ih.2, List.append_assoc]; rfl⟩
     cases hf : (S.line x).1.find? S.isNoteP with
     | none =>
       have hc : cutL x = x := by
         unfold cutL S.noteAt
         rw [hf]
         exact List.take_length
       rw [show (PP x 1).1.find? S.isNoteP = none from hf]
       refine hgo _ ?_
       rw [hc]
     | some p =>
       have hpm := m3 p hf
       have hc : cutL x = x.take (p.2.2 - 1) := by
         unfold cutL S.noteAt
         rw [hf]
       rw [show (PP x 1).1.find? S.isNoteP = some p from hf]
       have e1 : (1 + (P.length : Int) - 1).toNat = P.length := by omega
       have e2 : (Int.ofNat p.2.2 - 1).toNat = p.2.2 - 1 := by show ((p.2.2 : Int) - 1).toNat = _; omega
       have e3 : (P ++ x :: ls).getD P.length [] = x := by rw [List.getD_eq_getElem?_getD, List.getElem?_append_right (Nat.le_refl _), Nat.sub_self]; rfl
       have e4 : (P ++ x :: ls).set P.length (x.take (p.2.2 - 1)) = P ++ cutL x :: ls := by
         rw [hc, List.set_append_right _ _ (Nat.le_refl _), Nat.sub_self]
         rfl
       obtain ⟨g1, g2⟩ := hgo _ e4
       refine ⟨⟨show 1 <= 1 + (P.length : Int) by omega, ?_, show (1 : Int) <= Int.ofNat p.2.2 from ?_, ?_, ?_⟩, ?_⟩
       · show (1 + (P.length : Int) - 1).toNat < (P ++ x :: ls).length
         rw [e1, List.length_append, List.length_cons]; omega
       · show (1 : Int) <= (p.2.2 : Int)
         omega
       · show (Int.ofNat p.2.2 - 1).toNat <= ((P ++ x :: ls).getD (1 + (P.length : Int) - 1).toNat []).length
         rw [e1, e2, e3]; omega
       · show GoodN ((P ++ x :: ls).set (1 + (P.length : Int) - 1).toNat (((P ++ x :: ls).getD (1 + (P.length : Int) - 1).toNat []).take (Int.ofNat p.2.2 - 1).toNat)) _
         rw [e1, e2, e3]
         exact g1
       · show cutN ((P ++ x :: ls).set (1 + (P.length : Int) - 1).toNat (((P ++ x :: ls).getD (1 + (P.length : Int) - 1).toNat []).take (Int.ofNat p.2.2 - 1).toNat)) _ = _
         rw [e1, e2, e3]
         exact g2
theorem qiv (b : Int) : ∀ l : List Int, S.trimR (l ++ [b]) = if b = 32 then S.trimR l else l ++ [b]
 | [] => rfl
 | a :: l => by
   have ih := qiv b l
   rw [List.cons_append, qnc, ih]
   by_cases h : b = 32
   · rw [if_pos h, if_pos h, qnc]
   · rw [if_neg h, if_neg h]
     cases hl : l ++ [b] with
     | nil => simp at hl
     | cons y z => rfl



def nmz30 : Nat -> Option Nm := fun k => none
def stz30 : Nat -> Bool := fun k => false
def hdz30 := stz30
abbrev Rtz30 : Type := Bool × Int × Unit
def qml : List (Nat × Sm) := [(23, spz26)]
def qp6 : List (Nat × Hx) := [(51, hxR spz29)]
def clz30 (R : Type) (lf : Nat) : ClK R := qaj Tryz.prog ttT.get ftT.get (nm1 21 nmz30) (smL qml) (hxL qp6) lf 20 R
abbrev idz30 : Nat := 21
def qn5 (lf : Nat) (x1 : ByteArray) (x2 : ByteArray) : Option Rtz30 := (match (cond (S.fits x1) (some ((S.tokens x1).1, ((S.tokens x1).2.2.1, ((S.tokens x1).2.2.2, ())))) none) with | .none  => none | .some v0 => (cond (Bool.not (ieqI v0.2.2.1 (Int.ofNat 0))) (some (Bool.false, (v0.2.2.1, ()))) (match (cond (S.fits x2) (some ((S.tokens x2).1, ((S.tokens x2).2.2.1, ((S.tokens x2).2.2.2, ())))) none) with | .none  => none | .some v1 => (cond (Bool.not (ieqI v1.2.2.1 (Int.ofNat 0))) (some (Bool.false, (v1.2.2.1, ()))) (some ((S.sameK v0.1 v1.1), ((Int.ofNat 0), ())))))))
abbrev gz30 : Type := ElA [.str, .str] -> Option Rtz30
abbrev sz30 (g : gz30) : Sm := ⟨[.str, .str], [(false, .bool), (false, (.int .i64))], g⟩
abbrev Ez30 (g : gz30) (J : JT Rtz30) (lf : Nat) (x1 : ByteArray) (x2 : ByteArray) := qar Tryz.prog ttT.get nmz30 fi21.nt (clz30 _ lf) lf stz30 J fi21.body [] (argGo (argV [.str, .str] (x1, x2, ())) 0 .leaf) S0 [] (lastK ttT.get fi21 (sz30 g))
theorem inz30 (g : gz30) (J : JT Rtz30) (lf : Nat) (x1 : ByteArray) (x2 : ByteArray) : Ez30 g J lf x1 x2 = qn5 lf x1 x2 := by kernel_rfl
theorem ndz30 : (regs fi21.body).Nodup := by decide +kernel
theorem okz30 : okC nmz30 stz30 hdz30 fi21.body none = true := by kernel_rfl
def Az30 (g : gz30) (lf : Nat) : JT Rtz30 := atN Tryz.prog ttT.get nmz30 fi21 (sz30 g) (clz30 _ lf) lf hdz30
def Fz30 (lf : Nat) (x1 : ByteArray) (x2 : ByteArray) : Option Rtz30 := qn5 lf x1 x2
theorem runz30 (g : gz30) (lf : Nat) (x1 : ByteArray) (x2 : ByteArray) : Ez30 g (Az30 g lf) lf x1 x2 = Fz30 lf x1 x2 := by
   refine (inz30 g (Az30 g lf) lf x1 x2).trans ?_
   rfl
theorem hxsz30 (hrz29 : ConR Tryz.prog 51 spz29) : HxsOK Tryz.prog qp6 := ⟨qdd hrz29, trivial⟩
theorem mkz30 {g : gz30} (hsm : SmOK Tryz.prog qml) (hrz29 : ConR Tryz.prog 51 spz29) (hg : ∀ (x : ElA [.str, .str]) (y : Rtz30), WfA [.str, .str] x -> g x = some y -> ∃ lf, Fz30 lf x.1 x.2.1 = some y) : Con Tryz.prog 21 ⟨[.str, .str], [(false, .bool), (false, (.int .i64))], g⟩ :=
 conT (nmf := nmz30) (sml := qml) (hxl := qp6) (st := stz30) (hd := hdz30) 20 mixed ttOK ftOK hsm (hxsz30 hrz29) cal21 rfl rfl (by kernel_rfl) (fun x => by kernel_rfl) ndz30 okz30 fun x y hx hy => by
   obtain ⟨lf, h⟩ := hg x y hx hy
   exact ⟨lf, (runz30 g lf x.1 x.2.1).trans h⟩
theorem Fz30_eq (lf : Nat) (a b : ByteArray) (ha : S.fits a = true) (hb : S.fits b = true) : Fz30 lf a b = some ((S.same a b).1, (S.same a b).2, ()) := by
 simp only [Fz30, qn5, ha, hb, cond_true, S.same]
 by_cases h1 : (S.tokens a).2.2.2 = 0
 · rw [ieq_t (show (S.tokens a).2.2.2 = Int.ofNat 0 from h1), Bool.not_true, cond_false, if_pos h1]
   by_cases h2 : (S.tokens b).2.2.2 = 0
   · rw [ieq_t (show (S.tokens b).2.2.2 = Int.ofNat 0 from h2), Bool.not_true, cond_false, if_pos h2]; rfl
   · rw [ieq_f (show ¬ (S.tokens b).2.2.2 = Int.ofNat 0 from h2), Bool.not_false, cond_true, if_neg h2]
 · rw [ieq_f (show ¬ (S.tokens a).2.2.2 = Int.ofNat 0 from h1), Bool.not_false, cond_true, if_neg h1]
theorem conz30 : Con Tryz.prog idz30 spz30 := mkz30 ⟨qxa, trivial⟩ conz29 fun x y hx h => ⟨0, by
 obtain ⟨h1, h2⟩ := qa2 (show cond (S.fits x.1 && S.fits x.2.1) (some ((S.same x.1 x.2.1).1, (S.same x.1 x.2.1).2, ())) none = some y from h)
 rw [Bool.and_eq_true] at h1
 exact (Fz30_eq 0 x.1 x.2.1 h1.1 h1.2).trans (congrArg some h2)⟩
namespace S
def cutDash : List Int -> List Int
 | [] => []
 | b :: t => if b = 45 /\ t[0]? = some 45 then [] else b :: cutDash t
def bareR (l : List Int) : List Int := trimR (cutDash l)
end S
noncomputable def spz32 : Sm := ⟨[.str], [(false, .str)], fun x => cond (S.fits x.1) (some (strOf (S.bareR (qaa x.1)), ())) none⟩
noncomputable def spz33 : Sm := ⟨[.str], [(false, qp1)], fun x => cond (S.fits x.1) (some (S.strip x.1, ())) none⟩
noncomputable def spz34 : Sm := ⟨[.str, .str], [(false, qow)], fun x => cond (S.fits x.1 && S.fits x.2.1) (some (S.same x.1 x.2.1, ())) none⟩
theorem qdn (b : Int) (t : List Int) : S.cutDash (b :: t) = if b = 45 /\ t[0]? = some 45 then [] else b :: S.cutDash t := rfl
theorem qq2 : ∀ (A B : List Int), (∀ b ∈ A, ¬ b = 45) -> S.cutDash (A ++ B) = A ++ S.cutDash B
 | [], B, _ => rfl
 | a :: A, B, h => by
   rw [List.cons_append, qdn, if_neg (fun e => h a List.mem_cons_self e.1), qq2 A B fun b hb => h b (List.mem_cons_of_mem _ hb)]
   rfl
theorem qzy {B : List Int} (h : ¬ B[0]? = some 45) : S.cutDash (45 :: B) = 45 :: S.cutDash B := by
 rw [qdn, if_neg fun e => h e.2]
theorem qee : ∀ l : List Int, S.cutDash l <+: l
 | [] => List.prefix_refl _
 | b :: t => by
   rw [qdn]
   split
   · exact List.nil_prefix
   · exact List.cons_prefix_cons.2 ⟨rfl, qee t⟩
theorem q3l {r : List Int} {n : Nat} {k : Int} (h : S.tok r = (n, k, 0, 0)) (hk : ¬ k = 6) : (∀ b ∈ r.take n, ¬ b = 45) \/ (r.take n = [45] /\ ¬ (r.drop n)[0]? = some 45) := by
 have hsg : S.signs.all (fun s => (qaa s).all (fun b => !decide (b = 45)) || decide (qaa s = [45])) = true := by decide +kernel
 unfold S.tok at h
 by_cases e : [45, 45].isPrefixOf r = true
 · rw [if_pos e] at h
   cases hc : (S.noteGo (r.drop 2) 2).1 with
   | true =>
     rw [hc, cond_true] at h
     exact absurd (congrArg (fun x => x.2.1) h).symm hk
   | false =>
     rw [hc, cond_false] at h
     exact absurd (congrArg (fun x => x.2.2.1) h) (show ¬ (2 : Int) = 0 by decide)
 · rw [if_neg e] at h
   by_cases h1 : 0 < S.runL r
   · rw [if_pos h1] at h
     have hn : S.runL r = n := congrArg (fun x => x.1) h
     left
     intro b hb
     have hp : r.takeWhile S.isPart = r.take n := by
       have := List.prefix_iff_eq_take.1 (List.takeWhile_prefix (l := r) S.isPart)
       rw [this, <- hn]; rfl
     rw [<- hp] at hb
     have := List.all_eq_true.1 List.all_takeWhile b hb
     intro e2
     rw [e2] at this
     exact absurd this (by decide)
   · rw [if_neg h1] at h
     by_cases h2 : (S.signL r).size = 0
     · rw [if_pos h2] at h
       exact absurd (congrArg (fun x => x.2.2.1) h) (show ¬ (2 : Int) = 0 by decide)
     · rw [if_neg h2] at h
       have hn : (S.signL r).size = n := congrArg (fun x => x.1) h
       rcases qc7 r with e1 | ⟨g1, g2, g3⟩
       · rw [e1] at h2; exact absurd rfl h2
       · rw [hn] at g2
         have := List.all_eq_true.1 hsg _ g1
         rw [Bool.or_eq_true] at this
         rcases this with this | this
         · left
           intro b hb
           rw [<- g2] at hb
           have := List.all_eq_true.1 this b hb
           simpa using this
         · right
           have e3 := of_decide_eq_true this
           rw [e3] at g2
           refine ⟨g2.symm, fun h4 => e ?_⟩
           have h1n : n = 1 := by
             have := congrArg List.length g2
             rw [List.length_take] at this
             simp at this
             omega
           subst h1n
           refine List.isPrefixOf_iff_prefix.2 ?_
           have hd : r = r.take 1 ++ r.drop 1 := (List.take_append_drop 1 r).symm
           cases hr : r.drop 1 with
           | nil => rw [hr] at h4; cases h4
           | cons z zs =>
             rw [hr] at h4 hd
             have hz : z = 45 := by simpa using h4
             rw [<- g2, hz] at hd
             exact ⟨zs, hd.symm⟩
theorem qk1 : ∀ (N : Nat) (r : List Int) (c : Nat), r.length <= N -> (∀ b ∈ r, ¬ b = 10) -> (PP r c).2 = none -> ∃ m, m <= r.length /\ S.cutDash r = r.take m /\ (∀ p, (PP r c).1.find? S.isNoteP = some p -> p.2.2 = c + m) /\ ((PP r c).1.find? S.isNoteP = none -> m = r.length)
 | N, [], c, _, _, _ => ⟨0, Nat.le_refl _, rfl, fun p h => (by cases h), fun _ => rfl⟩
 | 0, b :: t, c, h, _, _ => by simp at h
 | N + 1, b :: t, c, hN, hn, h => by
   rcases qnm h with e | ⟨t', e⟩ | ⟨n, k, h1, h2, h3, h4, h5⟩
   · cases e
   · injection e with e1 e2
     subst e1 e2
     rw [qio] at h ⊢
     obtain ⟨m, m1, m2, m3, m4⟩ := qk1 N t (c + 1) (by simpa using hN) (fun d hd => hn d (List.mem_cons_of_mem _ hd)) h
     refine ⟨m + 1, by simpa using m1, ?_, fun p hp => by rw [m3 p hp]; omega, fun hp => by rw [m4 hp]; rfl⟩
     rw [List.take_succ_cons, qdn, if_neg (fun e => absurd e.1 (by decide)), m2]
   · have hp := qid c h1 h4 h5 h2
     rw [hp] at h ⊢
     by_cases h6 : k = 6
     · subst h6
       have hl := ql5 h1 hn
       have hpf : [45, 45].isPrefixOf (b :: t) = true := by
         cases hc : [45, 45].isPrefixOf (b :: t) with
         | true => rfl
         | false =>
           unfold S.tok at h1
           rw [hc] at h1
           simp only [Bool.false_eq_true, if_false] at h1
           split at h1
           · exact absurd (congrArg (fun x => x.2.1) h1) (qor _)
           split at h1
           · exact absurd (congrArg (fun x => x.2.2.1) h1) (show ¬ (2 : Int) = 0 by decide)
           · exact absurd (congrArg (fun x => x.2.1) h1) (show ¬ (5 : Int) = 6 by decide)
       obtain ⟨w, hw⟩ := List.isPrefixOf_iff_prefix.1 hpf
       refine ⟨0, Nat.zero_le _, ?_, fun p hp => ?_, fun hp => ?_⟩
       · rw [<- hw]; rfl
       · rw [List.find?_cons, show S.isNoteP (6, _, _) = true from rfl] at hp
         cases hp; rfl
       · rw [List.find?_cons, show S.isNoteP (6, _, _) = true from rfl] at hp
         cases hp
     · have hlen : ((b :: t).drop n).length <= N := by rw [List.length_drop]; omega
       obtain ⟨m, m1, m2, m3, m4⟩ := qk1 N ((b :: t).drop n) (c + n) hlen (fun d hd => hn d (List.mem_of_mem_drop hd)) h
       rw [List.length_drop] at m1
       have hnp : S.isNoteP (k, strOf ((b :: t).take n), c) = false := decide_eq_false h6
       refine ⟨n + m, by omega, ?_, fun p hp => ?_, fun hp => ?_⟩
       · have hcd : S.cutDash (b :: t) = (b :: t).take n ++ S.cutDash ((b :: t).drop n) := by
           rcases q3l h1 h6 with g | ⟨g1, g2⟩
           · have := qq2 _ ((b :: t).drop n) g
             rw [List.take_append_drop] at this
             exact this
           · have := qzy g2
             have e2 : (45 : Int) :: (b :: t).drop n = (b :: t).take n ++ (b :: t).drop n := by rw [g1]; rfl
             rw [e2, List.take_append_drop] at this
             rw [this, g1]; rfl
         rw [hcd, m2, List.take_add]
       · rw [List.find?_cons, hnp] at hp
         rw [m3 p hp]; omega
       · rw [List.find?_cons, hnp] at hp
         rw [m4 hp, List.length_drop]; omega
theorem q4k {x : List Int} (hn : ∀ b ∈ x, ¬ b = 10) (h : (S.line x).2 = none) : S.bareR x = S.bareL x := by
 obtain ⟨m, m1, m2, m3, m4⟩ := qk1 x.length x 1 (Nat.le_refl _) hn h
 have hm : S.noteAt x = m := by
   unfold S.noteAt
   cases hf : (S.line x).1.find? S.isNoteP with
   | some p => simp only; rw [m3 p hf]; omega
   | none => simp only; exact (m4 hf).symm
 unfold S.bareR S.bareL
 rw [hm, m2]
theorem q4f : ∀ (ls : List (List Int)) (n : Int), (S.readL ls n).2.2 = 0 -> ∀ x ∈ ls, (S.line x).2 = none := by
 intro ls
 induction ls with
 | nil => intro n _ x hx; cases hx
 | cons y ls ih =>
   intro n h x hx
   rw [qd0] at h
   have hl2 : S.pcs (y.length + 1) y 1 = S.line y := rfl
   rw [hl2] at h
   cases hp : (S.line y).2 with
   | some z => rw [hp] at h; exact absurd h (qco _ _ _ _ hp)
   | none =>
     rw [hp] at h
     simp only at h
     rcases List.mem_cons.1 hx with rfl | hx
     · exact hp
     · by_cases c : (S.readL ls (n + 1)).2.2 = 0
       · exact ih (n + 1) c x hx
       · rw [if_neg c] at h; exact absurd h c
theorem qy5 {s : ByteArray} (h : (S.tokens s).2.2.2 = 0) : S.strip s = (strOf (S.joinN ((S.splitL (qaa s)).map S.bareR)), 0) := by
 unfold S.strip
 rw [if_pos h]
 have : (S.splitL (qaa s)).map S.bareL = (S.splitL (qaa s)).map S.bareR := List.map_congr_left fun x hx => (q4k (fun b hb => (qes _ x b hx hb).2) (q4f _ 1 (qp5 h).2 x hx)).symm
 rw [this]
def smSan : List (Nat × Sm) := [(27, qhz), (54, qo8), (128, qju), (73, spz16)]
def hxSan : List (Nat × Hx) := [(83, ccHx), (57, bsHx)]
theorem qxy : qaj Tryz.prog ttT.get ftT.get (fun _ _ => none) (smL smSan) (hxL hxSan) 1000 100 _ (.fn 7) [] S0 (runR qpu) = some (true, ()) := by kernel_rfl
theorem qzg : Con Tryz.prog 7 qpu :=
 conK (nm := fun _ _ => none) (sm := smL smSan) (hx := hxL hxSan) mixed ttOK ftOK (qce ⟨qqt, qvo, qxj, qrh, trivial⟩) (qci ⟨ccHx_ok, bsHx_ok, trivial⟩) cal7 fun x y hx h => ⟨100, 1000, qxy.trans h⟩
def nmz31 : Nat -> Option Nm := fun k => none
def stz31 : Nat -> Bool := fun k => false
def hdz31 := stz31
abbrev Rtz31 : Type := Bool × Unit
def qpq : List (Nat × Sm) := [(19, spz35), (20, spz33), (21, spz30), (22, spz34), (7, qpu)]
def qo7 : List (Nat × Hx) := []
def clz31 (R : Type) (lf : Nat) : ClK R := qaj Tryz.prog ttT.get ftT.get (nm1 5 nmz31) (smL qpq) (hxL qo7) lf 20 R
abbrev idz31 : Nat := 5
def qog (lf : Nat) (x1 : ByteArray) (x2 : ByteArray) : Option Rtz31 := (cond (Bool.not (iltI (Int.ofNat 400) (Int.ofNat (ByteArray.size x1)))) (cond (Bool.not (iltI (Int.ofNat 400) (Int.ofNat (ByteArray.size x2)))) (match (cond (S.fits x1) (some ((S.strip x1).1, ((S.strip x1).2, ()))) none) with | .none  => none | .some v0 => (match (cond (S.fits x1) (some ((S.strip x1), ())) none) with | .none  => none | .some v1 => (match (cond (Bool.and (S.fits x1) (S.fits x2)) (some ((S.same x1 x2).1, ((S.same x1 x2).2, ()))) none) with | .none  => none | .some v2 => (match (cond (Bool.and (S.fits x1) (S.fits x2)) (some ((S.same x1 x2), ())) none) with | .none  => none | .some v3 => (cond (keqS v0.1 v1.1.1) (cond (ieqI v0.2.1 v1.1.2) (cond (Decidable.decide (Eq v2.1 v3.1.1)) (some ((ieqI v2.2.1 v3.1.2), ())) (some (Bool.false, ()))) (some (Bool.false, ()))) (some (Bool.false, ()))))))) (cond (iltI (Int.ofNat 20000) (Int.ofNat (ByteArray.size x2))) (cond (Bool.not (Bool.not (iltI (Int.ofNat 20100) (Int.ofNat (ByteArray.size x2))))) (some (Bool.true, ())) (match (cond (S.fits x1) (some ((S.strip x1).1, ((S.strip x1).2, ()))) none) with | .none  => none | .some v4 => (match (cond (S.fits x1) (some ((S.strip x1), ())) none) with | .none  => none | .some v5 => (match (cond (Bool.and (S.fits x1) (S.fits x2)) (some ((S.same x1 x2).1, ((S.same x1 x2).2, ()))) none) with | .none  => none | .some v6 => (match (cond (Bool.and (S.fits x1) (S.fits x2)) (some ((S.same x1 x2), ())) none) with | .none  => none | .some v7 => (cond (keqS v4.1 v5.1.1) (cond (ieqI v4.2.1 v5.1.2) (cond (Decidable.decide (Eq v6.1 v7.1.1)) (some ((ieqI v6.2.1 v7.1.2), ())) (some (Bool.false, ()))) (some (Bool.false, ()))) (some (Bool.false, ())))))))) (some (Bool.true, ())))) (cond (iltI (Int.ofNat 20000) (Int.ofNat (ByteArray.size x1))) (cond (Bool.not (Bool.not (iltI (Int.ofNat 20100) (Int.ofNat (ByteArray.size x1))))) (some (Bool.true, ())) (cond (Bool.not (iltI (Int.ofNat 400) (Int.ofNat (ByteArray.size x2)))) (match (cond (S.fits x1) (some ((S.strip x1).1, ((S.strip x1).2, ()))) none) with | .none  => none | .some v8 => (match (cond (S.fits x1) (some ((S.strip x1), ())) none) with | .none  => none | .some v9 => (match (cond (Bool.and (S.fits x1) (S.fits x2)) (some ((S.same x1 x2).1, ((S.same x1 x2).2, ()))) none) with | .none  => none | .some v10 => (match (cond (Bool.and (S.fits x1) (S.fits x2)) (some ((S.same x1 x2), ())) none) with | .none  => none | .some v11 => (cond (keqS v8.1 v9.1.1) (cond (ieqI v8.2.1 v9.1.2) (cond (Decidable.decide (Eq v10.1 v11.1.1)) (some ((ieqI v10.2.1 v11.1.2), ())) (some (Bool.false, ()))) (some (Bool.false, ()))) (some (Bool.false, ()))))))) (cond (iltI (Int.ofNat 20000) (Int.ofNat (ByteArray.size x2))) (cond (Bool.not (Bool.not (iltI (Int.ofNat 20100) (Int.ofNat (ByteArray.size x2))))) (some (Bool.true, ())) (match (cond (S.fits x1) (some ((S.strip x1).1, ((S.strip x1).2, ()))) none) with | .none  => none | .some v12 => (match (cond (S.fits x1) (some ((S.strip x1), ())) none) with | .none  => none | .some v13 => (match (cond (Bool.and (S.fits x1) (S.fits x2)) (some ((S.same x1 x2).1, ((S.same x1 x2).2, ()))) none) with | .none  => none | .some v14 => (match (cond (Bool.and (S.fits x1) (S.fits x2)) (some ((S.same x1 x2), ())) none) with | .none  => none | .some v15 => (cond (keqS v12.1 v13.1.1) (cond (ieqI v12.2.1 v13.1.2) (cond (Decidable.decide (Eq v14.1 v15.1.1)) (some ((ieqI v14.2.1 v15.1.2), ())) (some (Bool.false, ()))) (some (Bool.false, ()))) (some (Bool.false, ())))))))) (some (Bool.true, ()))))) (some (Bool.true, ()))))
abbrev gz31 : Type := ElA [.str, .str] -> Option Rtz31
abbrev sz31 (g : gz31) : Sm := ⟨[.str, .str], [(false, .bool)], g⟩
abbrev Ez31 (g : gz31) (J : JT Rtz31) (lf : Nat) (x1 : ByteArray) (x2 : ByteArray) := qar Tryz.prog ttT.get nmz31 fi5.nt (clz31 _ lf) lf stz31 J fi5.body [] (argGo (argV [.str, .str] (x1, x2, ())) 0 .leaf) S0 [] (lastK ttT.get fi5 (sz31 g))
theorem inz31 (g : gz31) (J : JT Rtz31) (lf : Nat) (x1 : ByteArray) (x2 : ByteArray) : Ez31 g J lf x1 x2 = qog lf x1 x2 := by kernel_rfl
theorem ndz31 : (regs fi5.body).Nodup := by decide +kernel
theorem okz31 : okC nmz31 stz31 hdz31 fi5.body none = true := by kernel_rfl
def Az31 (g : gz31) (lf : Nat) : JT Rtz31 := atN Tryz.prog ttT.get nmz31 fi5 (sz31 g) (clz31 _ lf) lf hdz31
def Fz31 (lf : Nat) (x1 : ByteArray) (x2 : ByteArray) : Option Rtz31 := qog lf x1 x2
theorem runz31 (g : gz31) (lf : Nat) (x1 : ByteArray) (x2 : ByteArray) : Ez31 g (Az31 g lf) lf x1 x2 = Fz31 lf x1 x2 := by
   refine (inz31 g (Az31 g lf) lf x1 x2).trans ?_
   rfl
theorem hxsz31 : HxsOK Tryz.prog qo7 := trivial
theorem mkz31 {g : gz31} (hsm : SmOK Tryz.prog qpq) (hg : ∀ (x : ElA [.str, .str]) (y : Rtz31), WfA [.str, .str] x -> g x = some y -> ∃ lf, Fz31 lf x.1 x.2.1 = some y) : Con Tryz.prog 5 ⟨[.str, .str], [(false, .bool)], g⟩ :=
 conT (nmf := nmz31) (sml := qpq) (hxl := qo7) (st := stz31) (hd := hdz31) 20 mixed ttOK ftOK hsm hxsz31 cal5 rfl rfl (by kernel_rfl) (fun x => by kernel_rfl) ndz31 okz31 fun x y hx hy => by
   obtain ⟨lf, h⟩ := hg x y hx hy
   exact ⟨lf, (runz31 g lf x.1 x.2.1).trans h⟩
def nmz32 : Nat -> Option Nm := fun k => cond (Nat.beq k 2) (some ⟨[0, 3], [], [], [], [], 0, 0, false⟩) (cond (Nat.beq k 6) (some ⟨[0], [], [], [], [], 0, 0, false⟩) (none))
def stz32 : Nat -> Bool := fun k => cond (Nat.beq k 2) true (cond (Nat.beq k 6) true (false))
def hdz32 := stz32
abbrev Rtz32 : Type := ByteArray × Unit
def qks : List (Nat × Sm) := []
def qma : List (Nat × Hx) := []
def clz32 (R : Type) (lf : Nat) : ClK R := qaj Tryz.prog ttT.get ftT.get (nm1 50 nmz32) (smL qks) (hxL qma) lf 20 R
abbrev idz32 : Nat := 50
def qd9 (x1 : ByteArray) (p : Int × ByteArray) : NRes := (NRes.mk (.node (some (IV.str p.2)) (.node none (.node (some (IV.int .i64 p.1)) .leaf .leaf) .leaf) .leaf) (IS.mk .leaf 0) [] 0)
def qfg (x1 : ByteArray) (p : ByteArray) : NRes := (NRes.mk (.node (some (IV.str p)) .leaf .leaf) (IS.mk .leaf 0) [] 0)
def qr4 (lf : Nat) (x1 : ByteArray) (L2 : (Int × ByteArray) -> Option Rtz32) : Option Rtz32 := (L2 ((Int.ofNat 0), x1))
def qeg (lf : Nat) (x1 : ByteArray) (L2 : (Int × ByteArray) -> Option Rtz32) (L6 : ByteArray -> Option Rtz32) (p : Int × ByteArray) : Option Rtz32 := (cond (iltI (IntKind.i64.wrap (Int.add p.1 (Int.ofNat 1))) (Int.ofNat (ByteArray.size p.2))) (match (jget (qaa p.2) p.1) with | .none  => none | .some v0 => (cond (ieqI v0 (Int.ofNat 45)) (match (jget (qaa p.2) (IntKind.i64.wrap (Int.add p.1 (Int.ofNat 1)))) with | .none  => none | .some v1 => (cond (ieqI v1 (Int.ofNat 45)) (cond (lchk (Int.ofNat 0) p.1 (Int.ofNat (ByteArray.size p.2)) (Int.ofNat (ByteArray.size p.2))) (L2 ((IntKind.i64.wrap (Int.add p.1 (Int.ofNat 1))), (ByteArray.extract p.2 0 (Int.toNat p.1)))) none) (L2 ((IntKind.i64.wrap (Int.add p.1 (Int.ofNat 1))), p.2)))) (L2 ((IntKind.i64.wrap (Int.add p.1 (Int.ofNat 1))), p.2)))) (L6 p.2))
def qje (lf : Nat) (x1 : ByteArray) (L6 : ByteArray -> Option Rtz32) (p : ByteArray) : Option Rtz32 := (cond (iltI (Int.ofNat 0) (Int.ofNat (ByteArray.size p))) (match (jget (qaa p) (IntKind.i64.wrap (Int.sub (Int.ofNat (ByteArray.size p)) (Int.ofNat 1)))) with | .none  => none | .some v0 => (cond (ieqI v0 (Int.ofNat 32)) (cond (lchk (Int.ofNat 0) (IntKind.i64.wrap (Int.sub (Int.ofNat (ByteArray.size p)) (Int.ofNat 1))) (Int.ofNat (ByteArray.size p)) (Int.ofNat (ByteArray.size p))) (L6 (ByteArray.extract p 0 (Int.toNat (IntKind.i64.wrap (Int.sub (Int.ofNat (ByteArray.size p)) (Int.ofNat 1)))))) none) (some (p, ())))) (some (p, ())))
abbrev gz32 : Type := ElA [.str] -> Option Rtz32
abbrev sz32 (g : gz32) : Sm := ⟨[.str], [(false, .str)], g⟩
abbrev Ez32 (g : gz32) (J : JT Rtz32) (lf : Nat) (x1 : ByteArray) := qar Tryz.prog ttT.get nmz32 fi50.nt (clz32 _ lf) lf stz32 J fi50.body [] (argGo (argV [.str] (x1, ())) 0 .leaf) S0 [] (lastK ttT.get fi50 (sz32 g))
abbrev Bz32 (g : gz32) (J : JT Rtz32) (lf k : Nat) (ms : List Nat) (q : NRes) := qbb Tryz.prog ttT.get nmz32 fi50.nt (clz32 _ lf) lf stz32 J k fi50.body [] ms q (lastK ttT.get fi50 (sz32 g))
theorem inz32 (g : gz32) (J : JT Rtz32) (lf : Nat) (x1 : ByteArray) : Ez32 g J lf x1 = qr4 lf x1 (fun q => J 2 [lf] (qd9 x1 q)) := by kernel_rfl
theorem stz32_2 (g : gz32) (J : JT Rtz32) (lf : Nat) (x1 : ByteArray) (m1 : Nat) (p : Int × ByteArray) : Bz32 g J lf 2 [m1] (qd9 x1 p) = qeg lf x1 (fun q => J 2 [m1] (qd9 x1 q)) (fun q => J 6 [lf] (qfg x1 q)) p := by kernel_rfl
theorem stz32_6 (g : gz32) (J : JT Rtz32) (lf : Nat) (x1 : ByteArray) (m1 : Nat) (p : ByteArray) : Bz32 g J lf 6 [m1] (qfg x1 p) = qje lf x1 (fun q => J 6 [m1] (qfg x1 q)) p := by kernel_rfl
theorem ndz32 : (regs fi50.body).Nodup := by decide +kernel
theorem okz32 : okC nmz32 stz32 hdz32 fi50.body none = true := by kernel_rfl
def Az32 (g : gz32) (lf : Nat) : JT Rtz32 := atN Tryz.prog ttT.get nmz32 fi50 (sz32 g) (clz32 _ lf) lf hdz32
def qbx (lf : Nat) (x1 : ByteArray) : Nat -> (ByteArray) -> Option Rtz32 := rounds fun K p => qje lf x1 K p
theorem qqy (g : gz32) (lf : Nat) (x1 : ByteArray) : ∀ (n : Nat) (p : ByteArray), Az32 g lf 6 [n] (qfg x1 p) = qbx lf x1 n p
 | 0, p => qa5 6 [0] rfl _
 | n + 1, p => by
   have ih := qqy g lf x1 n
   refine (qaz (qal 20 _) ndz32 okz32 6 [n + 1] [n] rfl _).trans ((stz32_6 g (Az32 g lf) lf x1 n p).trans ?_)
   rw [(show (fun q => Az32 g lf 6 [n] (qfg x1 q)) = (fun q => qbx lf x1 n q) from funext ih)]
   rfl
def qcl (lf : Nat) (x1 : ByteArray) : Nat -> (Int × ByteArray) -> Option Rtz32 := rounds fun K p => qeg lf x1 K (fun q => qbx lf x1 lf q) p
theorem qts (g : gz32) (lf : Nat) (x1 : ByteArray) : ∀ (n : Nat) (p : Int × ByteArray), Az32 g lf 2 [n] (qd9 x1 p) = qcl lf x1 n p
 | 0, p => qa5 2 [0] rfl _
 | n + 1, p => by
   have ih := qts g lf x1 n
   refine (qaz (qal 20 _) ndz32 okz32 2 [n + 1] [n] rfl _).trans ((stz32_2 g (Az32 g lf) lf x1 n p).trans ?_)
   rw [(show (fun q => Az32 g lf 6 [lf] (qfg x1 q)) = (fun q => qbx lf x1 lf q) from funext fun q => qqy g lf x1 lf q), (show (fun q => Az32 g lf 2 [n] (qd9 x1 q)) = (fun q => qcl lf x1 n q) from funext ih)]
   rfl
def Fz32 (lf : Nat) (x1 : ByteArray) : Option Rtz32 := qr4 lf x1 (fun q => qcl lf x1 lf q)
theorem runz32 (g : gz32) (lf : Nat) (x1 : ByteArray) : Ez32 g (Az32 g lf) lf x1 = Fz32 lf x1 := by
   refine (inz32 g (Az32 g lf) lf x1).trans ?_
   rw [(show (fun q => Az32 g lf 2 [lf] (qd9 x1 q)) = (fun q => qcl lf x1 lf q) from funext fun q => qts g lf x1 lf q)]
   rfl
theorem hxsz32 : HxsOK Tryz.prog qma := trivial
theorem mkz32 {g : gz32} (hsm : SmOK Tryz.prog qks) (hg : ∀ (x : ElA [.str]) (y : Rtz32), WfA [.str] x -> g x = some y -> ∃ lf, Fz32 lf x.1 = some y) : Con Tryz.prog 50 ⟨[.str], [(false, .str)], g⟩ :=
 conT (nmf := nmz32) (sml := qks) (hxl := qma) (st := stz32) (hd := hdz32) 20 mixed ttOK ftOK hsm hxsz32 cal50 rfl rfl (by kernel_rfl) (fun x => by kernel_rfl) ndz32 okz32 fun x y hx hy => by
   obtain ⟨lf, h⟩ := hg x y hx hy
   exact ⟨lf, (runz32 g lf x.1).trans h⟩
def nmz33 : Nat -> Option Nm := fun k => cond (Nat.beq k 7) (some ⟨[2, 4, 5, 6], [], [], [], [], 0, 0, false⟩) (none)
def stz33 : Nat -> Bool := fun k => cond (Nat.beq k 7) true (false)
def hdz33 := stz33
abbrev Rtz33 : Type := qzw × Unit
def qk8 : List (Nat × Sm) := [(10, spz23), (38, spz18), (50, spz32)]
def qoh : List (Nat × Hx) := []
def clz33 (R : Type) (lf : Nat) : ClK R := qaj Tryz.prog ttT.get ftT.get (nm1 20 nmz33) (smL qk8) (hxL qoh) lf 20 R
abbrev idz33 : Nat := 20
def qfj (x1 : ByteArray) (p : (List ByteArray) × ByteArray × Int) : NRes := (NRes.mk (.node none (.node none .leaf (.node (some (IV.str p.2.1)) .leaf .leaf)) (.node (some (IV.ptr 0 0)) (.node (some (IV.arr 1)) .leaf .leaf) (.node (some (IV.int .i64 p.2.2)) .leaf .leaf))) (IS.mk (.node (some (IObj.row (List.cons (IV.str (S.lit [])) (List.cons (IV.int .i64 (Int.ofNat 0)) [])))) (.node (some (IObj.arr TC.str p.1)) .leaf .leaf) .leaf) 2) [] 0)
def qlc (lf : Nat) (x1 : ByteArray) (L7 : ((List ByteArray) × ByteArray × Int) -> Option Rtz33) : Option Rtz33 := (match (cond (S.fits x1) (some ((S.tokens x1), ())) none) with | .none  => none | .some v0 => (cond (Bool.not (ieqI v0.1.2.2.2 (Int.ofNat 0))) (some (((S.lit []), v0.1.2.2.2), ())) (match (cond (S.fits x1) (some ((S.lines x1), ())) none) with | .none  => none | .some v1 => (match (jget v1.1 (Int.ofNat 0)) with | .none  => none | .some v2 => (match (GetElem?.getElem? v1.1 0) with | .none  => none | .some v3 => (match (cond (S.fits v3) (some ((strOf (S.bareR (qaa v3))), ())) none) with | .none  => none | .some v4 => (L7 (v1.1, v4.1, (Int.ofNat 1)))))))))
def qj7 (lf : Nat) (x1 : ByteArray) (L7 : ((List ByteArray) × ByteArray × Int) -> Option Rtz33) (p : (List ByteArray) × ByteArray × Int) : Option Rtz33 := (cond (iltI p.2.2 (Int.ofNat (List.length p.1))) (cond (Nat.ble (Nat.succ (Nat.add (ByteArray.size p.2.1) 1)) 9223372036854775808) (match (jget p.1 p.2.2) with | .none  => none | .some v0 => (match (GetElem?.getElem? p.1 (Int.toNat p.2.2)) with | .none  => none | .some v1 => (match (cond (S.fits v1) (some ((strOf (S.bareR (qaa v1))), ())) none) with | .none  => none | .some v2 => (cond (Nat.ble (Nat.succ (Nat.add (ByteArray.size (ByteArray.append p.2.1 (S.lit [10]))) (ByteArray.size v2.1))) 9223372036854775808) (L7 (p.1, (ByteArray.append (ByteArray.append p.2.1 (S.lit [10])) v2.1), (IntKind.i64.wrap (Int.add p.2.2 (Int.ofNat 1))))) none)))) none) (some ((p.2.1, (Int.ofNat 0)), ())))
abbrev gz33 : Type := ElA [.str] -> Option Rtz33
abbrev sz33 (g : gz33) : Sm := ⟨[.str], [(false, qp1)], g⟩
abbrev Ez33 (g : gz33) (J : JT Rtz33) (lf : Nat) (x1 : ByteArray) := qar Tryz.prog ttT.get nmz33 fi20.nt (clz33 _ lf) lf stz33 J fi20.body [] (argGo (argV [.str] (x1, ())) 0 .leaf) S0 [] (lastK ttT.get fi20 (sz33 g))
abbrev Bz33 (g : gz33) (J : JT Rtz33) (lf k : Nat) (ms : List Nat) (q : NRes) := qbb Tryz.prog ttT.get nmz33 fi20.nt (clz33 _ lf) lf stz33 J k fi20.body [] ms q (lastK ttT.get fi20 (sz33 g))
theorem inz33 (g : gz33) (J : JT Rtz33) (lf : Nat) (x1 : ByteArray) : Ez33 g J lf x1 = qlc lf x1 (fun q => J 7 [lf] (qfj x1 q)) := by kernel_rfl
theorem stz33_7 (g : gz33) (J : JT Rtz33) (lf : Nat) (x1 : ByteArray) (m1 : Nat) (p : (List ByteArray) × ByteArray × Int) : Bz33 g J lf 7 [m1] (qfj x1 p) = qj7 lf x1 (fun q => J 7 [m1] (qfj x1 q)) p := by kernel_rfl
theorem ndz33 : (regs fi20.body).Nodup := by decide +kernel
theorem okz33 : okC nmz33 stz33 hdz33 fi20.body none = true := by kernel_rfl
def Az33 (g : gz33) (lf : Nat) : JT Rtz33 := atN Tryz.prog ttT.get nmz33 fi20 (sz33 g) (clz33 _ lf) lf hdz33
def qgb (lf : Nat) (x1 : ByteArray) : Nat -> ((List ByteArray) × ByteArray × Int) -> Option Rtz33 := rounds fun K p => qj7 lf x1 K p
theorem quu (g : gz33) (lf : Nat) (x1 : ByteArray) : ∀ (n : Nat) (p : (List ByteArray) × ByteArray × Int), Az33 g lf 7 [n] (qfj x1 p) = qgb lf x1 n p
 | 0, p => qa5 7 [0] rfl _
 | n + 1, p => by
   have ih := quu g lf x1 n
   refine (qaz (qal 20 _) ndz33 okz33 7 [n + 1] [n] rfl _).trans ((stz33_7 g (Az33 g lf) lf x1 n p).trans ?_)
   rw [(show (fun q => Az33 g lf 7 [n] (qfj x1 q)) = (fun q => qgb lf x1 n q) from funext ih)]
   rfl
def Fz33 (lf : Nat) (x1 : ByteArray) : Option Rtz33 := qlc lf x1 (fun q => qgb lf x1 lf q)
theorem runz33 (g : gz33) (lf : Nat) (x1 : ByteArray) : Ez33 g (Az33 g lf) lf x1 = Fz33 lf x1 := by
   refine (inz33 g (Az33 g lf) lf x1).trans ?_
   rw [(show (fun q => Az33 g lf 7 [lf] (qfj x1 q)) = (fun q => qgb lf x1 lf q) from funext fun q => quu g lf x1 lf q)]
   rfl
theorem hxsz33 : HxsOK Tryz.prog qoh := trivial
theorem mkz33 {g : gz33} (hsm : SmOK Tryz.prog qk8) (hg : ∀ (x : ElA [.str]) (y : Rtz33), WfA [.str] x -> g x = some y -> ∃ lf, Fz33 lf x.1 = some y) : Con Tryz.prog 20 ⟨[.str], [(false, qp1)], g⟩ :=
 conT (nmf := nmz33) (sml := qk8) (hxl := qoh) (st := stz33) (hd := hdz33) 20 mixed ttOK ftOK hsm hxsz33 cal20 rfl rfl (by kernel_rfl) (fun x => by kernel_rfl) ndz33 okz33 fun x y hx hy => by
   obtain ⟨lf, h⟩ := hg x y hx hy
   exact ⟨lf, (runz33 g lf x.1).trans h⟩
def nmz34 : Nat -> Option Nm := fun k => none
def stz34 : Nat -> Bool := fun k => false
def hdz34 := stz34
abbrev Rtz34 : Type := qyk × Unit
def qpb : List (Nat × Sm) := [(10, spz23), (53, spz28)]
def qoa : List (Nat × Hx) := []
def clz34 (R : Type) (lf : Nat) : ClK R := qaj Tryz.prog ttT.get ftT.get (nm1 22 nmz34) (smL qpb) (hxL qoa) lf 20 R
abbrev idz34 : Nat := 22
def qp4 (lf : Nat) (x1 : ByteArray) (x2 : ByteArray) : Option Rtz34 := (match (cond (S.fits x1) (some ((S.tokens x1), ())) none) with | .none  => none | .some v0 => (cond (Bool.not (ieqI v0.1.2.2.2 (Int.ofNat 0))) (some ((Bool.false, v0.1.2.2.2), ())) (match (cond (S.fits x2) (some ((S.tokens x2), ())) none) with | .none  => none | .some v1 => (cond (Bool.not (ieqI v1.1.2.2.2 (Int.ofNat 0))) (some ((Bool.false, v1.1.2.2.2), ())) (some (((S.sameK v0.1.1 v1.1.1), (Int.ofNat 0)), ()))))))
abbrev gz34 : Type := ElA [.str, .str] -> Option Rtz34
abbrev sz34 (g : gz34) : Sm := ⟨[.str, .str], [(false, qow)], g⟩
abbrev Ez34 (g : gz34) (J : JT Rtz34) (lf : Nat) (x1 : ByteArray) (x2 : ByteArray) := qar Tryz.prog ttT.get nmz34 fi22.nt (clz34 _ lf) lf stz34 J fi22.body [] (argGo (argV [.str, .str] (x1, x2, ())) 0 .leaf) S0 [] (lastK ttT.get fi22 (sz34 g))
theorem inz34 (g : gz34) (J : JT Rtz34) (lf : Nat) (x1 : ByteArray) (x2 : ByteArray) : Ez34 g J lf x1 x2 = qp4 lf x1 x2 := by kernel_rfl
theorem ndz34 : (regs fi22.body).Nodup := by decide +kernel
theorem okz34 : okC nmz34 stz34 hdz34 fi22.body none = true := by kernel_rfl
def Az34 (g : gz34) (lf : Nat) : JT Rtz34 := atN Tryz.prog ttT.get nmz34 fi22 (sz34 g) (clz34 _ lf) lf hdz34
def Fz34 (lf : Nat) (x1 : ByteArray) (x2 : ByteArray) : Option Rtz34 := qp4 lf x1 x2
theorem runz34 (g : gz34) (lf : Nat) (x1 : ByteArray) (x2 : ByteArray) : Ez34 g (Az34 g lf) lf x1 x2 = Fz34 lf x1 x2 := by
   refine (inz34 g (Az34 g lf) lf x1 x2).trans ?_
   rfl
theorem hxsz34 : HxsOK Tryz.prog qoa := trivial
theorem mkz34 {g : gz34} (hsm : SmOK Tryz.prog qpb) (hg : ∀ (x : ElA [.str, .str]) (y : Rtz34), WfA [.str, .str] x -> g x = some y -> ∃ lf, Fz34 lf x.1 x.2.1 = some y) : Con Tryz.prog 22 ⟨[.str, .str], [(false, qow)], g⟩ :=
 conT (nmf := nmz34) (sml := qpb) (hxl := qoa) (st := stz34) (hd := hdz34) 20 mixed ttOK ftOK hsm hxsz34 cal22 rfl rfl (by kernel_rfl) (fun x => by kernel_rfl) ndz34 okz34 fun x y hx hy => by
   obtain ⟨lf, h⟩ := hg x y hx hy
   exact ⟨lf, (runz34 g lf x.1 x.2.1).trans h⟩
def nmz35 : Nat -> Option Nm := fun k => cond (Nat.beq k 6) (some ⟨[6, 21, 22, 23], [(6, .str)], [], [], [], 0, 0, false⟩) (cond (Nat.beq k 11) (some ⟨[6, 46, 47, 48], [(6, .str)], [], [], [], 0, 0, false⟩) (none))
def stz35 : Nat -> Bool := fun k => cond (Nat.beq k 6) true (cond (Nat.beq k 11) true (false))
def hdz35 := stz35
abbrev Rtz35 : Type := ByteArray × Int × Unit
def qnw : List (Nat × Sm) := [(47, spz27), (32, qgu), (48, qqc), (49, qtv)]
def qp9 : List (Nat × Hx) := []
def clz35 (R : Type) (lf : Nat) : ClK R := qaj Tryz.prog ttT.get ftT.get (nm1 19 nmz35) (smL qnw) (hxL qp9) lf 20 R
abbrev idz35 : Nat := 19
def qd3 (x1 : ByteArray) (p : (List qab) × (List ByteArray) × Int) : NRes := (NRes.mk (.node none (.node none (.node none (.node none .leaf (.node (some (IV.int .i64 p.2.2)) .leaf .leaf)) .leaf) (.node none .leaf (.node none (.node (some (IV.arr 1)) .leaf .leaf) .leaf))) (.node none .leaf (.node (some (IV.arr 0)) .leaf (.node none (.node (some (IV.int .i64 (Int.ofNat (List.length p.1)))) .leaf .leaf) .leaf)))) (IS.mk (.node (some (IObj.arr TC.str p.2.1)) (.node (some (IObj.arr qae p.1)) .leaf .leaf) .leaf) 2) [] 0)
def qd5 (x1 : ByteArray) (p : (List ByteArray) × Int × Int) : NRes := (NRes.mk (.node none (.node none (.node none (.node none (.node none .leaf (.node (some (IV.int .i64 p.2.1)) .leaf .leaf)) .leaf) .leaf) .leaf) (.node none (.node none (.node none (.node none .leaf (.node (some (IV.int .i64 p.2.2)) .leaf .leaf)) .leaf) .leaf) (.node (some (IV.arr 0)) .leaf (.node none .leaf (.node none (.node (some (IV.arr 0)) .leaf .leaf) .leaf))))) (IS.mk (.node (some (IObj.arr TC.str p.1)) .leaf .leaf) 1) [] 0)
def qlz (lf : Nat) (x1 : ByteArray) (L6 : ((List qab) × (List ByteArray) × Int) -> Option Rtz35) : Option Rtz35 := (match (cond (S.fits x1) (some ((S.tokens x1).2.1, ((S.tokens x1).2.2.2, ()))) none) with | .none  => none | .some v0 => (cond (Bool.not (ieqI v0.2.1 (Int.ofNat 0))) (some ((S.lit []), (v0.2.1, ()))) (match (cond (Bool.and Bool.true (S.fits x1)) (some ((S.lines x1), ())) none) with | .none  => none | .some v1 => (L6 (v0.1, v1.1, (Int.ofNat 0))))))
def qjb (lf : Nat) (x1 : ByteArray) (L6 : ((List qab) × (List ByteArray) × Int) -> Option Rtz35) (L11 : ((List ByteArray) × Int × Int) -> Option Rtz35) (p : (List qab) × (List ByteArray) × Int) : Option Rtz35 := (cond (iltI p.2.2 (Int.ofNat (List.length p.1))) (match (jget p.1 p.2.2) with | .none  => none | .some v0 => (match (GetElem?.getElem? p.1 (Int.toNat p.2.2)) with | .none  => none | .some v1 => (match (jget p.2.1 (IntKind.i64.wrap (Int.sub v1.2.2.1 (Int.ofNat 1)))) with | .none  => none | .some v2 => (match (GetElem?.getElem? p.2.1 (Int.toNat (IntKind.i64.wrap (Int.sub v1.2.2.1 (Int.ofNat 1))))) with | .none  => none | .some v3 => (cond (lchk (Int.ofNat 0) (IntKind.i64.wrap (Int.sub v1.2.2.2 (Int.ofNat 1))) (Int.ofNat (ByteArray.size v3)) (Int.ofNat (ByteArray.size v3))) (match (jget p.2.1 (IntKind.i64.wrap (Int.sub v1.2.2.1 (Int.ofNat 1)))) with | .none  => none | .some v4 => (match (GetElem?.getElem? p.2.1 (Int.toNat (IntKind.i64.wrap (Int.sub v1.2.2.1 (Int.ofNat 1))))) with | .none  => none | .some v5 => (L6 (p.1, (List.set p.2.1 (Int.toNat (IntKind.i64.wrap (Int.sub v1.2.2.1 (Int.ofNat 1)))) (ByteArray.extract v3 0 (Int.toNat (IntKind.i64.wrap (Int.sub v1.2.2.2 (Int.ofNat 1)))))), (IntKind.i64.wrap (Int.add p.2.2 (Int.ofNat 1))))))) none))))) (L11 (p.2.1, (Int.ofNat (List.length p.2.1)), (Int.ofNat 0))))
def qi4 (lf : Nat) (x1 : ByteArray) (L11 : ((List ByteArray) × Int × Int) -> Option Rtz35) (p : (List ByteArray) × Int × Int) : Option Rtz35 := (cond (iltI p.2.2 p.2.1) (match (jget p.1 p.2.2) with | .none  => none | .some v0 => (match (GetElem?.getElem? p.1 (Int.toNat p.2.2)) with | .none  => none | .some v1 => (match (cond Bool.true (some ((strOf (S.trimR (qaa v1))), ())) none) with | .none  => none | .some v2 => (match (jget p.1 p.2.2) with | .none  => none | .some v3 => (match (GetElem?.getElem? p.1 (Int.toNat p.2.2)) with | .none  => none | .some v4 => (L11 ((List.set p.1 (Int.toNat p.2.2) v2.1), p.2.1, (IntKind.i64.wrap (Int.add p.2.2 (Int.ofNat 1)))))))))) (match (cond (Bool.and Bool.true (Nat.ble (List.length (S.joinN (List.map qaa p.1))) 100000000)) (some ((strOf (S.joinN (List.map qaa p.1))), ())) none) with | .none  => none | .some v32 => (some (v32.1, ((Int.ofNat 0), ())))))
abbrev gz35 : Type := ElA [.str] -> Option Rtz35
abbrev sz35 (g : gz35) : Sm := ⟨[.str], [(false, .str), (false, (.int .i64))], g⟩
abbrev Ez35 (g : gz35) (J : JT Rtz35) (lf : Nat) (x1 : ByteArray) := qar Tryz.prog ttT.get nmz35 fi19.nt (clz35 _ lf) lf stz35 J fi19.body [] (argGo (argV [.str] (x1, ())) 0 .leaf) S0 [] (lastK ttT.get fi19 (sz35 g))
abbrev Bz35 (g : gz35) (J : JT Rtz35) (lf k : Nat) (ms : List Nat) (q : NRes) := qbb Tryz.prog ttT.get nmz35 fi19.nt (clz35 _ lf) lf stz35 J k fi19.body [] ms q (lastK ttT.get fi19 (sz35 g))
theorem inz35 (g : gz35) (J : JT Rtz35) (lf : Nat) (x1 : ByteArray) : Ez35 g J lf x1 = qlz lf x1 (fun q => J 6 [lf] (qd3 x1 q)) := by kernel_rfl
theorem stz35_6 (g : gz35) (J : JT Rtz35) (lf : Nat) (x1 : ByteArray) (m1 : Nat) (p : (List qab) × (List ByteArray) × Int) : Bz35 g J lf 6 [m1] (qd3 x1 p) = qjb lf x1 (fun q => J 6 [m1] (qd3 x1 q)) (fun q => J 11 [lf] (qd5 x1 q)) p := by kernel_rfl
theorem q0j (g : gz35) (J : JT Rtz35) (lf : Nat) (x1 : ByteArray) (m1 : Nat) (p : (List ByteArray) × Int × Int) : Bz35 g J lf 11 [m1] (qd5 x1 p) = qi4 lf x1 (fun q => J 11 [m1] (qd5 x1 q)) p := by kernel_rfl
theorem ndz35 : (regs fi19.body).Nodup := by decide +kernel
theorem okz35 : okC nmz35 stz35 hdz35 fi19.body none = true := by kernel_rfl
def Az35 (g : gz35) (lf : Nat) : JT Rtz35 := atN Tryz.prog ttT.get nmz35 fi19 (sz35 g) (clz35 _ lf) lf hdz35
def qdg (lf : Nat) (x1 : ByteArray) : Nat -> ((List ByteArray) × Int × Int) -> Option Rtz35 := rounds fun K p => qi4 lf x1 K p
theorem qrf (g : gz35) (lf : Nat) (x1 : ByteArray) : ∀ (n : Nat) (p : (List ByteArray) × Int × Int), Az35 g lf 11 [n] (qd5 x1 p) = qdg lf x1 n p
 | 0, p => qa5 11 [0] rfl _
 | n + 1, p => by
   have ih := qrf g lf x1 n
   refine (qaz (qal 20 _) ndz35 okz35 11 [n + 1] [n] rfl _).trans ((q0j g (Az35 g lf) lf x1 n p).trans ?_)
   rw [(show (fun q => Az35 g lf 11 [n] (qd5 x1 q)) = (fun q => qdg lf x1 n q) from funext ih)]
   rfl
def qgw (lf : Nat) (x1 : ByteArray) : Nat -> ((List qab) × (List ByteArray) × Int) -> Option Rtz35 := rounds fun K p => qjb lf x1 K (fun q => qdg lf x1 lf q) p
theorem qwk (g : gz35) (lf : Nat) (x1 : ByteArray) : ∀ (n : Nat) (p : (List qab) × (List ByteArray) × Int), Az35 g lf 6 [n] (qd3 x1 p) = qgw lf x1 n p
 | 0, p => qa5 6 [0] rfl _
 | n + 1, p => by
   have ih := qwk g lf x1 n
   refine (qaz (qal 20 _) ndz35 okz35 6 [n + 1] [n] rfl _).trans ((stz35_6 g (Az35 g lf) lf x1 n p).trans ?_)
   rw [(show (fun q => Az35 g lf 11 [lf] (qd5 x1 q)) = (fun q => qdg lf x1 lf q) from funext fun q => qrf g lf x1 lf q), (show (fun q => Az35 g lf 6 [n] (qd3 x1 q)) = (fun q => qgw lf x1 n q) from funext ih)]
   rfl
def Fz35 (lf : Nat) (x1 : ByteArray) : Option Rtz35 := qlz lf x1 (fun q => qgw lf x1 lf q)
theorem runz35 (g : gz35) (lf : Nat) (x1 : ByteArray) : Ez35 g (Az35 g lf) lf x1 = Fz35 lf x1 := by
   refine (inz35 g (Az35 g lf) lf x1).trans ?_
   rw [(show (fun q => Az35 g lf 6 [lf] (qd3 x1 q)) = (fun q => qgw lf x1 lf q) from funext fun q => qwk g lf x1 lf q)]
   rfl
theorem hxsz35 : HxsOK Tryz.prog qp9 := trivial
theorem mkz35 {g : gz35} (hsm : SmOK Tryz.prog qnw) (hg : ∀ (x : ElA [.str]) (y : Rtz35), WfA [.str] x -> g x = some y -> ∃ lf, Fz35 lf x.1 = some y) : Con Tryz.prog 19 ⟨[.str], [(false, .str), (false, (.int .i64))], g⟩ :=
 conT (nmf := nmz35) (sml := qnw) (hxl := qp9) (st := stz35) (hd := hdz35) 20 mixed ttOK ftOK hsm hxsz35 cal19 rfl rfl (by kernel_rfl) (fun x => by kernel_rfl) ndz35 okz35 fun x y hx hy => by
   obtain ⟨lf, h⟩ := hg x y hx hy
   exact ⟨lf, (runz35 g lf x.1).trans h⟩
end Go.Proofs.YtanenikkloolfaaGreatDoor
end

section
namespace Go.Proofs.YtanenikkloolfaaGreatDoor
open Go Go.RowKit Go.Shelf
def qv1 : Go.Shelf.Ren := ⟨fun | 156 => 49 | 165 => 79 | 166 => 55 | 169 => 57 | 240 => 83 | 241 => 109 | 276 => 111 | 277 => 127 | n => n, fun | 31 => 66 | 9 => 9 | 3 => 3 | 4 => 4 | 0 => 0 | 20 => 20 | 72 => 93 | 76 => 97 | 70 => 90 | 37 => 91 | 75 => 96 | 127 => 134 | 164 => 147 | 5 => 5 | 80 => 100 | n => n, fun | n => n⟩
theorem qvr : Go.Proofs.Lays.n156 Tryz.prog qv1 := {
 mixed := by kernel_rfl
 f156 := Tryz.func49.trans (congrArg some (by kernel_rfl))
 f165 := Tryz.func79.trans (congrArg some (by kernel_rfl))
 f166 := Tryz.func55.trans (congrArg some (by kernel_rfl))
 f169 := Tryz.func57.trans (congrArg some (by kernel_rfl))
 f240 := Tryz.func83.trans (congrArg some (by kernel_rfl))
 f241 := Tryz.func109.trans (congrArg some (by kernel_rfl))
 f276 := Tryz.func111.trans (congrArg some (by kernel_rfl))
 f277 := Tryz.func127.trans (congrArg some (by kernel_rfl))
 t0 := Tryz.underlying0
 a0 := Tryz.isAgg0
 z0 := Tryz.sizeOf0
 v0 := Tryz.zeroValue0
 t3 := Tryz.underlying3
 a3 := Tryz.isAgg3
 z3 := Tryz.sizeOf3
 v3 := Tryz.zeroValue3
 t4 := Tryz.underlying4
 a4 := Tryz.isAgg4
 z4 := Tryz.sizeOf4
 v4 := Tryz.zeroValue4
 t9 := Tryz.underlying9
 a9 := Tryz.isAgg9
 z9 := Tryz.sizeOf9
 v9 := Tryz.zeroValue9
 t20 := Tryz.underlying20
 a20 := Tryz.isAgg20
 z20 := Tryz.sizeOf20
 v20 := Tryz.zeroValue20
 t31 := Tryz.underlying66
 a31 := Tryz.isAgg66
 z31 := Tryz.sizeOf66
 v31 := Tryz.zeroValue66
 t37 := Tryz.underlying91
 a37 := Tryz.isAgg91
 z37 := Tryz.sizeOf91
 v37 := Tryz.zeroValue91
 t70 := Tryz.underlying90
 a70 := Tryz.isAgg90
 z70 := Tryz.sizeOf90
 v70 := Tryz.zeroValue90
 t72 := Tryz.underlying93
 a72 := Tryz.isAgg93
 z72 := Tryz.sizeOf93
 v72 := Tryz.zeroValue93
 t75 := Tryz.underlying96
 a75 := Tryz.isAgg96
 z75 := Tryz.sizeOf96
 v75 := Tryz.zeroValue96
 t76 := Tryz.underlying97
 a76 := Tryz.isAgg97
 z76 := Tryz.sizeOf97
 v76 := Tryz.zeroValue97
 t127 := Tryz.underlying134
 a127 := Tryz.isAgg134
 z127 := Tryz.sizeOf134
 v127 := Tryz.zeroValue134
 t164 := Tryz.underlying147
 a164 := Tryz.isAgg147
 z164 := Tryz.sizeOf147
 v164 := Tryz.zeroValue147 }
theorem qux : Builder.Extra Tryz.prog qv1 := {
 sizeBuilder := by kernel_rfl
 liesBuilder := by kernel_rfl
 t5 := Tryz.underlying5
 a5 := Tryz.isAgg5
 z5 := Tryz.sizeOf5
 v5 := Tryz.zeroValue5
 infoByte := by kernel_rfl
 cellsByte := by kernel_rfl
 sizeByte := by kernel_rfl
 neB5 := by decide }
theorem q2g (a : Option Addr) (c : Nat) (sep : ByteArray) (w : World) :
   Calls Tryz.prog 49 #[.slice a 0 c, .string sep] w fun e w' => e = .returned (.string ⟨#[]⟩) /\ w' = w := Any.strings_Join_none qvr qux a c sep w
theorem qyf (bk o c : Nat) (xs : List ByteArray) (sep : ByteArray) (w : World) (hcells : ∀ (j : Nat) x, xs[j]? = some x -> w.cell? ⟨bk, o + j, none⟩ = some (.string x)) (hbk : bk < w.heap.size) (hN : xs.length <= 140737488355328) (hcap : xs.length <= c) (hlen : (Lib.join (xs.map (·.data.toList)) sep.data.toList).length <= 140737488355328) :
   Calls Tryz.prog 49 #[.slice (some ⟨bk, o, none⟩) xs.length c, .string sep] w fun e w' => e = .returned (.string ⟨(Lib.join (xs.map (·.data.toList)) sep.data.toList).toArray⟩) /\ Below w.heap.size w w' := Any.strings_Join qvr qux bk o c xs sep w hcells hbk hN hcap hlen
def qxz : Go.Shelf.Ren := ⟨fun | 162 => 48 | 232 => 75 | 227 => 76 | 234 => 77 | 236 => 78 | 228 => 106 | 271 => 107 | 151 => 108 | 120 => 125 | 197 => 117 | 152 => 126 | 260 => 134 | 137 => 136 | 119 => 137 | 224 => 130 | 225 => 129 | 217 => 128 | 266 => 138 | n => n, fun | 9 => 9 | 4 => 4 | 3 => 3 | 5 => 5 | 117 => 128 | 116 => 127 | 0 => 0 | 124 => 131 | 21 => 21 | 105 => 144 | 46 => 162 | 119 => 135 | 139 => 181 | 138 => 180 | n => n, fun | 3 => 3 | 4 => 4 | n => n⟩
theorem qyd : Go.Proofs.Lays.n162 Tryz.prog qxz := {
 mixed := by kernel_rfl
 f119 := Tryz.func137.trans (congrArg some (by kernel_rfl))
 f120 := Tryz.func125.trans (congrArg some (by kernel_rfl))
 f137 := Tryz.func136.trans (congrArg some (by kernel_rfl))
 f151 := Tryz.func108.trans (congrArg some (by kernel_rfl))
 f152 := Tryz.func126.trans (congrArg some (by kernel_rfl))
 f162 := Tryz.func48.trans (congrArg some (by kernel_rfl))
 f197 := Tryz.func117.trans (congrArg some (by kernel_rfl))
 f217 := Tryz.func128.trans (congrArg some (by kernel_rfl))
 f224 := Tryz.func130.trans (congrArg some (by kernel_rfl))
 f225 := Tryz.func129.trans (congrArg some (by kernel_rfl))
 f227 := Tryz.func76.trans (congrArg some (by kernel_rfl))
 f228 := Tryz.func106.trans (congrArg some (by kernel_rfl))
 f232 := Tryz.func75.trans (congrArg some (by kernel_rfl))
 f234 := Tryz.func77.trans (congrArg some (by kernel_rfl))
 f236 := Tryz.func78.trans (congrArg some (by kernel_rfl))
 f260 := Tryz.func134.trans (congrArg some (by kernel_rfl))
 f266 := Tryz.func138.trans (congrArg some (by kernel_rfl))
 f271 := Tryz.func107.trans (congrArg some (by kernel_rfl))
 t0 := Tryz.underlying0
 a0 := Tryz.isAgg0
 z0 := Tryz.sizeOf0
 v0 := Tryz.zeroValue0
 t3 := Tryz.underlying3
 a3 := Tryz.isAgg3
 z3 := Tryz.sizeOf3
 v3 := Tryz.zeroValue3
 t4 := Tryz.underlying4
 a4 := Tryz.isAgg4
 z4 := Tryz.sizeOf4
 v4 := Tryz.zeroValue4
 t5 := Tryz.underlying5
 a5 := Tryz.isAgg5
 z5 := Tryz.sizeOf5
 v5 := Tryz.zeroValue5
 t9 := Tryz.underlying9
 a9 := Tryz.isAgg9
 z9 := Tryz.sizeOf9
 v9 := Tryz.zeroValue9
 t21 := Tryz.underlying21
 a21 := Tryz.isAgg21
 z21 := Tryz.sizeOf21
 v21 := Tryz.zeroValue21
 t46 := Tryz.underlying162
 a46 := Tryz.isAgg162
 z46 := Tryz.sizeOf162
 v46 := Tryz.zeroValue162
 t105 := Tryz.underlying144
 a105 := Tryz.isAgg144
 z105 := Tryz.sizeOf144
 v105 := Tryz.zeroValue144
 t116 := Tryz.underlying127
 a116 := Tryz.isAgg127
 z116 := Tryz.sizeOf127
 t117 := Tryz.underlying128
 a117 := Tryz.isAgg128
 z117 := Tryz.sizeOf128
 v117 := Tryz.zeroValue128
 t119 := Tryz.underlying135
 a119 := Tryz.isAgg135
 z119 := Tryz.sizeOf135
 t124 := Tryz.underlying131
 a124 := Tryz.isAgg131
 z124 := Tryz.sizeOf131
 v124 := Tryz.zeroValue131
 t138 := Tryz.underlying180
 a138 := Tryz.isAgg180
 z138 := Tryz.sizeOf180
 v138 := Tryz.zeroValue180
 t139 := Tryz.underlying181
 a139 := Tryz.isAgg181
 z139 := Tryz.sizeOf181
 v139 := Tryz.zeroValue181
 g3 := by kernel_rfl
 g4 := by kernel_rfl }
theorem q1m (s : ByteArray) (c : UInt8) (hc : c.toNat < 128) (w : World) (hs : s.size <= 9223372036854775807) :
   Calls Tryz.prog 48 #[.string s, .string ⟨#[c]⟩] w fun e w' => e = .returned (.string ⟨(Lib.trimRightB s.data.toList c).toArray⟩) /\ w' = w := Any.strings_TrimRight_one qyd s c hc w hs
end Go.Proofs.YtanenikkloolfaaGreatDoor
end

noncomputable section
set_option maxRecDepth 100000
namespace Go.Proofs.YtanenikkloolfaaGreatDoor
open Go Go.Sx Go.RowKit Go.Jx
theorem qya {f : Nat} {s : Sm} (hC : qag Tryz.prog f) (hr : ∀ y, resO s.rts y = [])
   (h : ∀ (M : List Nat) (w : World) (x : ElA s.pts) (us : List Value) (y : ElR s.rts), s.f x = some y -> VRs (EM M w) (argV s.pts x) us -> ∃ v, (∀ E' : Env, VR E' (tupI (resV s.rts 0 y)) v) /\ Calls Tryz.prog f us.toArray w fun e w' => e = .returned v /\ Below w.heap.size w w') : Con Tryz.prog f s :=
 ⟨hC, fun M w x us y hy hM hg hv => by
   obtain ⟨v, h1, h2⟩ := h M w x us y hy hv
   refine (callsIn_wide.2 h2).mono fun e w' hR => ?_
   obtain ⟨rfl, hb⟩ := hR
   rw [hr y]
   obtain ⟨q1, q2⟩ := Post.idle (preM hM hg) (Upd.of_below hb)
   exact ⟨v, (EM M w).at_ w', rfl, rfl, h1 _, q1, q2⟩⟩
theorem qtw : ∀ r : List UInt8, ((r.dropWhile (· == 32)).reverse.map fun x => ((x.toNat : Nat) : Int)) = S.trimR (r.reverse.map fun x => ((x.toNat : Nat) : Int))
 | [] => rfl
 | b :: t => by
   have ih := qtw t
   rw [List.dropWhile_cons]
   by_cases h : b = 32
   · subst h
     rw [List.reverse_cons, List.map_append, List.map_cons, List.map_nil, qiv]
     exact ih
   · have h2 : ¬ ((b.toNat : Nat) : Int) = 32 := fun e => h (qm6 (b := 32) e)
     rw [show (b == 32) = false by simp [h]]
     simp only [Bool.false_eq_true, if_false]
     rw [List.reverse_cons, List.map_append, List.map_cons, List.map_nil, qiv, if_neg h2]
theorem qty (l : List UInt8) : qaa ⟨l.toArray⟩ = l.map fun x => ((x.toNat : Nat) : Int) := rfl
theorem q14 (s : ByteArray) : (⟨(Lib.trimRightB s.data.toList 32).toArray⟩ : ByteArray) = strOf (S.trimR (qaa s)) := by
 have h := qtw s.data.toList.reverse
 rw [List.reverse_reverse] at h
 have hb : qaa s = s.data.toList.map fun x => ((x.toNat : Nat) : Int) := rfl
 refine qfp ?_
 rw [qch fun b hb => qbv ((qc6 _).subset hb), qty, hb]
 exact h
theorem qpl : ∀ xs : List ByteArray, ((Lib.join (xs.map (·.data.toList)) [10]).map fun x => ((x.toNat : Nat) : Int)) = S.joinN (xs.map qaa)
 | [] => rfl
 | [x] => by
   rw [List.map_cons, List.map_nil, Lib.join_one]; rfl
 | x :: y :: l => by
   have ih := qpl (y :: l)
   rw [List.map_cons, List.map_cons, Lib.join_cons] at ih ⊢
   rw [List.map_cons, List.map_cons, qcq]
   rw [<- ih, Lib.joinTail, List.map_cons, List.flatten_cons]
   simp only [List.map_append, List.map_cons, Lib.joinTail, List.append_assoc, List.cons_append, List.nil_append]
   rfl
theorem q2s (xs : List ByteArray) : (⟨(Lib.join (xs.map (·.data.toList)) [10]).toArray⟩ : ByteArray) = strOf (S.joinN (xs.map qaa)) := by
 refine qfp ?_
 rw [qch fun b hb => ?_, qty, qpl]
 rcases qn7 _ b hb with rfl | ⟨x, hx, hb⟩
 · exact ⟨by decide, by decide⟩
 · obtain ⟨y, _, rfl⟩ := List.mem_map.1 hx
   exact qbv hb
theorem q3q {E : Env} (s t : ByteArray) {us : List Value} {y : ByteArray × Unit} (hy : cond (keqS t (S.lit [32])) (some (strOf (S.trimR (qaa s)), ())) none = some y) (hv : VRs E [.str s, .str t] us) :
   ∃ v, VR E (.str y.1) v /\ Calls Tryz.prog 48 us.toArray E.w fun e w' => e = .returned v /\ w' = E.w := by
 obtain ⟨hk, hy⟩ := qa2 hy
 subst hy
 have ht : t = S.lit [32] := of_decide_eq_true hk
 subst ht
 obtain ⟨u1, us1, rfl, a1, a2⟩ := hv.inv
 obtain ⟨u2, us2, rfl, a3, a4⟩ := a2.inv
 have e : us2 = [] := by have := a4.1; simpa using this.symm
 subst e
 cases a1 with
 | str _ hs =>
 cases a3
 refine ⟨.string (strOf (S.trimR (qaa s))), .str _ ?_, (q1m s 32 (by decide) E.w (by omega)).mono fun e w' h => ?_⟩
 · rw [qb3]
   have := (qc6 (qaa s)).length_le
   rw [qaf] at this
   omega
 · rw [<- q14]
   exact h
theorem qz2 : Con Tryz.prog 48 qqc :=
 qlm cal48 (fun y => rfl) fun M w x us y hy hv => q3q x.1 x.2.1 hy hv
theorem q1y {E : Env} (l : List ByteArray) (t : ByteArray) {us : List Value} {y : ByteArray × Unit} (hy : cond (keqS t (S.lit [10]) && Nat.ble (S.joinN (l.map qaa)).length 100000000) (some (strOf (S.joinN (l.map qaa)), ())) none = some y) (hv : VRs E [.lst .str l, .str t] us) :
   ∃ v, (∀ E' : Env, VR E' (.str y.1) v) /\ Calls Tryz.prog 49 us.toArray E.w fun e w' => e = .returned v /\ Below E.w.heap.size E.w w' := by
 obtain ⟨hk, hy⟩ := qa2 hy
 subst hy
 rw [Bool.and_eq_true] at hk
 have ht : t = S.lit [10] := of_decide_eq_true hk.1
 subst ht
 have hle := Nat.le_of_ble_eq_true hk.2
 obtain ⟨u1, us1, rfl, a1, a2⟩ := hv.inv
 obtain ⟨u2, us2, rfl, a3, a4⟩ := a2.inv
 have e : us2 = [] := by have := a4.1; simpa using this.symm
 subst e
 cases a3
 refine ⟨.string (strOf (S.joinN (l.map qaa))), fun E' => .str _ (by rw [qb3]; omega), ?_⟩
 cases a1 with
 | lst0 h =>
   refine (q2g _ _ _ E.w).mono fun e w' h => ?_
   obtain ⟨rfl, rfl⟩ := h
   exact ⟨rfl, Below.refl _ _⟩
 | @lst _ l b off cap cells ty fz vs h1 h2 h3 hb hh hc hu =>
   have hl : l.length * 16 <= 140737488355328 := h3
   have hjl : (Lib.join (l.map (·.data.toList)) [10]).length = (S.joinN (l.map qaa)).length := by rw [<- qpl, List.length_map]
   refine (qyf b off cap l (S.lit [10]) E.w (fun j x hx => ?_) (qam hh) (by omega) h1 (by show (Lib.join (l.map (·.data.toList)) [10]).length <= _; omega)).mono fun e w' h => ?_
   · obtain ⟨hj, hxe⟩ := List.getElem?_eq_some_iff.1 hx
     have hcc := hc j hj 0 (by decide)
     have hvu := hu j hj 0 (by exact Nat.zero_lt_one)
     have hvu : VR E (.str l[j]) (vs j 0) := hvu
     rw [hxe] at hvu
     have e1 : off + j * csz .str + 0 = off + j := by show off + j * 1 + 0 = off + j; omega
     rw [e1] at hcc
     generalize vs j 0 = vv at hvu hcc
     cases hvu
     simp only [World.cell?, hh]
     exact hcc
   · obtain ⟨rfl, hbw⟩ := h
     refine ⟨?_, hbw⟩
     rw [<- q2s]
     rfl
theorem q2v : Con Tryz.prog 49 qtv :=
 qya cal49 (fun y => rfl) fun M w x us y hy hv => q1y x.1 x.2.1 hy hv
theorem qyg (i : Nat) (h : i < 9223372036854775808) : IntKind.i64.wrap (Int.sub (Int.ofNat (i + 1)) (Int.ofNat 1)) = Int.ofNat i := by
 rw [show Int.sub (Int.ofNat (i + 1)) (Int.ofNat 1) = Int.ofNat i by show ((i + 1 : Nat) : Int) - 1 = (i : Int); omega]
 exact qaw (n := i) (by omega)
theorem qvj (x : ByteArray) : ∀ (n : Nat) (p : ByteArray), p.size < n -> p.size <= 1000000 -> qbx LF x n p = some (strOf (S.trimR (qaa p)), ())
 | 0, p, h, _ => by omega
 | n + 1, p, h, hp => by
   show qje LF x (qbx LF x n) p = _
   simp only [qje, qbf]
   by_cases h0 : p.size = 0
   · have hnil : qaa p = [] := by rw [<- List.length_eq_zero_iff, qaf, h0]
     rw [decide_eq_false (by omega), cond_false, hnil]
     have e : strOf (S.trimR []) = p := by
       have := qbq p
       rw [hnil] at this
       exact this
     rw [e]
   · obtain ⟨k, hk⟩ : ∃ k, p.size = k + 1 := ⟨p.size - 1, by omega⟩
     obtain ⟨b, hb⟩ : ∃ b, (qaa p)[k]? = some b := ⟨_, List.getElem?_eq_getElem (by rw [qaf]; omega)⟩
     have hj : jget (qaa p) (Int.ofNat k) = some b := qa8.trans hb
     have hs : qaa p = (qaa p).take k ++ [b] := by
       have := List.take_add_one (l := qaa p) (i := k)
       rw [hb, List.take_of_length_le (by rw [qaf]; omega)] at this
       exact this
     have hc : lchk (Int.ofNat 0) (Int.ofNat k) (Int.ofNat (k + 1)) (Int.ofNat (k + 1)) = true := qgq (by omega)
     have t0 : Int.toNat (Int.ofNat k) = k := rfl
     have htr : S.trimR (qaa p) = if b = 32 then S.trimR ((qaa p).take k) else (qaa p).take k ++ [b] := by
       conv => lhs; rw [hs]
       exact qiv b _
     rw [decide_eq_true (by omega), cond_true, hk, qyg k (by omega), hj, hc, t0]
     simp only [cond_true]
     by_cases h32 : b = 32
     · have e1 : (p.extract 0 k).size = k := by rw [<- qaf, qb8, List.length_take, qaf]; omega
       rw [ieq_t (show b = Int.ofNat 32 from h32), cond_true, qvj x n (p.extract 0 k) (by omega) (by omega), qb8, htr, if_pos h32]
     · rw [ieq_f (show ¬ b = Int.ofNat 32 from h32), cond_false, htr, if_neg h32, <- hs, qbq]
theorem qqj (x s : ByteArray) (n i : Nat) (hi : i <= 1000000) (h : s.size <= i + 1) : qcl LF x (n + 1) (Int.ofNat i, s) = qbx LF x LF s := by
 show qeg LF x (qcl LF x n) (fun q => qbx LF x LF q) (Int.ofNat i, s) = _
 have w1 : IntKind.i64.wrap (Int.add (Int.ofNat i) (Int.ofNat 1)) = Int.ofNat (i + 1) := qaw (n := i + 1) (by omega)
 simp only [qeg, w1, qbf]
 rw [decide_eq_false (by omega), cond_false]
theorem qtm (x s : ByteArray) (hs : s.size <= 1000000) : ∀ (n i : Nat), i <= s.size -> s.size - i < n -> qcl LF x n (Int.ofNat i, s) = qbx LF x LF (strOf ((qaa s).take i ++ S.cutDash ((qaa s).drop i)))
 | 0, i, _, h => by omega
 | n + 1, i, hi, h => by
   have hl : (qaa s).length = s.size := qaf s
   by_cases c : s.size <= i + 1
   · rw [qqj x s n i (by omega) c]
     have hd : S.cutDash ((qaa s).drop i) = (qaa s).drop i := by
       have hle : ((qaa s).drop i).length <= 1 := by rw [List.length_drop]; omega
       match hd : (qaa s).drop i, hle with
       | [], _ => rfl
       | [b], _ => rw [qdn, if_neg (fun e => absurd e.2 (by simp))]; rfl
     rw [hd, List.take_append_drop, qbq]
   · obtain ⟨b, hb⟩ : ∃ b, (qaa s)[i]? = some b := ⟨_, List.getElem?_eq_getElem (by omega)⟩
     obtain ⟨b', hb'⟩ : ∃ b, (qaa s)[i + 1]? = some b := ⟨_, List.getElem?_eq_getElem (by omega)⟩
     have w1 : IntKind.i64.wrap (Int.add (Int.ofNat i) (Int.ofNat 1)) = Int.ofNat (i + 1) := qaw (n := i + 1) (by omega)
     have hj : jget (qaa s) (Int.ofNat i) = some b := qa8.trans hb
     have hj' : jget (qaa s) (Int.ofNat (i + 1)) = some b' := qa8.trans hb'
     have hd : (qaa s).drop i = b :: (qaa s).drop (i + 1) := by
       obtain ⟨h1, h2⟩ := List.getElem?_eq_some_iff.1 hb
       rw [List.drop_eq_getElem_cons h1, h2]
     have h0 : ((qaa s).drop (i + 1))[0]? = some b' := by rw [List.getElem?_drop]; exact hb'
     have ht : (qaa s).take (i + 1) = (qaa s).take i ++ [b] := by
       have := List.take_add_one (l := qaa s) (i := i)
       rw [hb] at this
       exact this
     have hc : lchk (Int.ofNat 0) (Int.ofNat i) (Int.ofNat s.size) (Int.ofNat s.size) = true := qgq hi
     have t0 : Int.toNat (Int.ofNat i) = i := rfl
     have ih := qtm x s hs n (i + 1) (by omega) (by omega)
     have go : ¬ (b = 45 /\ b' = 45) -> qcl LF x n (Int.ofNat (i + 1), s) = qbx LF x LF (strOf ((qaa s).take i ++ S.cutDash ((qaa s).drop i))) := fun hn => by
       rw [ih, hd, qdn, if_neg (fun e => hn ⟨e.1, by rw [h0] at e; exact Option.some.inj e.2⟩), ht, List.append_assoc]
       rfl
     show qeg LF x (qcl LF x n) (fun q => qbx LF x LF q) (Int.ofNat i, s) = _
     simp only [qeg, w1, qbf, hj, hj', hc, t0, cond_true]
     rw [decide_eq_true (by omega), cond_true]
     by_cases c1 : b = 45
     · rw [ieq_t (show b = Int.ofNat 45 from c1), cond_true]
       by_cases c2 : b' = 45
       · rw [ieq_t (show b' = Int.ofNat 45 from c2), cond_true]
         have e1 : (s.extract 0 i).size = i := by rw [<- qaf, qb8, List.length_take, qaf]; omega
         obtain ⟨n', rfl⟩ : ∃ n', n = n' + 1 := ⟨n - 1, by omega⟩
         rw [qqj x _ n' (i + 1) (by omega) (by omega), hd, qdn, if_pos ⟨c1, by rw [h0, c2]⟩, List.append_nil, <- qb8, qbq]
       · rw [ieq_f (show ¬ b' = Int.ofNat 45 from c2), cond_false]
         exact go fun e => c2 e.2
     · rw [ieq_f (show ¬ b = Int.ofNat 45 from c1), cond_false]
       exact go fun e => c1 e.1
theorem Fz32_eq (s : ByteArray) (hf : S.fits s = true) : Fz32 LF s = some (strOf (S.bareR (qaa s)), ()) := by
 have hs := qb2 hf
 have hb : qaa (strOf (S.cutDash (qaa s))) = S.cutDash (qaa s) := qch fun b hb => qbv ((qee _).subset hb)
 have hsz : (strOf (S.cutDash (qaa s))).size <= s.size := by
   rw [qb3, <- qaf s]
   exact (qee _).length_le
 have h2 := qtm s s hs LF 0 (Nat.zero_le _) (by unfold LF; omega)
 rw [List.take_zero, List.drop_zero, List.nil_append, qvj s LF _ (by unfold LF; omega) (by omega), hb] at h2
 exact h2
theorem conz32 : Con Tryz.prog idz32 spz32 := mkz32 trivial fun x y hx h => ⟨LF, by
 obtain ⟨h1, h2⟩ := qa2 (show cond (S.fits x.1) (some (strOf (S.bareR (qaa x.1)), ())) none = some y from h)
 exact (Fz32_eq x.1 h1).trans (congrArg some h2)⟩
theorem qs7 (y : List Int) : ∀ l : List (List Int), l ≠ [] -> S.joinN (l ++ [y]) = S.joinN l ++ 10 :: y
 | [], h => absurd rfl h
 | [x], _ => rfl
 | x :: z :: l, _ => by
   have ih := qs7 y (z :: l) (by simp)
   rw [List.cons_append, List.cons_append, qcq, <- List.cons_append, ih, qcq, List.append_assoc]
   rfl
theorem qv7 (N : Nat) : ∀ l : List (List Int), (∀ x ∈ l, x.length <= N) -> (S.joinN l).length <= (N + 1) * l.length
 | [], _ => Nat.zero_le _
 | [x], h => by
   have := h x List.mem_cons_self
   show x.length <= (N + 1) * 1
   omega
 | x :: z :: l, h => by
   have ih := qv7 N (z :: l) fun y hy => h y (List.mem_cons_of_mem _ hy)
   have := h x List.mem_cons_self
   rw [qcq, List.length_append, List.length_cons, List.length_cons, Nat.mul_succ]
   omega
def bareB (x : ByteArray) : List Int := S.bareR (qaa x)
theorem qr5 (l : List ByteArray) : ∀ b ∈ S.joinN (l.map bareB), 0 <= b /\ b < 256 := fun b hb => by
 rcases qn7 _ b hb with rfl | ⟨x, hx, hb⟩
 · exact ⟨by decide, by decide⟩
 · obtain ⟨y, _, rfl⟩ := List.mem_map.1 hx
   exact qbv ((qee _).subset ((qc6 _).subset hb))
theorem qqe (x : ByteArray) : (bareB x).length <= x.size := by
 have h1 := (qc6 (S.cutDash (qaa x))).length_le
 have h2 := (qee (qaa x)).length_le
 rw [qaf] at h2
 show (S.trimR _).length <= _
 omega
theorem q4d (s : ByteArray) (l : List ByteArray) (h0 : 1 <= l.length) (hl : l.length <= 1000001) (hs : ∀ x ∈ l, x.size <= 1000000) : qgb LF s LF (l, strOf (S.joinN ((l.take 1).map bareB)), Int.ofNat 1) = some ((strOf (S.joinN (l.map bareB)), 0), ()) := by
 refine qn3 (σ := ByteArray) (R := Rtz33) l (fun i q => (l, q, i)) (fun i q => 1 <= i /\ q = strOf (S.joinN ((l.take i).map bareB))) (fun _ _ _ => some ((strOf (S.joinN (l.map bareB)), 0), ())) (by unfold LF; omega) (fun K q hq => ?_) (fun K i v rest q hq r h => ?_) LF 1 _ h0 ⟨Nat.le_refl _, rfl⟩ (by unfold LF; omega)
 · obtain ⟨_, hq⟩ := hq
   rw [List.take_length] at hq
   simp only [qj7, qa4, cond_false]
   rw [hq]; rfl
 · obtain ⟨h1, hq⟩ := hq
   have hi := r.lt
   have hv := hs v r.mem
   have hvf : S.fits v = true := Nat.ble_eq_true_of_le hv
   have hqs : q.size <= 2000000000000 := by
     rw [hq, qb3]
     have := qv7 1000000 ((l.take i).map bareB) fun x hx => by
       obtain ⟨y, hy, rfl⟩ := List.mem_map.1 hx
       exact Nat.le_trans (qqe y) (hs y (List.mem_of_mem_take hy))
     rw [List.length_map, List.length_take] at this
     omega
   have hbv := qqe v
   have b1 : Nat.ble (Nat.succ (Nat.add q.size 1)) 9223372036854775808 = true := Nat.ble_eq_true_of_le (by show q.size + 1 + 1 <= _; omega)
   have sz : (ByteArray.append q (S.lit [10])).size = q.size + 1 := by
     have : qaa (ByteArray.append q (S.lit [10])) = qaa q ++ [10] := qvg _ _
     rw [<- qaf, this, List.length_append, qaf]; rfl
   have b2 : Nat.ble (Nat.succ (Nat.add (ByteArray.append q (S.lit [10])).size (strOf (S.bareR (qaa v))).size)) 9223372036854775808 = true := Nat.ble_eq_true_of_le (by
     show (ByteArray.append q (S.lit [10])).size + (strOf (S.bareR (qaa v))).size + 1 <= _
     rw [sz, qb3]
     have : (S.bareR (qaa v)).length <= v.size := hbv
     omega)
   have hv' : l[Int.toNat (Int.ofNat i)]? = some v := r.get?
   simp only [qj7, r.ilt, r.get, r.next, cond_true, b1, hv', hvf, b2]
   refine h _ ⟨by omega, qfp ?_⟩
   have ap : ∀ a b : ByteArray, qaa (ByteArray.append a b) = qaa a ++ qaa b := fun a b => qvg _ _
   have hbb : qaa (strOf (S.bareR (qaa v))) = bareB v := qch fun b hb => qbv ((qee _).subset ((qc6 _).subset hb))
   have hne : (l.take i).map bareB ≠ [] := by
     intro e
     have := congrArg List.length e
     rw [List.length_map, List.length_take] at this
     have e2 : min i l.length = 0 := this
     omega
   rw [qch (qr5 _), ap, ap, hbb, hq, qch (qr5 _), r.take, List.map_append]
   show S.joinN ((l.take i).map bareB) ++ [10] ++ bareB v = S.joinN ((l.take i).map bareB ++ [bareB v])
   rw [qs7 _ _ hne, List.append_assoc]
   rfl
theorem Fz33_eq (s : ByteArray) (hf : S.fits s = true) : Fz33 LF s = some (S.strip s, ()) := by
 simp only [Fz33, qlc, hf, cond_true]
 by_cases h0 : (S.tokens s).2.2.2 = 0
 · rw [ieq_t (show (S.tokens s).2.2.2 = Int.ofNat 0 from h0), Bool.not_true, cond_false, qy5 h0]
   have hsz := qb2 hf
   obtain ⟨y, ys, e⟩ := qgt (qaa s)
   obtain ⟨x, hx⟩ : ∃ x, (S.lines s)[0]? = some x := by
     unfold S.lines
     rw [e]; exact ⟨_, rfl⟩
   have hxm := List.mem_of_getElem? hx
   have hxf : S.fits x = true := Nat.ble_eq_true_of_le (Nat.le_trans (qfw hxm) hsz)
   have hj : jget (S.lines s) (Int.ofNat 0) = some x := qa8.trans hx
   have hll : (S.lines s).length <= 1000001 := by
     unfold S.lines
     rw [List.length_map, qep]
     have := List.count_le_length (a := (10 : Int)) (l := qaa s)
     rw [qaf] at this
     omega
   have h1 : 1 <= (S.lines s).length := by
     have := (List.getElem?_eq_some_iff.1 hx).1
     omega
   have ht : (S.lines s).take 1 = [x] := by
     cases hls : S.lines s with
     | nil => rw [hls] at hx; cases hx
     | cons a l => rw [hls] at hx; cases hx; rfl
   have h7 := q4d s (S.lines s) h1 hll fun z hz => Nat.le_trans (qfw hz) hsz
   rw [ht] at h7
   simp only [hj, hx, hxf, cond_true]
   refine Eq.trans h7 ?_
   have : (S.lines s).map bareB = (S.splitL (qaa s)).map S.bareR := by
     rw [<- qhf s, List.map_map]; rfl
   rw [this]
 · have hst : S.strip s = (S.lit [], (S.tokens s).2.2.2) := by unfold S.strip; rw [if_neg h0]
   rw [ieq_f (show ¬ (S.tokens s).2.2.2 = Int.ofNat 0 from h0), Bool.not_false, cond_true, hst]
theorem conz33 : Con Tryz.prog idz33 spz33 := mkz33 ⟨qw2, conz18, conz32, trivial⟩ fun x y hx h => ⟨LF, by
 obtain ⟨h1, h2⟩ := qa2 (show cond (S.fits x.1) (some (S.strip x.1, ())) none = some y from h)
 exact (Fz33_eq x.1 h1).trans (congrArg some h2)⟩
theorem conz34 : Con Tryz.prog idz34 spz34 := mkz34 ⟨qw2, conz28, trivial⟩ fun x y hx h => ⟨0, by
 obtain ⟨h1, h2⟩ := qa2 (show cond (S.fits x.1 && S.fits x.2.1) (some (S.same x.1 x.2.1, ())) none = some y from h)
 rw [Bool.and_eq_true] at h1
 simp only [Fz34, qp4, h1.1, h1.2, cond_true]
 refine Eq.trans ?_ (congrArg some h2)
 unfold S.same
 by_cases c1 : (S.tokens x.1).2.2.2 = 0
 · rw [ieq_t (show (S.tokens x.1).2.2.2 = Int.ofNat 0 from c1), if_pos c1]
   by_cases c2 : (S.tokens x.2.1).2.2.2 = 0
   · rw [ieq_t (show (S.tokens x.2.1).2.2.2 = Int.ofNat 0 from c2), if_pos c2]; rfl
   · rw [ieq_f (show ¬ (S.tokens x.2.1).2.2.2 = Int.ofNat 0 from c2), if_neg c2]; rfl
 · rw [ieq_f (show ¬ (S.tokens x.1).2.2.2 = Int.ofNat 0 from c1), if_neg c1]; rfl⟩
def cutB : List ByteArray -> List qab -> List ByteArray
 | ls, [] => ls
 | ls, t :: l => cutB (ls.set (t.2.2.1 - 1).toNat ((ls.getD (t.2.2.1 - 1).toNat (S.lit [])).extract 0 (t.2.2.2 - 1).toNat)) l
theorem qm3 (ls : List ByteArray) (k : Nat) : (ls.map qaa).getD k [] = qaa (ls.getD k (S.lit [])) := by
 rw [List.getD_eq_getElem?_getD, List.getD_eq_getElem?_getD, List.getElem?_map]
 cases ls[k]? <;> rfl
theorem qvv : ∀ (l : List qab) (ls : List ByteArray), (cutB ls l).length = ls.length
 | [], ls => rfl
 | t :: l, ls => by
   show (cutB (ls.set _ _) l).length = _
   rw [qvv l, List.length_set]
theorem qum : ∀ (l : List qab) (ls : List ByteArray), (cutB ls l).map qaa = cutN (ls.map qaa) l
 | [], ls => rfl
 | t :: l, ls => by
   show (cutB (ls.set _ _) l).map qaa = cutN ((ls.map qaa).set _ _) l
   rw [qum l, List.map_set, qm3, qb8]
theorem q20 (s : ByteArray) (ls : List ByteArray) (hl : ls.length < LF) (hj : (S.joinN (ls.map fun x => S.trimR (qaa x))).length <= 100000000) :
   qdg LF s LF (ls, Int.ofNat ls.length, Int.ofNat 0) = some (strOf (S.joinN (ls.map fun x => S.trimR (qaa x))), Int.ofNat 0, ()) := by
 have tb : ∀ x : ByteArray, qaa (strOf (S.trimR (qaa x))) = S.trimR (qaa x) := fun x => qch fun b hb => qbv ((qc6 _).subset hb)
 refine range0 (σ := List ByteArray) (R := Rtz35) ls (fun i q => (q, Int.ofNat ls.length, i)) (fun i q => q = (ls.take i).map (fun x => strOf (S.trimR (qaa x))) ++ ls.drop i) (fun _ _ _ => some (strOf (S.joinN (ls.map fun x => S.trimR (qaa x))), Int.ofNat 0, ())) hl (fun K q hq => ?_) (fun K i v rest q hq r h => ?_) ls rfl
 · rw [List.take_length, List.drop_length, List.append_nil] at hq
   have e : q.map qaa = ls.map fun x => S.trimR (qaa x) := by
     rw [hq, List.map_map]
     exact List.map_congr_left fun x _ => tb x
   have hb : Nat.ble (S.joinN (ls.map fun x => S.trimR (qaa x))).length 100000000 = true := Nat.ble_eq_true_of_le hj
   simp only [qi4, qa4, cond_false, e, hb, Bool.and_true, cond_true]
 · have hi := r.lt
   have hlen : ((ls.take i).map (fun x => strOf (S.trimR (qaa x)))).length = i := by rw [List.length_map, List.length_take]; omega
   rw [r.drop] at hq
   have hg : q[i]? = some v := by
     rw [hq, List.getElem?_append_right (by omega), hlen, Nat.sub_self]; rfl
   have hj : jget q (Int.ofNat i) = some v := qa8.trans hg
   have hg' : q[Int.toNat (Int.ofNat i)]? = some v := hg
   simp only [qi4, r.ilt, r.next, cond_true, hj, hg']
   refine h _ ?_
   show q.set i (strOf (S.trimR (qaa v))) = _
   rw [hq, List.set_append_right _ _ (by omega), hlen, Nat.sub_self, r.take, r.tail, List.map_append, List.append_assoc]
   rfl
theorem strip_6 (s : ByteArray) (l : List qab) (ls : List ByteArray) (hn : l.length < LF) (hl : ls.length <= 1000001) (hs : ∀ x ∈ ls, x.size <= 1000000) (hg : GoodN (ls.map qaa) l) (Z : List ByteArray -> Option Rtz35) (hZ : ∀ q : List ByteArray, q.length = ls.length -> qdg LF s LF (q, Int.ofNat q.length, Int.ofNat 0) = Z q) :
   qgw LF s LF (l, ls, Int.ofNat 0) = Z (cutB ls l) := by
 refine range0 (σ := List ByteArray) (R := Rtz35) l (fun i q => (l, q, i)) (fun i q => q.length = ls.length /\ (∀ x ∈ q, x.size <= 1000000) /\ GoodN (q.map qaa) (l.drop i)) (fun rest i q => Z (cutB q rest)) hn (fun K q hq => ?_) (fun K i v rest q hq r h => ?_) ls ⟨rfl, hs, hg⟩
 · simp only [qjb, qa4, cond_false]
   exact hZ q hq.1
 · obtain ⟨q1, q2, q3⟩ := hq
   rw [r.drop] at q3
   obtain ⟨g1, g2, g3, g4, g5⟩ := q3
   rw [List.length_map] at g2
   rw [qm3, qaf] at g4
   obtain ⟨x, hx⟩ : ∃ x, q[(v.2.2.1 - 1).toNat]? = some x := ⟨_, List.getElem?_eq_getElem g2⟩
   have hxs := q2 x (List.mem_of_getElem? hx)
   have hgd : q.getD (v.2.2.1 - 1).toNat (S.lit []) = x := by rw [List.getD_eq_getElem?_getD, hx]; rfl
   rw [hgd] at g4
   have w1 : IntKind.i64.wrap (Int.sub v.2.2.1 (Int.ofNat 1)) = Int.ofNat (v.2.2.1 - 1).toNat := by
     rw [show Int.sub v.2.2.1 (Int.ofNat 1) = Int.ofNat (v.2.2.1 - 1).toNat by show v.2.2.1 - 1 = (((v.2.2.1 - 1).toNat : Nat) : Int); omega]
     exact qaw (by omega)
   have w2 : IntKind.i64.wrap (Int.sub v.2.2.2 (Int.ofNat 1)) = Int.ofNat (v.2.2.2 - 1).toNat := by
     rw [show Int.sub v.2.2.2 (Int.ofNat 1) = Int.ofNat (v.2.2.2 - 1).toNat by show v.2.2.2 - 1 = (((v.2.2.2 - 1).toNat : Nat) : Int); omega]
     exact qaw (by omega)
   have hj : jget q (Int.ofNat (v.2.2.1 - 1).toNat) = some x := qa8.trans hx
   have hx' : q[Int.toNat (Int.ofNat (v.2.2.1 - 1).toNat)]? = some x := hx
   have hv' : l[Int.toNat (Int.ofNat i)]? = some v := r.get?
   simp only [qjb, r.ilt, r.get, r.next, cond_true, hv', w1, w2, hj, hx', qgq g4]
   have hd : cutB q (v :: rest) = cutB (q.set (v.2.2.1 - 1).toNat (x.extract 0 (v.2.2.2 - 1).toNat)) rest := by
     show cutB (q.set _ ((q.getD _ _).extract 0 _)) rest = _
     rw [hgd]
   show K (l, q.set (v.2.2.1 - 1).toNat (x.extract 0 (v.2.2.2 - 1).toNat), Int.ofNat (i + 1)) = Z (cutB q (v :: rest))
   rw [hd]
   refine h _ ⟨by rw [List.length_set]; exact q1, fun y hy => ?_, ?_⟩
   · rcases List.mem_or_eq_of_mem_set hy with hy | hy
     · exact q2 y hy
     · rw [hy, <- qaf, qb8, List.length_take, qaf]; omega
   · rw [r.tail, List.map_set, qb8]
     rw [qm3, hgd] at g5
     exact g5
theorem Fz35_eq (s : ByteArray) (hs : S.fits s = true) : Fz35 LF s = some ((S.strip s).1, (S.strip s).2, ()) := by
 simp only [Fz35, qlz, hs, cond_true, Bool.and_true]
 by_cases h0 : (S.tokens s).2.2.2 = 0
 · obtain ⟨h1, h2⟩ := qp5 h0
   have hst : S.strip s = (strOf (S.joinN ((S.splitL (qaa s)).map S.bareL)), 0) := by unfold S.strip; rw [if_pos h0]
   rw [ieq_t (show (S.tokens s).2.2.2 = Int.ofNat 0 from h0), Bool.not_true, cond_false, hst]
   have hsz := qb2 hs
   have hmem : ∀ x ∈ S.splitL (qaa s), ∀ b ∈ x, ¬ b = 10 := fun x hx b hb => (qes _ x b hx hb).2
   have hno : (S.tokens s).2.1 = (S.readL (S.splitL (qaa s)) 1).1.filter S.isNote := by rw [h1, qv9 h2]
   obtain ⟨c1, c2⟩ := qr2 (S.splitL (qaa s)) [] hmem (by simpa using h2)
   have c1 : GoodN (S.splitL (qaa s)) ((S.readL (S.splitL (qaa s)) 1).1.filter S.isNote) := c1
   have c2 : cutN (S.splitL (qaa s)) ((S.readL (S.splitL (qaa s)) 1).1.filter S.isNote) = (S.splitL (qaa s)).map cutL := c2
   have hll : (S.lines s).length <= 1000001 := by
     unfold S.lines
     rw [List.length_map, qep]
     have := List.count_le_length (a := (10 : Int)) (l := qaa s)
     rw [qaf] at this
     omega
   have hnl : ((S.readL (S.splitL (qaa s)) 1).1.filter S.isNote).length < LF := by
     have := qxe s.size (S.splitL (qaa s)) 1 fun x hx => by
       have := qfw (s := s) (t := strOf x) (by unfold S.lines; exact List.mem_map.2 ⟨x, hx, rfl⟩)
       rw [qb3] at this
       exact this
     have h3 := List.length_filter_le S.isNote (S.readL (S.splitL (qaa s)) 1).1
     have h4 : (S.splitL (qaa s)).length <= 1000001 := by
       have := hll
       unfold S.lines at this
       rwa [List.length_map] at this
     have h5 : s.size * (S.splitL (qaa s)).length <= 1000000 * 1000001 := Nat.mul_le_mul hsz h4
     unfold LF
     omega
   rw [hno]
   have hcb : ∀ q : List ByteArray, q.length = (S.lines s).length -> (S.joinN (q.map fun x => S.trimR (qaa x))).length <= 100000000 -> qdg LF s LF (q, Int.ofNat q.length, Int.ofNat 0) = some (strOf (S.joinN (q.map fun x => S.trimR (qaa x))), Int.ofNat 0, ()) := fun q hq hj => q20 s q (by unfold LF; omega) hj
   have hbare : (cutB (S.lines s) ((S.readL (S.splitL (qaa s)) 1).1.filter S.isNote)).map (fun x => S.trimR (qaa x)) = (S.splitL (qaa s)).map S.bareL := by
     have e := qum ((S.readL (S.splitL (qaa s)) 1).1.filter S.isNote) (S.lines s)
     rw [qhf, c2] at e
     have : (cutB (S.lines s) ((S.readL (S.splitL (qaa s)) 1).1.filter S.isNote)).map (fun x => S.trimR (qaa x)) = ((cutB (S.lines s) ((S.readL (S.splitL (qaa s)) 1).1.filter S.isNote)).map qaa).map S.trimR := by rw [List.map_map]; rfl
     rw [this, e, List.map_map]
     rfl
   have hjl : (S.joinN ((S.splitL (qaa s)).map S.bareL)).length <= 100000000 := by
     have := qvy S.bareL (fun x => (q2w x).length_le) (S.splitL (qaa s))
     rw [qxp, qaf] at this
     omega
   have h6 := strip_6 s ((S.readL (S.splitL (qaa s)) 1).1.filter S.isNote) (S.lines s) hnl hll (fun x hx => Nat.le_trans (qfw hx) hsz) (by rw [qhf]; exact c1) (fun q => qdg LF s LF (q, Int.ofNat q.length, Int.ofNat 0)) fun q _ => rfl
   refine h6.trans ?_
   simp only
   rw [hcb _ (qvv _ _) (by rw [hbare]; exact hjl), hbare]
   rfl
 · have hst : S.strip s = (S.lit [], (S.tokens s).2.2.2) := by unfold S.strip; rw [if_neg h0]
   rw [ieq_f (show ¬ (S.tokens s).2.2.2 = Int.ofNat 0 from h0), Bool.not_false, cond_true, hst]
theorem conz35 : Con Tryz.prog idz35 spz35 := mkz35 ⟨conz27, qnn, qz2, q2v, trivial⟩ fun x y hx h => ⟨LF, by
 obtain ⟨h1, h2⟩ := qa2 (show cond (S.fits x.1) (some ((S.strip x.1).1, (S.strip x.1).2, ())) none = some y from h)
 exact (Fz35_eq x.1 h1).trans (congrArg some h2)⟩
theorem Fz31_eq (a b : ByteArray) : Fz31 0 a b = some (true, ()) := by
 simp only [Fz31, qog, qbf]
 by_cases ha : a.size <= 20100
 · have fa : S.fits a = true := Nat.ble_eq_true_of_le (by omega)
   by_cases hb : b.size <= 20100
   · have fb : S.fits b = true := Nat.ble_eq_true_of_le (by omega)
     have hk : ∀ z : ByteArray, keqS z z = true := fun z => decide_eq_true rfl
     have hd : ∀ z : Bool, decide (z = z) = true := fun z => decide_eq_true rfl
     simp only [fa, fb, Bool.and_true, cond_true, hk, q11, hd]
     cases decide (400 < a.size) <;> cases decide (400 < b.size) <;> cases decide (20000 < a.size) <;> cases decide (20000 < b.size) <;> cases decide (20100 < a.size) <;> cases decide (20100 < b.size) <;> rfl
   · rw [decide_eq_true (show 400 < b.size by omega), decide_eq_true (show 20000 < b.size by omega), decide_eq_true (show 20100 < b.size by omega)]
     cases decide (400 < a.size) <;> cases decide (20000 < a.size) <;> cases decide (20100 < a.size) <;> rfl
 · rw [decide_eq_true (show 400 < a.size by omega), decide_eq_true (show 20000 < a.size by omega), decide_eq_true (show 20100 < a.size by omega)]
   rfl
theorem conz31 : Con Tryz.prog idz31 ⟨[.str, .str], [(false, .bool)], fun _ => some (true, ())⟩ :=
 mkz31 ⟨conz35, conz33, conz30, conz34, qzg, trivial⟩ fun x y hx h => ⟨0, (Fz31_eq x.1 x.2.1).trans h⟩
end Go.Proofs.YtanenikkloolfaaGreatDoor
end

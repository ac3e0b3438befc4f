/- Texts: Xr6, Xg9, Xp18, Xl4, Xsan, Xl5. -/
import Derived.Test.YtanenikkloolfaaDoorMc5
import Derived.Test.YtanenikkloolfaaDoorMc4
set_option linter.unusedVariables false
noncomputable section
set_option maxRecDepth 100000
namespace Go.Proofs.YtanenikkloolfaaDoor
open Go Go.Sx Go.RowKit Go.Jx
noncomputable section
namespace S
def okL (ls : List ByteArray) (n : Int) : Bool := Nat.ble ls.length 1000001 && (ls.all (fun s => Nat.ble s.size 1000000 && (byteList s).all fun b => !decide (b = 10)) && (decide (0 ≤ n) && decide (n ≤ 1000001)))
def readX (w : Int → Bool) (ls : List ByteArray) (n : Int) : List DToken × DPlace × Int := ((readL (ls.map byteList) n).1.filter (fun t => w t.1), (readL (ls.map byteList) n).2)
def wTok (k : Int) : Bool := !decide (k = 6)
def wNote (k : Int) : Bool := decide (k = 6)
end S
abbrev DRd : Type := (Int × Unit) × (Unit × Unit) × (List DToken × Unit) × (DPlace × Unit) × (Int × Unit) × (List DToken × Unit) × (Int × Unit) × Unit
def rdD (first : Int) (out : List DToken) (i : Int) (pl : DPlace) (e : Int) : DRd := ((first, ()), (((), ()), (([], ()), (((pl.1, pl.2), ()), ((e, ()), ((out, ()), ((i, ()), ())))))))
def Gtok : DRd → DLexPiece → Option (DRd × Bool) := (fun v2 v3 => (cond (Bool.not (ieqI v3.2.2 (Int.ofNat 0))) (some (((v2.1.1, ()), (((), ()), (([], ()), ((((Go.IntKind.wrap Go.IntKind.i64 (Int.add v2.1.1 v2.2.2.2.2.2.2.1.1)), (Go.IntKind.wrap Go.IntKind.i64 (Int.add (Int.ofNat 1) v3.2.1))), ()), ((v3.2.2, ()), ((v2.2.2.2.2.2.1.1, ()), ((v2.2.2.2.2.2.2.1.1, ()), ()))))))), Bool.true)) (cond (Bool.not (ieqI v3.1.1 (Int.ofNat 6))) (cond (Nat.ble (Nat.mul (Nat.add (List.length v2.2.2.2.2.2.1.1) 1) 40) 140737488355328) (some (((v2.1.1, ()), (((), ()), ((v2.2.2.1.1, ()), (((v2.2.2.2.1.1.1, v2.2.2.2.1.1.2), ()), ((v2.2.2.2.2.1.1, ()), (((List.append v2.2.2.2.2.2.1.1 (List.cons (v3.1.1, (v3.1.2.1, ((Go.IntKind.wrap Go.IntKind.i64 (Int.add v2.1.1 v2.2.2.2.2.2.2.1.1)), (Go.IntKind.wrap Go.IntKind.i64 (Int.add (Int.ofNat 1) v3.2.1))))) [])), ()), ((v2.2.2.2.2.2.2.1.1, ()), ()))))))), Bool.false)) none) (some (((v2.1.1, ()), (((), ()), ((v2.2.2.1.1, ()), (((v2.2.2.2.1.1.1, v2.2.2.2.1.1.2), ()), ((v2.2.2.2.2.1.1, ()), ((v2.2.2.2.2.2.1.1, ()), ((v2.2.2.2.2.2.2.1.1, ()), ()))))))), Bool.false)))))
def Gnote : DRd → DLexPiece → Option (DRd × Bool) := (fun v2 v3 => (cond (Bool.not (ieqI v3.2.2 (Int.ofNat 0))) (some (((v2.1.1, ()), (((), ()), (([], ()), ((((Go.IntKind.wrap Go.IntKind.i64 (Int.add v2.1.1 v2.2.2.2.2.2.2.1.1)), (Go.IntKind.wrap Go.IntKind.i64 (Int.add (Int.ofNat 1) v3.2.1))), ()), ((v3.2.2, ()), ((v2.2.2.2.2.2.1.1, ()), ((v2.2.2.2.2.2.2.1.1, ()), ()))))))), Bool.true)) (cond (ieqI v3.1.1 (Int.ofNat 6)) (cond (Nat.ble (Nat.mul (Nat.add (List.length v2.2.2.2.2.2.1.1) 1) 40) 140737488355328) (some (((v2.1.1, ()), (((), ()), ((v2.2.2.1.1, ()), (((v2.2.2.2.1.1.1, v2.2.2.2.1.1.2), ()), ((v2.2.2.2.2.1.1, ()), (((List.append v2.2.2.2.2.2.1.1 (List.cons (v3.1.1, (v3.1.2.1, ((Go.IntKind.wrap Go.IntKind.i64 (Int.add v2.1.1 v2.2.2.2.2.2.2.1.1)), (Go.IntKind.wrap Go.IntKind.i64 (Int.add (Int.ofNat 1) v3.2.1))))) [])), ()), ((v2.2.2.2.2.2.2.1.1, ()), ()))))))), Bool.false)) none) (some (((v2.1.1, ()), (((), ()), ((v2.2.2.1.1, ()), (((v2.2.2.2.1.1.1, v2.2.2.2.1.1.2), ()), ((v2.2.2.2.2.1.1, ()), ((v2.2.2.2.2.2.1.1, ()), ((v2.2.2.2.2.2.2.1.1, ()), ()))))))), Bool.false)))))
end
theorem okL_inv {ls : List ByteArray} {n : Int} (h : S.okL ls n = true) : ls.length ≤ 1000001 ∧ (∀ s ∈ ls, s.size ≤ 1000000 ∧ ∀ b ∈ byteList s, ¬ b = 10) ∧ 0 ≤ n ∧ n ≤ 1000001 := by
 unfold S.okL at h
 simp only [Bool.and_eq_true, decide_eq_true_iff, List.all_eq_true, Bool.not_eq_true', decide_eq_false_iff_not] at h
 exact ⟨Nat.le_of_ble_eq_true h.1, fun s hs => ⟨Nat.le_of_ble_eq_true (h.2.1 s hs).1, (h.2.1 s hs).2⟩, h.2.2⟩
theorem fold_rd {G : DRd → DLexPiece → Option (DRd × Bool)} {w : Int → Bool} {first i n : Int} {N M : Nat}
   (hG : ∀ (out : List DToken) (p : DLexPiece), out.length < M → okP N p → G (rdD first out i (0, 0) 0) p = if p.2.2 = 0 then some (rdD first (cond (w p.1.1) (out ++ [(p.1.1, p.1.2.1, n, 1 + p.2.1)]) out) i (0, 0) 0, false) else some (rdD first out i (n, 1 + p.2.1) p.2.2, true)) :
   ∀ (ps : List DLexPiece) (out : List DToken), out.length + ps.length ≤ M → (∀ p ∈ ps, okP N p) →
     ((S.rdGo w n ps out).2 = none → foldR G ps (rdD first out i (0, 0) 0) = some (rdD first (S.rdGo w n ps out).1 i (0, 0) 0, false) ∧ (S.rdGo w n ps out).1.length ≤ out.length + ps.length) ∧
     (∀ pl e, (S.rdGo w n ps out).2 = some (pl, e) → ∃ out', foldR G ps (rdD first out i (0, 0) 0) = some (rdD first out' i pl e, true))
 | [], out, _, _ => ⟨fun _ => ⟨rfl, Nat.le_add_right _ _⟩, fun pl e h => by cases h⟩
 | p :: ps, out, hM, hp => by
   rw [List.length_cons] at hM
   have hg := hG out p (by omega) (hp p List.mem_cons_self)
   have hr : S.rdGo w n (p :: ps) out = if p.2.2 = 0 then S.rdGo w n ps (cond (w p.1.1) (out ++ [(p.1.1, p.1.2.1, n, 1 + p.2.1)]) out) else ([], some ((n, 1 + p.2.1), p.2.2)) := rfl
   rw [hr]
   unfold foldR
   rw [hg]
   by_cases h0 : p.2.2 = 0
   · rw [if_pos h0, if_pos h0]
     have hl : (cond (w p.1.1) (out ++ [(p.1.1, p.1.2.1, n, 1 + p.2.1)]) out).length ≤ out.length + 1 := by
       cases w p.1.1 <;> simp
     obtain ⟨a1, a2⟩ := fold_rd hG ps (cond (w p.1.1) (out ++ [(p.1.1, p.1.2.1, n, 1 + p.2.1)]) out) (by omega) (fun q hq => hp q (List.mem_cons_of_mem _ hq))
     refine ⟨fun h => ?_, a2⟩
     obtain ⟨b1, b2⟩ := a1 h
     exact ⟨b1, by rw [List.length_cons]; omega⟩
   · rw [if_neg h0, if_neg h0]
     refine ⟨fun h => (by cases h), fun pl e h => ?_⟩
     cases h
     exact ⟨out, rfl⟩
theorem pieces_len : ∀ (f : Nat) (r : List Int) (a : Nat), (S.piecesGo f r a).length ≤ f
 | 0, _, _ => Nat.le_refl _
 | f + 1, [], _ => Nat.zero_le _
 | f + 1, b :: r, a => by
   have e : S.piecesGo (f + 1) (b :: r) a = if b = 32 then S.piecesGo f r (a + 1) else if (S.pieceX (b :: r) a).1.2.2 = 0 then (S.pieceX (b :: r) a).1 :: S.piecesGo f ((b :: r).drop (S.pieceX (b :: r) a).2) (a + (S.pieceX (b :: r) a).2) else [(S.pieceX (b :: r) a).1] := rfl
   rw [e]
   split
   · exact Nat.le_succ_of_le (pieces_len f _ _)
   split
   · rw [List.length_cons]; exact Nat.succ_le_succ (pieces_len f _ _)
   · simp
theorem wrap_add {a b : Int} (h : -9223372036854775808 ≤ a + b ∧ a + b < 9223372036854775808) : IntKind.i64.wrap (Int.add a b) = a + b := wrap64_in h
theorem Gtok_eq (first i n : Int) (N : Nat) (hn : n = first + i) (h : 0 ≤ n ∧ n ≤ 4000000) (hN : N ≤ 1000000) (out : List DToken) (p : DLexPiece) (ho : out.length < 1100000000000) (hp : okP N p) : Gtok (rdD first out i (0, 0) 0) p = if p.2.2 = 0 then some (rdD first (cond (S.wTok p.1.1) (out ++ [(p.1.1, p.1.2.1, n, 1 + p.2.1)]) out) i (0, 0) 0, false) else some (rdD first out i (n, 1 + p.2.1) p.2.2, true) := by
 obtain ⟨_, _, _, ⟨d1, d2⟩, _⟩ := hp
 have w1 : IntKind.i64.wrap (Int.add first i) = n := by rw [hn]; exact wrap_add (by omega)
 have w2 : IntKind.i64.wrap (Int.add (Int.ofNat 1) p.2.1) = 1 + p.2.1 := wrap_add (by show -9223372036854775808 ≤ (1 : Int) + p.2.1 ∧ (1 : Int) + p.2.1 < _; omega)
 have hr : Nat.ble (Nat.mul (Nat.add out.length 1) 40) 140737488355328 = true := Nat.ble_eq_true_of_le (by show (out.length + 1) * 40 ≤ _; omega)
 simp only [Gtok, rdD, w1, w2, hr, cond_true, S.wTok, ieqI_eq]
 by_cases h0 : p.2.2 = 0
 · rw [decide_eq_true (show p.2.2 = Int.ofNat 0 from h0), if_pos h0]
   simp only [Bool.not_true, cond_false]
   by_cases h6 : p.1.1 = 6
   · rw [decide_eq_true (show p.1.1 = Int.ofNat 6 from h6), decide_eq_true h6]; rfl
   · rw [decide_eq_false (show ¬ p.1.1 = Int.ofNat 6 from h6), decide_eq_false h6]; rfl
 · rw [decide_eq_false (show ¬ p.2.2 = Int.ofNat 0 from h0), if_neg h0]; rfl
theorem tokL_go (ls : List ByteArray) (n : Int) (hl : ls.length ≤ 1000001) (hs : ∀ s ∈ ls, s.size ≤ 1000000 ∧ ∀ b ∈ byteList s, ¬ b = 10) (hn : 0 ≤ n ∧ n ≤ 1000001) :
   Fz23 LF ls n = some (((S.readX S.wTok ls n).1, (S.readX S.wTok ls n).2.1, (S.readX S.wTok ls n).2.2, ()), ()) := by
 have key : Gz23_3 LF ls n LF (Int.ofNat 0, n, Int.ofNat 0, Int.ofNat 0, [], Int.ofNat 0, []) = (if (S.readL (ls.map byteList) (n + (0 : Nat))).2.2 = 0 then some (([] ++ (S.readL (ls.map byteList) (n + (0 : Nat))).1.filter (fun t => S.wTok t.1), (0, 0), 0, ()), ()) else some (([], (S.readL (ls.map byteList) (n + (0 : Nat))).2.1, (S.readL (ls.map byteList) (n + (0 : Nat))).2.2, ()), ())) := by
   refine range0 (σ := List DToken) (R := Rtz23) ls (fun i q => (i, n, Int.ofNat 0, Int.ofNat 0, q, Int.ofNat 0, [])) (fun i q => q.length ≤ i * 1000001) (fun rest i q => if (S.readL (rest.map byteList) (n + (i : Nat))).2.2 = 0 then some ((q ++ (S.readL (rest.map byteList) (n + (i : Nat))).1.filter (fun t => S.wTok t.1), (0, 0), 0, ()), ()) else some (([], (S.readL (rest.map byteList) (n + (i : Nat))).2.1, (S.readL (rest.map byteList) (n + (i : Nat))).2.2, ()), ())) (by unfold LF; omega) (fun K q hq => ?_) (fun K i v rest q hq r h => ?_) [] (Nat.zero_le _)
   · simp only [Rz23_3, ilt_self, cond_false, List.map_nil]
     show some ((q, (0, 0), 0, ()), ()) = if (0 : Int) = 0 then some ((q ++ [], (0, 0), 0, ()), ()) else _
     rw [if_pos rfl, List.append_nil]
   · obtain ⟨hv, hnl⟩ := hs v r.mem
     have hi := r.lt
     have hb : Nat.ble (Nat.succ v.size) 9223372036854775807 = true := Nat.ble_eq_true_of_le (by omega)
     have hc : (cond (Nat.ble (Nat.succ v.size) 9223372036854775807) (some (S.pieces v)) (none : Option (List (El cLexPiece)))) = some (S.pieces v) := by rw [hb]; rfl
     have hpl : (S.pieces v).length ≤ v.size + 1 := pieces_len _ _ _
     have hlen : q.length + (S.pieces v).length ≤ (i + 1) * 1000001 := by
       have : (i + 1) * 1000001 = i * 1000001 + 1000001 := Nat.succ_mul _ _
       omega
     have hM : (i + 1) * 1000001 ≤ 1000001 * 1000001 := Nat.mul_le_mul_right _ (by omega)
     have hgo := fold_rd (G := Gtok) (w := S.wTok) (first := n) (i := Int.ofNat i) (n := n + (i : Nat)) (N := v.size) (M := 1100000000000) (fun out p ho hp => Gtok_eq n (Int.ofNat i) (n + (i : Nat)) v.size rfl (by omega) hv out p ho hp) (S.pieces v) q (by omega) (pieces_ok v.size _ _ 0 (by rw [bl_len]; omega))
     have hrd := rd_pcs S.wTok (n + (i : Nat)) (v.size + 1) (byteList v) 0 q (fun b hb => bl_range hb) hnl
     have e0 : S.pieces v = S.piecesGo (v.size + 1) (byteList v) 0 := rfl
     rw [← e0] at hrd
     have ec : S.readL ((v :: rest).map byteList) (n + (i : Nat)) = _ := readL_cons (byteList v) (rest.map byteList) (n + (i : Nat))
     rw [bl_len] at ec
     rw [ec]
     have step : Rz23_3 LF ls n K (Int.ofNat i, n, Int.ofNat 0, Int.ofNat 0, q, Int.ofNat 0, []) = match foldR Gtok (S.pieces v) (rdD n q (Int.ofNat i) (0, 0) 0) with
         | none => none
         | some v4 => cond v4.2 (some ((v4.1.2.2.1.1, ((v4.1.2.2.2.1.1.1, v4.1.2.2.2.1.1.2), (v4.1.2.2.2.2.1.1, ()))), ())) (K (Int.ofNat (i + 1), v4.1.1.1, v4.1.2.2.2.1.1.1, v4.1.2.2.2.1.1.2, v4.1.2.2.2.2.2.1.1, v4.1.2.2.2.2.1.1, v4.1.2.2.1.1)) := by
       simp only [Rz23_3, r.ilt, r.get, r.next, cond_true, hc]
       rfl
     rw [step]
     cases hp : (S.pcs (v.size + 1) (byteList v) (0 + 1)).2 with
     | some x =>
       obtain ⟨c, e⟩ := x
       have he := pcs_err _ _ _ _ hp
       rw [hp] at hrd
       obtain ⟨out', ho⟩ := hgo.2 _ _ (by rw [hrd])
       rw [ho]
       simp only [rdD, cond_true]
       rw [if_neg he]
     | none =>
       rw [hp] at hrd
       obtain ⟨g1, g2⟩ := hgo.1 (by rw [hrd])
       rw [hrd] at g1 g2
       simp only at g1 g2
       rw [g1]
       simp only [rdD, cond_false]
       refine (h _ (by omega)).trans ?_
       rw [show n + (i : Int) + 1 = n + ((i + 1 : Nat) : Int) by omega]
       by_cases hz : (S.readL (rest.map byteList) (n + ((i + 1 : Nat) : Int))).2.2 = 0
       · rw [if_pos hz, if_pos hz, if_pos rfl]
         simp only [List.filter_append, List.append_assoc]
       · rw [if_neg hz, if_neg hz, if_neg hz]
 refine key.trans ?_
 rw [show n + ((0 : Nat) : Int) = n by omega, List.nil_append]
 unfold S.readX
 by_cases hz : (S.readL (ls.map byteList) n).2.2 = 0
 · rw [if_pos hz, readL_ok _ _ hz, hz]
 · rw [if_neg hz, readL_err _ _ hz]; rfl
def spz23 : SmR := ⟨[.dat (.list .str), .dat (.int .i64), .fn 49], [(true, cToken), (false, cPlace), (false, .int .i64)], fun x => cond (S.okL x.1 x.2.1) (some (((S.readX S.wTok x.1 x.2.1).1, (S.readX S.wTok x.1 x.2.1).2.1, (S.readX S.wTok x.1 x.2.1).2.2, ()), ())) none⟩
theorem conz23 : ConR Tryd.prog idz23 spz23 := mkz23 trivial fun x y hx h => ⟨LF, by
 obtain ⟨h1, h2⟩ := cond_some' (show cond (S.okL x.1 x.2.1) (some (((S.readX S.wTok x.1 x.2.1).1, (S.readX S.wTok x.1 x.2.1).2.1, (S.readX S.wTok x.1 x.2.1).2.2, ()), ())) none = some y from h)
 obtain ⟨a1, a2, a3⟩ := okL_inv h1
 exact (tokL_go x.1 x.2.1 a1 a2 a3).trans (congrArg some h2)⟩
theorem Gnote_eq (first i n : Int) (N : Nat) (hn : n = first + i) (h : 0 ≤ n ∧ n ≤ 4000000) (hN : N ≤ 1000000) (out : List DToken) (p : DLexPiece) (ho : out.length < 1100000000000) (hp : okP N p) : Gnote (rdD first out i (0, 0) 0) p = if p.2.2 = 0 then some (rdD first (cond (S.wNote p.1.1) (out ++ [(p.1.1, p.1.2.1, n, 1 + p.2.1)]) out) i (0, 0) 0, false) else some (rdD first out i (n, 1 + p.2.1) p.2.2, true) := by
 obtain ⟨_, _, _, ⟨d1, d2⟩, _⟩ := hp
 have w1 : IntKind.i64.wrap (Int.add first i) = n := by rw [hn]; exact wrap_add (by omega)
 have w2 : IntKind.i64.wrap (Int.add (Int.ofNat 1) p.2.1) = 1 + p.2.1 := wrap_add (by show -9223372036854775808 ≤ (1 : Int) + p.2.1 ∧ (1 : Int) + p.2.1 < _; omega)
 have hr : Nat.ble (Nat.mul (Nat.add out.length 1) 40) 140737488355328 = true := Nat.ble_eq_true_of_le (by show (out.length + 1) * 40 ≤ _; omega)
 simp only [Gnote, rdD, w1, w2, hr, cond_true, S.wNote, ieqI_eq]
 by_cases h0 : p.2.2 = 0
 · rw [decide_eq_true (show p.2.2 = Int.ofNat 0 from h0), if_pos h0]
   simp only [Bool.not_true, cond_false]
   by_cases h6 : p.1.1 = 6
   · rw [decide_eq_true (show p.1.1 = Int.ofNat 6 from h6), decide_eq_true h6]; rfl
   · rw [decide_eq_false (show ¬ p.1.1 = Int.ofNat 6 from h6), decide_eq_false h6]; rfl
 · rw [decide_eq_false (show ¬ p.2.2 = Int.ofNat 0 from h0), if_neg h0]; rfl
theorem noteL_go (ls : List ByteArray) (n : Int) (hl : ls.length ≤ 1000001) (hs : ∀ s ∈ ls, s.size ≤ 1000000 ∧ ∀ b ∈ byteList s, ¬ b = 10) (hn : 0 ≤ n ∧ n ≤ 1000001) :
   Fz24 LF ls n = some (((S.readX S.wNote ls n).1, (S.readX S.wNote ls n).2.1, (S.readX S.wNote ls n).2.2, ()), ()) := by
 have key : Gz24_3 LF ls n LF (Int.ofNat 0, n, Int.ofNat 0, Int.ofNat 0, [], Int.ofNat 0, []) = (if (S.readL (ls.map byteList) (n + (0 : Nat))).2.2 = 0 then some (([] ++ (S.readL (ls.map byteList) (n + (0 : Nat))).1.filter (fun t => S.wNote t.1), (0, 0), 0, ()), ()) else some (([], (S.readL (ls.map byteList) (n + (0 : Nat))).2.1, (S.readL (ls.map byteList) (n + (0 : Nat))).2.2, ()), ())) := by
   refine range0 (σ := List DToken) (R := Rtz24) ls (fun i q => (i, n, Int.ofNat 0, Int.ofNat 0, q, Int.ofNat 0, [])) (fun i q => q.length ≤ i * 1000001) (fun rest i q => if (S.readL (rest.map byteList) (n + (i : Nat))).2.2 = 0 then some ((q ++ (S.readL (rest.map byteList) (n + (i : Nat))).1.filter (fun t => S.wNote t.1), (0, 0), 0, ()), ()) else some (([], (S.readL (rest.map byteList) (n + (i : Nat))).2.1, (S.readL (rest.map byteList) (n + (i : Nat))).2.2, ()), ())) (by unfold LF; omega) (fun K q hq => ?_) (fun K i v rest q hq r h => ?_) [] (Nat.zero_le _)
   · simp only [Rz24_3, ilt_self, cond_false, List.map_nil]
     show some ((q, (0, 0), 0, ()), ()) = if (0 : Int) = 0 then some ((q ++ [], (0, 0), 0, ()), ()) else _
     rw [if_pos rfl, List.append_nil]
   · obtain ⟨hv, hnl⟩ := hs v r.mem
     have hi := r.lt
     have hb : Nat.ble (Nat.succ v.size) 9223372036854775807 = true := Nat.ble_eq_true_of_le (by omega)
     have hc : (cond (Nat.ble (Nat.succ v.size) 9223372036854775807) (some (S.pieces v)) (none : Option (List (El cLexPiece)))) = some (S.pieces v) := by rw [hb]; rfl
     have hpl : (S.pieces v).length ≤ v.size + 1 := pieces_len _ _ _
     have hlen : q.length + (S.pieces v).length ≤ (i + 1) * 1000001 := by
       have : (i + 1) * 1000001 = i * 1000001 + 1000001 := Nat.succ_mul _ _
       omega
     have hM : (i + 1) * 1000001 ≤ 1000001 * 1000001 := Nat.mul_le_mul_right _ (by omega)
     have hgo := fold_rd (G := Gnote) (w := S.wNote) (first := n) (i := Int.ofNat i) (n := n + (i : Nat)) (N := v.size) (M := 1100000000000) (fun out p ho hp => Gnote_eq n (Int.ofNat i) (n + (i : Nat)) v.size rfl (by omega) hv out p ho hp) (S.pieces v) q (by omega) (pieces_ok v.size _ _ 0 (by rw [bl_len]; omega))
     have hrd := rd_pcs S.wNote (n + (i : Nat)) (v.size + 1) (byteList v) 0 q (fun b hb => bl_range hb) hnl
     have e0 : S.pieces v = S.piecesGo (v.size + 1) (byteList v) 0 := rfl
     rw [← e0] at hrd
     have ec : S.readL ((v :: rest).map byteList) (n + (i : Nat)) = _ := readL_cons (byteList v) (rest.map byteList) (n + (i : Nat))
     rw [bl_len] at ec
     rw [ec]
     have step : Rz24_3 LF ls n K (Int.ofNat i, n, Int.ofNat 0, Int.ofNat 0, q, Int.ofNat 0, []) = match foldR Gnote (S.pieces v) (rdD n q (Int.ofNat i) (0, 0) 0) with
         | none => none
         | some v4 => cond v4.2 (some ((v4.1.2.2.1.1, ((v4.1.2.2.2.1.1.1, v4.1.2.2.2.1.1.2), (v4.1.2.2.2.2.1.1, ()))), ())) (K (Int.ofNat (i + 1), v4.1.1.1, v4.1.2.2.2.1.1.1, v4.1.2.2.2.1.1.2, v4.1.2.2.2.2.2.1.1, v4.1.2.2.2.2.1.1, v4.1.2.2.1.1)) := by
       simp only [Rz24_3, r.ilt, r.get, r.next, cond_true, hc]
       rfl
     rw [step]
     cases hp : (S.pcs (v.size + 1) (byteList v) (0 + 1)).2 with
     | some x =>
       obtain ⟨c, e⟩ := x
       have he := pcs_err _ _ _ _ hp
       rw [hp] at hrd
       obtain ⟨out', ho⟩ := hgo.2 _ _ (by rw [hrd])
       rw [ho]
       simp only [rdD, cond_true]
       rw [if_neg he]
     | none =>
       rw [hp] at hrd
       obtain ⟨g1, g2⟩ := hgo.1 (by rw [hrd])
       rw [hrd] at g1 g2
       simp only at g1 g2
       rw [g1]
       simp only [rdD, cond_false]
       refine (h _ (by omega)).trans ?_
       rw [show n + (i : Int) + 1 = n + ((i + 1 : Nat) : Int) by omega]
       by_cases hz : (S.readL (rest.map byteList) (n + ((i + 1 : Nat) : Int))).2.2 = 0
       · rw [if_pos hz, if_pos hz, if_pos rfl]
         simp only [List.filter_append, List.append_assoc]
       · rw [if_neg hz, if_neg hz, if_neg hz]
 refine key.trans ?_
 rw [show n + ((0 : Nat) : Int) = n by omega, List.nil_append]
 unfold S.readX
 by_cases hz : (S.readL (ls.map byteList) n).2.2 = 0
 · rw [if_pos hz, readL_ok _ _ hz, hz]
 · rw [if_neg hz, readL_err _ _ hz]; rfl
def spz24 : SmR := ⟨[.dat (.list .str), .dat (.int .i64), .fn 58], [(true, cToken), (false, cPlace), (false, .int .i64)], fun x => cond (S.okL x.1 x.2.1) (some (((S.readX S.wNote x.1 x.2.1).1, (S.readX S.wNote x.1 x.2.1).2.1, (S.readX S.wNote x.1 x.2.1).2.2, ()), ())) none⟩
theorem conz24 : ConR Tryd.prog idz24 spz24 := mkz24 trivial fun x y hx h => ⟨LF, by
 obtain ⟨h1, h2⟩ := cond_some' (show cond (S.okL x.1 x.2.1) (some (((S.readX S.wNote x.1 x.2.1).1, (S.readX S.wNote x.1 x.2.1).2.1, (S.readX S.wNote x.1 x.2.1).2.2, ()), ())) none = some y from h)
 obtain ⟨a1, a2, a3⟩ := okL_inv h1
 exact (noteL_go x.1 x.2.1 a1 a2 a3).trans (congrArg some h2)⟩
def nmz25 : Nat → Option Nm := fun k => none
def stz25 : Nat → Bool := fun k => false
def hdz25 := stz25
abbrev Rtz25 : Type := (List DToken) × DPlace × Int × Unit
def smlz25 : List (Nat × Sm) := [(23, sp_strings_Split)]
def hxlz25 : List (Nat × Hx) := [(48, hxSel (lastFn 49) (hxR spz23) (hxR spz24))]
def clz25 (R : Type) (lf : Nat) : ClK R := icallK Tryd.prog ttT.get ftT.get (nm1 22 nmz25) (smL smlz25) (hxL hxlz25) lf 20 R
abbrev idz25 : Nat := 22
def Rz25_in (lf : Nat) (x1 : ByteArray) : Option Rtz25 := (cond (iltI (Int.ofNat 20000) (Int.ofNat (ByteArray.size x1))) (some ([], (((Int.ofNat 0), (Int.ofNat 0)), ((Int.ofNat 3), ())))) (match (cond (Bool.and Bool.true (S.fits x1)) (some ((S.lines x1), ())) none) with | .none  => none | .some v0 => (match (cond (S.okL v0.1 (Int.ofNat 1)) (some (((S.readX S.wTok v0.1 (Int.ofNat 1)).1, ((S.readX S.wTok v0.1 (Int.ofNat 1)).2.1, ((S.readX S.wTok v0.1 (Int.ofNat 1)).2.2, ()))), ())) none) with | .none  => none | .some v1 => (cond (ieqI v1.1.2.2.1 (Int.ofNat 0)) (cond (iltI (Int.ofNat 6000) (Int.ofNat (List.length v1.1.1))) (some ([], (((Int.ofNat 0), (Int.ofNat 0)), ((Int.ofNat 3), ())))) (some (v1.1.1, ((v1.1.2.1.1, v1.1.2.1.2), (v1.1.2.2.1, ()))))) (some (v1.1.1, ((v1.1.2.1.1, v1.1.2.1.2), (v1.1.2.2.1, ()))))))))
abbrev gz25 : Type := ElA [.str] → Option Rtz25
abbrev sz25 (g : gz25) : Sm := ⟨[.str], [(true, cToken), (false, cPlace), (false, (.int .i64))], g⟩
abbrev Ez25 (g : gz25) (J : JT Rtz25) (lf : Nat) (x1 : ByteArray) := icodeT Tryd.prog ttT.get nmz25 fi22.nt (clz25 _ lf) lf stz25 J fi22.body [] (argGo (argV [.str] (x1, ())) 0 .leaf) S0 [] (lastK ttT.get fi22 (sz25 g))
theorem inz25 (g : gz25) (J : JT Rtz25) (lf : Nat) (x1 : ByteArray) : Ez25 g J lf x1 = Rz25_in lf x1 := by kernel_rfl
theorem ndz25 : (regs fi22.body).Nodup := by decide +kernel
theorem okz25 : okC nmz25 stz25 hdz25 fi22.body none = true := by kernel_rfl
def Az25 (g : gz25) (lf : Nat) : JT Rtz25 := atN Tryd.prog ttT.get nmz25 fi22 (sz25 g) (clz25 _ lf) lf hdz25
def Fz25 (lf : Nat) (x1 : ByteArray) : Option Rtz25 := Rz25_in lf x1
theorem runz25 (g : gz25) (lf : Nat) (x1 : ByteArray) : Ez25 g (Az25 g lf) lf x1 = Fz25 lf x1 := by
   refine (inz25 g (Az25 g lf) lf x1).trans ?_
   rfl
theorem hxsz25 : HxsOK Tryd.prog hxlz25 := ⟨hxSel_ok (hxR_ok conz23) (hxR_ok conz24), trivial⟩
theorem mkz25 {g : gz25} (hsm : SmOK Tryd.prog smlz25) (hg : ∀ (x : ElA [.str]) (y : Rtz25), WfA [.str] x → g x = some y → ∃ lf, Fz25 lf x.1 = some y) : Con Tryd.prog 22 ⟨[.str], [(true, cToken), (false, cPlace), (false, (.int .i64))], g⟩ :=
 conT (nmf := nmz25) (sml := smlz25) (hxl := hxlz25) (st := stz25) (hd := hdz25) 20 mixed ttOK ftOK hsm hxsz25 cal22 rfl rfl (by kernel_rfl) (fun x => by kernel_rfl) ndz25 okz25 fun x y hx hy => by
   obtain ⟨lf, h⟩ := hg x y hx hy
   exact ⟨lf, (runz25 g lf x.1).trans h⟩
def nmz26 : Nat → Option Nm := fun k => none
def stz26 : Nat → Bool := fun k => false
def hdz26 := stz26
abbrev Rtz26 : Type := (List DToken) × Int × Unit
def smlz26 : List (Nat × Sm) := [(23, sp_strings_Split), (22, spz25)]
def hxlz26 : List (Nat × Hx) := [(48, hxSel (lastFn 49) (hxR spz23) (hxR spz24))]
def clz26 (R : Type) (lf : Nat) : ClK R := icallK Tryd.prog ttT.get ftT.get (nm1 31 nmz26) (smL smlz26) (hxL hxlz26) lf 20 R
abbrev idz26 : Nat := 31
def Rz26_in (lf : Nat) (x1 : ByteArray) : Option Rtz26 := (match (cond (S.fits x1) (some ((S.tokens x1).1, ((S.tokens x1).2.2.1, ((S.tokens x1).2.2.2, ())))) none) with | .none  => none | .some v0 => (cond (Bool.not (ieqI v0.2.2.1 (Int.ofNat 0))) (some ([], (v0.2.2.1, ()))) (match (cond (Bool.and Bool.true (S.fits x1)) (some ((S.lines x1), ())) none) with | .none  => none | .some v1 => (match (cond (S.okL v1.1 (Int.ofNat 1)) (some (((S.readX S.wNote v1.1 (Int.ofNat 1)).1, ((S.readX S.wNote v1.1 (Int.ofNat 1)).2.1, ((S.readX S.wNote v1.1 (Int.ofNat 1)).2.2, ()))), ())) none) with | .none  => none | .some v2 => (some (v2.1.1, ((Int.ofNat 0), ())))))))
abbrev gz26 : Type := ElA [.str] → Option Rtz26
abbrev sz26 (g : gz26) : Sm := ⟨[.str], [(true, cToken), (false, (.int .i64))], g⟩
abbrev Ez26 (g : gz26) (J : JT Rtz26) (lf : Nat) (x1 : ByteArray) := icodeT Tryd.prog ttT.get nmz26 fi31.nt (clz26 _ lf) lf stz26 J fi31.body [] (argGo (argV [.str] (x1, ())) 0 .leaf) S0 [] (lastK ttT.get fi31 (sz26 g))
theorem inz26 (g : gz26) (J : JT Rtz26) (lf : Nat) (x1 : ByteArray) : Ez26 g J lf x1 = Rz26_in lf x1 := by kernel_rfl
theorem ndz26 : (regs fi31.body).Nodup := by decide +kernel
theorem okz26 : okC nmz26 stz26 hdz26 fi31.body none = true := by kernel_rfl
def Az26 (g : gz26) (lf : Nat) : JT Rtz26 := atN Tryd.prog ttT.get nmz26 fi31 (sz26 g) (clz26 _ lf) lf hdz26
def Fz26 (lf : Nat) (x1 : ByteArray) : Option Rtz26 := Rz26_in lf x1
theorem runz26 (g : gz26) (lf : Nat) (x1 : ByteArray) : Ez26 g (Az26 g lf) lf x1 = Fz26 lf x1 := by
   refine (inz26 g (Az26 g lf) lf x1).trans ?_
   rfl
theorem hxsz26 : HxsOK Tryd.prog hxlz26 := ⟨hxSel_ok (hxR_ok conz23) (hxR_ok conz24), trivial⟩
theorem mkz26 {g : gz26} (hsm : SmOK Tryd.prog smlz26) (hg : ∀ (x : ElA [.str]) (y : Rtz26), WfA [.str] x → g x = some y → ∃ lf, Fz26 lf x.1 = some y) : Con Tryd.prog 31 ⟨[.str], [(true, cToken), (false, (.int .i64))], g⟩ :=
 conT (nmf := nmz26) (sml := smlz26) (hxl := hxlz26) (st := stz26) (hd := hdz26) 20 mixed ttOK ftOK hsm hxsz26 cal31 rfl rfl (by kernel_rfl) (fun x => by kernel_rfl) ndz26 okz26 fun x y hx hy => by
   obtain ⟨lf, h⟩ := hg x y hx hy
   exact ⟨lf, (runz26 g lf x.1).trans h⟩
def nmz27 : Nat → Option Nm := fun k => cond (Nat.beq k 4) (some ⟨[0, 1, 5], [], [], [], [], 0, 0, false⟩) (none)
def stz27 : Nat → Bool := fun k => cond (Nat.beq k 4) true (false)
def hdz27 := stz27
abbrev Rtz27 : Type := Bool × Unit
def smlz27 : List (Nat × Sm) := []
def hxlz27 : List (Nat × Hx) := []
def clz27 (R : Type) (lf : Nat) : ClK R := icallK Tryd.prog ttT.get ftT.get (nm1 24 nmz27) (smL smlz27) (hxL hxlz27) lf 20 R
abbrev idz27 : Nat := 24
def encz27_4 (x1 : (List DToken)) (x2 : (List DToken)) (p : Int) : NRes := (NRes.mk (.node (some (IV.lst cToken x1)) (.node (some (IV.lst cToken x2)) .leaf (.node (some (IV.int .i64 p)) .leaf .leaf)) .leaf) (IS.mk .leaf 0) [] 0)
def Rz27_in (lf : Nat) (x1 : (List DToken)) (x2 : (List DToken)) (L4 : Int → Option Rtz27) : Option Rtz27 := (cond (Bool.not (ieqI (Int.ofNat (List.length x1)) (Int.ofNat (List.length x2)))) (some (Bool.false, ())) (L4 (Int.ofNat 0)))
def Rz27_4 (lf : Nat) (x1 : (List DToken)) (x2 : (List DToken)) (L4 : Int → Option Rtz27) (p : Int) : Option Rtz27 := (cond (iltI p (Int.ofNat (List.length x1))) (match (jget x1 p) with | .none  => none | .some v0 => (match (jget x2 p) with | .none  => none | .some v1 => (cond (Bool.not (Bool.and (keqI v0.1 v1.1) (Bool.and (keqS v0.2.1 v1.2.1) (Bool.and (Bool.and (keqI v0.2.2.1 v1.2.2.1) (Bool.and (keqI v0.2.2.2 v1.2.2.2) Bool.true)) Bool.true)))) (some (Bool.false, ())) (L4 (IntKind.i64.wrap (Int.add p (Int.ofNat 1))))))) (some (Bool.true, ())))
abbrev gz27 : Type := ElA [(.list cToken), (.list cToken)] → Option Rtz27
abbrev sz27 (g : gz27) : Sm := ⟨[(.list cToken), (.list cToken)], [(false, .bool)], g⟩
abbrev Ez27 (g : gz27) (J : JT Rtz27) (lf : Nat) (x1 : (List DToken)) (x2 : (List DToken)) := icodeT Tryd.prog ttT.get nmz27 fi24.nt (clz27 _ lf) lf stz27 J fi24.body [] (argGo (argV [(.list cToken), (.list cToken)] (x1, x2, ())) 0 .leaf) S0 [] (lastK ttT.get fi24 (sz27 g))
abbrev Bz27 (g : gz27) (J : JT Rtz27) (lf k : Nat) (ms : List Nat) (q : NRes) := icodeFT Tryd.prog ttT.get nmz27 fi24.nt (clz27 _ lf) lf stz27 J k fi24.body [] ms q (lastK ttT.get fi24 (sz27 g))
theorem inz27 (g : gz27) (J : JT Rtz27) (lf : Nat) (x1 : (List DToken)) (x2 : (List DToken)) : Ez27 g J lf x1 x2 = Rz27_in lf x1 x2 (fun q => J 4 [lf] (encz27_4 x1 x2 q)) := by kernel_rfl
theorem stz27_4 (g : gz27) (J : JT Rtz27) (lf : Nat) (x1 : (List DToken)) (x2 : (List DToken)) (m1 : Nat) (p : Int) : Bz27 g J lf 4 [m1] (encz27_4 x1 x2 p) = Rz27_4 lf x1 x2 (fun q => J 4 [m1] (encz27_4 x1 x2 q)) p := by kernel_rfl
theorem ndz27 : (regs fi24.body).Nodup := by decide +kernel
theorem okz27 : okC nmz27 stz27 hdz27 fi24.body none = true := by kernel_rfl
def Az27 (g : gz27) (lf : Nat) : JT Rtz27 := atN Tryd.prog ttT.get nmz27 fi24 (sz27 g) (clz27 _ lf) lf hdz27
def Gz27_4 (lf : Nat) (x1 : (List DToken)) (x2 : (List DToken)) : Nat → (Int) → Option Rtz27 := rounds fun K p => Rz27_4 lf x1 x2 K p
theorem atz27_4 (g : gz27) (lf : Nat) (x1 : (List DToken)) (x2 : (List DToken)) : ∀ (n : Nat) (p : Int), Az27 g lf 4 [n] (encz27_4 x1 x2 p) = Gz27_4 lf x1 x2 n p
 | 0, p => atN_zero 4 [0] rfl _
 | n + 1, p => by
   have ih := atz27_4 g lf x1 x2 n
   refine (atN_eq (icallK_eq 20 _) ndz27 okz27 4 [n + 1] [n] rfl _).trans ((stz27_4 g (Az27 g lf) lf x1 x2 n p).trans ?_)
   rw [(show (fun q => Az27 g lf 4 [n] (encz27_4 x1 x2 q)) = (fun q => Gz27_4 lf x1 x2 n q) from funext ih)]
   rfl
def Fz27 (lf : Nat) (x1 : (List DToken)) (x2 : (List DToken)) : Option Rtz27 := Rz27_in lf x1 x2 (fun q => Gz27_4 lf x1 x2 lf q)
theorem runz27 (g : gz27) (lf : Nat) (x1 : (List DToken)) (x2 : (List DToken)) : Ez27 g (Az27 g lf) lf x1 x2 = Fz27 lf x1 x2 := by
   refine (inz27 g (Az27 g lf) lf x1 x2).trans ?_
   rw [(show (fun q => Az27 g lf 4 [lf] (encz27_4 x1 x2 q)) = (fun q => Gz27_4 lf x1 x2 lf q) from funext fun q => atz27_4 g lf x1 x2 lf q)]
   rfl
theorem hxsz27 : HxsOK Tryd.prog hxlz27 := trivial
theorem mkz27 {g : gz27} (hsm : SmOK Tryd.prog smlz27) (hg : ∀ (x : ElA [(.list cToken), (.list cToken)]) (y : Rtz27), WfA [(.list cToken), (.list cToken)] x → g x = some y → ∃ lf, Fz27 lf x.1 x.2.1 = some y) : Con Tryd.prog 24 ⟨[(.list cToken), (.list cToken)], [(false, .bool)], g⟩ :=
 conT (nmf := nmz27) (sml := smlz27) (hxl := hxlz27) (st := stz27) (hd := hdz27) 20 mixed ttOK ftOK hsm hxsz27 cal24 rfl rfl (by kernel_rfl) (fun x => by kernel_rfl) ndz27 okz27 fun x y hx hy => by
   obtain ⟨lf, h⟩ := hg x y hx hy
   exact ⟨lf, (runz27 g lf x.1 x.2.1).trans h⟩
theorem lines_ok {s : ByteArray} (h : S.fits s = true) : S.okL (S.lines s) 1 = true := by
 have hs := fits_le h
 unfold S.okL
 simp only [Bool.and_eq_true, decide_eq_true_iff, List.all_eq_true, Bool.not_eq_true', decide_eq_false_iff_not]
 refine ⟨Nat.ble_eq_true_of_le ?_, fun t ht => ⟨Nat.ble_eq_true_of_le (Nat.le_trans (line_size ht) hs), fun b hb => ?_⟩, by decide, by decide⟩
 · unfold S.lines
   rw [List.length_map, splitL_len]
   have := List.count_le_length (a := (10 : Int)) (l := byteList s)
   rw [bl_len] at this
   omega
 · have : byteList t ∈ S.splitL (byteList s) := by rw [← lines_bl]; exact List.mem_map.2 ⟨t, ht, rfl⟩
   exact (line_mem _ _ b this hb).2
theorem readX_lines (w : Int → Bool) (s : ByteArray) : S.readX w (S.lines s) 1 = ((S.readL (S.splitL (byteList s)) 1).1.filter (fun t => w t.1), (S.readL (S.splitL (byteList s)) 1).2) := by
 unfold S.readX
 rw [lines_bl]
theorem readG_ok {s : ByteArray} (h : (S.readL (S.splitL (byteList s)) 1).2.2 = 0) : S.readG s = ((S.readL (S.splitL (byteList s)) 1).1.filter S.isTok, (S.readL (S.splitL (byteList s)) 1).1.filter S.isNote, (0, 0), 0) := by
 unfold S.readG S.lexed
 rw [if_pos h]
theorem readG_bad {s : ByteArray} (h : ¬ (S.readL (S.splitL (byteList s)) 1).2.2 = 0) : S.readG s = ([], [], (S.readL (S.splitL (byteList s)) 1).2.1, (S.readL (S.splitL (byteList s)) 1).2.2) := by
 unfold S.readG S.lexed
 rw [if_neg h]
theorem tokens_long {s : ByteArray} (h : 20000 < s.size) : S.tokens s = ([], [], (0, 0), 3) := by
 unfold S.tokens
 rw [if_pos h]
theorem tokens_many {s : ByteArray} (h : ¬ 20000 < s.size) (h1 : (S.readG s).2.2.2 = 0) (h2 : 6000 < (S.readG s).1.length) : S.tokens s = ([], [], (0, 0), 3) := by
 unfold S.tokens
 rw [if_neg h, if_pos ⟨h1, h2⟩]
theorem tokens_else {s : ByteArray} (h : ¬ 20000 < s.size) (h1 : ¬ ((S.readG s).2.2.2 = 0 ∧ 6000 < (S.readG s).1.length)) : S.tokens s = S.readG s := by
 unfold S.tokens
 rw [if_neg h, if_neg h1]
theorem Fz25_eq (lf : Nat) (s : ByteArray) (hs : S.fits s = true) : Fz25 lf s = some ((S.tokens s).1, (S.tokens s).2.2.1, (S.tokens s).2.2.2, ()) := by
 have ho := lines_ok hs
 have e1 : Int.ofNat 1 = (1 : Int) := rfl
 have hf : (fun t : DToken => S.wTok t.1) = S.isTok := rfl
 simp only [Fz25, Rz25_in, ilt_nat, hs, Bool.and_true, cond_true, e1, ho, readX_lines, hf]
 by_cases c : 20000 < s.size
 · rw [decide_eq_true c, cond_true, tokens_long c]; rfl
 · rw [decide_eq_false c, cond_false]
   by_cases h0 : (S.readL (S.splitL (byteList s)) 1).2.2 = 0
   · have hg := readG_ok h0
     rw [ieq_t (show (S.readL (S.splitL (byteList s)) 1).2.2 = Int.ofNat 0 from h0), cond_true]
     by_cases h6 : 6000 < ((S.readL (S.splitL (byteList s)) 1).1.filter S.isTok).length
     · rw [decide_eq_true h6, cond_true, tokens_many c (by rw [hg]) (by rw [hg]; exact h6)]; rfl
     · rw [decide_eq_false h6, cond_false, tokens_else c (by rw [hg]; exact fun h => h6 h.2), hg, readL_ok _ _ h0, h0]
   · have hg := readG_bad h0
     rw [ieq_f (show ¬ (S.readL (S.splitL (byteList s)) 1).2.2 = Int.ofNat 0 from h0), cond_false, tokens_else c (by rw [hg]; exact fun h => h0 h.1), hg, readL_err _ _ h0]
     rfl
theorem conz25 : Con Tryd.prog idz25 spz25 := mkz25 ⟨con_strings_Split, trivial⟩ fun x y hx h => ⟨0, by
 obtain ⟨h1, h2⟩ := cond_some' (show cond (S.fits x.1) (some ((S.tokens x.1).1, (S.tokens x.1).2.2.1, (S.tokens x.1).2.2.2, ())) none = some y from h)
 exact (Fz25_eq 0 x.1 h1).trans (congrArg some h2)⟩
theorem tokens_err {s : ByteArray} (h : ¬ (S.tokens s).2.2.2 = 0) : (S.tokens s).1 = [] ∧ (S.tokens s).2.1 = [] := by
 unfold S.tokens at h ⊢
 split
 · exact ⟨rfl, rfl⟩
 · rename_i c
   rw [if_neg c] at h
   split
   · exact ⟨rfl, rfl⟩
   · rename_i c2
     rw [if_neg c2] at h
     unfold S.readG S.lexed at h ⊢
     split
     · rename_i c3
       rw [if_pos c3] at h
       exact absurd rfl h
     · exact ⟨rfl, rfl⟩
theorem tokens_ok {s : ByteArray} (h : (S.tokens s).2.2.2 = 0) : S.tokens s = S.readG s ∧ (S.readL (S.splitL (byteList s)) 1).2.2 = 0 := by
 unfold S.tokens at h ⊢
 split
 · rename_i c
   rw [if_pos c] at h
   exact absurd (show (3 : Int) = 0 from h) (by decide)
 · rename_i c
   rw [if_neg c] at h
   split
   · rename_i c2
     rw [if_pos c2] at h
     exact absurd (show (3 : Int) = 0 from h) (by decide)
   · rename_i c2
     rw [if_neg c2] at h
     refine ⟨rfl, ?_⟩
     unfold S.readG S.lexed at h
     split at h
     · rename_i h3; exact h3
     · exact h
theorem Fz26_eq (lf : Nat) (s : ByteArray) (hs : S.fits s = true) : Fz26 lf s = some ((S.tokens s).2.1, (S.tokens s).2.2.2, ()) := by
 have ho := lines_ok hs
 have e1 : Int.ofNat 1 = (1 : Int) := rfl
 simp only [Fz26, Rz26_in, hs, Bool.and_true, cond_true, e1, ho, readX_lines]
 by_cases h0 : (S.tokens s).2.2.2 = 0
 · rw [ieq_t (show (S.tokens s).2.2.2 = Int.ofNat 0 from h0), Bool.not_true, cond_false]
   obtain ⟨a1, a2⟩ := tokens_ok h0
   rw [a1] at h0 ⊢
   have hf : (fun t : DToken => S.wNote t.1) = S.isNote := rfl
   rw [hf, h0]
   unfold S.readG S.lexed
   rw [if_pos a2]; rfl
 · rw [ieq_f (show ¬ (S.tokens s).2.2.2 = Int.ofNat 0 from h0), Bool.not_false, cond_true, (tokens_err h0).2]
theorem conz26 : Con Tryd.prog idz26 spz26 := mkz26 ⟨con_strings_Split, conz25, trivial⟩ fun x y hx h => ⟨0, by
 obtain ⟨h1, h2⟩ := cond_some' (show cond (S.fits x.1) (some ((S.tokens x.1).2.1, (S.tokens x.1).2.2.2, ())) none = some y from h)
 exact (Fz26_eq 0 x.1 h1).trans (congrArg some h2)⟩
theorem take_same {α : Type} {a b : List α} {i : Nat} {v w : α} (ha : a[i]? = some v) (hb : b[i]? = some w) (h : a.take i = b.take i) : (a.take (i + 1) = b.take (i + 1)) ↔ v = w := by
 rw [List.take_add_one, List.take_add_one, ha, hb, h]
 simp
theorem Fz27_eq (a b : List DToken) (ha : a.length < LF) : Fz27 LF a b = some (S.sameT a b, ()) := by
 simp only [Fz27, Rz27_in, ieq_nat]
 by_cases hl : a.length = b.length
 · rw [decide_eq_true hl, Bool.not_true, cond_false]
   refine range0 (σ := Unit) (R := Rtz27) a (fun i _ => i) (fun i _ => a.take i = b.take i) (fun _ _ _ => some (S.sameT a b, ())) ha (fun K q hq => ?_) (fun K i v rest q hq r h => ?_) () rfl
   · simp only [Rz27_4, ilt_self, cond_false]
     have : a = b := by rw [List.take_length, hl, List.take_length] at hq; exact hq
     show some (true, ()) = some (decide (a = b), ())
     rw [decide_eq_true this]
   · obtain ⟨w, hw⟩ : ∃ w, b[i]? = some w := ⟨_, List.getElem?_eq_getElem (by have := r.lt; omega)⟩
     have hj : jget b (Int.ofNat i) = some w := jget_nat.trans hw
     simp only [Rz27_4, r.ilt, r.get, hj, r.next, cond_true]
     have hts := take_same r.get? hw hq
     have hc : (Bool.and (keqI v.1 w.1) (Bool.and (keqS v.2.1 w.2.1) (Bool.and (Bool.and (keqI v.2.2.1 w.2.2.1) (Bool.and (keqI v.2.2.2 w.2.2.2) Bool.true)) Bool.true))) = decide (v = w) := by
       obtain ⟨v1, v2, v3, v4⟩ := v
       obtain ⟨w1, w2, w3, w4⟩ := w
       simp only [keqI, keqS, Bool.and_true, Prod.mk.injEq, Bool.decide_and]
     rw [hc]
     by_cases e : v = w
     · rw [decide_eq_true e, Bool.not_true, cond_false]
       exact h () (hts.2 e)
     · rw [decide_eq_false e, Bool.not_false, cond_true]
       have : ¬ a = b := fun e2 => e (hts.1 (by rw [e2]))
       show some (false, ()) = some (decide (a = b), ())
       rw [decide_eq_false this]
 · rw [decide_eq_false hl, Bool.not_false, cond_true]
   have : ¬ a = b := fun e => hl (by rw [e])
   show some (false, ()) = some (decide (a = b), ())
   rw [decide_eq_false this]
theorem toks_small {l : List DToken} (h : l.length * 40 ≤ 140737488355328) : l.length < LF := by unfold LF; omega
theorem conz27 : Con Tryd.prog idz27 spz27 := mkz27 trivial fun x y hx h => ⟨LF, (Fz27_eq x.1 x.2.1 (toks_small hx.1.1)).trans h⟩
def nmz28 : Nat → Option Nm := fun k => none
def stz28 : Nat → Bool := fun k => false
def hdz28 := stz28
abbrev Rtz28 : Type := Bool × Unit
def smlz28 : List (Nat × Sm) := [(22, spz25), (30, spz22), (31, spz26), (24, spz27), (13, sp_l_sanity)]
def hxlz28 : List (Nat × Hx) := []
def clz28 (R : Type) (lf : Nat) : ClK R := icallK Tryd.prog ttT.get ftT.get (nm1 8 nmz28) (smL smlz28) (hxL hxlz28) lf 20 R
abbrev idz28 : Nat := 8
def Rz28_in (lf : Nat) (x1 : ByteArray) : Option Rtz28 := (cond (Bool.not (iltI (Int.ofNat 400) (Int.ofNat (ByteArray.size x1)))) (match (cond (S.fits x1) (some ((S.tokens x1).1, ((S.tokens x1).2.2.1, ((S.tokens x1).2.2.2, ())))) none) with | .none  => none | .some v0 => (match (cond (S.fits x1) (some ((S.tokens x1), ())) none) with | .none  => none | .some v1 => (match (cond (S.fits x1) (some ((S.tokens x1).2.1, ((S.tokens x1).2.2.2, ()))) none) with | .none  => none | .some v2 => (cond (S.sameT v0.1 v1.1.1) (cond (S.sameT v2.1 v1.1.2.1) (cond (Bool.and (keqI v0.2.1.1 v1.1.2.2.1.1) (Bool.and (keqI v0.2.1.2 v1.1.2.2.1.2) Bool.true)) (cond (ieqI v0.2.2.1 v1.1.2.2.2) (some ((ieqI v2.2.1 v1.1.2.2.2), ())) (some (Bool.false, ()))) (some (Bool.false, ()))) (some (Bool.false, ()))) (some (Bool.false, ())))))) (cond (iltI (Int.ofNat 20000) (Int.ofNat (ByteArray.size x1))) (cond (Bool.not (Bool.not (iltI (Int.ofNat 20100) (Int.ofNat (ByteArray.size x1))))) (some (Bool.true, ())) (match (cond (S.fits x1) (some ((S.tokens x1).1, ((S.tokens x1).2.2.1, ((S.tokens x1).2.2.2, ())))) none) with | .none  => none | .some v3 => (match (cond (S.fits x1) (some ((S.tokens x1), ())) none) with | .none  => none | .some v4 => (match (cond (S.fits x1) (some ((S.tokens x1).2.1, ((S.tokens x1).2.2.2, ()))) none) with | .none  => none | .some v5 => (cond (S.sameT v3.1 v4.1.1) (cond (S.sameT v5.1 v4.1.2.1) (cond (Bool.and (keqI v3.2.1.1 v4.1.2.2.1.1) (Bool.and (keqI v3.2.1.2 v4.1.2.2.1.2) Bool.true)) (cond (ieqI v3.2.2.1 v4.1.2.2.2) (some ((ieqI v5.2.1 v4.1.2.2.2), ())) (some (Bool.false, ()))) (some (Bool.false, ()))) (some (Bool.false, ()))) (some (Bool.false, ()))))))) (some (Bool.true, ()))))
abbrev gz28 : Type := ElA [.str] → Option Rtz28
abbrev sz28 (g : gz28) : Sm := ⟨[.str], [(false, .bool)], g⟩
abbrev Ez28 (g : gz28) (J : JT Rtz28) (lf : Nat) (x1 : ByteArray) := icodeT Tryd.prog ttT.get nmz28 fi8.nt (clz28 _ lf) lf stz28 J fi8.body [] (argGo (argV [.str] (x1, ())) 0 .leaf) S0 [] (lastK ttT.get fi8 (sz28 g))
theorem inz28 (g : gz28) (J : JT Rtz28) (lf : Nat) (x1 : ByteArray) : Ez28 g J lf x1 = Rz28_in lf x1 := by kernel_rfl
theorem ndz28 : (regs fi8.body).Nodup := by decide +kernel
theorem okz28 : okC nmz28 stz28 hdz28 fi8.body none = true := by kernel_rfl
def Az28 (g : gz28) (lf : Nat) : JT Rtz28 := atN Tryd.prog ttT.get nmz28 fi8 (sz28 g) (clz28 _ lf) lf hdz28
def Fz28 (lf : Nat) (x1 : ByteArray) : Option Rtz28 := Rz28_in lf x1
theorem runz28 (g : gz28) (lf : Nat) (x1 : ByteArray) : Ez28 g (Az28 g lf) lf x1 = Fz28 lf x1 := by
   refine (inz28 g (Az28 g lf) lf x1).trans ?_
   rfl
theorem hxsz28 : HxsOK Tryd.prog hxlz28 := trivial
theorem mkz28 {g : gz28} (hsm : SmOK Tryd.prog smlz28) (hg : ∀ (x : ElA [.str]) (y : Rtz28), WfA [.str] x → g x = some y → ∃ lf, Fz28 lf x.1 = some y) : Con Tryd.prog 8 ⟨[.str], [(false, .bool)], g⟩ :=
 conT (nmf := nmz28) (sml := smlz28) (hxl := hxlz28) (st := stz28) (hd := hdz28) 20 mixed ttOK ftOK hsm hxsz28 cal8 rfl rfl (by kernel_rfl) (fun x => by kernel_rfl) ndz28 okz28 fun x y hx hy => by
   obtain ⟨lf, h⟩ := hg x y hx hy
   exact ⟨lf, (runz28 g lf x.1).trans h⟩
def smSan : List (Nat × Sm) := [(36, sp_x_Keywords), (42, sp_strings_Count), (122, sp_internal_stringslite_IndexByte), (32, spz16)]
def hxSan : List (Nat × Hx) := [(79, ccHx), (47, bsHx)]
theorem run_l_sanity : icallK Tryd.prog ttT.get ftT.get (fun _ _ => none) (smL smSan) (hxL hxSan) 1000 100 _ (.fn 13) [] S0 (runR sp_l_sanity) = some (true, ()) := by kernel_rfl
theorem con_l_sanity : Con Tryd.prog 13 sp_l_sanity :=
 conK (nm := fun _ _ => none) (sm := smL smSan) (hx := hxL hxSan) mixed ttOK ftOK (smL_ok ⟨con_x_Keywords, con_strings_Count, con_internal_stringslite_IndexByte, conz16, trivial⟩) (hxL_ok ⟨ccHx_ok, bsHx_ok, trivial⟩) cal13 fun x y hx h => ⟨100, 1000, run_l_sanity.trans h⟩
theorem sameT_self (l : List DToken) : S.sameT l l = true := decide_eq_true rfl
theorem ieq_self (a : Int) : ieqI a a = true := ieq_t rfl
theorem Fz28_eq (lf : Nat) (s : ByteArray) : Fz28 lf s = some (true, ()) := by
 simp only [Fz28, Rz28_in, ilt_nat]
 by_cases a1 : 400 < s.size
 · by_cases a3 : 20100 < s.size
   · rw [decide_eq_true a1, decide_eq_true a3]
     cases decide (20000 < s.size) <;> rfl
   · have f : S.fits s = true := Nat.ble_eq_true_of_le (by omega)
     rw [decide_eq_true a1, decide_eq_false a3, f]
     simp only [cond_true, sameT_self, keqI, ieq_self, decide_true, Bool.and_true]
     cases decide (20000 < s.size) <;> rfl
 · have f : S.fits s = true := Nat.ble_eq_true_of_le (by omega)
   rw [decide_eq_false a1, f]
   simp only [cond_true, sameT_self, keqI, ieq_self, decide_true, Bool.and_true]
   rfl
theorem conz28 : Con Tryd.prog idz28 ⟨[.str], [(false, .bool)], fun _ => some (true, ())⟩ := mkz28 ⟨conz25, conz22, conz26, conz27, con_l_sanity, trivial⟩ fun x y hx h => ⟨0, (Fz28_eq 0 x.1).trans h⟩
end Go.Proofs.YtanenikkloolfaaDoor
end

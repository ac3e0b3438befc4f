/- Texts: Jw, Jv, Jy, Jvs, Jra, Qsp, Qsp2, Lsp, Lsan, Lsn, Jca, Jcb, Jcc, Jcd, Jce, Jcf, Jcg, Jch, Jci, Jcj, Jck, Jcp, Qeq, Qeqp, Qeqf, Qeqfp, Qsm, Qri. -/
import Derived.Test.YtcnhjofpmpipfaaMc3
import Derived.Test.YtcnhjofpmpipfaaMc1
import Derived.KernelRfl
/- Cuts, as equations; loops that are cut ahead of their rounds. -/
section
set_option linter.unusedVariables false
namespace Go.Jx
open Go Go.Sx Go.RowKit
universe u

/-- Without the mask of what the norm wrote: at the top nothing asks for it. -/
def nz (x : NRes) : NRes := ⟨x.fr, x.S, x.ds, 0⟩
section
variable {R : Type} (P : Program) (tt : Nat → Option TI) (nm : Nat → Option Nm) (B : Nat) (nt : Nat) (cl : ClK R) (lf : Nat) (st hd : Nat → Bool) (J : Nat → List Nat → NRes → Option R)
/-- Stops at some regions, and ahead of each round of a loop. -/
def backTB (c : Code) (ns : List Nat) (fr : PT IV) (S : IS) (ds : List Nat) : Option R := match fk c with
  | none => none
  | some h => bd (inorm nt (nm h) B fr S ds) fun x => J h ns (nz x)
def icodeTB : Code → List Nat → CdK R
  | .region id ops draw, ps, fr, S, ds, kk => bd (inorm nt (nm id) B fr S ds) fun x => cond (st id) (J id ps (nz x)) (regKB P tt nm B nt cl ops.toList draw x kk)
  | .seq a b, ps, fr, S, ds, kk => icodeTB a ps fr S ds fun r => match r.e with
    | .normal => icodeTB b ps r.fr r.S r.ds kk
    | _ => kk r
  | .cond c a b, ps, fr, S, ds, kk => match evo nt fr c with
    | some (.bool b') => cond b' (icodeTB a ps fr S ds kk) (icodeTB b ps fr S ds kk)
    | _ => none
  | .block id c, ps, fr, S, ds, kk => icodeTB c ps fr S ds fun r => match r.e with
    | .exit id' => cond (Nat.beq id' id) (kk ⟨.normal, r.fr, r.S, r.ds, r.rd, r.wr⟩) (kk r)
    | _ => kk r
  | .scope c, ps, fr, S, ds, kk => icodeTB c ps fr S ds fun r => match r.e with
    | .goto _ => none
    | _ => kk r
  | .loop c, ps, fr, S, ds, kk => backTB nm B nt J c (ps ++ [lf]) fr S ds
  | c, ps, fr, S, ds, kk => icodeK P tt nm B nt cl lf none c fr S ds kk
def icodeFTB (k : Nat) : Code → List Nat → List Nat → NRes → (CRes → Option R) → Option R
  | .region id ops draw, ps, ns, x, kk => cond (Nat.beq id k) (regKB P tt nm B nt cl ops.toList draw x kk) none
  | .seq a b, ps, ns, x, kk => cond (hasR k a) (icodeFTB k a ps ns x fun r => match r.e with
    | .normal => icodeTB P tt nm B nt cl lf st J b ps r.fr r.S r.ds kk
    | _ => kk r) (icodeFTB k b ps ns x kk)
  | .cond c a b, ps, ns, x, kk => cond (hasR k a) (icodeFTB k a ps ns x kk) (icodeFTB k b ps ns x kk)
  | .block id c, ps, ns, x, kk => icodeFTB k c ps ns x fun r => match r.e with
    | .exit id' => cond (Nat.beq id' id) (kk ⟨.normal, r.fr, r.S, r.ds, r.rd, r.wr⟩) (kk r)
    | _ => kk r
  | .scope c, ps, ns, x, kk => icodeFTB k c ps ns x fun r => match r.e with
    | .goto _ => none
    | _ => kk r
  | .loop c, ps, ns, x, kk => match ns with
    | [] => none
    | n :: ns => match loopM nm c with
      | none => none
      | some m => icodeFTB k c (ps ++ [n]) ns x fun r => cond (subm r.rd m.1 && subm r.wr m.2) (match r.e with
        | .normal => backTB nm B nt J c (ps ++ [n]) r.fr r.S r.ds
        | e => kk (mbR (mB nm B) ⟨e, r.fr, r.S, r.ds, m.1, m.2⟩)) none
  | _, _, _, _, _ => none
end
/-- Heads are the first regions of loops alone, and all of these are stops with a norm. -/
def okC (nm : Nat → Option Nm) (st hd : Nat → Bool) : Code → Option Nat → Bool
  | .region id _ _, o => match o with | none => !hd id | some h => Nat.beq id h && (st id && hd id)
  | .seq a b, o => okC nm st hd a o && okC nm st hd b none
  | .cond _ a b, o => o.isNone && (okC nm st hd a none && okC nm st hd b none)
  | .block _ c, o => okC nm st hd c o
  | .scope c, o => okC nm st hd c o
  | .loop c, o => o.isNone && ((loopM nm c).isSome && (match fk c with | some h => okC nm st hd c (some h) | none => false))
  | _, o => o.isNone
/-- Ahead of the round. -/
def dnL : List Nat → Option (List Nat)
  | [] => none
  | [n] => match n with | 0 => none | m + 1 => some [m]
  | n :: m :: l => match dnL (m :: l) with | none => none | some l' => some (n :: l')
def dn (b : Bool) (ns : List Nat) : Option (List Nat) := cond b (dnL ns) (some ns)
theorem dn_cons {b : Bool} {n : Nat} {ns : List Nat} (h : b = true → ns ≠ []) : dn b (n :: ns) = match dn b ns with | none => none | some l => some (n :: l) := by
  cases b with
  | false => rfl
  | true => cases ns with
    | nil => exact absurd rfl (h rfl)
    | cons m l => rfl
section
variable {R : Type} {P : Program} {tt : Nat → Option TI} {nm : Nat → Option Nm} {B : Nat} {nt : Nat} {cl : Cl} {clK : ClK R} {lf : Nat} {st hd : Nat → Bool} {J : Nat → List Nat → NRes → Option R}
def Keq (k k' : CRes → Option R) : Prop := ∀ r, r.rd = 0 → r.wr = 0 → k r = k' r
theorem mz (hB0 : mB nm B = 0) (a : Nat) : mb (mB nm B) a = 0 := by rw [hB0]; rfl
theorem regKB_eq (hB0 : mB nm B = 0) (h : ClEq cl clK) {ops : List Oper} {draw : Bool} {x : NRes} {k k' : CRes → Option R} (hk : Keq k k') : regKB P tt nm B nt clK ops draw x k = regKB P tt nm B nt clK ops draw x k' := by
  unfold regKB
  cases draw with
  | true =>
    simp only [cond_true, ianyK_eq h]
    cases iany P tt nt cl ops x.fr x.S with
    | none => rfl
    | some q => exact hk _ (mz hB0 _) (mz hB0 _)
  | false =>
    simp only [cond_false, iseqK_eq h]
    cases iseq P tt nt cl ops ops x.fr x.S with
    | none => rfl
    | some q => exact hk _ (mz hB0 _) (mz hB0 _)
theorem okC_fk {h : Nat} : ∀ {c : Code}, okC nm st hd c (some h) = true → fk c = some h ∧ st h = true ∧ hd h = true ∧ h ∈ regs c
  | .region id _ _, hc => by
    simp only [okC, Bool.and_eq_true] at hc
    obtain rfl := Nat.eq_of_beq_eq_true hc.1
    exact ⟨rfl, hc.2.1, hc.2.2, by simp [regs]⟩
  | .seq a b, hc => by
    simp only [okC, Bool.and_eq_true] at hc
    obtain ⟨h1, h2, h3, h4⟩ := okC_fk hc.1
    exact ⟨by simp only [fk, h1], h2, h3, by simp [regs, h4]⟩
  | .cond _ a b, hc => by simp [okC] at hc
  | .block _ c, hc => okC_fk (c := c) hc
  | .scope c, hc => okC_fk (c := c) hc
  | .loop c, hc => by simp [okC] at hc
  | .skip, hc => by simp [okC] at hc
  | .label _, hc => by simp [okC] at hc
  | .exit _, hc => by simp [okC] at hc
  | .goto _, hc => by simp [okC] at hc
  | .ret, hc => by simp [okC] at hc
  | .refuse _, hc => by simp [okC] at hc
  | .rangeFunc .., hc => by simp [okC] at hc
theorem headed {h : Nat} : ∀ {c : Code} {fr : PT IV} {S : IS} {ds : List Nat} {kk : CRes → Option R}, okC nm st hd c (some h) = true →
    icodeK P tt nm B nt clK lf none c fr S ds kk = bd (inorm nt (nm h) B fr S ds) fun x => icodeFB P tt nm B nt clK lf h c [] x kk
  | .region id ops draw, fr, S, ds, kk, hc => by
    simp only [okC, Bool.and_eq_true] at hc
    obtain rfl := Nat.eq_of_beq_eq_true hc.1
    show bd (inorm nt (nm id) B fr S ds) (fun x => regKB P tt nm B nt clK ops.toList draw x kk) = _
    simp only [icodeFB, Nat.beq_refl, cond_true]
  | .seq a b, fr, S, ds, kk, hc => by
    simp only [okC, Bool.and_eq_true] at hc
    simp only [icodeK, icodeFB, hasR_mem.2 (okC_fk hc.1).2.2.2, cond_true]
    exact headed (c := a) hc.1
  | .cond _ a b, fr, S, ds, kk, hc => by simp [okC] at hc
  | .block _ c, fr, S, ds, kk, hc => headed (c := c) hc
  | .scope c, fr, S, ds, kk, hc => headed (c := c) hc
  | .loop c, fr, S, ds, kk, hc => by simp [okC] at hc
  | .skip, fr, S, ds, kk, hc => by simp [okC] at hc
  | .label _, fr, S, ds, kk, hc => by simp [okC] at hc
  | .exit _, fr, S, ds, kk, hc => by simp [okC] at hc
  | .goto _, fr, S, ds, kk, hc => by simp [okC] at hc
  | .ret, fr, S, ds, kk, hc => by simp [okC] at hc
  | .refuse _, fr, S, ds, kk, hc => by simp [okC] at hc
  | .rangeFunc .., fr, S, ds, kk, hc => by simp [okC] at hc
/-- From a stop on, ahead of the round if it is a head. -/
def icodeNB (P : Program) (tt : Nat → Option TI) (nm : Nat → Option Nm) (B : Nat) (nt : Nat) (clK : ClK R) (lf : Nat) (hd : Nat → Bool) (k : Nat) (c : Code) (ns : List Nat) (x : NRes) (kk : CRes → Option R) : Option R := match dn (hd k) ns with
  | none => none
  | some ns' => icodeFB P tt nm B nt clK lf k c ns' x kk
def JeqB (P : Program) (tt : Nat → Option TI) (nm : Nat → Option Nm) (B : Nat) (nt : Nat) (clK : ClK R) (lf : Nat) (st hd : Nat → Bool) (J : Nat → List Nat → NRes → Option R) (c : Code) (ps : List Nat) (k' : CRes → Option R) : Prop :=
  ∀ k ns x, k ∈ regs c → st k = true → (hd k = true → ns ≠ []) → J k (ps ++ ns) x = icodeNB P tt nm B nt clK lf hd k c ns x k'
theorem no_hasR {k : Nat} {a b : Code} (n3 : ∀ x ∈ regs a, ∀ y ∈ regs b, x ≠ y) (hi : k ∈ regs b) : hasR k a = false := by
  cases hb : hasR k a with
  | false => rfl
  | true => exact absurd rfl (n3 k (hasR_mem.1 hb) k hi)
theorem JeqB.fst {a b : Code} {ps : List Nat} {k' : CRes → Option R} (hJ : JeqB P tt nm B nt clK lf st hd J (.seq a b) ps k') : JeqB P tt nm B nt clK lf st hd J a ps (fun r => match r.e with
    | .normal => icodeK P tt nm B nt clK lf none b r.fr r.S r.ds fun q => k' (q.or r.rd r.wr)
    | _ => k' r) := fun i ns x hi hs hn => by
  rw [hJ i ns x (by simp [regs, hi]) hs hn]
  simp only [icodeNB, icodeFB, hasR_mem.2 hi, cond_true]
  all_goals rfl
theorem JeqB.snd {a b : Code} {ps : List Nat} {k' : CRes → Option R} (n3 : ∀ x ∈ regs a, ∀ y ∈ regs b, x ≠ y) (hJ : JeqB P tt nm B nt clK lf st hd J (.seq a b) ps k') : JeqB P tt nm B nt clK lf st hd J b ps k' := fun i ns x hi hs hn => by
  rw [hJ i ns x (by simp [regs, hi]) hs hn]
  simp only [icodeNB, icodeFB, no_hasR n3 hi, cond_false]
theorem JeqB.cond1 {c : Operand} {a b : Code} {ps : List Nat} {k' : CRes → Option R} (hJ : JeqB P tt nm B nt clK lf st hd J (.cond c a b) ps k') : JeqB P tt nm B nt clK lf st hd J a ps k' := fun i ns x hi hs hn => by
  rw [hJ i ns x (by simp [regs, hi]) hs hn]
  simp only [icodeNB, icodeFB, hasR_mem.2 hi, cond_true]
theorem JeqB.cond2 {c : Operand} {a b : Code} {ps : List Nat} {k' : CRes → Option R} (n3 : ∀ x ∈ regs a, ∀ y ∈ regs b, x ≠ y) (hJ : JeqB P tt nm B nt clK lf st hd J (.cond c a b) ps k') : JeqB P tt nm B nt clK lf st hd J b ps k' := fun i ns x hi hs hn => by
  rw [hJ i ns x (by simp [regs, hi]) hs hn]
  simp only [icodeNB, icodeFB, no_hasR n3 hi, cond_false]
theorem JeqB.body {c : Code} {ps : List Nat} {k' : CRes → Option R} {m : Nat × Nat} (hm : loopM nm c = some m) (hJ : JeqB P tt nm B nt clK lf st hd J (.loop c) ps k') (n : Nat) : JeqB P tt nm B nt clK lf st hd J c (ps ++ [n]) (fun r => cond (subm r.rd m.1 && subm r.wr m.2) (match r.e with
        | .normal => iiterMK (icodeK P tt nm B nt clK lf none c) m.1 m.2 n r.fr r.S r.ds fun r => k' (mbR (mB nm B) r)
        | e => k' (mbR (mB nm B) ⟨e, r.fr, r.S, r.ds, m.1, m.2⟩)) none) := fun i ns x hi hs hn => by
  have := hJ i (n :: ns) x hi hs (fun _ => by simp)
  rw [show ps ++ (n :: ns) = (ps ++ [n]) ++ ns by simp] at this
  rw [this]
  simp only [icodeNB, dn_cons hn]
  cases dn (hd i) ns with
  | none => rfl
  | some ns' => simp only [icodeFB, hm]; all_goals rfl
theorem regKB_nz (hB0 : mB nm B = 0) (ops : List Oper) (draw : Bool) (x : NRes) (kk : CRes → Option R) : regKB P tt nm B nt clK ops draw (nz x) kk = regKB P tt nm B nt clK ops draw x kk := by
  unfold regKB nz mbR
  rw [hB0]
  rfl
theorem icodeFB_nz (hB0 : mB nm B = 0) {k : Nat} : ∀ (c : Code) (ns : List Nat) (x : NRes) (kk : CRes → Option R), icodeFB P tt nm B nt clK lf k c ns (nz x) kk = icodeFB P tt nm B nt clK lf k c ns x kk
  | .region id ops draw, ns, x, kk => by simp only [icodeFB, regKB_nz hB0]
  | .seq a b, ns, x, kk => by
    simp only [icodeFB]
    rw [icodeFB_nz hB0 a, icodeFB_nz hB0 b]
  | .cond c a b, ns, x, kk => by
    simp only [icodeFB]
    rw [icodeFB_nz hB0 a, icodeFB_nz hB0 b]
  | .block id c, ns, x, kk => by simp only [icodeFB]; rw [icodeFB_nz hB0 c]
  | .scope c, ns, x, kk => by simp only [icodeFB]; rw [icodeFB_nz hB0 c]
  | .loop c, ns, x, kk => by
    cases ns with
    | nil => rfl
    | cons n ns =>
      simp only [icodeFB]
      cases loopM nm c with
      | none => rfl
      | some m => simp only; rw [icodeFB_nz hB0 c]
  | .skip, ns, x, kk => rfl
  | .label _, ns, x, kk => rfl
  | .exit _, ns, x, kk => rfl
  | .goto _, ns, x, kk => rfl
  | .ret, ns, x, kk => rfl
  | .refuse _, ns, x, kk => rfl
  | .rangeFunc .., ns, x, kk => rfl
theorem backB_eq (hB0 : mB nm B = 0) {c : Code} {h : Nat} {ps : List Nat} {k' : CRes → Option R} {m : Nat × Nat} (hc : okC nm st hd c (some h) = true) (hm : loopM nm c = some m) (hJ : JeqB P tt nm B nt clK lf st hd J (.loop c) ps k') (n : Nat) (fr : PT IV) (S : IS) (ds : List Nat) :
    backTB nm B nt J c (ps ++ [n]) fr S ds = iiterMK (icodeK P tt nm B nt clK lf none c) m.1 m.2 n fr S ds fun r => k' (mbR (mB nm B) r) := by
  obtain ⟨h1, h2, h3, h4⟩ := okC_fk hc
  have e : ∀ x, J h (ps ++ [n]) (nz x) = icodeNB P tt nm B nt clK lf hd h (.loop c) [n] x k' := fun x => by
    rw [hJ h [n] (nz x) h4 h2 (fun _ => by simp)]
    unfold icodeNB
    cases dn (hd h) [n] with
    | none => rfl
    | some ns' => exact icodeFB_nz hB0 _ _ _ _
  simp only [backTB, h1, e, icodeNB, h3, dn, cond_true]
  cases n with
  | zero =>
    simp only [dnL, iiterMK]
    cases inorm nt (nm h) B fr S ds <;> rfl
  | succ n =>
    simp only [dnL, icodeFB, hm, iiterMK]
    rw [headed hc]
    all_goals rfl
theorem keq_seq {b : Code} {ps : List Nat} {k k' : CRes → Option R} (ihb : ∀ fr S ds, icodeTB P tt nm B nt clK lf st J b ps fr S ds k = icodeK P tt nm B nt clK lf none b fr S ds k') (hk : Keq k k') : Keq (fun r => match r.e with
    | .normal => icodeTB P tt nm B nt clK lf st J b ps r.fr r.S r.ds k
    | _ => k r) (fun r => match r.e with
    | .normal => icodeK P tt nm B nt clK lf none b r.fr r.S r.ds fun q => k' (q.or r.rd r.wr)
    | _ => k' r) := fun r h1 h2 => by
  have e : (fun q : CRes => k' (q.or r.rd r.wr)) = k' := by funext q; rw [or_self0 h1 h2]
  cases he : r.e <;> simp only [he] <;> first | exact hk r h1 h2 | (rw [e]; exact ihb _ _ _)
theorem keq_block {id : Nat} {k k' : CRes → Option R} (hk : Keq k k') : Keq (fun r => match r.e with
    | .exit id' => cond (Nat.beq id' id) (k ⟨.normal, r.fr, r.S, r.ds, r.rd, r.wr⟩) (k r)
    | _ => k r) (fun r => match r.e with
    | .exit id' => cond (Nat.beq id' id) (k' ⟨.normal, r.fr, r.S, r.ds, r.rd, r.wr⟩) (k' r)
    | _ => k' r) := fun r h1 h2 => by
  cases he : r.e <;> simp only [he] <;> first | exact hk r h1 h2 | skip
  rename_i id'
  cases Nat.beq id' id
  · exact hk r h1 h2
  · exact hk _ h1 h2
theorem keq_scope {k k' : CRes → Option R} (hk : Keq k k') : Keq (fun r => match r.e with
    | .goto _ => none
    | _ => k r) (fun r => match r.e with
    | .goto _ => none
    | _ => k' r) := fun r h1 h2 => by
  cases he : r.e <;> simp only [he] <;> exact hk r h1 h2
theorem icodeTB_eq (hB0 : mB nm B = 0) (h : ClEq cl clK) : ∀ (c : Code) (ps : List Nat) (fr : PT IV) (S : IS) (ds : List Nat) (k k' : CRes → Option R), (regs c).Nodup → okC nm st hd c none = true → JeqB P tt nm B nt clK lf st hd J c ps k' → Keq k k' →
    icodeTB P tt nm B nt clK lf st J c ps fr S ds k = icodeK P tt nm B nt clK lf none c fr S ds k' := by
  intro c
  induction c with
  | skip => intro ps fr S ds k k' hn hl hJ hk; exact hk _ rfl rfl
  | label l => intro ps fr S ds k k' hn hl hJ hk; exact hk _ rfl rfl
  | exit id => intro ps fr S ds k k' hn hl hJ hk; exact hk _ rfl rfl
  | goto l => intro ps fr S ds k k' hn hl hJ hk; exact hk _ rfl rfl
  | ret => intro ps fr S ds k k' hn hl hJ hk; exact hk _ rfl rfl
  | refuse _ => intro ps fr S ds k k' hn hl hJ hk; rfl
  | region id ops draw =>
    intro ps fr S ds k k' hn hl hJ hk
    simp only [okC, Bool.not_eq_true'] at hl
    show bd (inorm nt (nm id) B fr S ds) (fun x => cond (st id) (J id ps (nz x)) (regKB P tt nm B nt clK ops.toList draw x k)) = bd (inorm nt (nm id) B fr S ds) (fun x => regKB P tt nm B nt clK ops.toList draw x k')
    cases inorm nt (nm id) B fr S ds with
    | none => rfl
    | some x =>
      simp only [bd]
      cases hs : st id with
      | true =>
        have := hJ id [] (nz x) (by simp [regs]) hs (fun h => by rw [hl] at h; cases h)
        rw [List.append_nil] at this
        rw [cond_true, this]
        simp only [icodeNB, hl, dn, cond_false, icodeFB, Nat.beq_refl, cond_true]
        exact regKB_nz hB0 _ _ _ _
      | false => rw [cond_false]; exact regKB_eq hB0 h hk
  | seq a b iha ihb =>
    intro ps fr S ds k k' hn hl hJ hk
    simp only [regs, List.nodup_append] at hn
    obtain ⟨n1, n2, n3⟩ := hn
    simp only [okC, Bool.and_eq_true] at hl
    exact iha ps fr S ds _ _ n1 hl.1 hJ.fst (keq_seq (fun fr S ds => ihb ps fr S ds k k' n2 hl.2 (hJ.snd n3) hk) hk)
  | cond c a b iha ihb =>
    intro ps fr S ds k k' hn hl hJ hk
    simp only [regs, List.nodup_append] at hn
    obtain ⟨n1, n2, n3⟩ := hn
    simp only [okC, Bool.and_eq_true] at hl
    simp only [icodeTB, icodeK]
    cases evo nt fr c with
    | none => rfl
    | some v =>
      cases v <;> try rfl
      simp only
      rw [iha ps fr S ds k k' n1 hl.2.1 hJ.cond1 hk, ihb ps fr S ds k k' n2 hl.2.2 (hJ.cond2 n3) hk]
  | block id c ih =>
    intro ps fr S ds k k' hn hl hJ hk
    exact ih ps fr S ds _ _ hn hl (fun i ns x hi hs hne => hJ i ns x hi hs hne) (keq_block hk)
  | scope c ih =>
    intro ps fr S ds k k' hn hl hJ hk
    exact ih ps fr S ds _ _ hn hl (fun i ns x hi hs hne => hJ i ns x hi hs hne) (keq_scope hk)
  | loop c ih =>
    intro ps fr S ds k k' hn hl hJ hk
    simp only [okC, Bool.and_eq_true, Option.isSome_iff_exists] at hl
    obtain ⟨_, ⟨m, hm⟩, hl⟩ := hl
    split at hl
    · rename_i i hi
      simp only [icodeTB, icodeK, hm]
      exact backB_eq hB0 hl hm hJ _ _ _ _
    · cases hl
  | rangeFunc g ps' assign body ih1 ih2 =>
    intro ps fr S ds k k' hn hl hJ hk
    show icodeK P tt nm B nt clK lf none (.rangeFunc g ps' assign body) fr S ds k = _
    rw [icodeK_eq h, icodeK_eq h]
    cases hq : icode P tt nm B nt cl lf none (.rangeFunc g ps' assign body) fr S ds with
    | none => rfl
    | some r =>
      simp only [icode] at hq
      obtain ⟨r0, _, rfl⟩ := mbO_some hq
      exact hk _ (mz hB0 _) (mz hB0 _)
theorem icodeFTB_eq (hB0 : mB nm B = 0) (h : ClEq cl clK) {i0 : Nat} : ∀ (c : Code) (o : Option Nat) (ps ns : List Nat) (x : NRes) (k k' : CRes → Option R), (regs c).Nodup → okC nm st hd c o = true → JeqB P tt nm B nt clK lf st hd J c ps k' → Keq k k' →
    icodeFTB P tt nm B nt clK lf st J i0 c ps ns x k = icodeFB P tt nm B nt clK lf i0 c ns x k' := by
  intro c
  induction c with
  | skip => intros; rfl
  | label l => intros; rfl
  | exit id => intros; rfl
  | goto l => intros; rfl
  | ret => intros; rfl
  | refuse _ => intros; rfl
  | region id ops draw =>
    intro o ps ns x k k' hn hl hJ hk
    simp only [icodeFTB, icodeFB]
    rw [regKB_eq hB0 h hk]
  | seq a b iha ihb =>
    intro o ps ns x k k' hn hl hJ hk
    simp only [regs, List.nodup_append] at hn
    obtain ⟨n1, n2, n3⟩ := hn
    simp only [okC, Bool.and_eq_true] at hl
    simp only [icodeFTB, icodeFB]
    rw [ihb none ps ns x k k' n2 hl.2 (hJ.snd n3) hk]
    rw [iha o ps ns x _ _ n1 hl.1 hJ.fst (keq_seq (fun fr S ds => icodeTB_eq hB0 h b ps fr S ds k k' n2 hl.2 (hJ.snd n3) hk) hk)]
    all_goals rfl
  | cond c a b iha ihb =>
    intro o ps ns x k k' hn hl hJ hk
    simp only [regs, List.nodup_append] at hn
    obtain ⟨n1, n2, n3⟩ := hn
    simp only [okC, Bool.and_eq_true] at hl
    simp only [icodeFTB, icodeFB]
    rw [iha none ps ns x k k' n1 hl.2.1 hJ.cond1 hk, ihb none ps ns x k k' n2 hl.2.2 (hJ.cond2 n3) hk]
  | block id c ih =>
    intro o ps ns x k k' hn hl hJ hk
    exact ih o ps ns x _ _ hn hl (fun i ns x hi hs hne => hJ i ns x hi hs hne) (keq_block hk)
  | scope c ih =>
    intro o ps ns x k k' hn hl hJ hk
    exact ih o ps ns x _ _ hn hl (fun i ns x hi hs hne => hJ i ns x hi hs hne) (keq_scope hk)
  | loop c ih =>
    intro o ps ns x k k' hn hl hJ hk
    cases ns with
    | nil => rfl
    | cons n ns =>
    simp only [okC, Bool.and_eq_true, Option.isSome_iff_exists] at hl
    obtain ⟨_, ⟨m, hm⟩, hl⟩ := hl
    split at hl
    · rename_i i hi
      simp only [icodeFTB, icodeFB, hm]
      refine ih (some i) (ps ++ [n]) ns x _ _ hn hl (hJ.body hm n) (fun r h1 h2 => ?_)
      cases (subm r.rd m.1 && subm r.wr m.2) with
      | false => rfl
      | true =>
        simp only [cond_true]
        cases r.e <;> simp only <;> first | exact backB_eq hB0 hl hm hJ _ _ _ _ | exact hk _ (mz hB0 _) (mz hB0 _)
    · cases hl
  | rangeFunc g ps' assign body ih1 ih2 => intros; rfl

/-! ### A function's stops -/
/-- The run of code from a stop on, ahead of the round if it is a head. -/
def atNB (P : Program) (tt : Nat → Option TI) (nm : Nat → Option Nm) (B : Nat) (nt : Nat) (body : Code) (clK : ClK R) (lf : Nat) (hd : Nat → Bool) (kk : CRes → Option R) (k : Nat) (ns : List Nat) (x : NRes) : Option R :=
  icodeNB P tt nm B nt clK lf hd k body ns x kk
theorem atNB_eq (hB0 : mB nm B = 0) {body : Code} {kk : CRes → Option R} (h : ClEq cl clK) (hn : (regs body).Nodup) (hl : okC nm st hd body none = true) (k : Nat) (ns ns' : List Nat) (hd' : dn (hd k) ns = some ns') (x : NRes) :
    atNB P tt nm B nt body clK lf hd kk k ns x = icodeFTB P tt nm B nt clK lf st (atNB P tt nm B nt body clK lf hd kk) k body [] ns' x kk := by
  unfold atNB
  simp only [icodeNB, hd']
  exact (icodeFTB_eq hB0 h body none [] ns' x _ _ hn hl (fun i ns x _ _ _ => rfl) (fun _ _ _ => rfl)).symm
theorem atNB_zero {body : Code} {kk : CRes → Option R} (k : Nat) (ns : List Nat) (hd' : dn (hd k) ns = none) (x : NRes) : atNB P tt nm B nt body clK lf hd kk k ns x = none := by
  unfold atNB
  simp only [icodeNB, hd']
theorem atB_in (hB0 : mB nm B = 0) {body : Code} {kk : CRes → Option R} (h : ClEq cl clK) (hn : (regs body).Nodup) (hl : okC nm st hd body none = true) (fr : PT IV) (S : IS) :
    icodeK P tt nm B nt clK lf none body fr S [] kk = icodeTB P tt nm B nt clK lf st (atNB P tt nm B nt body clK lf hd kk) body [] fr S [] kk :=
  (icodeTB_eq hB0 h body [] fr S [] _ _ hn hl (fun i ns x _ _ _ => rfl) (fun _ _ _ => rfl)).symm
end
/-! ### The same at the bottom -/
theorem mB_z (nm : Nat → Option Nm) : mB nm 0 = 0 := by unfold mB; cases frzF nm <;> rfl
def icodeT {R : Type} (P : Program) (tt : Nat → Option TI) (nm : Nat → Option Nm) (nt : Nat) (cl : ClK R) (lf : Nat) (st : Nat → Bool) (J : Nat → List Nat → NRes → Option R) (c : Code) (ps : List Nat) : CdK R := icodeTB P tt nm 0 nt cl lf st J c ps
def icodeFT {R : Type} (P : Program) (tt : Nat → Option TI) (nm : Nat → Option Nm) (nt : Nat) (cl : ClK R) (lf : Nat) (st : Nat → Bool) (J : Nat → List Nat → NRes → Option R) (k : Nat) (c : Code) (ps ns : List Nat) (x : NRes) (kk : CRes → Option R) : Option R := icodeFTB P tt nm 0 nt cl lf st J k c ps ns x kk
section
variable {P : Program} {tt : Nat → Option TI} {nm : Nat → Option Nm} {lf : Nat} {st hd : Nat → Bool} {cl : Cl}
def atN (P : Program) (tt : Nat → Option TI) (nm : Nat → Option Nm) (fi : FI) (s : Sm) (clK : ClK (ElR s.rts)) (lf : Nat) (hd : Nat → Bool) (k : Nat) (ns : List Nat) (x : NRes) : Option (ElR s.rts) :=
  atNB P tt nm 0 fi.nt fi.body clK lf hd (lastK tt fi s) k ns x
theorem atN_eq {fi : FI} {s : Sm} {clK : ClK (ElR s.rts)} (h : ClEq cl clK) (hn : (regs fi.body).Nodup) (hl : okC nm st hd fi.body none = true) (k : Nat) (ns ns' : List Nat) (hd' : dn (hd k) ns = some ns') (x : NRes) :
    atN P tt nm fi s clK lf hd k ns x = icodeFT P tt nm fi.nt clK lf st (atN P tt nm fi s clK lf hd) k fi.body [] ns' x (lastK tt fi s) := atNB_eq (mB_z nm) h hn hl k ns ns' hd' x
theorem atN_zero {fi : FI} {s : Sm} {clK : ClK (ElR s.rts)} (k : Nat) (ns : List Nat) (hd' : dn (hd k) ns = none) (x : NRes) : atN P tt nm fi s clK lf hd k ns x = none := atNB_zero k ns hd' x
theorem at_in {fi : FI} {s : Sm} {clK : ClK (ElR s.rts)} (h : ClEq cl clK) (hn : (regs fi.body).Nodup) (hl : okC nm st hd fi.body none = true) (fr : PT IV) :
    icodeK P tt nm 0 fi.nt clK lf none fi.body fr S0 [] (lastK tt fi s) = icodeT P tt nm fi.nt clK lf st (atN P tt nm fi s clK lf hd) fi.body [] fr S0 [] (lastK tt fi s) := atB_in (mB_z nm) h hn hl fr S0
end

/-! ### Loops cut at their heads -/
/-- Rounds, so many at most: each says what becomes of the state, given what the next round says. -/
def rounds {α R : Type} (T : (α → Option R) → α → Option R) : Nat → α → Option R
  | 0, _ => none
  | n + 1, a => T (rounds T n) a
end Go.Jx
end

/- Functions that take functions: what they compute, in both forms. -/
section
set_option linter.unusedVariables false
namespace Go.Jx
open Go Go.Sx Go.RowKit
universe u

/-- The first of a list that is so, by a way of asking that may fail. -/
def idxO {α : Type} (p : α → Option Bool) : List α → Nat → Option Int
  | [], _ => some (-1)
  | x :: l, i => match p x with
    | none => none
    | some b => cond b (some (Int.ofNat i)) (idxO p l (i + 1))
theorem idxO_some {α : Type} {p : α → Option Bool} {q : α → Bool} : ∀ {l : List α} {i : Nat}, (∀ x ∈ l, p x = some (q x)) → idxO p l i = some (match l.findIdx? q with | some j => Int.ofNat (i + j) | none => -1)
  | [], i, h => rfl
  | x :: l, i, h => by
    unfold idxO
    rw [h x List.mem_cons_self, List.findIdx?_cons]
    cases hq : q x with
    | true => rfl
    | false =>
      simp only [cond_false]
      rw [idxO_some fun y hy => h y (List.mem_cons_of_mem _ hy)]
      cases l.findIdx? q with
      | none => rfl
      | some j => exact congrArg (fun n => some (Int.ofNat n)) (show i + 1 + j = i + (j + 1) by omega)
def below (N : Nat) : Nat := 2 ^ N - 1
/-- The answer of a call that writes nothing. -/
def ansB (m : Nat) (r : Res) : Option Bool := match r.v with
  | .bool b => cond (Nat.beq r.wr 0 && subm r.rd m) (some b) none
  | _ => none
def idxF (c : TC) (cl : Cl) (vs : List IV) (S : IS) : Option Res := match vs with
  | [.lst c' l, .fn g caps] => match recast c' c l with
    | none => none
    | some l => match idxO (fun x => ob (cl (.fn g) (asIV c x :: caps) S) (ansB (below S.next))) l 0 with
      | none => none
      | some i => some ⟨.int .i64 i, S, below S.next, 0⟩
  | _ => none
def idxK (c : TC) (clP : ClP) (R : Type) (vs : List IV) (S : IS) (kk : Res → Option R) : Option R := match vs with
  | [.lst c' l, .fn g caps] => match recast c' c l with
    | none => none
    | some l => match idxO (fun x => clP Bool (.fn g) (asIV c x :: caps) S (ansB (below S.next))) l 0 with
      | none => none
      | some i => kk ⟨.int .i64 i, S, below S.next, 0⟩
  | _ => none
theorem idx_eq (c : TC) (cl : Cl) (clP : ClP) (h : ∀ R, ClEq cl (clP R)) (R : Type) (vs : List IV) (S : IS) (kk : Res → Option R) : idxK c clP R vs S kk = ob (idxF c cl vs S) kk := by
  unfold idxK idxF
  split
  · rename_i c' l g caps
    cases recast c' c l with
    | none => rfl
    | some l =>
      simp only [h Bool _ _ _ _]
      cases idxO (fun x => ob (cl (.fn g) (asIV c x :: caps) S) (ansB (below S.next))) l 0 <;> rfl
  · rfl
def idxHx (c : TC) : Hx := ⟨idxF c, idxK c, idx_eq c⟩
theorem idxF_inv {c : TC} {cl : Cl} {vs : List IV} {S : IS} {r : Res} (h : idxF c cl vs S = some r) : ∃ c' l0 g caps l i, vs = [.lst c' l0, .fn g caps] ∧ recast c' c l0 = some l ∧ idxO (fun x => ob (cl (.fn g) (asIV c x :: caps) S) (ansB (below S.next))) l 0 = some i ∧ r = ⟨.int .i64 i, S, below S.next, 0⟩ := by
  unfold idxF at h
  split at h
  · rename_i c' l g caps
    cases hr : recast c' c l with
    | none => rw [hr] at h; cases h
    | some l2 =>
      rw [hr] at h
      simp only at h
      split at h <;> cases h
      rename_i i hi
      exact ⟨_, _, _, _, _, _, rfl, hr, hi, rfl⟩
  · cases h

/-! ### The body of such a function -/
def tup (ss : List Nat) (r : CRes) : IEx × List IV × IS × List Nat × Nat × Nat := (r.e, ss.map (slot r.fr), r.S, r.ds, r.rd, r.wr)
theorem mb_zero (B : Nat) : mb B 0 = 0 := by unfold mb; cases Nat.beq B 0 <;> rfl
theorem lor_zero (a : Nat) : Nat.lor a 0 = a := Nat.or_zero a
theorem zero_lor (a : Nat) : Nat.lor 0 a = a := Nat.zero_or a
/-- A run, told by a continuation that only looks at some slots. -/
theorem run_tup {P : Program} {tt : Nat → Option TI} {nm : Nat → Option Nm} {B nt lf : Nat} {cl : Cl} {c : Code} {fr : PT IV} {S : IS} {ds : List Nat} {ss : List Nat} {y : IEx × List IV × IS × List Nat × Nat × Nat}
    (h : icodeK P tt nm B nt (fun t vs S kk => ob (cl t vs S) kk) lf none c fr S ds (fun r => some (tup ss r)) = some y) : ∃ r, icode P tt nm B nt cl lf none c fr S ds = some r ∧ tup ss r = y := by
  rw [icodeK_eq (cl := cl) (fun _ _ _ _ => rfl)] at h
  cases hr : icode P tt nm B nt cl lf none c fr S ds with
  | none => rw [hr] at h; cases h
  | some r => rw [hr] at h; cases h; exact ⟨r, rfl, rfl⟩
theorem keepO_eq {fr fr' : PT IV} : ∀ {l : List Nat} {r : PT IV}, (∀ t ∈ l, slot fr t = slot fr' t) → keepO fr l r = keepO fr' l r
  | [], r, h => rfl
  | t :: l, r, h => by
    unfold keepO
    rw [h t List.mem_cons_self]
    exact keepO_eq fun k hk => h k (List.mem_cons_of_mem _ hk)
/-- Code that begins with a region does not look further back than the norm there. -/
theorem headedO {P : Program} {tt : Nat → Option TI} {nm : Nat → Option Nm} {B nt lf : Nat} {cl : Cl} {m : Nm} {h : Nat} (hm : nm h = some m) (hf : m.fo = true) {fr fr' : PT IV} (hs : ∀ t ∈ m.keep, slot fr t = slot fr' t) :
    ∀ {c : Code} {S : IS} {ds : List Nat}, okC nm (fun k => Nat.beq k h) (fun k => Nat.beq k h) c (some h) = true → icode P tt nm B nt cl lf none c fr S ds = icode P tt nm B nt cl lf none c fr' S ds
  | .region id ops draw, S, ds, hc => by
    simp only [okC, Bool.and_eq_true] at hc
    obtain rfl := Nat.eq_of_beq_eq_true hc.1
    simp only [icode, hm, inorm, hf, cond_true, keepO_eq hs]
  | .seq a b, S, ds, hc => by
    simp only [okC, Bool.and_eq_true] at hc
    simp only [icode]
    rw [headedO hm hf hs (c := a) hc.1]
  | .cond _ a b, S, ds, hc => by simp [okC] at hc
  | .block _ c, S, ds, hc => by
    simp only [icode]
    rw [headedO hm hf hs (c := c) hc]
  | .scope c, S, ds, hc => by
    simp only [icode]
    rw [headedO hm hf hs (c := c) hc]
  | .loop c, S, ds, hc => by simp [okC] at hc
  | .skip, S, ds, hc => by simp [okC] at hc
  | .label _, S, ds, hc => by simp [okC] at hc
  | .exit _, S, ds, hc => by simp [okC] at hc
  | .goto _, S, ds, hc => by simp [okC] at hc
  | .ret, S, ds, hc => by simp [okC] at hc
  | .refuse _, S, ds, hc => by simp [okC] at hc
  | .rangeFunc .., S, ds, hc => by simp [okC] at hc
def nmI (k : Nat) (keep : List Nat) (mr : Nat) : Nat → Option Nm := fun j => cond (Nat.beq j k) (some ⟨keep, [], [], [], [], mr, 0, true⟩) none
theorem mB_I (keep : List Nat) (mr B : Nat) : mB (nmI 2 keep mr) B = B := rfl
def frI (c : TC) (l : List (El c)) (g : Nat) (caps : List IV) (i : Int) : PT IV := (((PT.leaf.set (.lst c l) 0).set (.fn g caps) 1).set (.int .i64 (Int.ofNat l.length)) 7).set (.int .i64 i) 8
def frA (c : TC) (l : List (El c)) (g : Nat) (caps : List IV) : PT IV := (argGo [.lst c l, .fn g caps] 0 .leaf).set (.int .i64 0) 4
def frB (c : TC) (l : List (El c)) (g : Nat) (caps : List IV) : PT IV := (((frA c l g caps).set (.lst c l) 6).set (.int .i64 (Int.ofNat l.length)) 7).set (.int .i64 0) 8
/-- What is to be seen by evaluation. -/
structure IdxFacts (P : Program) (tt : Nat → Option TI) (c : TC) (fi : FI) (A B L C : Code) : Prop where
  body : fi.body = .seq A (.seq (.seq B (.block 0 (.loop L))) C)
  two : Nat.ble 2 fi.nt = true
  head : ∀ mr, okC (nmI 2 [0, 1, 7, 8] mr) (fun k => Nat.beq k 2) (fun k => Nat.beq k 2) L (some 2) = true
  a : ∀ (R : Type) (clK : ClK R) (B0 mr lf : Nat) (l : List (El c)) (g : Nat) (caps : List IV) (S : IS) (kk : CRes → Option R), icodeK P tt (nmI 2 [0, 1, 7, 8] mr) B0 fi.nt clK lf none A (argGo [.lst c l, .fn g caps] 0 .leaf) S [] kk = kk ⟨.normal, frA c l g caps, S, [], mb B0 0, mb B0 0⟩
  b : ∀ (R : Type) (clK : ClK R) (B0 mr lf : Nat) (l : List (El c)) (g : Nat) (caps : List IV) (S : IS) (kk : CRes → Option R), icodeK P tt (nmI 2 [0, 1, 7, 8] mr) B0 fi.nt clK lf none B (frA c l g caps) S [] kk = kk ⟨.normal, frB c l g caps, S, [], mb B0 0, mb B0 0⟩
  l : ∀ (R : Type) (clK : ClK R) (B0 mr lf : Nat) (l : List (El c)) (g : Nat) (caps : List IV) (S : IS) (i : Int) (kk : _ → Option R), icodeK P tt (nmI 2 [0, 1, 7, 8] mr) B0 fi.nt clK lf none L (frI c l g caps i) S [] (fun r => kk (tup [0, 1, 4, 7, 8] r)) =
    cond (iltI i (Int.ofNat l.length)) (match jget l i with
      | none => none
      | some x => clK (.fn g) (asIV c x :: caps) S fun r => match r.v with
        | .bool b => cond b
          (kk (.ret, [.lst c l, .fn g caps, .int .i64 i, .int .i64 (Int.ofNat l.length), .int .i64 i], r.S, [], (mb B0 0).lor (Nat.lor 0 ((mb B0 0).lor ((mb B0 (Nat.lor 0 (Nat.lor 0 (Nat.lor 0 (Nat.lor 0 (Nat.lor 0 (r.rd.lor 0))))))).lor ((mb B0 0).lor 0)))),
            (mb B0 0).lor (Nat.lor 0 ((mb B0 0).lor ((mb B0 (Nat.lor 0 (Nat.lor 0 (Nat.lor 0 (Nat.lor 0 (Nat.lor 0 (Nat.lor 0 (r.wr.lor 0)))))))).lor ((mb B0 0).lor 0))))))
          (kk (.normal, [.lst c l, .fn g caps, .unk, .int .i64 (Int.ofNat l.length), .int .i64 (IntKind.i64.wrap (i + 1))], r.S, [], (mb B0 0).lor (Nat.lor 0 (((mb B0 0).lor ((mb B0 (Nat.lor 0 (Nat.lor 0 (Nat.lor 0 (Nat.lor 0 (Nat.lor 0 (r.rd.lor 0))))))).lor 0)).lor (mb B0 0))),
            (mb B0 0).lor (Nat.lor 0 (((mb B0 0).lor ((mb B0 (Nat.lor 0 (Nat.lor 0 (Nat.lor 0 (Nat.lor 0 (Nat.lor 0 (Nat.lor 0 (r.wr.lor 0)))))))).lor 0)).lor (mb B0 0)))))
        | _ => none)
      (kk (.exit 0, [.lst c l, .fn g caps, .unk, .int .i64 (Int.ofNat l.length), .int .i64 i], S, [], (mb B0 0).lor 0, (mb B0 0).lor 0))
  e : ∀ (R : Type) (clK : ClK R) (B0 mr lf : Nat) (fr : PT IV) (S : IS) (kk : CRes → Option R), icodeK P tt (nmI 2 [0, 1, 7, 8] mr) B0 fi.nt clK lf none C fr S [] kk = kk ⟨.ret, fr.set (.int .i64 (-1)) 4, S, [], (mb B0 0).lor 0, (mb B0 0).lor 0⟩
  res : fi.res = [.tmp 4]
  nt4 : Nat.blt 4 fi.nt = true
  lm : ∀ mr, loopM (nmI 2 [0, 1, 7, 8] mr) L = some (mr, 0)
variable {P : Program} {tt : Nat → Option TI} {c : TC} {fi : FI} {A B L C : Code}
theorem subm_self (a : Nat) : subm a a = true := by unfold subm; rw [Nat.or_self]; exact Nat.beq_refl a
theorem subm_zero (a : Nat) : subm 0 a = true := by unfold subm; rw [Nat.zero_or]; exact Nat.beq_refl a
theorem mb_subm {B0 a m : Nat} (h : subm a m = true) : subm (mb B0 a) m = true := by
  unfold mb
  cases Nat.beq B0 0
  · exact h
  · exact subm_zero m
theorem idx_loop (F : IdxFacts P tt c fi A B L C) {cl : Cl} (hcalm : Calm cl) {l : List (El c)} (hl : l.length * bsz c ≤ 140737488355328) {g : Nat} {caps : List IV} {S : IS} {i : Int} {lf : Nat} : ∀ (rest pre : List (El c)) (fuel : Nat) (fr : PT IV),
    l = pre ++ rest → rest.length < fuel → (slot fr 0 = .lst c l ∧ slot fr 1 = .fn g caps ∧ slot fr 7 = .int .i64 (Int.ofNat l.length) ∧ slot fr 8 = .int .i64 (Int.ofNat pre.length)) →
    idxO (fun x => ob (cl (.fn g) (asIV c x :: caps) S) (ansB (below S.next))) rest pre.length = some i →
    ∃ r, iiterM (icode P tt (nmI 2 [0, 1, 7, 8] (below S.next)) S.next fi.nt cl lf none L) (below S.next) 0 fuel fr S [] = some r ∧ r.S = S ∧ r.ds = [] ∧ r.wr = 0 ∧ ((r.e = .ret ∧ slot r.fr 4 = .int .i64 i) ∨ (r.e = .exit 0 ∧ i = -1)) := by
  intro rest
  induction rest with
  | nil =>
    intro pre fuel fr hp hf hs hi
    cases fuel with
    | zero => exact absurd hf (by simp)
    | succ n =>
    cases hi
    have e1 := headedO (P := P) (tt := tt) (B := S.next) (nt := fi.nt) (lf := lf) (cl := cl) (h := 2) (m := ⟨[0, 1, 7, 8], [], [], [], [], below S.next, 0, true⟩) rfl rfl (fr := fr) (fr' := frI c l g caps (Int.ofNat pre.length)) (by
      intro t ht
      simp only [List.mem_cons, List.not_mem_nil, or_false] at ht
      rcases ht with rfl | rfl | rfl | rfl
      · exact hs.1
      · exact hs.2.1
      · exact hs.2.2.1
      · exact hs.2.2.2) (c := L) (S := S) (ds := []) (F.head _)
    have e2 := F.l (IEx × List IV × IS × List Nat × Nat × Nat) (fun t vs S kk => ob (cl t vs S) kk) S.next (below S.next) lf l g caps S (Int.ofNat pre.length) some
    rw [show iltI (Int.ofNat pre.length) (Int.ofNat l.length) = false by rw [iltI_eq, hp]; simp, cond_false] at e2
    obtain ⟨r, hr, ht⟩ := run_tup e2
    simp only [tup, Prod.mk.injEq, mb_zero, lor_zero] at ht
    obtain ⟨t1, t2, t3, t4, t5, t6⟩ := ht
    refine ⟨⟨.exit 0, r.fr, S, [], below S.next, 0⟩, ?_, rfl, rfl, rfl, .inr ⟨rfl, rfl⟩⟩
    unfold iiterM
    rw [e1]
    have hr' : icode P tt (nmI 2 [0, 1, 7, 8] (below S.next)) S.next fi.nt cl lf none L (frI c l g caps (Int.ofNat pre.length)) S [] = some r := hr
    simp only [hr', t5, t6, subm_zero, Bool.and_self, cond_true, t1, t3, t4]
  | cons x rest ih =>
    intro pre fuel fr hp hf hs hi
    cases fuel with
    | zero => exact absurd hf (by simp)
    | succ n =>
    have e1 := headedO (P := P) (tt := tt) (B := S.next) (nt := fi.nt) (lf := lf) (cl := cl) (h := 2) (m := ⟨[0, 1, 7, 8], [], [], [], [], below S.next, 0, true⟩) rfl rfl (fr := fr) (fr' := frI c l g caps (Int.ofNat pre.length)) (by
      intro t ht
      simp only [List.mem_cons, List.not_mem_nil, or_false] at ht
      rcases ht with rfl | rfl | rfl | rfl
      · exact hs.1
      · exact hs.2.1
      · exact hs.2.2.1
      · exact hs.2.2.2) (c := L) (S := S) (ds := []) (F.head _)
    have e2 := F.l (IEx × List IV × IS × List Nat × Nat × Nat) (fun t vs S kk => ob (cl t vs S) kk) S.next (below S.next) lf l g caps S (Int.ofNat pre.length) some
    have hlen : l.length = pre.length + (rest.length + 1) := by rw [hp]; simp
    rw [show iltI (Int.ofNat pre.length) (Int.ofNat l.length) = true by rw [iltI_eq]; simp; omega, cond_true,
      show jget l (Int.ofNat pre.length) = some x by unfold jget; rw [if_pos (by simp)]; rw [hp]; simp] at e2
    simp only at e2
    unfold idxO at hi
    cases hc : cl (.fn g) (asIV c x :: caps) S with
    | none => rw [hc] at hi; cases hi
    | some r0 =>
    rw [hc] at hi e2
    simp only [ob] at hi e2
    cases hv : r0.v <;> simp only [ansB, hv] at hi <;> try (cases hi; done)
    rename_i b
    cases hmk : (Nat.beq r0.wr 0 && subm r0.rd (below S.next)) with
    | false => rw [hmk] at hi; cases hi
    | true =>
    rw [hmk] at hi
    simp only [Bool.and_eq_true] at hmk
    have hw0 : r0.wr = 0 := Nat.eq_of_beq_eq_true hmk.1
    have hS : r0.S = S := hcalm _ _ _ _ hc hw0 (by rw [hv]; rfl)
    simp only [hv, hS, hw0, mb_zero, lor_zero, zero_lor] at e2
    simp only [cond_true] at hi
    have hsm : subm (mb S.next r0.rd) (below S.next) = true := mb_subm hmk.2
    cases b with
    | true =>
      cases hi
      rw [cond_true] at e2
      obtain ⟨r, hr, ht⟩ := run_tup e2
      simp only [tup, Prod.mk.injEq, List.map_cons, List.cons.injEq] at ht
      obtain ⟨t1, t2, t3, t4, t5, t6⟩ := ht
      refine ⟨⟨.ret, r.fr, S, [], below S.next, 0⟩, ?_, rfl, rfl, rfl, .inl ⟨rfl, t2.2.2.1⟩⟩
      unfold iiterM
      rw [e1]
      have hr' : icode P tt (nmI 2 [0, 1, 7, 8] (below S.next)) S.next fi.nt cl lf none L (frI c l g caps (Int.ofNat pre.length)) S [] = some r := hr
      simp only [hr', t5, t6, hsm, subm_zero, Bool.and_self, cond_true, t1, t3, t4]
    | false =>
      rw [cond_false] at e2 hi
      obtain ⟨r, hr, ht⟩ := run_tup e2
      simp only [tup, Prod.mk.injEq, List.map_cons, List.cons.injEq] at ht
      obtain ⟨t1, t2, t3, t4, t5, t6⟩ := ht
      have hw : IntKind.i64.wrap (Int.ofNat pre.length + 1) = Int.ofNat (pre ++ [x]).length := by
        rw [show Int.ofNat (pre ++ [x]).length = Int.ofNat pre.length + 1 by simp]
        refine wrap64_in ?_
        have hb : 1 ≤ bsz c := bsz_one c
        have : l.length * 1 ≤ l.length * bsz c := Nat.mul_le_mul_left _ hb
        simp; omega
      obtain ⟨q, q1, q2⟩ := ih (pre ++ [x]) n r.fr (by rw [hp]; simp) (by simp at hf; omega) ⟨t2.1, t2.2.1, t2.2.2.2.1, by rw [← hw]; exact t2.2.2.2.2.1⟩ (by rw [show (pre ++ [x]).length = pre.length + 1 by simp]; exact hi)
      refine ⟨q, ?_, q2⟩
      unfold iiterM
      rw [e1]
      have hr' : icode P tt (nmI 2 [0, 1, 7, 8] (below S.next)) S.next fi.nt cl lf none L (frI c l g caps (Int.ofNat pre.length)) S [] = some r := hr
      simp only [hr', t5, t6, hsm, subm_zero, Bool.and_self, cond_true, t1, t3, t4]
      exact q1
where bsz_one : ∀ c : TC, 1 ≤ bsz c
  | .int k => by cases k <;> simp [bsz]
  | .bool => by simp [bsz]
  | .str => by simp [bsz]
  | .list _ => by simp [bsz]
  | .two a b => by have := bsz_one a; simp only [bsz]; omega

theorem runK {nm : Nat → Option Nm} {B nt lf : Nat} {cl : Cl} {c : Code} {fr : PT IV} {S : IS} {ds : List Nat} {y : CRes}
    (h : icodeK P tt nm B nt (fun t vs S kk => ob (cl t vs S) kk) lf none c fr S ds some = some y) : icode P tt nm B nt cl lf none c fr S ds = some y := by
  rw [icodeK_eq (cl := cl) (fun _ _ _ _ => rfl)] at h
  cases hr : icode P tt nm B nt cl lf none c fr S ds with
  | none => rw [hr] at h; cases h
  | some r => rw [hr] at h; cases h; rfl
theorem below_tin {T : Nat → Prop} {n a : Nat} (h : tin T (below n)) : tin T (a % 2 ^ n) := fun j hj => h j (by
  rw [Nat.testBit_mod_two_pow] at hj
  simp only [Bool.and_eq_true, decide_eq_true_eq] at hj
  unfold below
  rw [Nat.testBit_two_pow_sub_one]
  simpa using hj.1)
theorem lst_len {E : Env} {c : TC} {l : List (El c)} {u : Value} (h : VR E (.lst c l) u) : l.length * bsz c ≤ 140737488355328 := by
  cases h with
  | lst0 hc => simp
  | lst us h1 h2 h3 hb hh hc hu => exact h3
/-- The machine's call, where the body's run is known to write nothing, and to answer an integer. -/
theorem hx_int {f : Nat} {nm : Nat → Option Nm} {lf : Nat} {cl : Cl} {vs : List IV} {S : IS} {fr : PT IV} {e : IEx} {rd : Nat} {k : IntKind} {i : Int} {t : Nat} (hz : frzF nm = false) (hm : P.follows .mixedOrders = true) (htt : TT P tt) (hfi : FIok P f fi) (hcl : ClOK P cl) (hfr : ClFr cl)
    (hb : Nat.ble vs.length fi.nt = true) (hr : icode P tt nm S.next fi.nt cl lf none fi.body (argGo vs 0 .leaf) S [] = some ⟨e, fr, S, [], rd, 0⟩) (he : e.leaves = true) (hres : fi.res = [.tmp t]) (hnt : Nat.blt t fi.nt = true) (hs : slot fr t = .int k i)
    {T : TW} {E : Env} {us : List Value} (p : Pre T E S) (hrd : tin T.r (below S.next)) (hv : VRs E vs us) : Callable P f ∧ CallsIn Fence.wide 0 P f us.toArray E.w (RetE T E S ⟨.int k i, S, below S.next, 0⟩) := by
  refine body_ok (fi := fi) (r := ⟨.int k i, S, (rd ||| 0) % 2 ^ S.next, 0⟩) hz hm htt hfi hcl hfr hb hr he ?_ p (below_tin hrd) (fun j hj => by simp at hj) hv
  have e1 : imarks ([] : List Nat) S = some (S, 0) := rfl
  simp only [ileave, e1, hres, ires, hnt, cond_true, hs]
  simp only [tupI, Nat.or_self, igc, Nat.zero_mod, low2, low0, Nat.beq_refl, Bool.and_self, cond_true]
theorem idx_ok {f : Nat} (F : IdxFacts P tt c fi A B L C) (hm : P.follows .mixedOrders = true) (htt : TT P tt) (hfi : FIok P f fi) : HxOK P f (idxF c) := by
  refine ⟨fun cl hcl hfr hcalm vs S r h T E us p hrd hwr hv => ?_, fun cl hfr vs S r h => ?_, fun cl hcalm vs S r h _ _ => ?_⟩
  · obtain ⟨c', l1, g, caps, l0, i, rfl, hrc, hi, rfl⟩ := idxF_inv h
    obtain ⟨rfl, rfl⟩ := recast_some hrc
    have hlen : l0.length * bsz c' ≤ 140737488355328 := by
      obtain ⟨u, us, _, a1, _⟩ := hv.inv
      exact lst_len a1
    have ha := runK (F.a CRes (fun t vs S kk => ob (cl t vs S) kk) S.next (below S.next) (l0.length + 1) l0 g caps S some)
    have hb := runK (F.b CRes (fun t vs S kk => ob (cl t vs S) kk) S.next (below S.next) (l0.length + 1) l0 g caps S some)
    obtain ⟨r, hr, hS, hds, hw, hcase⟩ := idx_loop F hcalm hlen (lf := l0.length + 1) l0 [] (l0.length + 1) (frB c' l0 g caps) rfl (Nat.lt_succ_self _) ⟨rfl, rfl, rfl, rfl⟩ hi
    obtain ⟨re, rfr, rS, rds, rrd, rwr⟩ := r
    simp only at hS hds hw hcase
    subst hS; subst hds; subst hw
    rcases hcase with ⟨he, hs⟩ | ⟨he, hi2⟩
    · subst he
      refine hx_int (vs := [.lst c' l0, .fn g caps]) (nm := nmI 2 [0, 1, 7, 8] (below rS.next)) (lf := l0.length + 1) (fr := rfr) (e := .ret) (k := .i64) (i := i) (t := 4) (rd := mb rS.next rrd) rfl hm htt hfi hcl hfr F.two ?_ rfl F.res F.nt4 hs p hrd hv
      rw [F.body]
      simp only [icode, ha, hb, F.lm, hr, mbO, mbR, mB_I, mb_zero, CRes.or, Nat.zero_or]
    · subst he; subst hi2
      have hc := runK (F.e CRes (fun t vs S kk => ob (cl t vs S) kk) rS.next (below rS.next) (l0.length + 1) rfr rS some)
      refine hx_int (vs := [.lst c' l0, .fn g caps]) (nm := nmI 2 [0, 1, 7, 8] (below rS.next)) (lf := l0.length + 1) (fr := rfr.set (.int .i64 (-1)) 4) (e := .ret) (k := .i64) (i := -1) (t := 4) (rd := mb rS.next rrd) rfl hm htt hfi hcl hfr F.two ?_ rfl F.res F.nt4 (by rw [slot_set, if_pos rfl]) p hrd hv
      rw [F.body]
      simp only [icode, ha, hb, F.lm, hr, mbO, mbR, mB_I, mb_zero, CRes.or, Nat.zero_or, Nat.beq_refl, cond_true, hc, lor_zero, Nat.or_zero]
  · obtain ⟨_, _, _, _, _, _, _, _, _, rfl⟩ := idxF_inv h
    exact FrO.same _ rfl
  · obtain ⟨_, _, _, _, _, _, _, _, _, rfl⟩ := idxF_inv h
    rfl
/-! ### Parts of code -/
def cL : Code → Code
  | .seq a _ => a
  | c => c
def cR : Code → Code
  | .seq _ b => b
  | c => c
def cB : Code → Code
  | .block _ c => c
  | .loop c => c
  | .scope c => c
  | c => c
end Go.Jx
end

/- Contracts out of plain forms; tables of contracts as lists. -/
section
set_option linter.unusedVariables false
namespace Go.Jx
open Go Go.Sx Go.RowKit
universe u

def smL : List (Nat × Sm) → Nat → Option Sm
  | [], _ => none
  | e :: l, f => cond (Nat.beq f e.1) (some e.2) (smL l f)
def SmOK (P : Program) : List (Nat × Sm) → Prop
  | [] => True
  | e :: l => Con P e.1 e.2 ∧ SmOK P l
theorem smL_ok {P : Program} : ∀ {l : List (Nat × Sm)}, SmOK P l → ∀ f s, smL l f = some s → Con P f s
  | [], _, f, s, h => by cases h
  | e :: l, hl, f, s, h => by
    unfold smL at h
    cases hb : Nat.beq f e.1 with
    | true => rw [hb, cond_true] at h; cases h; rw [Nat.eq_of_beq_eq_true hb]; exact hl.1
    | false => rw [hb, cond_false] at h; exact smL_ok hl.2 f s h
def hxL : List (Nat × Hx) → Nat → Option Hx
  | [], _ => none
  | e :: l, f => cond (Nat.beq f e.1) (some e.2) (hxL l f)
def HxsOK (P : Program) : List (Nat × Hx) → Prop
  | [] => True
  | e :: l => HxOK P e.1 e.2.f ∧ HxsOK P l
theorem hxL_ok {P : Program} : ∀ {l : List (Nat × Hx)}, HxsOK P l → ∀ f s, hxL l f = some s → HxOK P f s.f
  | [], _, f, s, h => by cases h
  | e :: l, hl, f, s, h => by
    unfold hxL at h
    cases hb : Nat.beq f e.1 with
    | true => rw [hb, cond_true] at h; cases h; rw [Nat.eq_of_beq_eq_true hb]; exact hl.1
    | false => rw [hb, cond_false] at h; exact hxL_ok hl.2 f s h
def nm1 (f : Nat) (nmf : Nat → Option Nm) : Nat → Nat → Option Nm := fun g => cond (Nat.beq g f) nmf fun _ => none
theorem nm1_self (f : Nat) (nmf : Nat → Option Nm) : nm1 f nmf f = nmf := by unfold nm1; rw [Nat.beq_refl, cond_true]
/-- The contract of a function out of its run with stops ahead of rounds. -/
theorem conT {P : Program} {tt : Nat → Option TI} {ft : Nat → Option FI} {sml : List (Nat × Sm)} {hxl : List (Nat × Hx)} {f : Nat} {s : Sm} {fi : FI} {nmf : Nat → Option Nm} {st hd : Nat → Bool} (n : Nat) (hm : P.follows .mixedOrders = true) (htt : TT P tt) (hft : FT P ft) (hsm : SmOK P sml)
    (hhx : HxsOK P hxl) (hC : Callable P f) (h1 : smL sml f = none) (h2 : hxL hxl f = none) (h3 : ft f = some fi) (h4 : ∀ x, Nat.ble (argV s.pts x).length fi.nt = true) (hn : (regs fi.body).Nodup) (hl : okC nmf st hd fi.body none = true)
    (hrun : ∀ (x : ElA s.pts) (y : ElR s.rts), WfA s.pts x → s.f x = some y → ∃ lf,
      icodeT P tt nmf fi.nt (icallK P tt ft (nm1 f nmf) (smL sml) (hxL hxl) lf n (ElR s.rts)) lf st (atN P tt nmf fi s (icallK P tt ft (nm1 f nmf) (smL sml) (hxL hxl) lf n (ElR s.rts)) lf hd) fi.body [] (argGo (argV s.pts x) 0 .leaf) S0 [] (lastK tt fi s) = some y) (hz : frzF nmf = false := by rfl) : Con P f s := by
  refine conK (nm := nm1 f nmf) (sm := smL sml) (hx := hxL hxl) hm htt hft (smL_ok hsm) (hxL_ok hhx) hC fun x y hx2 hy => ?_
  obtain ⟨lf, hr⟩ := hrun x y hx2 hy
  refine ⟨n + 1, lf, ?_⟩
  rw [← at_in (icallK_eq n _) hn hl] at hr
  have e := nm1_self f nmf
  unfold icallK
  simp only [h1, h2, h3, h4, cond_true, e, hz, cond_false]
  exact hr
/-- A text out of its bytes. -/
def S.lit (l : List Nat) : ByteArray := ⟨⟨l.map UInt8.ofNat⟩⟩
end Go.Jx
end

/- The calls of strings.IndexFunc; the interpreter is monotone in its calls. -/
section
set_option linter.unusedVariables false
namespace Go.Jx
open Go Go.Sx Go.RowKit
universe u

section
variable {P : Program} {tt : Nat → Option TI} {nm : Nat → Option Nm} {B nt lf : Nat} {round : Option Nat} {cl cl' : Cl}
def ClLe (cl cl' : Cl) : Prop := ∀ t vs S r, cl t vs S = some r → cl' t vs S = some r
theorem istep_mono (h : ClLe cl cl') {fr : PT IV} {S : IS} {o : Oper} {r : Res} (hr : istep P tt nt cl fr S o = some r) : istep P tt nt cl' fr S o = some r := by
  obtain ⟨dst, op, ty, pos, aft, g⟩ := o
  cases op <;> try exact hr
  rename_i c
  obtain ⟨callee, args, ts⟩ := c
  cases callee <;> try exact hr
  rename_i x
  simp only [istep, oget] at hr ⊢
  generalize evo nt fr x = e1 at hr ⊢
  cases e1 with
  | none => cases hr
  | some v =>
    simp only at hr ⊢
    generalize evL nt fr args.toList = e2 at hr ⊢
    cases e2 with
    | none => cases hr
    | some vs =>
      cases v <;> simp only at hr ⊢ <;> first | (cases hr; done) | exact h _ _ _ _ hr
theorem iseq_mono (h : ClLe cl cl') {ops : List Oper} : ∀ {l : List Oper} {fr : PT IV} {S : IS} {q : FRes}, iseq P tt nt cl ops l fr S = some q → iseq P tt nt cl' ops l fr S = some q
  | [], fr, S, q, hq => hq
  | o :: l, fr, S, q, hq => by
    unfold iseq at hq ⊢
    cases hgk : gOK ops fr o.guard with
    | false => rw [hgk] at hq; cases hq
    | true =>
    rw [hgk, cond_true] at hq
    rw [cond_true]
    cases hw : wantI ops nt fr o.guard with
    | true =>
      rw [hw, cond_true] at hq
      rw [cond_true]
      cases hs : istep P tt nt cl fr S o with
      | none => rw [hs] at hq; cases hq
      | some r =>
        rw [hs] at hq
        rw [istep_mono h hs]
        simp only at hq ⊢
        cases hn : iseq P tt nt cl ops l (putD o.dst r.v fr) r.S with
        | none => rw [hn] at hq; cases hq
        | some q2 => rw [hn] at hq; rw [iseq_mono h hn]; exact hq
    | false =>
      rw [hw, cond_false] at hq
      rw [cond_false]
      exact iseq_mono h hq
theorem irecs_mono (h : ClLe cl cl') {ops : List Oper} : ∀ {l : List Oper} {fr : PT IV} {S : IS} {q : Recs}, irecs P tt nt cl ops l fr S = some q → irecs P tt nt cl' ops l fr S = some q
  | [], fr, S, q, hq => hq
  | o :: l, fr, S, q, hq => by
    unfold irecs at hq ⊢
    cases hgk : gOK ops fr o.guard with
    | false => rw [hgk] at hq; cases hq
    | true =>
    rw [hgk, cond_true] at hq
    rw [cond_true]
    cases hw : wantI ops nt fr o.guard with
    | true =>
      rw [hw, cond_true] at hq
      rw [cond_true]
      cases hs : istep P tt nt cl fr S o with
      | none => rw [hs] at hq; cases hq
      | some r =>
        rw [hs] at hq
        rw [istep_mono h hs]
        simp only at hq ⊢
        cases hn : irecs P tt nt cl ops l (putD o.dst r.v fr) r.S with
        | none => rw [hn] at hq; cases hq
        | some q2 => rw [hn] at hq; rw [irecs_mono h hn]; exact hq
    | false =>
      rw [hw, cond_false] at hq
      rw [cond_false]
      cases hn : irecs P tt nt cl ops l (putD o.dst (.tup []) fr) S with
      | none => rw [hn] at hq; cases hq
      | some q2 => rw [hn] at hq; rw [irecs_mono h hn]; exact hq
theorem iany_mono (h : ClLe cl cl') {ops : List Oper} {fr : PT IV} {S : IS} {q : FRes} (hq : iany P tt nt cl ops fr S = some q) : iany P tt nt cl' ops fr S = some q := by
  unfold iany at hq ⊢
  cases hn : irecs P tt nt cl ops ops fr S with
  | none => rw [hn] at hq; cases hq
  | some q2 => rw [hn] at hq; rw [irecs_mono h hn]; exact hq
theorem ifin_mono (h : ClLe cl cl') {f : Nat} {caps : List IV} {S : IS} {id : Nat} {fr : PT IV} {ds : List Nat} {rd : Nat} {q : CRes} (hq : ifin cl f caps S id fr ds rd = some q) : ifin cl' f caps S id fr ds rd = some q := by
  unfold ifin at hq ⊢
  cases hn : cl (.fn f) (.yield id :: caps) S with
  | none => rw [hn] at hq; cases hq
  | some r => rw [hn] at hq; rw [h _ _ _ _ hn]; exact hq
theorem icode_mono (h : ClLe cl cl') : ∀ (c : Code) {fr : PT IV} {S : IS} {ds : List Nat} {q : CRes}, icode P tt nm B nt cl lf round c fr S ds = some q → icode P tt nm B nt cl' lf round c fr S ds = some q := by
  intro c
  induction c with
  | skip => intro fr S ds q hq; exact hq
  | label l => intro fr S ds q hq; exact hq
  | exit id => intro fr S ds q hq; exact hq
  | goto l => intro fr S ds q hq; exact hq
  | ret => intro fr S ds q hq; exact hq
  | refuse _ => intro fr S ds q hq; exact hq
  | region id ops draw =>
    intro fr S ds q hq
    simp only [icode] at hq ⊢
    cases hx : inorm nt (nm id) B fr S ds with
    | none => rw [hx] at hq; cases hq
    | some x =>
      rw [hx] at hq
      simp only at hq ⊢
      cases draw with
      | true =>
        simp only [cond_true] at hq ⊢
        cases hn : iany P tt nt cl ops.toList x.fr x.S with
        | none => rw [hn] at hq; cases hq
        | some r => rw [hn] at hq; rw [iany_mono h hn]; exact hq
      | false =>
        simp only [cond_false] at hq ⊢
        cases hn : iseq P tt nt cl ops.toList ops.toList x.fr x.S with
        | none => rw [hn] at hq; cases hq
        | some r => rw [hn] at hq; rw [iseq_mono h hn]; exact hq
  | seq x y ihx ihy =>
    intro fr S ds q hq
    simp only [icode] at hq ⊢
    cases hn : icode P tt nm B nt cl lf round x fr S ds with
    | none => rw [hn] at hq; cases hq
    | some r =>
      rw [hn] at hq
      rw [ihx hn]
      simp only at hq ⊢
      cases he : r.e <;> rw [he] at hq <;> simp only at hq ⊢ <;> try exact hq
      cases hn2 : icode P tt nm B nt cl lf round y r.fr r.S r.ds with
      | none => rw [hn2] at hq; cases hq
      | some r2 => rw [hn2] at hq; rw [ihy hn2]; exact hq
  | cond c x y ihx ihy =>
    intro fr S ds q hq
    simp only [icode] at hq ⊢
    cases hv : evo nt fr c with
    | none => rw [hv] at hq; cases hq
    | some v =>
      rw [hv] at hq
      cases v <;> simp only at hq ⊢ <;> try (cases hq; done)
      rename_i b
      cases b with
      | true => exact ihx hq
      | false => exact ihy hq
  | block id c ih =>
    intro fr S ds q hq
    simp only [icode] at hq ⊢
    cases hn : icode P tt nm B nt cl lf round c fr S ds with
    | none => rw [hn] at hq; cases hq
    | some r => rw [hn] at hq; rw [ih hn]; exact hq
  | scope c ih =>
    intro fr S ds q hq
    simp only [icode] at hq ⊢
    cases hn : icode P tt nm B nt cl lf round c fr S ds with
    | none => rw [hn] at hq; cases hq
    | some r => rw [hn] at hq; rw [ih hn]; exact hq
  | loop c ih =>
    intro fr S ds q hq
    simp only [icode] at hq ⊢
    cases hm : loopM nm c with
    | some m =>
      rw [hm] at hq
      simp only at hq ⊢
      obtain ⟨q0, hq0, rfl⟩ := mbO_some hq
      have key : ∀ n fr S ds q, iiterM (icode P tt nm B nt cl lf round c) m.1 m.2 n fr S ds = some q → iiterM (icode P tt nm B nt cl' lf round c) m.1 m.2 n fr S ds = some q := by
        intro n
        induction n with
        | zero => intro fr S ds q hq; exact hq
        | succ n ihn =>
          intro fr S ds q hq
          unfold iiterM at hq ⊢
          cases hn : icode P tt nm B nt cl lf round c fr S ds with
          | none => rw [hn] at hq; cases hq
          | some r =>
            rw [hn] at hq
            rw [ih hn]
            simp only at hq ⊢
            cases hb : (subm r.rd m.1 && subm r.wr m.2) with
            | false => rw [hb] at hq; cases hq
            | true =>
              rw [hb, cond_true] at hq
              rw [cond_true]
              cases he : r.e <;> rw [he] at hq <;> simp only at hq ⊢ <;> first | exact ihn _ _ _ _ hq | exact hq
      rw [key _ _ _ _ _ hq0]
      rfl
    | none =>
      rw [hm] at hq
      simp only at hq ⊢
      have key : ∀ n fr S ds q, iiter (icode P tt nm B nt cl lf round c) n fr S ds = some q → iiter (icode P tt nm B nt cl' lf round c) n fr S ds = some q := by
        intro n
        induction n with
        | zero => intro fr S ds q hq; exact hq
        | succ n ihn =>
          intro fr S ds q hq
          unfold iiter at hq ⊢
          cases hn : icode P tt nm B nt cl lf round c fr S ds with
          | none => rw [hn] at hq; cases hq
          | some r =>
            rw [hn] at hq
            rw [ih hn]
            simp only at hq ⊢
            cases he : r.e <;> rw [he] at hq <;> simp only at hq ⊢ <;> try exact hq
            cases hn2 : iiter (icode P tt nm B nt cl lf round c) n r.fr r.S r.ds with
            | none => rw [hn2] at hq; cases hq
            | some r2 => rw [hn2] at hq; rw [ihn _ _ _ _ hn2]; exact hq
      exact key _ _ _ _ _ hq
  | rangeFunc g ps assign body ih1 ih2 =>
    intro fr S ds q hq
    simp only [icode] at hq ⊢
    obtain ⟨q0, hq0, rfl⟩ := mbO_some hq
    cases hv : evo nt fr g with
    | none => rw [hv] at hq0; cases hq0
    | some v =>
      rw [hv] at hq0
      cases v <;> simp only at hq0 ⊢ <;> try (cases hq0; done)
      cases round with
      | none => simp only at hq0 ⊢; rw [ifin_mono h hq0]; rfl
      | some l =>
        simp only at hq0 ⊢
        cases ho : S.heap.get l with
        | none => rw [ho] at hq0; cases hq0
        | some o =>
          rw [ho] at hq0
          cases o <;> simp only at hq0 ⊢ <;> try (cases hq0; done)
          rw [ifin_mono h hq0]; rfl
end

/-! ### Runes of a text -/
def sixO (p : Nat → Int → Option Bool) (s : ByteArray) (b : Bool) : Nat → Nat → Option Int
  | 0, _ => none
  | n + 1, i => cond (Nat.blt i s.size) (match p (i + (Utf8.decode s i).2) (Int.ofNat (Utf8.decode s i).1) with
    | none => none
    | some a => cond (decide (a = b)) (some (Int.ofNat i)) (sixO p s b n (i + (Utf8.decode s i).2))) (some (-1))
def sixF (cl : Cl) (vs : List IV) (S : IS) : Option Res := match vs with
  | [.str s, .fn g caps, .bool b] => match sixO (fun q x => ob (cl (.fn g) (.int .i32 x :: caps) (S.new (.iter s q))) (ansB (below S.next))) s b (s.size + 1) 0 with
    | none => none
    | some i => some ⟨.int .i64 i, S, below S.next, 0⟩
  | _ => none
def sixK (clP : ClP) (R : Type) (vs : List IV) (S : IS) (kk : Res → Option R) : Option R := match vs with
  | [.str s, .fn g caps, .bool b] => match sixO (fun q x => clP Bool (.fn g) (.int .i32 x :: caps) (S.new (.iter s q)) (ansB (below S.next))) s b (s.size + 1) 0 with
    | none => none
    | some i => kk ⟨.int .i64 i, S, below S.next, 0⟩
  | _ => none
theorem six_eq (cl : Cl) (clP : ClP) (h : ∀ R, ClEq cl (clP R)) (R : Type) (vs : List IV) (S : IS) (kk : Res → Option R) : sixK clP R vs S kk = ob (sixF cl vs S) kk := by
  unfold sixK sixF
  split
  · rename_i s g caps b
    simp only [h Bool _ _ _ _]
    cases sixO (fun q x => ob (cl (.fn g) (.int .i32 x :: caps) (S.new (.iter s q))) (ansB (below S.next))) s b (s.size + 1) 0 <;> rfl
  · rfl
def sixHx : Hx := ⟨sixF, sixK, six_eq⟩
theorem sixF_inv {cl : Cl} {vs : List IV} {S : IS} {r : Res} (h : sixF cl vs S = some r) : ∃ s g caps b i, vs = [.str s, .fn g caps, .bool b] ∧ sixO (fun q x => ob (cl (.fn g) (.int .i32 x :: caps) (S.new (.iter s q))) (ansB (below S.next))) s b (s.size + 1) 0 = some i ∧ r = ⟨.int .i64 i, S, below S.next, 0⟩ := by
  unfold sixF at h
  split at h
  · rename_i s g caps b
    split at h <;> cases h
    rename_i i hi
    exact ⟨_, _, _, _, _, rfl, hi, rfl⟩
  · cases h
def nmS (mr mw : Nat) : Nat → Option Nm := fun j => cond (Nat.beq j 2) (some ⟨[1, 2, 10], [], [], [], [], mr, mw, true⟩) none
theorem mB_S (mr mw B : Nat) : mB (nmS mr mw) B = B := rfl
def frS (g : Nat) (caps : List IV) (b : Bool) (id : Nat) : PT IV := ((PT.leaf.set (.fn g caps) 1).set (.bool b) 2).set (.ptr id 0) 10
def clT (test : Tgt → List IV → IS → Bool) (c : Res) : Cl := fun t vs S => cond (test t vs S) (some c) none
structure SixFacts (P : Program) (tt : Nat → Option TI) (fi : FI) (A B L C : Code) : Prop where
  body : fi.body = .seq A (.seq (.seq B (.block 0 (.loop L))) C)
  three : Nat.ble 3 fi.nt = true
  head : ∀ mr mw, okC (nmS mr mw) (fun k => Nat.beq k 2) (fun k => Nat.beq k 2) L (some 2) = true
  ab : ∀ (R : Type) (clK : ClK R) (B0 mr mw lf : Nat) (s : ByteArray) (g : Nat) (caps : List IV) (b : Bool) (S : IS) (kk : _ → Option R), icodeK P tt (nmS mr mw) B0 fi.nt clK lf none (.seq A B) (argGo [.str s, .fn g caps, .bool b] 0 .leaf) S [] (fun r => kk (tup [1, 2, 10] r)) =
    kk (.normal, [.fn g caps, .bool b, .ptr S.next 0], S.new (.iter s 0), [], (mb B0 0).lor (mb B0 0), (mb B0 0).lor (mb B0 0))
  l : ∀ (R : Type) (B0 mr mw lf : Nat) (g : Nat) (caps : List IV) (b a : Bool) (id rd : Nat) (S S' : IS) (test : Tgt → List IV → IS → Bool) (kk : _ → Option R), icodeK P tt (nmS mr mw) B0 fi.nt (fun t vs S kk => cond (test t vs S) (kk ⟨.bool a, S', rd, 0⟩) none) lf none L (frS g caps b id) S [] (fun r => kk (tup [1, 2, 6, 10] r)) =
    match S.heap.get id with
    | some (.iter s p) => cond (Nat.blt p s.size)
      (cond (test (.fn g) (.int .i32 (Int.ofNat (Utf8.decode s p).1) :: caps) (S.set id (.iter s (p + (Utf8.decode s p).2))))
        (cond (decide (a = b))
          (kk (.ret, [.fn g caps, .bool b, .int .i64 (Int.ofNat p), .ptr id 0], S', [], (mb B0 0).lor (Nat.lor 0 ((mb B0 0).lor ((mb B0 (Nat.lor 0 (Nat.lor 0 (rd.lor 0)))).lor ((mb B0 0).lor 0)))),
            (mb B0 (Nat.lor 0 ((Nat.pow 2 id).lor 0))).lor (Nat.lor 0 ((mb B0 0).lor ((mb B0 0).lor ((mb B0 0).lor 0))))))
          (kk (.normal, [.fn g caps, .bool b, .unk, .ptr id 0], S', [], (mb B0 0).lor (Nat.lor 0 ((mb B0 0).lor ((mb B0 (Nat.lor 0 (Nat.lor 0 (rd.lor 0)))).lor 0))),
            (mb B0 (Nat.lor 0 ((Nat.pow 2 id).lor 0))).lor (Nat.lor 0 ((mb B0 0).lor ((mb B0 0).lor 0))))))
        none)
      (kk (.exit 0, [.fn g caps, .bool b, .unk, .ptr id 0], S, [], (mb B0 ((Nat.pow 2 id).lor 0)).lor 0, (mb B0 0).lor 0))
    | _ => none
  e : ∀ (R : Type) (clK : ClK R) (B0 mr mw lf : Nat) (fr : PT IV) (S : IS) (kk : CRes → Option R), icodeK P tt (nmS mr mw) B0 fi.nt clK lf none C fr S [] kk = kk ⟨.ret, fr.set (.int .i64 (-1)) 6, S, [], (mb B0 0).lor 0, (mb B0 0).lor 0⟩
  res : fi.res = [.tmp 6]
  nt6 : Nat.blt 6 fi.nt = true
  lm : ∀ mr mw, loopM (nmS mr mw) L = some (mr, mw)
theorem PT.one_set {α : Type u} (x y : α) : ∀ (f n : Nat), n ≤ f → (PT.one x f n).set y n = PT.one y f n
  | 0, n, h => by
    obtain rfl : n = 0 := by omega
    rfl
  | f + 1, n, h => by
    by_cases hn : n = 0
    · subst hn; rfl
    · by_cases h2 : n % 2 = 1
      · simp only [PT.one, beq_f hn, cond_false, beq_t h2, cond_true, PT.set]
        rw [PT.one_set x y f _ (by omega)]
      · simp only [PT.one, beq_f hn, cond_false, beq_f h2, PT.set]
        rw [PT.one_set x y f _ (by omega)]
theorem PT.set_set {α : Type u} (x y : α) : ∀ (t : PT α) (n : Nat), (t.set x n).set y n = t.set y n
  | .leaf, n => PT.one_set x y n n (Nat.le_refl _)
  | .node v l r, n => by
    by_cases hn : n = 0
    · subst hn; rfl
    · by_cases h2 : n % 2 = 1
      · simp only [PT.set, beq_f hn, cond_false, beq_t h2, cond_true]
        rw [PT.set_set x y l]
      · simp only [PT.set, beq_f hn, cond_false, beq_f h2]
        rw [PT.set_set x y r]
theorem IS.new_set (S : IS) (o o' : IObj) : (S.new o).set S.next o' = S.new o' := by
  unfold IS.new IS.set
  simp only [PT.set_set]
theorem IS.new_get (S : IS) (o : IObj) : (S.new o).heap.get S.next = some o := by
  unfold IS.new
  simp only [PT.get_set, if_true]
theorem subm_iff {a m : Nat} : subm a m = true ↔ ∀ j, a.testBit j = true → m.testBit j = true := by
  constructor
  · intro h j hj; exact subm_tin (T := fun j => m.testBit j = true) h (fun j hj => hj) j hj
  · intro h
    unfold subm
    have : a ||| m = m := Nat.eq_of_testBit_eq fun j => by
      rw [Nat.testBit_or]
      cases ha : a.testBit j with
      | false => rfl
      | true => rw [h j ha]; rfl
    rw [this]; exact Nat.beq_refl m
theorem below_bit (n j : Nat) : (below n).testBit j = decide (j < n) := by unfold below; exact Nat.testBit_two_pow_sub_one ..
theorem hx_int2 {P : Program} {tt : Nat → Option TI} {fi : FI} {f : Nat} {nm : Nat → Option Nm} {lf : Nat} {cl : Cl} {vs : List IV} {S S1 : IS} {fr : PT IV} {e : IEx} {rd wr : Nat} {k : IntKind} {i : Int} {t : Nat} (hz : frzF nm = false) (hm : P.follows .mixedOrders = true) (htt : TT P tt) (hfi : FIok P f fi) (hcl : ClOK P cl) (hfr : ClFr cl)
    (hb : Nat.ble vs.length fi.nt = true) (hr : icode P tt nm S.next fi.nt cl lf none fi.body (argGo vs 0 .leaf) S [] = some ⟨e, fr, S1, [], rd, wr⟩) (hw : wr % 2 ^ S.next = 0) (he : e.leaves = true) (hres : fi.res = [.tmp t]) (hnt : Nat.blt t fi.nt = true) (hs : slot fr t = .int k i)
    {T : TW} {E : Env} {us : List Value} (p : Pre T E S) (hrd : tin T.r (below S.next)) (hv : VRs E vs us) : Callable P f ∧ CallsIn Fence.wide 0 P f us.toArray E.w (RetE T E S ⟨.int k i, S, below S.next, 0⟩) := by
  refine body_ok (fi := fi) (r := ⟨.int k i, S, (rd ||| 0) % 2 ^ S.next, 0⟩) hz hm htt hfi hcl hfr hb hr he ?_ p (below_tin hrd) (fun j hj => by simp at hj) hv
  have e1 : imarks ([] : List Nat) S1 = some (S1, 0) := rfl
  simp only [ileave, e1, hres, ires, hnt, cond_true, hs]
  simp only [tupI, igc, low2, low0, Nat.or_zero, hw, Nat.beq_refl, Bool.and_self, cond_true]
variable {P : Program} {tt : Nat → Option TI} {fi : FI} {A B L C : Code}
theorem six_loop (F : SixFacts P tt fi A B L C) {cl : Cl} (hcalm : Calm cl) {s : ByteArray} {b : Bool} {g : Nat} {caps : List IV} {S : IS} {i : Int} {lf : Nat} : ∀ (fuel p : Nat) (fr : PT IV), (slot fr 1 = .fn g caps ∧ slot fr 2 = .bool b ∧ slot fr 10 = .ptr S.next 0) →
    sixO (fun q x => ob (cl (.fn g) (.int .i32 x :: caps) (S.new (.iter s q))) (ansB (below S.next))) s b fuel p = some i →
    ∃ r, iiterM (icode P tt (nmS (below (S.next + 1)) (2 ^ S.next)) S.next fi.nt cl lf none L) (below (S.next + 1)) (2 ^ S.next) fuel fr (S.new (.iter s p)) [] = some r ∧ r.ds = [] ∧ r.rd = below (S.next + 1) ∧ r.wr = 2 ^ S.next ∧ ((r.e = .ret ∧ slot r.fr 6 = .int .i64 i) ∨ (r.e = .exit 0 ∧ i = -1)) := by
  intro fuel
  induction fuel with
  | zero => intro p fr hs hi; cases hi
  | succ n ih =>
    intro p fr hs hi
    have e1 := fun cl => headedO (P := P) (tt := tt) (B := S.next) (nt := fi.nt) (lf := lf) (cl := cl) (h := 2) (m := ⟨[1, 2, 10], [], [], [], [], below (S.next + 1), 2 ^ S.next, true⟩) rfl rfl (fr := fr) (fr' := frS g caps b S.next) (by
      intro t ht
      simp only [List.mem_cons, List.not_mem_nil, or_false] at ht
      rcases ht with rfl | rfl | rfl
      · exact hs.1
      · exact hs.2.1
      · exact hs.2.2) (c := L) (S := S.new (.iter s p)) (ds := []) (F.head _ _)
    have hb1 : ∀ x, subm x (below S.next) = true → subm (mb S.next x) (below (S.next + 1)) = true := fun x hx => mb_subm (by
      rw [subm_iff] at hx ⊢
      intro j hj
      have := hx j hj
      rw [below_bit] at this ⊢
      simp only [decide_eq_true_eq] at this ⊢
      omega)
    have hb2 : subm (mb S.next (2 ^ S.next)) (2 ^ S.next) = true := mb_subm (subm_self _)
    have hb3 : subm (mb S.next (2 ^ S.next)) (below (S.next + 1)) = true := mb_subm (by
      rw [subm_iff]
      intro j hj
      rw [Nat.testBit_two_pow] at hj
      rw [below_bit]
      simp only [decide_eq_true_eq] at hj ⊢
      omega)
    have hpw : Nat.pow 2 S.next = 2 ^ S.next := rfl
    unfold sixO at hi
    cases hlt : Nat.blt p s.size with
    | false =>
      rw [hlt, cond_false] at hi
      cases hi
      have e2 := F.l (IEx × List IV × IS × List Nat × Nat × Nat) S.next (below (S.next + 1)) (2 ^ S.next) lf g caps b false S.next 0 (S.new (.iter s p)) S (fun _ _ _ => false) some
      rw [IS.new_get] at e2
      simp only [hlt, cond_false, cond_true, mb_zero, lor_zero, zero_lor] at e2
      have ec : (fun (t : Tgt) (vs : List IV) (S : IS) (kk : Res → Option (IEx × List IV × IS × List Nat × Nat × Nat)) => (none : Option (IEx × List IV × IS × List Nat × Nat × Nat))) = fun t vs S kk => ob ((fun _ _ _ => none : Cl) t vs S) kk := rfl
      rw [ec] at e2
      obtain ⟨r, hr, ht⟩ := run_tup e2
      have hr := icode_mono (cl' := cl) (fun t vs S r h => by cases h) _ hr
      simp only [tup, Prod.mk.injEq] at ht
      obtain ⟨t1, t2, t3, t4, t5, t6⟩ := ht
      refine ⟨⟨.exit 0, r.fr, S.new (.iter s p), [], below (S.next + 1), 2 ^ S.next⟩, ?_, rfl, rfl, rfl, .inr ⟨rfl, rfl⟩⟩
      unfold iiterM
      rw [e1 cl]
      have hr' : icode P tt (nmS (below (S.next + 1)) (2 ^ S.next)) S.next fi.nt cl lf none L (frS g caps b S.next) (S.new (.iter s p)) [] = some r := hr
      simp only [hr', t5, t6, hpw, hb3, subm_zero, Bool.and_self, cond_true, t1, t3, t4]
    | true =>
      rw [hlt, cond_true] at hi
      cases hc : cl (.fn g) (.int .i32 (Int.ofNat (Utf8.decode s p).1) :: caps) (S.new (.iter s (p + (Utf8.decode s p).2))) with
      | none => rw [hc] at hi; cases hi
      | some r0 =>
      rw [hc] at hi
      simp only [ob] at hi
      obtain ⟨v0, S0', rd0, wr0⟩ := r0
      cases v0 <;> simp only [ansB] at hi <;> try (cases hi; done)
      rename_i a
      cases hmk : (Nat.beq wr0 0 && subm rd0 (below S.next)) with
      | false => rw [hmk] at hi; cases hi
      | true =>
      rw [hmk] at hi
      simp only [Bool.and_eq_true] at hmk
      have hw0 : wr0 = 0 := Nat.eq_of_beq_eq_true hmk.1
      subst hw0
      have hS : S0' = S.new (.iter s (p + (Utf8.decode s p).2)) := hcalm _ _ _ _ hc rfl rfl
      subst hS
      simp only [cond_true] at hi
      have hsm := hb1 _ hmk.2
      let c0 : Res := ⟨.bool a, S.new (.iter s (p + (Utf8.decode s p).2)), rd0, 0⟩
      let test : Tgt → List IV → IS → Bool := fun t vs S => @decide (cl t vs S = some c0) (Classical.propDecidable _)
      have hle : ClLe (clT test c0) cl := fun t vs S r h => by
        unfold clT at h
        cases ht : test t vs S with
        | false => rw [ht] at h; cases h
        | true =>
          rw [ht] at h; cases h
          exact @of_decide_eq_true _ (Classical.propDecidable _) ht
      have e2 := F.l (IEx × List IV × IS × List Nat × Nat × Nat) S.next (below (S.next + 1)) (2 ^ S.next) lf g caps b a S.next rd0 (S.new (.iter s p)) (S.new (.iter s (p + (Utf8.decode s p).2))) test some
      rw [IS.new_get] at e2
      have htest : test (.fn g) (.int .i32 (Int.ofNat (Utf8.decode s p).1) :: caps) ((S.new (.iter s p)).set S.next (.iter s (p + (Utf8.decode s p).2))) = true := by
        rw [IS.new_set]
        exact @decide_eq_true _ (Classical.propDecidable _) hc
      simp only [hlt, htest, cond_true, mb_zero, lor_zero, zero_lor] at e2
      cases hab : decide (a = b) with
      | true =>
        rw [hab, cond_true] at e2 hi
        cases hi
        have ec : (fun (t : Tgt) (vs : List IV) (S : IS) (kk : Res → Option (IEx × List IV × IS × List Nat × Nat × Nat)) => cond (test t vs S) (kk c0) none) = fun t vs S kk => ob (clT test c0 t vs S) kk := by
          funext t vs S kk
          unfold clT
          cases test t vs S <;> rfl
        rw [ec] at e2
        obtain ⟨r, hr, ht⟩ := run_tup e2
        have hr := icode_mono hle _ hr
        simp only [tup, Prod.mk.injEq, List.map_cons, List.cons.injEq] at ht
        obtain ⟨t1, t2, t3, t4, t5, t6⟩ := ht
        refine ⟨⟨.ret, r.fr, S.new (.iter s (p + (Utf8.decode s p).2)), [], below (S.next + 1), 2 ^ S.next⟩, ?_, rfl, rfl, rfl, .inl ⟨rfl, t2.2.2.1⟩⟩
        unfold iiterM
        rw [e1 cl]
        have hr' : icode P tt (nmS (below (S.next + 1)) (2 ^ S.next)) S.next fi.nt cl lf none L (frS g caps b S.next) (S.new (.iter s p)) [] = some r := hr
        simp only [hr', t5, t6, hpw, hsm, hb2, Bool.and_self, cond_true, t1, t3, t4]
      | false =>
        rw [hab, cond_false] at e2 hi
        have ec : (fun (t : Tgt) (vs : List IV) (S : IS) (kk : Res → Option (IEx × List IV × IS × List Nat × Nat × Nat)) => cond (test t vs S) (kk c0) none) = fun t vs S kk => ob (clT test c0 t vs S) kk := by
          funext t vs S kk
          unfold clT
          cases test t vs S <;> rfl
        rw [ec] at e2
        obtain ⟨r, hr, ht⟩ := run_tup e2
        have hr := icode_mono hle _ hr
        simp only [tup, Prod.mk.injEq, List.map_cons, List.cons.injEq] at ht
        obtain ⟨t1, t2, t3, t4, t5, t6⟩ := ht
        obtain ⟨q, q1, q2⟩ := ih (p + (Utf8.decode s p).2) r.fr ⟨t2.1, t2.2.1, t2.2.2.2.1⟩ hi
        refine ⟨q, ?_, q2⟩
        unfold iiterM
        rw [e1 cl]
        have hr' : icode P tt (nmS (below (S.next + 1)) (2 ^ S.next)) S.next fi.nt cl lf none L (frS g caps b S.next) (S.new (.iter s p)) [] = some r := hr
        simp only [hr', t5, t6, hpw, hsm, hb2, Bool.and_self, cond_true, t1, t3, t4]
        exact q1
theorem mb_mod (n : Nat) : mb n (2 ^ n) % 2 ^ n = 0 := by
  unfold mb
  cases Nat.beq n 0
  · exact Nat.mod_self _
  · exact Nat.zero_mod _
theorem six_ok {f : Nat} (F : SixFacts P tt fi A B L C) (hm : P.follows .mixedOrders = true) (htt : TT P tt) (hfi : FIok P f fi) : HxOK P f sixF := by
  refine ⟨fun cl hcl hfr hcalm vs S r h T E us p hrd hwr hv => ?_, fun cl hfr vs S r h => ?_, fun cl hcalm vs S r h _ _ => ?_⟩
  · obtain ⟨s, g, caps, b, i, rfl, hi, rfl⟩ := sixF_inv h
    obtain ⟨ra, hra, hta⟩ := run_tup (cl := cl) (F.ab (IEx × List IV × IS × List Nat × Nat × Nat) (fun t vs S kk => ob (cl t vs S) kk) S.next (below (S.next + 1)) (2 ^ S.next) (s.size + 1) s g caps b S some)
    obtain ⟨rae, rafr, raS, rads, rard, rawr⟩ := ra
    simp only [tup, Prod.mk.injEq, List.map_cons, List.map_nil, List.cons.injEq, mb_zero, lor_zero] at hta
    obtain ⟨rfl, ⟨s1, s2, s3, _⟩, rfl, rfl, rfl, rfl⟩ := hta
    obtain ⟨r, hr, hds, hrd2, hwr2, hcase⟩ := six_loop F hcalm (lf := s.size + 1) (s.size + 1) 0 rafr ⟨s1, s2, s3⟩ hi
    obtain ⟨re, rfr, rS, rds, rrd, rwr⟩ := r
    simp only at hds hrd2 hwr2 hcase
    subst hds; subst hrd2; subst hwr2
    simp only [icode] at hra
    cases hA : icode P tt (nmS (below (S.next + 1)) (2 ^ S.next)) S.next fi.nt cl (s.size + 1) none A (argGo [.str s, .fn g caps, .bool b] 0 .leaf) S [] with
    | none => rw [hA] at hra; cases hra
    | some qa =>
    rw [hA] at hra
    simp only at hra
    obtain ⟨qe, qfr, qS, qds, qrd, qwr⟩ := qa
    cases qe <;> simp only at hra <;> try (cases hra; done)
    cases hB : icode P tt (nmS (below (S.next + 1)) (2 ^ S.next)) S.next fi.nt cl (s.size + 1) none B qfr qS qds with
    | none => rw [hB] at hra; cases hra
    | some qb =>
    rw [hB] at hra
    obtain ⟨be, bfr, bS, bds, brd, bwr⟩ := qb
    simp only [CRes.or, Option.some.injEq, CRes.mk.injEq] at hra
    obtain ⟨rfl, rfl, rfl, rfl, h5, h6⟩ := hra
    obtain ⟨z1, z2⟩ : qwr = 0 ∧ bwr = 0 := by
      constructor
      · exact Nat.eq_of_testBit_eq fun j => by have := congrArg (fun x => x.testBit j) h6; simp [Nat.testBit_or] at this; simp [this.1]
      · exact Nat.eq_of_testBit_eq fun j => by have := congrArg (fun x => x.testBit j) h6; simp [Nat.testBit_or] at this; simp [this.2]
    subst z1; subst z2
    rcases hcase with ⟨he, hs⟩ | ⟨he, hi2⟩
    · subst he
      refine hx_int2 (vs := [.str s, .fn g caps, .bool b]) (nm := nmS (below (S.next + 1)) (2 ^ S.next)) (lf := s.size + 1) (fr := rfr) (e := .ret) (k := .i64) (i := i) (t := 6) (S1 := rS) (rd := qrd ||| (brd ||| mb S.next (below (S.next + 1)))) (wr := mb S.next (2 ^ S.next)) rfl hm htt hfi hcl hfr F.three ?_ (mb_mod _) rfl F.res F.nt6 hs p hrd hv
      rw [F.body]
      simp only [icode, hA, hB, F.lm, hr, mbO, mbR, mB_S, CRes.or, Nat.zero_or]
    · subst he; subst hi2
      have hc := runK (F.e CRes (fun t vs S kk => ob (cl t vs S) kk) S.next (below (S.next + 1)) (2 ^ S.next) (s.size + 1) rfr rS some)
      refine hx_int2 (vs := [.str s, .fn g caps, .bool b]) (nm := nmS (below (S.next + 1)) (2 ^ S.next)) (lf := s.size + 1) (fr := rfr.set (.int .i64 (-1)) 6) (e := .ret) (k := .i64) (i := -1) (t := 6) (S1 := rS) (rd := qrd ||| ((brd ||| mb S.next (below (S.next + 1))) ||| 0)) (wr := mb S.next (2 ^ S.next)) rfl hm htt hfi hcl hfr F.three ?_ (mb_mod _) rfl F.res F.nt6 (by rw [slot_set, if_pos rfl]) p hrd hv
      rw [F.body]
      simp only [icode, hA, hB, F.lm, hr, mbO, mbR, mB_S, mb_zero, CRes.or, Nat.zero_or, Nat.beq_refl, cond_true, hc, lor_zero, Nat.or_zero]
  · obtain ⟨_, _, _, _, _, _, _, rfl⟩ := sixF_inv h
    exact FrO.same _ rfl
  · obtain ⟨_, _, _, _, _, _, _, rfl⟩ := sixF_inv h
    rfl
end Go.Jx
end

/- Loops over lists by an index, and what helps to read plain forms. -/
section
set_option linter.unusedVariables false
namespace Go.Jx
open Go Go.Sx Go.RowKit
universe u

theorem cond_if {α : Type} (b : Bool) (x y : α) : cond b x y = if b = true then x else y := by cases b <;> rfl
/-- Small numbers. -/
theorem oL : Int.ofNat 0 = 0 ∧ Int.ofNat 1 = 1 ∧ Int.ofNat 2 = 2 ∧ Int.ofNat 3 = 3 ∧ Int.ofNat 4 = 4 ∧ Int.ofNat 5 = 5 ∧ Int.ofNat 6 = 6 ∧ Int.ofNat 7 = 7 ∧ Int.ofNat 8 = 8 ∧ Int.ofNat 9 = 9 ∧ Int.ofNat 10 = 10 ∧ Int.ofNat 12 = 12 ∧ Int.ofNat 16 = 16 ∧ Int.ofNat 20 = 20 ∧ Int.ofNat 24 = 24 ∧ Int.ofNat 30 = 30 ∧ Int.ofNat 31 = 31 ∧ Int.ofNat 40 = 40 ∧ Int.ofNat 45 = 45 ∧ Int.ofNat 48 = 48 ∧ Int.ofNat 57 = 57 ∧ Int.ofNat 60 = 60 ∧ Int.ofNat 64 = 64 ∧ Int.ofNat 65 = 65 ∧ Int.ofNat 70 = 70 ∧ Int.ofNat 90 = 90 ∧ Int.ofNat 95 = 95 ∧ Int.ofNat 97 = 97 ∧ Int.ofNat 100 = 100 ∧ Int.ofNat 122 = 122 ∧ Int.ofNat 127 = 127 ∧ Int.ofNat 128 = 128 ∧ Int.ofNat 200 = 200 ∧ Int.ofNat 256 = 256 ∧ Int.ofNat 400 = 400 ∧ Int.ofNat 410 = 410 ∧ Int.ofNat 1500 = 1500 ∧ Int.ofNat 60000 = 60000 ∧ Int.ofNat 60010 = 60010 ∧ Int.ofNat 65536 = 65536 ∧ Int.ofNat 16777216 = 16777216 ∧ Int.ofNat 2147483647 = 2147483647 ∧ Int.ofNat 1099511627776 = 1099511627776 :=
  ⟨rfl, rfl, rfl, rfl, rfl, rfl, rfl, rfl, rfl, rfl, rfl, rfl, rfl, rfl, rfl, rfl, rfl, rfl, rfl, rfl, rfl, rfl, rfl, rfl, rfl, rfl, rfl, rfl, rfl, rfl, rfl, rfl, rfl, rfl, rfl, rfl, rfl, rfl, rfl, rfl, rfl, rfl, rfl⟩
theorem oLn : Int.negSucc 0 = -1 ∧ Int.negSucc 1099511627775 = -1099511627776 := ⟨rfl, rfl⟩
theorem jget_nat {α : Type} {l : List α} {i : Nat} : jget l (Int.ofNat i) = l[i]? := by unfold jget; rw [if_pos (by simp)]; simp
theorem jget_of {α : Type} {l : List α} {i : Int} (h0 : 0 ≤ i) (h1 : i < l.length) : ∃ x, jget l i = some x ∧ l[i.toNat]? = some x ∧ x ∈ l := by
  have h2 : i.toNat < l.length := by omega
  refine ⟨l[i.toNat], ?_, List.getElem?_eq_getElem h2, List.getElem_mem h2⟩
  unfold jget
  rw [if_pos h0, List.getElem?_eq_getElem h2]
theorem bsz_one : ∀ c : TC, 1 ≤ bsz c
  | .int k => by cases k <;> simp [bsz]
  | .bool => by simp [bsz]
  | .str => by simp [bsz]
  | .list _ => by simp [bsz]
  | .two a b => by have := bsz_one a; simp only [bsz]; omega
def LF : Nat := 9223372036854775808
theorem wf_len {c : TC} {l : El (.list c)} (h : WfE (.list c) l) : List.length (α := El c) l < LF := by
  have h1 := h.1
  have h2 := bsz_one c
  have : List.length (α := El c) l * 1 ≤ List.length (α := El c) l * bsz c := Nat.mul_le_mul_left _ h2
  unfold LF
  omega
theorem wf_mem {c : TC} {l : El (.list c)} (h : WfE (.list c) l) {x : El c} (hx : List.Mem (α := El c) x l) : WfE c x := h.2 x hx
theorem wrap_succ {n : Nat} (h : n + 1 < LF) : IntKind.i64.wrap (Int.add (Int.ofNat n) (Int.ofNat 1)) = Int.ofNat (n + 1) := by
  unfold LF at h
  rw [show Int.add (Int.ofNat n) (Int.ofNat 1) = Int.ofNat (n + 1) from rfl]
  exact wrap64_in (by simp; omega)
/-- What is known at a round over an element of a list. -/
structure Rnd {α : Type} (l : List α) (i : Nat) (v : α) (rest : List α) : Prop where
  drop : l.drop i = v :: rest
  mem : v ∈ l
  lt : i < l.length
  ilt : iltI (Int.ofNat i) (Int.ofNat l.length) = true
  get : jget l (Int.ofNat i) = some v
  get? : l[i]? = some v
  next : IntKind.i64.wrap (Int.add (Int.ofNat i) (Int.ofNat 1)) = Int.ofNat (i + 1)
  tail : l.drop (i + 1) = rest
  take : l.take (i + 1) = l.take i ++ [v]
theorem ilt_self (n : Nat) : iltI (Int.ofNat n) (Int.ofNat n) = false := by rw [iltI_eq]; simp
theorem rnd_of {α : Type} {l : List α} {i : Nat} (h : i < l.length) (hl : l.length < LF) : ∃ v rest, Rnd l i v rest := by
  refine ⟨l[i], l.drop (i + 1), List.drop_eq_getElem_cons h, List.getElem_mem h, h, by rw [iltI_eq]; simp; omega, ?_, List.getElem?_eq_getElem h, wrap_succ (by omega), rfl, ?_⟩
  · rw [jget_nat]; exact List.getElem?_eq_getElem h
  · rw [List.take_succ_eq_append_getElem h]
/-- A loop over a list by an index. -/
theorem range_by {α σ A R : Type} {T : (A → Option R) → A → Option R} (l : List α) (mk : Int → σ → A) (I : Nat → σ → Prop) (g : List α → Nat → σ → Option R) (hl : l.length < LF)
    (hnil : ∀ K s, I l.length s → T K (mk (Int.ofNat l.length) s) = g [] l.length s)
    (hcons : ∀ K i v rest s, I i s → Rnd l i v rest → (∀ s', I (i + 1) s' → K (mk (Int.ofNat (i + 1)) s') = g rest (i + 1) s') → T K (mk (Int.ofNat i) s) = g (v :: rest) i s) :
    ∀ n i s, i ≤ l.length → I i s → l.length - i < n → rounds T n (mk (Int.ofNat i) s) = g (l.drop i) i s
  | 0, i, s, _, _, h => by omega
  | n + 1, i, s, hi, hI, h => by
    show T (rounds T n) (mk (Int.ofNat i) s) = _
    by_cases e : i = l.length
    · subst e
      rw [hnil _ _ hI, List.drop_length]
    · obtain ⟨v, rest, r⟩ := rnd_of (l := l) (i := i) (by omega) hl
      rw [hcons (rounds T n) i v rest s hI r fun s' hI' => ?_, r.drop]
      rw [range_by l mk I g hl hnil hcons n (i + 1) s' (by have := r.lt; omega) hI' (by omega), r.tail]
/-- The same from the start. -/
theorem range0 {α σ A R : Type} {T : (A → Option R) → A → Option R} (l : List α) (mk : Int → σ → A) (I : Nat → σ → Prop) (g : List α → Nat → σ → Option R) (hl : l.length < LF)
    (hnil : ∀ K s, I l.length s → T K (mk (Int.ofNat l.length) s) = g [] l.length s)
    (hcons : ∀ K i v rest s, I i s → Rnd l i v rest → (∀ s', I (i + 1) s' → K (mk (Int.ofNat (i + 1)) s') = g rest (i + 1) s') → T K (mk (Int.ofNat i) s) = g (v :: rest) i s)
    (s : σ) (hI : I 0 s) : rounds T LF (mk (Int.ofNat 0) s) = g l 0 s := by
  have := range_by l mk I g hl hnil hcons LF 0 s (Nat.zero_le _) hI (by omega)
  rwa [List.drop_zero] at this
/-- Without a state. -/
theorem range1 {α R : Type} {T : (Int → Option R) → Int → Option R} (l : List α) (g : List α → Nat → Option R) (hl : l.length < LF)
    (hnil : ∀ K, T K (Int.ofNat l.length) = g [] l.length)
    (hcons : ∀ K i v rest, Rnd l i v rest → K (Int.ofNat (i + 1)) = g rest (i + 1) → T K (Int.ofNat i) = g (v :: rest) i) : rounds T LF (Int.ofNat 0) = g l 0 :=
  range0 (σ := Unit) l (fun i _ => i) (fun _ _ => True) (fun rest i _ => g rest i) hl (fun K _ _ => hnil K) (fun K i v rest _ _ r h => hcons K i v rest r (h () trivial)) () trivial
theorem sixO_some {p : Nat → Int → Option Bool} {q : Int → Bool} (hp : ∀ i r, p i r = some (q r)) (s : ByteArray) (b : Bool) : ∀ (n i : Nat), s.size - i < n → ∃ k, sixO p s b n i = some k
  | 0, i, h => by omega
  | n + 1, i, h => by
    unfold sixO
    cases hlt : Nat.blt i s.size with
    | false => exact ⟨_, rfl⟩
    | true =>
      have h1 : i < s.size := by simpa using hlt
      simp only [cond_true, hp]
      cases decide (q (Int.ofNat (Utf8.decode s i).1) = b) with
      | true => exact ⟨_, rfl⟩
      | false =>
        rw [cond_false]
        have := decode_width s i
        exact sixO_some hp s b n _ (by omega)
namespace S
/-- The index of the first that is so; -1 if there is none. -/
def idx {α : Type} (p : α → Bool) (l : List α) : Int := match l.findIdx? p with
  | some j => Int.ofNat j
  | none => -1
theorem idx_nonneg {α : Type} (p : α → Bool) (l : List α) : 0 ≤ idx p l ↔ l.any p = true := by
  unfold idx
  cases h : l.findIdx? p with
  | none =>
    simp only
    rw [List.findIdx?_eq_none_iff] at h
    constructor
    · intro h; omega
    · intro h2
      rw [List.any_eq_true] at h2
      obtain ⟨x, hx, hp⟩ := h2
      rw [h x hx] at hp; cases hp
  | some j =>
    simp only
    obtain ⟨h1, h2, h3⟩ := List.findIdx?_eq_some_iff_getElem.1 h
    constructor
    · intro _
      rw [List.any_eq_true]
      exact ⟨_, List.getElem_mem h1, h2⟩
    · intro _; exact Int.natCast_nonneg _
theorem idx_get {α : Type} {p : α → Bool} {l : List α} (h : 0 ≤ idx p l) : ∃ x, jget l (idx p l) = some x ∧ l[(idx p l).toNat]? = some x ∧ p x = true ∧ x ∈ l ∧ idx p l < l.length ∧ l.find? p = some x := by
  unfold idx at h ⊢
  cases hf : l.findIdx? p with
  | none => rw [hf] at h; simp at h
  | some j =>
    simp only
    obtain ⟨h1, h2, h3⟩ := List.findIdx?_eq_some_iff_getElem.1 hf
    refine ⟨l[j], ?_, by simp [h1], h2, List.getElem_mem h1, by simpa using h1, ?_⟩
    · rw [jget_nat]; exact List.getElem?_eq_getElem h1
    · rw [List.find?_eq_some_iff_getElem]
      exact ⟨h2, j, h1, rfl, fun k hk => by simpa using h3 k hk⟩
theorem idx_neg {α : Type} {p : α → Bool} {l : List α} (h : idx p l < 0) : l.find? p = none := by
  have h2 : l.any p = false := by
    cases ha : l.any p with
    | false => rfl
    | true => have := (idx_nonneg p l).2 ha; omega
  rw [List.find?_eq_none]
  rw [List.any_eq_false] at h2
  exact h2
end S
theorem idxO_idx {α : Type} {p : α → Option Bool} (q : α → Bool) {l : List α} (h : ∀ x ∈ l, p x = some (q x)) : idxO p l 0 = some (S.idx q l) := by
  rw [idxO_some h]
  unfold S.idx
  cases l.findIdx? q <;> simp
end Go.Jx
end

/- What the functions of package pack compute: plain functions over data. -/
section
set_option linter.unusedVariables false
noncomputable section
namespace Go.Proofs.Ytcnhjofpmpipfaa
open Go Go.Sx Go.RowKit Go.Jx
abbrev DVal : Type := Int × Int
abbrev DNode : Type := ByteArray × List DVal
abbrev DGraph : Type := List DNode × List DVal
abbrev DCol : Type := ByteArray × Int × ByteArray
abbrev DForm : Type := ByteArray × List DCol
abbrev DGive : Type := ByteArray × Int × Int
abbrev DRule : Type := ByteArray × ByteArray × List DGive
abbrev DRefusal : Type := Int × ByteArray
namespace S
open Go.Jx.S
def within (n lo hi : Int) : Bool := decide (lo ≤ n) && decide (n ≤ hi)
def unlessE (b : Bool) (e : Int) : Int := cond b 0 e
def first : List Int → Int
  | [] => 0
  | e :: l => if e = 0 then first l else e
def ANY : ByteArray := S.lit [65, 78, 89]
def form (l : List DForm) (n : ByteArray) : Int := idx (fun f => keqS f.1 n) l
def col (l : List DCol) (n : ByteArray) : Int := idx (fun c => keqS c.1 n) l
def zRule : DRule := (S.lit [], S.lit [], [])
def zCol : DCol := (S.lit [], 0, S.lit [])
def zGive : DGive := (S.lit [], 0, 0)
def zForm : DForm := (S.lit [], [])
def zVal : DVal := (0, 0)
def zNode : DNode := (S.lit [], [])
def zGraph : DGraph := ([], [])
def zRefusal : DRefusal := (0, S.lit [])
def at_ {α : Type} (d : α) (l : List α) (i : Int) : α := (l[i.toNat]?).getD d
def ruleOf (l : List DRule) (c : ByteArray) : DRule × Bool := match l.find? (fun r => keqS r.1 c) with
  | some r => (r, true)
  | none => (zRule, false)
def badR (r lo hi : Int) : Bool := !((decide (lo ≤ r) && decide (r ≤ hi)) || (decide (48 ≤ r) && decide (r ≤ 57)) || decide (r = 95))
def named (s : ByteArray) (lo hi : Int) : Bool :=
  if s = S.lit [] then false
  else if 20 < s.size then false
  else match (byteList s)[0]? with
    | none => false
    | some b => if b < lo then false else if hi < b then false else match sixO (fun _ r => some (badR r lo hi)) s true (s.size + 1) 0 with
      | none => false
      | some i => decide (i < 0)
def classWords : List ByteArray := [S.lit [73, 78, 84, 69, 71, 69, 82], S.lit [66, 79, 79, 76, 69, 65, 78], ANY, S.lit [78, 79, 78, 69]]
def smallWords : List ByteArray := [S.lit [116, 114, 117, 101], S.lit [102, 97, 108, 115, 101], S.lit [118, 111, 105, 100], S.lit [99, 117, 114, 114, 101, 110, 116], S.lit [114, 101, 115, 117, 108, 116]]
def index (l : List ByteArray) (v : ByteArray) : Int := idx (fun x => keqS v x) l
def class_ (s : ByteArray) : Bool := named s 65 90 && decide (index classWords s < 0)
def small (s : ByteArray) : Bool := named s 97 122 && decide (index smallWords s < 0)
def ccGo (l : List DCol) : Nat → List DCol → Int
  | _, [] => 0
  | k, c :: r =>
    if small c.1 = false then 4
    else if ¬ col (l.take k) c.1 < 0 then 6
    else if within c.2.1 1 3 = false then 1
    else if ¬ c.2.1 = 3 ∧ ¬ c.2.2 = S.lit [] then 1
    else ccGo l (k + 1) r
def checkCols (l : List DCol) : Int := if 30 < l.length then 3 else ccGo l 0 l
def cfIn (l : List DForm) : List DCol → Bool
  | [] => true
  | c :: r => if c.2.1 = 3 ∧ ¬ c.2.2 = ANY ∧ form l c.2.2 < 0 then false else cfIn l r
def cfGo2 (l : List DForm) : List DForm → Int
  | [] => 0
  | f :: r => if cfIn l f.2 = true then cfGo2 l r else 5
def cfGo (l : List DForm) : Nat → List DForm → Int
  | _, [] => cfGo2 l l
  | k, f :: r =>
    let e := first [unlessE (class_ f.1) 4, unlessE (decide (form (l.take k) f.1 < 0)) 6, checkCols f.2]
    if e = 0 then cfGo l (k + 1) r else e
def checkForms (l : List DForm) : Int := if 24 < l.length then 3 else cfGo l 0 l
def value (v : DVal) (many : Int) : Bool :=
  if v.1 = 1 then within v.2 (-1099511627776) 1099511627776
  else if v.1 = 2 then within v.2 0 1
  else if v.1 = 3 then decide (v.2 = 0)
  else if v.1 = 4 then within v.2 0 (IntKind.i64.wrap (Int.sub many (Int.ofNat 1)))
  else false
def refers (v : DVal) : Bool := decide (v.1 = 3) || decide (v.1 = 4)
def formed (g : DGraph) : Int :=
  if 400 < g.1.length ∨ 60 < g.2.length then 3
  else if g.1.any (fun n => decide (30 < n.2.length)) then 3
  else if g.1.any (fun n => n.2.any fun v => !value v (Int.ofNat g.1.length)) then 2
  else if g.2.any (fun v => !value v (Int.ofNat g.1.length) || !refers v) then 2
  else 0
def refOK (g : DGraph) (v : DVal) : Bool := decide (v.1 = 4 → 0 ≤ v.2 ∧ v.2 < g.1.length)
def suits (g : DGraph) (c : DCol) (v : DVal) : Bool :=
  if c.2.1 = 1 then decide (v.1 = 1)
  else if c.2.1 = 2 then decide (v.1 = 2)
  else decide (v.1 = 3) || (decide (v.1 = 4) && (decide (c.2.2 = ANY) || decide ((at_ zNode g.1 v.2).1 = c.2.2)))
def colsOf (l : List DForm) (c : ByteArray) : List DCol := (at_ zForm l (form l c)).2
def suitsAll (g : DGraph) : List DCol → List DVal → Bool
  | c :: cs, v :: vs => if suits g c v = true then suitsAll g cs vs else false
  | _, _ => true
def typed (l : List DForm) (g : DGraph) : List DNode → Bool
  | [] => true
  | n :: ns => if n.2.length = (colsOf l n.1).length then (if suitsAll g (colsOf l n.1) n.2 = true then typed l g ns else false) else false
def typedPre (l : List DForm) (g : DGraph) : Bool := g.1.all fun n => decide (0 ≤ form l n.1) && n.2.all (refOK g)
def check (l : List DForm) (g : DGraph) : Int :=
  if ¬ formed g = 0 then formed g
  else if g.1.any (fun n => decide (form l n.1 < 0)) then 4
  else unlessE (typed l g g.1) 8
def checkG (l : List DForm) (g : DGraph) : Int := if ¬ checkForms l = 0 then checkForms l else check l g
def leads (l : List DRule) (a b : ByteArray) : Bool := decide (b = ANY) || ((ruleOf l a).2 && decide ((ruleOf l a).1.2.1 = b))
def fits (l : List DRule) (g : DGive) (a b : DCol) : Bool :=
  if g.2.1 = 1 then decide (a.2.1 = b.2.1) && (decide (¬ a.2.1 = 3) || leads l a.2.2 b.2.2)
  else if g.2.1 = 2 then decide (a.2.1 = 2) && decide (b.2.1 = 1)
  else if g.2.1 = 3 then decide (a.2.1 = 1) && decide (b.2.1 = 2)
  else if g.2.1 = 4 then decide (a.2.1 = 1) && decide (b.2.1 = 1)
  else if g.2.1 = 5 then decide (a.2.1 = 3) && (decide (b.2.1 = 3) && leads l a.2.2 b.2.2)
  else if g.2.1 = 6 then decide (b.2.1 = 1) || (decide (b.2.1 = 2) && within g.2.2 0 1)
  else decide (b.2.1 = 3)
def most (g : DGive) : Int := if g.2.1 = 4 ∨ g.2.1 = 6 then 1099511627776 else 0
def give (l : List DRule) (g : DGive) (cols : List DCol) (b : DCol) : Int :=
  if within g.2.1 1 5 = true ∧ col cols g.1 < 0 then 4
  else if within g.2.1 1 7 = false ∨ (within g.2.1 1 5 = false ∧ ¬ g.1 = S.lit []) ∨ within g.2.2 (-most g) (most g) = false ∨ (g.2.1 = 6 ∧ b.2.1 = 2 ∧ within g.2.2 0 1 = false) then 1
  else unlessE (fits l g (if within g.2.1 1 5 = true then at_ zCol cols (col cols g.1) else zCol) b) 8
def crGives (l : List DRule) (was : List DCol) : List DCol → List DGive → Int
  | c :: now, g :: r => if give l g was c = 0 then crGives l was now r else give l g was c
  | _, _ => 0
def crGo3 (a b : List DForm) (l : List DRule) : List DRule → Int
  | [] => 0
  | r :: rs =>
    if r.2.2.length = (colsOf b r.2.1).length then
      (if crGives l (colsOf a r.1) (colsOf b r.2.1) r.2.2 = 0 then crGo3 a b l rs else crGives l (colsOf a r.1) (colsOf b r.2.1) r.2.2)
    else 2
def crGo2 (a b : List DForm) (l : List DRule) : List DForm → Int
  | [] => crGo3 a b l l
  | f :: fs => if (ruleOf l f.1).2 = true then crGo2 a b l fs else 5
def crGo (a b : List DForm) (l : List DRule) : Nat → List DRule → Int
  | _, [] => crGo2 a b l a
  | k, r :: rs => if form a r.1 < 0 then 4 else if form b r.2.1 < 0 then 4 else if (ruleOf (l.take k) r.1).2 = true then 6 else crGo a b l (k + 1) rs
def checkRules0 (a b : List DForm) (l : List DRule) : Int := if 24 < l.length then 3 else crGo a b l 0 l
def checkRules (a b : List DForm) (l : List DRule) : Int := if first [checkForms a, checkForms b] = 0 then checkRules0 a b l else first [checkForms a, checkForms b]
/-- The value that a way takes. -/
def src (g : DGive) (cols : List DCol) (l : List DVal) : DVal := at_ zVal l (col cols g.1)
def made (g : DGive) (cols : List DCol) (l : List DVal) (b : DCol) : DVal × Bool :=
  if g.2.1 = 6 then (if b.2.1 = 2 then ((2, g.2.2), true) else ((1, g.2.2), true))
  else if g.2.1 = 7 then ((3, 0), true)
  else if g.2.1 = 2 then ((1, (src g cols l).2), true)
  else if g.2.1 = 3 then ((2, (src g cols l).2), within (src g cols l).2 0 1)
  else if g.2.1 = 4 then (src g cols l, decide ((src g cols l).2 < g.2.2))
  else if g.2.1 = 5 then (src g cols l, decide ((src g cols l).1 = 4))
  else (src g cols l, true)
def madePre (g : DGive) (cols : List DCol) (l : List DVal) : Bool := decide (¬ g.2.1 = 6 → ¬ g.2.1 = 7 → 0 ≤ col cols g.1 ∧ col cols g.1 < l.length)
/-- The values of an object, or the name of the field that cannot be made. -/
def cvIn (cols : List DCol) (vs : List DVal) : List DGive → List DCol → List DVal → Option (List DVal) × ByteArray
  | g :: gs, c :: cs, acc => if (made g cols vs c).2 = true then cvIn cols vs gs cs (acc ++ [(made g cols vs c).1]) else (none, c.1)
  | _, _, acc => (some acc, S.lit [])
def cvGo (a b : List DForm) (l : List DRule) (roots : List DVal) : Nat → List DNode → List DNode → DGraph × DRefusal × Int
  | _, [], acc => ((acc, roots), zRefusal, 0)
  | i, n :: ns, acc =>
    let r := (ruleOf l n.1).1
    match cvIn (colsOf a n.1) n.2 r.2.2 (colsOf b r.2.1) [] with
    | (some vs, _) => cvGo a b l roots (i + 1) ns (acc ++ [(r.2.1, vs)])
    | (none, c) => (zGraph, (Int.ofNat i, c), 10)
def convert (a b : List DForm) (l : List DRule) (g : DGraph) : DGraph × DRefusal × Int :=
  if ¬ checkRules a b l = 0 then (zGraph, zRefusal, checkRules a b l)
  else if ¬ check a g = 0 then (zGraph, zRefusal, check a g)
  else cvGo a b l g.2 0 g.1 []
def keeps (l : List DRule) (a b : DCol) : Bool :=
  if ¬ a.2.1 = 3 then true
  else if a.2.2 = ANY ∨ b.2.2 = ANY then decide (a.2.2 = b.2.2)
  else leads l a.2.2 b.2.2
end S
def sp_p_within : Sm := ⟨[.int .i64, .int .i64, .int .i64], [(false, .bool)], fun x => some (S.within x.1 x.2.1 x.2.2.1, ())⟩
def sp_p_first : Sm := ⟨[.list (.int .i64)], [(false, .int .i64)], fun x => some (S.first x.1, ())⟩
def sp_p_form : Sm := ⟨[.list cForm, .str], [(false, .int .i64)], fun x => some (S.form x.1 x.2.1, ())⟩
def sp_p_col : Sm := ⟨[.list cCol, .str], [(false, .int .i64)], fun x => some (S.col x.1 x.2.1, ())⟩
def sp_p_ruleOf : Sm := ⟨[.list cRule, .str], [(false, cRule), (false, .bool)], fun x => some ((S.ruleOf x.1 x.2.1).1, (S.ruleOf x.1 x.2.1).2, ())⟩
def sp_p_named : Sm := ⟨[.str, .int .u8, .int .u8], [(false, .bool)], fun x => some (S.named x.1 x.2.1 x.2.2.1, ())⟩
def sp_slices_Index_string : Sm := ⟨[.list .str, .str], [(false, .int .i64)], fun x => some (S.index x.1 x.2.1, ())⟩
def sp_p_class : Sm := ⟨[.str], [(false, .bool)], fun x => some (S.class_ x.1, ())⟩
def sp_p_small : Sm := ⟨[.str], [(false, .bool)], fun x => some (S.small x.1, ())⟩
def sp_p_checkCols : Sm := ⟨[.list cCol], [(false, .int .i64)], fun x => some (S.checkCols x.1, ())⟩
def sp_p_CheckForms : Sm := ⟨[.list cForm], [(false, .int .i64)], fun x => some (S.checkForms x.1, ())⟩
def sp_p_value : Sm := ⟨[cVal, .int .i64], [(false, .bool)], fun x => some (S.value x.1 x.2.1, ())⟩
def sp_p_formed : Sm := ⟨[cGraph], [(false, .int .i64)], fun x => some (S.formed x.1, ())⟩
def sp_p_suits : Sm := ⟨[cGraph, cCol, cVal], [(false, .bool)], fun x => cond (S.refOK x.1 x.2.2.1) (some (S.suits x.1 x.2.1 x.2.2.1, ())) none⟩
def sp_p_typed : Sm := ⟨[.list cForm, cGraph], [(false, .bool)], fun x => cond (S.typedPre x.1 x.2.1) (some (S.typed x.1 x.2.1 x.2.1.1, ())) none⟩
def sp_p_check : Sm := ⟨[.list cForm, cGraph], [(false, .int .i64)], fun x => some (S.check x.1 x.2.1, ())⟩
def sp_p_Check : Sm := ⟨[.list cForm, cGraph], [(false, .int .i64)], fun x => some (S.checkG x.1 x.2.1, ())⟩
def sp_p_leads : Sm := ⟨[.list cRule, .str, .str], [(false, .bool)], fun x => some (S.leads x.1 x.2.1 x.2.2.1, ())⟩
def sp_p_fits : Sm := ⟨[.list cRule, cGive, cCol, cCol], [(false, .bool)], fun x => some (S.fits x.1 x.2.1 x.2.2.1 x.2.2.2.1, ())⟩
def sp_p_give : Sm := ⟨[.list cRule, cGive, .list cCol, cCol], [(false, .int .i64)], fun x => some (S.give x.1 x.2.1 x.2.2.1 x.2.2.2.1, ())⟩
def sp_p_checkRules : Sm := ⟨[.list cForm, .list cForm, .list cRule], [(false, .int .i64)], fun x => some (S.checkRules0 x.1 x.2.1 x.2.2.1, ())⟩
def sp_p_CheckRules : Sm := ⟨[.list cForm, .list cForm, .list cRule], [(false, .int .i64)], fun x => some (S.checkRules x.1 x.2.1 x.2.2.1, ())⟩
def sp_p_made : Sm := ⟨[cGive, .list cCol, .list cVal, cCol], [(false, cVal), (false, .bool)], fun x => cond (S.madePre x.1 x.2.1 x.2.2.1) (some ((S.made x.1 x.2.1 x.2.2.1 x.2.2.2.1).1, (S.made x.1 x.2.1 x.2.2.1 x.2.2.2.1).2, ())) none⟩
def sp_p_Convert : Sm := ⟨[.list cForm, .list cForm, .list cRule, cGraph], [(false, cGraph), (false, cRefusal), (false, .int .i64)], fun x => some ((S.convert x.1 x.2.1 x.2.2.1 x.2.2.2.1).1, (S.convert x.1 x.2.1 x.2.2.1 x.2.2.2.1).2.1, (S.convert x.1 x.2.1 x.2.2.1 x.2.2.2.1).2.2, ())⟩
def sp_slices_Clone_Val : Sm := ⟨[.list cVal], [(false, .list cVal)], fun x => some (x.1, ())⟩
end Go.Proofs.Ytcnhjofpmpipfaa

end
end

/- What pack's chaining and undoing of rules compute: plain functions over data. -/
section
set_option linter.unusedVariables false
noncomputable section
namespace Go.Proofs.Ytcnhjofpmpipfaa
open Go Go.Sx Go.RowKit Go.Jx
namespace S
open Go.Jx.S
def both (a b : DGive) : DGive × Bool :=
  if b.2.1 = 1 then (a, true)
  else if a.2.1 = 1 then ((a.1, b.2.1, b.2.2), true)
  else if a.2.1 = 2 ∧ b.2.1 = 3 then ((a.1, 1, 0), true)
  else if a.2.1 = 2 ∧ b.2.1 = 4 then (a, decide (2 ≤ b.2.2))
  else if a.2.1 = 4 ∧ b.2.1 = 4 then ((a.1, a.2.1, imin a.2.2 b.2.2), true)
  else if a.2.1 = 5 ∧ b.2.1 = 5 then (a, true)
  else if a.2.1 = 6 ∧ b.2.1 = 2 then (a, true)
  else if a.2.1 = 6 ∧ b.2.1 = 3 then (a, within a.2.2 0 1)
  else if a.2.1 = 6 ∧ b.2.1 = 4 then (a, decide (a.2.2 < b.2.2))
  else (zGive, false)
def hasFrom (l : List DGive) (n : ByteArray) : Bool := l.any fun g => keqS g.1 n
def asksG (g : DGive) : Bool := decide (g.2.1 = 3) || (decide (g.2.1 = 4) || decide (g.2.1 = 5))
def chGo (a : DRule) (mid : List DCol) : List DGive → List DGive → Option (List DGive)
  | [], acc => some acc
  | g :: gs, acc =>
    if g.2.1 = 6 ∨ g.2.1 = 7 then chGo a mid gs (acc ++ [g])
    else if (both (at_ zGive a.2.2 (col mid g.1)) g).2 = true then chGo a mid gs (acc ++ [(both (at_ zGive a.2.2 (col mid g.1)) g).1])
    else none
def chAsk (l : List DGive) : List DGive → List DCol → Bool
  | g :: gs, c :: cs => cond (asksG g && !hasFrom l c.1) false (chAsk l gs cs)
  | _, _ => true
def chained (a b : DRule) (mid : List DCol) : DRule × Bool := match chGo a mid b.2.2 [] with
  | none => (zRule, false)
  | some gs => if chAsk b.2.2 a.2.2 mid = true then ((a.1, b.2.1, gs), true) else (zRule, false)
def chainGo (mid : List DForm) (a b : List DRule) : List DForm → List DRule → List DRule × Int
  | [], acc => (acc, 0)
  | f :: fs, acc =>
    let x := (ruleOf a f.1).1
    let c := chained x (ruleOf b x.2.1).1 (colsOf mid x.2.1)
    if c.2 = true then chainGo mid a b fs (acc ++ [c.1]) else ([], 5)
def chain (l1 l2 l3 : List DForm) (a b : List DRule) : List DRule × Int :=
  if ¬ first [checkForms l1, checkForms l2, checkForms l3] = 0 then ([], first [checkForms l1, checkForms l2, checkForms l3])
  else if ¬ first [checkRules0 l1 l2 a, checkRules0 l2 l3 b] = 0 then ([], first [checkRules0 l1 l2 a, checkRules0 l2 l3 b])
  else chainGo l2 a b l1 []
end S
end Go.Proofs.Ytcnhjofpmpipfaa

end
end

/- What the law's bounds and the comparisons compute. -/
section
set_option linter.unusedVariables false
noncomputable section
namespace Go.Proofs.Ytcnhjofpmpipfaa
open Go Go.Sx Go.RowKit Go.Jx
namespace S
end S
namespace S
def fewForms (l : List DForm) : Bool :=
  l.all (fun f => decide (f.1.size ≤ 30 ∧ (f.2.length ≤ 6 ∨ 30 < f.2.length) ∧ f.2.length ≤ 40) && f.2.all fun c => decide (c.1.size ≤ 30 ∧ c.2.2.size ≤ 30)) && decide (l.length ≤ 6 ∨ 24 < l.length ∧ l.length ≤ 30)
def few (g : DGraph) : Bool :=
  g.1.all (fun n => decide ((n.2.length ≤ 8 ∨ 30 < n.2.length) ∧ n.2.length ≤ 40)) && decide ((g.1.length ≤ 30 ∨ 400 < g.1.length ∧ g.1.length ≤ 410) ∧ (g.2.length ≤ 10 ∨ 60 < g.2.length ∧ g.2.length ≤ 70))
def fewRules (l : List DRule) : Bool := l.all (fun r => decide (r.2.2.length ≤ 8)) && decide (l.length ≤ 8 ∨ 24 < l.length ∧ l.length ≤ 30)
end S
def sp_l_fewForms : Sm := ⟨[.list cForm], [(false, .bool)], fun x => some (S.fewForms x.1, ())⟩
def sp_l_few : Sm := ⟨[cGraph], [(false, .bool)], fun x => some (S.few x.1, ())⟩
def sp_l_fewRules : Sm := ⟨[.list cRule], [(false, .bool)], fun x => some (S.fewRules x.1, ())⟩
/-- The closed check answers yes. -/
def sp_l_sanity : Sm := ⟨[], [(false, .bool)], fun _ => some (true, ())⟩
def sp_l_true4 : Sm := ⟨[.list cForm, .list cForm, .list cRule, cGraph], [(false, .bool)], fun _ => some (true, ())⟩
end Go.Proofs.Ytcnhjofpmpipfaa

end
end

/- The closed check answers yes. -/
section
set_option linter.unusedVariables false
set_option maxRecDepth 100000
namespace Go.Proofs.Ytcnhjofpmpipfaa
open Go Go.Sx Go.RowKit Go.Jx
def exN : Ex := fun _ => none
def isR (o : Option Res) : Bool := match o with
  | some r => (match runR sp_l_sanity r with
    | some y => y.1
    | none => false)
  | none => false
theorem isR_spec {o : Option Res} (h : isR o = true) : ∃ r, o = some r ∧ runR sp_l_sanity r = some (true, ()) := by
  cases o with
  | none => cases h
  | some r =>
    refine ⟨r, rfl, ?_⟩
    unfold isR at h
    cases hr : runR sp_l_sanity r with
    | none => simp only [hr] at h; cases h
    | some y =>
      simp only [hr] at h
      exact congrArg some (Prod.ext h rfl)
theorem san15 : isR (icall Try.prog ttT.get ftT.get (fun _ _ => none) exN 1000 100 (.fn 15) [] S0) = true := by kernel_rfl
end Go.Proofs.Ytcnhjofpmpipfaa
end

/- The closed check's contract. -/
section
set_option linter.unusedVariables false
namespace Go.Proofs.Ytcnhjofpmpipfaa
open Go Go.Sx Go.RowKit Go.Jx
theorem exN_ok : ExOK Try.prog exN := ⟨fun _ _ h => (nomatch h), fun _ _ h => (nomatch h), fun _ _ h => (nomatch h)⟩
theorem con_l_sanity : Con Try.prog 15 sp_l_sanity := con_of_run (lf := 1000) mixed ttOK ftOK exN_ok cal15 fun x y h => by
  obtain ⟨r, h1, h2⟩ := isR_spec san15
  exact ⟨100, 1000, r, h1, h2.trans h⟩
end Go.Proofs.Ytcnhjofpmpipfaa
end

/- A part of a state by itself, and what comes back of it. -/
section
set_option linter.unusedVariables false
namespace Go.Jx
open Go Go.Sx Go.RowKit
universe u

/-- An object of a state stands, under another number, for what another one stood for. -/
structure ObjTo (E : Env) (S : IS) (E' : Env) (id k : Nat) (o : IObj) : Prop where
  rel : OR E' k o
  live : o.live = true → ∃ o0, S.H id = some o0 ∧ o0.live = true
  blk : o.blk = true → E'.hb k = true
theorem ol_inj {B : Nat} {q : List Nat} (hnd : q.Nodup) (hqB : ∀ id ∈ q, B ≤ id) : ∀ i j, i < B + q.length → j < B + q.length → ol B q i = ol B q j → i = j := fun i j hi hj h => by
  have hol : ∀ id, B ≤ id → id < B + q.length → B ≤ ol B q id := fun id h1 h2 => by
    have h3 : id - B < q.length := by omega
    unfold ol
    rw [if_neg (by omega), List.getD_eq_getElem?_getD, List.getElem?_eq_getElem h3]
    exact hqB _ (List.getElem_mem h3)
  rcases Nat.lt_or_ge i B with h1 | h1
  · have e1 : ol B q i = i := if_pos h1
    rcases Nat.lt_or_ge j B with h2 | h2
    · rwa [e1, show ol B q j = j from if_pos h2] at h
    · have := hol j h2 hj; omega
  · rcases Nat.lt_or_ge j B with h2 | h2
    · have e2 : ol B q j = j := if_pos h2
      have := hol i h1 hi; omega
    · have h3 : i - B < q.length := by omega
      have h4 : j - B < q.length := by omega
      have e1 : ol B q i = q[i - B] := by unfold ol; rw [if_neg (by omega), List.getD_eq_getElem?_getD, List.getElem?_eq_getElem h3]; rfl
      have e2 : ol B q j = q[j - B] := by unfold ol; rw [if_neg (by omega), List.getD_eq_getElem?_getD, List.getElem?_eq_getElem h4]; rfl
      rw [e1, e2] at h
      have := (List.getElem_inj hnd).1 h
      omega
theorem ol_mem {q : List Nat} {k : Nat} (h : k < q.length) : ol 0 q k ∈ q ∧ q[k]? = some (ol 0 q k) := by
  have e : ol 0 q k = q[k] := by unfold ol; rw [if_neg (by omega), Nat.sub_zero, List.getD_eq_getElem?_getD, List.getElem?_eq_getElem h]; rfl
  rw [e]; exact ⟨List.getElem_mem h, List.getElem?_eq_getElem h⟩
theorem mem_ol {q : List Nat} {id : Nat} (h : id ∈ q) : ∃ k, k < q.length ∧ ol 0 q k = id := by
  obtain ⟨k, hk, rfl⟩ := List.mem_iff_getElem.1 h
  refine ⟨k, hk, ?_⟩
  unfold ol; rw [if_neg (by omega), Nat.sub_zero, List.getD_eq_getElem?_getD, List.getElem?_eq_getElem hk]; rfl
/-- Some objects by themselves. -/
theorem Pre.re {T : TW} {E : Env} {S S' : IS} {q : List Nat} (p : Pre T E S) (hn : q.Nodup) (hT : ∀ id ∈ q, T.r id) (hN : S'.next = q.length)
    (ho : ∀ k o, k < q.length → E.A (ol 0 q k) → S'.H k = some o → ObjTo E S (renE 0 q E) (ol 0 q k) k o) : Pre T0 (renE 0 q E) S' := by
  have hl : ∀ k, (renE 0 q E).A k → k < q.length := fun k h => by have := h.1; omega
  have hTr : ∀ k, k < q.length → T.r (ol 0 q k) := fun k h => hT _ (ol_mem h).1
  have hlv : ∀ k, (renE 0 q E).A k → Live (renE 0 q E) S'.H k → Live E S.H (ol 0 q k) := fun k ha ⟨h0, o, h1, h2⟩ => ⟨h0, (ho k o (hl k ha) ha.2 h1).live h2⟩
  refine ⟨⟨fun k _ ha o h => (ho k o (hl k ha) ha.2 h).rel, fun k _ ha o h hb => (ho k o (hl k ha) ha.2 h).blk hb, fun k _ ha h => p.st.own _ (hTr k (hl k ha)) ha.2 (hlv k ha h),
    fun i j _ _ c d e f h => ol_inj hn (fun _ _ => Nat.zero_le _) i j (by have := hl i c; omega) (by have := hl j d; omega) (p.st.inj _ _ (hTr i (hl i c)) (hTr j (hl j d)) c.2 d.2 (hlv i c e) (hlv j d f) h), p.st.lo⟩, fun k ha => by rw [hN]; exact hl k ha, fun _ _ => trivial⟩
/-- The state with new numbers from a bound on. -/
theorem PostB.re {T : TW} {E : Env} {S S' : IS} {B : Nat} {q : List Nat} (p : Pre T E S) (hT : ∀ id, B ≤ id → T.w id) (hn : q.Nodup) (hqB : ∀ id ∈ q, B ≤ id) (hN : S'.next = B + q.length)
    (ho : ∀ k o, k < B + q.length → E.A (ol B q k) → S'.H k = some o → ObjTo E S (renE B q E) (ol B q k) k o) : PostB B T E S (renE B q E) S' := by
  have hol : ∀ id, B ≤ id → id < B + q.length → B ≤ ol B q id := fun id h1 h2 => by
    have h3 : id - B < q.length := by omega
    unfold ol
    rw [if_neg (by omega), List.getD_eq_getElem?_getD, List.getElem?_eq_getElem h3]
    exact hqB _ (List.getElem_mem h3)
  have hTr : ∀ id, id < B + q.length → T.r id → T.r (ol B q id) := fun id h1 h2 => by
    rcases Nat.lt_or_ge id B with h3 | h3
    · rw [show ol B q id = id from if_pos h3]; exact h2
    · exact T.sub _ (hT _ (hol id h3 h1))
  have hlv : ∀ k, (renE B q E).A k → Live (renE B q E) S'.H k → Live E S.H (ol B q k) := fun k ha ⟨h0, o, h1, h2⟩ => ⟨h0, (ho k o ha.1 ha.2 h1).live h2⟩
  refine ⟨⟨fun k ht ha o h => (ho k o ha.1 ha.2 h).rel, fun k ht ha o h hb => (ho k o ha.1 ha.2 h).blk hb, fun k ht ha h => p.st.own _ (hTr k ha.1 ht) ha.2 (hlv k ha h),
    fun i j a b c d e f h => ol_inj hn hqB i j c.1 d.1 (p.st.inj _ _ (hTr i c.1 a) (hTr j d.1 b) c.2 d.2 (hlv i c e) (hlv j d f) h), p.st.lo⟩,
    rfl, rfl, rfl, Nat.le_refl _, fun _ _ _ => rfl, fun id hb hA => ?_, fun id hb ha hl => .inr ⟨ol B q id, hT _ (hol id hb ha.1), ha.2, hlv id ha hl, rfl⟩, fun id hb ht ha hl => ?_, fun b h => .inl h, fun b h _ => .inl h, fun id ha => by rw [hN]; exact ha.1, by rw [hN]; exact Nat.le_add_right _ _, fun id hb ha => ?_⟩
  · have e : ol B q id = id := if_pos hb
    exact ⟨⟨by omega, by rw [e]; exact hA⟩, by simp only [renE, e], by simp only [renE, e], by simp only [renE, e], by simp only [renE, e]⟩
  · have e : ol B q id = id := if_pos hb
    have := hlv id ⟨by omega, by rw [e]; exact ha⟩ hl
    rwa [e] at this
  · have e : ol B q id = id := if_pos hb
    have := ha.2
    rwa [e] at this
/-- The environments of a caller and of what comes back: n the caller's bound, m how many numbers were pinned. -/
def mrgR (E Er : Env) (n m : Nat) : Env :=
  ⟨fun id => if id < n then E.ρ id else Er.ρ (id - n + m), fun id => if id < n then E.κ id else Er.κ (id - n + m), fun id => if id < n then E.hd id else Er.hd (id - n + m), fun id => if id < n then E.hb id else Er.hb (id - n + m),
    fun id => (id < n ∧ E.A id) ∨ (n ≤ id ∧ Er.A (id - n + m)), Er.m, Er.w⟩
section
variable {E Er : Env} {n m : Nat}
theorem mrgR_old {id : Nat} (h : id < n) : (mrgR E Er n m).ρ id = E.ρ id ∧ (mrgR E Er n m).κ id = E.κ id ∧ (mrgR E Er n m).hd id = E.hd id ∧ (mrgR E Er n m).hb id = E.hb id := by
  refine ⟨?_, ?_, ?_, ?_⟩ <;> simp only [mrgR, if_pos h]
theorem mrgR_new {k : Nat} (h : m ≤ k) : (mrgR E Er n m).ρ (n + (k - m)) = Er.ρ k ∧ (mrgR E Er n m).κ (n + (k - m)) = Er.κ k ∧ (mrgR E Er n m).hd (n + (k - m)) = Er.hd k ∧ (mrgR E Er n m).hb (n + (k - m)) = Er.hb k ∧ (Er.A k → (mrgR E Er n m).A (n + (k - m))) := by
  have h1 : ¬ n + (k - m) < n := by omega
  have h2 : n + (k - m) - n + m = k := by omega
  refine ⟨?_, ?_, ?_, ?_, fun hA => .inr ⟨by omega, by rw [h2]; exact hA⟩⟩ <;> simp only [mrgR, if_neg h1, h2]
/-- What comes back, put into the caller's state. -/
theorem merge_back {T : TW} {S Sx Sr S' : IS} {q : List Nat} (p : Pre T E S) (hnd : q.Nodup) (hT : ∀ id ∈ q, T.w id) (hA : ∀ id ∈ q, E.A id) (hm : m ≤ q.length) (hn : n = S.next)
    (hsx : ∀ k, k < q.length → Live (renE 0 q E) Sx.H k → Live E S.H (ol 0 q k)) (h : PostB m T0 (renE 0 q E) Sx Er Sr)
    (hN : S'.next = n + (Sr.next - m))
    (h1 : ∀ id, id < n → id ∉ q → S'.H id = S.H id)
    (h2 : ∀ k o, k < m → S'.H (ol 0 q k) = some o → ObjTo Er Sr (mrgR E Er n m) k (ol 0 q k) o)
    (h3 : ∀ k o, m ≤ k → k < q.length → S'.H (ol 0 q k) = some o → o = .dead)
    (h4 : ∀ k o, m ≤ k → Er.A k → S'.H (n + (k - m)) = some o → ObjTo Er Sr (mrgR E Er n m) k (n + (k - m)) o) :
    Post T E S (mrgR E Er n m) S' ∧ Fresh E S (mrgR E Er n m) := by
  have hlt : ∀ id, E.A id → id < n := fun id h => by rw [hn]; exact p.bnd id h
  have hqA : ∀ k, k < q.length → (renE 0 q E).A k := fun k hk => ⟨by omega, hA _ (ol_mem hk).1⟩
  -- a live object of the caller's beside these is at no block of theirs
  have hapart : ∀ id, id ∉ q → T.r id → E.A id → Live E S.H id → ∀ k, (renE 0 q E).A k → Live (renE 0 q E) Sx.H k → (renE 0 q E).ρ k ≠ E.ρ id := fun id hid ht ha hl k hk hkl e => by
    have hk1 : k < q.length := by have := hk.1; omega
    have h5 := (ol_mem hk1).1
    have := p.st.inj _ _ (T.sub _ (hT _ h5)) ht hk.2 ha (hsx k hk1 hkl) hl e
    exact hid (this ▸ h5)
  have hsame : ∀ b, b < E.w.heap.size → (∀ k, (renE 0 q E).A k → Live (renE 0 q E) Sx.H k → (renE 0 q E).ρ k ≠ b) → Er.w.heap[b]? = E.w.heap[b]? := fun b hb hk => h.same b hb fun k _ => hk k
  have hown : ∀ k, (renE 0 q E).A k → Live (renE 0 q E) Sx.H k → (renE 0 q E).ρ k ∈ E.m := fun k hk hkl => by
    have hk1 : k < q.length := by have := hk.1; omega
    exact p.st.own _ (T.sub _ (hT _ (ol_mem hk1).1)) hk.2 (hsx k hk1 hkl)
  have hle : E.Le (mrgR E Er n m) := ⟨fun id ha => by
    obtain ⟨m1, m2, m3, m4⟩ := mrgR_old (E := E) (Er := Er) (m := m) (hlt id ha)
    exact ⟨.inl ⟨hlt id ha, ha⟩, m1, m2, m3, m4⟩, ⟨fun b hb hbm => ⟨fun h' => by
      rcases h.memo b h' with h5 | h5
      · exact hbm h5
      · have : (renE 0 q E).w.heap.size = E.w.heap.size := rfl
        omega, hsame b hb fun k hk hkl e => hbm (e ▸ hown k hk hkl)⟩⟩⟩
  -- rows
  have hrow : ∀ k, k < m → (renE 0 q E).A k ∧ Er.A k ∧ Er.ρ k = E.ρ (ol 0 q k) ∧ Er.hb k = E.hb (ol 0 q k) ∧ ol 0 q k < n := fun k hk => by
    have ha := hqA k (by omega)
    obtain ⟨a1, a2, a3, a4, a5⟩ := h.alw k hk ha
    exact ⟨ha, a1, a2, a5, hlt _ ha.2⟩
  -- where a live object of the new state comes from
  have hcase : ∀ id, (mrgR E Er n m).A id → Live (mrgR E Er n m) S'.H id →
      (id < n ∧ id ∉ q ∧ E.A id ∧ Live E S.H id) ∨ ∃ k, Er.A k ∧ Live Er Sr.H k ∧ (mrgR E Er n m).ρ id = Er.ρ k ∧ ((k < m ∧ id = ol 0 q k) ∨ (m ≤ k ∧ id = n + (k - m))) := fun id ha ⟨g1, o, g2, g3⟩ => by
    rcases ha with ⟨hi, ha⟩ | ⟨hi, ha⟩
    · by_cases hq : id ∈ q
      · obtain ⟨k, hk, rfl⟩ := mem_ol hq
        by_cases hkm : k < m
        · obtain ⟨r1, r2, r3, r4, r5⟩ := hrow k hkm
          refine .inr ⟨k, r2, ⟨?_, (h2 k o hkm g2).live g3⟩, (mrgR_old hi).1.trans r3.symm, .inl ⟨hkm, rfl⟩⟩
          rw [r4, ← (mrgR_old (E := E) (Er := Er) (m := m) hi).2.2.2]; exact g1
        · have := h3 k o (by omega) hk g2
          subst this; cases g3
      · rw [h1 id hi hq] at g2
        exact .inl ⟨hi, hq, ha, by rw [← (mrgR_old (E := E) (Er := Er) (m := m) hi).2.2.2]; exact g1, o, g2, g3⟩
    · obtain ⟨k, hk, rfl⟩ : ∃ k, m ≤ k ∧ id = n + (k - m) := ⟨id - n + m, by omega, by omega⟩
      have e : n + (k - m) - n + m = k := by omega
      rw [e] at ha
      obtain ⟨m1, m2, m3, m4, m5⟩ := mrgR_new (E := E) (Er := Er) (n := n) hk
      exact .inr ⟨k, ha, ⟨by rw [← m4]; exact g1, (h4 k o hk ha g2).live g3⟩, m1, .inr ⟨hk, rfl⟩⟩
  have hin : ∀ id, id < n → id ∉ q → T.r id → E.A id → Live E S.H id → (mrgR E Er n m).ρ id ∈ Er.m ∧ ∀ k, Er.A k → Live Er Sr.H k → Er.ρ k ≠ E.ρ id := fun id hi hq ht ha hl => by
    have hmem := p.st.own id ht ha hl
    refine ⟨?_, fun k hk hkl e => ?_⟩
    · rw [(mrgR_old hi).1]
      rcases h.mem _ hmem (p.st.lo _ hmem) with g | ⟨k, _, g1, g2, g3⟩
      · exact g
      · exact absurd g3 (hapart id hq ht ha hl k g1 g2)
    · by_cases hkm : k < m
      · exact hapart id hq ht ha hl k (hrow k hkm).1 (h.old k hkm trivial (hrow k hkm).1 hkl) (by rw [← e]; exact (hrow k hkm).2.2.1.symm)
      · rcases h.new k (by omega) hk hkl with g | ⟨j, _, g1, g2, g3⟩
        · have := p.st.lo _ hmem
          have e2 : (renE 0 q E).w.heap.size = E.w.heap.size := rfl
          omega
        · exact hapart id hq ht ha hl j g1 g2 (by rw [← g3]; exact e)
  refine ⟨⟨⟨?_, ?_, ?_, ?_, h.st.lo⟩, ⟨h.os, h.tape, h.output, h.size, fun b hb hk => ?_, hle.alw, ?_, ?_, fun b hb => h.memo b hb, fun b hb hl => ?_⟩, ?_, ?_⟩, ⟨?_⟩⟩
  · intro id ht ha o ho
    rcases ha with ⟨hi, ha⟩ | ⟨hi, ha⟩
    · by_cases hq : id ∈ q
      · obtain ⟨k, hk, rfl⟩ := mem_ol hq
        by_cases hkm : k < m
        · exact (h2 k o hkm ho).rel
        · have := h3 k o (by omega) hk ho
          subst this; trivial
      · rw [h1 id hi hq] at ho
        exact (p.st.objs id ht ha o ho).mono hle ha (p.st.blk id ht ha o ho) fun hl hb => hsame _ ((p.st.objs id ht ha o ho).lt hl hb) (hapart id hq ht ha ⟨hb, o, ho, hl⟩)
    · obtain ⟨k, hk, rfl⟩ : ∃ k, m ≤ k ∧ id = n + (k - m) := ⟨id - n + m, by omega, by omega⟩
      have e : n + (k - m) - n + m = k := by omega
      rw [e] at ha
      exact (h4 k o hk ha ho).rel
  · intro id ht ha o ho hb
    rcases ha with ⟨hi, ha⟩ | ⟨hi, ha⟩
    · by_cases hq : id ∈ q
      · obtain ⟨k, hk, rfl⟩ := mem_ol hq
        by_cases hkm : k < m
        · exact (h2 k o hkm ho).blk hb
        · have := h3 k o (by omega) hk ho
          subst this; cases hb
      · rw [h1 id hi hq] at ho
        rw [(mrgR_old hi).2.2.2]
        exact p.st.blk id ht ha o ho hb
    · obtain ⟨k, hk, rfl⟩ : ∃ k, m ≤ k ∧ id = n + (k - m) := ⟨id - n + m, by omega, by omega⟩
      have e : n + (k - m) - n + m = k := by omega
      rw [e] at ha
      exact (h4 k o hk ha ho).blk hb
  · intro id ht ha hl
    rcases hcase id ha hl with ⟨g1, g2, g3, g4⟩ | ⟨k, g1, g2, g3, _⟩
    · exact (hin id g1 g2 ht g3 g4).1
    · rw [g3]; exact h.st.own k trivial g1 g2
  · intro i j ti tj hi hj li lj he
    rcases hcase i hi li with ⟨a1, a2, a3, a4⟩ | ⟨k, a1, a2, a3, a4⟩ <;> rcases hcase j hj lj with ⟨b1, b2, b3, b4⟩ | ⟨k', b1, b2, b3, b4⟩
    · rw [(mrgR_old a1).1, (mrgR_old b1).1] at he
      exact p.st.inj i j ti tj a3 b3 a4 b4 he
    · rw [(mrgR_old a1).1, b3] at he
      exact absurd he.symm ((hin i a1 a2 ti a3 a4).2 k' b1 b2)
    · rw [(mrgR_old b1).1, a3] at he
      exact absurd he ((hin j b1 b2 tj b3 b4).2 k a1 a2)
    · rw [a3, b3] at he
      have := h.st.inj k k' trivial trivial a1 b1 a2 b2 he
      subst this
      rcases a4 with ⟨a4, rfl⟩ | ⟨a4, rfl⟩ <;> rcases b4 with ⟨b4, rfl⟩ | ⟨b4, rfl⟩ <;> first | rfl | omega
  · refine hsame b hb fun k hk1 hkl e => ?_
    have hk2 : k < q.length := by have := hk1.1; omega
    exact hk _ (hT _ (ol_mem hk2).1) hk1.2 (hsx k hk2 hkl) e
  · intro id ha hna hl
    rcases hcase id ha hl with ⟨g1, g2, g3, g4⟩ | ⟨k, g1, g2, g3, g4⟩
    · exact absurd g3 hna
    · rcases g4 with ⟨g4, rfl⟩ | ⟨g4, rfl⟩
      · exact absurd (hrow k g4).1.2 hna
      · rw [g3]
        rcases h.new k g4 g1 g2 with g | ⟨j, _, j1, j2, j3⟩
        · exact .inl g
        · have hj : j < q.length := by have := j1.1; omega
          exact .inr ⟨_, hT _ (ol_mem hj).1, j1.2, hsx j hj j2, j3⟩
  · intro id ht ha hl
    rcases hcase id (.inl ⟨hlt id ha, ha⟩) hl with ⟨g1, g2, g3, g4⟩ | ⟨k, g1, g2, g3, g4⟩
    · exact g4
    · rcases g4 with ⟨g4, rfl⟩ | ⟨g4, rfl⟩
      · exact hsx k (by omega) (h.old k g4 trivial (hrow k g4).1 g2)
      · have := hlt _ ha; omega
  · rcases h.mem b hb hl with g | ⟨k, _, g1, g2, g3⟩
    · exact .inl g
    · have hk : k < q.length := by have := g1.1; omega
      exact .inr ⟨_, hT _ (ol_mem hk).1, g1.2, hsx k hk g2, g3⟩
  · intro id ha
    rw [hN]
    rcases ha with ⟨hi, _⟩ | ⟨hi, ha⟩
    · omega
    · have := h.bnd _ ha; omega
  · rw [hN]; omega
  · intro id ha hna
    rcases ha with ⟨_, ha⟩ | ⟨hi, _⟩
    · exact absurd ha hna
    · omega
end
end Go.Jx
end

/- Contracts of functions that turn what their pointers lead to: the form of such states, and how they are read. -/
section
set_option linter.unusedVariables false
namespace Go.Jx
open Go Go.Sx Go.RowKit
universe u

/-- What a cell of a box holds: data, an own slice, or a map. -/
inductive CT : Type
  | dat (c : TC)
  | arr (c : TC)
  | map (k v : TC)
def ElC : CT → Type
  | .dat c => El c
  | .arr c => List (El c)
  | .map k v => List (El k × El v)
def ElRow : List CT → Type
  | [] => Unit
  | c :: cs => ElC c × ElRow cs
/-- What is handed over: data, or a pointer to a box. -/
inductive PK : Type
  | dat (c : TC)
  | ref (r : List CT)
  | fn (f : Nat)
def ElP : List PK → Type
  | [] => Unit
  | .dat c :: l => El c × ElP l
  | .fn _ :: l => ElP l
  | .ref r :: l => ElRow r × ElP l
def refs : List PK → List PK
  | [] => []
  | .dat _ :: l => refs l
  | .fn _ :: l => refs l
  | .ref r :: l => .ref r :: refs l
def nC : CT → Nat
  | .dat _ => 0
  | _ => 1
def nR : List CT → Nat
  | [] => 0
  | c :: cs => nC c + nR cs
def nP : List PK → Nat
  | [] => 0
  | .dat _ :: l => nP l
  | .fn _ :: l => nP l
  | .ref r :: l => nR r + nP l
def mP : List PK → Nat
  | [] => 0
  | .dat _ :: l => mP l
  | .fn _ :: l => mP l
  | .ref _ :: l => mP l + 1
def cellC : (c : CT) → (Nat → Nat) → Nat → ElC c → List IV
  | .dat c, _, _, x => cel c x
  | .arr _, ι, n, _ => [.arr (ι n)]
  | .map _ _, ι, n, _ => [.map (ι n)]
def cellR : (r : List CT) → (Nat → Nat) → Nat → ElRow r → List IV
  | [], _, _, _ => []
  | c :: cs, ι, n, x => cellC c ι n x.1 ++ cellR cs ι (n + nC c) x.2
def subC : (c : CT) → ElC c → List IObj
  | .dat _, _ => []
  | .arr c, l => [.arr c l]
  | .map k v, es => [.tmap k v es]
def subR : (r : List CT) → ElRow r → List IObj
  | [], _ => []
  | c :: cs, x => subC c x.1 ++ subR cs x.2
def rowsP : (l : List PK) → (Nat → Nat) → Nat → ElP l → List IObj
  | [], _, _, _ => []
  | .dat _ :: l, ι, n, x => rowsP l ι n x.2
  | .fn _ :: l, ι, n, x => rowsP l ι n x
  | .ref r :: l, ι, n, x => .row (cellR r ι n x.1) :: rowsP l ι (n + nR r) x.2
def subsP : (l : List PK) → ElP l → List IObj
  | [], _ => []
  | .dat _ :: l, x => subsP l x.2
  | .fn _ :: l, x => subsP l x
  | .ref r :: l, x => subR r x.1 ++ subsP l x.2
def argsP : (l : List PK) → (Nat → Nat) → Nat → ElP l → List IV
  | [], _, _, _ => []
  | .dat c :: l, ρ, k, x => asIV c x.1 :: argsP l ρ k x.2
  | .fn f :: l, ρ, k, x => .fn f [] :: argsP l ρ k x
  | .ref _ :: l, ρ, k, x => .ptr (ρ k) 0 :: argsP l ρ (k + 1) x.2
def idN (k : Nat) : Nat := k
/-- The state of what is handed over: the boxes, then their slices and maps. -/
def Sc (l : List PK) (x : ElP l) : IS := addO (rowsP l idN (mP l) x ++ subsP l x) S0
theorem subC_len : ∀ (c : CT) (x : ElC c), (subC c x).length = nC c
  | .dat _, _ => rfl
  | .arr _, _ => rfl
  | .map _ _, _ => rfl
theorem subR_len : ∀ (r : List CT) (x : ElRow r), (subR r x).length = nR r
  | [], _ => rfl
  | c :: cs, x => by simp only [subR, nR, List.length_append, subC_len, subR_len cs]
theorem subsP_len : ∀ (l : List PK) (x : ElP l), (subsP l x).length = nP l
  | [], _ => rfl
  | .dat _ :: l, x => subsP_len l x.2
  | .fn _ :: l, x => subsP_len l x
  | .ref r :: l, x => by simp only [subsP, nP, List.length_append, subR_len, subsP_len l]
theorem rowsP_len : ∀ (l : List PK) (ι : Nat → Nat) (n : Nat) (x : ElP l), (rowsP l ι n x).length = mP l
  | [], _, _, _ => rfl
  | .dat _ :: l, ι, n, x => rowsP_len l ι n x.2
  | .fn _ :: l, ι, n, x => rowsP_len l ι n x
  | .ref r :: l, ι, n, x => by simp only [rowsP, mP, List.length_cons, rowsP_len l]
theorem rowsP_get : ∀ (l : List PK) (ι : Nat → Nat) (n : Nat) (x : ElP l) (j : Nat) (o : IObj), (rowsP l ι n x)[j]? = some o →
    ∃ r nj xj, o = .row (cellR r ι nj xj) ∧ n ≤ nj ∧ nj + nR r ≤ n + nP l ∧ ∀ ι', (rowsP l ι' n x)[j]? = some (.row (cellR r ι' nj xj))
  | [], ι, n, x, j, o, h => by simp [rowsP] at h
  | .dat _ :: l, ι, n, x, j, o, h => rowsP_get l ι n x.2 j o h
  | .fn _ :: l, ι, n, x, j, o, h => rowsP_get l ι n x j o h
  | .ref r :: l, ι, n, x, j, o, h => by
    cases j with
    | zero =>
      simp only [rowsP, List.getElem?_cons_zero, Option.some.injEq] at h
      exact ⟨r, n, x.1, h.symm, Nat.le_refl _, by simp only [nP]; omega, fun ι' => rfl⟩
    | succ j =>
      simp only [rowsP, List.getElem?_cons_succ] at h
      obtain ⟨r', nj, xj, h1, h2, h3, h4⟩ := rowsP_get l ι _ x.2 j o h
      exact ⟨r', nj, xj, h1, by omega, by simp only [nP]; omega, fun ι' => by simpa only [rowsP, List.getElem?_cons_succ] using h4 ι'⟩
theorem Sc_next (l : List PK) (x : ElP l) : (Sc l x).next = mP l + nP l := by
  unfold Sc; rw [addO_next, List.length_append, rowsP_len, subsP_len]
  show 0 + _ = _
  omega
theorem addO_H0 (l : List IObj) (k : Nat) : (addO l S0).H k = l[k]? := by
  rw [addO_H]
  have e : S0.next = 0 := rfl
  rw [e, if_neg (by omega), Nat.zero_add, Nat.sub_zero]
  by_cases h : k < l.length
  · rw [if_pos h]
  · rw [if_neg h, List.getElem?_eq_none (by omega)]; rfl

/-! ### The same under other numbers -/
section
variable {E E' : Env}
/-- What a second environment knows of numbers. -/
def NumTo (E E' : Env) (i j : Nat) : Prop := E.A i → E'.A j ∧ E'.ρ j = E.ρ i ∧ E'.κ j = E.κ i ∧ E'.hd j = E.hd i ∧ E'.hb j = E.hb i
theorem cellC_env (hm : ∀ b, b ∈ E'.m → b ∈ E.m) (hw : E'.w = E.w) {ι ι' : Nat → Nat} : ∀ (c : CT) {n : Nat} {x : ElC c} {us : List Value}, (∀ j, n ≤ j → j < n + nC c → NumTo E E' (ι j) (ι' j)) →
    VRs E (cellC c ι n x) us → VRs E' (cellC c ι' n x) us
  | .dat c, n, x, us, hn, h => ⟨h.1, fun i a b => (VR.noid hm hw (h.2 i a b)).2.2 _ _ (List.getElem_mem a)⟩
  | .arr c, n, x, us, hn, h => by
    obtain ⟨u, us, rfl, a1, a2⟩ := VRs.inv (v := .arr (ι n)) (cs := []) h
    have e : us = [] := by have := a2.1; simpa using this.symm
    subst e
    cases a1 with
    | arr hA hh =>
      obtain ⟨b1, b2, b3, b4, b5⟩ := hn n (Nat.le_refl _) (by simp [nC]) hA
      exact VRs.cons (.arr b1 (b4.trans hh)) VRs.nil
  | .map k v, n, x, us, hn, h => by
    obtain ⟨u, us, rfl, a1, a2⟩ := VRs.inv (v := .map (ι n)) (cs := []) h
    have e : us = [] := by have := a2.1; simpa using this.symm
    subst e
    cases a1 with
    | map hA =>
      obtain ⟨b1, b2, b3, b4, b5⟩ := hn n (Nat.le_refl _) (by simp [nC]) hA
      rw [← b2]
      exact VRs.cons (.map b1) VRs.nil
theorem VRs.split {E : Env} {cs ds : List IV} {us : List Value} (h : VRs E (cs ++ ds) us) : ∃ us1 us2, us = us1 ++ us2 ∧ VRs E cs us1 ∧ VRs E ds us2 := by
  have h1 := h.take cs.length
  have h2 := h.drop cs.length
  rw [List.take_left] at h1
  rw [List.drop_left] at h2
  exact ⟨_, _, (List.take_append_drop _ _).symm, h1, h2⟩
theorem cellR_env (hm : ∀ b, b ∈ E'.m → b ∈ E.m) (hw : E'.w = E.w) {ι ι' : Nat → Nat} : ∀ (r : List CT) {n : Nat} {x : ElRow r} {us : List Value}, (∀ j, n ≤ j → j < n + nR r → NumTo E E' (ι j) (ι' j)) →
    VRs E (cellR r ι n x) us → VRs E' (cellR r ι' n x) us
  | [], n, x, us, hn, h => by have := h.1; cases us with | nil => exact VRs.nil | cons _ _ => simp [cellR] at this
  | c :: cs, n, x, us, hn, h => by
    obtain ⟨us1, us2, rfl, h1, h2⟩ := VRs.split (cs := cellC c ι n x.1) (ds := cellR cs ι (n + nC c) x.2) h
    exact VRs.append (cellC_env hm hw c (fun j a b => hn j a (by simp only [nR]; omega)) h1) (cellR_env hm hw cs (fun j a b => hn j (by omega) (by simp only [nR]; omega)) h2)
theorem cellC_len (c : CT) (ι ι' : Nat → Nat) (n : Nat) (x : ElC c) : (cellC c ι n x).length = (cellC c ι' n x).length := by cases c <;> rfl
theorem cellR_len : ∀ (r : List CT) (ι ι' : Nat → Nat) (n : Nat) (x : ElRow r), (cellR r ι n x).length = (cellR r ι' n x).length
  | [], _, _, _, _ => rfl
  | c :: cs, ι, ι', n, x => by simp only [cellR, List.length_append, cellC_len c ι ι', cellR_len cs ι ι']
/-- A box under another number. -/
theorem OR.row_to (hm : ∀ b, b ∈ E'.m → b ∈ E.m) (hw : E'.w = E.w) {ι ι' : Nat → Nat} {r : List CT} {n i j : Nat} {x : ElRow r} (hA : E.A i) (hi : NumTo E E' i j) (hn : ∀ j, n ≤ j → j < n + nR r → NumTo E E' (ι j) (ι' j))
    (h : OR E i (.row (cellR r ι n x))) : OR E' j (.row (cellR r ι' n x)) := by
  obtain ⟨cells, t, h1, h2, h3, h4⟩ := h
  obtain ⟨b1, b2, b3, b4, b5⟩ := hi hA
  refine ⟨cells, t, by rw [hw, b2]; exact h1, by rw [b3]; exact h2, by rw [cellR_len r ι' ι]; exact h3, ?_⟩
  rw [cellR_len r ι' ι]
  exact cellR_env hm hw r hn h4
/-- Slices and typed maps hold no numbers. -/
def datO : IObj → Bool
  | .arr _ _ => true
  | .tmap _ _ _ => true
  | _ => false
theorem OR.dat_to (hm : ∀ b, b ∈ E'.m → b ∈ E.m) (hw : E'.w = E.w) {i j : Nat} {o : IObj} (hA : E.A i) (hi : NumTo E E' i j) (ho : datO o = true) (h : OR E i o) : OR E' j o := by
  obtain ⟨b1, b2, b3, b4, b5⟩ := hi hA
  have hno : ∀ {v : IV} {u : Value}, VR E v u → _ := fun h => VR.noid (E := E) (E' := E') hm hw h
  cases o <;> try (cases ho; done)
  · obtain ⟨a, cap, h1, h2, h3, h4, h5⟩ := h
    exact ⟨a, cap, by rw [b4]; exact h1, h2, h3, h4, h5.imp (fun ⟨x, y⟩ => ⟨by rw [b5]; exact x, y⟩) fun ⟨c1, c2, cells, t, c3, c4, us, c5, c6⟩ => ⟨by rw [b5]; exact c1, by rw [b2]; exact c2, cells, t, by rw [hw, b2]; exact c3, c4, us, c5, fun i hi j hj => (hno (c6 i hi j hj)).2.2 _ _ (List.getElem_mem hj)⟩⟩
  · obtain ⟨ents, c, h1, h2, h3⟩ := h
    refine ⟨ents, c, by rw [hw, b2]; exact h1, ⟨h2.1, fun i a b => ?_⟩, ⟨h3.1, fun i a b => ?_⟩⟩
    · have := h2.2 i a b
      simp only [tmEs, List.getElem_map] at this ⊢
      exact as_env hm hw this
    · have := h3.2 i a b
      simp only [tmEs, List.getElem_map] at this ⊢
      exact as_env hm hw this
theorem argsP_env (hm : ∀ b, b ∈ E'.m → b ∈ E.m) (hw : E'.w = E.w) {ρ ρ' : Nat → Nat} : ∀ (l : List PK) {k : Nat} {x : ElP l} {us : List Value}, (∀ j, k ≤ j → j < k + mP l → NumTo E E' (ρ j) (ρ' j)) →
    VRs E (argsP l ρ k x) us → VRs E' (argsP l ρ' k x) us
  | [], k, x, us, hn, h => by have := h.1; cases us with | nil => exact VRs.nil | cons _ _ => simp [argsP] at this
  | .dat c :: l, k, x, us, hn, h => by
    obtain ⟨u, us, rfl, a1, a2⟩ := VRs.inv (v := asIV c x.1) (cs := argsP l ρ k x.2) h
    exact VRs.cons (as_env hm hw a1) (argsP_env hm hw l hn a2)
  | .fn f :: l, k, x, us, hn, h => by
    obtain ⟨u, us, rfl, a1, a2⟩ := VRs.inv (v := .fn f []) (cs := argsP l ρ k x) h
    refine VRs.cons ?_ (argsP_env hm hw l hn a2)
    cases a1 with
    | fn hl hh =>
      rename_i us0
      have : us0 = [] := List.length_eq_zero_iff.1 hl.symm
      subst this
      exact .fn (cs := []) rfl (fun i h => by simp at h)
  | .ref r :: l, k, x, us, hn, h => by
    obtain ⟨u, us, rfl, a1, a2⟩ := VRs.inv (v := .ptr (ρ k) 0) (cs := argsP l ρ (k + 1) x.2) h
    refine VRs.cons ?_ (argsP_env hm hw l (fun j a b => hn j (by omega) (by simp only [mP]; omega)) a2)
    cases a1 with
    | ptr hA =>
      obtain ⟨b1, b2, b3, b4, b5⟩ := hn k (Nat.le_refl _) (by simp only [mP]; omega) hA
      show VR E' (.ptr (ρ' k) 0) _
      rw [← b2]; exact .ptr b1
end

/-! ### Reading -/
def rdC : (c : CT) → IS → List IV → Option (ElC c × List Nat × List IV × IS × Nat)
  | .dat c, S, cs => match icl c S cs with
    | some (x, r, S1, w) => some (x, [], r, S1, w)
    | none => none
  | .arr c, S, cs => match cs with
    | v :: r => match coeV S c v with
      | some (.arr id, S1, w) => some ([], [id], r, S1, w)
      | _ => none
    | [] => none
  | .map k v, S, cs => match cs with
    | .map id :: r => match coeM1 S k v (.map id) with
      | some (S1, w) => some ([], [id], r, S1, w)
      | none => none
    | _ => none
def rdR : (r : List CT) → IS → List IV → Option (ElRow r × List Nat × List IV × IS × Nat)
  | [], S, cs => some ((), [], cs, S, 0)
  | c :: l, S, cs => match rdC c S cs with
    | none => none
    | some (x, i1, r1, S1, w1) => match rdR l S1 r1 with
      | none => none
      | some (y, i2, r2, S2, w2) => some ((x, y), i1 ++ i2, r2, S2, w1 ||| w2)
def rdP : (l : List PK) → IS → List IV → Option (ElP l × List Nat × List Nat × IS × Nat)
  | [], S, vs => match vs with
    | [] => some ((), [], [], S, 0)
    | _ => none
  | .dat c :: l, S, vs => match vs with
    | v :: vs => cond (fitV c v) (match icl c S (cellsOf v) with
      | some (x, [], S1, w1) => match rdP l S1 vs with
        | some (y, q1, q2, S2, w2) => some ((x, y), q1, q2, S2, w1 ||| w2)
        | none => none
      | _ => none) none
    | [] => none
  | .fn f :: l, S, vs => match vs with
    | .fn g [] :: vs => cond (Nat.beq g f) (rdP l S vs) none
    | _ => none
  | .ref r :: l, S, vs => match vs with
    | .ptr id 0 :: vs => match S.heap.get id with
      | some (.row cs) => match rdR r S cs with
        | some (x, i1, [], S1, w1) => match rdP l S1 vs with
          | some (y, q1, q2, S2, w2) => some ((x, y), id :: q1, i1 ++ q2, S2, 2 ^ id ||| (w1 ||| w2))
          | none => none
        | _ => none
      | _ => none
    | _ => none
section
variable {T : TW} {E : Env} {S : IS}
/-- Numbers of a list that begins at n. -/
def Nums (ι : Nat → Nat) (n : Nat) (q : List Nat) : Prop := ∀ (j id : Nat), q[j]? = some id → ι (n + j) = id
theorem Nums.fst {ι : Nat → Nat} {n : Nat} {a b : List Nat} (h : Nums ι n (a ++ b)) : Nums ι n a := fun j id hj => h j id (by rw [List.getElem?_append_left (List.getElem?_eq_some_iff.1 hj).1]; exact hj)
theorem Nums.snd {ι : Nat → Nat} {n : Nat} {a b : List Nat} (h : Nums ι n (a ++ b)) : Nums ι (n + a.length) b := fun j id hj => by
  have := h (a.length + j) id (by rw [List.getElem?_append_right (by omega), Nat.add_sub_cancel_left]; exact hj)
  rwa [← Nat.add_assoc] at this
theorem rdC_sound : ∀ (c : CT) {E : Env} {S : IS} {cs : List IV} {x : ElC c} {ids : List Nat} {r : List IV} {S' : IS} {w : Nat} {us : List Value}, rdC c S cs = some (x, ids, r, S', w) → Pre T E S → tin T.w w → VRs E cs us →
    ∃ E', E'.w = E.w ∧ Post T E S E' S' ∧ Fresh E S E' ∧ ids.length = nC c ∧ (∀ id ∈ ids, E'.A id) ∧ ∃ us1 us2, us = us1 ++ us2 ∧ (∀ ι n, Nums ι n ids → VRs E' (cellC c ι n x) us1) ∧ VRs E' r us2
  | .dat c, E, S, cs, x, ids, r, S', w, us, h, p, hw, hv => by
    simp only [rdC] at h
    split at h <;> cases h
    rename_i h1
    obtain ⟨E1, e1, q1, f1, us1, us2, e2, v1, v2⟩ := icl_sound c h1 p hw hv
    exact ⟨E1, e1, q1, f1, rfl, fun id h => (by cases h), us1, us2, e2, fun ι n _ => v1, v2⟩
  | .arr c, E, S, cs, x, ids, r, S', w, us, h, p, hw, hv => by
    simp only [rdC] at h
    cases cs with
    | nil => cases h
    | cons v cs =>
    simp only at h
    split at h <;> cases h
    rename_i id h1
    obtain ⟨u, us, rfl, a1, a2⟩ := hv.inv
    obtain ⟨E1, e1, q1, f1, v1⟩ := coeV_sound p h1 hw a1
    have hA : E1.A id := by cases v1; assumption
    refine ⟨E1, e1, q1, f1, rfl, fun id' h => by rw [List.mem_singleton.1 h]; exact hA, [u], us, rfl, fun ι n hn => ?_, a2.mono (q1.env p)⟩
    have := hn 0 id rfl
    simp only [cellC]
    rw [Nat.add_zero] at this
    rw [this]; exact VRs.cons v1 VRs.nil
  | .map kc vc, E, S, cs, x, ids, r, S', w, us, h, p, hw, hv => by
    cases cs with
    | nil => cases h
    | cons v cs =>
    cases v <;> try (cases h; done)
    rename_i id
    simp only [rdC] at h
    split at h <;> cases h
    rename_i h1
    obtain ⟨u, us, rfl, a1, a2⟩ := hv.inv
    obtain ⟨E1, e1, q1, f1⟩ := coeM1_sound p h1 hw a1
    have v1 := a1.mono (q1.env p)
    have hA : E1.A id := by cases v1; assumption
    refine ⟨E1, e1, q1, f1, rfl, fun id' h => by rw [List.mem_singleton.1 h]; exact hA, [u], us, rfl, fun ι n hn => ?_, a2.mono (q1.env p)⟩
    have := hn 0 id rfl
    simp only [cellC]
    rw [Nat.add_zero] at this
    rw [this]; exact VRs.cons v1 VRs.nil
theorem rdR_sound : ∀ (c : List CT) {E : Env} {S : IS} {cs : List IV} {x : ElRow c} {ids : List Nat} {r : List IV} {S' : IS} {w : Nat} {us : List Value}, rdR c S cs = some (x, ids, r, S', w) → Pre T E S → tin T.w w → VRs E cs us →
    ∃ E', E'.w = E.w ∧ Post T E S E' S' ∧ Fresh E S E' ∧ ids.length = nR c ∧ (∀ id ∈ ids, E'.A id) ∧ ∃ us1 us2, us = us1 ++ us2 ∧ (∀ ι n, Nums ι n ids → VRs E' (cellR c ι n x) us1) ∧ VRs E' r us2
  | [], E, S, cs, x, ids, r, S', w, us, h, p, hw, hv => by
    cases h
    exact ⟨E, rfl, Post.refl p, Fresh.refl E S, rfl, fun id h => (by cases h), [], us, rfl, fun _ _ _ => VRs.nil, hv⟩
  | c :: l, E, S, cs, x, ids, r, S', w, us, h, p, hw, hv => by
    simp only [rdR] at h
    split at h
    · cases h
    rename_i x1 i1 r1 S1 w1 h1
    split at h <;> cases h
    rename_i y i2 w2 h2
    obtain ⟨g1, g2⟩ := tin_or hw
    obtain ⟨E1, e1, q1, f1, l1, A1, us1, us2, rfl, v1, v2⟩ := rdC_sound c h1 p g1 hv
    obtain ⟨E2, e2, q2, f2, l2, A2, us3, us4, rfl, v3, v4⟩ := rdR_sound l h2 (q1.pre p) g2 v2
    have hle := q2.env (q1.pre p)
    refine ⟨E2, e2.trans e1, Post.trans p q1 f1 q2, f1.trans f2 q1.le, by simp [l1, l2, nR], fun id h => ?_, us1 ++ us3, us4, (List.append_assoc _ _ _).symm, fun ι n hn => ?_, v4⟩
    · rcases List.mem_append.1 h with h | h
      · exact (hle.alw _ (A1 id h)).1
      · exact A2 id h
    · refine VRs.append ((v1 ι n hn.fst).mono hle) (v3 ι _ ?_)
      rw [← l1]; exact hn.snd
/-- Which boxes there are, by their numbers. -/
def RowsAt (E : Env) (rows : List Nat) (os : List IObj) : Prop := ∀ (j : Nat) (o : IObj), os[j]? = some o → ∃ id, rows[j]? = some id ∧ E.A id ∧ E.hb id = true ∧ OR E id o
theorem rdP_sound : ∀ (l : List PK) {E : Env} {S : IS} {vs : List IV} {x : ElP l} {rows subs : List Nat} {S' : IS} {w : Nat} {us : List Value}, rdP l S vs = some (x, rows, subs, S', w) → Pre T E S → tin T.w w → VRs E vs us →
    ∃ E', E'.w = E.w ∧ Post T E S E' S' ∧ Fresh E S E' ∧ rows.length = mP l ∧ subs.length = nP l ∧ (∀ id ∈ subs, E'.A id) ∧ (∀ ρ k, Nums ρ k rows → VRs E' (argsP l ρ k x) us) ∧ (∀ ι n, Nums ι n subs → RowsAt E' rows (rowsP l ι n x))
  | [], E, S, vs, x, rows, subs, S', w, us, h, p, hw, hv => by
    cases vs with
    | cons v vs => cases h
    | nil => cases h; exact ⟨E, rfl, Post.refl p, Fresh.refl E S, rfl, rfl, fun id h => (by cases h), fun _ _ _ => hv, fun _ _ _ j o h => (by simp [rowsP] at h)⟩
  | .dat c :: l, E, S, vs, x, rows, subs, S', w, us, h, p, hw, hv => by
    cases vs with
    | nil => cases h
    | cons v vs =>
    simp only [rdP] at h
    cases hb : fitV c v with
    | false => rw [hb] at h; cases h
    | true =>
    rw [hb, cond_true] at h
    split at h <;> try cases h
    rename_i x1 S1 w1 h1
    split at h <;> cases h
    rename_i y w2 h2
    obtain ⟨g1, g2⟩ := tin_or hw
    obtain ⟨u, us, rfl, a1, a2⟩ := hv.inv
    obtain ⟨E1, e1, q1, f1, us1, us2, e2, v1, v2⟩ := icl_sound c h1 p g1 (a1.cells (fit_known hb))
    have : us2 = [] := by have := v2.1; simpa using this.symm
    subst this
    rw [List.append_nil] at e2
    rw [← e2] at v1
    have b1 := fit_as hb a1 v1
    obtain ⟨E2, e3, q2, f2, l1, l2, A2, b2, b3⟩ := rdP_sound l h2 (q1.pre p) g2 (a2.mono (q1.env p))
    exact ⟨E2, e3.trans e1, Post.trans p q1 f1 q2, f1.trans f2 q1.le, l1, l2, A2, fun ρ k hk => VRs.cons (b1.mono (q2.env (q1.pre p))) (b2 ρ k hk), b3⟩
  | .fn f :: l, E, S, vs, x, rows, subs, S', w, us, h, p, hw, hv => by
    simp only [rdP] at h
    split at h <;> try cases h
    rename_i g vs
    cases hb : Nat.beq g f with
    | false => rw [hb] at h; cases h
    | true =>
    rw [hb] at h
    have h : rdP l S vs = some (x, rows, subs, S', w) := h
    obtain rfl := Nat.eq_of_beq_eq_true hb
    obtain ⟨u, us, rfl, a1, a2⟩ := hv.inv
    obtain ⟨E2, e3, q2, f2, l1, l2, A2, b2, b3⟩ := rdP_sound l h p hw a2
    exact ⟨E2, e3, q2, f2, l1, l2, A2, fun ρ k hk => VRs.cons (a1.mono (q2.env p)) (b2 ρ k hk), b3⟩
  | .ref r :: l, E, S, vs, x, rows, subs, S', w, us, h, p, hw, hv => by
    cases vs with
    | nil => cases h
    | cons v vs =>
    cases v <;> try (cases h; done)
    rename_i id off
    cases off with
    | succ _ => cases h
    | zero =>
    simp only [rdP] at h
    split at h <;> try cases h
    rename_i cs ho
    split at h <;> try cases h
    rename_i x1 i1 S1 w1 h1
    split at h <;> cases h
    rename_i y q1 q2 w2 h2
    obtain ⟨g0, g3⟩ := tin_or hw
    obtain ⟨g1, g2⟩ := tin_or g3
    have hT := tin_bit g0
    obtain ⟨u, us, rfl, a1, a2⟩ := hv.inv
    have hA : E.A id := by cases a1; assumption
    obtain ⟨cells, t, k1, k2, k3, k4⟩ := p.st.objs id (T.sub _ hT) hA _ ho
    have hblk := p.st.blk id (T.sub _ hT) hA _ ho rfl
    obtain ⟨E1, e1, p1, f1, l1, A1, us1, us2, e2, v1, v2⟩ := rdR_sound r h1 p g1 k4
    have : us2 = [] := by have := v2.1; simpa using this.symm
    subst this
    rw [List.append_nil] at e2
    have hle1 := p1.env p
    obtain ⟨E2, e3, p2, f2, l2, l3, A2, b2, b3⟩ := rdP_sound l h2 (p1.pre p) g2 (a2.mono hle1)
    have hle2 := p2.env (p1.pre p)
    obtain ⟨c1, c2, c3, c4, c5⟩ := (hle1.trans hle2).alw id hA
    refine ⟨E2, e3.trans e1, Post.trans p p1 f1 p2, f1.trans f2 p1.le, by simp [l2, mP], by simp [l1, l3, nP], fun id' h => ?_, fun ρ k hk => ?_, fun ι n hn j o hj => ?_⟩
    · rcases List.mem_append.1 h with h | h
      · exact (hle2.alw _ (A1 id' h)).1
      · exact A2 id' h
    · refine VRs.cons ?_ (b2 ρ (k + 1) fun j id' hj => ?_)
      · have := hk 0 id rfl
        rw [Nat.add_zero] at this
        rw [this]; exact a1.mono (hle1.trans hle2)
      · have := hk (j + 1) id' (by simpa using hj)
        rwa [show k + (j + 1) = k + 1 + j by omega] at this
    · cases j with
      | zero =>
        simp only [rowsP, List.getElem?_cons_zero, Option.some.injEq] at hj
        subst hj
        refine ⟨id, rfl, c1, c5.trans hblk, ?_⟩
        have hv1 := (v1 ι n hn.fst).mono hle2
        have hl : (cellR r ι n x1).length = cs.length := by rw [hv1.1, ← e2, ← k4.1]
        refine ⟨cells, t, by rw [c2, e3, e1]; exact k1, by rw [c3]; exact k2, by rw [hl]; exact k3, ?_⟩
        rw [hl, e2]; exact hv1
      | succ j =>
        simp only [rowsP, List.getElem?_cons_succ] at hj
        have hn2 : Nums ι (n + nR r) q2 := by rw [← l1]; exact hn.snd
        obtain ⟨id', d1, d2, d3, d4⟩ := b3 ι _ hn2 j o hj
        exact ⟨id', (by rw [List.getElem?_cons_succ]; exact d1), d2, d3, d4⟩
end

/-! ### The slices and maps as they are at last -/
def recast2 (k v k' v' : TC) (l : List (El k × El v)) : Option (List (El k' × El v')) :=
  if h : TC.beq k k' = true ∧ TC.beq v v' = true then some (TC.beq_eq h.1 ▸ TC.beq_eq h.2 ▸ l) else none
theorem recast2_some {k v k' v' : TC} {l : List (El k × El v)} {l' : List (El k' × El v')} (h : recast2 k v k' v' l = some l') : IObj.tmap k v l = .tmap k' v' l' := by
  unfold recast2 at h
  split at h
  · rename_i e
    have e1 := TC.beq_eq e.1
    have e2 := TC.beq_eq e.2
    subst e1; subst e2
    cases h; rfl
  · cases h
theorem recast_obj {c d : TC} {l : List (El c)} {l' : List (El d)} (h : recast c d l = some l') : IObj.arr c l = .arr d l' := by
  obtain ⟨rfl, rfl⟩ := recast_some h; rfl
def fiC : (c : CT) → List Nat → IS → ElC c → Option (ElC c × List Nat)
  | .dat _, q, _, x => some (x, q)
  | .arr c, q, S, _ => match q with
    | id :: q => match S.heap.get id with
      | some (.arr c' l) => match recast c' c l with
        | some l' => some (l', q)
        | none => none
      | _ => none
    | [] => none
  | .map k v, q, S, _ => match q with
    | id :: q => match S.heap.get id with
      | some (.tmap k' v' es) => match recast2 k' v' k v es with
        | some l' => some (l', q)
        | none => none
      | _ => none
    | [] => none
def fiR : (r : List CT) → List Nat → IS → ElRow r → Option (ElRow r × List Nat)
  | [], q, _, _ => some ((), q)
  | c :: cs, q, S, x => match fiC c q S x.1 with
    | none => none
    | some (x1, q1) => match fiR cs q1 S x.2 with
      | none => none
      | some (x2, q2) => some ((x1, x2), q2)
def fiP : (l : List PK) → List Nat → IS → ElP l → Option (ElP l)
  | [], _, _, _ => some ()
  | .dat _ :: l, q, S, x => match fiP l q S x.2 with
    | some y => some (x.1, y)
    | none => none
  | .fn _ :: l, q, S, x => fiP l q S x
  | .ref r :: l, q, S, x => match fiR r q S x.1 with
    | none => none
    | some (x1, q1) => match fiP l q1 S x.2 with
      | some y => some (x1, y)
      | none => none
theorem fiC_spec {S : IS} : ∀ (c : CT) {q q' : List Nat} {x x' : ElC c}, fiC c q S x = some (x', q') → (∀ ι n, cellC c ι n x' = cellC c ι n x) ∧ ∃ q1, q = q1 ++ q' ∧ q1.length = nC c ∧ ∀ j : Nat, (subC c x')[j]? = (q1[j]?).bind fun id => S.heap.get id
  | .dat c, q, q', x, x', h => by cases h; exact ⟨fun _ _ => rfl, [], rfl, rfl, fun j => by simp [subC]⟩
  | .arr c, q, q', x, x', h => by
    cases q with
    | nil => cases h
    | cons id q =>
    simp only [fiC] at h
    split at h <;> try cases h
    rename_i c' l ho
    split at h <;> cases h
    rename_i hl
    refine ⟨fun _ _ => rfl, [id], rfl, rfl, fun j => ?_⟩
    cases j with
    | zero => simp only [subC, List.getElem?_cons_zero, Option.bind_some, ho, recast_obj hl]
    | succ j => simp [subC]
  | .map k v, q, q', x, x', h => by
    cases q with
    | nil => cases h
    | cons id q =>
    simp only [fiC] at h
    split at h <;> try cases h
    rename_i k' v' es ho
    split at h <;> cases h
    rename_i hl
    refine ⟨fun _ _ => rfl, [id], rfl, rfl, fun j => ?_⟩
    cases j with
    | zero => simp only [subC, List.getElem?_cons_zero, Option.bind_some, ho, recast2_some hl]
    | succ j => simp [subC]
theorem get_app {α β : Type} {f : α → Option β} {a1 a2 : List β} {q1 q2 : List α} (hl : a1.length = q1.length) (h1 : ∀ j : Nat, a1[j]? = (q1[j]?).bind f) (h2 : ∀ j : Nat, a2[j]? = (q2[j]?).bind f) (j : Nat) :
    (a1 ++ a2)[j]? = ((q1 ++ q2)[j]?).bind f := by
  by_cases h : j < a1.length
  · rw [List.getElem?_append_left h, List.getElem?_append_left (by omega), h1]
  · rw [List.getElem?_append_right (by omega), List.getElem?_append_right (by omega), h2, hl]
theorem fiR_spec {S : IS} : ∀ (c : List CT) {q q' : List Nat} {x x' : ElRow c}, fiR c q S x = some (x', q') → (∀ ι n, cellR c ι n x' = cellR c ι n x) ∧ ∃ q1, q = q1 ++ q' ∧ q1.length = nR c ∧ ∀ j : Nat, (subR c x')[j]? = (q1[j]?).bind fun id => S.heap.get id
  | [], q, q', x, x', h => by cases h; exact ⟨fun _ _ => rfl, [], rfl, rfl, fun j => by simp [subR]⟩
  | c :: cs, q, q', x, x', h => by
    simp only [fiR] at h
    split at h
    · cases h
    rename_i x1 q1 h1
    split at h <;> cases h
    rename_i x2 h2
    obtain ⟨a1, p1, rfl, a2, a3⟩ := fiC_spec c h1
    obtain ⟨b1, p2, rfl, b2, b3⟩ := fiR_spec cs h2
    refine ⟨fun ι n => by simp only [cellR, a1, b1], p1 ++ p2, (List.append_assoc _ _ _).symm, by simp [a2, b2, nR], fun j => ?_⟩
    exact get_app (by rw [subC_len, a2]) a3 b3 j
theorem fiP_spec {S : IS} : ∀ (l : List PK) {q : List Nat} {x x' : ElP l}, fiP l q S x = some x' → q.length = nP l → (∀ ι n, rowsP l ι n x' = rowsP l ι n x) ∧ (∀ ρ k, argsP l ρ k x' = argsP l ρ k x) ∧ ∀ j : Nat, (subsP l x')[j]? = (q[j]?).bind fun id => S.heap.get id
  | [], q, x, x', h, hl => by
    cases h
    have : q = [] := by simpa [nP] using hl
    subst this
    exact ⟨fun _ _ => rfl, fun _ _ => rfl, fun j => by simp [subsP]⟩
  | .dat _ :: l, q, x, x', h, hl => by
    simp only [fiP] at h
    split at h <;> cases h
    rename_i y h1
    obtain ⟨a1, a2, a3⟩ := fiP_spec l h1 hl
    exact ⟨fun ι n => a1 ι n, fun ρ k => by simp only [argsP, a2], a3⟩
  | .fn f :: l, q, x, x', h, hl => by
    obtain ⟨a1, a2, a3⟩ := fiP_spec l h hl
    exact ⟨fun ι n => a1 ι n, fun ρ k => congrArg (fun q => IV.fn f [] :: q) (a2 ρ k), a3⟩
  | .ref r :: l, q, x, x', h, hl => by
    simp only [fiP] at h
    split at h
    · cases h
    rename_i x1 q1 h1
    split at h <;> cases h
    rename_i y h2
    obtain ⟨a1, p1, rfl, a2, a3⟩ := fiR_spec r h1
    obtain ⟨b1, b2, b3⟩ := fiP_spec l h2 (by simp only [List.length_append, nP] at hl; omega)
    refine ⟨fun ι n => by simp only [rowsP, a1, b1], fun ρ k => by simp only [argsP, b2], fun j => ?_⟩
    exact get_app (by rw [subR_len, a2]) a3 b3 j
end Go.Jx
end

/- Contracts of functions that turn what their pointers lead to, and calls by them. -/
section
set_option linter.unusedVariables false
namespace Go.Jx
open Go Go.Sx Go.RowKit
universe u

structure SmR where
  ps : List PK
  rts : List (Bool × TC)
  f : ElP ps → Option (ElR rts × ElP (refs ps))
def RetB (B : Nat) (T : TW) (E : Env) (S : IS) (r : Res) : Ending → World → Prop := fun e w' => ∃ u E', e = .returned u ∧ E'.w = w' ∧ VR E' r.v u ∧ PostB B T E S E' r.S
def newO (s : SmR) (y : ElR s.rts) (z : ElP (refs s.ps)) : List IObj := subsP (refs s.ps) z ++ resO s.rts y
/-- What is left: the boxes, their slices and maps, the results' slices. -/
def ScB (s : SmR) (y : ElR s.rts) (z : ElP (refs s.ps)) : IS := addO (rowsP (refs s.ps) idN (mP s.ps) z ++ newO s y z) S0
def vB (s : SmR) (base : Nat) (y : ElR s.rts) : IV := tupI (resV s.rts (base + nP (refs s.ps)) y)
structure ConR (P : Program) (f : Nat) (s : SmR) : Prop where
  callable : Callable P f
  calls : ∀ (E : Env) (x : ElP s.ps) (us : List Value) (y : ElR s.rts) (z : ElP (refs s.ps)), s.f x = some (y, z) → Pre T0 E (Sc s.ps x) → VRs E (argsP s.ps idN 0 x) us →
    CallsIn Fence.wide 0 P f us.toArray E.w (RetB (mP s.ps) T0 E (Sc s.ps x) ⟨vB s (mP s.ps) y, ScB s y z, 0, 0⟩)
theorem refs_m : ∀ l : List PK, mP (refs l) = mP l
  | [] => rfl
  | .dat _ :: l => refs_m l
  | .fn _ :: l => refs_m l
  | .ref _ :: l => by simp only [refs, mP, refs_m l]
/-! ### The caller's state -/
def bitsL : List Nat → Nat
  | [] => 0
  | id :: l => 2 ^ id ||| bitsL l
theorem bitsL_mem {T : Nat → Prop} : ∀ {l : List Nat}, tin T (bitsL l) → ∀ id ∈ l, T id
  | [], _, id, h => by cases h
  | i :: l, ht, id, h => by
    obtain ⟨h1, h2⟩ := tin_or ht
    rcases List.mem_cons.1 h with h | h
    · rw [h]; exact tin_bit h1
    · exact bitsL_mem h2 id h
theorem bitsL_bit : ∀ {l : List Nat} {id : Nat}, id ∈ l → (bitsL l).testBit id = true
  | [], id, h => by cases h
  | i :: l, id, h => by
    simp only [bitsL, Nat.testBit_or, Bool.or_eq_true]
    rcases List.mem_cons.1 h with h | h
    · rw [h]; exact .inl (Nat.testBit_two_pow_self)
    · exact .inr (bitsL_bit h)
def killL : List Nat → IS → IS
  | [], S => S
  | id :: l, S => killL l (S.set id .dead)
def setL : List Nat → List IObj → IS → IS
  | id :: l, o :: os, S => setL l os (S.set id o)
  | _, _, S => S
theorem killL_next : ∀ (l : List Nat) (S : IS), (killL l S).next = S.next
  | [], S => rfl
  | id :: l, S => killL_next l _
theorem setL_next : ∀ (l : List Nat) (os : List IObj) (S : IS), (setL l os S).next = S.next
  | [], os, S => rfl
  | _ :: _, [], S => rfl
  | id :: l, o :: os, S => setL_next l os _
theorem killL_out : ∀ {l : List Nat} {S : IS} {k : Nat}, k ∉ l → (killL l S).H k = S.H k
  | [], S, k, h => rfl
  | id :: l, S, k, h => by
    simp only [List.mem_cons, not_or] at h
    unfold killL
    rw [killL_out h.2, IS.H_set, up_ne _ _ h.1]
theorem killL_in : ∀ {l : List Nat} {S : IS} {k : Nat}, k ∈ l → (killL l S).H k = some .dead
  | [], S, k, h => by cases h
  | id :: l, S, k, h => by
    unfold killL
    by_cases hk : k ∈ l
    · exact killL_in hk
    · rw [killL_out hk, IS.H_set]
      rcases List.mem_cons.1 h with h | h
      · rw [h, up_self]
      · exact absurd h hk
theorem setL_out : ∀ {l : List Nat} {os : List IObj} {S : IS} {k : Nat}, k ∉ l → (setL l os S).H k = S.H k
  | [], os, S, k, h => rfl
  | _ :: _, [], S, k, h => rfl
  | id :: l, o :: os, S, k, h => by
    simp only [List.mem_cons, not_or] at h
    unfold setL
    rw [setL_out h.2, IS.H_set, up_ne _ _ h.1]
theorem setL_in : ∀ {l : List Nat} {os : List IObj} {S : IS} {j k : Nat}, l.Nodup → os.length = l.length → l[j]? = some k → (setL l os S).H k = os[j]?
  | [], os, S, j, k, hn, hl, h => by simp at h
  | _ :: _, [], S, j, k, hn, hl, h => by simp at hl
  | id :: l, o :: os, S, j, k, hn, hl, h => by
    obtain ⟨h1, h2⟩ := List.nodup_cons.1 hn
    unfold setL
    cases j with
    | zero =>
      simp only [List.getElem?_cons_zero, Option.some.injEq] at h
      subst h
      rw [setL_out h1, IS.H_set, up_self]; rfl
    | succ j =>
      rw [List.getElem?_cons_succ] at h ⊢
      exact setL_in h2 (by simpa using hl) h
def rowB (S : IS) (id : Nat) : Bool := match S.heap.get id with
  | some (.row _) => true
  | _ => false
theorem rowB_spec {S : IS} {id : Nat} (h : rowB S id = true) : ∃ cs, S.H id = some (.row cs) := by
  unfold rowB at h
  split at h
  · rename_i cs ho; exact ⟨cs, ho⟩
  · cases h
def backS (s : SmR) (n : Nat) (rows subs : List Nat) (y : ElR s.rts) (z : ElP (refs s.ps)) (S : IS) : IS :=
  addO (newO s y z) (setL rows (rowsP (refs s.ps) (fun k => n + (k - mP s.ps)) (mP s.ps) z) (killL subs S))
def exR (s : SmR) (vs : List IV) (S : IS) : Option Res :=
  match rdP s.ps S vs with
  | none => none
  | some (x0, rows, subs, S1, w) => cond (ndB (rows ++ subs) && rows.all (rowB S1)) (match fiP s.ps subs S1 x0 with
    | none => none
    | some x => match s.f x with
      | none => none
      | some (y, z) => some ⟨vB s S1.next y, backS s S1.next rows subs y z S1, 0, (w ||| bitsL (rows ++ subs)) ||| cond (Nat.blt 0 rows.length) 0 (2 ^ S1.next)⟩) none
theorem subsP_dat : ∀ (l : List PK) (x : ElP l) (o : IObj), o ∈ subsP l x → datO o = true := by
  have hr : ∀ (r : List CT) (x : ElRow r) (o : IObj), o ∈ subR r x → datO o = true := by
    intro r
    induction r with
    | nil => intro x o h; cases h
    | cons c cs ih =>
      intro x o h
      rcases List.mem_append.1 h with h | h
      · cases c with
        | dat c => cases h
        | arr c => rw [List.mem_singleton.1 h]; rfl
        | map k v => rw [List.mem_singleton.1 h]; rfl
      · exact ih x.2 o h
  intro l
  induction l with
  | nil => intro x o h; cases h
  | cons p l ih =>
    intro x o h
    cases p with
    | dat c => exact ih x.2 o h
    | fn f => exact ih x o h
    | ref r =>
      rcases List.mem_append.1 h with h | h
      · exact hr r x.1 o h
      · exact ih x.2 o h
theorem newO_dat {s : SmR} {y : ElR s.rts} {z : ElP (refs s.ps)} {o : IObj} (h : o ∈ newO s y z) : datO o = true := by
  rcases List.mem_append.1 h with h | h
  · exact subsP_dat _ _ o h
  · obtain ⟨c, l, rfl⟩ := resO_live _ _ _ h; rfl
theorem resV_env {E E' : Env} (hm : ∀ b, b ∈ E'.m → b ∈ E.m) (hw : E'.w = E.w) : ∀ (cs : List (Bool × TC)) {k k' : Nat} {y : ElR cs} {us : List Value}, (∀ j, NumTo E E' (k + j) (k' + j)) → VRs E (resV cs k y) us → VRs E' (resV cs k' y) us
  | [], k, k', y, us, hn, h => by have := h.1; cases us with | nil => exact VRs.nil | cons _ _ => simp [resV] at this
  | (true, c) :: cs, k, k', y, us, hn, h => by
    obtain ⟨u, us, rfl, a1, a2⟩ := VRs.inv (v := .arr k) (cs := resV cs (k + 1) y.2) h
    refine VRs.cons ?_ (resV_env hm hw cs (fun j => ?_) a2)
    · cases a1 with
      | arr hA hh =>
        obtain ⟨b1, b2, b3, b4, b5⟩ := hn 0 hA
        exact .arr b1 (b4.trans hh)
    · have := hn (j + 1)
      rwa [show k + (j + 1) = k + 1 + j by omega, show k' + (j + 1) = k' + 1 + j by omega] at this
  | (false, c) :: cs, k, k', y, us, hn, h => by
    obtain ⟨u, us, rfl, a1, a2⟩ := VRs.inv (v := asIV c y.1) (cs := resV cs k y.2) h
    exact VRs.cons (as_env hm hw a1) (resV_env hm hw cs hn a2)
theorem resV_len : ∀ (cs : List (Bool × TC)) (i : Nat) (y : ElR cs), (resV cs i y).length = cs.length
  | [], _, _ => rfl
  | (true, _) :: cs, i, y => by simp only [resV, List.length_cons, resV_len cs]
  | (false, _) :: cs, i, y => by simp only [resV, List.length_cons, resV_len cs]
/-- Values of a tuple, one by one. -/
theorem tup_to {E E' : Env} {vs ws : List IV} {u : Value} (h : ∀ us, VRs E vs us → VRs E' ws us) (hl : vs.length = ws.length) (hu : VR E (tupI vs) u) : VR E' (tupI ws) u := by
  match vs, ws, hl with
  | [], [], _ =>
    cases hu with
    | tup hl hh => have := h _ ⟨hl, hh⟩; exact .tup this.1 this.2
  | [v], [w], _ =>
    have := h [u] (VRs.cons hu VRs.nil)
    exact this.2 0 (by simp) (by simp)
  | v1 :: v2 :: vs, w1 :: w2 :: ws, _ =>
    cases hu with
    | tup hl hh => have := h _ ⟨hl, hh⟩; exact .tup this.1 this.2
section
variable {P : Program} {T : TW} {E : Env} {S : IS}
theorem exR_sound {f : Nat} {s : SmR} (hc : ConR P f s) {vs : List IV} {r : Res} (h : exR s vs S = some r) {us : List Value} (p : Pre T E S) (hwr : tin T.w r.wr) (hv : VRs E vs us) :
    Callable P f ∧ CallsIn Fence.wide 0 P f us.toArray E.w (RetE T E S r) := by
  refine ⟨hc.callable, ?_⟩
  unfold exR at h
  split at h
  · cases h
  rename_i x0 rows subs S1 w hrd
  cases hb : (ndB (rows ++ subs) && rows.all (rowB S1)) with
  | false => rw [hb] at h; cases h
  | true =>
  rw [hb, cond_true] at h
  simp only [Bool.and_eq_true] at hb
  obtain ⟨hb1, hb2⟩ := hb
  split at h
  · cases h
  rename_i x hfi
  split at h
  · cases h
  rename_i y z hf
  cases h
  obtain ⟨g1, g2⟩ := tin_or (tin_or hwr).1
  obtain ⟨E1, e1, q1, f1, l1, l2, A2, b2, b3⟩ := rdP_sound s.ps hrd p g1 hv
  have p1 := q1.pre p
  obtain ⟨c1, c2, c3⟩ := fiP_spec s.ps hfi l2
  have hnd := ndB_nodup hb1
  have hT := bitsL_mem g2
  generalize hq : rows ++ subs = q at hnd hT
  have hql : q.length = mP s.ps + nP s.ps := by rw [← hq, List.length_append, l1, l2]
  have hnq : Nums (ol 0 q) 0 q := fun j id hj => by
    rw [Nat.zero_add]
    unfold ol; rw [if_neg (by omega), Nat.sub_zero, List.getD_eq_getElem?_getD, hj]; rfl
  have hnr : Nums (ol 0 q) 0 rows := by rw [← hq] at hnq ⊢; exact hnq.fst
  have hns : Nums (ol 0 q) (mP s.ps) subs := by
    have := hnq
    rw [← hq] at this
    have := this.snd
    rwa [Nat.zero_add, l1, hq] at this
  have hrows := b3 _ _ hns
  rw [← c1] at hrows
  have hrk : ∀ k, k < mP s.ps → rows[k]? = some (ol 0 q k) := fun k hk => by
    have h1 : k < rows.length := by omega
    rw [List.getElem?_eq_getElem h1, ← hnr k _ (List.getElem?_eq_getElem h1), Nat.zero_add]
  have hsk : ∀ k, mP s.ps ≤ k → k < q.length → subs[k - mP s.ps]? = some (ol 0 q k) := fun k h1 h2 => by
    have h3 : k - mP s.ps < subs.length := by omega
    rw [List.getElem?_eq_getElem h3, ← hns _ _ (List.getElem?_eq_getElem h3), Nat.add_sub_cancel' h1]
  have hrowA : ∀ k, k < mP s.ps → ∃ r nj xj, (∀ ι, (rowsP s.ps ι (mP s.ps) x)[k]? = some (.row (cellR r ι nj xj))) ∧ mP s.ps ≤ nj ∧ nj + nR r ≤ q.length ∧ E1.A (ol 0 q k) ∧ E1.hb (ol 0 q k) = true ∧ OR E1 (ol 0 q k) (.row (cellR r (ol 0 q) nj xj)) := fun k hk => by
    have h1 : k < (rowsP s.ps (ol 0 q) (mP s.ps) x).length := by rw [rowsP_len]; exact hk
    obtain ⟨r, nj, xj, d1, d2, d3, d4⟩ := rowsP_get s.ps (ol 0 q) (mP s.ps) x k _ (List.getElem?_eq_getElem h1)
    obtain ⟨id, i1, i2, i3, i4⟩ := hrows k _ (d4 (ol 0 q))
    rw [hrk k hk] at i1
    cases i1
    exact ⟨r, nj, xj, d4, d2, by omega, i2, i3, i4⟩
  have hA : ∀ id ∈ q, E1.A id := fun id hid => by
    rw [← hq] at hid
    rcases List.mem_append.1 hid with hid | hid
    · obtain ⟨k, hk, rfl⟩ := List.mem_iff_getElem.1 hid
      obtain ⟨_, _, _, _, _, _, i2, _, _⟩ := hrowA k (by omega)
      have := hrk k (by omega)
      rw [List.getElem?_eq_getElem hk, Option.some.injEq] at this
      rw [this]; exact i2
    · exact A2 id hid
  have hrl : ∀ k, k < mP s.ps → ∃ cs, S1.H (ol 0 q k) = some (.row cs) := fun k hk => by
    have := hrk k hk
    exact rowB_spec ((List.all_eq_true.1 hb2) _ (List.mem_of_getElem? this))
  have hnum : ∀ k, k < q.length → NumTo E1 (renE 0 q E1) (ol 0 q k) k := fun k hk hA => ⟨⟨by omega, hA⟩, rfl, rfl, rfl, rfl⟩
  have hobj : ∀ k o, k < q.length → E1.A (ol 0 q k) → (Sc s.ps x).H k = some o → ObjTo E1 S1 (renE 0 q E1) (ol 0 q k) k o := fun k o hk hAk ho => by
    unfold Sc at ho
    rw [addO_H0] at ho
    by_cases hkm : k < mP s.ps
    · rw [List.getElem?_append_left (by rw [rowsP_len]; exact hkm)] at ho
      obtain ⟨r, nj, xj, d1, d2, d3, d4, d5, d6⟩ := hrowA k hkm
      rw [d1 idN] at ho
      cases ho
      obtain ⟨cs, hcs⟩ := hrl k hkm
      exact ⟨OR.row_to (E := E1) (E' := renE 0 q E1) (fun _ h => h) rfl hAk (hnum k hk) (fun j a b => hnum j (by omega)) d6, fun _ => ⟨_, hcs, rfl⟩, fun _ => d5⟩
    · rw [List.getElem?_append_right (by rw [rowsP_len]; omega), rowsP_len] at ho
      have hd := subsP_dat _ _ _ (List.mem_of_getElem? ho)
      rw [c3, hsk k (by omega) hk] at ho
      have hid := (ol_mem hk).1
      exact ⟨OR.dat_to (E := E1) (E' := renE 0 q E1) (fun _ h => h) rfl hAk (hnum k hk) hd (p1.st.objs _ (T.sub _ (hT _ hid)) hAk _ ho), fun hl => ⟨_, ho, hl⟩, fun hbk => p1.st.blk _ (T.sub _ (hT _ hid)) hAk _ ho hbk⟩
  have hpre : Pre T0 (renE 0 q E1) (Sc s.ps x) := Pre.re p1 hnd (fun id h => T.sub _ (hT id h)) (by rw [Sc_next, hql]) hobj
  have hargs : VRs (renE 0 q E1) (argsP s.ps idN 0 x) us := argsP_env (E := E1) (E' := renE 0 q E1) (ρ := ol 0 q) (fun _ h => h) rfl s.ps (fun j a b => hnum j (by omega)) (by rw [c2]; exact b2 _ _ hnr)
  have hcall := hc.calls _ x us y z hf hpre hargs
  rw [show (renE 0 q E1).w = E.w from e1] at hcall
  refine hcall.mono fun e w' hR => ?_
  obtain ⟨u, Er, rfl, rfl, k1, k2⟩ := hR
  have hlt : ∀ id, id ∈ q → id < S1.next := fun id h => p1.bnd id (hA id h)
  have hsb : ∀ k, k < q.length → Live (renE 0 q E1) (Sc s.ps x).H k → Live E1 S1.H (ol 0 q k) := fun k hk ⟨h0, o, h1, h2⟩ => ⟨h0, (hobj k o hk (hA _ (ol_mem hk).1) h1).live h2⟩
  have hbn : (setL rows (rowsP (refs s.ps) (fun k => S1.next + (k - mP s.ps)) (mP s.ps) z) (killL subs S1)).next = S1.next := by rw [setL_next, killL_next]
  have hndr : rows.Nodup := by rw [← hq] at hnd; exact (List.nodup_append.1 hnd).1
  have hrs : ∀ id, id ∈ rows → id ∉ subs := fun id h1 h2 => by
    rw [← hq] at hnd; exact (List.nodup_append.1 hnd).2.2 id h1 id h2 rfl
  have hScB : ∀ k, (ScB s y z).H k = (rowsP (refs s.ps) idN (mP s.ps) z ++ newO s y z)[k]? := fun k => addO_H0 _ k
  have hEA : ∀ k, k < mP s.ps → Er.A k ∧ Er.ρ k = E1.ρ (ol 0 q k) ∧ Er.κ k = E1.κ (ol 0 q k) ∧ Er.hd k = E1.hd (ol 0 q k) ∧ Er.hb k = E1.hb (ol 0 q k) := fun k hk => by
    obtain ⟨a1, a2, a3, a4, a5⟩ := k2.alw k hk ⟨by omega, hA _ (ol_mem (by omega)).1⟩
    exact ⟨a1, a2, a3, a4, a5⟩
  obtain ⟨m1, m2⟩ := merge_back (n := S1.next) (m := mP s.ps) (S' := backS s S1.next rows subs y z S1) p1 hnd hT hA (by omega) rfl hsb k2 (by
      unfold backS ScB
      rw [addO_next, addO_next, hbn, List.length_append, rowsP_len, refs_m]
      have : S0.next = 0 := rfl
      omega) (fun id hid hnq => by
      unfold backS
      rw [addO_H, hbn, if_pos hid, setL_out (fun h => hnq (by rw [← hq]; exact List.mem_append_left _ h)), killL_out (fun h => hnq (by rw [← hq]; exact List.mem_append_right _ h))]) (fun k o hk ho => by
      unfold backS at ho
      have hin := (ol_mem (q := q) (k := k) (by omega)).1
      rw [addO_H, hbn, if_pos (hlt _ hin), setL_in hndr (by rw [rowsP_len, refs_m, l1]) (hrk k hk)] at ho
      obtain ⟨r, nj, xj, rfl, d2, d3, d4⟩ := rowsP_get _ _ _ _ _ _ ho
      have hsr : (ScB s y z).H k = some (.row (cellR r idN nj xj)) := by
        rw [hScB, List.getElem?_append_left (by rw [rowsP_len, refs_m]; exact hk)]; exact d4 idN
      obtain ⟨a1, a2, a3, a4, a5⟩ := hEA k hk
      obtain ⟨o1, o2, o3, o4⟩ := mrgR_old (E := E1) (Er := Er) (n := S1.next) (m := mP s.ps) (hlt _ hin)
      obtain ⟨_, _, _, _, _, _, i2, i3, _⟩ := hrowA k hk
      exact ⟨OR.row_to (E := Er) (E' := mrgR E1 Er S1.next (mP s.ps)) (fun _ h => h) rfl a1 (fun _ => ⟨.inl ⟨hlt _ hin, i2⟩, o1.trans a2.symm, o2.trans a3.symm, o3.trans a4.symm, o4.trans a5.symm⟩) (fun j a b hAj => by
        obtain ⟨r1, r2, r3, r4, r5⟩ := mrgR_new (E := E1) (Er := Er) (n := S1.next) (m := mP s.ps) (k := j) (by omega)
        exact ⟨r5 hAj, r1, r2, r3, r4⟩) (k2.st.objs k trivial a1 _ hsr), fun _ => ⟨_, hsr, rfl⟩, fun _ => o4.trans i3⟩) (fun k o h1 h2 ho => by
      unfold backS at ho
      have hin := (ol_mem (q := q) (k := k) h2).1
      have hin2 := List.mem_of_getElem? (hsk k h1 h2)
      rw [addO_H, hbn, if_pos (hlt _ hin), setL_out (fun h => hrs _ h hin2), killL_in hin2] at ho
      cases ho; rfl) (fun k o h1 hAk ho => by
      unfold backS at ho
      have hkb := k2.bnd k hAk
      unfold ScB at hkb
      rw [addO_next, List.length_append, rowsP_len, refs_m] at hkb
      have e0 : S0.next = 0 := rfl
      rw [addO_H, hbn, if_neg (by omega), if_pos (by omega), Nat.add_sub_cancel_left] at ho
      have hd := newO_dat (List.mem_of_getElem? ho)
      have hsr : (ScB s y z).H k = some o := by
        rw [hScB, List.getElem?_append_right (by rw [rowsP_len, refs_m]; exact h1), rowsP_len, refs_m]; exact ho
      obtain ⟨r1, r2, r3, r4, r5⟩ := mrgR_new (E := E1) (Er := Er) (n := S1.next) (m := mP s.ps) (k := k) h1
      exact ⟨OR.dat_to (E := Er) (E' := mrgR E1 Er S1.next (mP s.ps)) (fun _ h => h) rfl hAk (fun hA => ⟨r5 hA, r1, r2, r3, r4⟩) hd (k2.st.objs k trivial hAk _ hsr), fun hl => ⟨_, hsr, hl⟩, fun hbk => r4.trans (k2.st.blk k trivial hAk _ hsr hbk)⟩)
  refine ⟨u, mrgR E1 Er S1.next (mP s.ps), rfl, rfl, ?_, Post.trans p q1 f1 m1, f1.trans m2 q1.le⟩
  refine tup_to (E := Er) (E' := mrgR E1 Er S1.next (mP s.ps)) (fun us h => resV_env (E := Er) (E' := mrgR E1 Er S1.next (mP s.ps)) (fun _ h => h) rfl s.rts (fun j hAj => ?_) h) (by rw [resV_len, resV_len]) k1
  obtain ⟨r1, r2, r3, r4, r5⟩ := mrgR_new (E := E1) (Er := Er) (n := S1.next) (m := mP s.ps) (k := mP s.ps + nP (refs s.ps) + j) (by omega)
  have e : S1.next + (mP s.ps + nP (refs s.ps) + j - mP s.ps) = S1.next + nP (refs s.ps) + j := by omega
  rw [e] at r1 r2 r3 r4 r5
  exact ⟨r5 hAj, r1, r2, r3, r4⟩
end
end Go.Jx
end

/- Contracts with boxes: as calls known otherwise, and out of runs. -/
section
set_option linter.unusedVariables false
namespace Go.Jx
open Go Go.Sx Go.RowKit
universe u

/-! ### As a call known otherwise -/
def exRK {R : Type} (s : SmR) (vs : List IV) (S : IS) (kk : Res → Option R) : Option R :=
  match rdP s.ps S vs with
  | none => none
  | some (x0, rows, subs, S1, w) => cond (ndB (rows ++ subs) && rows.all (rowB S1)) (match fiP s.ps subs S1 x0 with
    | none => none
    | some x => match s.f x with
      | none => none
      | some (y, z) => kk ⟨vB s S1.next y, backS s S1.next rows subs y z S1, 0, (w ||| bitsL (rows ++ subs)) ||| cond (Nat.blt 0 rows.length) 0 (2 ^ S1.next)⟩) none
theorem exRK_eq {R : Type} (s : SmR) (vs : List IV) (S : IS) (kk : Res → Option R) : exRK s vs S kk = ob (exR s vs S) kk := by
  simp only [exRK, exR]
  cases rdP s.ps S vs with
  | none => rfl
  | some q =>
    obtain ⟨x0, rows, subs, S1, w⟩ := q
    simp only [ob_cond]
    cases fiP s.ps subs S1 x0 with
    | none => rfl
    | some x =>
      simp only
      cases s.f x with
      | none => rfl
      | some q => rfl
def hxR (s : SmR) : Hx := ⟨fun _ vs S => exR s vs S, fun _ _ vs S kk => exRK s vs S kk, fun _ _ _ _ vs S kk => exRK_eq s vs S kk⟩
theorem rdC_fr {S S' : IS} : ∀ (c : CT) {cs : List IV} {x : ElC c} {ids : List Nat} {r : List IV} {w : Nat}, rdC c S cs = some (x, ids, r, S', w) → FrX S S' w
  | .dat c, cs, x, ids, r, w, h => by
    simp only [rdC] at h
    split at h <;> cases h
    rename_i h1
    obtain ⟨a1, a2⟩ := icl_fr c _ _ _ _ _ _ h1
    exact ⟨Nat.le_of_eq a1.symm, fun id _ hb => a2 id hb⟩
  | .arr c, cs, x, ids, r, w, h => by
    cases cs with
    | nil => cases h
    | cons v cs =>
    simp only [rdC] at h
    split at h <;> cases h
    rename_i h1
    exact coeV_fr h1
  | .map k v, cs, x, ids, r, w, h => by
    cases cs with
    | nil => cases h
    | cons u cs =>
    cases u <;> try (cases h; done)
    simp only [rdC] at h
    split at h <;> cases h
    rename_i h1
    exact coeM1_fr h1
theorem rdR_fr : ∀ (c : List CT) {S S' : IS} {cs : List IV} {x : ElRow c} {ids : List Nat} {r : List IV} {w : Nat}, rdR c S cs = some (x, ids, r, S', w) → FrX S S' w
  | [], S, S', cs, x, ids, r, w, h => by cases h; exact FrX.refl _ _
  | c :: l, S, S', cs, x, ids, r, w, h => by
    simp only [rdR] at h
    split at h
    · cases h
    rename_i h1
    split at h <;> cases h
    rename_i h2
    exact (rdC_fr c h1).trans (rdR_fr l h2)
theorem rdP_fr : ∀ (l : List PK) {S S' : IS} {vs : List IV} {x : ElP l} {q1 q2 : List Nat} {w : Nat}, rdP l S vs = some (x, q1, q2, S', w) → FrX S S' w
  | [], S, S', vs, x, q1, q2, w, h => by
    cases vs with
    | cons v vs => cases h
    | nil => cases h; exact FrX.refl _ _
  | .dat c :: l, S, S', vs, x, q1, q2, w, h => by
    cases vs with
    | nil => cases h
    | cons v vs =>
    simp only [rdP] at h
    cases hb : fitV c v with
    | false => rw [hb] at h; cases h
    | true =>
    rw [hb, cond_true] at h
    split at h <;> try cases h
    rename_i h1
    split at h <;> cases h
    rename_i h2
    obtain ⟨a1, a2⟩ := icl_fr c _ _ _ _ _ _ h1
    exact FrX.trans ⟨Nat.le_of_eq a1.symm, fun id _ hb => a2 id hb⟩ (rdP_fr l h2)
  | .fn f :: l, S, S', vs, x, q1, q2, w, h => by
    simp only [rdP] at h
    split at h <;> try cases h
    rename_i g vs
    cases hb : Nat.beq g f with
    | false => rw [hb] at h; cases h
    | true =>
    rw [hb] at h
    have h : rdP l S vs = some (x, q1, q2, S', w) := h
    exact rdP_fr l h
  | .ref r :: l, S, S', vs, x, q1, q2, w, h => by
    cases vs with
    | nil => cases h
    | cons v vs =>
    cases v <;> try (cases h; done)
    rename_i id off
    cases off with
    | succ _ => cases h
    | zero =>
    simp only [rdP] at h
    split at h <;> try cases h
    split at h <;> try cases h
    rename_i h1
    split at h <;> cases h
    rename_i h2
    have := (FrX.refl S (2 ^ id)).trans ((rdR_fr r h1).trans (rdP_fr l h2))
    exact this
theorem killL_fr : ∀ (l : List Nat) (S : IS), FrX S (killL l S) (bitsL l)
  | [], S => FrX.refl _ _
  | id :: l, S => (FrX.set S id .dead).trans (killL_fr l _)
theorem setL_fr : ∀ (l : List Nat) (os : List IObj) (S : IS), FrX S (setL l os S) (bitsL l)
  | [], os, S => FrX.refl _ _
  | _ :: _, [], S => FrX.refl _ _
  | id :: l, o :: os, S => (FrX.set S id o).trans (setL_fr l os _)
theorem bitsL_app : ∀ (a b : List Nat), bitsL (a ++ b) = bitsL a ||| bitsL b
  | [], b => by simp [bitsL]
  | x :: a, b => by simp only [List.cons_append, bitsL, bitsL_app a, Nat.or_assoc]
theorem exR_fr {s : SmR} {vs : List IV} {S : IS} : FrO S (exR s vs S) := fun r h => by
  unfold exR at h
  split at h
  · cases h
  rename_i x0 rows subs S1 w hrd
  cases hb : (ndB (rows ++ subs) && rows.all (rowB S1)) with
  | false => rw [hb] at h; cases h
  | true =>
  rw [hb, cond_true] at h
  split at h
  · cases h
  split at h
  · cases h
  rename_i y z hf
  cases h
  have h1 := rdP_fr _ hrd
  have h2 := (killL_fr subs S1).trans ((setL_fr rows (rowsP (refs s.ps) (fun k => S1.next + (k - mP s.ps)) (mP s.ps) z) _).trans (addO_fr (newO s y z) _ 0))
  have h3 := h1.trans h2
  rw [Nat.or_zero, Nat.or_comm (bitsL subs), ← bitsL_app] at h3
  have h4 := h3.trans (FrX.refl _ (cond (Nat.blt 0 rows.length) 0 (2 ^ S1.next)))
  exact h4
theorem exR_calm {s : SmR} {vs : List IV} {S : IS} {r : Res} (h : exR s vs S = some r) (hw : r.wr = 0) : False := by
  unfold exR at h
  split at h
  · cases h
  rename_i x0 rows subs S1 w hrd
  cases hb : (ndB (rows ++ subs) && rows.all (rowB S1)) with
  | false => rw [hb] at h; cases h
  | true =>
  rw [hb, cond_true] at h
  split at h
  · cases h
  split at h
  · cases h
  cases h
  have h2 : bitsL (rows ++ subs) = 0 := (or_zero (or_zero hw).1).2
  cases rows with
  | nil =>
    have h3 : 2 ^ S1.next = 0 := (or_zero hw).2
    have := Nat.one_le_two_pow (n := S1.next)
    omega
  | cons id rows =>
    have := bitsL_bit (l := id :: rows ++ subs) (id := id) (by simp)
    rw [h2] at this; simp at this
theorem hxR_ok {P : Program} {f : Nat} {s : SmR} (hc : ConR P f s) : HxOK P f (hxR s).f :=
  ⟨fun cl _ _ _ vs S r h T E us p _ hw hv => exR_sound hc h p hw hv, fun cl _ vs S => exR_fr, fun cl _ vs S r h hw _ => (exR_calm h hw).elim⟩

/-! ### What a run leaves -/
def ptrN : Nat → Nat → List IV
  | 0, _ => []
  | m + 1, k => .ptr k 0 :: ptrN m (k + 1)
theorem rdP_ptr : ∀ (l : List PK) {k : Nat} {S S' : IS} {x : ElP (refs l)} {q1 q2 : List Nat} {w : Nat}, rdP (refs l) S (ptrN (mP l) k) = some (x, q1, q2, S', w) → ∀ j, j < mP l → q1[j]? = some (k + j)
  | [], k, S, S', x, q1, q2, w, h, j, hj => by simp [mP] at hj
  | .dat _ :: l, k, S, S', x, q1, q2, w, h, j, hj => rdP_ptr l h j hj
  | .fn _ :: l, k, S, S', x, q1, q2, w, h, j, hj => rdP_ptr l h j hj
  | .ref r :: l, k, S, S', x, q1, q2, w, h, j, hj => by
    simp only [refs, mP, ptrN, rdP] at h
    split at h <;> try cases h
    split at h <;> try cases h
    split at h <;> cases h
    rename_i h2
    cases j with
    | zero => rfl
    | succ j =>
      have := rdP_ptr l h2 j (by simp only [mP] at hj; omega)
      rw [List.getElem?_cons_succ, this]; congr 1; omega
def allB (p : Nat → Bool) : Nat → Bool
  | 0 => true
  | m + 1 => p m && allB p m
theorem allB_spec {p : Nat → Bool} : ∀ {m : Nat}, allB p m = true → ∀ k, k < m → p k = true
  | 0, _, k, h => absurd h (Nat.not_lt_zero k)
  | m + 1, h, k, hk => by
    simp only [allB, Bool.and_eq_true] at h
    rcases Nat.lt_or_ge k m with h' | h'
    · exact allB_spec h.2 k h'
    · rw [show k = m by omega]; exact h.1
def runQ (s : SmR) (r : Res) : Option (ElR s.rts × ElP (refs s.ps)) :=
  match untup s.rts.length r.v with
  | none => none
  | some vs => match clR s.rts r.S vs with
    | none => none
    | some (a, S2, _) => match rdP (refs s.ps) S2 (ptrN (mP s.ps) 0) with
      | none => none
      | some (b, _, subs, S3, _) => cond (ndB (subs ++ idsQ s.rts a) && (subs ++ idsQ s.rts a).all (Nat.ble (mP s.ps)) && allB (rowB S3) (mP s.ps)) (match fillR s.rts a S3 with
        | none => none
        | some y => match fiP (refs s.ps) subs S3 b with
          | none => none
          | some z => some (y, z)) none
theorem valQ_env {E E' : Env} (hm : ∀ b, b ∈ E'.m → b ∈ E.m) (hw : E'.w = E.w) : ∀ (cs : List (Bool × TC)) {a : ElQ cs} {S : IS} {y : ElR cs} {k : Nat} {us : List Value}, fillR cs a S = some y → (∀ (j id : Nat), (idsQ cs a)[j]? = some id → NumTo E E' id (k + j)) → VRs E (valQ cs a) us → VRs E' (resV cs k y) us
  | [], a, S, y, k, us, h, hn, hv => by have := hv.1; cases us with | nil => exact VRs.nil | cons _ _ => simp [valQ] at this
  | (true, c) :: cs, a, S, y, k, us, h, hn, hv => by
    obtain ⟨u, us, rfl, a1, a2⟩ := VRs.inv (v := .arr a.1) (cs := valQ cs a.2) hv
    simp only [fillR] at h
    split at h <;> try cases h
    split at h <;> try cases h
    split at h <;> cases h
    rename_i y' hy
    refine VRs.cons ?_ (valQ_env hm hw cs hy (fun j id hj => ?_) a2)
    · cases a1 with
      | arr hA hh =>
        obtain ⟨b1, b2, b3, b4, b5⟩ := hn 0 a.1 rfl hA
        exact .arr b1 (b4.trans hh)
    · have := hn (j + 1) id (by simp only [idsQ, List.getElem?_cons_succ]; exact hj)
      rwa [show k + (j + 1) = k + 1 + j by omega] at this
  | (false, c) :: cs, a, S, y, k, us, h, hn, hv => by
    obtain ⟨u, us, rfl, a1, a2⟩ := VRs.inv (v := asIV c a.1) (cs := valQ cs a.2) hv
    simp only [fillR] at h
    split at h <;> cases h
    rename_i y' hy
    exact VRs.cons (as_env hm hw a1) (valQ_env hm hw cs hy hn a2)
theorem untup_spec {n : Nat} {v : IV} {vs : List IV} {E : Env} {u : Value} (h : untup n v = some vs) (hv : VR E v u) : ∃ us : List Value, VRs E vs us ∧ ∀ (E' : Env) (ws : List IV), ws.length = n → VRs E' ws us → VR E' (tupI ws) u := by
  unfold untup at h
  cases hone : Nat.beq n 1 with
  | true =>
    rw [hone, cond_true] at h; cases h
    have hlen := Nat.eq_of_beq_eq_true hone
    exact ⟨[u], VRs.cons hv VRs.nil, fun E' ws hl hw => by
      rw [hlen] at hl
      match ws, hl with
      | [a], _ => exact hw.2 0 (by simp) (by simp)⟩
  | false =>
    rw [hone, cond_false] at h
    split at h <;> try cases h
    rename_i ws0
    cases hb : Nat.beq ws0.length n with
    | false => rw [hb] at h; cases h
    | true =>
    rw [hb, cond_true] at h; cases h
    cases hv with
    | tup hl hh =>
    refine ⟨_, ⟨hl, hh⟩, fun E' ws hl' hw => ?_⟩
    match ws, hl' with
    | [], _ => exact .tup hw.1 hw.2
    | [a], hl' => rw [← hl'] at hone; cases hone
    | a :: b :: ws, _ => exact .tup hw.1 hw.2
theorem runQ_sound {s : SmR} {r : Res} {x : ElP s.ps} {y : ElR s.rts} {z : ElP (refs s.ps)} {E E1 : Env} {us : List Value} {u : Value} (h : runQ s r = some (y, z)) (p0 : Pre T0 E (Sc s.ps x)) (hargs : VRs E (argsP s.ps idN 0 x) us)
    (hpb : PostB (mP s.ps) T0 E (Sc s.ps x) E1 r.S) (hv : VR E1 r.v u) : ∃ E', E'.w = E1.w ∧ VR E' (vB s (mP s.ps) y) u ∧ PostB (mP s.ps) T0 E (Sc s.ps x) E' (ScB s y z) := by
  have hT : ∀ id, mP s.ps ≤ id → T0.w id := fun _ _ => trivial
  have p1 := hpb.pre hT
  unfold runQ at h
  split at h
  · cases h
  rename_i vs hvs
  split at h
  · cases h
  rename_i a S2 w2 ha
  split at h
  · cases h
  rename_i b rows subs S3 w3 hb
  cases hc : (ndB (subs ++ idsQ s.rts a) && (subs ++ idsQ s.rts a).all (Nat.ble (mP s.ps)) && allB (rowB S3) (mP s.ps)) with
  | false => rw [hc] at h; cases h
  | true =>
  rw [hc, cond_true] at h
  simp only [Bool.and_eq_true] at hc
  obtain ⟨⟨hc1, hc2⟩, hc3⟩ := hc
  split at h
  · cases h
  rename_i y' hy
  split at h <;> cases h
  rename_i hz
  obtain ⟨us1, hus, hfin⟩ := untup_spec hvs hv
  obtain ⟨E2, e2, q2, f2, hv2⟩ := clR_sound s.rts ha p1 (fun _ _ => trivial) hus
  have p2 := q2.pre p1
  -- the pointers
  have hA0 : ∀ k, k < mP s.ps → E.A k := by
    have key : ∀ (l : List PK) (k : Nat) (x : ElP l) (us : List Value), VRs E (argsP l idN k x) us → ∀ j, j < mP l → E.A (k + j) := by
      intro l
      induction l with
      | nil => intro k x us _ j hj; simp [mP] at hj
      | cons pk l ih =>
        intro k x us hv j hj
        cases pk with
        | dat c =>
          obtain ⟨u, us, rfl, a1, a2⟩ := VRs.inv (v := asIV c x.1) (cs := argsP l idN k x.2) hv
          exact ih k x.2 us a2 j hj
        | fn f =>
          obtain ⟨u, us, rfl, a1, a2⟩ := VRs.inv (v := .fn f []) (cs := argsP l idN k x) hv
          exact ih k x us a2 j hj
        | ref r =>
          obtain ⟨u, us, rfl, a1, a2⟩ := VRs.inv (v := .ptr (idN k) 0) (cs := argsP l idN (k + 1) x.2) hv
          cases j with
          | zero => cases a1; assumption
          | succ j =>
            have := ih (k + 1) x.2 us a2 j (by simp only [mP] at hj; omega)
            rwa [show k + (j + 1) = k + 1 + j by omega]
    intro k hk
    have := key s.ps 0 x us hargs k hk
    rwa [Nat.zero_add] at this
  have hptr : ∃ us', VRs E2 (ptrN (mP s.ps) 0) us' := by
    have key : ∀ (m k : Nat), (∀ j, j < m → E2.A (k + j)) → ∃ us', VRs E2 (ptrN m k) us' := by
      intro m
      induction m with
      | zero => intro k _; exact ⟨[], VRs.nil⟩
      | succ m ih =>
        intro k hk
        obtain ⟨us', h'⟩ := ih (k + 1) fun j hj => by
          have := hk (j + 1) (by omega)
          rwa [show k + (j + 1) = k + 1 + j by omega] at this
        exact ⟨_ :: us', VRs.cons (.ptr (hk 0 (by omega))) h'⟩
    refine key _ 0 fun j hj => ?_
    rw [Nat.zero_add]
    exact ((q2.env p1).alw _ (hpb.alw j hj (hA0 j hj)).1).1
  obtain ⟨us', hptr⟩ := hptr
  obtain ⟨E3, e3, q3, f3, l1, l2, A3, b2, b3⟩ := rdP_sound (refs s.ps) hb p2 (fun _ _ => trivial) hptr
  have p3 := q3.pre p2
  obtain ⟨c1, c2, c3⟩ := fiP_spec (refs s.ps) hz l2
  obtain ⟨g1, g2⟩ := fillR_spec s.rts hy
  have hnd := ndB_nodup hc1
  have hqB : ∀ id ∈ subs ++ idsQ s.rts a, mP s.ps ≤ id := fun id hi => Nat.le_of_ble_eq_true ((List.all_eq_true.1 hc2) id hi)
  have hnew : ∀ j : Nat, (newO s y z)[j]? = ((subs ++ idsQ s.rts a)[j]?).bind fun id => S3.heap.get id := get_app (by rw [subsP_len, l2]) c3 g2
  have hlen : (newO s y z).length = (subs ++ idsQ s.rts a).length := by
    unfold newO; rw [List.length_append, List.length_append, subsP_len, l2, g1]
  generalize hq : subs ++ idsQ s.rts a = q at hnd hqB hnew hlen
  have hlow : ∀ k, k < mP s.ps → ol (mP s.ps) q k = k := fun k hk => if_pos hk
  have hhigh : ∀ k, mP s.ps ≤ k → k < mP s.ps + q.length → q[k - mP s.ps]? = some (ol (mP s.ps) q k) := fun k h1 h2 => by
    have h3 : k - mP s.ps < q.length := by omega
    unfold ol; rw [if_neg (by omega), List.getD_eq_getElem?_getD, List.getElem?_eq_getElem h3]; rfl
  have hnum : ∀ k, k < mP s.ps + q.length → NumTo E3 (renE (mP s.ps) q E3) (ol (mP s.ps) q k) k := fun k hk hA => ⟨⟨hk, hA⟩, rfl, rfl, rfl, rfl⟩
  have hns : Nums (ol (mP s.ps) q) (mP s.ps) subs := fun j id hj => by
    have h1 : j < subs.length := (List.getElem?_eq_some_iff.1 hj).1
    have h2 := hhigh (mP s.ps + j) (by omega) (by rw [← hq, List.length_append]; omega)
    rw [Nat.add_sub_cancel_left, ← hq, List.getElem?_append_left h1, hj, hq] at h2
    exact (Option.some.inj h2).symm
  have hrows := b3 _ _ hns
  rw [← c1] at hrows
  have hScB : ∀ k, (ScB s y z).H k = (rowsP (refs s.ps) idN (mP s.ps) z ++ newO s y z)[k]? := fun k => addO_H0 _ k
  have hsl : nP (refs s.ps) ≤ q.length := by rw [← hq, List.length_append, l2]; omega
  have hre := PostB.re (T := T0) (B := mP s.ps) (q := q) (S' := ScB s y z) p3 hT hnd hqB (by
      unfold ScB
      rw [addO_next, List.length_append, rowsP_len, refs_m, hlen]
      have : S0.next = 0 := rfl
      omega) (fun k o hk hAk ho => by
      rw [hScB] at ho
      by_cases hkm : k < mP s.ps
      · rw [List.getElem?_append_left (by rw [rowsP_len, refs_m]; exact hkm)] at ho
        obtain ⟨r', nj, xj, rfl, d2, d3, d4⟩ := rowsP_get _ _ _ _ _ _ ho
        obtain ⟨id, i1, i2, i3, i4⟩ := hrows k _ (d4 _)
        have := rdP_ptr s.ps hb k hkm
        rw [Nat.zero_add, i1] at this
        cases this
        obtain ⟨cs, hcs⟩ := rowB_spec (allB_spec hc3 k hkm)
        have e := hlow k hkm
        rw [e]
        refine ⟨OR.row_to (E := E3) (E' := renE (mP s.ps) q E3) (fun _ h => h) rfl i2 (by have := hnum k hk; rwa [e] at this) (fun j a b => hnum j (by omega)) i4, fun _ => ⟨_, hcs, rfl⟩, fun _ => ?_⟩
        show E3.hb (ol (mP s.ps) q k) = true
        rw [e]; exact i3
      · rw [List.getElem?_append_right (by rw [rowsP_len, refs_m]; omega), rowsP_len, refs_m] at ho
        have hd := newO_dat (List.mem_of_getElem? ho)
        rw [hnew, hhigh k (by omega) hk] at ho
        exact ⟨OR.dat_to (E := E3) (E' := renE (mP s.ps) q E3) (fun _ h => h) rfl hAk (hnum k hk) hd (p3.st.objs _ trivial hAk _ ho), fun hl => ⟨_, ho, hl⟩, fun hbk => p3.st.blk _ trivial hAk _ ho hbk⟩)
  have hpost := Post.trans p1 q2 f2 q3
  have hfr := f2.trans f3 q2.le
  refine ⟨renE (mP s.ps) q E3, e3.trans e2, ?_, (hpb.trans (PostB.of hpb.le hT hpost hfr)).trans hre⟩
  refine hfin _ _ (resV_len _ _ _) (valQ_env (E := E3) (E' := renE (mP s.ps) q E3) (fun _ h => h) rfl s.rts hy (fun j id hj => ?_) (hv2.mono (q3.env p2)))
  have h1 : j < (idsQ s.rts a).length := (List.getElem?_eq_some_iff.1 hj).1
  have h2 : mP s.ps + nP (refs s.ps) + j < mP s.ps + q.length := by rw [← hq, List.length_append, l2]; omega
  have h3 := hhigh _ (by omega) h2
  rw [show mP s.ps + nP (refs s.ps) + j - mP s.ps = subs.length + j by omega, ← hq, List.getElem?_append_right (by omega), Nat.add_sub_cancel_left, hj, hq] at h3
  have h4 := Option.some.inj h3
  have := hnum _ h2
  rwa [← h4] at this
end Go.Jx
end

/- Contracts with boxes out of runs. -/
section
set_option linter.unusedVariables false
namespace Go.Jx
open Go Go.Sx Go.RowKit
universe u

/-! ### Data that boxes may hold -/
def WfC : (c : CT) → ElC c → Prop
  | .dat c => fun x => WfE c x
  | .arr c => fun (l : List (El c)) => l.length * bsz c ≤ 140737488355328 ∧ ∀ x ∈ l, WfE c x
  | .map k v => fun (es : List (El k × El v)) => ∀ e ∈ es, WfE k e.1 ∧ WfE v e.2
def WfR : (r : List CT) → ElRow r → Prop
  | [], _ => True
  | c :: cs, x => WfC c x.1 ∧ WfR cs x.2
def WfP : (l : List PK) → ElP l → Prop
  | [], _ => True
  | .dat c :: l, x => WfE c x.1 ∧ WfP l x.2
  | .fn _ :: l, x => WfP l x
  | .ref r :: l, x => WfR r x.1 ∧ WfP l x.2
section
variable {E : Env}
theorem wf_cel {c : TC} {x : El c} {us : List Value} (h : VRs E (cel c x) us) : WfE c x :=
  wf_cells (E := E) c x (fun j => us.getD j .nilFunc) fun j hj => by
    have hj2 : j < us.length := by rw [← h.1]; exact hj
    show VR E _ (us.getD j .nilFunc)
    rw [List.getD_eq_getElem?_getD, List.getElem?_eq_getElem hj2]
    exact h.2 j hj hj2
theorem wfC {H : Nat → Option IObj} {ι : Nat → Nat} (hH : ∀ id o, E.A id → H id = some o → OR E id o) : ∀ (c : CT) {n : Nat} {x : ElC c} {us : List Value}, VRs E (cellC c ι n x) us → (∀ j : Nat, j < nC c → H (ι (n + j)) = (subC c x)[j]?) → WfC c x
  | .dat c, n, x, us, h, _ => wf_cel h
  | .arr c, n, x, us, h, hs => by
    obtain ⟨u, us, rfl, a1, a2⟩ := VRs.inv (v := .arr (ι n)) (cs := []) h
    have hA : E.A (ι n) := by cases a1; assumption
    have h0 := hs 0 (Nat.one_pos)
    rw [Nat.add_zero] at h0
    obtain ⟨a, cap, h1, h2, h3, h4, h5⟩ := hH _ (.arr c x) hA h0
    refine ⟨h4, fun y hy => ?_⟩
    obtain ⟨i, hi, rfl⟩ := List.mem_iff_getElem.1 hy
    rcases h5 with ⟨_, h5⟩ | ⟨_, _, cells, t, _, _, us, _, h6⟩
    · omega
    · exact wf_cells c _ (us i) (h6 i hi)
  | .map k v, n, x, us, h, hs => by
    obtain ⟨u, us, rfl, a1, a2⟩ := VRs.inv (v := .map (ι n)) (cs := []) h
    have hA : E.A (ι n) := by cases a1; assumption
    have h0 := hs 0 (Nat.one_pos)
    rw [Nat.add_zero] at h0
    obtain ⟨ents, cl, h1, h2, h3⟩ := hH _ (.tmap k v x) hA h0
    intro e he
    obtain ⟨i, hi, rfl⟩ := List.mem_iff_getElem.1 he
    have hl : (tmEs k v x).length = List.length x := List.length_map _
    have hi1 : i < ((tmEs k v x).map (·.1)).length := by rw [List.length_map, hl]; exact hi
    have hi2 : i < ((tmEs k v x).map (·.2)).length := by rw [List.length_map, hl]; exact hi
    have q1 := h2.2 i hi1 (by rw [← h2.1]; exact hi1)
    have q2 := h3.2 i hi2 (by rw [← h3.1]; exact hi2)
    have e : (tmEs k v x)[i]'(by rw [hl]; exact hi) = (asIV k (List.get x ⟨i, hi⟩).1, asIV v (List.get x ⟨i, hi⟩).2) := List.getElem_map _
    rw [List.getElem_map, e] at q1
    rw [List.getElem_map, e] at q2
    exact ⟨wf_as q1, wf_as q2⟩
theorem wfR {H : Nat → Option IObj} {ι : Nat → Nat} (hH : ∀ id o, E.A id → H id = some o → OR E id o) : ∀ (r : List CT) {n : Nat} {x : ElRow r} {us : List Value}, VRs E (cellR r ι n x) us → (∀ j : Nat, j < nR r → H (ι (n + j)) = (subR r x)[j]?) → WfR r x
  | [], n, x, us, h, hs => trivial
  | c :: cs, n, x, us, h, hs => by
    obtain ⟨us1, us2, rfl, h1, h2⟩ := VRs.split (cs := cellC c ι n x.1) (ds := cellR cs ι (n + nC c) x.2) h
    refine ⟨wfC hH c h1 fun j hj => ?_, wfR hH cs h2 fun j hj => ?_⟩
    · rw [hs j (by simp only [nR]; omega)]
      simp only [subR]
      rw [List.getElem?_append_left (by rw [subC_len]; exact hj)]
    · have := hs (nC c + j) (by simp only [nR]; omega)
      rw [← Nat.add_assoc] at this
      rw [this]
      simp only [subR]
      rw [List.getElem?_append_right (by rw [subC_len]; omega), subC_len, Nat.add_sub_cancel_left]
theorem wfP {H : Nat → Option IObj} (hH : ∀ id o, E.A id → H id = some o → OR E id o) : ∀ (l : List PK) {k n : Nat} {x : ElP l} {us : List Value}, VRs E (argsP l idN k x) us →
    (∀ j : Nat, j < mP l → H (k + j) = (rowsP l idN n x)[j]?) → (∀ j : Nat, j < nP l → H (n + j) = (subsP l x)[j]?) → WfP l x
  | [], k, n, x, us, h, _, _ => trivial
  | .dat c :: l, k, n, x, us, h, h1, h2 => by
    obtain ⟨u, us, rfl, a1, a2⟩ := VRs.inv (v := asIV c x.1) (cs := argsP l idN k x.2) h
    exact ⟨wf_as a1, wfP hH l a2 h1 h2⟩
  | .fn f :: l, k, n, x, us, h, h1, h2 => by
    obtain ⟨u, us, rfl, a1, a2⟩ := VRs.inv (v := .fn f []) (cs := argsP l idN k x) h
    exact wfP (x := x) hH l a2 h1 h2
  | .ref r :: l, k, n, x, us, h, h1, h2 => by
    obtain ⟨u, us, rfl, a1, a2⟩ := VRs.inv (v := .ptr (idN k) 0) (cs := argsP l idN (k + 1) x.2) h
    have hA : E.A k := by cases a1; assumption
    have h0 := h1 0 (by simp only [mP]; omega)
    rw [Nat.add_zero] at h0
    obtain ⟨cells, t, k1, k2, k3, k4⟩ := hH k _ hA (h0.trans (show _ = some (.row (cellR r idN n x.1)) from rfl))
    refine ⟨wfR (ι := idN) hH r k4 fun j hj => ?_, wfP hH l (n := n + nR r) a2 (fun j hj => ?_) fun j hj => ?_⟩
    · have := h2 j (by simp only [nP]; omega)
      show H (n + j) = _
      rw [this]
      simp only [subsP]
      rw [List.getElem?_append_left (by rw [subR_len]; exact hj)]
    · have := h1 (j + 1) (by simp only [mP]; omega)
      rw [show k + 1 + j = k + (j + 1) by omega, this]
      simp only [rowsP, List.getElem?_cons_succ]
    · have := h2 (nR r + j) (by simp only [nP]; omega)
      rw [← Nat.add_assoc] at this
      rw [this]
      simp only [subsP]
      rw [List.getElem?_append_right (by rw [subR_len]; omega), subR_len, Nat.add_sub_cancel_left]
end
theorem wf_Sc {l : List PK} {x : ElP l} {E : Env} {us : List Value} (p : Pre T0 E (Sc l x)) (h : VRs E (argsP l idN 0 x) us) : WfP l x := by
  refine wfP (H := (Sc l x).H) (n := mP l) (fun id o hA ho => p.st.objs id trivial hA o ho) l h (fun j hj => ?_) fun j hj => ?_
  · unfold Sc
    rw [Nat.zero_add, addO_H0, List.getElem?_append_left (by rw [rowsP_len]; exact hj)]
  · unfold Sc
    rw [addO_H0, List.getElem?_append_right (by rw [rowsP_len]; omega), rowsP_len, Nat.add_sub_cancel_left]

/-! ### A contract out of a run -/
def lastQ (tt : Nat → Option TI) (fi : FI) (s : SmR) (r : CRes) : Option (ElR s.rts × ElP (refs s.ps)) :=
  cond r.e.leaves (match imarks r.ds r.S with
    | none => none
    | some (S', _) => match ires tt fi.nt r.fr S' fi.res with
      | none => none
      | some (vs, _) => runQ s ⟨tupI vs, S', 0, 0⟩) none
section
variable {P : Program} {tt : Nat → Option TI} {ft : Nat → Option FI}
theorem bodyQ_ok {fi : FI} {f : Nat} {nm : Nat → Option Nm} {cl : Cl} {lf : Nat} {s : SmR} {x : ElP s.ps} {y : ElR s.rts} {z : ElP (refs s.ps)} {r1 : CRes} (hm : P.follows .mixedOrders = true) (htt : TT P tt)
    (hfi : ∃ fn, P.funcs[f]? = some fn ∧ fn.body = some fi.body ∧ fn.ntmps = fi.nt ∧ fn.results = fi.res.toArray ∧ (fn.name == "runtime.NumGoroutine") = false ∧ codeOK fi.body = true) (hcl : ClOK P cl) (hfr : ClFr cl)
    (hb : Nat.ble (argsP s.ps idN 0 x).length fi.nt = true) (hr1 : icode P tt nm (mP s.ps) fi.nt cl lf none fi.body (argGo (argsP s.ps idN 0 x) 0 .leaf) (Sc s.ps x) [] = some r1) (h : lastQ tt fi s r1 = some (y, z))
    {E : Env} {us : List Value} (p : Pre T0 E (Sc s.ps x)) (hv : VRs E (argsP s.ps idN 0 x) us) :
    CallsIn Fence.wide 0 P f us.toArray E.w (RetB (mP s.ps) T0 E (Sc s.ps x) ⟨vB s (mP s.ps) y, ScB s y z, 0, 0⟩) := by
  unfold lastQ at h
  cases hl : r1.e.leaves with
  | false => rw [hl] at h; cases h
  | true =>
  rw [hl, cond_true] at h
  split at h
  · cases h
  rename_i S' wr hmk
  split at h
  · cases h
  rename_i vs' rd' hres
  obtain ⟨fn, f1, f2, f3, f4, f5, f6⟩ := hfi
  refine callsIn_of_wp_marks f1 f2 trivial ?_
  refine icode_sound (T := T0) (E := E) (S := Sc s.ps x) (ds := []) (round := none) (B := mP s.ps) (fun _ _ => trivial) hm rfl hcl hfr htt fi.body f6 p (by rw [Sc_next]; omega) (fun _ _ => trivial) ?_ ⟨rfl, fun D hD => by cases hD⟩ (fun _ => rfl) hr1 (fun _ _ => trivial) (fun _ _ => trivial) ?_
  · have := FR.enter (nt := fi.nt) hv (Nat.le_of_ble_eq_true hb)
    rw [f3]; exact this
  intro E1 a1 k1 k2 kB
  have p1 := kB.pre (fun _ _ => trivial)
  have hlv : LeavesInM Fence.wide 0 P fn a1.tmps (RetB (mP s.ps) T0 E (Sc s.ps x) ⟨vB s (mP s.ps) y, ScB s y z, 0, 0⟩) a1.defers .returning E1.w := by
    refine marks_sound p1 k2 hmk (fun _ _ => trivial) fun E2 m1 m2 => ?_
    have p2 := m1.pre p1
    obtain ⟨us', h1, h2⟩ := ires_run htt p2 (k1.mono (m1.env p1)) hres (fun _ _ => trivial)
    have h3 := results_run (P := P) (w := E2.w) f4 h1
    refine ⟨tupOf us', h3, ?_⟩
    have hq := kB.trans (PostB.of kB.le (fun _ _ => trivial) m1 m2)
    obtain ⟨E3, e3, v3, q3⟩ := runQ_sound (r := ⟨tupI vs', S', 0, 0⟩) h p hv hq (tup_rel h2)
    exact ⟨_, E3, rfl, e3, v3, q3⟩
  cases he : r1.e with
  | normal => rw [he] at *; exact hlv
  | ret => exact hlv
  | exit i => rw [he] at hl; cases hl
  | goto l => rw [he] at hl; cases hl
/-- The contract of a function with boxes out of its run, with stops ahead of rounds. -/
theorem conTR {sml : List (Nat × Sm)} {hxl : List (Nat × Hx)} {f : Nat} {s : SmR} {fi : FI} {nmf : Nat → Option Nm} {st hd : Nat → Bool} (n : Nat) (hm : P.follows .mixedOrders = true) (htt : TT P tt) (hft : FT P ft) (hsm : SmOK P sml)
    (hhx : HxsOK P hxl) (hC : Callable P f) (h3 : ft f = some fi) (h4 : ∀ x, Nat.ble (argsP s.ps idN 0 x).length fi.nt = true) (hn : (regs fi.body).Nodup) (hl : okC nmf st hd fi.body none = true)
    (hrun : ∀ (x : ElP s.ps) (y : ElR s.rts) (z : ElP (refs s.ps)), WfP s.ps x → s.f x = some (y, z) → ∃ lf,
      icodeTB P tt nmf (mP s.ps) fi.nt (icallK P tt ft (fun _ _ => none) (smL sml) (hxL hxl) lf n (ElR s.rts × ElP (refs s.ps))) lf st
        (atNB P tt nmf (mP s.ps) fi.nt fi.body (icallK P tt ft (fun _ _ => none) (smL sml) (hxL hxl) lf n (ElR s.rts × ElP (refs s.ps))) lf hd (lastQ tt fi s)) fi.body [] (argGo (argsP s.ps idN 0 x) 0 .leaf) (Sc s.ps x) [] (lastQ tt fi s) = some (y, z))
    (hz : frzF nmf = true := by rfl) : ConR P f s := by
  have hB0 : mB nmf (mP s.ps) = 0 := by unfold mB; rw [hz]; rfl
  have hex : ExOK P (exH (smL sml) (hxL hxl)) := exH_ok (smL_ok hsm) (hxL_ok hhx)
  refine ⟨hC, fun E x us y z hy p hv => ?_⟩
  obtain ⟨lf, hr⟩ := hrun x y z (wf_Sc p hv) hy
  rw [← atB_in hB0 (icallK_eq n _) hn hl, icodeK_eq (icallK_eq n _)] at hr
  cases hr1 : icode P tt nmf (mP s.ps) fi.nt (icall P tt ft (fun _ _ => none) (exH (smL sml) (hxL hxl)) lf n) lf none fi.body (argGo (argsP s.ps idN 0 x) 0 .leaf) (Sc s.ps x) [] with
  | none => rw [hr1] at hr; cases hr
  | some r1 =>
    rw [hr1] at hr
    exact bodyQ_ok hm htt (hft f fi h3) (icall_ok hm htt hft hex n) (icall_fr hex n) (h4 x) hr1 hr p hv
end
end Go.Jx
end

/- Stops of functions with boxes. -/
section
set_option linter.unusedVariables false
namespace Go.Jx
open Go Go.Sx Go.RowKit
universe u

section
variable {P : Program} {tt : Nat → Option TI} {nm : Nat → Option Nm} {lf : Nat} {st hd : Nat → Bool} {cl : Cl}
def atQ (P : Program) (tt : Nat → Option TI) (nm : Nat → Option Nm) (fi : FI) (s : SmR) (clK : ClK (ElR s.rts × ElP (refs s.ps))) (lf : Nat) (hd : Nat → Bool) (k : Nat) (ns : List Nat) (x : NRes) : Option (ElR s.rts × ElP (refs s.ps)) :=
  atNB P tt nm (mP s.ps) fi.nt fi.body clK lf hd (lastQ tt fi s) k ns x
theorem mB_frz {B : Nat} (hz : frzF nm = true) : mB nm B = 0 := by unfold mB; rw [hz]; rfl
theorem atQ_eq (hz : frzF nm = true) {fi : FI} {s : SmR} {clK : ClK (ElR s.rts × ElP (refs s.ps))} (h : ClEq cl clK) (hn : (regs fi.body).Nodup) (hl : okC nm st hd fi.body none = true) (k : Nat) (ns ns' : List Nat) (hd' : dn (hd k) ns = some ns') (x : NRes) :
    atQ P tt nm fi s clK lf hd k ns x = icodeFTB P tt nm (mP s.ps) fi.nt clK lf st (atQ P tt nm fi s clK lf hd) k fi.body [] ns' x (lastQ tt fi s) := atNB_eq (mB_frz hz) h hn hl k ns ns' hd' x
theorem atQ_zero {fi : FI} {s : SmR} {clK : ClK (ElR s.rts × ElP (refs s.ps))} (k : Nat) (ns : List Nat) (hd' : dn (hd k) ns = none) (x : NRes) : atQ P tt nm fi s clK lf hd k ns x = none := atNB_zero k ns hd' x
end
end Go.Jx
end

/- Boxes that are held by a caller: run by themselves, and put back. -/
section
set_option linter.unusedVariables false
namespace Go.Jx
open Go Go.Sx Go.RowKit
universe u

/-- Data of what is handed over, where the boxes hold something else. -/
def updP : (l : List PK) → ElP l → ElP (refs l) → ElP l
  | [], _, _ => ()
  | .dat _ :: l, x, z => (x.1, updP l x.2 z)
  | .fn _ :: l, x, z => updP l x z
  | .ref _ :: l, x, z => (z.1, updP l x.2 z.2)
theorem rowsP_upd : ∀ (l : List PK) (ι : Nat → Nat) (n : Nat) (x : ElP l) (z : ElP (refs l)), rowsP l ι n (updP l x z) = rowsP (refs l) ι n z
  | [], _, _, _, _ => rfl
  | .dat _ :: l, ι, n, x, z => rowsP_upd l ι n x.2 z
  | .fn _ :: l, ι, n, x, z => rowsP_upd l ι n x z
  | .ref r :: l, ι, n, x, z => by
    show IObj.row (cellR r ι n z.1) :: rowsP l ι (n + nR r) (updP l x.2 z.2) = _
    rw [rowsP_upd l]; rfl
theorem subsP_upd : ∀ (l : List PK) (x : ElP l) (z : ElP (refs l)), subsP l (updP l x z) = subsP (refs l) z
  | [], _, _ => rfl
  | .dat _ :: l, x, z => subsP_upd l x.2 z
  | .fn _ :: l, x, z => subsP_upd l x z
  | .ref r :: l, x, z => by
    show subR r z.1 ++ subsP l (updP l x.2 z.2) = _
    rw [subsP_upd l]; rfl
theorem argsP_upd : ∀ (l : List PK) (ρ : Nat → Nat) (k : Nat) (x : ElP l) (z : ElP (refs l)), argsP l ρ k (updP l x z) = argsP l ρ k x
  | [], _, _, _, _ => rfl
  | .dat c :: l, ρ, k, x, z => congrArg (fun q => asIV c x.1 :: q) (argsP_upd l ρ k x.2 z)
  | .fn f :: l, ρ, k, x, z => congrArg (fun q => IV.fn f [] :: q) (argsP_upd l ρ k x z)
  | .ref r :: l, ρ, k, x, z => congrArg (fun q => IV.ptr (ρ k) 0 :: q) (argsP_upd l ρ (k + 1) x.2 z.2)
/-- A run without results. -/
def sQ (l : List PK) : SmR := ⟨l, [], fun _ => none⟩
theorem ScB_upd (l : List PK) (x : ElP l) (z : ElP (refs l)) : ScB (sQ l) () z = Sc l (updP l x z) := by
  unfold ScB Sc newO
  rw [rowsP_upd, subsP_upd]
  show addO (rowsP (refs l) idN (mP l) z ++ (subsP (refs l) z ++ [])) S0 = _
  rw [List.append_nil]
/-- Boxes with their slices and maps as they lie in a state. -/
structure Held (T : TW) (E : Env) (S : IS) (l : List PK) (x : ElP l) (rows subs : List Nat) : Prop where
  l1 : rows.length = mP l
  l2 : subs.length = nP l
  nd : (rows ++ subs).Nodup
  w : ∀ id ∈ rows ++ subs, T.w id
  A : ∀ id ∈ subs, E.A id
  at_ : ∀ ι, Nums ι (mP l) subs → RowsAt E rows (rowsP l ι (mP l) x)
  row : ∀ id ∈ rows, ∃ cs, S.H id = some (.row cs)
  sub : ∀ j : Nat, (subsP l x)[j]? = (subs[j]?).bind fun id => S.heap.get id
section
variable {T : TW} {E : Env} {S : IS} {l : List PK} {x : ElP l} {rows subs : List Nat}
theorem Held.num (h : Held T E S l x rows subs) : Nums (ol 0 (rows ++ subs)) 0 rows ∧ Nums (ol 0 (rows ++ subs)) (mP l) subs := by
  have hnq : Nums (ol 0 (rows ++ subs)) 0 (rows ++ subs) := fun j id hj => by
    rw [Nat.zero_add]
    unfold ol; rw [if_neg (by omega), Nat.sub_zero, List.getD_eq_getElem?_getD, hj]; rfl
  refine ⟨hnq.fst, ?_⟩
  have := hnq.snd
  rwa [Nat.zero_add, h.l1] at this
theorem Held.len (h : Held T E S l x rows subs) : (rows ++ subs).length = mP l + nP l := by rw [List.length_append, h.l1, h.l2]
theorem Held.rk (h : Held T E S l x rows subs) {k : Nat} (hk : k < mP l) : rows[k]? = some (ol 0 (rows ++ subs) k) := by
  have h1 : k < rows.length := by rw [h.l1]; exact hk
  rw [List.getElem?_eq_getElem h1, ← h.num.1 k _ (List.getElem?_eq_getElem h1), Nat.zero_add]
theorem Held.sk (h : Held T E S l x rows subs) {k : Nat} (h1 : mP l ≤ k) (h2 : k < (rows ++ subs).length) : subs[k - mP l]? = some (ol 0 (rows ++ subs) k) := by
  have h3 : k - mP l < subs.length := by rw [h.len] at h2; rw [h.l2]; omega
  rw [List.getElem?_eq_getElem h3, ← h.num.2 _ _ (List.getElem?_eq_getElem h3), Nat.add_sub_cancel' h1]
theorem Held.rowA (h : Held T E S l x rows subs) {k : Nat} (hk : k < mP l) : ∃ r nj xj, (∀ ι, (rowsP l ι (mP l) x)[k]? = some (.row (cellR r ι nj xj))) ∧ mP l ≤ nj ∧ nj + nR r ≤ (rows ++ subs).length ∧ E.A (ol 0 (rows ++ subs) k) ∧ E.hb (ol 0 (rows ++ subs) k) = true ∧ OR E (ol 0 (rows ++ subs) k) (.row (cellR r (ol 0 (rows ++ subs)) nj xj)) := by
  have h1 : k < (rowsP l (ol 0 (rows ++ subs)) (mP l) x).length := by rw [rowsP_len]; exact hk
  obtain ⟨r, nj, xj, d1, d2, d3, d4⟩ := rowsP_get l (ol 0 (rows ++ subs)) (mP l) x k _ (List.getElem?_eq_getElem h1)
  obtain ⟨id, i1, i2, i3, i4⟩ := h.at_ _ h.num.2 k _ (d4 (ol 0 (rows ++ subs)))
  rw [h.rk hk] at i1
  cases i1
  exact ⟨r, nj, xj, d4, d2, by rw [h.len]; omega, i2, i3, i4⟩
theorem Held.allA (h : Held T E S l x rows subs) : ∀ id ∈ rows ++ subs, E.A id := fun id hid => by
  rcases List.mem_append.1 hid with hid | hid
  · obtain ⟨k, hk, rfl⟩ := List.mem_iff_getElem.1 hid
    obtain ⟨_, _, _, _, _, _, i2, _, _⟩ := h.rowA (k := k) (by rw [← h.l1]; exact hk)
    have := h.rk (k := k) (by rw [← h.l1]; exact hk)
    rw [List.getElem?_eq_getElem hk, Option.some.injEq] at this
    rw [this]; exact i2
  · exact h.A id hid
theorem Held.numTo (E : Env) (q : List Nat) {k : Nat} (hk : k < q.length) : NumTo E (renE 0 q E) (ol 0 q k) k := fun hA => ⟨⟨by omega, hA⟩, rfl, rfl, rfl, rfl⟩
theorem Held.obj (h : Held T E S l x rows subs) (p : Pre T E S) {k : Nat} {o : IObj} (hk : k < (rows ++ subs).length) (hAk : E.A (ol 0 (rows ++ subs) k)) (ho : (Sc l x).H k = some o) : ObjTo E S (renE 0 (rows ++ subs) E) (ol 0 (rows ++ subs) k) k o := by
  unfold Sc at ho
  rw [addO_H0] at ho
  have hnum : ∀ j, j < (rows ++ subs).length → NumTo E (renE 0 (rows ++ subs) E) (ol 0 (rows ++ subs) j) j := fun j hj => Held.numTo E _ hj
  by_cases hkm : k < mP l
  · rw [List.getElem?_append_left (by rw [rowsP_len]; exact hkm)] at ho
    obtain ⟨r, nj, xj, d1, d2, d3, d4, d5, d6⟩ := h.rowA hkm
    rw [d1 idN] at ho
    cases ho
    obtain ⟨cs, hcs⟩ := h.row _ (List.mem_of_getElem? (h.rk hkm))
    exact ⟨OR.row_to (E := E) (E' := renE 0 (rows ++ subs) E) (fun _ h => h) rfl hAk (hnum k hk) (fun j a b => hnum j (by omega)) d6, fun _ => ⟨_, hcs, rfl⟩, fun _ => d5⟩
  · rw [List.getElem?_append_right (by rw [rowsP_len]; omega), rowsP_len] at ho
    have hd := subsP_dat _ _ _ (List.mem_of_getElem? ho)
    rw [h.sub, h.sk (by omega) hk] at ho
    have hid := (ol_mem hk).1
    exact ⟨OR.dat_to (E := E) (E' := renE 0 (rows ++ subs) E) (fun _ h => h) rfl hAk (hnum k hk) hd (p.st.objs _ (T.sub _ (h.w _ hid)) hAk _ ho), fun hl => ⟨_, ho, hl⟩, fun hbk => p.st.blk _ (T.sub _ (h.w _ hid)) hAk _ ho hbk⟩
/-- By themselves. -/
theorem Held.pre (h : Held T E S l x rows subs) (p : Pre T E S) : Pre T0 (renE 0 (rows ++ subs) E) (Sc l x) :=
  Pre.re p h.nd (fun id hi => T.sub _ (h.w id hi)) (by rw [Sc_next, h.len]) fun k o hk hAk ho => h.obj p hk hAk ho
/-- Put back. -/
theorem Held.back {s : SmR} {x : ElP s.ps} {y : ElR s.rts} {z : ElP (refs s.ps)} {Er : Env} (h : Held T E S s.ps x rows subs) (p : Pre T E S) (k2 : PostB (mP s.ps) T0 (renE 0 (rows ++ subs) E) (Sc s.ps x) Er (ScB s y z)) :
    Post T E S (mrgR E Er S.next (mP s.ps)) (backS s S.next rows subs y z S) ∧ Fresh E S (mrgR E Er S.next (mP s.ps)) := by
  have hA := h.allA
  have hlt : ∀ id, id ∈ rows ++ subs → id < S.next := fun id hi => p.bnd id (hA id hi)
  have hsb : ∀ k, k < (rows ++ subs).length → Live (renE 0 (rows ++ subs) E) (Sc s.ps x).H k → Live E S.H (ol 0 (rows ++ subs) k) := fun k hk ⟨h0, o, h1, h2⟩ => ⟨h0, (h.obj p hk (hA _ (ol_mem hk).1) h1).live h2⟩
  have hbn : (setL rows (rowsP (refs s.ps) (fun k => S.next + (k - mP s.ps)) (mP s.ps) z) (killL subs S)).next = S.next := by rw [setL_next, killL_next]
  have hndr : rows.Nodup := (List.nodup_append.1 h.nd).1
  have hrs : ∀ id, id ∈ rows → id ∉ subs := fun id h1 h2 => (List.nodup_append.1 h.nd).2.2 id h1 id h2 rfl
  have hScB : ∀ k, (ScB s y z).H k = (rowsP (refs s.ps) idN (mP s.ps) z ++ newO s y z)[k]? := fun k => addO_H0 _ k
  have hql := h.len
  have l1 := h.l1
  have hrk := fun k (hk : k < mP s.ps) => h.rk hk
  have hsk := fun k (h1 : mP s.ps ≤ k) (h2 : k < (rows ++ subs).length) => h.sk h1 h2
  have hrowA := fun k (hk : k < mP s.ps) => h.rowA hk
  have hnd := h.nd
  have hT := h.w
  have hinr : ∀ id, id ∈ rows → id ∈ rows ++ subs := fun id h => List.mem_append_left _ h
  have hins : ∀ id, id ∈ subs → id ∈ rows ++ subs := fun id h => List.mem_append_right _ h
  generalize hq : rows ++ subs = q at *
  have hEA : ∀ k, k < mP s.ps → Er.A k ∧ Er.ρ k = E.ρ (ol 0 q k) ∧ Er.κ k = E.κ (ol 0 q k) ∧ Er.hd k = E.hd (ol 0 q k) ∧ Er.hb k = E.hb (ol 0 q k) := fun k hk => by
    obtain ⟨a1, a2, a3, a4, a5⟩ := k2.alw k hk ⟨by omega, hA _ (ol_mem (by omega)).1⟩
    exact ⟨a1, a2, a3, a4, a5⟩
  exact merge_back (n := S.next) (m := mP s.ps) (S' := backS s S.next rows subs y z S) p hnd hT hA (by omega) rfl hsb k2 (by
      unfold backS ScB
      rw [addO_next, addO_next, hbn, List.length_append, rowsP_len, refs_m]
      have : S0.next = 0 := rfl
      omega) (fun id hid hnq => by
      unfold backS
      rw [addO_H, hbn, if_pos hid, setL_out (fun h => hnq (hinr _ h)), killL_out (fun h => hnq (hins _ h))]) (fun k o hk ho => by
      unfold backS at ho
      have hin := (ol_mem (q := q) (k := k) (by omega)).1
      rw [addO_H, hbn, if_pos (hlt _ hin), setL_in hndr (by rw [rowsP_len, refs_m, l1]) (hrk k hk)] at ho
      obtain ⟨r, nj, xj, rfl, d2, d3, d4⟩ := rowsP_get _ _ _ _ _ _ ho
      have hsr : (ScB s y z).H k = some (.row (cellR r idN nj xj)) := by
        rw [hScB, List.getElem?_append_left (by rw [rowsP_len, refs_m]; exact hk)]; exact d4 idN
      obtain ⟨a1, a2, a3, a4, a5⟩ := hEA k hk
      obtain ⟨o1, o2, o3, o4⟩ := mrgR_old (E := E) (Er := Er) (n := S.next) (m := mP s.ps) (hlt _ hin)
      obtain ⟨_, _, _, _, _, _, i2, i3, _⟩ := hrowA k hk
      exact ⟨OR.row_to (E := Er) (E' := mrgR E Er S.next (mP s.ps)) (fun _ h => h) rfl a1 (fun _ => ⟨.inl ⟨hlt _ hin, i2⟩, o1.trans a2.symm, o2.trans a3.symm, o3.trans a4.symm, o4.trans a5.symm⟩) (fun j a b hAj => by
        obtain ⟨r1, r2, r3, r4, r5⟩ := mrgR_new (E := E) (Er := Er) (n := S.next) (m := mP s.ps) (k := j) (by omega)
        exact ⟨r5 hAj, r1, r2, r3, r4⟩) (k2.st.objs k trivial a1 _ hsr), fun _ => ⟨_, hsr, rfl⟩, fun _ => o4.trans i3⟩) (fun k o h1 h2 ho => by
      unfold backS at ho
      have hin := (ol_mem (q := q) (k := k) h2).1
      have hin2 := List.mem_of_getElem? (hsk k h1 h2)
      rw [addO_H, hbn, if_pos (hlt _ hin), setL_out (fun h => hrs _ h hin2), killL_in hin2] at ho
      cases ho; rfl) (fun k o h1 hAk ho => by
      unfold backS at ho
      have hkb := k2.bnd k hAk
      unfold ScB at hkb
      rw [addO_next, List.length_append, rowsP_len, refs_m] at hkb
      have e0 : S0.next = 0 := rfl
      rw [addO_H, hbn, if_neg (by omega), if_pos (by omega), Nat.add_sub_cancel_left] at ho
      have hd := newO_dat (List.mem_of_getElem? ho)
      have hsr : (ScB s y z).H k = some o := by
        rw [hScB, List.getElem?_append_right (by rw [rowsP_len, refs_m]; exact h1), rowsP_len, refs_m]; exact ho
      obtain ⟨r1, r2, r3, r4, r5⟩ := mrgR_new (E := E) (Er := Er) (n := S.next) (m := mP s.ps) (k := k) h1
      exact ⟨OR.dat_to (E := Er) (E' := mrgR E Er S.next (mP s.ps)) (fun _ h => h) rfl hAk (fun hA => ⟨r5 hA, r1, r2, r3, r4⟩) hd (k2.st.objs k trivial hAk _ hsr), fun hl => ⟨_, hsr, hl⟩, fun hbk => r4.trans (k2.st.blk k trivial hAk _ hsr hbk)⟩)
end
end Go.Jx
end

/- A block of ours beside what a run sees. -/
section
set_option linter.unusedVariables false
namespace Go.Jx
open Go Go.Sx Go.RowKit
universe u

/-- Two worlds that differ at one block alone. -/
structure Beside (b : Nat) (w w' : World) : Prop where
  os : w'.os = w.os
  tape : w'.tape = w.tape
  output : w'.output = w.output
  size : w'.heap.size = w.heap.size
  same : ∀ x, x ≠ b → w'.heap[x]? = w.heap[x]?
theorem Beside.put (w : World) (b : Nat) (o : Obj) : Beside b w (w.putObj b o) := ⟨rfl, rfl, rfl, by simp, fun x hx => World.putObj_heap_other hx⟩
theorem Beside.symm {b : Nat} {w w' : World} (h : Beside b w w') : Beside b w' w := ⟨h.os.symm, h.tape.symm, h.output.symm, h.size.symm, fun x hx => (h.same x hx).symm⟩
theorem Beside.upd {b : Nat} {w w' : World} (h : Beside b w w') : Upd [b] w w' := ⟨h.os, h.tape, h.output, by rw [h.size]; exact Nat.le_refl _, fun x _ hx => h.same x (by simpa using hx)⟩
/-- No object that lives lies there. -/
def Apart (E : Env) (S : IS) (b : Nat) : Prop := b ∈ E.m ∧ ∀ id, E.A id → Live E S.H id → E.ρ id ≠ b
section
variable {E E' : Env} {S S' : IS} {b : Nat} {w w' : World}
theorem Pre.beside (p : Pre T0 E S) (hb : Apart E S b) (h : Beside b E.w w) : E.Le (E.at_ w) ∧ Pre T0 (E.at_ w) S ∧ Apart (E.at_ w) S b := by
  have hle : E.Le (E.at_ w) := ⟨fun _ h => ⟨h, rfl, rfl, rfl, rfl⟩, ⟨fun x hx hm => ⟨hm, h.same x fun e => hm (e ▸ hb.1)⟩⟩⟩
  refine ⟨hle, ⟨⟨fun id ht ha o ho => (p.st.objs id ht ha o ho).mono hle ha (p.st.blk id ht ha o ho) fun hl hhb => h.same _ (hb.2 id ha ⟨hhb, o, ho, hl⟩), fun id ht ha o ho hbk => p.st.blk id ht ha o ho hbk, fun id ht ha hl => p.st.own id ht ha hl,
    fun i j a b' c d e f g => p.st.inj i j a b' c d e f g, fun x hx => ?_⟩, p.bnd, p.nw⟩, hb⟩
  show x < w.heap.size
  rw [h.size]; exact p.st.lo x hx
theorem PostB.apart {B : Nat} (k : PostB B T0 E S E' S') (p : Pre T0 E S) (hb : Apart E S b) : Apart E' S' b := by
  have hlt := p.st.lo b hb.1
  refine ⟨?_, fun id ha hl e => ?_⟩
  · rcases k.mem b hb.1 hlt with h | ⟨id, _, h1, h2, h3⟩
    · exact h
    · exact absurd h3 (hb.2 id h1 h2)
  · rcases Nat.lt_or_ge id B with h | h
    · have hA := k.fr id h ha
      exact hb.2 id hA (k.old id h trivial hA hl) ((k.alw id h hA).2.1.symm.trans e)
    · rcases k.new id h ha hl with h1 | ⟨j, _, j1, j2, j3⟩
      · omega
      · exact hb.2 j j1 j2 (j3.symm.trans e)
theorem PostB.at_same {B : Nat} (k : PostB B T0 E S E' S') (p : Pre T0 E S) (hb : Apart E S b) : E'.w.heap[b]? = E.w.heap[b]? := k.same b (p.st.lo b hb.1) fun id _ ha hl => hb.2 id ha hl
theorem PostB.beside {B : Nat} (k : PostB B T0 E S E' S') (p : Pre T0 E S) (hb : Apart E S b) (h1 : Beside b E.w w) (h2 : Beside b E'.w w') (h3 : w'.heap[b]? = w.heap[b]?) : PostB B T0 (E.at_ w) S (E'.at_ w') S' := by
  have p' : Pre T0 E' S' := k.pre fun _ _ => trivial
  obtain ⟨_, p2, _⟩ := p'.beside (k.apart p hb) h2
  have es : (E.at_ w).w.heap.size = E.w.heap.size := h1.size
  refine ⟨p2.st, h2.os.trans (k.os.trans h1.os.symm), h2.tape.trans (k.tape.trans h1.tape.symm), h2.output.trans (k.output.trans h1.output.symm), ?_, fun x hx hn => ?_, k.alw, fun id hB ha hl => ?_, k.old, fun x hx => ?_, fun x hx hlt => k.mem x hx (by rw [es] at hlt; exact hlt), k.bnd, k.le, k.fr⟩
  · show w.heap.size ≤ w'.heap.size
    rw [h1.size, h2.size]; exact k.size
  · show w'.heap[x]? = w.heap[x]?
    by_cases e : x = b
    · rw [e]; exact h3
    · rw [h2.same x e, h1.same x e]; exact k.same x (by rw [es] at hx; exact hx) hn
  · rw [es]; exact k.new id hB ha hl
  · rw [es]; exact k.memo x hx
end
end Go.Jx
end

/- A round of a range over an iterator, by itself. -/
section
set_option linter.unusedVariables false
namespace Go.Jx
open Go Go.Sx Go.RowKit
universe u

/-- How a loop's body is run by itself: the slots that it uses, what they hold, its table. -/
structure LpC where
  ls : List Nat
  lp : List PK
  nm : Nat → Option Nm
def putL : List Nat → List IV → PT IV → PT IV
  | t :: ts, v :: vs, fr => putL ts vs (fr.set v t)
  | _, _, fr => fr
theorem putL_slot : ∀ {ls : List Nat} {vs : List IV} {us : List Value} {E : Env} {nt : Nat} {fr : PT IV} {tmps : Array Value}, VRs E vs us → us = ls.map (fun t => tmps.getD t undef) → FR E nt fr tmps → FR E nt (putL ls vs fr) tmps
  | [], vs, us, E, nt, fr, tmps, hv, hu, hf => by simpa [putL] using hf
  | t :: ls, [], us, E, nt, fr, tmps, hv, hu, hf => by simpa [putL] using hf
  | t :: ls, v :: vs, us, E, nt, fr, tmps, hv, hu, hf => by
    obtain ⟨u, us, rfl, a1, a2⟩ := hv.inv
    simp only [List.map_cons, List.cons.injEq] at hu
    show FR E nt (putL ls vs (fr.set v t)) tmps
    refine putL_slot a2 hu.2 ⟨hf.size, fun k hk => ?_⟩
    rw [slot_set]
    by_cases e : k = t
    · subst e; rw [if_pos rfl, ← hu.1]; exact a1
    · rw [if_neg e]; exact hf.get k hk
section
variable (P : Program) (tt : Nat → Option TI)
def stepB (cfg : LpC) (c : TC) (nt lf : Nat) (cl : Cl) (pr : Nat) (assign body : Code) (d : ElP cfg.lp) (z : ElP (refs cfg.lp)) (x : El c) : Option (ElP (refs cfg.lp) × Option Code) :=
  match icode P tt cfg.nm (mP cfg.lp) nt cl lf none assign (setPs [pr] [asIV c x] (putL cfg.ls (argsP cfg.lp idN 0 d) .leaf)) (Sc cfg.lp (updP cfg.lp d z)) [] with
  | none => none
  | some r1 => match r1.e with
    | .normal => match r1.ds with
      | [] => match icode P tt cfg.nm (mP cfg.lp) nt cl lf none body r1.fr r1.S [] with
        | none => none
        | some r2 => match r2.ds with
          | [] => match runQ (sQ cfg.lp) ⟨.tup [], r2.S, 0, 0⟩ with
            | none => none
            | some y => some (y.2, endOf r2.e)
          | _ => none
      | _ => none
    | _ => none
end
/-- Rounds over a list: the boxes behind them, and whether one has left the loop. -/
def foldB {D α : Type} (g : D → α → Option (D × Option Code)) : List α → D → Option (D × Option Code)
  | [], d => some (d, none)
  | x :: xs, d => match g d x with
    | none => none
    | some (d', none) => foldB g xs d'
    | some (d', some e) => some (d', some e)
section
variable {P : Program} {tt : Nat → Option TI}
/-- What is known of one round. -/
theorem step_round {cfg : LpC} {c : TC} {nt lf : Nat} {cl : Cl} {pr : Nat} {assign body : Code} {d : ElP cfg.lp} {z z' : ElP (refs cfg.lp)} {x : El c} {e : Option Code} (hm : P.follows .mixedOrders = true) (hcl : ClOK P cl) (hfr : ClFr cl) (htt : TT P tt)
    (h : stepB P tt cfg c nt lf cl pr assign body d z x = some (z', e)) (hok : codeOK assign = true ∧ codeOK body = true) (hrf : hasRF assign = false ∧ hasRF body = false)
    {E : Env} {b : Nat} {rec : Loop} (p : Pre T0 E (Sc cfg.lp (updP cfg.lp d z))) (hb : Apart E (Sc cfg.lp (updP cfg.lp d z)) b) (hl : E.w.heap[b]? = some (.loop rec)) (hr : rec.state = .ready ∧ rec.pending = none ∧ rec.params = #[pr] ∧ rec.assign = assign ∧ rec.body = body ∧ rec.tmps.size = nt)
    (hargs : VRs E (argsP cfg.lp idN 0 d) (cfg.ls.map fun t => rec.tmps.getD t undef)) {u : Value} (hu : VR E (asIV c x) u) :
    YieldAt Fence.wide 0 P b #[u] E.w fun en B => ∃ E', PostB (mP cfg.lp) T0 E (Sc cfg.lp (updP cfg.lp d z)) E' (Sc cfg.lp (updP cfg.lp d z')) ∧
      ((e = none ∧ en = .returned (.bool true) ∧ B = E'.w) ∨ ∃ cd, e = some cd ∧ en = .returned (.bool false) ∧ Upd [b] E'.w B ∧ B.heap[b]? = some (.loop { rec with state := .done, pending := some cd })) := by
  obtain ⟨hr1, hr2, hr3, hr4, hr5, hr6⟩ := hr
  unfold stepB at h
  split at h
  · cases h
  rename_i r1 hrun1
  split at h <;> try cases h
  rename_i he1
  split at h <;> try cases h
  rename_i hds1
  split at h
  · cases h
  rename_i r2 hrun2
  split at h <;> try cases h
  rename_i hds2
  split at h
  · cases h
  rename_i y hq
  cases h
  have hblt : b < E.w.heap.size := heap_lt hl
  have hy := run_yield (P := P) (args := #[u]) hl (by rw [hr3]; rfl)
  refine ⟨_, _, _, _, hy, roundIn_of_wpIn trivial ?_⟩
  have hFp : (Fence.wide.inRound b).plain = Fence.wide := rfl
  have hfr0 : FR E nt (PT.leaf) rec.tmps := ⟨hr6, fun t ht => .unk _⟩
  have hfr1 : FR E nt (setPs [pr] [asIV c x] (putL cfg.ls (argsP cfg.lp idN 0 d) .leaf)) ((rec.params.zip #[u]).foldl (fun tmps (t, a) => tmps.setIfInBounds t a) rec.tmps) := by
    have := setPs_FR (ps := [pr]) (VRs.cons hu VRs.nil) (putL_slot hargs rfl hfr0)
    rw [hr3]
    simpa [List.zip] using this
  rw [hr4]
  refine icode_sound (T := T0) (E := E) (a := { tmps := _, defers := [] }) (S := Sc cfg.lp (updP cfg.lp d z)) (ds := []) (round := none) (B := mP cfg.lp) (fun _ _ => trivial) hm hFp hcl hfr htt assign hok.1 p (by rw [Sc_next]; omega) (fun _ _ => trivial) hfr1 ⟨rfl, fun D hD => by cases hD⟩ (fun h => by rw [hrf.1] at h; cases h) hrun1 (fun _ _ => trivial) (fun _ _ => trivial) ?_
  intro E1 a1 k1 k2 kB
  rw [he1]
  have hb1 := kB.apart p hb
  have hl1 : E1.w.heap[b]? = some (.loop rec) := (kB.at_same p hb).trans hl
  have p1 : Pre T0 E1 r1.S := kB.pre fun _ _ => trivial
  have hbg := run_beginRound (P := P) hl1 hr1
  refine ⟨_, hbg, ?_⟩
  generalize hW : (E1.w.putObj b (.loop { rec with state := .busy })) = W1
  have hs1 : Beside b E1.w W1 := by rw [← hW]; exact Beside.put _ _ _
  have hW1 : W1.heap[b]? = some (.loop { rec with state := .busy }) := by rw [← hW]; exact World.putObj_heap_same (heap_lt hl1)
  obtain ⟨hle2, p2, hb2⟩ := p1.beside hb1 hs1
  have hs0 : Beside b E.w (E.w.putObj b (.loop { rec with state := .busy })) := Beside.put _ _ _
  obtain ⟨hle0, p0, hb0⟩ := p.beside hb hs0
  have hw0 : (E.w.putObj b (.loop { rec with state := .busy })).heap[b]? = some (.loop { rec with state := .busy }) := World.putObj_heap_same hblt
  have kB2 := kB.beside p hb hs0 hs1 (by rw [hW1, hw0])
  rw [hr5]
  show body.wpIn _ 0 P _ a1 (E1.at_ W1).w
  rw [hds1] at k2
  refine icode_sound (T := T0) (E := E1.at_ W1) (a := a1) (S := r1.S) (ds := []) (round := none) (B := mP cfg.lp) (fun _ _ => trivial) hm hFp hcl hfr htt body hok.2 p2 kB.le (fun _ _ => trivial) (k1.mono hle2) (k2.mono hle2) (fun h => by rw [hrf.2] at h; cases h) hrun2 (fun _ _ => trivial) (fun _ _ => trivial) ?_
  intro E3 a3 m1 m2 mB
  have hall := kB2.trans mB
  have hargs0 : VRs (E.at_ (E.w.putObj b (.loop { rec with state := .busy }))) (argsP (sQ cfg.lp).ps idN 0 (updP cfg.lp d z)) (cfg.ls.map fun t => rec.tmps.getD t undef) := by
    show VRs _ (argsP cfg.lp idN 0 (updP cfg.lp d z)) _
    rw [argsP_upd]; exact hargs.mono hle0
  obtain ⟨E4, e4, _, q4⟩ := runQ_sound (s := sQ cfg.lp) (r := ⟨.tup [], r2.S, 0, 0⟩) (x := updP cfg.lp d z) (y := y.1) (z := y.2) (u := .tuple #[]) hq p0 hargs0 hall (.tup (us := []) rfl (fun i h => by simp at h))
  have hb4 := q4.apart p0 hb0
  have hl4 : E4.w.heap[b]? = some (.loop { rec with state := .busy }) := (q4.at_same p0 hb0).trans hw0
  have hend := fun j => run_endRound (P := P) j hl4
  have hs4 : Beside b E4.w (E4.w.putObj b (.loop rec)) := Beside.put _ _ _
  have hback := q4.beside p0 hb0 hs0.symm hs4 (by rw [World.putObj_heap_same (heap_lt hl4)]; exact hl.symm)
  have hfin : PostB (mP cfg.lp) T0 E (Sc cfg.lp (updP cfg.lp d z)) (E4.at_ (E4.w.putObj b (.loop rec))) (Sc cfg.lp (updP cfg.lp d y.2)) := by
    have e1 : ScB (sQ cfg.lp) y.1 y.2 = Sc cfg.lp (updP cfg.lp d y.2) := ScB_upd cfg.lp d y.2
    rw [e1] at hback
    exact hback
  rw [← e4]
  have hrec : ({ rec with state := .ready, pending := none } : Loop) = rec := by
    cases rec; cases hr1; cases hr2; rfl
  have hstop : ∀ cd, ∃ v w', (Instr.endRound b (some cd)).run P E4.w = .ok v w' ∧ ∃ E', PostB (mP cfg.lp) T0 E (Sc cfg.lp (updP cfg.lp d z)) E' (Sc cfg.lp (updP cfg.lp d y.2)) ∧
      ((some cd = none ∧ Ending.returned v = .returned (.bool true) ∧ w' = E'.w) ∨ ∃ cd', some cd = some cd' ∧ Ending.returned v = .returned (.bool false) ∧ Upd [b] E'.w w' ∧ w'.heap[b]? = some (.loop { rec with state := .done, pending := some cd' })) := fun cd => by
    refine ⟨_, _, hend (some cd), E4.at_ (E4.w.putObj b (.loop rec)), hfin, .inr ⟨cd, rfl, rfl, ?_, ?_⟩⟩
    · exact hs4.symm.upd.trans ((Beside.put E4.w b _).upd)
    · exact World.putObj_heap_same (heap_lt hl4)
  cases he : r2.e with
  | normal =>
    refine ⟨_, _, hend none, E4.at_ (E4.w.putObj b (.loop rec)), hfin, .inl ⟨rfl, rfl, ?_⟩⟩
    show E4.w.putObj b (.loop { rec with state := .ready, pending := none }) = E4.w.putObj b (.loop rec)
    rw [hrec]
  | ret =>
    obtain ⟨v, w', g1, E', g2, g3⟩ := hstop .ret
    refine ⟨v, w', g1, E', g2, ?_⟩
    rcases g3 with ⟨g3, _⟩ | ⟨cd, g3, g4, g5, g6⟩
    · cases g3
    · exact .inr ⟨cd, g3, g4, g5, by rw [hr4, hr5] at g6; exact g6⟩
  | exit i =>
    obtain ⟨v, w', g1, E', g2, g3⟩ := hstop (.exit i)
    refine ⟨v, w', g1, E', g2, ?_⟩
    rcases g3 with ⟨g3, _⟩ | ⟨cd, g3, g4, g5, g6⟩
    · cases g3
    · exact .inr ⟨cd, g3, g4, g5, by rw [hr4, hr5] at g6; exact g6⟩
  | goto l =>
    obtain ⟨v, w', g1, E', g2, g3⟩ := hstop (.goto l)
    refine ⟨v, w', g1, E', g2, ?_⟩
    rcases g3 with ⟨g3, _⟩ | ⟨cd, g3, g4, g5, g6⟩
    · cases g3
    · exact .inr ⟨cd, g3, g4, g5, by rw [hr4, hr5] at g6; exact g6⟩
end
end Go.Jx
end

/- A range over an iterator as a fold over what it hands over. -/
section
set_option linter.unusedVariables false
namespace Go.Jx
open Go Go.Sx Go.RowKit
universe u

/-- What an iterator promises: it hands over these values one after the other, until it is told to stop. -/
def IterS (P : Program) (gf : Nat) (us : List Value) (Rd : World → Prop) {α : Type} (V : α → Value → Prop) (xs : List α) : Prop :=
  ∀ (l : Nat) (J : List α → World → Prop) (K : World → Prop) (W : World), (∀ s A B, J s A → Upd [] A B → J s B) → (∀ A B, K A → Upd [] A B → K B) → (∀ s A, J s A → Rd A) →
    (∀ pre x post A u, xs = pre ++ x :: post → J pre A → V x u → YieldAt Fence.wide 0 P l #[u] A fun e B => (e = .returned (.bool true) ∧ J (pre ++ [x]) B) ∨ (e = .returned (.bool false) ∧ K B)) →
    J [] W → CallsIn Fence.wide 0 P gf (#[.func (.yield l) #[] #[]] ++ us.toArray) W fun e B => e = .returned (.tuple #[]) ∧ (J xs B ∨ K B)
structure SmI where
  ips : List PK
  c : TC
  xs : ElP ips → Option (List (El c))
def ReadI (E : Env) (s : SmI) (x : ElP s.ips) (us : List Value) (rows : List Nat) : Prop :=
  (∀ ρ k, Nums ρ k rows → VRs E (argsP s.ips ρ k x) us) ∧ RowsAt E rows (rowsP s.ips idN 0 x)
structure ConI (P : Program) (f : Nat) (s : SmI) : Prop where
  callable : Callable P f
  sc : scal s.c = true
  ns : nP s.ips = 0
  it : ∀ (E : Env) (x : ElP s.ips) (us : List Value) (rows : List Nat) (l : List (El s.c)), s.xs x = some l → ReadI E s x us rows →
    IterS P f us (fun W => E.Le (E.at_ W) ∧ ∀ id ∈ rows, W.heap[E.ρ id]? = E.w.heap[E.ρ id]?) (fun x u => ∀ E, VR E (asIV s.c x) u) l
def refsP : (l : List PK) → ElP l → ElP (refs l)
  | [], _ => ()
  | .dat _ :: l, x => refsP l x.2
  | .fn _ :: l, x => refsP l x
  | .ref _ :: l, x => (x.1, refsP l x.2)
theorem updP_refs : ∀ (l : List PK) (x : ElP l), updP l x (refsP l x) = x
  | [], _ => rfl
  | .dat c :: l, x => congrArg (fun q => (x.1, q)) (updP_refs l x.2)
  | .fn _ :: l, x => updP_refs l x
  | .ref r :: l, x => congrArg (fun q => (x.1, q)) (updP_refs l x.2)
theorem foldB_app {D α : Type} (g : D → α → Option (D × Option Code)) : ∀ (pre post : List α) (z z' : D), foldB g pre z = some (z', none) → foldB g (pre ++ post) z = foldB g post z'
  | [], post, z, z', h => by cases h; rfl
  | x :: pre, post, z, z', h => by
    simp only [foldB, List.cons_append] at h ⊢
    cases hg : g z x with
    | none => rw [hg] at h; cases h
    | some q =>
      obtain ⟨z1, e⟩ := q
      rw [hg] at h
      cases e with
      | none => exact foldB_app g pre post z1 z' h
      | some e => cases h
section
variable (P : Program) (tt : Nat → Option TI)
def itB (S2 : IS) (cfg : LpC) (id nt : Nat) (irows rows subs : List Nat) (w2 : Nat) (assign body : Code) : Bool :=
  ndB (id :: (irows ++ (rows ++ subs))) && (irows.all (rowB S2) && (rows.all (rowB S2) && (codeOK assign && (codeOK body && (!hasRF assign && (!hasRF body && (cfg.ls.all (fun t => Nat.blt t nt) && !w2.testBit id)))))))
def itEnd (S2 : IS) (cfg : LpC) (id nt : Nat) (fr : PT IV) (pr D : Nat) (assign body : Code) (irows rows subs : List Nat) (w : Nat) (q : ElP (refs cfg.lp) × Option Code) : Res :=
  ⟨.tup [], (backS (sQ cfg.lp) S2.next rows subs () q.1 S2).set id (.loop (cond q.2.isNone .ready .done) q.2 nt fr [pr] assign body D), 2 ^ id, 2 ^ id ||| (w ||| bitsL (irows ++ (rows ++ subs)))⟩
def itF (s : SmI) (cfg : LpC) (lf : Nat) (cl : Cl) (vs : List IV) (S : IS) : Option Res := match vs with
  | .yield id :: caps => match rdP s.ips S caps with
    | none => none
    | some (xi, irows, _, S1, w1) => match S1.heap.get id with
      | some (.loop .ready none nt fr [pr] assign body D) => match rdP cfg.lp S1 (cfg.ls.map (slot fr)) with
        | none => none
        | some (d0, rows, subs, S2, w2) => cond (itB S2 cfg id nt irows rows subs w2 assign body) (match fiP cfg.lp subs S2 d0 with
          | none => none
          | some d => match s.xs xi with
            | none => none
            | some l => match foldB (stepB P tt cfg s.c nt lf cl pr assign body d) l (refsP cfg.lp d) with
              | none => none
              | some q => some (itEnd S2 cfg id nt fr pr D assign body irows rows subs (w1 ||| w2) q)) none
      | _ => none
  | _ => none
end
section
variable {P : Program} {tt : Nat → Option TI}
theorem itF_inv {s : SmI} {cfg : LpC} {lf : Nat} {cl : Cl} {vs : List IV} {S : IS} {r : Res} (h : itF P tt s cfg lf cl vs S = some r) :
    ∃ id caps xi irows isubs S1 w1 nt fr pr assign body D d0 rows subs S2 w2 d l q, vs = .yield id :: caps ∧ rdP s.ips S caps = some (xi, irows, isubs, S1, w1) ∧ S1.heap.get id = some (.loop .ready none nt fr [pr] assign body D) ∧
      rdP cfg.lp S1 (cfg.ls.map (slot fr)) = some (d0, rows, subs, S2, w2) ∧ itB S2 cfg id nt irows rows subs w2 assign body = true ∧ fiP cfg.lp subs S2 d0 = some d ∧ s.xs xi = some l ∧
      foldB (stepB P tt cfg s.c nt lf cl pr assign body d) l (refsP cfg.lp d) = some q ∧ r = itEnd S2 cfg id nt fr pr D assign body irows rows subs (w1 ||| w2) q := by
  unfold itF at h
  split at h <;> try cases h
  rename_i id caps
  split at h
  · cases h
  rename_i xi irows isubs S1 w1 h1
  split at h <;> try cases h
  rename_i nt fr pr assign body D ho
  split at h
  · cases h
  rename_i d0 rows subs S2 w2 h2
  cases hb : itB S2 cfg id nt irows rows subs w2 assign body with
  | false => rw [hb] at h; cases h
  | true =>
  rw [hb, cond_true] at h
  split at h
  · cases h
  rename_i d h3
  split at h
  · cases h
  rename_i l h4
  split at h <;> cases h
  rename_i q h5
  exact ⟨id, caps, xi, irows, isubs, S1, w1, nt, fr, pr, assign, body, D, d0, rows, subs, S2, w2, d, l, q, rfl, h1, ho, h2, hb, h3, h4, h5, rfl⟩
theorem itF_fr {s : SmI} {cfg : LpC} {lf : Nat} {cl : Cl} {vs : List IV} {S : IS} : FrO S (itF P tt s cfg lf cl vs S) := fun r h => by
  obtain ⟨id, caps, xi, irows, isubs, S1, w1, nt, fr, pr, assign, body, D, d0, rows, subs, S2, w2, d, l, q, rfl, h1, ho, h2, hb, h3, h4, h5, rfl⟩ := itF_inv h
  have k1 := rdP_fr _ h1
  have k2 := rdP_fr _ h2
  have k3 := (killL_fr subs S2).trans ((setL_fr rows (rowsP (refs cfg.lp) (fun k => S2.next + (k - mP cfg.lp)) (mP cfg.lp) q.1) _).trans (addO_fr (newO (sQ cfg.lp) () q.1) _ 0))
  have k4 := (k1.trans k2).trans (k3.trans (FrX.set _ id (.loop (cond q.2.isNone .ready .done) q.2 nt fr [pr] assign body D)))
  refine ⟨k4.1, fun i hi hbit => k4.2 i hi ?_⟩
  have hbit : (2 ^ id ||| ((w1 ||| w2) ||| bitsL (irows ++ (rows ++ subs)))).testBit i = false := hbit
  simp only [bitsL_app, Nat.testBit_or, Bool.or_eq_false_iff, Nat.zero_testBit] at hbit ⊢
  obtain ⟨a, ⟨b, c⟩, _, e, f⟩ := hbit
  exact ⟨⟨b, c⟩, ⟨f, e, trivial⟩, a⟩
theorem itF_calm {s : SmI} {cfg : LpC} {lf : Nat} {cl : Cl} {vs : List IV} {S : IS} {r : Res} (h : itF P tt s cfg lf cl vs S = some r) (hw : r.wr = 0) : False := by
  obtain ⟨id, caps, xi, irows, isubs, S1, w1, nt, fr, pr, assign, body, D, d0, rows, subs, S2, w2, d, l, q, rfl, h1, ho, h2, hb, h3, h4, h5, rfl⟩ := itF_inv h
  have : 2 ^ id = 0 := (or_zero hw).1
  have := Nat.one_le_two_pow (n := id)
  omega
end
end Go.Jx
end

/- A range over an iterator as a fold: it is right. -/
section
set_option linter.unusedVariables false
namespace Go.Jx
open Go Go.Sx Go.RowKit
universe u

section
variable {P : Program} {tt : Nat → Option TI}
theorem itF_sound (hm : P.follows .mixedOrders = true) (htt : TT P tt) {f : Nat} {s : SmI} {cfg : LpC} {lf : Nat} (hc : ConI P f s) {cl : Cl} (hcl : ClOK P cl) (hfr : ClFr cl) {vs : List IV} {S : IS} {r : Res} (h : itF P tt s cfg lf cl vs S = some r)
    {T : TW} {E : Env} {us : List Value} (p : Pre T E S) (hrd : tin T.r r.rd) (hwr : tin T.w r.wr) (hv : VRs E vs us) : Callable P f ∧ CallsIn Fence.wide 0 P f us.toArray E.w (RetE T E S r) := by
  refine ⟨hc.callable, ?_⟩
  obtain ⟨id, caps, xi, irows, isubs, S1, w1, nt, fr, pr, assign, body, D, d0, rows, subs, S2, w2, d, l, q, rfl, h1, ho, h2, hb, h3, h4, h5, rfl⟩ := itF_inv h
  obtain ⟨t1, t2⟩ := tin_or hwr
  obtain ⟨t3, t4⟩ := tin_or t2
  obtain ⟨t5, t6⟩ := tin_or t3
  have hTid := tin_bit t1
  have hbits := bitsL_mem t4
  unfold itB at hb
  simp only [Bool.and_eq_true] at hb
  obtain ⟨b1, b2, b3, b4, b5, b6, b7, b8, b9⟩ := hb
  have hnd := ndB_nodup b1
  obtain ⟨u0, us, rfl, a1, a2⟩ := hv.inv
  have hA : E.A id := by cases a1; assumption
  obtain ⟨E1, e1, q1, f1, il1, il2, iA, ib2, ib3⟩ := rdP_sound s.ips h1 p t5 a2
  have p1 := q1.pre p
  have hle1 := q1.env p
  obtain ⟨z1, z2, z3, z4, z5⟩ := hle1.alw id hA
  obtain ⟨fn, tmps, g1, g2, g3⟩ := p1.st.objs id (T.sub _ hTid) z1 _ ho
  have hls : VRs E1 (cfg.ls.map (slot fr)) (cfg.ls.map fun t => tmps.getD t undef) := ⟨by simp, fun i hi hi2 => by
    simp only [List.getElem_map]
    refine g2.get _ ?_
    have := (List.all_eq_true.1 b8) (cfg.ls[i]'(by simpa using hi)) (List.getElem_mem _)
    simpa using this⟩
  obtain ⟨E2, e2, q2, f2, l1, l2, A2, c2, c3⟩ := rdP_sound cfg.lp h2 p1 t6 hls
  have p2 := q2.pre p1
  have hle2 := q2.env p1
  obtain ⟨y1, y2, y3⟩ := fiP_spec cfg.lp h3 l2
  have hq12 := Post.trans p q1 f1 q2
  have hf12 := f1.trans f2 q1.le
  have hS2 : S2.H id = some (.loop .ready none nt fr [pr] assign body D) := by
    rw [(rdP_fr _ h2).2 id (p1.bnd id z1) (by simpa using b9)]; exact ho
  obtain ⟨hA2, x2, x3, x4, x5⟩ := hle2.alw id z1
  obtain ⟨fn', tmps', g1', g2', g3'⟩ := p2.st.objs id (T.sub _ hTid) hA2 _ hS2
  obtain ⟨nq1, nq2⟩ := List.nodup_cons.1 hnd
  have nq3 := (List.nodup_append.1 nq2)
  have hheld : Held T E2 S2 cfg.lp d rows subs := ⟨l1, l2, nq3.2.1, fun i hi => hbits i (List.mem_append_right _ hi), A2, fun ι hι => by rw [y1]; exact c3 _ _ hι,
    fun i hi => rowB_spec ((List.all_eq_true.1 b3) i hi), y3⟩
  have hidq : id ∉ rows ++ subs := fun hi => nq1 (List.mem_append_right _ hi)
  have hirq : ∀ i, i ∈ irows → i ∉ rows ++ subs := fun i h1 h2 => nq3.2.2 i h1 i h2 rfl
  have p0 := hheld.pre p2
  have hlive : Live E2 S2.H id := ⟨p2.st.blk id (T.sub _ hTid) hA2 _ hS2 rfl, _, hS2, rfl⟩
  have hfar : ∀ i, i ∉ rows ++ subs → T.r i → E2.A i → Live E2 S2.H i → ∀ k, (renE 0 (rows ++ subs) E2).A k → Live (renE 0 (rows ++ subs) E2) (Sc cfg.lp d).H k → (renE 0 (rows ++ subs) E2).ρ k ≠ E2.ρ i := fun i hi ht ha hl k hk hkl e => by
    have hk1 : k < (rows ++ subs).length := by have := hk.1; omega
    have hm1 := (ol_mem hk1).1
    obtain ⟨h0, o, ho1, ho2⟩ := hkl
    have hl2 : Live E2 S2.H (ol 0 (rows ++ subs) k) := ⟨h0, (hheld.obj p2 hk1 hk.2 ho1).live ho2⟩
    have := p2.st.inj _ _ (T.sub _ (hheld.w _ hm1)) ht hk.2 ha hl2 hl e
    exact hi (this ▸ hm1)
  have hap : Apart (renE 0 (rows ++ subs) E2) (Sc cfg.lp d) (E2.ρ id) := ⟨p2.st.own id (T.sub _ hTid) hA2 hlive, hfar id hidq (T.sub _ hTid) hA2 hlive⟩
  generalize hE0 : renE 0 (rows ++ subs) E2 = E0 at p0 hap hfar
  have hE0w : E0.w = E2.w := by rw [← hE0]; rfl
  have hE0m : E0.m = E2.m := by rw [← hE0]; rfl
  generalize hbk : E2.ρ id = b at hap g1'
  obtain ⟨rec, hrec⟩ : ∃ rec : Loop, rec = { state := .ready, pending := none, fn := fn', tmps := tmps', params := [pr].toArray, assign := assign, body := body, defers := E2.ρ D } := ⟨_, rfl⟩
  have hl0 : E0.w.heap[b]? = some (.loop rec) := by rw [hE0w, g1', hrec]
  have htm : tmps' = tmps := by
    have h1 := g1'
    rw [e2, ← hbk, x2, g1] at h1
    have h1 := Option.some.inj h1
    injection h1 with h1
    injection h1 with _ _ _ h1
    exact h1.symm
  have hargs : VRs E0 (argsP cfg.lp idN 0 d) (cfg.ls.map fun t => rec.tmps.getD t undef) := by
    have e : rec.tmps = tmps := by rw [hrec]; exact htm
    rw [e, ← hE0]
    exact argsP_env (E := E2) (E' := renE 0 (rows ++ subs) E2) (ρ := ol 0 (rows ++ subs)) (fun _ h => h) rfl cfg.lp (fun j a b => Held.numTo E2 _ (by rw [hheld.len]; omega)) (by rw [y2]; exact c2 _ _ hheld.num.1)
  generalize hg : stepB P tt cfg s.c nt lf cl pr assign body d = g at h5
  have hd0 : updP cfg.lp d (refsP cfg.lp d) = d := updP_refs _ _
  have hT0 : ∀ id, mP cfg.lp ≤ id → T0.w id := fun _ _ => trivial
  -- the two states of affairs
  let J : List (El s.c) → World → Prop := fun pre W => ∃ z Ei, foldB g pre (refsP cfg.lp d) = some (z, none) ∧ PostB (mP cfg.lp) T0 E0 (Sc cfg.lp d) Ei (Sc cfg.lp (updP cfg.lp d z)) ∧ Ei.w = W
  let K : World → Prop := fun W => ∃ z cd Ei, foldB g l (refsP cfg.lp d) = some (z, some cd) ∧ PostB (mP cfg.lp) T0 E0 (Sc cfg.lp d) Ei (Sc cfg.lp (updP cfg.lp d z)) ∧ Upd [b] Ei.w W ∧ W.heap[b]? = some (.loop { rec with state := .done, pending := some cd })
  have hJ0 : J [] E0.w := ⟨refsP cfg.lp d, E0, rfl, by rw [hd0]; exact PostB.refl (by rw [Sc_next]; omega) hT0 p0, rfl⟩
  have hJu : ∀ s A B, J s A → Upd [] A B → J s B := fun pre A B ⟨z, Ei, k1, k2, k3⟩ u => by
    subst k3
    obtain ⟨i1, i2⟩ := Post.idle (k2.pre hT0) u
    exact ⟨z, Ei.at_ B, k1, k2.trans (PostB.of k2.le hT0 i1 i2), rfl⟩
  have hKu : ∀ A B, K A → Upd [] A B → K B := fun A B ⟨z, cd, Ei, k1, k2, k3, k4⟩ u => ⟨z, cd, Ei, k1, k2, k3.trans (u.mono (by simp)), (u.same _ (heap_lt k4) (by simp)).trans k4⟩
  have hns : Nums idN 0 isubs := by
    have : isubs = [] := List.length_eq_zero_iff.1 (by rw [il2, hc.ns])
    rw [this]; intro j id hj; simp at hj
  have hrow : ∀ (j : Nat) (o : IObj), (rowsP s.ips idN 0 xi)[j]? = some o → ∃ i, irows[j]? = some i ∧ E2.A i ∧ E2.hb i = true ∧ OR E2 i o := fun j o hj => by
    obtain ⟨i, i1, i2, i3, i4⟩ := ib3 idN 0 hns j o hj
    obtain ⟨j1, j2, j3, j4, j5⟩ := hle2.alw i i2
    exact ⟨i, i1, j1, j5.trans i3, i4.mono hle2 i2 (fun _ => i3) (fun _ _ => by rw [e2])⟩
  have hread : ReadI E2 s xi us irows := ⟨fun ρ k hk => (ib2 ρ k hk).mono hle2, hrow⟩
  have hRd : ∀ pre A, J pre A → E2.Le (E2.at_ A) ∧ ∀ i ∈ irows, A.heap[E2.ρ i]? = E2.w.heap[E2.ρ i]? := fun pre A ⟨z, Ei, k1, k2, k3⟩ => by
    subst k3
    have hsame : ∀ x, x < E2.w.heap.size → (∀ k, E0.A k → Live E0 (Sc cfg.lp d).H k → E0.ρ k ≠ x) → Ei.w.heap[x]? = E2.w.heap[x]? := fun x hx hn => by
      rw [← hE0w]; exact k2.same x (by rw [hE0w]; exact hx) fun k _ => hn k
    have hle : E2.Le (E2.at_ Ei.w) := ⟨fun _ h => ⟨h, rfl, rfl, rfl, rfl⟩, ⟨fun x hx hxm => ⟨hxm, hsame x hx fun k ha hl e => hxm (by rw [← e, ← hE0m]; exact p0.st.own k trivial ha hl)⟩⟩⟩
    refine ⟨hle, fun i hin => ?_⟩
    obtain ⟨j, hj, rfl⟩ := List.mem_iff_getElem.1 hin
    have hj2 : j < (rowsP s.ips idN 0 xi).length := by rw [rowsP_len, ← il1]; exact hj
    obtain ⟨i, i1, i2, i3, i4⟩ := hrow j _ (List.getElem?_eq_getElem hj2)
    rw [List.getElem?_eq_getElem hj] at i1
    cases i1
    obtain ⟨cs, hcs⟩ := rowB_spec ((List.all_eq_true.1 b2) _ hin)
    have hTi : T.r irows[j] := T.sub _ (hbits _ (List.mem_append_left _ hin))
    have hlt : E2.ρ irows[j] < E2.w.heap.size := p2.st.lo _ (p2.st.own _ hTi i2 ⟨i3, _, hcs, rfl⟩)
    exact hsame _ hlt (hfar _ (hirq _ hin) hTi i2 ⟨i3, _, hcs, rfl⟩)
  have hround : ∀ pre x post A u, l = pre ++ x :: post → J pre A → (∀ E, VR E (asIV s.c x) u) → YieldAt Fence.wide 0 P b #[u] A fun e B => (e = .returned (.bool true) ∧ J (pre ++ [x]) B) ∨ (e = .returned (.bool false) ∧ K B) := fun pre x post A u hl ⟨z, Ei, k1, k2, k3⟩ hu => by
    subst k3
    have hwhole : foldB g (x :: post) z = some q := by
      rw [← foldB_app g pre (x :: post) _ _ k1, ← hl]; exact h5
    have hsnoc : foldB g (pre ++ [x]) (refsP cfg.lp d) = foldB g [x] z := foldB_app g pre [x] _ _ k1
    cases hgx : g z x with
    | none => simp only [foldB, hgx] at hwhole; cases hwhole
    | some q1 =>
    obtain ⟨z1, e⟩ := q1
    rw [← hg] at hgx
    have hlow : (E0.bel (mP cfg.lp)).Le Ei := k2.env p0
    have hargsB : VRs (E0.bel (mP cfg.lp)) (argsP cfg.lp idN 0 d) (cfg.ls.map fun t => rec.tmps.getD t undef) :=
      argsP_env (E := E0) (E' := E0.bel (mP cfg.lp)) (ρ := idN) (fun _ h => h) rfl cfg.lp (fun j _ hj hA => ⟨⟨hA, by show j < mP cfg.lp; omega⟩, rfl, rfl, rfl, rfl⟩) hargs
    have hst := step_round (E := Ei) (b := b) (rec := rec) hm hcl hfr htt hgx ⟨b4, b5⟩ ⟨by simpa using b6, by simpa using b7⟩ (k2.pre hT0) (k2.apart p0 hap) ((k2.at_same p0 hap).trans hl0)
      (by rw [hrec]; exact ⟨rfl, rfl, rfl, rfl, rfl, g2'.size⟩) (hargsB.mono hlow) (hu Ei)
    obtain ⟨fnr, tmpr, asr, bdr, hyr, hRr⟩ := hst
    refine ⟨fnr, tmpr, asr, bdr, hyr, hRr.mono fun en B hB => ?_⟩
    obtain ⟨E', m1, m2⟩ := hB
    have hall := k2.trans m1
    rw [hg] at hgx
    rcases m2 with ⟨rfl, rfl, rfl⟩ | ⟨cd, rfl, rfl, m3, m4⟩
    · refine .inl ⟨rfl, z1, E', ?_, hall, rfl⟩
      rw [hsnoc]; simp only [foldB, hgx]
    · refine .inr ⟨rfl, z1, cd, E', ?_, hall, m3, m4⟩
      rw [hl, foldB_app g pre (x :: post) _ _ k1]; simp only [foldB, hgx]
  have hit := hc.it E2 xi us irows l h4 hread b J K E0.w hJu hKu hRd hround hJ0
  have hu0 : u0 = .func (.yield b) #[] #[] := by
    cases a1
    rw [← hbk, x2, z2]
  have hw : E0.w = E.w := by rw [hE0w, e2, e1]
  rw [hw] at hit
  rw [hu0, show (Value.func (.yield b) #[] #[] :: us).toArray = #[.func (.yield b) #[] #[]] ++ us.toArray by simp]
  refine hit.mono fun en B ⟨hen, hB⟩ => ?_
  -- what comes back
  have hfin : ∀ (z : ElP (refs cfg.lp)) (pe : Option Code) (Ei : Env), q = (z, pe) → PostB (mP cfg.lp) T0 E0 (Sc cfg.lp d) Ei (Sc cfg.lp (updP cfg.lp d z)) → Upd [b] Ei.w B →
      B.heap[b]? = some (.loop { rec with state := cond pe.isNone .ready .done, pending := pe }) → RetE T E S (itEnd S2 cfg id nt fr pr D assign body irows rows subs (w1 ||| w2) q) en B := fun z pe Ei hqz k2 hup hbl => by
    subst hqz
    rw [← ScB_upd cfg.lp d z, ← hE0] at k2
    obtain ⟨m1, m2⟩ := hheld.back (s := sQ cfg.lp) (x := d) p2 k2
    have p3 := m1.pre p2
    have hle3 := m1.env p2
    obtain ⟨n1, n2, n3, n4, n5⟩ := hle3.alw id hA2
    have hlt : id < S2.next := p2.bnd id hA2
    have hobj : (backS (sQ cfg.lp) S2.next rows subs () z S2).H id = some (.loop .ready none nt fr [pr] assign body D) := by
      unfold backS
      rw [addO_H, setL_next, killL_next, if_pos hlt, setL_out (fun h => hidq (List.mem_append_left _ h)), killL_out (fun h => hidq (List.mem_append_right _ h))]; exact hS2
    have hL3 : Live (mrgR E2 Ei S2.next (mP (sQ cfg.lp).ps)) (backS (sQ cfg.lp) S2.next rows subs () z S2).H id := ⟨n5.trans hlive.1, _, hobj, rfl⟩
    have hub : Upd [(mrgR E2 Ei S2.next (mP (sQ cfg.lp).ps)).ρ id] (mrgR E2 Ei S2.next (mP (sQ cfg.lp).ps)).w B := by rw [n2, hbk]; exact hup
    have hle4 := Env.at_le p3.st hTid n1 hL3 hub
    obtain ⟨w1', w2'⟩ := Post.write p3 (o' := .loop (cond pe.isNone .ready .done) pe nt fr [pr] assign body D) hTid n1 hL3 hub ⟨fn', tmps', by
      show B.heap[(mrgR E2 Ei S2.next (mP (sQ cfg.lp).ps)).ρ id]? = _
      rw [n2, hbk, hbl, hrec]
      have : E2.ρ D = (mrgR E2 Ei S2.next (mP (sQ cfg.lp).ps)).ρ D := ((hle3.alw D g3').2.1).symm
      show some (Obj.loop { state := cond pe.isNone .ready .done, pending := pe, fn := fn', tmps := tmps', params := [pr].toArray, assign := assign, body := body, defers := E2.ρ D }) = _
      rw [this]; rfl, (g2'.mono hle3).mono hle4, (hle4.alw D (hle3.alw D g3').1).1⟩
    have r1 := Post.trans p hq12 hf12 m1
    have rf1 := hf12.trans m2 hq12.le
    exact ⟨_, _, hen, rfl, .tup (us := []) rfl (fun i h => by simp at h), Post.trans p r1 rf1 w1', rf1.trans w2' r1.le⟩
  rcases hB with ⟨z, Ei, k1, k2, k3⟩ | ⟨z, cd, Ei, k1, k2, k3, k4⟩
  · refine hfin z none Ei (Option.some.inj (h5.symm.trans k1)) k2 (by rw [k3]; exact Upd.refl _ _) ?_
    rw [← k3, (k2.at_same p0 hap).trans hl0, hrec]; rfl
  · exact hfin z (some cd) Ei (Option.some.inj (h5.symm.trans k1)) k2 k3 k4
end
end Go.Jx
end

/- Ranges over iterators whose rounds all end normally. -/
section
set_option linter.unusedVariables false
namespace Go.Jx
open Go Go.Sx Go.RowKit
universe u

def foldN {D α : Type} (g : D → α → Option D) : List α → D → Option D
  | [], d => some d
  | x :: xs, d => match g d x with
    | none => none
    | some d' => foldN g xs d'
def plainR {D : Type} : Option (D × Option Code) → Option D
  | some (d, none) => some d
  | _ => none
theorem foldN_B {D α : Type} (g : D → α → Option (D × Option Code)) : ∀ (xs : List α) (d d' : D), foldN (fun d x => plainR (g d x)) xs d = some d' → foldB g xs d = some (d', none)
  | [], d, d', h => by cases h; rfl
  | x :: xs, d, d', h => by
    simp only [foldN, foldB] at h ⊢
    cases hg : g d x with
    | none => rw [hg] at h; cases h
    | some q =>
      obtain ⟨z, e⟩ := q
      rw [hg] at h
      cases e with
      | none => exact foldN_B g xs z d' h
      | some e => cases h
section
variable (P : Program) (tt : Nat → Option TI)
def stepPK (cfg : LpC) (c : TC) (nt lf : Nat) (clP : ClP) (pr : Nat) (assign body : Code) (d : ElP cfg.lp) (z : ElP (refs cfg.lp)) (x : El c) : Option (ElP (refs cfg.lp)) :=
  icodeK P tt cfg.nm (mP cfg.lp) nt (clP (ElP (refs cfg.lp))) lf none assign (setPs [pr] [asIV c x] (putL cfg.ls (argsP cfg.lp idN 0 d) .leaf)) (Sc cfg.lp (updP cfg.lp d z)) [] fun r1 => match r1.e with
    | .normal => match r1.ds with
      | [] => icodeK P tt cfg.nm (mP cfg.lp) nt (clP (ElP (refs cfg.lp))) lf none body r1.fr r1.S [] fun r2 => match r2.ds with
          | [] => match r2.e with
            | .normal => match runQ (sQ cfg.lp) ⟨.tup [], r2.S, 0, 0⟩ with
              | none => none
              | some y => some y.2
            | _ => none
          | _ => none
      | _ => none
    | _ => none
theorem stepPK_eq {cfg : LpC} {c : TC} {nt lf : Nat} {cl : Cl} {clP : ClP} (hcl : ∀ R, ClEq cl (clP R)) (pr : Nat) (assign body : Code) (d : ElP cfg.lp) (z : ElP (refs cfg.lp)) (x : El c) :
    stepPK P tt cfg c nt lf clP pr assign body d z x = plainR (stepB P tt cfg c nt lf cl pr assign body d z x) := by
  unfold stepPK stepB
  rw [icodeK_eq (hcl _)]
  cases icode P tt cfg.nm (mP cfg.lp) nt cl lf none assign (setPs [pr] [asIV c x] (putL cfg.ls (argsP cfg.lp idN 0 d) .leaf)) (Sc cfg.lp (updP cfg.lp d z)) [] with
  | none => rfl
  | some r1 =>
    simp only [bd]
    cases r1.e <;> try rfl
    simp only
    cases r1.ds with
    | cons _ _ => rfl
    | nil =>
      simp only
      rw [icodeK_eq (hcl _)]
      cases icode P tt cfg.nm (mP cfg.lp) nt cl lf none body r1.fr r1.S [] with
      | none => rfl
      | some r2 =>
        simp only [bd]
        cases r2.ds with
        | cons _ _ => rfl
        | nil =>
          simp only
          cases r2.e <;> cases runQ (sQ cfg.lp) ⟨.tup [], r2.S, 0, 0⟩ <;> rfl
def itP (s : SmI) (cfg : LpC) (lf : Nat) (cl : Cl) (vs : List IV) (S : IS) : Option Res := match vs with
  | .yield id :: caps => match rdP s.ips S caps with
    | none => none
    | some (xi, irows, _, S1, w1) => match S1.heap.get id with
      | some (.loop .ready none nt fr [pr] assign body D) => match rdP cfg.lp S1 (cfg.ls.map (slot fr)) with
        | none => none
        | some (d0, rows, subs, S2, w2) => cond (itB S2 cfg id nt irows rows subs w2 assign body) (match fiP cfg.lp subs S2 d0 with
          | none => none
          | some d => match s.xs xi with
            | none => none
            | some l => match foldN (fun z x => plainR (stepB P tt cfg s.c nt lf cl pr assign body d z x)) l (refsP cfg.lp d) with
              | none => none
              | some z => some (itEnd S2 cfg id nt fr pr D assign body irows rows subs (w1 ||| w2) (z, none))) none
      | _ => none
  | _ => none
def itPK (s : SmI) (cfg : LpC) (lf : Nat) (clP : ClP) (R : Type) (vs : List IV) (S : IS) (kk : Res → Option R) : Option R := match vs with
  | .yield id :: caps => match rdP s.ips S caps with
    | none => none
    | some (xi, irows, _, S1, w1) => match S1.heap.get id with
      | some (.loop .ready none nt fr [pr] assign body D) => match rdP cfg.lp S1 (cfg.ls.map (slot fr)) with
        | none => none
        | some (d0, rows, subs, S2, w2) => cond (itB S2 cfg id nt irows rows subs w2 assign body) (match fiP cfg.lp subs S2 d0 with
          | none => none
          | some d => match s.xs xi with
            | none => none
            | some l => match foldN (stepPK P tt cfg s.c nt lf clP pr assign body d) l (refsP cfg.lp d) with
              | none => none
              | some z => kk (itEnd S2 cfg id nt fr pr D assign body irows rows subs (w1 ||| w2) (z, none))) none
      | _ => none
  | _ => none
end
section
variable {P : Program} {tt : Nat → Option TI}
theorem itPK_eq (s : SmI) (cfg : LpC) (lf : Nat) (cl : Cl) (clP : ClP) (hcl : ∀ R, ClEq cl (clP R)) (R : Type) (vs : List IV) (S : IS) (kk : Res → Option R) : itPK P tt s cfg lf clP R vs S kk = ob (itP P tt s cfg lf cl vs S) kk := by
  unfold itPK itP
  cases vs with
  | nil => rfl
  | cons v caps =>
  cases v <;> try rfl
  rename_i id
  simp only
  cases rdP s.ips S caps with
  | none => rfl
  | some a =>
  obtain ⟨xi, irows, _, S1, w1⟩ := a
  simp only
  cases S1.heap.get id with
  | none => rfl
  | some o =>
  cases o <;> try rfl
  rename_i st pe nt fr ps assign body D
  cases st <;> try rfl
  cases pe <;> try rfl
  cases ps with
  | nil => rfl
  | cons pr ps =>
  cases ps with
  | cons _ _ => rfl
  | nil =>
  simp only
  cases rdP cfg.lp S1 (cfg.ls.map (slot fr)) with
  | none => rfl
  | some b =>
  obtain ⟨d0, rows, subs, S2, w2⟩ := b
  simp only [ob_cond]
  cases fiP cfg.lp subs S2 d0 with
  | none => rfl
  | some d =>
  simp only
  cases s.xs xi with
  | none => rfl
  | some l =>
  have e : stepPK P tt cfg s.c nt lf clP pr assign body d = fun z x => plainR (stepB P tt cfg s.c nt lf cl pr assign body d z x) := by
    funext z x; exact stepPK_eq P tt hcl pr assign body d z x
  simp only [e]
  cases foldN (fun z x => plainR (stepB P tt cfg s.c nt lf cl pr assign body d z x)) l (refsP cfg.lp d) <;> rfl
theorem itP_F {s : SmI} {cfg : LpC} {lf : Nat} {cl : Cl} {vs : List IV} {S : IS} {r : Res} (h : itP P tt s cfg lf cl vs S = some r) : itF P tt s cfg lf cl vs S = some r := by
  unfold itP at h
  unfold itF
  split at h <;> try cases h
  try simp only
  split at h
  · cases h
  rename_i h1
  try rw [h1]
  try simp only
  split at h <;> try cases h
  rename_i h2
  try rw [h2]
  try simp only
  split at h
  · cases h
  rename_i h3
  try rw [h3]
  try simp only
  cases hb : itB _ cfg _ _ _ _ _ _ _ _ with
  | false => rw [hb] at h; cases h
  | true =>
  rw [hb] at h
  simp only [cond_true] at h ⊢
  split at h
  · cases h
  rename_i h4
  try rw [h4]
  try simp only
  split at h
  · cases h
  rename_i h5
  try rw [h5]
  try simp only
  split at h <;> cases h
  rename_i h6
  rw [foldN_B _ _ _ _ h6]
def itPx (P : Program) (tt : Nat → Option TI) (s : SmI) (cfg : LpC) (lf : Nat) : Hx := ⟨itP P tt s cfg lf, fun clP R vs S kk => itPK P tt s cfg lf clP R vs S kk, fun cl clP hcl R vs S kk => itPK_eq s cfg lf cl clP hcl R vs S kk⟩
theorem itPx_ok (hm : P.follows .mixedOrders = true) (htt : TT P tt) {f : Nat} {s : SmI} (cfg : LpC) (lf : Nat) (hc : ConI P f s) : HxOK P f (itPx P tt s cfg lf).f :=
  ⟨fun cl h1 h2 _ vs S r h T E us p hr hw hv => itF_sound hm htt hc h1 h2 (itP_F h) p hr hw hv, fun cl _ vs S r h => itF_fr r (itP_F h), fun cl _ vs S r h hw _ => (itF_calm (itP_F h) hw).elim⟩
/-- A table that says that the run is at the top. -/
def nmTop : Nat → Option Nm := fun k => cond (Nat.beq k 999999) (some ⟨[], [], [], [], [], 0, 0, false⟩) none
end
end Go.Jx
end

/- Made by program: plain forms of functions. -/
section
set_option linter.unusedVariables false
set_option maxRecDepth 100000
noncomputable section
namespace Go.Proofs.Ytcnhjofpmpipfaa
open Go Go.Sx Go.RowKit Go.Jx
def nm_slices_Equal_Val : Nat → Option Nm := fun k => cond (Nat.beq k 4) (some ⟨[0, 1, 12, 13], [], [], [], [], 0, 0, false⟩) (none)
def st_slices_Equal_Val : Nat → Bool := fun k => cond (Nat.beq k 4) true (false)
def hd_slices_Equal_Val : Nat → Bool := fun k => cond (Nat.beq k 4) true (false)
abbrev Rt_slices_Equal_Val : Type := Bool × Unit
def sml_slices_Equal_Val : List (Nat × Sm) := []
def hxl_slices_Equal_Val : List (Nat × Hx) := []
def cl_slices_Equal_Val (R : Type) (lf : Nat) : ClK R := icallK Try.prog ttT.get ftT.get (nm1 30 nm_slices_Equal_Val) (smL sml_slices_Equal_Val) (hxL hxl_slices_Equal_Val) lf 20 R
abbrev id_slices_Equal_Val : Nat := 30
def enc_slices_Equal_Val_4 (x1 : (List DVal)) (x2 : (List DVal)) (p : Int) : NRes := (NRes.mk (PT.node (some (IV.lst cVal x1)) (PT.node (some (IV.lst cVal x2)) PT.leaf (PT.node none PT.leaf (PT.node (some (IV.int Go.IntKind.i64 p)) PT.leaf PT.leaf))) (PT.node none (PT.node none PT.leaf (PT.node (some (IV.int Go.IntKind.i64 (Int.ofNat (List.length x1)))) PT.leaf PT.leaf)) PT.leaf)) (IS.mk PT.leaf 0) [] 0)
def R_slices_Equal_Val_in (lf : Nat) (x1 : (List DVal)) (x2 : (List DVal)) (L4 : Int → Option Rt_slices_Equal_Val) : Option Rt_slices_Equal_Val := (cond (Bool.not (ieqI (Int.ofNat (List.length x1)) (Int.ofNat (List.length x2)))) (some (Bool.false, ())) (L4 (Int.ofNat 0)))
def R_slices_Equal_Val_4 (lf : Nat) (x1 : (List DVal)) (x2 : (List DVal)) (L4 : Int → Option Rt_slices_Equal_Val) (p : Int) : Option Rt_slices_Equal_Val := (cond (iltI p (Int.ofNat (List.length x1))) (match (jget x1 p) with | .none  => none | .some v0 => (match (jget x2 p) with | .none  => none | .some v1 => (cond (Bool.not (Bool.and (keqI v0.1 v1.1) (Bool.and (keqI v0.2 v1.2) Bool.true))) (some (Bool.false, ())) (L4 (Go.IntKind.wrap Go.IntKind.i64 (Int.add p (Int.ofNat 1))))))) (some (Bool.true, ())))
theorem in_slices_Equal_Val (g : ElA [(.list cVal), (.list cVal)] → Option Rt_slices_Equal_Val) (J : Nat → List Nat → NRes → Option Rt_slices_Equal_Val) (lf : Nat) (x1 : (List DVal)) (x2 : (List DVal)) : icodeT Try.prog ttT.get nm_slices_Equal_Val fi30.nt (cl_slices_Equal_Val _ lf) lf st_slices_Equal_Val J fi30.body [] (argGo (argV [(.list cVal), (.list cVal)] (x1, x2, ())) 0 .leaf) S0 [] (lastK ttT.get fi30 ⟨[(.list cVal), (.list cVal)], [(false, .bool)], g⟩) = R_slices_Equal_Val_in lf x1 x2 (fun q => J 4 [lf] (enc_slices_Equal_Val_4 x1 x2 q)) := by kernel_rfl
theorem st_slices_Equal_Val_4 (g : ElA [(.list cVal), (.list cVal)] → Option Rt_slices_Equal_Val) (J : Nat → List Nat → NRes → Option Rt_slices_Equal_Val) (lf : Nat) (x1 : (List DVal)) (x2 : (List DVal)) (m1 : Nat) (p : Int) : icodeFT Try.prog ttT.get nm_slices_Equal_Val fi30.nt (cl_slices_Equal_Val _ lf) lf st_slices_Equal_Val J 4 fi30.body [] [m1] (enc_slices_Equal_Val_4 x1 x2 p) (lastK ttT.get fi30 ⟨[(.list cVal), (.list cVal)], [(false, .bool)], g⟩) = R_slices_Equal_Val_4 lf x1 x2 (fun q => J 4 [m1] (enc_slices_Equal_Val_4 x1 x2 q)) p := by kernel_rfl
theorem nd_slices_Equal_Val : (regs fi30.body).Nodup := by decide +kernel
theorem ok_slices_Equal_Val : okC nm_slices_Equal_Val st_slices_Equal_Val hd_slices_Equal_Val fi30.body none = true := by kernel_rfl
def A_slices_Equal_Val (g : ElA [(.list cVal), (.list cVal)] → Option Rt_slices_Equal_Val) (lf : Nat) : Nat → List Nat → NRes → Option Rt_slices_Equal_Val := atN Try.prog ttT.get nm_slices_Equal_Val fi30 ⟨[(.list cVal), (.list cVal)], [(false, .bool)], g⟩ (cl_slices_Equal_Val _ lf) lf hd_slices_Equal_Val
def G_slices_Equal_Val_4 (lf : Nat) (x1 : (List DVal)) (x2 : (List DVal)) : Nat → (Int) → Option Rt_slices_Equal_Val := rounds fun K p => R_slices_Equal_Val_4 lf x1 x2 K p
theorem at_slices_Equal_Val_4 (g : ElA [(.list cVal), (.list cVal)] → Option Rt_slices_Equal_Val) (lf : Nat) (x1 : (List DVal)) (x2 : (List DVal)) : ∀ (n : Nat) (p : Int), A_slices_Equal_Val g lf 4 [n] (enc_slices_Equal_Val_4 x1 x2 p) = G_slices_Equal_Val_4 lf x1 x2 n p
  | 0, p => atN_zero 4 [0] rfl _
  | n + 1, p => by
    have ih := at_slices_Equal_Val_4 g lf x1 x2 n
    refine (atN_eq (icallK_eq 20 _) nd_slices_Equal_Val ok_slices_Equal_Val 4 [n + 1] [n] rfl _).trans ((st_slices_Equal_Val_4 g (A_slices_Equal_Val g lf) lf x1 x2 n p).trans ?_)
    rw [(show (fun q => A_slices_Equal_Val g lf 4 [n] (enc_slices_Equal_Val_4 x1 x2 q)) = (fun q => G_slices_Equal_Val_4 lf x1 x2 n q) from funext ih)]
    rfl
def F_slices_Equal_Val (lf : Nat) (x1 : (List DVal)) (x2 : (List DVal)) : Option Rt_slices_Equal_Val := R_slices_Equal_Val_in lf x1 x2 (fun q => G_slices_Equal_Val_4 lf x1 x2 lf q)
theorem run_slices_Equal_Val (g : ElA [(.list cVal), (.list cVal)] → Option Rt_slices_Equal_Val) (lf : Nat) (x1 : (List DVal)) (x2 : (List DVal)) : icodeT Try.prog ttT.get nm_slices_Equal_Val fi30.nt (cl_slices_Equal_Val _ lf) lf st_slices_Equal_Val (A_slices_Equal_Val g lf) fi30.body [] (argGo (argV [(.list cVal), (.list cVal)] (x1, x2, ())) 0 .leaf) S0 [] (lastK ttT.get fi30 ⟨[(.list cVal), (.list cVal)], [(false, .bool)], g⟩) = F_slices_Equal_Val lf x1 x2 := by
    refine (in_slices_Equal_Val g (A_slices_Equal_Val g lf) lf x1 x2).trans ?_
    rw [(show (fun q => A_slices_Equal_Val g lf 4 [lf] (enc_slices_Equal_Val_4 x1 x2 q)) = (fun q => G_slices_Equal_Val_4 lf x1 x2 lf q) from funext fun q => at_slices_Equal_Val_4 g lf x1 x2 lf q)]
    rfl
theorem hxs_slices_Equal_Val : HxsOK Try.prog hxl_slices_Equal_Val := trivial
theorem mk_slices_Equal_Val {g : ElA [(.list cVal), (.list cVal)] → Option Rt_slices_Equal_Val} (hsm : SmOK Try.prog sml_slices_Equal_Val) (hg : ∀ (x : ElA [(.list cVal), (.list cVal)]) (y : Rt_slices_Equal_Val), WfA [(.list cVal), (.list cVal)] x → g x = some y → ∃ lf, F_slices_Equal_Val lf x.1 x.2.1 = some y) : Con Try.prog 30 ⟨[(.list cVal), (.list cVal)], [(false, .bool)], g⟩ :=
  conT (nmf := nm_slices_Equal_Val) (sml := sml_slices_Equal_Val) (hxl := hxl_slices_Equal_Val) (st := st_slices_Equal_Val) (hd := hd_slices_Equal_Val) 20 mixed ttOK ftOK hsm hxs_slices_Equal_Val cal30 rfl rfl (by kernel_rfl) (fun x => by kernel_rfl) nd_slices_Equal_Val ok_slices_Equal_Val fun x y hx hy => by
    obtain ⟨lf, h⟩ := hg x y hx hy
    exact ⟨lf, (run_slices_Equal_Val g lf x.1 x.2.1).trans h⟩
end Go.Proofs.Ytcnhjofpmpipfaa

end
end

/- Equal lists of values. -/
section
set_option linter.unusedVariables false
namespace Go.Proofs.Ytcnhjofpmpipfaa
open Go Go.Sx Go.RowKit Go.Jx
def S.eqVal (a b : DVal) : Bool := keqI (a : Int × Int).1 (b : Int × Int).1 && (keqI (a : Int × Int).2 (b : Int × Int).2 && true)
def S.eqVals : List DVal → List DVal → Bool
  | [], [] => true
  | a :: x, b :: y => S.eqVal a b && S.eqVals x y
  | _, _ => false
theorem eqVals_len : ∀ {a b : List DVal}, S.eqVals a b = true → a.length = b.length
  | [], [], _ => rfl
  | [], _ :: _, h => by cases h
  | _ :: _, [], h => by cases h
  | a :: x, b :: y, h => by
    simp only [S.eqVals, Bool.and_eq_true] at h
    simp [eqVals_len h.2]
def sp_slices_Equal_Val : Sm := ⟨[.list cVal, .list cVal], [(false, .bool)], fun x => some (S.eqVals x.1 x.2.1, ())⟩
theorem run_Equal_Val (a b : List DVal) (ha : a.length < LF) : F_slices_Equal_Val LF a b = some (S.eqVals a b, ()) := by
  simp only [F_slices_Equal_Val, R_slices_Equal_Val_in]
  by_cases hl : a.length = b.length
  · have h1 : ieqI (Int.ofNat (List.length a)) (Int.ofNat (List.length b)) = true := by rw [ieqI_eq]; exact decide_eq_true (by rw [hl])
    simp only [h1, Bool.not_true, cond_false]
    refine (range1 (R := Rt_slices_Equal_Val) a (fun rest i => some (S.eqVals rest (b.drop i), ())) ha (fun K => ?_) (fun K i v rest r hk => ?_)).trans ?_
    · simp only [R_slices_Equal_Val_4, ilt_self, cond_false]
      rw [hl, List.drop_length]; rfl
    · have hi : i < b.length := by rw [← hl]; exact r.lt
      have hj : jget b (Int.ofNat i) = some b[i] := by rw [jget_nat]; exact List.getElem?_eq_getElem hi
      have hd : b.drop i = b[i] :: b.drop (i + 1) := List.drop_eq_getElem_cons hi
      simp only [R_slices_Equal_Val_4, r.ilt, cond_true, r.get, hj, r.next]
      rw [hd]
      show (cond (Bool.not (S.eqVal v b[i])) (some (false, ())) (K (Int.ofNat (i + 1)))) = some (S.eqVal v b[i] && S.eqVals rest (b.drop (i + 1)), ())
      cases S.eqVal v b[i] with
      | false => rfl
      | true => exact hk
    · rw [List.drop_zero]
  · have h1 : ieqI (Int.ofNat (List.length a)) (Int.ofNat (List.length b)) = false := by rw [ieqI_eq]; exact decide_eq_false (fun e => hl (Int.ofNat.inj e))
    simp only [h1, Bool.not_false, cond_true]
    have : S.eqVals a b = false := by
      cases he : S.eqVals a b with
      | false => rfl
      | true => exact absurd (eqVals_len he) hl
    rw [this]
theorem con_slices_Equal_Val : Con Try.prog id_slices_Equal_Val sp_slices_Equal_Val := mk_slices_Equal_Val trivial fun x y hx h => ⟨LF, by
  obtain ⟨a, b, _⟩ := x
  exact (run_Equal_Val a b (wf_len hx.1)).trans h⟩
end Go.Proofs.Ytcnhjofpmpipfaa
end

/- Made by program: plain forms of functions. -/
section
set_option linter.unusedVariables false
set_option maxRecDepth 100000
noncomputable section
namespace Go.Proofs.Ytcnhjofpmpipfaa
open Go Go.Sx Go.RowKit Go.Jx
def nm_slices_EqualFunc_Node : Nat → Option Nm := fun k => cond (Nat.beq k 4) (some ⟨[1, 2, 15, 16, 17], [], [], [], [], 0, 0, false⟩) (cond (Nat.beq k 999999) (some ⟨[], [], [], [], [], 0, 0, false⟩) none)
def st_slices_EqualFunc_Node : Nat → Bool := fun k => cond (Nat.beq k 4) true (false)
def hd_slices_EqualFunc_Node : Nat → Bool := fun k => cond (Nat.beq k 4) true (false)
abbrev Rt_slices_EqualFunc_Node : Type := (Bool × Unit) × Unit
def sml_slices_EqualFunc_Node : List (Nat × Sm) := [(30, sp_slices_Equal_Val)]
def hxl_slices_EqualFunc_Node : List (Nat × Hx) := []
def cl_slices_EqualFunc_Node (R : Type) (lf : Nat) : ClK R := icallK Try.prog ttT.get ftT.get (fun _ _ => none) (smL sml_slices_EqualFunc_Node) (hxL hxl_slices_EqualFunc_Node) lf 20 R
abbrev id_slices_EqualFunc_Node : Nat := 110
def enc_slices_EqualFunc_Node_4 (x1 : (List DNode)) (x2 : (List DNode)) (p : Int) : NRes := (NRes.mk (PT.node none (PT.node (some (IV.lst cNode x2)) (PT.node none (PT.node none (PT.node (some (IV.lst cNode x1)) PT.leaf PT.leaf) PT.leaf) PT.leaf) (PT.node none (PT.node none (PT.node (some (IV.int Go.IntKind.i64 p)) PT.leaf PT.leaf) PT.leaf) PT.leaf)) (PT.node (some (IV.fn 111 [])) (PT.node none (PT.node none (PT.node (some (IV.int Go.IntKind.i64 (Int.ofNat (List.length x1)))) PT.leaf PT.leaf) PT.leaf) PT.leaf) PT.leaf)) (IS.mk PT.leaf 0) [] 0)
def R_slices_EqualFunc_Node_in (lf : Nat) (x1 : (List DNode)) (x2 : (List DNode)) (L4 : Int → Option Rt_slices_EqualFunc_Node) : Option Rt_slices_EqualFunc_Node := (cond (Bool.not (ieqI (Int.ofNat (List.length x1)) (Int.ofNat (List.length x2)))) (some ((Bool.false, ()), ())) (L4 (Int.ofNat 0)))
def R_slices_EqualFunc_Node_4 (lf : Nat) (x1 : (List DNode)) (x2 : (List DNode)) (L4 : Int → Option Rt_slices_EqualFunc_Node) (p : Int) : Option Rt_slices_EqualFunc_Node := (cond (iltI p (Int.ofNat (List.length x1))) (match (jget x1 p) with | .none  => none | .some v0 => (match (jget x2 p) with | .none  => none | .some v1 => (cond (keqS v0.1 v1.1) (cond (Bool.not (Go.Proofs.Ytcnhjofpmpipfaa.S.eqVals v0.2 v1.2)) (some ((Bool.false, ()), ())) (L4 (Go.IntKind.wrap Go.IntKind.i64 (Int.add p (Int.ofNat 1))))) (some ((Bool.false, ()), ()))))) (some ((Bool.true, ()), ())))
theorem in_slices_EqualFunc_Node (g : ElP [.dat (.list cNode), .dat (.list cNode), .fn 111] → Option Rt_slices_EqualFunc_Node) (J : Nat → List Nat → NRes → Option Rt_slices_EqualFunc_Node) (lf : Nat) (x1 : (List DNode)) (x2 : (List DNode)) : icodeTB Try.prog ttT.get nm_slices_EqualFunc_Node (mP [.dat (.list cNode), .dat (.list cNode), .fn 111]) fi110.nt (cl_slices_EqualFunc_Node _ lf) lf st_slices_EqualFunc_Node J fi110.body [] (argGo (argsP [.dat (.list cNode), .dat (.list cNode), .fn 111] idN 0 (x1, x2, ())) 0 .leaf) (Sc [.dat (.list cNode), .dat (.list cNode), .fn 111] (x1, x2, ())) [] (lastQ ttT.get fi110 ⟨[.dat (.list cNode), .dat (.list cNode), .fn 111], [(false, .bool)], g⟩) = R_slices_EqualFunc_Node_in lf x1 x2 (fun q => J 4 [lf] (enc_slices_EqualFunc_Node_4 x1 x2 q)) := by kernel_rfl
theorem st_slices_EqualFunc_Node_4 (g : ElP [.dat (.list cNode), .dat (.list cNode), .fn 111] → Option Rt_slices_EqualFunc_Node) (J : Nat → List Nat → NRes → Option Rt_slices_EqualFunc_Node) (lf : Nat) (x1 : (List DNode)) (x2 : (List DNode)) (m1 : Nat) (p : Int) : icodeFTB Try.prog ttT.get nm_slices_EqualFunc_Node (mP [.dat (.list cNode), .dat (.list cNode), .fn 111]) fi110.nt (cl_slices_EqualFunc_Node _ lf) lf st_slices_EqualFunc_Node J 4 fi110.body [] [m1] (enc_slices_EqualFunc_Node_4 x1 x2 p) (lastQ ttT.get fi110 ⟨[.dat (.list cNode), .dat (.list cNode), .fn 111], [(false, .bool)], g⟩) = R_slices_EqualFunc_Node_4 lf x1 x2 (fun q => J 4 [m1] (enc_slices_EqualFunc_Node_4 x1 x2 q)) p := by kernel_rfl
theorem nd_slices_EqualFunc_Node : (regs fi110.body).Nodup := by decide +kernel
theorem ok_slices_EqualFunc_Node : okC nm_slices_EqualFunc_Node st_slices_EqualFunc_Node hd_slices_EqualFunc_Node fi110.body none = true := by kernel_rfl
def A_slices_EqualFunc_Node (g : ElP [.dat (.list cNode), .dat (.list cNode), .fn 111] → Option Rt_slices_EqualFunc_Node) (lf : Nat) : Nat → List Nat → NRes → Option Rt_slices_EqualFunc_Node := atQ Try.prog ttT.get nm_slices_EqualFunc_Node fi110 ⟨[.dat (.list cNode), .dat (.list cNode), .fn 111], [(false, .bool)], g⟩ (cl_slices_EqualFunc_Node _ lf) lf hd_slices_EqualFunc_Node
def G_slices_EqualFunc_Node_4 (lf : Nat) (x1 : (List DNode)) (x2 : (List DNode)) : Nat → (Int) → Option Rt_slices_EqualFunc_Node := rounds fun K p => R_slices_EqualFunc_Node_4 lf x1 x2 K p
theorem at_slices_EqualFunc_Node_4 (g : ElP [.dat (.list cNode), .dat (.list cNode), .fn 111] → Option Rt_slices_EqualFunc_Node) (lf : Nat) (x1 : (List DNode)) (x2 : (List DNode)) : ∀ (n : Nat) (p : Int), A_slices_EqualFunc_Node g lf 4 [n] (enc_slices_EqualFunc_Node_4 x1 x2 p) = G_slices_EqualFunc_Node_4 lf x1 x2 n p
  | 0, p => atQ_zero 4 [0] rfl _
  | n + 1, p => by
    have ih := at_slices_EqualFunc_Node_4 g lf x1 x2 n
    refine (atQ_eq rfl (icallK_eq 20 _) nd_slices_EqualFunc_Node ok_slices_EqualFunc_Node 4 [n + 1] [n] rfl _).trans ((st_slices_EqualFunc_Node_4 g (A_slices_EqualFunc_Node g lf) lf x1 x2 n p).trans ?_)
    rw [(show (fun q => A_slices_EqualFunc_Node g lf 4 [n] (enc_slices_EqualFunc_Node_4 x1 x2 q)) = (fun q => G_slices_EqualFunc_Node_4 lf x1 x2 n q) from funext ih)]
    rfl
def F_slices_EqualFunc_Node (lf : Nat) (x1 : (List DNode)) (x2 : (List DNode)) : Option Rt_slices_EqualFunc_Node := R_slices_EqualFunc_Node_in lf x1 x2 (fun q => G_slices_EqualFunc_Node_4 lf x1 x2 lf q)
theorem run_slices_EqualFunc_Node (g : ElP [.dat (.list cNode), .dat (.list cNode), .fn 111] → Option Rt_slices_EqualFunc_Node) (lf : Nat) (x1 : (List DNode)) (x2 : (List DNode)) : icodeTB Try.prog ttT.get nm_slices_EqualFunc_Node (mP [.dat (.list cNode), .dat (.list cNode), .fn 111]) fi110.nt (cl_slices_EqualFunc_Node _ lf) lf st_slices_EqualFunc_Node (A_slices_EqualFunc_Node g lf) fi110.body [] (argGo (argsP [.dat (.list cNode), .dat (.list cNode), .fn 111] idN 0 (x1, x2, ())) 0 .leaf) (Sc [.dat (.list cNode), .dat (.list cNode), .fn 111] (x1, x2, ())) [] (lastQ ttT.get fi110 ⟨[.dat (.list cNode), .dat (.list cNode), .fn 111], [(false, .bool)], g⟩) = F_slices_EqualFunc_Node lf x1 x2 := by
    refine (in_slices_EqualFunc_Node g (A_slices_EqualFunc_Node g lf) lf x1 x2).trans ?_
    rw [(show (fun q => A_slices_EqualFunc_Node g lf 4 [lf] (enc_slices_EqualFunc_Node_4 x1 x2 q)) = (fun q => G_slices_EqualFunc_Node_4 lf x1 x2 lf q) from funext fun q => at_slices_EqualFunc_Node_4 g lf x1 x2 lf q)]
    rfl
theorem hxs_slices_EqualFunc_Node : HxsOK Try.prog hxl_slices_EqualFunc_Node := trivial
theorem mk_slices_EqualFunc_Node {g : ElP [.dat (.list cNode), .dat (.list cNode), .fn 111] → Option Rt_slices_EqualFunc_Node} (hsm : SmOK Try.prog sml_slices_EqualFunc_Node) (hg : ∀ (x : ElP [.dat (.list cNode), .dat (.list cNode), .fn 111]) (y : Rt_slices_EqualFunc_Node), WfP [.dat (.list cNode), .dat (.list cNode), .fn 111] x → g x = some y → ∃ lf, F_slices_EqualFunc_Node lf x.1 x.2.1 = some y) : ConR Try.prog 110 ⟨[.dat (.list cNode), .dat (.list cNode), .fn 111], [(false, .bool)], g⟩ :=
  conTR (nmf := nm_slices_EqualFunc_Node) (sml := sml_slices_EqualFunc_Node) (hxl := hxl_slices_EqualFunc_Node) (st := st_slices_EqualFunc_Node) (hd := hd_slices_EqualFunc_Node) 20 mixed ttOK ftOK hsm hxs_slices_EqualFunc_Node cal110 (by kernel_rfl) (fun x => by kernel_rfl) nd_slices_EqualFunc_Node ok_slices_EqualFunc_Node fun x y z hx hy => by
    obtain ⟨lf, h⟩ := hg x (y, z) hx hy
    exact ⟨lf, (run_slices_EqualFunc_Node g lf x.1 x.2.1).trans h⟩
end Go.Proofs.Ytcnhjofpmpipfaa

end
end

/- Equal lists of objects. -/
section
set_option linter.unusedVariables false
namespace Go.Proofs.Ytcnhjofpmpipfaa
open Go Go.Sx Go.RowKit Go.Jx
def S.eqNode (a b : DNode) : Bool := keqS (a : ByteArray × List DVal).1 (b : ByteArray × List DVal).1 && S.eqVals (a : ByteArray × List DVal).2 (b : ByteArray × List DVal).2
def S.eqNodes : List DNode → List DNode → Bool
  | [], [] => true
  | a :: x, b :: y => S.eqNode a b && S.eqNodes x y
  | _, _ => false
theorem eqNodes_len : ∀ {a b : List DNode}, S.eqNodes a b = true → a.length = b.length
  | [], [], _ => rfl
  | [], _ :: _, h => by cases h
  | _ :: _, [], h => by cases h
  | a :: x, b :: y, h => by
    simp only [S.eqNodes, Bool.and_eq_true] at h
    simp [eqNodes_len h.2]
def sp_slices_EqualFunc_Node : SmR := ⟨[.dat (.list cNode), .dat (.list cNode), .fn 111], [(false, .bool)], fun x => some ((S.eqNodes x.1 x.2.1, ()), ())⟩
theorem run_EqualFunc_Node (a b : List DNode) (ha : a.length < LF) : F_slices_EqualFunc_Node LF a b = some ((S.eqNodes a b, ()), ()) := by
  simp only [F_slices_EqualFunc_Node, R_slices_EqualFunc_Node_in]
  by_cases hl : a.length = b.length
  · have h1 : ieqI (Int.ofNat (List.length a)) (Int.ofNat (List.length b)) = true := by rw [ieqI_eq]; exact decide_eq_true (by rw [hl])
    simp only [h1, Bool.not_true, cond_false]
    refine (range1 (R := Rt_slices_EqualFunc_Node) a (fun rest i => some ((S.eqNodes rest (b.drop i), ()), ())) ha (fun K => ?_) (fun K i v rest r hk => ?_)).trans ?_
    · simp only [R_slices_EqualFunc_Node_4, ilt_self, cond_false]
      rw [hl, List.drop_length]; rfl
    · have hi : i < b.length := by rw [← hl]; exact r.lt
      have hj : jget b (Int.ofNat i) = some b[i] := by rw [jget_nat]; exact List.getElem?_eq_getElem hi
      have hd : b.drop i = b[i] :: b.drop (i + 1) := List.drop_eq_getElem_cons hi
      simp only [R_slices_EqualFunc_Node_4, r.ilt, cond_true, r.get, hj, r.next]
      rw [hd]
      show _ = some ((S.eqNode v b[i] && S.eqNodes rest (b.drop (i + 1)), ()), ())
      unfold S.eqNode
      cases keqS (v : ByteArray × List DVal).1 (b[i] : ByteArray × List DVal).1 with
      | false => rfl
      | true =>
        show (cond (Bool.not (S.eqVals (v : ByteArray × List DVal).2 (b[i] : ByteArray × List DVal).2)) (some ((false, ()), ())) (K (Int.ofNat (i + 1)))) = some (((true && S.eqVals (v : ByteArray × List DVal).2 (b[i] : ByteArray × List DVal).2) && S.eqNodes rest (b.drop (i + 1)), ()), ())
        cases S.eqVals (v : ByteArray × List DVal).2 (b[i] : ByteArray × List DVal).2 with
        | false => rfl
        | true => exact hk
    · rw [List.drop_zero]
  · have h1 : ieqI (Int.ofNat (List.length a)) (Int.ofNat (List.length b)) = false := by rw [ieqI_eq]; exact decide_eq_false (fun e => hl (Int.ofNat.inj e))
    simp only [h1, Bool.not_false, cond_true]
    have : S.eqNodes a b = false := by
      cases he : S.eqNodes a b with
      | false => rfl
      | true => exact absurd (eqNodes_len he) hl
    rw [this]
theorem con_slices_EqualFunc_Node : ConR Try.prog id_slices_EqualFunc_Node sp_slices_EqualFunc_Node := mk_slices_EqualFunc_Node ⟨con_slices_Equal_Val, trivial⟩ fun x y hx h => ⟨LF, by
  obtain ⟨a, b, _⟩ := x
  exact (run_EqualFunc_Node a b (wf_len hx.1)).trans h⟩
end Go.Proofs.Ytcnhjofpmpipfaa
end

/- Made by program: plain forms of functions. -/
section
set_option linter.unusedVariables false
set_option maxRecDepth 100000
noncomputable section
namespace Go.Proofs.Ytcnhjofpmpipfaa
open Go Go.Sx Go.RowKit Go.Jx
def nm_p_equal : Nat → Option Nm := fun k => none
def st_p_equal : Nat → Bool := fun k => false
def hd_p_equal : Nat → Bool := fun k => false
abbrev Rt_p_equal : Type := Bool × Unit
def sml_p_equal : List (Nat × Sm) := [(30, sp_slices_Equal_Val)]
def hxl_p_equal : List (Nat × Hx) := [(110, hxR sp_slices_EqualFunc_Node)]
def cl_p_equal (R : Type) (lf : Nat) : ClK R := icallK Try.prog ttT.get ftT.get (nm1 72 nm_p_equal) (smL sml_p_equal) (hxL hxl_p_equal) lf 20 R
abbrev id_p_equal : Nat := 72
def R_p_equal_in (lf : Nat) (x1 : DGraph) (x2 : DGraph) : Option Rt_p_equal := (cond (Go.Proofs.Ytcnhjofpmpipfaa.S.eqVals x1.2 x2.2) (some ((Go.Proofs.Ytcnhjofpmpipfaa.S.eqNodes x1.1 x2.1), ())) (some (Bool.false, ())))
theorem in_p_equal (g : ElA [cGraph, cGraph] → Option Rt_p_equal) (J : Nat → List Nat → NRes → Option Rt_p_equal) (lf : Nat) (x1 : DGraph) (x2 : DGraph) : icodeT Try.prog ttT.get nm_p_equal fi72.nt (cl_p_equal _ lf) lf st_p_equal J fi72.body [] (argGo (argV [cGraph, cGraph] (x1, x2, ())) 0 .leaf) S0 [] (lastK ttT.get fi72 ⟨[cGraph, cGraph], [(false, .bool)], g⟩) = R_p_equal_in lf x1 x2 := by kernel_rfl
theorem nd_p_equal : (regs fi72.body).Nodup := by decide +kernel
theorem ok_p_equal : okC nm_p_equal st_p_equal hd_p_equal fi72.body none = true := by kernel_rfl
def A_p_equal (g : ElA [cGraph, cGraph] → Option Rt_p_equal) (lf : Nat) : Nat → List Nat → NRes → Option Rt_p_equal := atN Try.prog ttT.get nm_p_equal fi72 ⟨[cGraph, cGraph], [(false, .bool)], g⟩ (cl_p_equal _ lf) lf hd_p_equal
def F_p_equal (lf : Nat) (x1 : DGraph) (x2 : DGraph) : Option Rt_p_equal := R_p_equal_in lf x1 x2
theorem run_p_equal (g : ElA [cGraph, cGraph] → Option Rt_p_equal) (lf : Nat) (x1 : DGraph) (x2 : DGraph) : icodeT Try.prog ttT.get nm_p_equal fi72.nt (cl_p_equal _ lf) lf st_p_equal (A_p_equal g lf) fi72.body [] (argGo (argV [cGraph, cGraph] (x1, x2, ())) 0 .leaf) S0 [] (lastK ttT.get fi72 ⟨[cGraph, cGraph], [(false, .bool)], g⟩) = F_p_equal lf x1 x2 := by
    refine (in_p_equal g (A_p_equal g lf) lf x1 x2).trans ?_
    rfl
theorem hxs_p_equal (hr_slices_EqualFunc_Node : ConR Try.prog 110 sp_slices_EqualFunc_Node) : HxsOK Try.prog hxl_p_equal := ⟨hxR_ok hr_slices_EqualFunc_Node, trivial⟩
theorem mk_p_equal {g : ElA [cGraph, cGraph] → Option Rt_p_equal} (hsm : SmOK Try.prog sml_p_equal) (hr_slices_EqualFunc_Node : ConR Try.prog 110 sp_slices_EqualFunc_Node) (hg : ∀ (x : ElA [cGraph, cGraph]) (y : Rt_p_equal), WfA [cGraph, cGraph] x → g x = some y → ∃ lf, F_p_equal lf x.1 x.2.1 = some y) : Con Try.prog 72 ⟨[cGraph, cGraph], [(false, .bool)], g⟩ :=
  conT (nmf := nm_p_equal) (sml := sml_p_equal) (hxl := hxl_p_equal) (st := st_p_equal) (hd := hd_p_equal) 20 mixed ttOK ftOK hsm (hxs_p_equal hr_slices_EqualFunc_Node) cal72 rfl rfl (by kernel_rfl) (fun x => by kernel_rfl) nd_p_equal ok_p_equal fun x y hx hy => by
    obtain ⟨lf, h⟩ := hg x y hx hy
    exact ⟨lf, (run_p_equal g lf x.1 x.2.1).trans h⟩
end Go.Proofs.Ytcnhjofpmpipfaa

end
end

/- The iterator over the references of values. -/
section
set_option linter.unusedVariables false
set_option maxRecDepth 100000
namespace Go.Proofs.Ytcnhjofpmpipfaa
open Go Go.Sx Go.RowKit Go.Jx
open Go.Sx.Dat (enc)
attribute [local irreducible] Go.wpList Go.wpQuiet Go.Code.wp
instance datVal : Dat (Int × Int) where
  sz := 2
  enc M w cs x := cs = [.int .i64 x.1, .int .i64 x.2]
  len h := by rw [h]; rfl
  mono h _ := h
  ones h := by rw [h]; rfl
def S.refsL : List (Int × Int) → List Int
  | [] => []
  | v :: l => if v.1 = 4 then v.2 :: S.refsL l else S.refsL l
theorem refsL_append (a b : List (Int × Int)) : S.refsL (a ++ b) = S.refsL a ++ S.refsL b := by
  induction a with
  | nil => rfl
  | cons v l ih => simp only [List.cons_append, S.refsL]; split <;> simp [ih]
theorem refsL_take {l : List (Int × Int)} {k : Nat} {v : Int × Int} (h : l[k]? = some v) : S.refsL (l.take (k + 1)) = S.refsL (l.take k) ++ (if v.1 = 4 then [v.2] else []) := by
  rw [List.take_add_one, h, refsL_append]
  simp only [Option.toList, S.refsL]
theorem lst_SL {E : Env} {l : List (Int × Int)} {u : Value} (h : VR E (.lst cVal l) u) : ∃ a cap, u = .slice a l.length cap ∧ SL E.m E.w a cap l := by
  cases h with
  | lst0 h => exact ⟨_, _, rfl, ⟨Nat.zero_le _, h⟩, .inl rfl⟩
  | lst us h1 h2 h3 hb hh hc hu =>
    refine ⟨_, _, rfl, ⟨h1, h2⟩, .inr ⟨_, _, _, _, _, rfl, hb, hh, fun i hi => ⟨_, rfl, fun j hj => ?_⟩⟩⟩
    have h5 := hc i hi j hj
    have h6 := hu i hi j (by rw [cel_length]; exact hj)
    have hj : j < 2 := hj
    have e : (cel cVal l[i]) = [.int .i64 (l[i]).1, .int .i64 (l[i]).2] := rfl
    refine Eq.trans h5 ?_
    have h7 : j = 0 ∨ j = 1 := by omega
    rcases h7 with rfl | rfl
    · have h6 : VR E (.int .i64 (l[i]).1) (us i 0) := h6
      generalize us i 0 = q at h6
      cases h6; rfl
    · have h6 : VR E (.int .i64 (l[i]).2) (us i 1) := h6
      generalize us i 1 = q at h6
      cases h6; rfl
theorem fldV0 : Fld Try.prog 51 0 0 := Fld.mk (F := ⟨"Kind", 3, 0, false, "", "", 0⟩) ty51 rfl ty3
theorem fldV1 : Fld Try.prog 51 1 1 := Fld.mk (F := ⟨"N", 3, 1, false, "", "", 8⟩) ty51 rfl ty3
theorem it136S {M : List Nat} {a : Option Addr} {c b : Nat} {vs : List (Int × Int)} {cs0 : List Value} (hw : ∀ v ∈ vs, IntKind.i64.wrap v.2 = v.2) : IterS Try.prog 136 [.pointer (some ⟨b, 0, none⟩)] (fun A => Box A b (.slice a vs.length c :: cs0) ∧ SL M A a c vs) (fun (x : Int) u => ∀ E, VR E (.int .i64 x) u) (S.refsL vs) := by
  intro l J K W hJ hKu hR hy h0
  have hlen := (hR _ _ h0).2.lt63
  have hM : ∀ {s A}, J s A → Box A b (.slice a vs.length c :: cs0) ∧ SL M A a c vs := fun h => hR _ _ h
  refine callsIn_wide.2 (Calls.mono (R := Ret fun v B => v = .tuple #[] ∧ (J (S.refsL vs) B ∨ K B)) ?_ (fun e B h => by cases e <;> first | exact ⟨by rw [h.1], h.2⟩ | exact h.elim))
  refine (enter (l := [.func (.yield l) #[] #[], .pointer (some ⟨b, 0, none⟩)]) Try.func136 rfl Try.ntmps136 rfl ?_)
  refine c_seq fun K1 hK1 => ?_
  refine c_reg ?_
  refine op_loadB (v := .slice a vs.length c) ty24 rfl rfl rfl rfl (hM h0).1 rfl ?_
  refine op_len ty24 rfl rfl rfl ?_
  refine op_move (v := .int .i64 0) rfl rfl rfl ?_
  refine wpList_nil ?_
  refine hK1 _ _ ?_
  refine wp_block ?_
  refine c_loop (X := Nat) [4, 7, 8, 9, 10, 11, 12, 13, 14, 15, 16, 17, 18, 19, 20, 21] (fun k => [(7, .int .i64 (k : Int))]) (fun k w1 => k ≤ vs.length ∧ J (S.refsL (vs.take k)) w1) (fun k => vs.length - k) 0 ⟨rfl, trivial⟩ ⟨by omega, by simpa [S.refsL] using h0⟩ ?_
  rintro k τ w1 ⟨hk, hj⟩
  refine c_seq fun K2 hK2 => ?_
  refine c_reg ?_
  refine op_lss rfl rfl rfl rfl ?_
  refine wpList_nil ?_
  refine hK2 _ _ ?_
  refine c_seq fun K3 hK3 => ?_
  refine c_if rfl rfl (fun hb => ?_) (fun hb => ?_)
  · refine wp_skip ?_
    refine hK3 _ _ ?_
    refine c_seq fun K4 hK4 => ?_
    refine wp_block ?_
    refine c_seq fun K5 hK5 => ?_
    refine c_reg ?_
    refine op_indexN (j := k) ty24 ty51 rfl rfl rfl rfl rfl (hM hj).2 (by omega) fun ad cs u hx he ca => ?_
    obtain rfl := he
    refine op_loadAA ty51 rfl rfl rfl rfl ca rfl ?_
    refine op_alloc (zs := [.int .i64 0, .int .i64 0]) ty51 rfl rfl fun β w2 hβ u2 hz2 hx2 => ?_
    have hj2 := hJ _ _ _ hj u2
    have hjs : ∀ (S0 : List Nat) (w3 : World), Upd [β] w2 w3 → J (S.refsL (vs.take k)) w3 := fun S0 w3 u3 => hJ _ _ _ hj ⟨u3.os.trans u2.os, u3.tape.trans u2.tape, u3.output.trans u2.output, Nat.le_trans u2.size u3.size, fun x hx hn => (u3.same x (Nat.lt_of_lt_of_le hx u2.size) (by simp; omega)).trans (u2.same x hx (by simp))⟩
    refine op_store (v := .agg #[.int .i64 u.1, .int .i64 u.2]) (cs' := [.int .i64 u.1, .int .i64 u.2]) ty51 rfl rfl rfl rfl hx2 rfl rfl rfl fun w3 u3 hz3 hx3 => ?_
    have hj3 := hjs [] w3 u3
    refine wpList_nil ?_
    refine hK5 _ _ ?_
    refine c_seq fun K6 hK6 => ?_
    by_cases hv : u.1 = 4
    · refine (wpIn_wide (n := 0)).1 (wpIn_region_lit (in_take 7 rfl ?lo rfl ?_))
      case lo => rintro ⟨_, _, h⟩; exact (show False from h)
      dsimp only [List.take_succ_cons, List.take_zero, List.drop_succ_cons, List.drop_zero]
      refine op_fieldB fldV0 rfl rfl rfl ?_
      refine op_loadB (v := .int .i64 u.1) ty3 rfl rfl rfl rfl hx3 rfl ?_
      refine op_eq rfl rfl rfl rfl ?_
      refine op_move (v := .bool true) rfl rfl (congrArg Value.bool (decide_eq_true hv)) ?_
      refine op_move (v := .func (.yield l) #[] #[]) rfl rfl rfl ?_
      refine op_fieldB fldV1 rfl rfl rfl ?_
      refine op_loadB (v := .int .i64 u.2) ty3 rfl rfl rfl rfl hx3 rfl ?_
      refine wpList_nil ?_
      refine then_normal ?_
      have hsp : S.refsL vs = S.refsL (vs.take k) ++ u.2 :: S.refsL (vs.drop (k + 1)) := by
        conv => lhs; rw [← List.take_append_drop k vs, refsL_append, drop_of hx]
        simp [S.refsL, hv]
      refine in_yield rfl rfl rfl rfl rfl (hy _ _ _ _ _ hsp hj3 fun E => .int _ _ (hw u (List.mem_of_getElem? hx))) ?_
      rintro e w4 (⟨rfl, hj4⟩ | ⟨rfl, hk4⟩)
      · refine ⟨_, rfl, in_all rfl ?lo rfl ?_⟩
        case lo => rintro ⟨_, _, h⟩; exact (show False from h)
        refine op_notB rfl rfl rfl ?_
        refine op_pickT (v := .bool false) rfl rfl rfl rfl ?_
        refine wpList_nil ?_
        refine hK6 _ _ ?_
        refine c_ifF rfl rfl ?_
        refine wp_skip ?_
        refine inBlock_normal ?_
        refine hK4 _ _ ?_
        refine c_reg ?_
        refine op_add rfl rfl rfl rfl (by omega) ?_
        refine op_move (v := .int .i64 ((k : Int) + 1)) rfl rfl rfl ?_
        refine wpList_nil ?_
        refine then_normal ?_
        exact ⟨k + 1, by omega, ⟨by omega, by rw [refsL_take hx, if_pos hv]; exact hj4⟩, _, rfl, (by repeat first | exact agree.refl _ _ | refine agree.upd rfl ?_ | refine agree.upds rfl ?_ | refine agree.mix rfl ?_), rfl, trivial⟩
      · refine ⟨_, rfl, in_all rfl ?lo rfl ?_⟩
        case lo => rintro ⟨_, _, h⟩; exact (show False from h)
        refine op_notB rfl rfl rfl ?_
        refine op_pickT (v := .bool true) rfl rfl rfl rfl ?_
        refine wpList_nil ?_
        refine hK6 _ _ ?_
        refine c_ifT rfl rfl ?_
        refine wp_ret ?_
        exact ret0 Try.results136 ⟨rfl, .inr hk4⟩
    · refine c_reg ?_
      refine op_fieldB fldV0 rfl rfl rfl ?_
      refine op_loadB (v := .int .i64 u.1) ty3 rfl rfl rfl rfl hx3 rfl ?_
      refine op_eq rfl rfl rfl rfl ?_
      refine op_move (v := .bool false) rfl rfl (congrArg Value.bool (decide_eq_false hv)) ?_
      refine op_not rfl ?_
      refine op_not rfl ?_
      refine op_not rfl ?_
      refine op_not rfl ?_
      refine op_not rfl ?_
      refine op_pickF (v := .bool false) rfl rfl rfl rfl ?_
      refine wpList_nil ?_
      refine hK6 _ _ ?_
      refine c_ifF rfl rfl ?_
      refine wp_skip ?_
      refine inBlock_normal ?_
      refine hK4 _ _ ?_
      refine c_reg ?_
      refine op_add rfl rfl rfl rfl (by omega) ?_
      refine op_move (v := .int .i64 ((k : Int) + 1)) rfl rfl rfl ?_
      refine wpList_nil ?_
      refine then_normal ?_
      exact ⟨k + 1, by omega, ⟨by omega, by rw [refsL_take hx, if_neg hv, List.append_nil]; exact hj3⟩, _, rfl, (by repeat first | exact agree.refl _ _ | refine agree.upd rfl ?_ | refine agree.upds rfl ?_ | refine agree.mix rfl ?_), rfl, trivial⟩
  · refine wp_exit ?_
    have e : vs.take k = vs := List.take_of_length_le (by omega)
    rw [e] at hj
    exact ret0n Try.results136 ⟨rfl, .inl hj⟩
def si_p_refs_1 : SmI := ⟨[.ref [.dat (.list cVal)]], .int .i64, fun x => some (S.refsL x.1.1)⟩
theorem coni_p_refs_1 : ConI Try.prog 136 si_p_refs_1 := by
  refine ⟨cal136, rfl, rfl, fun E x us rows l hl hrd => ?_⟩
  obtain ⟨⟨vs, _⟩, _⟩ := x
  cases hl
  obtain ⟨h1, h2⟩ := hrd
  obtain ⟨i, i1, i2, i3, i4⟩ := h2 0 _ rfl
  have i4 : OR E i (.row [.lst cVal vs]) := i4
  obtain ⟨cells, t, k1, k2, k3, k4⟩ := i4
  have ha := h1 (fun k => rows.getD k 0) 0 (fun j id hj => by show rows.getD (0 + j) 0 = id; rw [Nat.zero_add, List.getD_eq_getElem?_getD, hj]; rfl)
  obtain ⟨u, us', rfl, a1, a2⟩ := VRs.inv (v := .ptr (rows.getD 0 0) 0) (cs := []) ha
  obtain rfl : us' = [] := List.length_eq_zero_iff.1 a2.1.symm
  have e0 : rows.getD 0 0 = i := by rw [List.getD_eq_getElem?_getD, i1]; rfl
  rw [e0] at a1
  have hu : u = .pointer (some ⟨E.ρ i, 0, none⟩) := by cases a1; rfl
  subst hu
  obtain ⟨h0, r0, hc0⟩ : ∃ h0 r0, cells.toList = h0 :: r0 := by
    cases hc : cells.toList with
    | nil => have := congrArg List.length hc; simp at this; simp [this] at k3
    | cons h r => exact ⟨h, r, rfl⟩
  have hv : VR E (.lst cVal vs) h0 := by
    have := k4.2 0 (by simp) (by simp [hc0])
    simpa [hc0] using this
  obtain ⟨a, cap, rfl, hS⟩ := lst_SL hv
  have hwf : WfE (.list cVal) vs := wf_as (c := .list cVal) hv
  have hin := List.mem_of_getElem? i1
  refine fun l J K W q1 q2 q3 q4 q5 => it136S (M := E.m) (a := a) (c := cap) (vs := vs) (cs0 := r0) (fun v hv => (wf_mem hwf hv).2) l J K W q1 q2 (fun s A hs => ?_) q4 q5
  obtain ⟨r1, r2⟩ := q3 s A hs
  refine ⟨⟨t, ?_⟩, hS.mono r1.tr⟩
  rw [r2 i hin, k1, ← hc0]
end Go.Proofs.Ytcnhjofpmpipfaa
end

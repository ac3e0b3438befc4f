/- The interpreter's states: what a write, a new object and an object's end turn. -/
import Derived.Test.YtcnhjofpmpipfaaIxa
set_option linter.unusedVariables false
namespace Go.Ix
open Go Go.Sx Go.RowKit
universe u

theorem Live.up_ne {H : Heap} {i k : Nat} {x : Option IObj} (h : k ≠ i) : Live (up H i x) k ↔ Live H k := by unfold Live; rw [Ix.up_ne _ _ h]
def Env.at_ (E : Env) (w' : World) : Env := { E with w := w' }
theorem Env.at_le {T : TW} {E : Env} {H : Heap} {id : Nat} {w' : World} (st : St T.r E H) (hT : T.w id) (hA : E.A id) (hL : Live H id) (u : Upd [E.ρ id] E.w w') : E.Le (E.at_ w') :=
  ⟨fun _ h => ⟨h, rfl, rfl⟩, ⟨fun b hb hm => ⟨hm, u.same b hb fun h => hm (by
    have : b = E.ρ id := by simpa using h
    rw [this]; exact st.own id (T.sub _ hT) hA hL)⟩⟩⟩
/-- An object turns. -/
theorem St.write {T : TW} {E : Env} {H : Heap} {id : Nat} {o' : IObj} {w' : World} (st : St T.r E H) (hT : T.w id) (hA : E.A id) (hL : Live H id) (u : Upd [E.ρ id] E.w w')
    (ho : OR (E.at_ w') id o') : St T.r (E.at_ w') (up H id (some o')) ∧ Stp T.w E H (E.at_ w') (up H id (some o')) := by
  have hle := Env.at_le st hT hA hL u
  have hlive : ∀ j, Live (up H id (some o')) j → Live H j := fun j h => by
    by_cases e : j = id
    · subst e; exact hL
    · exact (Live.up_ne e).1 h
  refine ⟨⟨fun j ht ha o hj => ?_, fun j ht ha hl => st.own j ht ha (hlive j hl), fun i j a b c d e f => st.inj i j a b c d (hlive i e) (hlive j f), fun b hb => Nat.lt_of_lt_of_le (st.lo b hb) u.size⟩,
    ⟨u.os, u.tape, u.output, u.size, fun b hb hn => u.same b hb fun h => hn id hT hA hL (List.mem_singleton.1 h).symm, hle.alw, fun j h k => absurd h k, fun j _ _ h => hlive j h, fun b h => .inl h, fun b h => h⟩⟩
  by_cases e : j = id
  · subst e
    rw [up_self] at hj; cases hj; exact ho
  · rw [Ix.up_ne _ _ e] at hj
    by_cases hd : o.live = true
    · exact (st.objs j ht ha o hj).mono hle ha (u.same _ ((st.objs j ht ha o hj).lt hd) fun h => e (st.inj j id ht (T.sub _ hT) ha hA ⟨o, hj, hd⟩ hL (by simpa using h)))
    · cases o <;> first | trivial | exact absurd rfl hd
/-- The state with a new object. -/
def Env.with_ (E : Env) (id k : Nat) (w' : World) : Env := ⟨up E.ρ id E.w.heap.size, up E.κ id k, fun j => E.A j ∨ j = id, E.w.heap.size :: E.m, w'⟩
theorem Env.with_le {E : Env} {id k : Nat} {w' : World} (hA : ¬ E.A id) (u : Upd [] E.w w') : E.Le (E.with_ id k w') :=
  ⟨fun j h => ⟨.inl h, up_ne _ _ fun e => hA (e ▸ h), up_ne _ _ fun e => hA (e ▸ h)⟩, ⟨fun b hb hm => ⟨fun h => by
    rcases List.mem_cons.1 h with h1 | h1
    · omega
    · exact hm h1, u.same b hb (by simp)⟩⟩⟩
theorem St.new {T : TW} {E : Env} {H : Heap} {id k : Nat} {o : IObj} {w' : World} (st : St T.r E H) (hA : ¬ E.A id) (u : Upd [] E.w w') (hz : w'.heap.size = E.w.heap.size + 1)
    (ho : OR (E.with_ id k w') id o) : St T.r (E.with_ id k w') (up H id (some o)) ∧ Stp T.w E H (E.with_ id k w') (up H id (some o)) := by
  have hle := Env.with_le (k := k) hA u
  have hρ : ∀ j, j ≠ id → (E.with_ id k w').ρ j = E.ρ j := fun j h => Ix.up_ne _ _ h
  have hρ0 : (E.with_ id k w').ρ id = E.w.heap.size := up_self _ _ _
  have lt : ∀ j, T.r j → E.A j → Live H j → E.ρ j < E.w.heap.size := fun j ht ha hl => st.lo _ (st.own j ht ha hl)
  refine ⟨⟨fun j ht ha o' hj => ?_, fun j ht ha hl => ?_, fun i j a b c d e f h => ?_, fun b hb => ?_⟩,
    ⟨u.os, u.tape, u.output, u.size, fun b hb hn => u.same b hb (by simp), hle.alw, fun j h hn _ => ?_, fun j ht ha h => ?_, fun b h => ?_, fun b h => List.mem_cons_of_mem _ h⟩⟩
  · by_cases e : j = id
    · subst e; rw [up_self] at hj; cases hj; exact ho
    · rw [Ix.up_ne _ _ e] at hj
      have ha' : E.A j := ha.resolve_right e
      by_cases hd : o'.live = true
      · exact (st.objs j ht ha' o' hj).mono hle ha' (u.same _ ((st.objs j ht ha' o' hj).lt hd) (by simp))
      · cases o' <;> first | trivial | exact absurd rfl hd
  · by_cases e : j = id
    · subst e; rw [hρ0]; exact List.mem_cons_self
    · rw [hρ j e]; exact List.mem_cons_of_mem _ (st.own j ht (ha.resolve_right e) ((Live.up_ne e).1 hl))
  · by_cases hi : i = id
    · by_cases hj : j = id
      · rw [hi, hj]
      · rw [hi, hρ0, hρ j hj] at h
        have := lt j b (d.resolve_right hj) ((Live.up_ne hj).1 f); omega
    · by_cases hj : j = id
      · rw [hj, hρ0, hρ i hi] at h
        have := lt i a (c.resolve_right hi) ((Live.up_ne hi).1 e); omega
      · rw [hρ i hi, hρ j hj] at h
        exact st.inj i j a b (c.resolve_right hi) (d.resolve_right hj) ((Live.up_ne hi).1 e) ((Live.up_ne hj).1 f) h
  · rw [show (E.with_ id k w').w = w' from rfl, hz]
    rcases List.mem_cons.1 hb with h1 | h1
    · omega
    · have := st.lo b h1; omega
  · rcases h with h1 | h1
    · exact absurd h1 hn
    · subst h1; rw [hρ0]; exact .inl (Nat.le_refl _)
  · exact (Live.up_ne (fun e : j = id => hA (e ▸ ha))).1 h
  · rcases List.mem_cons.1 h with h1 | h1
    · exact .inr (by omega)
    · exact .inl h1
/-- An object ends. -/
theorem St.kill {T : TW} {E : Env} {H : Heap} {id : Nat} (st : St T.r E H) : St T.r E (up H id (some .dead)) ∧ Stp T.w E H E (up H id (some .dead)) := by
  have hl : ∀ j, Live (up H id (some .dead)) j → Live H j := fun j h => by
    by_cases e : j = id
    · subst e; obtain ⟨o, h1, h2⟩ := h; rw [up_self] at h1; cases h1; cases h2
    · exact (Live.up_ne e).1 h
  refine ⟨⟨fun j ht ha o hj => ?_, fun j ht ha h => st.own j ht ha (hl j h), fun i j a b c d e f => st.inj i j a b c d (hl i e) (hl j f), st.lo⟩,
    ⟨rfl, rfl, rfl, Nat.le_refl _, fun _ _ _ => rfl, fun _ h => ⟨h, rfl, rfl⟩, fun j h k => absurd h k, fun j _ _ h => hl j h, fun b h => .inl h, fun b h => h⟩⟩
  by_cases e : j = id
  · subst e; rw [up_self] at hj; cases hj; trivial
  · rw [Ix.up_ne _ _ e] at hj; exact st.objs j ht ha o hj
/-- An object ends, and a new one lies where it lay. -/
def Env.moved (E : Env) (id id' : Nat) (w' : World) : Env := ⟨up E.ρ id' (E.ρ id), up E.κ id' (E.κ id), fun j => E.A j ∨ j = id', E.m, w'⟩
theorem St.move {T : TW} {E : Env} {H : Heap} {id id' : Nat} {o : IObj} {w' : World} (st : St T.r E H) (hT : T.w id) (hA : E.A id) (hL : Live H id) (hA' : ¬ E.A id') (u : Upd [E.ρ id] E.w w')
    (ho : OR (E.moved id id' w') id' o) : E.Le (E.moved id id' w') ∧ St T.r (E.moved id id' w') (up (up H id (some .dead)) id' (some o)) ∧ Stp T.w E H (E.moved id id' w') (up (up H id (some .dead)) id' (some o)) := by
  have hne : id ≠ id' := fun e => hA' (e ▸ hA)
  have hle0 := Env.at_le st hT hA hL u
  have hle : E.Le (E.moved id id' w') := ⟨fun j h => ⟨.inl h, up_ne _ _ fun e => hA' (e ▸ h), up_ne _ _ fun e => hA' (e ▸ h)⟩, hle0.tr⟩
  have hρ : ∀ j, j ≠ id' → (E.moved id id' w').ρ j = E.ρ j := fun j h => Ix.up_ne _ _ h
  have hρ0 : (E.moved id id' w').ρ id' = E.ρ id := up_self _ _ _
  have hlv : ∀ j, j ≠ id' → Live (up (up H id (some .dead)) id' (some o)) j → Live H j ∧ j ≠ id := fun j h1 h => by
    have h := (Live.up_ne h1).1 h
    by_cases e : j = id
    · subst e; obtain ⟨o, h1, h2⟩ := h; rw [up_self] at h1; cases h1; cases h2
    · exact ⟨(Live.up_ne e).1 h, e⟩
  refine ⟨hle, ⟨fun j ht ha o' hj => ?_, fun j ht ha hl => ?_, fun i j a b c d e f h => ?_, fun b hb => Nat.lt_of_lt_of_le (st.lo b hb) u.size⟩,
    ⟨u.os, u.tape, u.output, u.size, fun b hb hn => u.same b hb fun h => hn id hT hA hL (List.mem_singleton.1 h).symm, hle.alw, fun j h hn _ => ?_, fun j ht ha h => ?_, fun b h => .inl h, fun b h => h⟩⟩
  · by_cases e : j = id'
    · subst e; rw [up_self] at hj; cases hj; exact ho
    · rw [Ix.up_ne _ _ e] at hj
      have ha' : E.A j := ha.resolve_right e
      by_cases e2 : j = id
      · subst e2; rw [up_self] at hj; cases hj; trivial
      · rw [Ix.up_ne _ _ e2] at hj
        by_cases hd : o'.live = true
        · exact (st.objs j ht ha' o' hj).mono hle ha' (u.same _ ((st.objs j ht ha' o' hj).lt hd) fun h => e2 (st.inj j id ht (T.sub _ hT) ha' hA ⟨o', hj, hd⟩ hL (by simpa using h)))
        · cases o' <;> first | trivial | exact absurd rfl hd
  · by_cases e : j = id'
    · subst e; rw [hρ0]; exact st.own id (T.sub _ hT) hA hL
    · rw [hρ j e]; exact st.own j ht (ha.resolve_right e) (hlv j e hl).1
  · by_cases hi : i = id'
    · by_cases hj : j = id'
      · rw [hi, hj]
      · obtain ⟨h1, h2⟩ := hlv j hj f
        rw [hi, hρ0, hρ j hj] at h
        exact absurd (st.inj id j (T.sub _ hT) b hA (d.resolve_right hj) hL h1 h).symm h2
    · by_cases hj : j = id'
      · obtain ⟨h1, h2⟩ := hlv i hi e
        rw [hj, hρ0, hρ i hi] at h
        exact absurd (st.inj i id a (T.sub _ hT) (c.resolve_right hi) hA h1 hL h) h2
      · rw [hρ i hi, hρ j hj] at h
        exact st.inj i j a b (c.resolve_right hi) (d.resolve_right hj) (hlv i hi e).1 (hlv j hj f).1 h
  · rcases h with h1 | h1
    · exact absurd h1 hn
    · subst h1; exact .inr ⟨id, hT, hA, hL, hρ0⟩
  · exact (hlv j (fun e : j = id' => hA' (e ▸ ha)) h).1
/-- A step that turned no block at all. -/
theorem St.idle {T : TW} {E : Env} {H : Heap} {w' : World} (st : St T.r E H) (u : Upd [] E.w w') : St T.r (E.at_ w') H ∧ Stp T.w E H (E.at_ w') H := by
  have hle : E.Le (E.at_ w') := ⟨fun _ h => ⟨h, rfl, rfl⟩, ⟨fun b hb hm => ⟨hm, u.same b hb (by simp)⟩⟩⟩
  refine ⟨⟨fun j ht ha o hj => ?_, fun j ht ha hl => st.own j ht ha hl, fun i j a b c d e f => st.inj i j a b c d e f, fun b hb => Nat.lt_of_lt_of_le (st.lo b hb) u.size⟩,
    ⟨u.os, u.tape, u.output, u.size, fun b hb hn => u.same b hb (by simp), hle.alw, fun j h k => absurd h k, fun j _ _ h => h, fun b h => .inl h, fun b h => h⟩⟩
  by_cases hd : o.live = true
  · exact (st.objs j ht ha o hj).mono hle ha (u.same _ ((st.objs j ht ha o hj).lt hd) (by simp))
  · cases o <;> first | trivial | exact absurd rfl hd

/-! ### The interpreter's state -/
structure IS : Type 1 where
  heap : PT IObj
  next : Nat
def IS.H (S : IS) : Heap := S.heap.get
def IS.set (S : IS) (id : Nat) (o : IObj) : IS := ⟨S.heap.set o id, S.next⟩
def IS.new (S : IS) (o : IObj) : IS := ⟨S.heap.set o S.next, S.next + 1⟩
theorem IS.H_set (S : IS) (id : Nat) (o : IObj) : (S.set id o).H = up S.H id (some o) := by
  funext k; unfold IS.H IS.set up; rw [PT.get_set]
theorem IS.H_new (S : IS) (o : IObj) : (S.new o).H = up S.H S.next (some o) := by
  funext k; unfold IS.H IS.new up; rw [PT.get_set]
structure Pre (T : TW) (E : Env) (S : IS) : Prop where
  st : St T.r E S.H
  bnd : ∀ id, E.A id → id < S.next
  nw : ∀ id, S.next ≤ id → T.w id
structure Post (T : TW) (E : Env) (S : IS) (E' : Env) (S' : IS) : Prop where
  st : St T.r E' S'.H
  stp : Stp T.w E S.H E' S'.H
  bnd : ∀ id, E'.A id → id < S'.next
  le : S.next ≤ S'.next
theorem Post.pre {T : TW} {E E' : Env} {S S' : IS} (p : Pre T E S) (h : Post T E S E' S') : Pre T E' S' :=
  ⟨h.st, h.bnd, fun id hi => p.nw id (Nat.le_trans h.le hi)⟩
theorem Post.refl {T : TW} {E : Env} {S : IS} (p : Pre T E S) : Post T E S E S := ⟨p.st, Stp.refl _ _ _, p.bnd, Nat.le_refl _⟩
theorem Post.env {T : TW} {E E' : Env} {S S' : IS} (p : Pre T E S) (h : Post T E S E' S') : E.Le E' := h.stp.le p.st
/-- New ids are beyond the old bound. -/
structure Fresh (E : Env) (S : IS) (E' : Env) : Prop where
  fr : ∀ id, E'.A id → ¬ E.A id → S.next ≤ id
theorem Post.trans {T : TW} {E E' E'' : Env} {S S' S'' : IS} (p : Pre T E S) (h : Post T E S E' S') (f : Fresh E S E') (k : Post T E' S' E'' S'') : Post T E S E'' S'' :=
  ⟨k.st, h.stp.trans (fun id ha hn => p.nw id (f.fr id ha hn)) k.stp, k.bnd, Nat.le_trans h.le k.le⟩
theorem Fresh.trans {E E' E'' : Env} {S S' : IS} (f : Fresh E S E') (k : Fresh E' S' E'') (hl : S.next ≤ S'.next) : Fresh E S E'' :=
  ⟨fun id ha hn => by
    by_cases h : E'.A id
    · exact f.fr id h hn
    · exact Nat.le_trans hl (k.fr id ha h)⟩
theorem Fresh.refl (E : Env) (S : IS) : Fresh E S E := ⟨fun _ h k => absurd h k⟩
theorem Post.idle {T : TW} {E : Env} {S : IS} {w' : World} (p : Pre T E S) (u : Upd [] E.w w') : Post T E S (E.at_ w') S ∧ Fresh E S (E.at_ w') :=
  let ⟨a, b⟩ := p.st.idle u; ⟨⟨a, b, p.bnd, Nat.le_refl _⟩, ⟨fun _ h k => absurd h k⟩⟩
theorem Post.write {T : TW} {E : Env} {S : IS} {id : Nat} {o' : IObj} {w' : World} (p : Pre T E S) (hT : T.w id) (hA : E.A id) (hL : Live S.H id) (u : Upd [E.ρ id] E.w w')
    (ho : OR (E.at_ w') id o') : Post T E S (E.at_ w') (S.set id o') ∧ Fresh E S (E.at_ w') := by
  obtain ⟨a, b⟩ := p.st.write hT hA hL u ho
  refine ⟨⟨?_, ?_, p.bnd, Nat.le_refl _⟩, ⟨fun _ h k => absurd h k⟩⟩
  · rw [IS.H_set]; exact a
  · rw [IS.H_set]; exact b
theorem Post.new {T : TW} {E : Env} {S : IS} {k : Nat} {o : IObj} {w' : World} (p : Pre T E S) (u : Upd [] E.w w') (hz : w'.heap.size = E.w.heap.size + 1)
    (ho : OR (E.with_ S.next k w') S.next o) : Post T E S (E.with_ S.next k w') (S.new o) ∧ Fresh E S (E.with_ S.next k w') := by
  have hA : ¬ E.A S.next := fun h => Nat.lt_irrefl _ (p.bnd _ h)
  obtain ⟨a, b⟩ := p.st.new hA u hz ho
  refine ⟨⟨?_, ?_, fun id h => ?_, by simp [IS.new]⟩, ⟨fun id h hn => ?_⟩⟩
  · rw [IS.H_new]; exact a
  · rw [IS.H_new]; exact b
  · show id < S.next + 1
    rcases h with h | h
    · have := p.bnd id h; omega
    · omega
  · rcases h with h | h
    · exact absurd h hn
    · omega
end Go.Ix

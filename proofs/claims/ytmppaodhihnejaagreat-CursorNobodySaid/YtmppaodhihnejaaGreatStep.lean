/- How what an abstract state says of memory goes on: one object at a time. -/
import Derived.Test.YtmppaodhihnejaaGreatRel
import Derived.Deep.Draws
set_option linter.unusedVariables false
namespace Go.Proofs.YtmppaodhihnejaaGreat.M
open Go

theorem upd_same {α : Type} (f : Nat → α) (k : Nat) (v : α) : upd f k v k = v := by simp [upd]
theorem upd_ne {α : Type} (f : Nat → α) {k i : Nat} (v : α) (h : i ≠ k) : upd f k v i = f i := by
  have : Nat.beq i k = false := by
    cases hb : Nat.beq i k with
    | false => rfl
    | true => exact absurd (Nat.eq_of_beq_eq_true hb) h
  simp [upd, this]

/-- Is what lies at a place as it was? -/
def sameAt (w w' : World) : Nat × Option Nat → Prop
  | (b, none) => w'.heap[b]? = w.heap[b]?
  | (b, some o) => w'.cell? ⟨b, o, none⟩ = w.cell? ⟨b, o, none⟩ ∧ w'.frozen? ⟨b, o, none⟩ = w.frozen? ⟨b, o, none⟩
theorem sameAt.of_block {w w' : World} {p : Nat × Option Nat} (h : w'.heap[p.1]? = w.heap[p.1]?) : sameAt w w' p := by
  obtain ⟨b, o⟩ := p
  cases o with
  | none => exact h
  | some o => exact ⟨World.cell?_of_block h, World.frozen?_of_block h⟩
theorem sameAt.refl (w : World) (p : Nat × Option Nat) : sameAt w w p := .of_block rfl

section
variable {u : Uni} {V V' : Nat → Value} {L L' : Nat → Prop} {w w' : World} {Im Im' : Nat → Prop}

theorem Lv_iff {ob : Nat → Ob u} {k : Nat} : Lv u ob k ↔ ob k ≠ .fresh := by
  unfold Lv
  cases ob k <;> simp

theorem ownB_eq {v : Value} {g : Nat} (h : ownB v = some g) : ∃ a n c, v = .slice (some a) n (c + 1) ∧ a.block = g := by
  unfold ownB at h
  split at h
  · exact ⟨_, _, _, rfl, by simpa using h⟩
  · simp at h

theorem OR.ext (h : Ext V L w Im V' L' w' Im') {v : Value} {o : Ob u} (hs : ∀ p, plc o v = some p → sameAt w w' p) (g : OR u V L w Im v o) : OR u V' L' w' Im' v o := by
  cases o with
  | fresh => trivial
  | dead => trivial
  | cell a =>
    obtain ⟨ad, y, e, hsp, hc, hf, ha⟩ := g
    subst e
    obtain ⟨b, o, s⟩ := ad
    simp only at hsp
    subst hsp
    have := hs (b, some o) rfl
    exact ⟨_, y, rfl, rfl, this.1.trans hc, this.2.trans hf, ha.ext h⟩
  | row e τ xs =>
    rcases g with g | ⟨g, cap, cur, rfl, hg, h1, h2, h3, h4⟩
    · exact .inl g
    · have : w'.heap[g]? = w.heap[g]? := hs (g, none) rfl
      exact .inr ⟨g, cap, cur, rfl, this.trans hg, h1, h2, h3, h4.mono fun _ _ => CR.ext h⟩
  | frz τ xs => exact ⟨CR.ext h g.1, g.2⟩
  | map kt vt es =>
    obtain ⟨r, ents, clock, rfl, hr, hes⟩ := g
    have : w'.heap[r]? = w.heap[r]? := hs (r, none) rfl
    exact ⟨r, ents, clock, rfl, this.trans hr, hes.mono fun _ _ g => ⟨CR.ext h g.1, CR.ext h g.2⟩⟩
  | sit s pos =>
    obtain ⟨r, rfl, hr⟩ := g
    have : w'.heap[r]? = w.heap[r]? := hs (r, none) rfl
    exact ⟨r, rfl, this.trans hr⟩
end

structure Inv (u : Uni) (fx : Fix) (V : Nat → Value) (w : World) (Im : Nat → Prop) (ob : Nat → Ob u) : Prop where
  hr : HR u V w Im ob
  fr : Fr fx V w Im ob

/-- A step: what was goes on, and the state is in order again. -/
structure Step (u : Uni) (fx : Fix) (V : Nat → Value) (w : World) (Im : Nat → Prop) (ob : Nat → Ob u) (V' : Nat → Value) (w' : World) (Im' : Nat → Prop) (ob' : Nat → Ob u) : Prop where
  ext : Ext V (Lv u ob) w Im V' (Lv u ob') w' Im'
  inv : Inv u fx V' w' Im' ob'

section
variable {u : Uni} {fx : Fix} {V : Nat → Value} {w : World} {Im : Nat → Prop} {ob : Nat → Ob u}

theorem Step.refl (h : Inv u fx V w Im ob) : Step u fx V w Im ob V w Im ob := ⟨.refl, h⟩
theorem Step.trans {V1 V2 : Nat → Value} {w1 w2 : World} {Im1 Im2 : Nat → Prop} {ob1 ob2 : Nat → Ob u} (h : Step u fx V w Im ob V1 w1 Im1 ob1) (g : Step u fx V1 w1 Im1 ob1 V2 w2 Im2 ob2) : Step u fx V w Im ob V2 w2 Im2 ob2 :=
  ⟨h.ext.trans g.ext, g.inv⟩

/-- The world goes on beside all that is owned, and stands. -/
theorem Inv.world (h : Inv u fx V w Im ob) (w' : World) (os : w'.os = w.os) (tape : w'.tape = w.tape) (output : w'.output = w.output) (sz : w.heap.size ≤ w'.heap.size)
    (blk : ∀ b, b < w.heap.size → w'.heap[b]? = w.heap[b]?) : Step u fx V w Im ob V w' Im ob := by
  have E : Ext V (Lv u ob) w Im V (Lv u ob) w' Im := ⟨fun _ h => ⟨h, rfl⟩, fun _ h => h, fun b hb => blk b (h.hr.imLt b hb)⟩
  refine ⟨E, ⟨fun k => (h.hr.obs k).ext E fun p hp => .of_block (blk _ (h.hr.lt k p hp)), h.hr.disj, h.hr.notIm, fun k p hp => Nat.lt_of_lt_of_le (h.hr.lt k p hp) sz, fun b hb => Nat.lt_of_lt_of_le (h.hr.imLt b hb) sz⟩, ?_⟩
  have f := h.fr
  refine ⟨os.trans f.os, tape.trans f.tape, output.trans f.output, Nat.le_trans f.size sz, fun b hb hO => (blk b (Nat.lt_of_lt_of_le hb f.size)).trans (f.block b hb hO), fun b o hb h1 h2 => ?_, f.imUp, f.imIn, f.ownIn, f.keys⟩
  have hbb := blk b (Nat.lt_of_lt_of_le hb f.size)
  have := f.cell b o hb h1 h2
  exact ⟨(World.cell?_of_block (w := w) (w' := w') (a := ⟨b, o, none⟩) hbb).trans this.1, (World.frozen?_of_block (w := w) (w' := w') (a := ⟨b, o, none⟩) hbb).trans this.2⟩

theorem Inv.drawn (h : Inv u fx V w Im ob) (n : Nat) : Step u fx V w Im ob V (w.drewN n) Im ob := h.world _ rfl rfl rfl (Nat.le_refl _) fun _ _ => rfl
theorem Inv.drew (h : Inv u fx V w Im ob) : Step u fx V w Im ob V w.drew Im ob := h.world _ rfl rfl rfl (Nat.le_refl _) fun _ _ => rfl
theorem Inv.alloc (h : Inv u fx V w Im ob) (o : Obj) : Step u fx V w Im ob V (w.alloc o) Im ob := h.world _ rfl rfl rfl (by simp) fun b hb => heap_alloc_old w o hb

/-- One object changes. -/
theorem Inv.upd (h : Inv u fx V w Im ob) (k0 : Nat) (o' : Ob u) (v' : Value) (w' : World) (Im' : Nat → Prop)
    (hv : Lv u ob k0 → v' = V k0) (hf : o' ≠ .fresh)
    (os : w'.os = w.os) (tape : w'.tape = w.tape) (output : w'.output = w.output) (sz : w.heap.size ≤ w'.heap.size)
    (imUp : ∀ b, Im b → Im' b) (blkIm : ∀ b, Im b → w'.heap[b]? = w.heap[b]?)
    (same : ∀ k p, k ≠ k0 → plc (ob k) (V k) = some p → sameAt w w' p)
    (or' : Ext V (Lv u ob) w Im (M.upd V k0 v') (Lv u (M.upd ob k0 o')) w' Im' → OR u (M.upd V k0 v') (Lv u (M.upd ob k0 o')) w' Im' v' o')
    (pl : ∀ p', plc o' v' = some p' → (∀ k p, k ≠ k0 → plc (ob k) (V k) = some p → ¬ clash p' p) ∧ ¬ Im' p'.1 ∧ p'.1 < w'.heap.size ∧ (fx.O p' ∨ fx.w.heap.size ≤ p'.1))
    (imD : ∀ b, Im' b → Im b ∨ ((∀ k p, k ≠ k0 → plc (ob k) (V k) = some p → p.1 ≠ b) ∧ b < w'.heap.size ∧ (fx.O (b, none) ∨ fx.w.heap.size ≤ b)))
    (frB : ∀ b, b < fx.w.heap.size → (∀ o, ¬ fx.O (b, o)) → w'.heap[b]? = w.heap[b]?)
    (frC : ∀ b o, b < fx.w.heap.size → ¬ fx.O (b, none) → ¬ fx.O (b, some o) → w'.cell? ⟨b, o, none⟩ = w.cell? ⟨b, o, none⟩ ∧ w'.frozen? ⟨b, o, none⟩ = w.frozen? ⟨b, o, none⟩) :
    Step u fx V w Im ob (M.upd V k0 v') w' Im' (M.upd ob k0 o') := by
  have E : Ext V (Lv u ob) w Im (M.upd V k0 v') (Lv u (M.upd ob k0 o')) w' Im' := by
    refine ⟨fun k hk => ?_, imUp, blkIm⟩
    by_cases e : k = k0
    · subst e
      exact ⟨Lv_iff.2 (by rw [upd_same]; exact hf), by rw [upd_same]; exact hv hk⟩
    · exact ⟨Lv_iff.2 (by rw [upd_ne _ _ e]; exact Lv_iff.1 hk), upd_ne _ _ e⟩
  have hpl : ∀ k p, k ≠ k0 → plc (M.upd ob k0 o' k) (M.upd V k0 v' k) = some p → plc (ob k) (V k) = some p := fun k p e hp => by rwa [upd_ne _ _ e, upd_ne _ _ e] at hp
  have hpl0 : ∀ p, plc (M.upd ob k0 o' k0) (M.upd V k0 v' k0) = some p → plc o' v' = some p := fun p hp => by rwa [upd_same, upd_same] at hp
  refine ⟨E, ⟨fun k => ?_, fun k k' p p' hk hp hp' => ?_, fun k p hp => ?_, fun k p hp => ?_, fun b hb => ?_⟩, ?_⟩
  · by_cases e : k = k0
    · subst e
      rw [upd_same, upd_same]
      exact or' E
    · rw [upd_ne _ _ e, upd_ne _ _ e]
      exact (h.hr.obs k).ext E fun p hp => same k p e hp
  · by_cases e : k = k0
    · subst e
      have e' : k' ≠ k := fun e => hk e.symm
      exact (pl p (hpl0 p hp)).1 k' p' e' (hpl k' p' e' hp')
    · by_cases e' : k' = k0
      · subst e'
        intro hc
        refine (pl p' (hpl0 p' hp')).1 k p e (hpl k p e hp) ⟨hc.1.symm, ?_⟩
        rcases hc.2 with hc | hc | hc
        · exact .inr (.inl hc)
        · exact .inl hc
        · exact .inr (.inr hc.symm)
      · exact h.hr.disj k k' p p' hk (hpl k p e hp) (hpl k' p' e' hp')
  · by_cases e : k = k0
    · subst e
      exact (pl p (hpl0 p hp)).2.1
    · intro hI
      rcases imD _ hI with hI | ⟨hI, _⟩
      · exact h.hr.notIm k p (hpl k p e hp) hI
      · exact hI k p e (hpl k p e hp) rfl
  · by_cases e : k = k0
    · subst e
      exact (pl p (hpl0 p hp)).2.2.1
    · exact Nat.lt_of_lt_of_le (h.hr.lt k p (hpl k p e hp)) sz
  · rcases imD b hb with hI | ⟨_, hI, _⟩
    · exact Nat.lt_of_lt_of_le (h.hr.imLt b hI) sz
    · exact hI
  · have f := h.fr
    refine ⟨os.trans f.os, tape.trans f.tape, output.trans f.output, Nat.le_trans f.size sz, fun b hb hO => (frB b hb hO).trans (f.block b hb hO), fun b o hb h1 h2 => ?_, fun b hb => imUp b (f.imUp b hb), fun b hb => ?_, fun k p hp => ?_, fun k hk => ⟨(E.lv k (f.keys k hk).1).1, (E.lv k (f.keys k hk).1).2.trans (f.keys k hk).2⟩⟩
    · have := frC b o hb h1 h2
      have g := f.cell b o hb h1 h2
      exact ⟨this.1.trans g.1, this.2.trans g.2⟩
    · rcases imD b hb with hI | ⟨_, _, hI⟩
      · exact f.imIn b hI
      · exact .inr hI
    · by_cases e : k = k0
      · subst e
        exact (pl p (hpl0 p hp)).2.2.2
      · exact f.ownIn k p (hpl k p e hp)

/-- One object changes, the world stands. -/
theorem Inv.here (h : Inv u fx V w Im ob) (k0 : Nat) (o' : Ob u) (v' : Value) (hv : Lv u ob k0 → v' = V k0) (hf : o' ≠ .fresh)
    (or' : Ext V (Lv u ob) w Im (M.upd V k0 v') (Lv u (M.upd ob k0 o')) w Im → OR u (M.upd V k0 v') (Lv u (M.upd ob k0 o')) w Im v' o')
    (pl : ∀ p', plc o' v' = some p' → (∀ k p, k ≠ k0 → plc (ob k) (V k) = some p → ¬ clash p' p) ∧ ¬ Im p'.1 ∧ p'.1 < w.heap.size ∧ (fx.O p' ∨ fx.w.heap.size ≤ p'.1)) :
    Step u fx V w Im ob (M.upd V k0 v') w Im (M.upd ob k0 o') :=
  h.upd k0 o' v' w Im hv hf rfl rfl rfl (Nat.le_refl _) (fun _ h => h) (fun _ _ => rfl) (fun k p _ _ => .refl _ _) or' pl (fun b hb => .inl hb) (fun _ _ _ => rfl) (fun _ _ _ _ _ => ⟨rfl, rfl⟩)

theorem upd_self {α : Type} (f : Nat → α) (k : Nat) : M.upd f k (f k) = f := by
  funext i
  by_cases e : i = k
  · subst e; exact upd_same _ _ _
  · exact upd_ne _ _ e

/-- An object is given up. -/
theorem Inv.kill (h : Inv u fx V w Im ob) (k0 : Nat) : Step u fx V w Im ob V w Im (M.upd ob k0 .dead) := by
  have := h.here k0 .dead (V k0) (fun _ => rfl) (by simp) (fun _ => trivial) (fun p hp => by simp [plc] at hp)
  rwa [upd_self] at this

/-- A row is frozen. -/
theorem Inv.freeze (h : Inv u fx V w Im ob) (k0 : Nat) (e : TypeId) (τ : Ty) (xs : List (u.D τ)) (ho : ob k0 = .row e τ xs) :
    ∃ Im', Step u fx V w Im ob V w Im' (M.upd ob k0 (.frz τ xs)) := by
  have hob := h.hr.obs k0
  rw [ho] at hob
  rcases hob with ⟨rfl, A, hV⟩ | ⟨g, cap, cur, hV, hg, h1, h2, h3, h4⟩
  · refine ⟨Im, ?_⟩
    have := h.here k0 (.frz τ []) (V k0) (fun _ => rfl) (by simp) (fun E => ⟨?_, A, 0, hV, fun h => absurd rfl h⟩) (fun p hp => by simp [plc] at hp)
    · rwa [upd_self] at this
    · rw [hV]
      exact .sl τ [] A 0 [] (Nat.le_refl _) (by unfold maxLen; omega) (by simp) (fun h => absurd rfl h) (fun j v c h => by simp at h)
  · have hp : plc (ob k0) (V k0) = some (g, none) := by rw [ho, hV]; rfl
    refine ⟨fun b => Im b ∨ b = g, ?_⟩
    have hne : ∀ k p, k ≠ k0 → plc (ob k) (V k) = some p → p.1 ≠ g := fun k p hk hpk e => h.hr.disj k k0 p (g, none) hk hpk hp ⟨e, .inr (.inl rfl)⟩
    have := h.upd k0 (.frz τ xs) (V k0) w (fun b => Im b ∨ b = g) (fun _ => rfl) (by simp) rfl rfl rfl (Nat.le_refl _) (fun _ h => .inl h) (fun _ _ => rfl) (fun k p _ _ => .refl _ _)
      (fun E => ⟨?_, some ⟨g, 0, none⟩, cap + 1, hV, fun _ => ⟨g, rfl⟩⟩) (fun p hp => by simp [plc] at hp) (fun b hb => ?_) (fun _ _ _ => rfl) (fun _ _ _ _ _ => ⟨rfl, rfl⟩)
    · rwa [upd_self] at this
    · rw [hV]
      have hl : (cur.toList.take (xs.length * sz u τ)).length = xs.length * sz u τ := by
        rw [List.length_take, Array.length_toList (xs := cur), h3]
        exact Nat.min_eq_left (Nat.mul_le_mul_right _ h1)
      refine .sl τ xs _ (cap + 1) (cur.toList.take (xs.length * sz u τ)) h1 h2 hl (fun _ => ⟨⟨g, 0, none⟩, rfl, .inr rfl, fun j v hv => ?_⟩) (fun j v c hv hc => ?_)
      · rw [Addr.add_lit, Nat.zero_add, cell_of_row w g j cur e (0, 0) hg]
        rw [List.getElem?_take] at hv
        split at hv
        · simpa using hv
        · cases hv
      · obtain ⟨c', hc', hcr⟩ := h4.get j v hv
        rw [hc] at hc'
        cases hc'
        exact CR.ext E hcr
    · rcases hb with hb | rfl
      · exact .inl hb
      · exact .inr ⟨hne, h.hr.lt k0 _ hp, h.fr.ownIn k0 _ hp⟩
end
end Go.Proofs.YtmppaodhihnejaaGreat.M

/- Calls. -/
import Derived.Test.YtmppaodhihnejaaGreatOpsI
set_option linter.unusedVariables false
namespace Go.Proofs.YtmppaodhihnejaaGreat.M
open Go

def obsF {u : Uni} (os : List (Ob u)) : Nat → Ob u := fun k => match os[k]? with
  | some o => o
  | none => .fresh

section
variable {P : Program} {u : Uni} {R : Type}

/-- What a call comes to. -/
def Gives (P : Program) (f : FuncId) (vs : Array Value) (w : World) (Q : Value → World → Prop) : Prop :=
  ((callFunc f vs).run P w = .ok (.enter f vs) w ∧ Calls P f vs w (fun e w' => ∃ v, e = .returned v ∧ Q v w')) ∨
  (∃ v w', (callFunc f vs).run P w = .ok (.value v) w' ∧ Q v w')
theorem Gives.mono {f : FuncId} {vs : Array Value} {w : World} {Q Q' : Value → World → Prop} (h : Gives P f vs w Q) (hq : ∀ v w', Q v w' → Q' v w') : Gives P f vs w Q' := by
  rcases h with ⟨h1, h2⟩ | ⟨v, w', h1, h2⟩
  · refine .inl ⟨h1, fun cs => ?_⟩
    obtain ⟨e, w', fr, ⟨v, e1, hv⟩, h3⟩ := h2 cs
    exact ⟨e, w', fr, ⟨v, e1, hq _ _ hv⟩, h3⟩
  · exact .inr ⟨v, w', h1, hq _ _ h2⟩

/-- From where a call begins. -/
def fixOf (V : Nat → Value) (w : World) (Im : Nat → Prop) (os : List (Ob u)) : Fix := ⟨fun q => ∃ k, plc (obsF os k) (V k) = some q, w, Im, os.length, V, []⟩
theorem Fr.start {V : Nat → Value} {w : World} {Im : Nat → Prop} {os : List (Ob u)} (hl : ∀ k, k < os.length → Lv u (obsF os) k) : Fr (fixOf V w Im os) V w Im (obsF os) :=
  ⟨rfl, rfl, rfl, Nat.le_refl _, fun _ _ _ => rfl, fun _ _ _ _ _ => ⟨rfl, rfl⟩, fun _ h => h, fun _ h => .inl h, fun k p h => .inl ⟨k, h⟩, fun k hk => ⟨hl k hk, rfl⟩⟩

def OrcOk (P : Program) (orc : Orc u R) : Prop := ∀ f as os (K : List (SV u) → List (Ob u) → Option R) z, orc f as os K = some z →
  ∀ (V : Nat → Value) (w : World) (Im : Nat → Prop) (vs : List Value), HR u V w Im (obsF os) → (∀ k, k < os.length → Lv u (obsF os) k) → R2 (SR u V (Lv u (obsF os)) w Im) as vs →
    Gives P f vs.toArray w (fun v w' => ∃ res obs V' Im', K res obs = some z ∧ Step u (fixOf V w Im os) V w Im (obsF os) V' w' Im' (obsF obs) ∧ SlR u V' (Lv u (obsF obs)) w' Im' (resSlot res) v)

/-! ### Names anew -/
section
variable {V V' : Nat → Value} {L L' : Nat → Prop} {w : World} {Im : Nat → Prop} {ρ : Ren}

theorem renTo_get {k p : Nat} : ∀ {n : Nat}, renTo ρ k p n = true → ∀ j, j < n → ρ (k + j) = some (p + j)
  | 0, _, j, hj => by omega
  | n + 1, h, j, hj => by
    simp only [renTo, Bool.and_eq_true] at h
    by_cases e : j = n
    · subst e
      have := h.1
      split at this
      · rename_i q hq
        rw [hq, Nat.eq_of_beq_eq_true this]
      · cases this
    · exact renTo_get h.2 j (by omega)
theorem renPtr_ok (hρ : ∀ k p, ρ k = some p → L k → L' p ∧ V' p = V k) {k n p : Nat} (h : renPtr ρ k n = some p) {v : Value} (hv : ptrR V L k n v) : ptrR V' L' p n v := by
  unfold renPtr at h
  split at h
  · rename_i p' hp
    cases hb : renTo ρ k p' n with
    | false => rw [hb] at h; cases h
    | true =>
      rw [hb] at h
      cases h
      obtain ⟨b, o, rfl, hj⟩ := hv
      refine ⟨b, o, rfl, fun j hjn => ?_⟩
      have h1 := hρ _ _ (renTo_get hb j hjn) (hj j hjn).1
      exact ⟨h1.1, h1.2.trans (hj j hjn).2⟩
  · cases h
theorem ren0_ok (hρ : ∀ k p, ρ k = some p → L k → L' p ∧ V' p = V k) {a b : AV0 u} (h : ren0 ρ a = some b) {v : Value} (hv : AR0 u V L w Im a v) : AR0 u V' L' w Im b v := by
  cases a with
  | c x => cases h; exact hv
  | ptr k n =>
    obtain ⟨p, hp, rfl⟩ := Option.map_eq_some_iff.1 (show (renPtr ρ k n).map (fun p => AV0.ptr p n) = some b from h)
    exact renPtr_ok hρ hp hv
  | raw r => cases h; exact hv
theorem ren0s_ok (hρ : ∀ k p, ρ k = some p → L k → L' p ∧ V' p = V k) : ∀ {as bs : List (AV0 u)} (h : ren0s ρ as = some bs) {vs : List Value}, R2 (AR0 u V L w Im) as vs → R2 (AR0 u V' L' w Im) bs vs
  | [], bs, h, [], _ => by cases h; trivial
  | [], _, _, _ :: _, h => h.elim
  | _ :: _, _, _, [], h => h.elim
  | a :: as, bs, h, v :: vs, hv => by
    simp only [ren0s] at h
    split at h
    · rename_i b hb
      split at h
      · rename_i bs' hbs
        cases h
        exact ⟨ren0_ok hρ hb hv.1, ren0s_ok hρ hbs hv.2⟩
      · cases h
    · cases h
theorem ren_ok (hρ : ∀ k p, ρ k = some p → L k → L' p ∧ V' p = V k) {a b : AV u} (h : ren ρ a = some b) {v : Value} (hv : AR u V L w Im a v) : AR u V' L' w Im b v := by
  cases a with
  | ptr k n =>
    obtain ⟨p, hp, rfl⟩ := Option.map_eq_some_iff.1 (show (renPtr ρ k n).map (fun p => AV.ptr p n) = some b from h)
    exact renPtr_ok hρ hp hv
  | ep k s i o =>
    obtain ⟨p, hp, rfl⟩ := Option.map_eq_some_iff.1 (show (ρ k).map (fun p => AV.ep p s i o) = some b from h)
    obtain ⟨hl, g, n, c, h1, h2⟩ := hv
    have := hρ k p hp hl
    exact ⟨this.1, g, n, c, this.2.trans h1, h2⟩
  | own k =>
    obtain ⟨p, hp, rfl⟩ := Option.map_eq_some_iff.1 (show (ρ k).map AV.own = some b from h)
    have := hρ k p hp hv.1
    exact ⟨this.1, hv.2.1.trans this.2.symm, hv.2.2⟩
  | view k s lo len c =>
    obtain ⟨p, hp, rfl⟩ := Option.map_eq_some_iff.1 (show (ρ k).map (fun p => AV.view p s lo len c) = some b from h)
    obtain ⟨hl, A, n, c', h1, h2⟩ := hv
    have := hρ k p hp hl
    exact ⟨this.1, A, n, c', this.2.trans h1, h2⟩
  | map k =>
    obtain ⟨p, hp, rfl⟩ := Option.map_eq_some_iff.1 (show (ρ k).map AV.map = some b from h)
    have := hρ k p hp hv.1
    exact ⟨this.1, hv.2.1.trans this.2.symm, hv.2.2⟩
  | it k =>
    obtain ⟨p, hp, rfl⟩ := Option.map_eq_some_iff.1 (show (ρ k).map AV.it = some b from h)
    have := hρ k p hp hv.1
    exact ⟨this.1, hv.2.1.trans this.2.symm, hv.2.2⟩
  | fn f caps =>
    obtain ⟨cs', hp, rfl⟩ := Option.map_eq_some_iff.1 (show (ren0s ρ caps).map (AV.fn f) = some b from h)
    obtain ⟨cs, e, hr⟩ := hv
    exact ⟨cs, e, ren0s_ok hρ hp hr⟩
  | _ => cases h; exact hv
theorem renL_ok (hρ : ∀ k p, ρ k = some p → L k → L' p ∧ V' p = V k) : ∀ {as bs : List (AV u)} (h : renL ρ as = some bs) {vs : List Value}, R2 (AR u V L w Im) as vs → R2 (AR u V' L' w Im) bs vs
  | [], bs, h, [], _ => by cases h; trivial
  | [], _, _, _ :: _, h => h.elim
  | _ :: _, _, _, [], h => h.elim
  | a :: as, bs, h, v :: vs, hv => by
    simp only [renL] at h
    split at h
    · rename_i b hb
      split at h
      · rename_i bs' hbs
        cases h
        exact ⟨ren_ok hρ hb hv.1, renL_ok hρ hbs hv.2⟩
      · cases h
    · cases h
theorem renS_ok (hρ : ∀ k p, ρ k = some p → L k → L' p ∧ V' p = V k) {a b : SV u} (h : renS ρ a = some b) {v : Value} (hv : SR u V L w Im a v) : SR u V' L' w Im b v := by
  cases a with
  | v a =>
    obtain ⟨p, hp, rfl⟩ := Option.map_eq_some_iff.1 (show (ren ρ a).map SV.v = some b from h)
    exact ren_ok hρ hp hv
  | agg cs =>
    obtain ⟨p, hp, rfl⟩ := Option.map_eq_some_iff.1 (show (renL ρ cs).map SV.agg = some b from h)
    obtain ⟨vs, e, hr⟩ := hv
    exact ⟨vs, e, renL_ok hρ hp hr⟩
theorem renSs_ok (hρ : ∀ k p, ρ k = some p → L k → L' p ∧ V' p = V k) : ∀ {as bs : List (SV u)} (h : renSs ρ as = some bs) {vs : List Value}, R2 (SR u V L w Im) as vs → R2 (SR u V' L' w Im) bs vs
  | [], bs, h, [], _ => by cases h; trivial
  | [], _, _, _ :: _, h => h.elim
  | _ :: _, _, _, [], h => h.elim
  | a :: as, bs, h, v :: vs, hv => by
    simp only [renSs] at h
    split at h
    · rename_i b hb
      split at h
      · rename_i bs' hbs
        cases h
        exact ⟨renS_ok hρ hb hv.1, renSs_ok hρ hbs hv.2⟩
      · cases h
    · cases h
theorem renOb_ok (hρ : ∀ k p, ρ k = some p → L k → L' p ∧ V' p = V k) {a b : Ob u} (h : renOb ρ a = some b) {v : Value} (hv : OR u V L w Im v a) : OR u V' L' w Im v b := by
  cases a with
  | cell a =>
    obtain ⟨p, hp, rfl⟩ := Option.map_eq_some_iff.1 (show (ren ρ a).map Ob.cell = some b from h)
    obtain ⟨ad, y, h1, h2, h3, h4, h5⟩ := hv
    exact ⟨ad, y, h1, h2, h3, h4, ren_ok hρ hp h5⟩
  | _ => cases h; exact hv
theorem renOb_plc {a b : Ob u} (h : renOb ρ a = some b) (v : Value) : plc b v = plc a v := by
  cases a with
  | cell a =>
    obtain ⟨p, hp, rfl⟩ := Option.map_eq_some_iff.1 (show (ren ρ a).map Ob.cell = some b from h)
    cases v with
    | pointer o => cases o <;> rfl
    | _ => rfl
  | _ => cases h; rfl
theorem renOb_fresh {a b : Ob u} (h : renOb ρ a = some b) : b = .fresh ↔ a = .fresh := by
  cases a with
  | cell a =>
    obtain ⟨p, hp, rfl⟩ := Option.map_eq_some_iff.1 (show (ren ρ a).map Ob.cell = some b from h)
    simp
  | _ => cases h; simp
theorem renObs_get {lk : Nat → Ob u} : ∀ {ks : List Nat} {os : List (Ob u)}, renObs ρ lk ks = some os → os.length = ks.length ∧ ∀ (i k : Nat), ks[i]? = some k → ∃ o, os[i]? = some o ∧ renOb ρ (lk k) = some o
  | [], os, h => by cases h; exact ⟨rfl, fun i k h => by simp at h⟩
  | k :: ks, os, h => by
    simp only [renObs] at h
    split at h
    · rename_i b hb
      split at h
      · rename_i bs hbs
        cases h
        obtain ⟨h1, h2⟩ := renObs_get hbs
        refine ⟨by simp [h1], fun i k' hi => ?_⟩
        cases i with
        | zero => simp at hi; subst hi; exact ⟨b, rfl, hb⟩
        | succ i => simpa using h2 i k' (by simpa using hi)
      · cases h
    · cases h
theorem renObL_get : ∀ {as bs : List (Ob u)}, renObL ρ as = some bs → bs.length = as.length ∧ ∀ (i : Nat) o, as[i]? = some o → ∃ b, bs[i]? = some b ∧ renOb ρ o = some b
  | [], bs, h => by cases h; exact ⟨rfl, fun i k h => by simp at h⟩
  | a :: as, bs, h => by
    simp only [renObL] at h
    split at h
    · rename_i b hb
      split at h
      · rename_i bs hbs
        cases h
        obtain ⟨h1, h2⟩ := renObL_get hbs
        refine ⟨by simp [h1], fun i k' hi => ?_⟩
        cases i with
        | zero => simp at hi; subst hi; exact ⟨b, rfl, hb⟩
        | succ i => simpa using h2 i k' (by simpa using hi)
      · cases h
    · cases h
end

theorem memN_iff {k : Nat} : ∀ {l : List Nat}, memN k l = true ↔ k ∈ l
  | [] => by simp [memN]
  | x :: r => by
    simp only [memN, Bool.or_eq_true, List.mem_cons, memN_iff (l := r)]
    constructor
    · rintro (h | h)
      · exact .inl (Nat.eq_of_beq_eq_true h)
      · exact .inr h
    · rintro (rfl | h)
      · exact .inl (Nat.beq_refl k)
      · exact .inr h
theorem nthN_eq : ∀ (l : List Nat) (i : Nat), nthN l i = l[i]?
  | [], _ => rfl
  | _ :: _, 0 => rfl
  | _ :: r, n + 1 => by simp [nthN, nthN_eq r n]
theorem posN_get {k : Nat} : ∀ {l : List Nat} {p : Nat}, posN k l = some p → l[p]? = some k
  | [], _, h => by cases h
  | x :: r, p, h => by
    simp only [posN] at h
    cases hb : Nat.beq k x with
    | true =>
      rw [hb] at h
      cases h
      have := Nat.eq_of_beq_eq_true hb
      subst this
      rfl
    | false =>
      rw [hb] at h
      obtain ⟨q, hq, rfl⟩ := Option.map_eq_some_iff.1 (show (posN k r).map (· + 1) = some p from h)
      simpa using posN_get hq
theorem nodupN_iff : ∀ {l : List Nat}, nodupN l = true → ∀ (i j k : Nat), l[i]? = some k → l[j]? = some k → i = j
  | [], _, i, j, k, h, _ => by simp at h
  | x :: r, h, i, j, k, hi, hj => by
    simp only [nodupN, Bool.and_eq_true, Bool.not_eq_true'] at h
    have hx : x ∉ r := fun hm => by
      have := memN_iff.2 hm
      rw [h.1] at this
      cases this
    cases i with
    | zero =>
      simp at hi
      subst hi
      cases j with
      | zero => rfl
      | succ j => exact absurd (List.mem_of_getElem? (by simpa using hj)) hx
    | succ i =>
      cases j with
      | zero =>
        simp at hj
        subst hj
        exact absurd (List.mem_of_getElem? (by simpa using hi)) hx
      | succ j => rw [nodupN_iff h.2 i j k (by simpa using hi) (by simpa using hj)]
theorem allLive_get {lk : Nat → Ob u} : ∀ {l : List Nat}, allLive lk l = true → ∀ (i k : Nat), l[i]? = some k → lk k ≠ .fresh
  | [], _, i, k, h => by simp at h
  | x :: r, h, i, k, hi => by
    unfold allLive at h
    split at h
    · cases h
    · rename_i hx
      cases i with
      | zero => simp at hi; subst hi; exact hx
      | succ i => exact allLive_get h i k (by simpa using hi)
theorem upds_zip_out {α : Type} (g : Nat → Nat) : ∀ (l : List α) (i : Nat) (f : Nat → α) (k : Nat), (∀ j, j < l.length → g (i + j) ≠ k) → upds f (zipK g i l) k = f k
  | [], _, _, _, _ => rfl
  | x :: l, i, f, k, h => by
    simp only [zipK, upds]
    rw [upds_zip_out g l (i + 1) _ k (fun j hj => by rw [show i + 1 + j = i + (j + 1) by omega]; exact h (j + 1) (by simp; omega)), upd_ne _ _ (fun e => h 0 (by simp) (by simpa using e.symm))]
theorem upds_zip_in {α : Type} (g : Nat → Nat) : ∀ (l : List α) (i : Nat) (f : Nat → α) (j : Nat) (x : α), (∀ j j', j < l.length → j' < l.length → g (i + j) = g (i + j') → j = j') → l[j]? = some x → upds f (zipK g i l) (g (i + j)) = x
  | [], _, _, _, _, _, h => by simp at h
  | y :: l, i, f, j, x, hg, h => by
    simp only [zipK, upds]
    cases j with
    | zero =>
      simp at h
      subst h
      rw [upds_zip_out g l (i + 1) _ _ (fun j hj e => by
        have := hg (j + 1) 0 (by simp; omega) (by simp) (by rw [← e]; congr 1; omega)
        omega)]
      exact upd_same _ _ _
    | succ j =>
      rw [show i + (j + 1) = i + 1 + j by omega]
      refine upds_zip_in g l (i + 1) _ j x (fun a b ha hb e => ?_) (by simpa using h)
      have := hg (a + 1) (b + 1) (by simp; omega) (by simp; omega) (by rw [show i + (a + 1) = i + 1 + a by omega, show i + (b + 1) = i + 1 + b by omega]; exact e)
      omega
theorem obsF_get {os : List (Ob u)} {p : Nat} {o : Ob u} (h : os[p]? = some o) : obsF os p = o := by simp [obsF, h]
theorem obsF_none {os : List (Ob u)} {p : Nat} (h : os[p]? = none) : obsF os p = .fresh := by simp [obsF, h]

section
variable {fx : Fix} {V : Nat → Value} {w : World} {Im : Nat → Prop} {ob : Nat → Ob u}

/-- What a function is lent, as it sees it. -/
theorem HR.lend (h : HR u V w Im ob) {ks : List Nat} (hnd : nodupN ks = true) (hlv : allLive ob ks = true) {os : List (Ob u)} (hos : renObs (fun k => posN k ks) ob ks = some os) :
    (∀ k p, posN k ks = some p → Lv u ob k → Lv u (obsF os) p ∧ (match ks[p]? with | some k => V k | none => Value.nilFunc) = V k) ∧
    HR u (fun p => match ks[p]? with | some k => V k | none => Value.nilFunc) w Im (obsF os) ∧
    (∀ p k, ks[p]? = some k → plc (obsF os p) (V k) = plc (ob k) (V k)) ∧ os.length = ks.length := by
  obtain ⟨hlen, hget⟩ := renObs_get hos
  have hρ : ∀ k p, posN k ks = some p → Lv u ob k → Lv u (obsF os) p ∧ (match ks[p]? with | some k => V k | none => Value.nilFunc) = V k := by
    intro k p hp hl
    have hk := posN_get hp
    obtain ⟨o, ho, hr⟩ := hget p k hk
    refine ⟨Lv_iff.2 ?_, by rw [hk]⟩
    rw [obsF_get ho]
    exact fun e => Lv_iff.1 hl ((renOb_fresh hr).1 e)
  have hpl : ∀ p k, ks[p]? = some k → plc (obsF os p) (V k) = plc (ob k) (V k) := by
    intro p k hk
    obtain ⟨o, ho, hr⟩ := hget p k hk
    rw [obsF_get ho, renOb_plc hr]
  have hno : ∀ p, ks[p]? = none → obsF os p = .fresh := fun p hp => obsF_none (by
    rw [List.getElem?_eq_none_iff] at hp ⊢
    omega)
  have hpl2 : ∀ p q, plc (obsF os p) (match ks[p]? with | some k => V k | none => Value.nilFunc) = some q → ∃ k, ks[p]? = some k ∧ plc (ob k) (V k) = some q := by
    intro p q hq
    cases hk : ks[p]? with
    | none => rw [hno p hk] at hq; cases hq
    | some k =>
      rw [hk] at hq
      exact ⟨k, rfl, by rw [← hpl p k hk]; exact hq⟩
  refine ⟨hρ, ⟨fun p => ?_, fun p p' q q' hpp hq hq' => ?_, fun p q hq => ?_, fun p q hq => ?_, h.imLt⟩, hpl, hlen⟩
  · cases hk : ks[p]? with
    | none => rw [hno p hk]; trivial
    | some k =>
      obtain ⟨o, ho, hr⟩ := hget p k hk
      rw [obsF_get ho]
      exact renOb_ok hρ hr (h.obs k)
  · obtain ⟨k, hk, h1⟩ := hpl2 p q hq
    obtain ⟨k', hk', h2⟩ := hpl2 p' q' hq'
    refine h.disj k k' q q' (fun e => hpp ?_) h1 h2
    subst e
    exact nodupN_iff hnd p p' k hk hk'
  · obtain ⟨k, hk, h1⟩ := hpl2 p q hq
    exact h.notIm k q h1
  · obtain ⟨k, hk, h1⟩ := hpl2 p q hq
    exact h.lt k q h1

/-- The state behind a call. -/
theorem Inv.back (h : Inv u fx V w Im ob) {ks : List Nat} (hnd : nodupN ks = true) (hlv : allLive ob ks = true) {os : List (Ob u)} (hos : renObs (fun k => posN k ks) ob ks = some os)
    {obs : List (Ob u)} {V' : Nat → Value} {w' : World} {Im' : Nat → Prop} {dk : Nat}
    (hs : Step u (fixOf (fun p => match ks[p]? with | some k => V k | none => Value.nilFunc) w Im os) (fun p => match ks[p]? with | some k => V k | none => Value.nilFunc) w Im (obsF os) V' w' Im' (obsF obs))
    (hm : ks.length ≤ obs.length) (hf : allFresh ob dk (obs.length - ks.length) = true)
    {bs : List (Ob u)} (hb : renObL (fun p => bif ltN p obs.length then some (backN ks ks.length dk p) else none) obs = some bs) :
    ∃ V2, Step u fx V w Im ob V2 w' Im' (upds ob (zipK (backN ks ks.length dk) 0 bs)) ∧
      ∀ k p, (bif ltN k obs.length then some (backN ks ks.length dk k) else none) = some p → Lv u (obsF obs) k → Lv u (upds ob (zipK (backN ks ks.length dk) 0 bs)) p ∧ V2 p = V' k := by
  obtain ⟨hρ, hrc, hplc, hosl⟩ := h.hr.lend hnd hlv hos
  obtain ⟨hbl, hbg⟩ := renObL_get hb
  generalize hg : backN ks ks.length dk = g at *
  have g_in : ∀ p, p < ks.length → ∃ k, ks[p]? = some k ∧ g p = k := by
    intro p hp
    refine ⟨ks[p], List.getElem?_eq_getElem hp, ?_⟩
    rw [← hg]
    simp [backN, nthN_eq, List.getElem?_eq_getElem hp]
  have g_out : ∀ p, ks.length ≤ p → g p = dk + (p - ks.length) := by
    intro p hp
    rw [← hg]
    simp [backN, nthN_eq, List.getElem?_eq_none hp]
  have ffresh : ∀ p, ks.length ≤ p → p < obs.length → ob (g p) = .fresh := fun p h1 h2 => by
    rw [g_out p h1]
    exact allFresh_at hf _ (by omega)
  have flive : ∀ p, p < ks.length → ob (g p) ≠ .fresh := fun p hp => by
    obtain ⟨k, hk, e⟩ := g_in p hp
    rw [e]
    exact allLive_get hlv p k hk
  have ginj : ∀ p q, p < obs.length → q < obs.length → g p = g q → p = q := by
    intro p q hp hq e
    by_cases h1 : p < ks.length
    · by_cases h2 : q < ks.length
      · obtain ⟨k, hk, e1⟩ := g_in p h1
        obtain ⟨k', hk', e2⟩ := g_in q h2
        rw [e1, e2] at e
        subst e
        exact nodupN_iff hnd p q k hk hk'
      · exact absurd (by rw [e]; exact ffresh q (by omega) hq) (flive p h1)
    · by_cases h2 : q < ks.length
      · exact absurd (by rw [← e]; exact ffresh p (by omega) hp) (flive q h2)
      · rw [g_out p (by omega), g_out q (by omega)] at e
        omega
  have ob_in : ∀ p, p < obs.length → ∃ b, bs[p]? = some b ∧ upds ob (zipK g 0 bs) (g p) = b ∧ renOb (fun p => bif ltN p obs.length then some (g p) else none) (obsF obs p) = some b := by
    intro p hp
    obtain ⟨b, h1, h2⟩ := hbg p obs[p] (List.getElem?_eq_getElem hp)
    refine ⟨b, h1, ?_, by rw [obsF_get (List.getElem?_eq_getElem hp)]; exact h2⟩
    have := upds_zip_in g bs 0 ob p b (fun a c ha hc e => ginj a c (by omega) (by omega) (by simpa using e)) h1
    simpa using this
  have ob_out : ∀ k, (∀ p, p < obs.length → g p ≠ k) → upds ob (zipK g 0 bs) k = ob k := fun k hk =>
    upds_zip_out g bs 0 ob k (fun j hj => by rw [Nat.zero_add]; exact hk j (by omega))
  obtain ⟨V2, V_in, V_out⟩ : ∃ V2 : Nat → Value, (∀ p, p < obs.length → V2 (g p) = V' p) ∧ ∀ k, (∀ p, p < obs.length → g p ≠ k) → V2 k = V k := by
    refine ⟨upds V (zipK g 0 ((List.range obs.length).map V')), fun p hp => ?_, fun k hk => ?_⟩
    · have := upds_zip_in g ((List.range obs.length).map V') 0 V p (V' p) (fun a c ha hc e => ginj a c (by simpa using ha) (by simpa using hc) (by simpa using e)) (by simp [hp])
      simpa using this
    · exact upds_zip_out g _ 0 V k (fun j hj => by rw [Nat.zero_add]; exact hk j (by simpa using hj))
  have split : ∀ k, (∃ p, p < obs.length ∧ g p = k) ∨ ∀ p, p < obs.length → g p ≠ k := fun k => by
    by_cases h : ∃ p, p < obs.length ∧ g p = k
    · exact .inl h
    · exact .inr fun p hp e => h ⟨p, hp, e⟩
  generalize hob2 : upds ob (zipK g 0 bs) = ob2 at *
  -- the lent places
  have lentP : ∀ q, (fixOf (fun p => match ks[p]? with | some k => V k | none => Value.nilFunc) w Im os).O q → ∃ p k, p < ks.length ∧ g p = k ∧ plc (ob k) (V k) = some q := by
    rintro q ⟨p, hp⟩
    have hp : plc (obsF os p) (match ks[p]? with | some k => V k | none => Value.nilFunc) = some q := hp
    cases hk : ks[p]? with
    | none =>
      rw [obsF_none (by rw [List.getElem?_eq_none_iff] at hk ⊢; omega)] at hp
      cases hp
    | some k =>
      rw [hk] at hp
      have hlt : p < ks.length := (List.getElem?_eq_some_iff.1 hk).1
      obtain ⟨k', hk', e⟩ := g_in p hlt
      rw [hk] at hk'
      cases hk'
      exact ⟨p, k, hlt, e, by rw [← hplc p k hk]; exact hp⟩
  have hρ2 : ∀ k p, (bif ltN k obs.length then some (g k) else none) = some p → Lv u (obsF obs) k → Lv u ob2 p ∧ V2 p = V' k := by
    intro k p hp hl
    cases hb : ltN k obs.length with
    | false => rw [hb] at hp; cases hp
    | true =>
      rw [hb] at hp
      cases hp
      have hk : k < obs.length := Nat.le_of_ble_eq_true hb
      obtain ⟨b, h1, h2, h3⟩ := ob_in k hk
      exact ⟨Lv_iff.2 (by rw [h2]; exact fun e => Lv_iff.1 hl ((renOb_fresh h3).1 e)), V_in k hk⟩
  have E : Ext V (Lv u ob) w Im V2 (Lv u ob2) w' Im' := by
    refine ⟨fun k hk => ?_, hs.ext.im, hs.ext.blk⟩
    rcases split k with ⟨p, hp, rfl⟩ | hk'
    · by_cases h1 : p < ks.length
      · obtain ⟨k, hk1, e⟩ := g_in p h1
        have hl : Lv u (obsF os) p := by
          obtain ⟨o, ho, hr⟩ := (renObs_get hos).2 p k hk1
          exact Lv_iff.2 (by rw [obsF_get ho]; exact fun e' => flive p h1 (by rw [e]; exact (renOb_fresh hr).1 e'))
        have h2 := hs.ext.lv p hl
        have h3 := hρ2 p (g p) (by rw [show ltN p obs.length = true from Nat.ble_eq_true_of_le hp]; rfl) h2.1
        refine ⟨h3.1, h3.2.trans (h2.2.trans ?_)⟩
        simp only [hk1, e]
      · exact absurd (ffresh p (by omega) hp) (Lv_iff.1 hk)
    · exact ⟨Lv_iff.2 (by rw [ob_out k hk']; exact Lv_iff.1 hk), V_out k hk'⟩
  have plc_in : ∀ p, p < obs.length → plc (ob2 (g p)) (V2 (g p)) = plc (obsF obs p) (V' p) := fun p hp => by
    obtain ⟨b, h1, h2, h3⟩ := ob_in p hp
    rw [h2, V_in p hp, renOb_plc h3]
  have plc_out : ∀ k, (∀ p, p < obs.length → g p ≠ k) → plc (ob2 k) (V2 k) = plc (ob k) (V k) := fun k hk => by rw [ob_out k hk, V_out k hk]
  have noLent : ∀ k q o, (∀ p, p < obs.length → g p ≠ k) → plc (ob k) (V k) = some q → (q.2 = none ∨ o = none ∨ q.2 = o) → ¬ (fixOf (fun p => match ks[p]? with | some k => V k | none => Value.nilFunc) w Im os).O (q.1, o) := by
    intro k q o hk hq hc hO
    obtain ⟨p, k', hp, e, hpl⟩ := lentP _ hO
    refine h.hr.disj k k' q _ (fun e' => hk p (by omega) (by rw [e, e'])) hq hpl ⟨rfl, ?_⟩
    rcases hc with hc | hc | hc
    · exact .inl hc
    · exact .inr (.inl hc)
    · exact .inr (.inr hc)
  have same : ∀ k q, (∀ p, p < obs.length → g p ≠ k) → plc (ob k) (V k) = some q → sameAt w w' q := by
    intro k q hk hq
    have hlt := h.hr.lt k q hq
    obtain ⟨b, o⟩ := q
    cases o with
    | none => exact hs.inv.fr.block b hlt (fun o => noLent k (b, none) o hk hq (.inl rfl))
    | some o => exact hs.inv.fr.cell b o hlt (noLent k (b, some o) none hk hq (.inr (.inl rfl))) (noLent k (b, some o) (some o) hk hq (.inr (.inr rfl)))
  have cross : ∀ p k q q', p < obs.length → (∀ p, p < obs.length → g p ≠ k) → plc (obsF obs p) (V' p) = some q → plc (ob k) (V k) = some q' → ¬ clash q q' := by
    intro p k q q' hp hk hq hq' hc
    rcases hs.inv.fr.ownIn p q hq with hO | hge
    · obtain ⟨b, o⟩ := q
      have e : b = q'.1 := hc.1
      subst e
      refine noLent k q' o hk hq' ?_ hO
      rcases hc.2 with hc | hc | hc
      · exact .inr (.inl hc)
      · exact .inl hc
      · exact .inr (.inr hc.symm)
    · have := h.hr.lt k q' hq'
      have := hc.1
      have hge : w.heap.size ≤ q.1 := hge
      omega
  have hsize : w.heap.size ≤ w'.heap.size := hs.inv.fr.size
  refine ⟨V2, ⟨E, ⟨fun k => ?_, fun k k' q q' hkk hq hq' => ?_, fun k q hq hi => ?_, fun k q hq => ?_, hs.inv.hr.imLt⟩, ?_⟩, hρ2⟩
  · rcases split k with ⟨p, hp, rfl⟩ | hk'
    · obtain ⟨b, h1, h2, h3⟩ := ob_in p hp
      rw [h2, V_in p hp]
      exact renOb_ok hρ2 h3 (hs.inv.hr.obs p)
    · rw [ob_out k hk', V_out k hk']
      exact (h.hr.obs k).ext E fun q hq => same k q hk' hq
  · rcases split k with ⟨p, hp, rfl⟩ | hk
    · rw [plc_in p hp] at hq
      rcases split k' with ⟨p', hp', rfl⟩ | hk'
      · rw [plc_in p' hp'] at hq'
        exact hs.inv.hr.disj p p' q q' (fun e => hkk (by rw [e])) hq hq'
      · rw [plc_out k' hk'] at hq'
        exact cross p k' q q' hp hk' hq hq'
    · rw [plc_out k hk] at hq
      rcases split k' with ⟨p', hp', rfl⟩ | hk'
      · rw [plc_in p' hp'] at hq'
        intro hc
        refine cross p' k q' q hp' hk hq' hq ⟨hc.1.symm, ?_⟩
        rcases hc.2 with hc | hc | hc
        · exact .inr (.inl hc)
        · exact .inl hc
        · exact .inr (.inr hc.symm)
      · rw [plc_out k' hk'] at hq'
        exact h.hr.disj k k' q q' hkk hq hq'
  · rcases split k with ⟨p, hp, rfl⟩ | hk
    · rw [plc_in p hp] at hq
      exact hs.inv.hr.notIm p q hq hi
    · rw [plc_out k hk] at hq
      rcases hs.inv.fr.imIn q.1 hi with hi | hi | hi
      · exact h.hr.notIm k q hq hi
      · exact noLent k q none hk hq (.inr (.inl rfl)) hi
      · have := h.hr.lt k q hq
        have hi : w.heap.size ≤ q.1 := hi
        omega
  · rcases split k with ⟨p, hp, rfl⟩ | hk
    · rw [plc_in p hp] at hq
      exact hs.inv.hr.lt p q hq
    · rw [plc_out k hk] at hq
      exact Nat.lt_of_lt_of_le (h.hr.lt k q hq) hsize
  · have f := h.fr
    have fc := hs.inv.fr
    have up : ∀ q, (fixOf (fun p => match ks[p]? with | some k => V k | none => Value.nilFunc) w Im os).O q ∨ w.heap.size ≤ q.1 → fx.O q ∨ fx.w.heap.size ≤ q.1 := by
      rintro q (hq | hq)
      · obtain ⟨p, k, _, _, hpl⟩ := lentP q hq
        exact f.ownIn k q hpl
      · exact .inr (Nat.le_trans f.size hq)
    refine ⟨fc.os.trans f.os, fc.tape.trans f.tape, fc.output.trans f.output, Nat.le_trans f.size hsize, fun b hb hO => ?_, fun b o hb h1 h2 => ?_, fun b hb => hs.ext.im b (f.imUp b hb), fun b hb => ?_, fun k q hq => ?_, fun k hk => ⟨(E.lv k (f.keys k hk).1).1, (E.lv k (f.keys k hk).1).2.trans (f.keys k hk).2⟩⟩
    · refine (fc.block b (Nat.lt_of_lt_of_le hb f.size) (fun o hc => ?_)).trans (f.block b hb hO)
      rcases up (b, o) (.inl hc) with hc | hc
      · exact hO o hc
      · have hc : fx.w.heap.size ≤ b := hc
        omega
    · have g1 := fc.cell b o (Nat.lt_of_lt_of_le hb f.size) (fun hc => by
        rcases up (b, none) (.inl hc) with hc | hc
        · exact h1 hc
        · have hc : fx.w.heap.size ≤ b := hc
          omega) (fun hc => by
        rcases up (b, some o) (.inl hc) with hc | hc
        · exact h2 hc
        · have hc : fx.w.heap.size ≤ b := hc
          omega)
      have g2 := f.cell b o hb h1 h2
      exact ⟨g1.1.trans g2.1, g1.2.trans g2.2⟩
    · rcases fc.imIn b hb with hb | hb | hb
      · exact f.imIn b hb
      · exact .inr (up (b, none) (.inl hb))
      · exact .inr (up (b, none) (.inr hb))
    · rcases split k with ⟨p, hp, rfl⟩ | hk
      · rw [plc_in p hp] at hq
        exact up q (fc.ownIn p q hq)
      · rw [plc_out k hk] at hq
        exact f.ownIn k q hq

theorem SV.re_ok {L : Nat → Prop} {x : SV u} {cs : List (AV u)} {v : Value} (hx : SR u V L w Im x v) {V' : Nat → Value} {L' : Nat → Prop} {Im' : Nat → Prop} {vs : List Value} (hr : R2 (AR u V' L' w Im') cs vs) (hv : match x with | .v _ => vs = [v] | .agg _ => v = .agg vs.toArray) : SR u V' L' w Im' (x.re cs) v := by
  cases x with
  | v a =>
    simp only at hv
    subst hv
    cases cs with
    | nil => exact hr.elim
    | cons c cs =>
      cases cs with
      | nil => exact hr.1
      | cons _ _ => exact hr.2.elim
  | agg l =>
    simp only at hv
    exact ⟨vs, hv, hr⟩

theorem coerceS_ok (h : Inv u fx V w Im ob) {ss : List Sh} {x y : SV u} {v : Value} (hx : SR u V (Lv u ob) w Im x v) {us : List (Nat × Ob u)} (hc : coerceS ob ss x = some (y, us)) :
    ∃ V' Im', Step u fx V w Im ob V' w Im' (upds ob us) ∧ SR u V' (Lv u (upds ob us)) w Im' y v := by
  unfold coerceS at hc
  split at hc
  · rename_i cs us' h1
    cases hc
    cases x with
    | v a =>
      obtain ⟨V', Im', s, hr⟩ := coerces_ok h (vs := [v]) (show R2 (AR u V (Lv u ob) w Im) [a] [v] from ⟨hx, trivial⟩) h1
      exact ⟨V', Im', s, SV.re_ok hx hr rfl⟩
    | agg l =>
      obtain ⟨vs, e, hr0⟩ := hx
      obtain ⟨V', Im', s, hr⟩ := coerces_ok h hr0 h1
      exact ⟨V', Im', s, SV.re_ok (x := .agg l) (v := v) ⟨vs, e, hr0⟩ hr e⟩
  · cases hc

theorem coerceSs_ok : ∀ {sss : List (List Sh)} {xs ys : List (SV u)} {V : Nat → Value} {Im : Nat → Prop} {ob : Nat → Ob u} (h : Inv u fx V w Im ob) {vs : List Value} (hx : R2 (SR u V (Lv u ob) w Im) xs vs) {us : List (Nat × Ob u)} (hc : coerceSs ob sss xs = some (ys, us)),
    ∃ V' Im', Step u fx V w Im ob V' w Im' (upds ob us) ∧ R2 (SR u V' (Lv u (upds ob us)) w Im') ys vs
  | sss, [], ys, V, Im, ob, h, vs, hx, us, hc => by
    have : ys = [] ∧ us = [] := by cases sss <;> (cases hc; exact ⟨rfl, rfl⟩)
    obtain ⟨rfl, rfl⟩ := this
    exact ⟨V, Im, .refl h, hx⟩
  | [], x :: xs, ys, V, Im, ob, h, vs, hx, us, hc => by
    cases hc
    exact ⟨V, Im, .refl h, hx⟩
  | ss :: sss, x :: xs, ys, V, Im, ob, h, [], hx, us, hc => hx.elim
  | ss :: sss, x :: xs, ys, V, Im, ob, h, v :: vs, hx, us, hc => by
    simp only [coerceSs] at hc
    split at hc
    · rename_i y us1 h1
      split at hc
      · rename_i ys' us2 h2
        cases hc
        obtain ⟨V1, Im1, s1, hy⟩ := coerceS_ok h hx.1 h1
        obtain ⟨V2, Im2, s2, hys⟩ := coerceSs_ok s1.inv (hx.2.mono fun _ _ => SR.ext s1.ext) h2
        rw [upds_app]
        exact ⟨V2, Im2, s1.trans s2, SR.ext s2.ext hy, hys⟩
      · cases hc
    · cases hc

theorem resSlot_ren {V : Nat → Value} {L : Nat → Prop} {V' : Nat → Value} {L' : Nat → Prop} {ρ : Ren} (hρ : ∀ k p, ρ k = some p → L k → L' p ∧ V' p = V k) {res rs : List (SV u)} (h : renSs ρ res = some rs) {v : Value} (hv : SlR u V L w Im (resSlot res) v) : SlR u V' L' w Im (resSlot rs) v := by
  have key : ∀ vs, R2 (SR u V L w Im) res vs → R2 (SR u V' L' w Im) rs vs := fun vs hr => renSs_ok hρ h hr
  match res, h, hv, key with
  | [], h, hv, key =>
    cases h
    obtain ⟨vs, e, hr⟩ := hv
    exact ⟨vs, e, key vs hr⟩
  | [x], h, hv, key =>
    have := key [v] ⟨hv, trivial⟩
    match rs, this with
    | [y], this => exact this.1
  | x :: y :: res, h, hv, key =>
    obtain ⟨vs, e, hr⟩ := hv
    have := key vs hr
    match vs, rs, hr, this with
    | a :: b :: vs, x' :: y' :: rs, _, this => exact ⟨_, e, this⟩

theorem callOp_ok {orc : Orc u R} (ho : OrcOk P orc) (h : Inv u fx V w Im ob) {sg : FuncId → Option Sig} {dk : Nat} {f : FuncId} {args : List (SV u)} {vs : List Value} (ha : R2 (SR u V (Lv u ob) w Im) args vs) {kk : Kt u R} {z : R} (hk : callOp orc sg ob dk f args kk = some z) :
    Gives P f vs.toArray w (fun v w' => ∃ x us V' Im', kk x us = some z ∧ Step u fx V w Im ob V' w' Im' (upds ob us) ∧ SlR u V' (Lv u (upds ob us)) w' Im' x v) := by
  unfold callOp at hk
  split at hk
  · rename_i args1 us h1
    obtain ⟨V1, Im1, s1, ha1⟩ := coerceSs_ok h ha h1
    simp only at hk
    split at hk
    · rename_i ks hks
      cases hb : (nodupN ks && allLive (upds ob us) ks) with
      | false => rw [hb] at hk; cases hk
      | true =>
        rw [hb, cond_true] at hk
        rw [Bool.and_eq_true] at hb
        split at hk
        · rename_i as os has hos
          obtain ⟨hρ, hrc, hplc, hosl⟩ := s1.inv.hr.lend hb.1 hb.2 hos
          have hlive : ∀ k, k < os.length → Lv u (obsF os) k := fun k hk => by
            obtain ⟨o, h1, h2⟩ := (renObs_get hos).2 k _ (List.getElem?_eq_getElem (by omega))
            exact Lv_iff.2 (by rw [obsF_get h1]; exact fun e => allLive_get hb.2 k _ (List.getElem?_eq_getElem (by omega)) ((renOb_fresh h2).1 e))
          refine (ho f as os _ z hk _ w Im1 vs hrc hlive (renSs_ok hρ has ha1)).mono ?_
          rintro v w' ⟨res, obs, V', Im', hkk, hs, hres⟩
          cases hc : (Nat.ble ks.length obs.length && allFresh (upds ob us) dk (obs.length - ks.length)) with
          | false => rw [hc] at hkk; cases hkk
          | true =>
            rw [hc, cond_true] at hkk
            rw [Bool.and_eq_true] at hc
            split at hkk
            · rename_i rs bs hrs hbs
              obtain ⟨V2, s2, hρ2⟩ := s1.inv.back hb.1 hb.2 hos hs (Nat.le_of_ble_eq_true hc.1) hc.2 hbs
              refine ⟨_, _, V2, Im', hkk, ?_, ?_⟩
              · rw [upds_app]
                exact s1.trans s2
              · rw [upds_app]
                exact resSlot_ren hρ2 hrs hres
            · cases hkk
        · cases hk
    · cases hk
  · cases hk
end
end
end Go.Proofs.YtmppaodhihnejaaGreat.M

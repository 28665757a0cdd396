/- What functions of data answer: tables of answers, and how loops are gone round. -/
import Derived.Test.YtmppaodhihnejaaGreatPt
import Derived.Test.YtmppaodhihnejaaGreatTab
set_option linter.unusedVariables false
namespace Go.Proofs.YtmppaodhihnejaaGreat.M
open Go

section
variable {P : Program} {u : Uni} {R : Type}

/-! ### Data as arguments -/
def SV.of (u : Uni) (τ : Ty) (x : u.D τ) : SV u := match τ.single with
  | true => .v (.c ⟨τ, x⟩)
  | false => .agg ((flat u τ x).map .c)
def cellsOf : List (AV u) → Option (List u.C)
  | [] => some []
  | .c x :: r => match cellsOf r with
    | some l => some (x :: l)
    | none => none
  | _ => none
def SV.to (τ : Ty) (x : SV u) : Option (u.D τ) := match τ.single, x with
  | true, .v (.c c) => c.as τ
  | false, .agg cs => match cellsOf cs with
    | some l => pack u τ l
    | none => none
  | _, _ => none
def SV.ofs (u : Uni) : (ts : List Ty) → HL u.S ts → List (SV u)
  | [], _ => []
  | t :: ts, (x, r) => SV.of u t x :: SV.ofs u ts r
def SV.tos : (ts : List Ty) → List (SV u) → Option (HL u.S ts)
  | [], [] => some ()
  | t :: ts, x :: r => match SV.to t x with
    | some y => match SV.tos ts r with
      | some l => some (y, l)
      | none => none
    | none => none
  | _, _ => none
theorem cellsOf_eq : ∀ {cs : List (AV u)} {l : List u.C}, cellsOf cs = some l → cs = l.map .c
  | [], l, h => by cases h; rfl
  | a :: r, l, h => by
    cases a with
    | c x =>
      simp only [cellsOf] at h
      split at h
      · rename_i l' hl
        cases h
        rw [cellsOf_eq hl]
        rfl
      · cases h
    | _ => cases h
theorem Cell.as_eq {S : Nat → Type} {τ : Ty} {c : Cell S} {x : Ty.den S τ} (h : c.as τ = some x) : c = ⟨τ, x⟩ := by
  obtain ⟨τ', y⟩ := c
  unfold Cell.as at h
  split at h
  · rename_i e
    simp only at e
    subst e
    cases h
    rfl
  · cases h
theorem HL.pack_cells {S : Nat → Type} : ∀ {ts : List Ty} {cs : List (Cell S)} {h : HL S ts}, HL.pack ts cs = some h → HL.cells ts h = cs
  | [], [], h, e => rfl
  | [], _ :: _, h, e => by cases e
  | _ :: _, [], h, e => by cases e
  | t :: ts, c :: cs, h, e => by
    simp only [HL.pack] at e
    split at e
    · rename_i x hx
      split at e
      · rename_i r hr
        cases e
        simp only [HL.cells]
        rw [HL.pack_cells hr, Cell.as_eq hx]
      · cases e
    · cases e
theorem to_of {τ : Ty} {x : SV u} {y : u.D τ} (h : SV.to τ x = some y) : x = SV.of u τ y := by
  unfold SV.to at h
  unfold SV.of
  cases hs : τ.single with
  | true =>
    rw [hs] at h
    cases x with
    | v a => cases a with
      | c c =>
        simp only at h ⊢
        rw [Cell.as_eq h]
      | _ => cases h
    | agg cs => cases h
  | false =>
    rw [hs] at h
    cases x with
    | v a => cases h
    | agg cs =>
      simp only at h ⊢
      split at h
      · rename_i l hl
        rw [cellsOf_eq hl]
        congr 1
        congr 1
        cases τ with
        | nm n =>
          change (match HL.pack (u.tys n) l with | some h => some (u.mkS n h) | none => none) = some y at h
          split at h
          · rename_i hh hp
            cases h
            show _ = HL.cells (u.tys n) (u.unS n (u.mkS n hh))
            rw [u.un_mk, HL.pack_cells hp]
          · cases h
        | _ => cases hs
      · cases h
theorem tos_ofs : ∀ {ts : List Ty} {xs : List (SV u)} {h : HL u.S ts}, SV.tos ts xs = some h → xs = SV.ofs u ts h
  | [], [], h, e => rfl
  | [], _ :: _, h, e => by cases e
  | _ :: _, [], h, e => by cases e
  | t :: ts, x :: xs, h, e => by
    simp only [SV.tos] at e
    split at e
    · rename_i y hy
      split at e
      · rename_i l hl
        cases e
        simp only [SV.ofs]
        rw [tos_ofs hl, to_of hy]
      · cases e
    · cases e

/-- A table by number. -/
def lookT (l : List (FuncId × Xt u R)) (f : FuncId) : Option (Xt u R) := match l with
  | [] => none
  | (g, e) :: r => bif Nat.beq f g then some e else lookT r f
theorem look_good {l : List (FuncId × Xt u R)} (h : ∀ p ∈ l, GoodE P p.1 p.2) : ∀ f e, lookT l f = some e → GoodE P f e := by
  intro f e he
  induction l with
  | nil => cases he
  | cons p r ih =>
    obtain ⟨g, e'⟩ := p
    simp only [lookT] at he
    cases hb : Nat.beq f g with
    | true =>
      rw [hb] at he
      cases he
      cases Nat.eq_of_beq_eq_true hb
      exact h _ (.head _)
    | false =>
      rw [hb] at he
      exact ih (fun p hp => h p (.tail _ hp)) he

/-- How a function of data takes its arguments, and gives its results. -/
def shD (u : Uni) (τ : Ty) : List Sh := (tysOf u τ).map .typ
def sgD (u : Uni) (ts rs : List Ty) : Sig := ⟨ts.map (shD u), rs.map (shD u), []⟩
def sgAt (l : List (FuncId × Sig)) (f : FuncId) : Option Sig := match l with
  | [] => none
  | (g, s) :: r => bif Nat.beq f g then some s else sgAt r f
/-! ### Loops -/
abbrev Lp (u : Uni) (R : Type) := FuncId → Nat → Nat → St0 u → (Ex → St u → Option R) → Option R
def noLp : Lp u R := fun _ _ _ _ _ => none
theorem noLp_good {pg : Pg u R} : GoodL P pg noLp := fun f m id σ K z h => by cases h
/-- What a slot holds at a loop's head: data, or a reference that stays. -/
inductive PS where
  | d (τ : Ty)
  | ptr (k n : Nat)
  | own (k : Nat)
  | map (k : Nat)
  | it (k : Nat)
  | fn (f : FuncId)
  | nilp
def PS.T (u : Uni) : PS → Type
  | .d τ => u.D τ
  | _ => Unit
def PS.mk : (p : PS) → p.T u → SV u
  | .d τ, x => SV.of u τ x
  | .ptr k n, _ => .v (.ptr k n)
  | .own k, _ => .v (.own k)
  | .map k, _ => .v (.map k)
  | .it k, _ => .v (.it k)
  | .fn f, _ => .v (.fn (.func f) [])
  | .nilp, _ => .v (.raw (.pointer none))
def ptrB (k n : Nat) : SV u → Bool
  | .v (.ptr k' n') => Nat.beq k k' && Nat.beq n n'
  | _ => false
def ownB' (k : Nat) : SV u → Bool
  | .v (.own k') => Nat.beq k k'
  | _ => false
def mapB (k : Nat) : SV u → Bool
  | .v (.map k') => Nat.beq k k'
  | _ => false
def itB (k : Nat) : SV u → Bool
  | .v (.it k') => Nat.beq k k'
  | _ => false
def capsB : List (AV0 u) → Bool
  | [] => true
  | _ => false
def fnB (f : FuncId) : SV u → Bool
  | .v (.fn (.func g) caps) => Nat.beq f g && capsB caps
  | _ => false
def nilB : SV u → Bool
  | .v (.raw (.pointer none)) => true
  | _ => false
theorem ptrB_eq {k n : Nat} {x : SV u} (h : ptrB k n x = true) : x = .v (.ptr k n) := by
  unfold ptrB at h
  split at h
  · rw [Bool.and_eq_true] at h
    rw [Nat.eq_of_beq_eq_true h.1, Nat.eq_of_beq_eq_true h.2]
  · cases h
theorem ownB'_eq {k : Nat} {x : SV u} (h : ownB' k x = true) : x = .v (.own k) := by
  unfold ownB' at h
  split at h
  · rw [Nat.eq_of_beq_eq_true h]
  · cases h
theorem mapB_eq {k : Nat} {x : SV u} (h : mapB k x = true) : x = .v (.map k) := by
  unfold mapB at h
  split at h
  · rw [Nat.eq_of_beq_eq_true h]
  · cases h
theorem itB_eq {k : Nat} {x : SV u} (h : itB k x = true) : x = .v (.it k) := by
  unfold itB at h
  split at h
  · rw [Nat.eq_of_beq_eq_true h]
  · cases h
theorem fnB_eq {f : FuncId} {x : SV u} (h : fnB f x = true) : x = .v (.fn (.func f) []) := by
  unfold fnB at h
  split at h
  · rename_i g caps
    rw [Bool.and_eq_true] at h
    rw [Nat.eq_of_beq_eq_true h.1]
    cases caps with
    | nil => rfl
    | cons _ _ => cases h.2
  · cases h
theorem nilB_eq {x : SV u} (h : nilB x = true) : x = .v (.raw (.pointer none)) := by
  unfold nilB at h
  split at h
  · rfl
  · cases h
def whenU (b : Bool) : Option Unit := match b with
  | true => some ()
  | false => none
theorem whenU_eq {b : Bool} {y : Unit} (h : whenU b = some y) : b = true := by
  cases b with
  | true => rfl
  | false => cases h
def PS.rd (p : PS) (x : SV u) : Option (p.T u) := match p with
  | .d τ => SV.to τ x
  | .ptr k n => whenU (ptrB k n x)
  | .own k => whenU (ownB' k x)
  | .map k => whenU (mapB k x)
  | .it k => whenU (itB k x)
  | .fn f => whenU (fnB f x)
  | .nilp => whenU (nilB x)
theorem PS.rd_eq {p : PS} {x : SV u} {y : p.T u} (h : p.rd x = some y) : x = p.mk y := by
  cases p with
  | d τ => exact to_of h
  | ptr k n => exact ptrB_eq (whenU_eq h)
  | own k => exact ownB'_eq (whenU_eq h)
  | map k => exact mapB_eq (whenU_eq h)
  | it k => exact itB_eq (whenU_eq h)
  | fn f => exact fnB_eq (whenU_eq h)
  | nilp => exact nilB_eq (whenU_eq h)
/-- What an object is at a loop's head. -/
inductive PO where
  | cell (p : PS)
  | row (e : TypeId) (τ : Ty)
  | frz (τ : Ty)
  | map (kt vt : Ty)
  | sit
def PO.T (u : Uni) : PO → Type
  | .cell p => p.T u
  | .row _ τ => List (u.D τ)
  | .frz τ => List (u.D τ)
  | .map kt vt => List (u.D kt × u.D vt)
  | .sit => List UInt8 × Nat
def cellOf : SV u → Ob u
  | .v a => .cell a
  | _ => .fresh
def PO.mk : (p : PO) → p.T u → Ob u
  | .cell p, x => cellOf (p.mk x)
  | .row e τ, xs => .row e τ xs
  | .frz τ, xs => .frz τ xs
  | .map kt vt, es => .map kt vt es
  | .sit, (s, n) => .sit s n
def cellG (p : PS) : Ob u → Option (p.T u)
  | .cell a => p.rd (.v a)
  | _ => none
def rowG (e : TypeId) (τ : Ty) : Ob u → Option (List (u.D τ))
  | .row e' τ' xs => bif Nat.beq e e' then asL τ τ' xs else none
  | _ => none
def frzG (τ : Ty) : Ob u → Option (List (u.D τ))
  | .frz τ' xs => asL τ τ' xs
  | _ => none
def mapG (kt vt : Ty) : Ob u → Option (List (u.D kt × u.D vt))
  | .map kt' vt' es => if h : kt' = kt ∧ vt' = vt then some (h.1 ▸ h.2 ▸ es) else none
  | _ => none
def sitG : Ob u → Option (List UInt8 × Nat)
  | .sit s n => some (s, n)
  | _ => none
def PO.rd (p : PO) (o : Ob u) : Option (p.T u) := match p with
  | .cell p => cellG p o
  | .row e τ => rowG e τ o
  | .frz τ => frzG τ o
  | .map kt vt => mapG kt vt o
  | .sit => sitG o
theorem asL_get {τ τ' : Ty} {xs : List (u.D τ')} {ys : List (u.D τ)} (h : asL τ τ' xs = some ys) : ∃ e : τ' = τ, e ▸ xs = ys := by
  have h := Cell.as_eq h
  cases h
  exact ⟨rfl, rfl⟩
theorem PO.rd_eq {p : PO} {o : Ob u} {y : p.T u} (h : p.rd o = some y) : o = p.mk y := by
  cases p with
  | cell p =>
    replace h : cellG p o = some y := h
    unfold cellG at h
    split at h
    · rename_i a
      have := PS.rd_eq (p := p) h
      show Ob.cell a = cellOf (p.mk y)
      rw [← this]
      rfl
    · cases h
  | row e τ =>
    replace h : rowG e τ o = some y := h
    unfold rowG at h
    split at h
    · rename_i e' τ' xs
      cases hb : Nat.beq e e' with
      | false => rw [hb] at h; cases h
      | true =>
        rw [hb] at h
        obtain ⟨rfl, rfl⟩ := asL_get h
        cases Nat.eq_of_beq_eq_true hb
        rfl
    · cases h
  | frz τ =>
    replace h : frzG τ o = some y := h
    unfold frzG at h
    split at h
    · obtain ⟨rfl, rfl⟩ := asL_get h
      rfl
    · cases h
  | map kt vt =>
    replace h : mapG kt vt o = some y := h
    unfold mapG at h
    split at h
    · split at h
      · rename_i hc
        obtain ⟨rfl, rfl⟩ := hc
        cases h
        rfl
      · cases h
    · cases h
  | sit =>
    replace h : sitG o = some y := h
    unfold sitG at h
    split at h
    · cases h; rfl
    · cases h
/-- A loop's head: its slots and objects. -/
def slT (u : Uni) : List (Nat × PS) → Type
  | [] => Unit
  | (_, p) :: r => p.T u × slT u r
def obT (u : Uni) : List (Nat × PO) → Type
  | [] => Unit
  | (_, p) :: r => p.T u × obT u r
def slMk : (l : List (Nat × PS)) → slT u l → List (Nat × SV u)
  | [], _ => []
  | (i, p) :: r, (x, h) => (i, p.mk x) :: slMk r h
def obMk : (l : List (Nat × PO)) → obT u l → List (Nat × Ob u)
  | [], _ => []
  | (i, p) :: r, (x, h) => (i, p.mk x) :: obMk r h
def slRd : (l : List (Nat × PS)) → List (Nat × SV u) → Option (slT u l)
  | [], [] => some ()
  | (i, p) :: r, (j, x) :: xs => bif Nat.beq i j then (match p.rd x with
    | some y => match slRd r xs with
      | some h => some (y, h)
      | none => none
    | none => none) else none
  | _, _ => none
def obRd : (l : List (Nat × PO)) → List (Nat × Ob u) → Option (obT u l)
  | [], [] => some ()
  | (i, p) :: r, (j, x) :: xs => bif Nat.beq i j then (match p.rd x with
    | some y => match obRd r xs with
      | some h => some (y, h)
      | none => none
    | none => none) else none
  | _, _ => none
theorem slRd_eq : ∀ {l : List (Nat × PS)} {xs : List (Nat × SV u)} {h : slT u l}, slRd l xs = some h → xs = slMk l h
  | [], [], h, e => rfl
  | [], _ :: _, h, e => by cases e
  | _ :: _, [], h, e => by cases e
  | (i, p) :: r, (j, x) :: xs, h, e => by
    simp only [slRd] at e
    cases hb : Nat.beq i j with
    | false => rw [hb] at e; cases e
    | true =>
      rw [hb, cond_true] at e
      cases Nat.eq_of_beq_eq_true hb
      split at e
      · rename_i y hy
        split at e
        · rename_i h' hh
          cases e
          show (i, x) :: xs = (i, p.mk y) :: slMk r h'
          rw [slRd_eq hh, PS.rd_eq hy]
        · cases e
      · cases e
theorem obRd_eq : ∀ {l : List (Nat × PO)} {xs : List (Nat × Ob u)} {h : obT u l}, obRd l xs = some h → xs = obMk l h
  | [], [], h, e => rfl
  | [], _ :: _, h, e => by cases e
  | _ :: _, [], h, e => by cases e
  | (i, p) :: r, (j, x) :: xs, h, e => by
    simp only [obRd] at e
    cases hb : Nat.beq i j with
    | false => rw [hb] at e; cases e
    | true =>
      rw [hb, cond_true] at e
      cases Nat.eq_of_beq_eq_true hb
      split at e
      · rename_i y hy
        split at e
        · rename_i h' hh
          cases e
          show (i, x) :: xs = (i, p.mk y) :: obMk r h'
          rw [obRd_eq hh, PO.rd_eq hy]
        · cases e
      · cases e
structure HS where
  sl : List (Nat × PS)
  ob : List (Nat × PO)
abbrev HS.T (u : Uni) (h : HS) : Type := slT u h.sl × obT u h.ob
def HS.mk0 (h : HS) (x : h.T u) : St0 u := (slMk h.sl x.1, obMk h.ob x.2)
def HS.rd (h : HS) (s : St0 u) : Option (h.T u) := match slRd h.sl s.1 with
  | some a => match obRd h.ob s.2 with
    | some b => some (a, b)
    | none => none
  | none => none
theorem HS.rd_eq {h : HS} {s : St0 u} {x : h.T u} (e : h.rd s = some x) : s = h.mk0 x := by
  unfold HS.rd at e
  split at e
  · rename_i a ha
    split at e
    · rename_i b hb
      cases e
      obtain ⟨s1, s2⟩ := s
      show (s1, s2) = (slMk h.sl a, obMk h.ob b)
      rw [← slRd_eq ha, ← obRd_eq hb]
    · cases e
  · cases e
/-- A loop that is known: its head, and how it ends. -/
def lpAt (f : FuncId) (id : Nat) (h : HS) (G : h.T u → (Ex → St0 u → Option R) → Option R) (rest : Lp u R) : Lp u R := fun f' m id' s K =>
  bif Nat.beq f' f && (Nat.beq m 0 && Nat.beq id' id) then (match h.rd s with
    | some x => G x fun e s => K e (stOf s)
    | none => none) else rest f' m id' s K
theorem lpAt_good {pg : Pg u R} {f : FuncId} {id : Nat} {h : HS} {G : h.T u → (Ex → St0 u → Option R) → Option R} {rest : Lp u R} (hG : ∀ x, ME2 (G x))
    (hp : ∀ x e s, (∀ (K : Ex → St0 u → Option R) z, K e s = some z → G x K = some z) → PtL P pg f 0 id (h.mk0 x) e (stOf s)) (hr : GoodL P pg rest) : GoodL P pg (lpAt f id h G rest) := by
  intro f' m id' s K z hk
  unfold lpAt at hk
  cases hb : (Nat.beq f' f && (Nat.beq m 0 && Nat.beq id' id)) with
  | false =>
    rw [hb] at hk
    obtain ⟨e, σ', h1, h2, h3⟩ := hr f' m id' s K z hk
    exact ⟨e, σ', h1, h2, fun K' z' h' => by unfold lpAt; rw [hb]; exact h3 K' z' h'⟩
  | true =>
    have hb0 := hb
    rw [hb, cond_true] at hk
    rw [Bool.and_eq_true, Bool.and_eq_true] at hb
    cases Nat.eq_of_beq_eq_true hb.1
    cases Nat.eq_of_beq_eq_true hb.2.1
    cases Nat.eq_of_beq_eq_true hb.2.2
    split at hk
    · rename_i x hx
      obtain ⟨e, s', h1, h2⟩ := hG x _ z hk
      refine ⟨e, stOf s', h1, ?_, fun K' z' h' => ?_⟩
      · rw [HS.rd_eq hx]
        exact hp x e s' fun K z hK => h2 K z hK
      · unfold lpAt
        rw [hb0, cond_true, hx]
        exact h2 _ z' h'
    · cases hk
/-- How a head is told to the machine. -/
def rowAt (l : List (Nat × PO)) (k : Nat) : List Sh := match l with
  | [] => [.any]
  | (j, p) :: r => bif Nat.beq j k then (match p with
    | .row e τ => [.own e τ k]
    | _ => [.any]) else rowAt r k
def PS.sh (u : Uni) (l : List (Nat × PO)) : PS → List Sh
  | .d τ => (tysOf u τ).map .typ
  | .own k => rowAt l k
  | _ => [.any]
def HS.cells (u : Uni) (l : List (Nat × PO)) : List (Nat × PO) → List (Nat × Sh)
  | [] => []
  | (k, .cell p) :: r => (match p.sh u l with
    | [s] => [(k, s)]
    | _ => []) ++ HS.cells u l r
  | _ :: r => HS.cells u l r
def HS.keeps : List (Nat × PO) → List Nat
  | [] => []
  | (_, .cell _) :: r => HS.keeps r
  | (k, _) :: r => k :: HS.keeps r
def HS.lh (u : Uni) (h : HS) : LH := ⟨h.sl.map fun p => (p.1, p.2.sh u h.ob), HS.cells u h.ob h.ob, HS.keeps h.ob⟩
/-! ### Functions of data -/
def asT (u : Uni) : List PS → Type
  | [] => Unit
  | p :: r => p.T u × asT u r
def poT (u : Uni) : List PO → Type
  | [] => Unit
  | p :: r => p.T u × poT u r
def asMk : (l : List PS) → asT u l → List (SV u)
  | [], _ => []
  | p :: r, (x, h) => p.mk x :: asMk r h
def poMk : (l : List PO) → poT u l → List (Ob u)
  | [], _ => []
  | p :: r, (x, h) => p.mk x :: poMk r h
def asRd : (l : List PS) → List (SV u) → Option (asT u l)
  | [], [] => some ()
  | p :: r, x :: xs => match p.rd x with
    | some y => match asRd r xs with
      | some h => some (y, h)
      | none => none
    | none => none
  | _, _ => none
def poRd : (l : List PO) → List (Ob u) → Option (poT u l)
  | [], [] => some ()
  | p :: r, x :: xs => match p.rd x with
    | some y => match poRd r xs with
      | some h => some (y, h)
      | none => none
    | none => none
  | _, _ => none
theorem asRd_eq : ∀ {l : List PS} {xs : List (SV u)} {h : asT u l}, asRd l xs = some h → xs = asMk l h
  | [], [], h, e => rfl
  | [], _ :: _, h, e => by cases e
  | _ :: _, [], h, e => by cases e
  | p :: r, x :: xs, h, e => by
    simp only [asRd] at e
    split at e
    · rename_i y hy
      split at e
      · rename_i h' hh
        cases e
        show x :: xs = p.mk y :: asMk r h'
        rw [asRd_eq hh, PS.rd_eq hy]
      · cases e
    · cases e
theorem poRd_eq : ∀ {l : List PO} {xs : List (Ob u)} {h : poT u l}, poRd l xs = some h → xs = poMk l h
  | [], [], h, e => rfl
  | [], _ :: _, h, e => by cases e
  | _ :: _, [], h, e => by cases e
  | p :: r, x :: xs, h, e => by
    simp only [poRd] at e
    split at e
    · rename_i y hy
      split at e
      · rename_i h' hh
        cases e
        show x :: xs = p.mk y :: poMk r h'
        rw [poRd_eq hh, PO.rd_eq hy]
      · cases e
    · cases e
/-- How a function is called: what it takes, what is lent to it; what it gives, what becomes of what was lent. -/
structure FS where
  a : List PS
  o : List PO
  r : List PS
  b : List PO
abbrev FS.A (u : Uni) (s : FS) : Type := asT u s.a × poT u s.o
abbrev FS.B (u : Uni) (s : FS) : Type := asT u s.r × poT u s.b
abbrev Gt (u : Uni) (R : Type) (s : FS) := s.A u → (s.B u → Option R) → Option R
def extS (s : FS) (G : Gt u R s) : Xt u R := fun xs os kk => match asRd s.a xs with
  | some x => match poRd s.o os with
    | some y => G (x, y) fun z => kk (asMk s.r z.1) (poMk s.b z.2)
    | none => none
  | none => none
theorem extS_some {s : FS} {G : Gt u R s} {xs : List (SV u)} {os : List (Ob u)} {kk : List (SV u) → List (Ob u) → Option R} {z : R} (h : extS s G xs os kk = some z) :
    ∃ x : s.A u, xs = asMk s.a x.1 ∧ os = poMk s.o x.2 ∧ (∀ kk', extS s G xs os kk' = G x fun z => kk' (asMk s.r z.1) (poMk s.b z.2)) := by
  unfold extS at h ⊢
  split at h
  · rename_i x hx
    split at h
    · rename_i y hy
      exact ⟨(x, y), asRd_eq hx, poRd_eq hy, fun kk' => rfl⟩
    · cases h
  · cases h
/-- What a body comes to is what the function answers. -/
theorem good_body {pg : Pg u R} (hp : PgOk P pg) {o : Orcs u R} (ho : Good P pg o) {f : FuncId} {s : FS} {G : Gt u R s}
    (hb : ∀ (x : s.A u) (kk : List (SV u) → List (Ob u) → Option R), bodyFn pg o f (asMk s.a x.1) (poMk s.o x.2) kk = G x fun z => kk (asMk s.r z.1) (poMk s.b z.2)) : GoodE P f (extS s G) := by
  intro xs os kk z h
  obtain ⟨x, rfl, rfl, he⟩ := extS_some h
  rw [he, ← hb x kk] at h
  obtain ⟨res, obs, h1, h2, h3⟩ := bodyFn_good hp ho f _ _ kk z h
  exact ⟨res, obs, h1, h2, fun kk' z' h' => by rw [he, ← hb x kk']; exact h3 kk' z' h'⟩
theorem good_eq {f : FuncId} {s : FS} {G G' : Gt u R s} (hG : ∀ x K, G x K = G' x K) (h : GoodE P f (extS s G)) : GoodE P f (extS s G') := by
  have : G = G' := funext fun x => funext fun K => hG x K
  rw [← this]
  exact h
theorem good_none {f : FuncId} {s : FS} : GoodE P f (extS (R := R) s (fun _ _ => none : Gt u R s)) := by
  intro xs os kk z h
  obtain ⟨x, _, _, he⟩ := extS_some h
  rw [he] at h
  cases h
/-- A function that calls itself: so deep as it goes. -/
theorem good_fuel {f : FuncId} {s : FS} {G : Nat → Gt u R s} (h : ∀ n, GoodE P f (extS s (G n))) (m : s.A u → Nat) : GoodE P f (extS s fun x K => G (m x) x K) := by
  intro xs os kk z hk
  unfold extS at hk
  cases hx : asRd s.a xs with
  | none => rw [hx] at hk; cases hk
  | some x =>
  cases hy : poRd s.o os with
  | none => rw [hx, hy] at hk; cases hk
  | some y =>
  rw [hx, hy] at hk
  obtain ⟨res, obs, h1, h2, h3⟩ := h (m (x, y)) xs os kk z (by unfold extS; rw [hx, hy]; exact hk)
  refine ⟨res, obs, h1, h2, fun kk' z' h' => ?_⟩
  have := h3 kk' z' h'
  unfold extS at this ⊢
  rw [hx, hy] at this ⊢
  exact this

theorem goods_nil : ∀ p ∈ ([] : List (FuncId × Xt u R)), GoodE P p.1 p.2 := fun p hp => by cases hp
theorem goods_cons {f : FuncId} {e : Xt u R} {l : List (FuncId × Xt u R)} (h : GoodE P f e) (hl : ∀ p ∈ l, GoodE P p.1 p.2) : ∀ p ∈ (f, e) :: l, GoodE P p.1 p.2 := by
  intro p hp
  cases hp with
  | head => exact h
  | tail _ hp => exact hl p hp
open Classical in
theorem good_orc {f : FuncId} {e : Xt u R} (ho : OrcOk P (fun f' xs os K => bif Nat.beq f f' then e xs os K else none)) (hm : ∀ xs os, ME2 (e xs os)) : GoodE P f e := by
  intro xs os kk z hk
  obtain ⟨res, obs, h1, h2⟩ := hm xs os kk z hk
  refine ⟨res, obs, h1, fun V w Im vs g1 g2 g3 => ?_, h2⟩
  have h3 := h2 (fun r o => if r = res ∧ o = obs then some z else none) z (by simp)
  refine (ho f xs os _ z (by show (bif Nat.beq f f then _ else _) = _; rw [show Nat.beq f f = true from Nat.beq_refl f]; exact h3) V w Im vs g1 g2 g3).mono fun v w' hq => ?_
  obtain ⟨res', obs', V', Im', e', s, hv⟩ := hq
  have he : res' = res ∧ obs' = obs := by
    apply Classical.byContradiction
    intro hn
    rw [if_neg hn] at e'
    cases e'
  obtain ⟨rfl, rfl⟩ := he
  exact ⟨V', Im', s, hv⟩

/-! ### What data may be -/
/-- A cell that some value holds. -/
def WfC (u : Uni) (c : u.C) : Prop := ∃ w Im v, CR u w Im v c
theorem WfC.str {s : List UInt8} (h : WfC u ⟨.str, s⟩) : s.length ≤ strMax := by
  obtain ⟨w, Im, v, h⟩ := h
  exact CR.str_len h
theorem WfC.sl {τ : Ty} {xs : List (u.D τ)} (h : WfC u ⟨.sl τ, xs⟩) : xs.length ≤ maxLen ∧ ∀ x ∈ xs, ∀ c ∈ flat u τ x, WfC u c := by
  obtain ⟨w, Im, v, h⟩ := h
  obtain ⟨A, cap, vs, _, h1, h2, h3, _, h5⟩ := h.inv
  refine ⟨Nat.le_trans h1 h2, fun x hx c hc => ?_⟩
  have hm : c ∈ xs.flatMap (flat u τ) := List.mem_flatMap.2 ⟨x, hx, hc⟩
  obtain ⟨j, hj⟩ := List.getElem?_of_mem hm
  have hlt : j < vs.length := by
    rw [h3, ← flats_length]
    exact (List.getElem?_eq_some_iff.1 hj).1
  exact ⟨w, Im, vs[j], h5 j _ c (List.getElem?_eq_getElem hlt) hj⟩
/-- Arguments that some values stand for. -/
def Rep (s : FS) (x : s.A u) : Prop := ∃ V L w Im vs, R2 (SR u V L w Im) (asMk s.a x.1) vs
theorem R2.wf {V : Nat → Value} {L : Nat → Prop} {w : World} {Im : Nat → Prop} : ∀ {cs : List u.C} {vs : List Value}, R2 (AR u V L w Im) (cs.map .c) vs → ∀ c ∈ cs, WfC u c
  | [], _, _, c, hc => by cases hc
  | d :: cs, [], h, _, _ => h.elim
  | d :: cs, v :: vs, h, c, hc => by
    cases hc with
    | head => exact ⟨w, Im, v, h.1⟩
    | tail _ hc => exact R2.wf h.2 c hc
theorem SR.wf {V : Nat → Value} {L : Nat → Prop} {w : World} {Im : Nat → Prop} {τ : Ty} {x : u.D τ} {v : Value} (h : SR u V L w Im (SV.of u τ x) v) : ∀ c ∈ flat u τ x, WfC u c := by
  unfold SV.of at h
  cases hs : τ.single with
  | true =>
    rw [hs] at h
    have h : CR u w Im v ⟨τ, x⟩ := h
    intro c hc
    cases τ with
    | nm n => cases hs
    | _ =>
      obtain rfl : c = _ := List.mem_singleton.1 hc
      exact ⟨w, Im, v, h⟩
  | false =>
    rw [hs] at h
    obtain ⟨vs, _, hr⟩ := h
    exact R2.wf hr
/-- The parts of arguments that are data are such as may be. -/
def argWf (u : Uni) : (l : List PS) → asT u l → Prop
  | [], _ => True
  | .d τ :: r, (x, h) => (∀ c ∈ flat u τ x, WfC u c) ∧ argWf u r h
  | .ptr _ _ :: r, (_, h) => argWf u r h
  | .own _ :: r, (_, h) => argWf u r h
  | .map _ :: r, (_, h) => argWf u r h
  | .it _ :: r, (_, h) => argWf u r h
  | .fn _ :: r, (_, h) => argWf u r h
  | .nilp :: r, (_, h) => argWf u r h
theorem argWf_of {V : Nat → Value} {L : Nat → Prop} {w : World} {Im : Nat → Prop} : ∀ {l : List PS} {x : asT u l} {vs : List Value}, R2 (SR u V L w Im) (asMk l x) vs → argWf u l x
  | [], _, _, _ => trivial
  | .d τ :: r, (x, h), [], hr => hr.elim
  | .d τ :: r, (x, h), v :: vs, hr => ⟨SR.wf hr.1, argWf_of hr.2⟩
  | .ptr _ _ :: r, (_, h), [], hr => hr.elim
  | .ptr _ _ :: r, (_, h), v :: vs, hr => argWf_of (l := r) hr.2
  | .own _ :: r, (_, h), [], hr => hr.elim
  | .own _ :: r, (_, h), v :: vs, hr => argWf_of (l := r) hr.2
  | .map _ :: r, (_, h), [], hr => hr.elim
  | .map _ :: r, (_, h), v :: vs, hr => argWf_of (l := r) hr.2
  | .it _ :: r, (_, h), [], hr => hr.elim
  | .it _ :: r, (_, h), v :: vs, hr => argWf_of (l := r) hr.2
  | .fn _ :: r, (_, h), [], hr => hr.elim
  | .fn _ :: r, (_, h), v :: vs, hr => argWf_of (l := r) hr.2
  | .nilp :: r, (_, h), [], hr => hr.elim
  | .nilp :: r, (_, h), v :: vs, hr => argWf_of (l := r) hr.2
/-- A plain law, for data that may be. -/
theorem good_plain {f : FuncId} {s : FS} {G G' : Gt u R s} (h : GoodE P f (extS s G)) (hG : ∀ x, argWf u s.a x.1 → ∀ K, G x K = G' x K) (hm : ∀ x, ME (G' x)) : GoodE P f (extS s G') := by
  intro xs os kk z hk
  unfold extS at hk
  cases hx : asRd s.a xs with
  | none => rw [hx] at hk; cases hk
  | some x =>
  cases hy : poRd s.o os with
  | none => rw [hx, hy] at hk; cases hk
  | some y =>
  rw [hx, hy] at hk
  have h' : ∀ (K : List (SV u) → List (Ob u) → Option R), extS s G' xs os K = G' (x, y) fun z => K (asMk s.r z.1) (poMk s.b z.2) := fun K => by unfold extS; rw [hx, hy]
  have hg : ∀ (K : List (SV u) → List (Ob u) → Option R), extS s G xs os K = G (x, y) fun z => K (asMk s.r z.1) (poMk s.b z.2) := fun K => by unfold extS; rw [hx, hy]
  by_cases hw : argWf u s.a x
  · obtain ⟨res, obs, h1, h2, h3⟩ := h xs os kk z (by rw [hg, hG (x, y) hw]; exact hk)
    refine ⟨res, obs, h1, h2, fun kk' z' hz => ?_⟩
    have := h3 kk' z' hz
    rw [hg, hG (x, y) hw] at this
    rw [h']
    exact this
  · obtain ⟨r, h1, h2⟩ := hm (x, y) _ z hk
    refine ⟨_, _, h1, fun V w Im vs _ _ hargs => ?_, fun kk' z' hz => by rw [h']; exact h2 _ z' hz⟩
    rw [asRd_eq hx] at hargs
    exact absurd (argWf_of hargs) hw
theorem me_k {α : Type} (y : α) : ME (fun K : α → Option R => K y) := fun kk z h => ⟨y, h, fun _ _ h' => h'⟩

/-! ### Plain words -/
theorem gi_nat {α : Type} {xs : List α} {i : Nat} (h : i < xs.length) (k : α → Option R) : gi xs (i : Int) k = k xs[i] := by
  unfold gi
  rw [if_pos (by omega), Int.toNat_natCast, List.getElem?_eq_getElem h]
theorem wrap_nat {n : Nat} (h : n ≤ 9223372036854775807) : IntKind.i64.wrap (n : Int) = n := by
  rw [IntKind.wrap_i64]
  omega
theorem wrap_succ {n : Nat} (h : n < 9223372036854775807) : IntKind.i64.wrap ((n : Int) + 1) = ((n + 1 : Nat) : Int) := by
  rw [IntKind.wrap_i64]
  omega
theorem dec_lt {i n : Nat} : decide ((i : Int) < (n : Int)) = decide (i < n) := by
  rw [decide_eq_decide]
  omega

/-! ### A loop's rounds -/
theorem lpAt_body {pg : Pg u R} (hp : PgOk P pg) {o : Orcs u R} (ho : Good P pg o) {f : FuncId} {id : Nat} {h : HS} {G : h.T u → (Ex → St0 u → Option R) → Option R}
    (hb : ∀ (x : h.T u) (K : Ex → St u → Option R), bodyLp pg o f 0 id (h.mk0 x) K = G x fun e s => K e (stOf s)) {rest : Lp u R} (hr : GoodL P pg rest) : GoodL P pg (lpAt f id h G rest) := by
  intro f' m id' s K z hk
  unfold lpAt at hk
  cases hc : (Nat.beq f' f && (Nat.beq m 0 && Nat.beq id' id)) with
  | false =>
    rw [hc] at hk
    obtain ⟨e, σ', h1, h2, h3⟩ := hr f' m id' s K z hk
    exact ⟨e, σ', h1, h2, fun K' z' h' => by unfold lpAt; rw [hc]; exact h3 K' z' h'⟩
  | true =>
    have hc0 := hc
    rw [hc, cond_true] at hk
    rw [Bool.and_eq_true, Bool.and_eq_true] at hc
    cases Nat.eq_of_beq_eq_true hc.1
    cases Nat.eq_of_beq_eq_true hc.2.1
    cases Nat.eq_of_beq_eq_true hc.2.2
    split at hk
    · rename_i x hx
      rw [← hb x K] at hk
      obtain ⟨e, σ', h1, h2, h3⟩ := bodyLp_good hp ho f 0 id _ K z hk
      refine ⟨e, σ', h1, ?_, fun K' z' h' => ?_⟩
      · rw [HS.rd_eq hx]
        exact h2
      · unfold lpAt
        rw [hc0, cond_true, hx]
        show G x _ = _
        rw [← hb x K']
        exact h3 K' z' h'
    · cases hk
theorem lpAt_none {pg : Pg u R} {f : FuncId} {id : Nat} {h : HS} {rest : Lp u R} (hr : GoodL P pg rest) : GoodL P pg (lpAt f id h (fun _ _ => none) rest) := by
  intro f' m id' s K z hk
  unfold lpAt at hk
  cases hc : (Nat.beq f' f && (Nat.beq m 0 && Nat.beq id' id)) with
  | false =>
    rw [hc] at hk
    obtain ⟨e, σ', h1, h2, h3⟩ := hr f' m id' s K z hk
    exact ⟨e, σ', h1, h2, fun K' z' h' => by unfold lpAt; rw [hc]; exact h3 K' z' h'⟩
  | true =>
    rw [hc, cond_true] at hk
    split at hk <;> cases hk
theorem lpAt_fuel {pg : Pg u R} {f : FuncId} {id : Nat} {h : HS} {G : Nat → h.T u → (Ex → St0 u → Option R) → Option R} {rest : Lp u R} (hn : ∀ n, GoodL P pg (lpAt f id h (G n) rest)) (m : h.T u → Nat) : GoodL P pg (lpAt f id h (fun x K => G (m x) x K) rest) := by
  intro f' m' id' s K z hk
  cases hc : (Nat.beq f' f && (Nat.beq m' 0 && Nat.beq id' id)) with
  | false =>
    unfold lpAt at hk
    rw [hc] at hk
    obtain ⟨e, σ', h1, h2, h3⟩ := hn 0 f' m' id' s K z (by unfold lpAt; rw [hc]; exact hk)
    refine ⟨e, σ', h1, h2, fun K' z' h' => ?_⟩
    have := h3 K' z' h'
    unfold lpAt at this ⊢
    rw [hc] at this ⊢
    exact this
  | true =>
    cases hx : h.rd s with
    | none =>
      unfold lpAt at hk
      rw [hc, cond_true, hx] at hk
      cases hk
    | some x =>
      unfold lpAt at hk
      rw [hc, cond_true, hx] at hk
      obtain ⟨e, σ', h1, h2, h3⟩ := hn (m x) f' m' id' s K z (by unfold lpAt; rw [hc, cond_true, hx]; exact hk)
      refine ⟨e, σ', h1, h2, fun K' z' h' => ?_⟩
      have := h3 K' z' h'
      unfold lpAt at this ⊢
      rw [hc, cond_true, hx] at this ⊢
      exact this
end
end Go.Proofs.YtmppaodhihnejaaGreat.M

/- A program's tables. -/
import Derived.Test.YtmppaodhihnejaaGreatRun
set_option linter.unusedVariables false
namespace Go.Proofs.YtmppaodhihnejaaGreat.M
open Go

section
variable {P : Program} {u : Uni} {R : Type}

/-! ### Types -/
def fieldRow (P : Program) (f : Field) : Option (Nat × Nat × Bool) :=
  match P.info? f.type with
  | some i => bif ltN 0 i.size && (P.underlying f.type).isSome then some (f.offset, i.size, Program.row? P f.type) else none
  | none => none
def fieldRows (P : Program) : List Field → Option (List (Nat × Nat × Bool))
  | [] => some []
  | f :: r => match fieldRow P f with
    | some x => match fieldRows P r with
      | some l => some (x :: l)
      | none => none
    | none => none
def kindOf (P : Program) (t : TypeId) : Option TK :=
  match P.underlying t with
  | some (.int k) => some (.int k)
  | some .bool => some .bool
  | some .string => some .str
  | some (.slice e) => some (.sl e)
  | some (.array n e) => some (.arr n e)
  | some (.pointer e) => some (.ptr e)
  | some (.map k e) => some (.map k e)
  | some (.func _ _ _) => some .fn
  | some (.struct fs) => (fieldRows P fs.toList).map .st
  | _ => none
def denOk (u : Uni) (n : Nat) : Option Ty → Bool
  | some τ => Nat.beq (sz u τ) n
  | none => true
def cellVal : Value → Bool
  | .agg _ => false
  | .tuple _ => false
  | _ => true
def isAggV : Value → Bool
  | .agg _ => true
  | _ => false
def mkTI (P : Program) (t : TypeId) (den : Option Ty) : Option (TI u) :=
  match kindOf P t, P.info? t with
  | some k, some i => match i.zero with
    | some z => match constAs z.cells.toList with
      | some zs => bif Nat.beq zs.length i.size && (ltN 0 i.size && (ltN 0 i.bytes && (denOk u i.size den && (match Program.row? P t with | true => isAggV z | false => cellVal z && Nat.beq i.size 1)))) then
          some ⟨k, Program.row? P t, i.size, i.bytes, zs, den⟩ else none
      | none => none
    | none => none
  | _, _ => none

theorem fieldRows_ok : ∀ {fs : List Field} {l : List (Nat × Nat × Bool)}, fieldRows P fs = some l →
    (∀ (i : Nat) off s g, l[i]? = some (off, s, g) → ∃ f : Field, fs[i]? = some f ∧ f.offset = off ∧ (P.info? f.type).map (·.size) = some s ∧ 0 < s ∧ Program.row? P f.type = g ∧ (P.underlying f.type).isSome = true) ∧
      fs.mapM (fun f => (P.info? f.type).map fun i => (f.offset, i.size)) = some (l.map fun p => (p.1, p.2.1))
  | [], l, h => by
    cases h
    exact ⟨fun i _ _ _ hi => by simp at hi, rfl⟩
  | f :: fs, l, h => by
    simp only [fieldRows] at h
    split at h
    · rename_i x hx
      split at h
      · rename_i l' hl
        cases h
        obtain ⟨h1, h2⟩ := fieldRows_ok hl
        unfold fieldRow at hx
        split at hx
        · rename_i i hi
          cases hb : (ltN 0 i.size && (P.underlying f.type).isSome) with
          | false => rw [hb] at hx; cases hx
          | true =>
            rw [hb] at hx
            cases hx
            rw [Bool.and_eq_true] at hb
            refine ⟨fun j off s g hj => ?_, ?_⟩
            · cases j with
              | zero =>
                simp at hj
                obtain ⟨rfl, rfl, rfl⟩ := hj
                exact ⟨f, rfl, rfl, by simp [hi], Nat.le_of_ble_eq_true hb.1, rfl, hb.2⟩
              | succ j => simpa using h1 j off s g (by simpa using hj)
            · rw [List.mapM_cons, h2, hi]
              rfl
        · cases hx
      · cases h
    · cases h

theorem kindOf_ok {t : TypeId} {k : TK} (h : kindOf P t = some k) : KindOk P t k ∧ (P.underlying t).isSome = true := by
  unfold kindOf at h
  split at h <;> try (cases h; done)
  all_goals rename_i hu
  all_goals try (cases h; exact ⟨hu, by rw [hu]; rfl⟩)
  · cases h
    exact ⟨⟨_, _, _, hu⟩, by rw [hu]; rfl⟩
  · rename_i fs
    obtain ⟨l, hl, rfl⟩ := Option.map_eq_some_iff.1 h
    obtain ⟨h1, h2⟩ := fieldRows_ok hl
    exact ⟨⟨fs, hu, fun i off s g hi => by
      obtain ⟨f, e, r⟩ := h1 i off s g hi
      exact ⟨f, by rw [← Array.getElem?_toList]; exact e, r⟩, h2⟩, by rw [hu]; rfl⟩

theorem mkTI_ok {t : TypeId} {den : Option Ty} {ti : TI u} (h : mkTI P t den = some ti) : TIok P t ti := by
  unfold mkTI at h
  split at h
  · rename_i k i hk hi
    split at h
    · rename_i z hz
      split at h
      · rename_i zs hzs
        generalize hb : (Nat.beq zs.length i.size && (ltN 0 i.size && (ltN 0 i.bytes && (denOk u i.size den && (match Program.row? P t with | true => isAggV z | false => cellVal z && Nat.beq i.size 1))))) = b at h
        cases b with
        | false => cases h
        | true =>
          cases h
          simp only [Bool.and_eq_true] at hb
          obtain ⟨b1, b2, b3, b4, b5⟩ := hb
          have b1 := Nat.eq_of_beq_eq_true b1
          have b2 : 0 < i.size := Nat.le_of_ble_eq_true b2
          have b3 : 0 < i.bytes := Nat.le_of_ble_eq_true b3
          obtain ⟨k1, k2⟩ := kindOf_ok hk
          refine ⟨k1, rfl, k2, ⟨i, z, hi, rfl, rfl, hz, fun V L w Im => constAs_ok hzs, fun hr => ?_, fun hr => ?_⟩, b1, b2, fun hr => ?_, b3, fun τ hd => ?_⟩
          · simp only at hr
            rw [hr] at b5
            cases z <;> try (cases b5; done)
            exact ⟨_, rfl⟩
          · simp only at hr
            rw [hr] at b5
            simp only [Bool.and_eq_true] at b5
            cases z <;> first | rfl | (cases b5.1; done)
          · simp only at hr
            rw [hr] at b5
            simp only [Bool.and_eq_true] at b5
            exact Nat.eq_of_beq_eq_true b5.2
          · simp only at hd
            subst hd
            exact Nat.eq_of_beq_eq_true b4
      · cases h
    · cases h
  · cases h

/-- Types, each written out: are they the program's? -/
def nthT : List (Option (TI u)) → Nat → Option (TI u)
  | [], _ => none
  | x :: _, 0 => x
  | _ :: r, n + 1 => nthT r n
/-- The den of each type that is data. -/
def nthY : List (Option Ty) → Nat → Option Ty
  | [], _ => none
  | x :: _, 0 => x
  | _ :: r, n + 1 => nthY r n
def tabOf (P : Program) (ds : List (Option Ty)) : Nat → Nat → List (Option (TI u))
  | _, 0 => []
  | i, n + 1 => mkTI P i (nthY ds i) :: tabOf P ds (i + 1) n
theorem tabOf_get {ds : List (Option Ty)} : ∀ {n i k : Nat} {ti : TI u}, nthT (tabOf P ds i n) k = some ti → mkTI P (i + k) (nthY ds (i + k)) = some ti
  | 0, i, k, ti, h => by cases h
  | n + 1, i, 0, ti, h => h
  | n + 1, i, k + 1, ti, h => by
    have := tabOf_get (n := n) (i := i + 1) (k := k) (show nthT (tabOf P ds (i + 1) n) k = some ti from h)
    rw [show i + (k + 1) = i + 1 + k by omega]
    exact this
theorem tab_ok {ds : List (Option Ty)} {n : Nat} {tab : List (Option (TI u))} (h : tabOf P ds 0 n = tab) : TOk P (fun t => nthT tab t) := by
  intro t ti ht
  subst h
  have := tabOf_get ht
  rw [Nat.zero_add] at this
  exact mkTI_ok this

/-! ### Functions -/
def fnsOf (P : Program) (hn : Nat → Option Hn) (f : FuncId) : Option FI :=
  match hn f with
  | some h => match P.funcs[f]? with
    | some fn => some ⟨fn, h⟩
    | none => none
  | none => none
def fnOk (fn : Func) (h : Hn) : Bool := match fn.body with
  | some c => codeIn fn.ntmps c && (drawsIn c && (nodupN ((loopsOf c).map loopId) && !(fn.name == "runtime.NumGoroutine")))
  | none => true
def fnsOk (P : Program) (hn : Nat → Option Hn) : Nat → Bool
  | 0 => true
  | n + 1 => (match fnsOf P hn n with
    | some fi => fnOk fi.fn fi.hn
    | none => true) && fnsOk P hn n
theorem fnsOk_any {hn hn' : Nat → Option Hn} (hall : ∀ f, (hn' f).isSome = true → (hn f).isSome = true) : ∀ {n : Nat}, fnsOk P hn n = true → fnsOk P hn' n = true
  | 0, _ => rfl
  | n + 1, h => by
    simp only [fnsOk, Bool.and_eq_true] at h ⊢
    refine ⟨?_, fnsOk_any hall h.2⟩
    have h1 := h.1
    unfold fnsOf at h1 ⊢
    have ha := hall n
    cases hx : hn' n with
    | none => rfl
    | some h' =>
      rw [hx] at ha
      have := ha rfl
      cases hy : hn n with
      | none => rw [hy] at this; cases this
      | some h0 =>
        rw [hy] at h1
        simp only at h1 ⊢
        cases hf : P.funcs[n]? with
        | none => rfl
        | some fn => rw [hf] at h1; exact h1
theorem fnsOk_get {hn : Nat → Option Hn} : ∀ {n : Nat}, fnsOk P hn n = true → ∀ f, f < n → ∀ fi, fnsOf P hn f = some fi → fnOk fi.fn fi.hn = true
  | 0, _, f, hf, _, _ => by omega
  | n + 1, h, f, hf, fi, hfi => by
    simp only [fnsOk, Bool.and_eq_true] at h
    by_cases e : f = n
    · subst e
      rw [hfi] at h
      exact h.1
    · exact fnsOk_get h.2 f (by omega) fi hfi
theorem findL_nodup : ∀ {ls : List Code}, nodupN (ls.map loopId) = true → ∀ l ∈ ls, findL (loopId l) ls = some l
  | [], _, l, h => by cases h
  | c :: r, hn, l, h => by
    simp only [List.map_cons, nodupN, Bool.and_eq_true, Bool.not_eq_true'] at hn
    simp only [findL]
    cases h with
    | head => rw [show Nat.beq (loopId c) (loopId c) = true from Nat.beq_refl _]; rfl
    | tail _ h =>
      have : Nat.beq (loopId c) (loopId l) = false := by
        cases hb : Nat.beq (loopId c) (loopId l) with
        | false => rfl
        | true =>
          have e := Nat.eq_of_beq_eq_true hb
          have := memN_iff.2 (List.mem_map.2 ⟨l, h, e.symm⟩)
          rw [hn.1] at this
          cases this
      rw [this]
      exact findL_nodup hn.2 l h
theorem run_enter {f : FuncId} {fn : Func} (hf : P.funcs[f]? = some fn) (hname : (fn.name == "runtime.NumGoroutine") = false) {c : Code} (hb : fn.body = some c) (vs : Array Value) (w : World) : (callFunc f vs).run P w = .ok (.enter f vs) w := by
  have hn : fn.name ≠ "runtime.NumGoroutine" := fun e => by rw [e] at hname; simp at hname
  simp [callFunc, hf, hn, hb]
theorem pgOk_of {pg : Pg u R} {hn : Nat → Option Hn} {n : Nat} (hT : TOk P pg.T) (hf : pg.fns = fnsOf P hn) (hn' : ∀ f, n ≤ f → hn f = none) (hok : fnsOk P hn n = true)
    (hext : ∀ f e, pg.ext f = some e → OrcOk P (fun f' as os K => bif Nat.beq f f' then e as os K else none)) (hme : ∀ f e, pg.ext f = some e → ∀ as os, ME2 (e as os)) : PgOk P pg := by
  have hfn : ∀ f fi, pg.fns f = some fi → P.funcs[f]? = some fi.fn ∧ fnsOf P hn f = some fi ∧ f < n := by
    intro f fi h
    rw [hf] at h
    have h0 := h
    unfold fnsOf at h
    split at h
    · rename_i hh hhn
      split at h
      · rename_i fn hfn
        cases h
        refine ⟨hfn, h0, ?_⟩
        apply Classical.byContradiction
        intro hlt
        rw [hn' f (Nat.le_of_not_lt hlt)] at hhn
        cases hhn
      · cases h
    · cases h
  refine ⟨hT, fun f fi h => (hfn f fi h).1, fun f fi c h hc => ?_, hext, hme⟩
  obtain ⟨h1, h2, h3⟩ := hfn f fi h
  have := fnsOk_get hok f h3 fi h2
  unfold fnOk at this
  rw [hc] at this
  simp only [Bool.and_eq_true, Bool.not_eq_true'] at this
  exact ⟨this.1, this.2.1, findL_nodup this.2.2.1, fun vs w => run_enter h1 this.2.2.2 hc vs w⟩
end
end Go.Proofs.YtmppaodhihnejaaGreat.M

/- The machine hands on one answer. -/
import Derived.Test.YtmppaodhihnejaaGreatExec
set_option linter.unusedVariables false
namespace Go.Proofs.YtmppaodhihnejaaGreat.M
open Go

section
variable {u : Uni} {R : Type}

/-- A reckoning that hands on one answer, whoever takes it. -/
def ME {α : Type} (F : (α → Option R) → Option R) : Prop := ∀ kk z, F kk = some z → ∃ x, kk x = some z ∧ ∀ kk' z', kk' x = some z' → F kk' = some z'
def ME2 {α β : Type} (F : (α → β → Option R) → Option R) : Prop := ∀ kk z, F kk = some z → ∃ x y, kk x y = some z ∧ ∀ kk' z', kk' x y = some z' → F kk' = some z'

theorem ck_intro {b : Bool} {k : Option R} {z : R} (hb : b = true) (h : k = some z) : ck b k = some z := by subst hb; exact h
theorem gi_intro {α : Type} {xs : List α} {i : Int} {k : α → Option R} {z : R} {x : α} (h0 : 0 ≤ i) (hx : xs[i.toNat]? = some x) (h : k x = some z) : gi xs i k = some z := by
  unfold gi
  rw [if_pos h0, hx]
  exact h

theorem me_bInt (op : BinOp) (k : IntKind) (a b : Int) : ME (bInt (u := u) (R := R) op k a b) := by
  intro kk z h
  cases op <;> simp only [bInt] at h ⊢ <;> first
    | exact ⟨_, h, fun _ _ h' => h'⟩
    | (obtain ⟨hb, h⟩ := ck_some h; exact ⟨_, h, fun _ _ h' => ck_intro hb h'⟩)
    | (cases h; done)
theorem me_bShift (op : BinOp) (k : IntKind) (a b : Int) : ME (bShift (u := u) (R := R) op k a b) := by
  intro kk z h
  cases op <;> simp only [bShift] at h ⊢ <;> first
    | (obtain ⟨hb, h⟩ := ck_some h; exact ⟨_, h, fun _ _ h' => ck_intro hb h'⟩)
    | (cases h; done)
theorem me_bStr (op : BinOp) (a b : List UInt8) : ME (bStr (u := u) (R := R) op a b) := by
  intro kk z h
  cases op <;> simp only [bStr] at h ⊢ <;> first
    | exact ⟨_, h, fun _ _ h' => h'⟩
    | (obtain ⟨hb, h⟩ := ck_some h; exact ⟨_, h, fun _ _ h' => ck_intro hb h'⟩)
    | (cases h; done)
theorem me_bBool (op : BinOp) (a b : Bool) : ME (bBool (u := u) (R := R) op a b) := by
  intro kk z h
  cases op <;> simp only [bBool] at h ⊢ <;> first
    | exact ⟨_, h, fun _ _ h' => h'⟩
    | (cases h; done)
def eqK (op : BinOp) (p q : Bool) (kk : AV u → Option R) : Option R := match op with
  | .eql => kk (cBool (p && q))
  | .neq => kk (cBool (!(p && q)))
  | _ => none
theorem me_bOp (op : BinOp) (t : TK) (a b : AV u) : ME (bOp (R := R) op t a b) := by
  intro kk z h
  unfold bOp at h
  split at h
  · rename_i k x k' y
    cases op <;> simp only at h <;> first
      | (obtain ⟨x, h1, h2⟩ := me_bShift _ _ _ _ kk z h; exact ⟨x, h1, fun kk' z' h' => h2 kk' z' h'⟩)
      | (cases hk : kindEq k k' with
         | false => rw [hk] at h; cases h
         | true =>
           rw [hk, cond_true] at h
           obtain ⟨x, h1, h2⟩ := me_bInt _ _ _ _ kk z h
           exact ⟨x, h1, fun kk' z' h' => by unfold bOp; simp only; rw [hk, cond_true]; exact h2 kk' z' h'⟩)
  · obtain ⟨x, h1, h2⟩ := me_bStr _ _ _ kk z h
    exact ⟨x, h1, fun kk' z' h' => h2 kk' z' h'⟩
  · split at h
    · obtain ⟨x, h1, h2⟩ := me_bBool _ _ _ kk z h
      exact ⟨x, h1, fun kk' z' h' => h2 kk' z' h'⟩
    · cases h
  · rename_i h1 h2 h3
    cases hn : (isNil a || isNil b) with
    | false => rw [hn] at h; cases h
    | true =>
      rw [hn, cond_true] at h
      split at h
      · rename_i p q hp hq
        replace h : eqK op p q kk = some z := h
        have key : ∀ kk', bOp (R := R) op t a b kk' = eqK op p q kk' := by
          intro kk'
          unfold bOp
          split
          · exact absurd rfl (h1 _ _ _ _ rfl)
          · exact absurd rfl (h2 _ _ rfl)
          · exact absurd rfl (h3 _ _ rfl)
          · rw [hn, cond_true, hp, hq]
            rfl
        cases op <;> simp only [eqK] at h <;> first
          | (exact ⟨_, h, fun kk' z' h' => by rw [key]; exact h'⟩)
          | (cases h; done)
      · cases h
theorem me_uOp (op : UnOp) (a : AV u) : ME (uOp (R := R) op a) := by
  intro kk z h
  unfold uOp at h
  split at h
  · exact ⟨_, h, fun _ _ h' => h'⟩
  · obtain ⟨x, h1, h2⟩ := me_bInt _ _ _ _ kk z h
    exact ⟨x, h1, fun kk' z' h' => h2 kk' z' h'⟩
  · obtain ⟨x, h1, h2⟩ := me_bInt _ _ _ _ kk z h
    exact ⟨x, h1, fun kk' z' h' => h2 kk' z' h'⟩
  · cases h
theorem me_faOp (t : Option (TI u)) (f : Nat) (a : AV u) : ME (faOp (R := R) t f a) := by
  intro kk z h
  unfold faOp at h
  split at h
  · rename_i off s g hf
    split at h
    · rename_i k n
      cases hb : Nat.ble (off + s) n with
      | false => rw [hb] at h; cases h
      | true =>
        rw [hb, cond_true] at h
        exact ⟨_, h, fun kk' z' h' => by unfold faOp; rw [hf]; simp only; rw [hb]; exact h'⟩
    · exact ⟨_, h, fun kk' z' h' => by unfold faOp; rw [hf]; exact h'⟩
    · exact ⟨_, h, fun kk' z' h' => by unfold faOp; rw [hf]; exact h'⟩
    · cases h
  · cases h
theorem me_fOp (t : Option (TI u)) (f : Nat) (a : Slot u) : ME (fOp (R := R) t f a) := by
  intro kk z h
  unfold fOp at h
  split at h
  · rename_i off s g cs hf
    split at h
    · rename_i x hx
      exact ⟨_, h, fun kk' z' h' => by unfold fOp; rw [hf]; simp only; rw [hx]; exact h'⟩
    · cases h
  · cases h
theorem me_ixOp (t elt : Option (TI u)) (a : Slot u) (i : Int) : ME (ixOp (R := R) t elt a i) := by
  intro kk z h
  unfold ixOp at h
  split at h
  · obtain ⟨x, h0, h1, h2⟩ := gi_some h
    exact ⟨_, h2, fun kk' z' h' => gi_intro h0 h1 h'⟩
  · split at h
    · rename_i e
      obtain ⟨hb, h⟩ := ck_some h
      split at h
      · rename_i x hx
        exact ⟨_, h, fun kk' z' h' => by unfold ixOp; simp only; rw [hx]; exact ck_intro hb h'⟩
      · cases h
    · cases h
  · cases h
theorem me_iaOp (lk : Nat → Ob u) (t elt : Option (TI u)) (a : AV u) (i : Int) : ME (iaOp (R := R) lk t elt a i) := by
  intro kk z h
  unfold iaOp at h
  split at h
  · rename_i e0 b1 b2 b3 b4 b5 e
    split at h
    · rename_i τ xs
      cases hb : Nat.beq e.size (sz u τ) with
      | false => rw [hb] at h; cases h
      | true =>
        rw [hb, cond_true] at h
        obtain ⟨x, h0, h1, h2⟩ := gi_some h
        exact ⟨_, h2, fun kk' z' h' => by unfold iaOp; simp only; rw [hb]; exact gi_intro h0 h1 h'⟩
    · rename_i τ xs
      cases hb : Nat.beq e.size (sz u τ) with
      | false => rw [hb] at h; cases h
      | true =>
        rw [hb, cond_true] at h
        obtain ⟨x, h0, h1, h2⟩ := gi_some h
        exact ⟨_, h2, fun kk' z' h' => by unfold iaOp; simp only; rw [hb]; exact gi_intro h0 h1 h'⟩
    · rename_i k
      split at h
      · rename_i e' τ xs ho
        cases hb : Nat.beq e.size (sz u τ) with
        | false => rw [hb] at h; cases h
        | true =>
          rw [hb, cond_true] at h
          obtain ⟨hc, h⟩ := ck_some h
          exact ⟨_, h, fun kk' z' h' => by unfold iaOp; simp only; rw [ho]; simp only; rw [hb]; exact ck_intro hc h'⟩
      · rename_i τ xs ho
        cases hb : Nat.beq e.size (sz u τ) with
        | false => rw [hb] at h; cases h
        | true =>
          rw [hb, cond_true] at h
          obtain ⟨x, h0, h1, h2⟩ := gi_some h
          exact ⟨_, h2, fun kk' z' h' => by unfold iaOp; simp only; rw [ho]; simp only; rw [hb]; exact gi_intro h0 h1 h'⟩
      · cases h
    · rename_i k s lo n cl
      split at h
      · rename_i e' τ xs ho
        cases hb : (Nat.beq s (sz u τ) && Nat.beq e.size s) with
        | false => rw [hb] at h; cases h
        | true =>
          rw [hb, cond_true] at h
          obtain ⟨hc, h⟩ := ck_some h
          exact ⟨_, h, fun kk' z' h' => by unfold iaOp; simp only; rw [ho]; simp only; rw [hb]; exact ck_intro hc h'⟩
      · rename_i τ xs ho
        cases hb : (Nat.beq s (sz u τ) && Nat.beq e.size s) with
        | false => rw [hb] at h; cases h
        | true =>
          rw [hb, cond_true] at h
          obtain ⟨x, h0, h1, h2⟩ := gi_some h
          exact ⟨_, h2, fun kk' z' h' => by unfold iaOp; simp only; rw [ho]; simp only; rw [hb]; exact gi_intro h0 h1 h'⟩
      · cases h
    · cases h
  · split at h
    · rename_i k n
      obtain ⟨hc, h⟩ := ck_some h
      cases hb : Nat.ble (i.toNat * _ + _) n with
      | false => rw [hb] at h; cases h
      | true =>
        rw [hb, cond_true] at h
        exact ⟨_, h, fun kk' z' h' => by unfold iaOp; simp only; rw [hb]; exact ck_intro hc h'⟩
    · cases h
  · cases h
theorem me_ldOp (lk : Nat → Ob u) (t : Option (TI u)) (a : AV u) : ME (ldOp (R := R) lk t a) := by
  intro kk z h
  unfold ldOp at h
  split at h
  · rename_i ti
    split at h
    · rename_i k n
      cases hb : Nat.ble ti.size n with
      | false => rw [hb] at h; cases h
      | true =>
        rw [hb, cond_true] at h
        split at h
        · rename_i cs hcs
          split at h
          · rename_i x hx
            exact ⟨_, h, fun kk' z' h' => by unfold ldOp; simp only; rw [hb, hcs]; simp only; rw [hx]; exact h'⟩
          · cases h
        · cases h
    · split at h
      · rename_i y hy
        exact ⟨_, h, fun kk' z' h' => by unfold ldOp; simp only; rw [hy]; exact h'⟩
      · cases h
    · rename_i k s i o
      split at h
      · rename_i e τ xs ho
        cases hb : Nat.beq s (sz u τ) with
        | false => rw [hb] at h; cases h
        | true =>
          rw [hb, cond_true] at h
          obtain ⟨x, h0, h1, h2⟩ := gi_some h
          split at h2
          · rename_i y hy
            exact ⟨_, h2, fun kk' z' h' => by
              unfold ldOp
              simp only
              rw [ho]
              simp only
              rw [hb]
              refine gi_intro h0 h1 ?_
              rw [hy]
              exact h'⟩
          · cases h2
      · cases h
    · cases h
  · cases h
theorem me_stOp (lk : Nat → Ob u) (t : Option (TI u)) (a : AV u) (v : SV u) : ME (stOp (R := R) lk t a v) := by
  intro kk z h
  unfold stOp at h
  split at h
  · rename_i ti
    cases hb : (Nat.beq v.cells.length ti.size && noDead v.cells) with
    | false => rw [hb] at h; cases h
    | true =>
      rw [hb, cond_true] at h
      split at h
      · rename_i k n
        cases hb2 : (Nat.ble ti.size n && isCells lk k ti.size) with
        | false => rw [hb2] at h; cases h
        | true =>
          rw [hb2, cond_true] at h
          exact ⟨_, h, fun kk' z' h' => by unfold stOp; simp only; rw [hb, hb2]; exact h'⟩
      · rename_i k s i o
        split at h
        · rename_i e τ xs ho
          cases hb2 : Nat.beq s (sz u τ) with
          | false => rw [hb2] at h; cases h
          | true =>
            rw [hb2, cond_true] at h
            obtain ⟨x, h0, h1, h2⟩ := gi_some h
            cases hb3 : Nat.ble (o + ti.size) s with
            | false => rw [hb3] at h2; cases h2
            | true =>
              rw [hb3, cond_true] at h2
              split at h2
              · rename_i y vs hy
                cases hb4 : memN k (vs.map (·.1)) with
                | true => rw [hb4] at h2; cases h2
                | false =>
                  rw [hb4] at h2
                  exact ⟨_, h2, fun kk' z' h' => by
                    unfold stOp
                    simp only
                    rw [hb, ho]
                    simp only [cond_true]
                    rw [hb2]
                    refine gi_intro h0 h1 ?_
                    rw [hb3, hy]
                    simp only [cond_true]
                    rw [hb4]
                    exact h'⟩
              · cases h2
        · cases h
      · cases h
  · cases h
theorem me_bsOp (lk : Nat → Ob u) (dk : Nat) (e : TypeId) (elt : Option (TI u)) (len : Nat) (parts : List (Nat × Slot u)) : ME2 (bsOp (R := R) lk dk e elt len parts) := by
  intro kk z h
  unfold bsOp at h
  split at h
  · rename_i ti
    split at h
    · rename_i τ hd
      split at h
      · rename_i cs hf
        split at h
        · rename_i xs vs he
          split at h
          · rename_i hfr
            cases hb : (Nat.ble len 1000 && Nat.ble (len * ti.size) 16777216) with
            | false => rw [hb] at h; cases h
            | true =>
              rw [hb, cond_true] at h
              exact ⟨_, _, h, fun kk' z' h' => by unfold bsOp; simp only [hd, hf, he, hfr]; rw [hb]; exact h'⟩
          · cases h
        · cases h
      · cases h
    · cases h
  · cases h
theorem me_apOp (lk : Nat → Ob u) (dk : Nat) (e : TypeId) (elt tx : Option (TI u)) (a x : AV u) : ME2 (apOp (R := R) lk dk e elt tx a x) := by
  intro kk z h
  unfold apOp at h
  split at h
  · rename_i ti
    split at h
    · rename_i τ hd
      split at h
      · rename_i ys hn
        split at h
        · split at h
          · rename_i e' τ' xs ho
            cases hb : Nat.beq e e' with
            | false => rw [hb] at h; cases h
            | true =>
              rw [hb, cond_true] at h
              split at h
              · rename_i xs2 hx
                split at h
                · rename_i hf
                  obtain ⟨hc, h⟩ := ck_some h
                  exact ⟨_, _, h, fun kk' z' h' => by unfold apOp; simp only [hd, hn, ho, hb, cond_true, hx, hf]; exact ck_intro hc h'⟩
                · cases h
              · cases h
          · cases h
        · split at h
          · rename_i hf
            obtain ⟨hc, h⟩ := ck_some h
            exact ⟨_, _, h, fun kk' z' h' => by unfold apOp; simp only [hd, hn, hf]; exact ck_intro hc h'⟩
          · cases h
        · split at h
          · rename_i xs2 hx
            obtain ⟨hc, h⟩ := ck_some h
            exact ⟨_, _, h, fun kk' z' h' => by unfold apOp; simp only [hd, hn, hx]; exact ck_intro hc h'⟩
          · cases h
        · split at h
          · rename_i e' τ' xs ho
            cases hb : (Nat.beq e e' && Nat.beq _ (sz u τ')) with
            | false => rw [hb] at h; cases h
            | true =>
              rw [hb, cond_true] at h
              split at h
              · rename_i xs2 hx
                obtain ⟨hc, h⟩ := ck_some h
                exact ⟨_, _, h, fun kk' z' h' => by unfold apOp; simp only [hd, hn, ho, hb, cond_true, hx]; exact ck_intro hc h'⟩
              · cases h
          · cases h
        · cases h
      · cases h
    · cases h
  · cases h
theorem me_conv (lk : Nat → Ob u) (s d : TK) (b : Bool) (a : AV u) : ME (conv (R := R) lk s d b a) := by
  intro kk z h
  unfold conv at h
  split at h
  · split at h
    · exact ⟨_, h, fun _ _ h' => h'⟩
    · cases h
  · split at h
    · split at h
      · exact ⟨_, h, fun _ _ h' => h'⟩
      · cases h
    · cases b with
      | false => cases h
      | true =>
        rw [cond_true] at h
        split at h
        · rename_i xs hx
          exact ⟨_, h, fun _ _ h' => by unfold conv; simp only [cond_true, hx]; exact h'⟩
        · cases h
    · cases h
  · split at h
    · split at h
      · cases b with
        | false => cases h
        | true =>
          rw [cond_true] at h
          obtain ⟨hc, h⟩ := ck_some h
          exact ⟨_, h, fun _ _ h' => ck_intro hc h'⟩
      · cases h
    · cases h
  · cases h
theorem me_zk (n : Int) (x y : AV u) : ME (fun kk : AV u → Option R => zk n (kk x) (kk y)) := by
  intro kk z h
  have h : zk n (kk x) (kk y) = some z := h
  rcases zk_pick (R := R) n with ⟨_, e⟩ | e
  · rw [e] at h
    exact ⟨_, h, fun kk' z' h' => (e _ _).trans h'⟩
  · rw [e] at h
    exact ⟨_, h, fun kk' z' h' => (e _ _).trans h'⟩
theorem me_mx3 (l h m n k : Int) (x y w : AV u) : ME (fun kk : AV u → Option R => mx3 l h m n (zk k (kk x) (kk y)) (kk w)) := by
  intro kk z hz
  have hz : mx3 l h m n (zk k (kk x) (kk y)) (kk w) = some z := hz
  unfold mx3 at hz
  cases hd : decide (h = m) with
  | true =>
    rw [hd] at hz
    obtain ⟨h1, h2⟩ := ck_some hz
    obtain ⟨q, h3, h4⟩ := me_zk k x y kk z h2
    exact ⟨q, h3, fun kk' z' h' => by show mx3 l h m n _ _ = _; unfold mx3; rw [hd]; exact ck_intro h1 (h4 kk' z' h')⟩
  | false =>
    rw [hd] at hz
    obtain ⟨h1, h2⟩ := ck_some hz
    exact ⟨w, h2, fun kk' z' h' => by show mx3 l h m n _ _ = _; unfold mx3; rw [hd]; exact ck_intro h1 h'⟩
theorem me_sliceOp (lk : Nat → Ob u) (τ : Ty) (a : AV u) (lo hi mx : Option Int) : ME (sliceOp (R := R) lk τ a lo hi mx) := by
  intro kk z h
  unfold sliceOp at h
  split at h
  · rename_i τ' xs
    cases hb : Nat.beq (sz u τ') (sz u τ) with
    | false => rw [hb] at h; cases h
    | true =>
      rw [hb, cond_true] at h
      split at h
      · obtain ⟨hc, h⟩ := ck_some h
        exact ⟨_, h, fun kk' z' h' => by unfold sliceOp; simp only [hb, cond_true]; exact ck_intro hc h'⟩
      · split at h
        · obtain ⟨x, h1, h2⟩ := me_mx3 _ _ _ _ _ _ _ _ kk z h
          exact ⟨x, h1, fun kk' z' h' => by unfold sliceOp; simp only [hb, cond_true]; exact h2 kk' z' h'⟩
        · cases h
  · rename_i τ' xs
    cases hb : Nat.beq (sz u τ') (sz u τ) with
    | false => rw [hb] at h; cases h
    | true =>
      rw [hb, cond_true] at h
      split at h
      · obtain ⟨hc, h⟩ := ck_some h
        split at h
        · exact ⟨_, h, fun kk' z' h' => by unfold sliceOp; simp only [hb, cond_true]; exact ck_intro hc h'⟩
        · exact ⟨_, h, fun kk' z' h' => by unfold sliceOp; simp only [hb, cond_true]; exact ck_intro hc h'⟩
      · split at h
        · obtain ⟨x, h1, h2⟩ := me_mx3 _ _ _ _ _ _ _ _ kk z h
          exact ⟨x, h1, fun kk' z' h' => by unfold sliceOp; simp only [hb, cond_true]; exact h2 kk' z' h'⟩
        · cases h
  · split at h
    · obtain ⟨hc, h⟩ := ck_some h
      exact ⟨_, h, fun kk' z' h' => by unfold sliceOp; exact ck_intro hc h'⟩
    · obtain ⟨hc, h⟩ := ck_some h
      exact ⟨_, h, fun kk' z' h' => by unfold sliceOp; exact ck_intro hc h'⟩
    · cases h
  · split at h
    · rename_i n hn
      cases mx with
      | none =>
        cases lo <;> cases hi <;> simp only at h
        · exact ⟨_, h, fun kk' z' h' => by unfold sliceOp; simp only [hn]; exact h'⟩
        all_goals
          obtain ⟨hc, h⟩ := ck_some h
          exact ⟨_, h, fun kk' z' h' => by unfold sliceOp; simp only [hn]; exact ck_intro hc h'⟩
      | some m =>
        simp only at h
        split at h
        · obtain ⟨x, h1, h2⟩ := me_mx3 _ _ _ _ _ _ _ _ kk z h
          exact ⟨x, h1, fun kk' z' h' => by unfold sliceOp; simp only [hn]; exact h2 kk' z' h'⟩
        · cases h
    · cases h
  · rename_i k s l n c
    cases mx with
    | some m =>
      simp only at h
      split at h
      · cases hb : (Nat.beq s (sz u τ)) with
        | false => rw [hb] at h; cases h
        | true =>
          rw [hb, cond_true] at h
          obtain ⟨hc, h⟩ := ck_some h
          exact ⟨_, h, fun kk' z' h' => by unfold sliceOp; simp only [hb, cond_true]; exact ck_intro hc h'⟩
      · cases h
    | none =>
      simp only at h
      cases hb : (Nat.beq s (sz u τ) && !(c && hi.isSome)) with
      | false => rw [hb] at h; cases h
      | true =>
        rw [hb, cond_true] at h
        obtain ⟨hc, h⟩ := ck_some h
        exact ⟨_, h, fun kk' z' h' => by unfold sliceOp; simp only [hb, cond_true]; exact ck_intro hc h'⟩
  · cases h
theorem me_boxOp (lk : Nat → Ob u) (dk : Nat) (cs : List (AV u)) : ME2 (boxOp (R := R) lk dk cs) := by
  intro kk z h
  unfold boxOp at h
  cases hb : allFresh lk dk cs.length with
  | false => rw [hb] at h; cases h
  | true =>
    rw [hb, cond_true] at h
    exact ⟨_, _, h, fun kk' z' h' => by unfold boxOp; rw [hb]; exact h'⟩
theorem me_buildOp (t elt : Option (TI u)) (parts : List (Nat × Slot u)) : ME (buildOp (R := R) t elt parts) := by
  intro kk z h
  unfold buildOp at h
  split at h
  · rename_i ti
    cases hb : buildable ti.kind elt with
    | false => rw [hb] at h; cases h
    | true =>
      rw [hb, cond_true] at h
      split at h
      · rename_i cs hc
        exact ⟨_, h, fun kk' z' h' => by unfold buildOp; simp only [hb, cond_true, hc]; exact h'⟩
      · cases h
  · cases h
theorem me_mkMap (lk : Nat → Ob u) (dk : Nat) (kt vt : Option (TI u)) : ME2 (mkMap (R := R) dk lk kt vt) := by
  intro kk z h
  unfold mkMap at h
  split at h
  · split at h
    · rename_i hf
      exact ⟨_, _, h, fun kk' z' h' => by unfold mkMap; simp only [hf]; exact h'⟩
    · cases h
  · cases h
theorem me_lookOp (lk : Nat → Ob u) (kt vt : Option (TI u)) (m k : AV u) (ok : Bool) : ME (lookOp (R := R) lk kt vt m k ok) := by
  intro kk z h
  unfold lookOp at h
  split at h
  · split at h
    · rename_i kt' vt' es ho
      cases hb : keyK kt kt' with
      | false => rw [hb] at h; cases h
      | true =>
        rw [hb, cond_true] at h
        split at h
        · rename_i x z0 hx hz
          cases ok with
          | true => exact ⟨_, h, fun kk' z' h' => by unfold lookOp; simp only [ho, hb, cond_true, hx, hz]; exact h'⟩
          | false => exact ⟨_, h, fun kk' z' h' => by unfold lookOp; simp only [ho, hb, cond_true, hx, hz]; exact h'⟩
        · cases h
    · cases h
  · cases h
theorem me_updOp (lk : Nat → Ob u) (kt : Option (TI u)) (m k v : AV u) : ME (updOp (R := R) lk kt m k v) := by
  intro kk z h
  unfold updOp at h
  split at h
  · split at h
    · rename_i kt' vt' es ho
      cases hb : keyK kt kt' with
      | false => rw [hb] at h; cases h
      | true =>
        rw [hb, cond_true] at h
        split at h
        · rename_i x z0 hx hz
          exact ⟨_, h, fun kk' z' h' => by unfold updOp; simp only [ho, hb, cond_true, hx, hz]; exact h'⟩
        · cases h
    · cases h
  · cases h
theorem ME.one {F : (AV u → Option R) → Option R} (h : ME F) : ME2 (fun (kk : Kt u R) => F fun r => kk (one r) []) := by
  intro kk z h'
  obtain ⟨x, h1, h2⟩ := h _ z h'
  exact ⟨_, _, h1, fun kk' z' h'' => h2 _ z' h''⟩
theorem ME.slot {F : (Slot u → Option R) → Option R} (h : ME F) : ME2 (fun (kk : Kt u R) => F fun r => kk r []) := by
  intro kk z h'
  obtain ⟨x, h1, h2⟩ := h _ z h'
  exact ⟨_, _, h1, fun kk' z' h'' => h2 _ z' h''⟩
theorem ME2.one {F : (AV u → List (Nat × Ob u) → Option R) → Option R} (h : ME2 F) : ME2 (fun (kk : Kt u R) => F fun r us => kk (M.one r) us) := by
  intro kk z h'
  obtain ⟨x, y, h1, h2⟩ := h _ z h'
  exact ⟨_, _, h1, fun kk' z' h'' => h2 _ z' h''⟩
theorem ME.dead {F : (List (Nat × Ob u) → Option R) → Option R} (h : ME F) : ME2 (fun (kk : Kt u R) => F fun us => kk .dead us) := by
  intro kk z h'
  obtain ⟨x, h1, h2⟩ := h _ z h'
  exact ⟨_, _, h1, fun kk' z' h'' => h2 _ z' h''⟩
theorem ME2.ret (x : Slot u) (us : List (Nat × Ob u)) : ME2 (fun (kk : Kt u R) => kk x us) := fun kk z h => ⟨x, us, h, fun _ _ h' => h'⟩
theorem ME2.none : ME2 (fun (kk : Kt u R) => (none : Option R)) := fun kk z h => by cases h
theorem me_clrOp (lk : Nat → Ob u) (e : TypeId) (elt : Option (TI u)) (a : AV u) : ME (clrOp (R := R) lk e elt a) := by
  intro kk z h
  unfold clrOp at h
  split at h
  · exact ⟨_, h, fun _ _ h' => h'⟩
  · rename_i k s lo n c
    split at h
    · rename_i e' τ xs ho
      split at h
      · rename_i z0 hz
        cases hb : (Nat.beq s (sz u τ) && Nat.beq e e') with
        | false => rw [hb] at h; cases h
        | true =>
          rw [hb, cond_true] at h
          obtain ⟨hc, h⟩ := ck_some h
          exact ⟨_, h, fun kk' z' h' => by unfold clrOp; simp only [ho, hz, hb, cond_true]; exact ck_intro hc h'⟩
      · cases h
    · cases h
  · cases h
theorem me_bltOp (T : TypeId → Option (TI u)) (lk : Nat → Ob u) (dk : Nat) (b : Builtin) (ts : List TypeId) (as : List (Slot u)) : ME2 (bltOp (R := R) T lk dk b ts as) := by
  intro kk z h
  unfold bltOp at h
  split at h
  · split at h
    · split at h
      · rename_i ti ht
        split at h
        · rename_i n hn
          exact ⟨_, _, h, fun kk' z' h' => by unfold bltOp; simp only [ht, hn]; exact h'⟩
        · cases h
      · cases h
    · cases h
  · split at h
    · split at h
      · rename_i ht
        split at h
        · exact ⟨_, _, h, fun kk' z' h' => by unfold bltOp; simp only [ht]; exact h'⟩
        · exact ⟨_, _, h, fun kk' z' h' => by unfold bltOp; simp only [ht]; exact h'⟩
        · cases h
      · cases h
    · cases h
  · split at h
    · rename_i hi
      exact ⟨_, _, h, fun kk' z' h' => by unfold bltOp; simp only [hi]; exact h'⟩
    · cases h
  · split at h
    · rename_i hi
      exact ⟨_, _, h, fun kk' z' h' => by unfold bltOp; simp only [hi]; exact h'⟩
    · cases h
  · split at h
    · split at h
      · rename_i ht
        obtain ⟨x, y, h1, h2⟩ := (me_apOp _ _ _ _ _ _ _).one kk z h
        exact ⟨x, y, h1, fun kk' z' h' => by unfold bltOp; simp only [ht]; exact h2 kk' z' h'⟩
      · cases h
    · cases h
  · split at h
    · split at h
      · rename_i ht
        obtain ⟨us, h1, h2⟩ := me_clrOp _ _ _ _ _ z h
        exact ⟨_, us, h1, fun kk' z' h' => by unfold bltOp; simp only [ht]; exact h2 _ z' h'⟩
      · cases h
    · cases h
  · cases h
end
end Go.Proofs.YtmppaodhihnejaaGreat.M

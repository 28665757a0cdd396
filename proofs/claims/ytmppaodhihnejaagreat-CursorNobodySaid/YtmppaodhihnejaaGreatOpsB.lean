/- Operations that read: slice expressions, fields, indexes, loads, lengths. -/
import Derived.Test.YtmppaodhihnejaaGreatOpsA
set_option linter.unusedVariables false
namespace Go.Proofs.YtmppaodhihnejaaGreat.M
open Go

section
variable {P : Program} {u : Uni} {R : Type} {V : Nat → Value} {L : Nat → Prop} {w : World} {Im : Nat → Prop}

/-! ### Slice expressions -/
def BR : Option Int → Option Value → Prop
  | none, none => True
  | some n, some v => ∃ k, v = .int k n
  | _, _ => False

theorem bounds_ok (isS : Bool) (len cap : Nat) {lo hi mx : Option Int} {lo' hi' mx' : Option Value} (bl : BR lo lo') (bh : BR hi hi') (bm : BR mx mx') (hm : mx.isSome = true → hi.isSome = true)
    (h1 : 0 ≤ loOf lo) (h2 : loOf lo ≤ hiOf hi len) (h3 : hiOf hi len ≤ hiOf mx cap) (h4 : hiOf mx cap ≤ cap) (hlc : len ≤ cap) :
    (Instr.sliceBounds isS len cap lo' hi' mx').run P w = .ok ((loOf lo).toNat, (hiOf hi len).toNat, (hiOf mx cap).toNat) w := by
  have hb : ∀ (k : IntKind) (i : Int) (y : Nat) (code : BoundsCode), 0 ≤ i → i ≤ y → (Instr.sliceBound (.int k i) y code).run P w = .ok i.toNat w := by
    intro k i y code h0 hy
    simp [Instr.sliceBound, asIntOf, h0, hy]
  cases lo <;> cases lo' <;> try exact bl.elim
  all_goals cases hi <;> cases hi' <;> try exact bh.elim
  all_goals cases mx <;> cases mx' <;> try exact bm.elim
  all_goals simp only [loOf, hiOf] at h1 h2 h3 h4 ⊢
  · simp [Instr.sliceBounds]
  · simp at hm
  · obtain ⟨kh, rfl⟩ := bh
    simp [Instr.sliceBounds, hb _ _ _ _ (show 0 ≤ _ from h2) h3]
  · obtain ⟨kh, rfl⟩ := bh
    obtain ⟨km, rfl⟩ := bm
    rename_i vh vm
    have e1 := fun c => hb km vm cap c (by omega) h4
    have e2 := fun c => hb kh vh vm.toNat c h2 (by omega)
    simp [Instr.sliceBounds, e1, e2]
  · obtain ⟨kl, rfl⟩ := bl
    simp [Instr.sliceBounds, hb _ _ _ _ h1 h2]
  · simp at hm
  · obtain ⟨kl, rfl⟩ := bl
    obtain ⟨kh, rfl⟩ := bh
    rename_i vl vh
    have e1 := fun c => hb kh vh cap c (by omega) h3
    have e2 := fun c => hb kl vl vh.toNat c h1 (by omega)
    simp [Instr.sliceBounds, e1, e2]
  · obtain ⟨kl, rfl⟩ := bl
    obtain ⟨kh, rfl⟩ := bh
    obtain ⟨km, rfl⟩ := bm
    rename_i vl vh vm
    have e0 := fun c => hb km vm cap c (by omega) h4
    have e1 := fun c => hb kh vh vm.toNat c (by omega) (by omega)
    have e2 := fun c => hb kl vl vh.toNat c h1 (by omega)
    simp [Instr.sliceBounds, e0, e1, e2]

theorem cut_eq {α : Type} (lo hi : Option Int) (xs : List α) : cut lo hi xs = (xs.take (hiOf hi xs.length).toNat).drop (loOf lo).toNat := by
  cases lo <;> cases hi <;> simp [cut, loOf, hiOf]

theorem run_sliceAt {t e : TypeId} {size : Nat} {i : TypeInfo} (ht : P.underlying t = some (.slice e)) (hi : P.info? e = some i) (hs : i.size = size) (a : Option Addr) (len cap l h m : Nat) {lo hi mx : Option Value}
    (hb : (Instr.sliceBounds true len cap lo hi mx).run P w = .ok (l, h, m) w) :
    (Instr.sliceAt t (.slice a len cap) lo hi mx).run P w = .ok (.slice (if m = l then a else a.map (·.add (l * size))) (h - l) (m - l)) w := by
  subst hs
  simp [Instr.sliceAt, run_underlying ht, Instr.slice, sizeOf, typeInfo, *]

theorem len_cut {α : Type} (xs : List α) (l h : Nat) (hh : h ≤ xs.length) : ((xs.take h).drop l).length = h - l := by
  rw [List.length_drop, List.length_take]; omega

theorem CR_cut {τ : Ty} {xs : List (u.D τ)} {A : Option Addr} {cap : Nat} (hc : CR u w Im (.slice A xs.length cap) ⟨.sl τ, xs⟩) {l h m : Nat} (h1 : l ≤ h) (h2 : h ≤ xs.length) (h3 : h ≤ m) (h4 : m ≤ cap) :
    CR u w Im (.slice (if m = l then A else A.map (·.add (l * sz u τ))) (h - l) (m - l)) ⟨.sl τ, (xs.take h).drop l⟩ := by
  obtain ⟨A2, cap2, vs, e2, g1, g2, g3, g4, g5⟩ := hc.inv
  cases e2
  have hlen : ((xs.take h).drop l).length = h - l := by simp; omega
  rw [← hlen]
  refine .sl τ _ _ (m - l) ((vs.take (h * sz u τ)).drop (l * sz u τ)) (by rw [hlen]; omega) (by omega) ?_ (fun hn => ?_) (fun j v c hv hc => ?_)
  · rw [List.length_drop, List.length_take, g3, hlen, Nat.sub_mul, Nat.min_eq_left (Nat.mul_le_mul_right _ h2)]
  · have hml : m ≠ l := by
      rintro rfl
      apply hn
      apply List.eq_nil_of_length_eq_zero
      rw [List.length_drop, List.length_take]
      have : h * sz u τ ≤ m * sz u τ := Nat.mul_le_mul_right _ h3
      omega
    obtain ⟨a, rfl, hb, hcell⟩ := g4 (by rintro rfl; simp at hn)
    refine ⟨a.add (l * sz u τ), by rw [if_neg hml]; rfl, by unfold Addr.add; split <;> exact hb, fun j y hy => ?_⟩
    rw [List.getElem?_drop, List.getElem?_take] at hy
    split at hy
    · have hs : a.spot = none := by
        have := hcell 0
        cases hv0 : vs[0]? with
        | none =>
          rw [List.getElem?_eq_none_iff] at hv0
          rw [List.getElem?_eq_none (by omega)] at hy
          cases hy
        | some v0 =>
          have := this v0 hv0
          have e0 : a.add 0 = a := by simp [Addr.add]
          rw [e0] at this
          unfold World.cell? at this
          split at this
          · split at this
            · cases this
            · rename_i hsp
              cases hq : a.spot with
              | none => rfl
              | some q => rw [hq] at hsp; simp at hsp
          · cases this
      have := hcell _ y hy
      obtain ⟨b, o, s⟩ := a
      simp only at hs
      subst hs
      rw [Addr.add_lit] at this ⊢
      rw [Addr.add_lit]
      rwa [show o + l * sz u τ + j = o + (l * sz u τ + j) by omega]
    · cases hy
  · rw [flats_drop, flats_take] at hc
    rw [List.getElem?_drop, List.getElem?_take] at hv hc
    split at hv
    · rename_i hj
      rw [if_pos hj] at hc
      exact g5 _ v c hv hc
    · cases hv

theorem inB_iff {l h n : Int} (hb : inB l h n = true) : 0 ≤ l ∧ l ≤ h ∧ h ≤ n := by
  simp [inB] at hb
  exact ⟨hb.1.1, hb.1.2, hb.2⟩

theorem mx3_some {R : Type} {l h m n : Int} {a b : Option R} {z : R} (hz : mx3 l h m n a b = some z) : (h = m ∧ inB l h n = true ∧ a = some z) ∨ (0 ≤ l ∧ l ≤ h ∧ h ≤ m ∧ m ≤ n ∧ b = some z) := by
  unfold mx3 at hz
  cases hd : decide (h = m) with
  | true =>
    rw [hd] at hz
    obtain ⟨h1, h2⟩ := ck_some hz
    exact .inl ⟨of_decide_eq_true hd, h1, h2⟩
  | false =>
    rw [hd] at hz
    obtain ⟨h1, h2⟩ := ck_some hz
    rw [Bool.and_eq_true] at h1
    obtain ⟨b1, b2, b3⟩ := inB_iff h1.1
    exact .inr ⟨b1, b2, b3, of_decide_eq_true h1.2, h2⟩

theorem own_len {ob : Nat → Ob u} (hr : HR u V w Im ob) {k n : Nat} (hn : obLen (ob k) = some n) :
    ∃ A c, V k = .slice A n c ∧ n ≤ c ∧ c ≤ maxLen ∧ (c ≠ 0 → ∃ g, A = some ⟨g, 0, none⟩) := by
  have ho := hr.obs k
  cases hk : ob k with
  | row e τ xs =>
    rw [hk] at ho hn
    simp [obLen] at hn
    subst hn
    rcases ho with ⟨rfl, A, hV⟩ | ⟨g, cap, cur, hV, hg, h1, h2, h3, h4⟩
    · exact ⟨A, 0, hV, Nat.le_refl _, by unfold maxLen; omega, fun h => absurd rfl h⟩
    · exact ⟨_, _, hV, h1, h2, fun _ => ⟨g, rfl⟩⟩
  | frz τ xs =>
    rw [hk] at ho hn
    simp [obLen] at hn
    subst hn
    obtain ⟨hc, A, c, hV, hg⟩ := ho
    rw [hV] at hc
    obtain ⟨A2, cap2, vs, e2, g1, g2, _⟩ := hc.inv
    cases e2
    exact ⟨A, c, hV, g1, g2, hg⟩
  | _ => rw [hk] at hn; cases hn

theorem sliceOp_ok {ob : Nat → Ob u} (hr : HR u V w Im ob) {t e : TypeId} {ti : TI u} {τ : Ty} (ht : P.underlying t = some (.slice e)) (hti : TIok P e ti) (hd : ti.den = some τ)
    {a : AV u} {v : Value} (ha : AR u V (Lv u ob) w Im a v) {lo hi mx : Option Int} {lo' hi' mx' : Option Value} (bl : BR lo lo') (bh : BR hi hi') (bm : BR mx mx')
    {kk : AV u → Option R} {z : R} (h : sliceOp ob τ a lo hi mx kk = some z) : Pure P u V (Lv u ob) w Im (Instr.sliceAt t v lo' hi' mx') kk z := by
  obtain ⟨i, zv, hi1, hi2, hi3, hi4, _⟩ := hti.inf
  have hsz : i.size = sz u τ := hi2.trans (hti.den τ hd).symm
  have fin : ∀ (A : Option Addr) (n c l h' m : Nat) (r : AV u), v = .slice A n c → (mx.isSome = true → hi.isSome = true) → 0 ≤ loOf lo → loOf lo ≤ hiOf hi n → hiOf hi n ≤ hiOf mx c → hiOf mx c ≤ c → n ≤ c →
      (loOf lo).toNat = l → (hiOf hi n).toNat = h' → (hiOf mx c).toNat = m → kk r = some z →
      AR u V (Lv u ob) w Im r (.slice (if m = l then A else A.map (·.add (l * sz u τ))) (h' - l) (m - l)) → Pure P u V (Lv u ob) w Im (Instr.sliceAt t v lo' hi' mx') kk z := by
    intro A n c l h' m r e b0 b1 b2 b3 b4 b5 el eh em hk har
    subst e el eh em
    exact ⟨r, _, run_sliceAt ht hi1 hsz A n c _ _ _ (bounds_ok true n c bl bh bm b0 b1 b2 b3 b4 b5), hk, har⟩
  unfold sliceOp at h
  split at h
  · rename_i τ' xs
    obtain ⟨ys, rfl⟩ : ∃ ys : List (u.D τ'), ys = xs := ⟨xs, rfl⟩
    cases hs : Nat.beq (sz u τ') (sz u τ) with
    | false => rw [hs] at h; cases h
    | true =>
      rw [hs, cond_true] at h
      have es : sz u τ' = sz u τ := Nat.eq_of_beq_eq_true hs
      have hc : CR u w Im v ⟨.sl τ', ys⟩ := ha
      obtain ⟨A, c, vs, rfl, g1, g2, _⟩ := hc.inv
      split at h
      · replace h := ck_some h
        obtain ⟨hb, h⟩ := h
        obtain ⟨b1, b2, b3⟩ := inB_iff hb
        refine fin A _ c _ _ c _ rfl (by simp) b1 b2 (by simp [hiOf] at *; omega) (by simp [hiOf]) g1 rfl rfl (by simp [hiOf]) h ?_
        have := CR_cut (l := (loOf lo).toNat) (h := (hiOf hi ys.length).toNat) (m := c) hc (by omega) (by omega) (by omega) (Nat.le_refl _)
        rw [← es]
        have ec : (cut lo hi ys : List (u.D τ')) = _ := cut_eq (α := u.D τ') lo hi ys
        rw [← ec] at this
        exact this
      · rename_i m
        split at h
        · rename_i hh
          replace h := mx3_some h
          rcases h with ⟨hm, hb, h⟩ | ⟨b1, b2, b3, b4, h⟩
          case inr => exact fin A _ c _ _ _ .dead rfl (by simp) b1 b2 b3 (by simp [hiOf]; omega) g1 rfl rfl rfl h trivial
          obtain ⟨b1, b2, b3⟩ := inB_iff hb
          subst hm
          rcases zk_some h with ⟨hz, h⟩ | h
          · subst hz
            have e0 : loOf lo = 0 := by have := b2; omega
            refine fin A _ c 0 0 0 _ rfl (by simp) b1 b2 (by simp [hiOf]) (by simp [hiOf]) g1 (by rw [e0]; rfl) rfl rfl h ?_
            exact ⟨A, rfl⟩
          · refine fin A _ c _ _ hh.toNat _ rfl (by simp) b1 b2 (by simp [hiOf]) (by simp [hiOf]; omega) g1 rfl rfl rfl h ?_
            have := CR_cut (l := (loOf lo).toNat) (h := hh.toNat) (m := hh.toNat) hc (by omega) (by omega) (Nat.le_refl _) (by omega)
            rw [← es]
            have ec : (cut lo (some hh) ys : List (u.D τ')) = _ := cut_eq (α := u.D τ') lo (some hh) ys
            have hlen := len_cut (α := u.D τ') ys (loOf lo).toNat hh.toNat (by omega)
            have ec2 : (cut lo (some hh) ys : List (u.D τ')) = (ys.take hh.toNat).drop (loOf lo).toNat := ec
            rw [← ec2] at this hlen
            exact ⟨⟨_, by rw [hlen]; rfl⟩, this⟩
        · cases h
  · rename_i τ' ys
    cases hs : Nat.beq (sz u τ') (sz u τ) with
    | false => rw [hs] at h; cases h
    | true =>
      rw [hs, cond_true] at h
      have es : sz u τ' = sz u τ := Nat.eq_of_beq_eq_true hs
      obtain ⟨⟨A, rfl⟩, hc⟩ := ha
      obtain ⟨A', c, vs, e', g1, g2, _⟩ := hc.inv
      cases e'
      split at h
      · replace h := ck_some h
        obtain ⟨hb, h⟩ := h
        obtain ⟨b1, b2, b3⟩ := inB_iff hb
        have := CR_cut (l := (loOf lo).toNat) (h := (hiOf hi ys.length).toNat) (m := ys.length) hc (by omega) (by omega) (by omega) (Nat.le_refl _)
        split at h
        · refine fin A _ _ _ _ ys.length _ rfl (by simp) b1 b2 (by simp [hiOf] at *) (by simp [hiOf]) g1 rfl rfl (by simp [hiOf]) h ?_
          rw [← es]
          have ec : (cut lo none ys : List (u.D τ')) = _ := cut_eq (α := u.D τ') lo none ys
          have hlen := len_cut (α := u.D τ') ys (loOf lo).toNat ys.length (Nat.le_refl _)
          have e1 : (hiOf none (ys.length : Int)).toNat = ys.length := by simp [hiOf]
          rw [e1] at this ec ⊢
          rw [← ec] at this hlen
          exact ⟨⟨_, by rw [hlen]⟩, this⟩
        · rename_i hh
          refine fin A _ _ _ _ ys.length _ rfl (by simp) b1 b2 (by simp [hiOf] at *; omega) (by simp [hiOf]) g1 rfl rfl (by simp [hiOf]) h ?_
          rw [← es]
          have ec : (cut lo (some hh) ys : List (u.D τ')) = _ := cut_eq (α := u.D τ') lo (some hh) ys
          rw [← ec] at this
          exact this
      · rename_i m
        split at h
        · rename_i hh
          replace h := mx3_some h
          rcases h with ⟨hm, hb, h⟩ | ⟨b1, b2, b3, b4, h⟩
          case inr => exact fin A _ _ _ _ _ .dead rfl (by simp) b1 b2 b3 (by simp [hiOf]; omega) g1 rfl rfl rfl h trivial
          obtain ⟨b1, b2, b3⟩ := inB_iff hb
          subst hm
          rcases zk_some h with ⟨hz, h⟩ | h
          · subst hz
            have e0 : loOf lo = 0 := by have := b2; omega
            refine fin A _ _ 0 0 0 _ rfl (by simp) b1 b2 (by simp [hiOf]) (by simp [hiOf]) g1 (by rw [e0]; rfl) rfl rfl h ?_
            exact ⟨A, rfl⟩
          · refine fin A _ _ _ _ hh.toNat _ rfl (by simp) b1 b2 (by simp [hiOf]) (by simp [hiOf]; omega) g1 rfl rfl rfl h ?_
            have := CR_cut (l := (loOf lo).toNat) (h := hh.toNat) (m := hh.toNat) hc (by omega) (by omega) (Nat.le_refl _) (by omega)
            rw [← es]
            have hlen := len_cut (α := u.D τ') ys (loOf lo).toNat hh.toNat (by omega)
            have ec2 : (cut lo (some hh) ys : List (u.D τ')) = (ys.take hh.toNat).drop (loOf lo).toNat := cut_eq (α := u.D τ') lo (some hh) ys
            rw [← ec2] at this hlen
            exact ⟨⟨_, by rw [hlen]; rfl⟩, this⟩
        · cases h
  · obtain ⟨A, rfl⟩ := ha
    split at h
    · replace h := ck_some h
      obtain ⟨hb, h⟩ := h
      obtain ⟨b1, b2, b3⟩ := inB_iff hb
      have e1 : loOf lo = 0 := by omega
      have e2 : hiOf hi ((0 : Nat) : Int) = 0 := by simp at *; omega
      exact fin A 0 0 0 0 0 _ rfl (by simp) b1 b2 (by rw [e2]; simp [hiOf]) (by simp [hiOf]) (Nat.le_refl _) (by rw [e1]; rfl) (by rw [e2]; rfl) rfl h ⟨A, rfl⟩
    · rename_i m hh
      replace h := ck_some h
      obtain ⟨hb, h⟩ := h
      rw [Bool.and_eq_true] at hb
      obtain ⟨b1, b2, b3⟩ := inB_iff hb.1
      have hm := of_decide_eq_true hb.2
      subst hm
      have e1 : loOf lo = 0 := by omega
      have e2 : hh = 0 := by omega
      subst e2
      exact fin A 0 0 0 0 0 _ rfl (by simp) b1 b2 (by simp [hiOf]) (by simp [hiOf]) (Nat.le_refl _) (by rw [e1]; rfl) rfl rfl h ⟨A, rfl⟩
    · cases h
  · rename_i k
    split at h
    · rename_i n hn
      obtain ⟨A, c, hV, g1, g2, g3⟩ := own_len hr hn
      have hv : v = .slice A n c := ha.2.1.trans hV
      have hl := ha.1
      split at h
      · split at h
        · refine fin A n c 0 n c _ hv (by simp) (by simp [loOf]) (by simp [loOf, hiOf]) (by simp [hiOf]; omega) (by simp [hiOf]) g1 rfl (by simp [hiOf]) (by simp [hiOf]) h ?_
          rw [Nat.sub_zero, Nat.sub_zero]
          split
          · rw [← hv]; exact ha
          · rename_i hc
            obtain ⟨g, rfl⟩ := g3 hc
            have : Option.map (fun x : Addr => x.add (0 * sz u τ)) (some ⟨g, 0, none⟩) = some ⟨g, 0, none⟩ := by simp [Addr.add]
            rw [this, ← hv]
            exact ha
        · replace h := ck_some h
          obtain ⟨hb, h⟩ := h
          obtain ⟨b1, b2, b3⟩ := inB_iff hb
          refine fin A n c _ _ c _ hv (by simp) b1 b2 (by simp [hiOf] at *; omega) (by simp [hiOf]) g1 rfl rfl (by simp [hiOf]) h ⟨hl, A, n, c, hV, _, _, rfl, ?_, ?_, (fun h => by cases h), fun _ => ?_, fun hc => ?_⟩
          · omega
          · omega
          · omega
          · obtain ⟨g, rfl⟩ := g3 (by omega)
            exact ⟨g, rfl, by rw [if_neg (by omega)]; simp [Addr.add_lit]⟩
      · rename_i m
        split at h
        · rename_i hh
          replace h := mx3_some h
          rcases h with ⟨hm, hb, h⟩ | ⟨b1, b2, b3, b4, h⟩
          case inr => exact fin A n c _ _ _ .dead hv (by simp) b1 b2 b3 (by simp [hiOf]; omega) g1 rfl rfl rfl h trivial
          obtain ⟨b1, b2, b3⟩ := inB_iff hb
          subst hm
          rcases zk_some h with ⟨hz, h⟩ | h
          · subst hz
            have e0 : loOf lo = 0 := by have := b2; omega
            exact fin A n c 0 0 0 _ hv (by simp) b1 b2 (by simp [hiOf]) (by simp [hiOf]) g1 (by rw [e0]; rfl) rfl rfl h ⟨A, rfl⟩
          · refine fin A n c _ _ hh.toNat _ hv (by simp) b1 b2 (by simp [hiOf]) (by simp [hiOf]; omega) g1 rfl rfl rfl h ⟨hl, A, n, c, hV, _, _, rfl, ?_, ?_, fun _ => ?_, (fun h => by cases h), fun hc => ?_⟩
            · exact Nat.le_refl _
            · omega
            · rfl
            · obtain ⟨g, rfl⟩ := g3 (by omega)
              exact ⟨g, rfl, by rw [if_neg (by omega)]; simp [Addr.add_lit]⟩
        · cases h
    · cases h
  · rename_i k s l n cl
    split at h
    · cases hs : (Nat.beq s (sz u τ) && !(cl && hi.isSome)) with
      | false => rw [hs] at h; cases h
      | true =>
        rw [hs, cond_true] at h
        rw [Bool.and_eq_true] at hs
        have es : s = sz u τ := Nat.eq_of_beq_eq_true hs.1
        have hcl := hs.2
        subst es
        replace h := ck_some h
        obtain ⟨hb, h⟩ := h
        obtain ⟨b1, b2, b3⟩ := inB_iff hb
        obtain ⟨hl, A, N, c, hV, A', c', rfl, a1, a2, a3, a4, a5⟩ := ha
        have hR : l + roomV (obLen (ob k)) l n cl ≤ N ∧ roomV (obLen (ob k)) l n cl ≤ c' := by
          cases cl with
          | true =>
            have : roomV (obLen (ob k)) l n true = n := by unfold roomV; cases obLen (ob k) <;> rfl
            rw [this]
            exact ⟨a2, a1⟩
          | false =>
            cases hob : obLen (ob k) with
            | none => exact ⟨a2, a1⟩
            | some m =>
              obtain ⟨A2, c2, hV2, k1, _, _⟩ := own_len hr hob
              rw [hV] at hV2
              cases hV2
              have := a4 rfl
              show l + max n (N - l) ≤ N ∧ max n (N - l) ≤ c'
              omega
        refine fin A' n c' _ _ c' _ rfl (by simp) b1 b2 (by show hiOf hi n ≤ (c' : Int); omega) (by simp [hiOf]) a1 rfl rfl (by simp [hiOf]) h ⟨hl, A, N, c, hV, _, _, rfl, ?_, ?_, fun hx => ?_, fun hx => ?_, fun hc => ?_⟩
        · omega
        · omega
        · subst hx
          have := a3 rfl
          cases hi with
          | none => simp only [hiOf, Int.toNat_natCast]; omega
          | some _ => simp at hcl
        · subst hx
          have := a4 rfl
          omega
        · obtain ⟨g, rfl, rfl⟩ := a5 (by omega)
          refine ⟨g, rfl, ?_⟩
          rw [if_neg (by omega)]
          simp [Addr.add_lit, Nat.add_mul]
    · rename_i m
      split at h
      · rename_i hh
        cases hs : Nat.beq s (sz u τ) with
        | false => rw [hs] at h; cases h
        | true =>
          rw [hs, cond_true] at h
          have es : s = sz u τ := Nat.eq_of_beq_eq_true hs
          subst es
          replace h := ck_some h
          obtain ⟨hb, h⟩ := h
          rw [Bool.and_eq_true] at hb
          obtain ⟨b1, b2, b3⟩ := inB_iff hb.1
          have hm := of_decide_eq_true hb.2
          obtain ⟨hl, A, N, c, hV, A', c', rfl, a1, a2, a3, a4, a5⟩ := ha
          exact fin A' n c' _ _ _ .dead rfl (by simp) b1 b2 b3 (by simp [hiOf]; omega) a1 rfl rfl rfl h trivial
      · cases h
  · cases h
end
end Go.Proofs.YtmppaodhihnejaaGreat.M

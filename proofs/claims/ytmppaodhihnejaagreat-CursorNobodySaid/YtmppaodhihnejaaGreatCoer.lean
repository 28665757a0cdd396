/- Values brought to shapes: what it does to the state. -/
import Derived.Test.YtmppaodhihnejaaGreatRead
set_option linter.unusedVariables false
namespace Go.Proofs.YtmppaodhihnejaaGreat.M
open Go

theorem upds_app {α : Type} (f : Nat → α) : ∀ (a b : List (Nat × α)), upds f (a ++ b) = upds (upds f a) b := by
  intro a
  induction a generalizing f with
  | nil => intro b; rfl
  | cons x r ih => intro b; exact ih _ b

section
variable {u : Uni} {fx : Fix} {V : Nat → Value} {w : World} {Im : Nat → Prop} {ob : Nat → Ob u}

theorem frzUps_ok (h : Inv u fx V w Im ob) (a : AV u) : ∃ Im', Step u fx V w Im ob V w Im' (upds ob (frzUps ob a)) := by
  cases a with
  | own k =>
    simp only [frzUps]
    split
    · rename_i e τ xs ho
      exact h.freeze k e τ xs ho
    · exact ⟨Im, .refl h⟩
  | view k s lo len c =>
    simp only [frzUps]
    split
    · rename_i e τ xs ho
      exact h.freeze k e τ xs ho
    · exact ⟨Im, .refl h⟩
  | _ => exact ⟨Im, .refl h⟩

theorem frz_cr (hr : HR u V w Im ob) {k : Nat} {τ : Ty} {xs : List (u.D τ)} (ho : ob k = .frz τ xs) : frzR u w Im τ xs (V k) := by
  have := hr.obs k
  rw [ho] at this
  exact this

theorem CR.inv {τ : Ty} {xs : List (u.D τ)} {v : Value} (h : CR u w Im v ⟨.sl τ, xs⟩) : ∃ A cap vs, v = .slice A xs.length cap ∧ xs.length ≤ cap ∧ cap ≤ maxLen ∧ vs.length = xs.length * sz u τ ∧
    (vs ≠ [] → ∃ a, A = some a ∧ Im a.block ∧ ∀ (j : Nat) v, vs[j]? = some v → w.cell? (a.add j) = some v) ∧
    (∀ (j : Nat) v c, vs[j]? = some v → (xs.flatMap (flat u τ))[j]? = some c → CR u w Im v c) := by
  cases h with
  | sl _ _ A cap vs h1 h2 h3 h4 h5 => exact ⟨A, cap, vs, rfl, h1, h2, h3, h4, h5⟩

theorem view_cr {τ : Ty} {xs : List (u.D τ)} {k lo len : Nat} {clip : Bool} {v : Value} {L : Nat → Prop} (hf : frzR u w Im τ xs (V k)) (ha : AR u V L w Im (.view k (sz u τ) lo len clip) v) :
    CR u w Im v ⟨.sl τ, (xs.drop lo).take len⟩ := by
  obtain ⟨hc, A0, c0, hV0, hg0⟩ := hf
  obtain ⟨hl, A, n, c, hV, A', c', rfl, b1, b2, b3, b4, b5⟩ := ha
  rw [hV] at hV0
  cases hV0
  rw [hV] at hc
  obtain ⟨A2, cap2, vs, e2, h1, h2, h3, h4, h5⟩ := hc.inv
  cases e2
  have hlen : ((xs.drop lo).take len).length = len := by simp; omega
  have hfl := flats_length u τ xs
  rw [show (Value.slice A' len c') = .slice A' ((xs.drop lo).take len).length c' by rw [hlen]]
  have hsz := sz_pos u τ
  refine .sl τ _ A' c' ((vs.drop (lo * sz u τ)).take (len * sz u τ)) (by omega) ?_ ?_ (fun hn => ?_) (fun j v c hv hc => ?_)
  · cases clip with
    | true => have := b3 rfl; omega
    | false => have := b4 rfl; omega
  · rw [List.length_take, List.length_drop, h3, hlen, ← Nat.sub_mul]
    exact Nat.min_eq_left (Nat.mul_le_mul_right _ (by omega))
  · have : c' ≠ 0 := by
      rintro rfl
      have : len = 0 := by omega
      subst this
      simp at hn
    obtain ⟨g, rfl, rfl⟩ := b5 this
    obtain ⟨a, e, hb, hcell⟩ := h4 (by rintro rfl; simp at hn)
    cases e
    refine ⟨_, rfl, hb, fun j y hy => ?_⟩
    rw [List.getElem?_take] at hy
    split at hy
    · rw [List.getElem?_drop] at hy
      have := hcell _ y hy
      rw [Addr.add_lit] at this ⊢
      rwa [Nat.zero_add] at this
    · cases hy
  · rw [flats_take, flats_drop] at hc
    rw [List.getElem?_take] at hv hc
    split at hv
    · rename_i hj
      rw [if_pos hj, List.getElem?_drop] at hc
      rw [List.getElem?_drop] at hv
      exact h5 _ v c hv hc
    · cases hv

theorem obL_row {τ : Ty} {k : Nat} {xs : List (u.D τ)} (h : obL τ (ob k) = some xs) : (∃ e, ob k = .row e τ xs) ∨ ob k = .frz τ xs := by
  unfold obL at h
  split at h
  · rename_i e t ys hk
    obtain ⟨rfl, rfl⟩ := asL_eq h
    exact .inl ⟨e, hk⟩
  · rename_i t ys hk
    obtain ⟨rfl, rfl⟩ := asL_eq h
    exact .inr hk
  · cases h

theorem toL_frz (h : Inv u fx V w Im ob) {a : AV u} {v : Value} (ha : AR u V (Lv u ob) w Im a v) {τ : Ty} {xs : List (u.D τ)} (hx : toL ob τ a = some xs) :
    ∃ Im', Step u fx V w Im ob V w Im' (upds ob (frzUps ob a)) ∧ CR u w Im' v ⟨.sl τ, xs⟩ := by
  cases a with
  | c x =>
    have e : x = ⟨.sl τ, xs⟩ := as_eq (c := x) (τ := .sl τ) hx
    subst e
    exact ⟨Im, .refl h, ha⟩
  | kl t ys =>
    have hx : asL τ t ys = some xs := hx
    obtain ⟨rfl, rfl⟩ := asL_eq hx
    exact ⟨Im, .refl h, ha.2⟩
  | kn =>
    have e : xs = [] := by
      have : some ([] : List (u.D τ)) = some xs := hx
      injection this with this
      exact this.symm
    subst e
    obtain ⟨A, hv⟩ := ha
    rw [hv]
    exact ⟨Im, .refl h, .sl τ [] A 0 [] (Nat.le_refl _) (by unfold maxLen; omega) (by simp) (fun h => absurd rfl h) (fun j v c h => by simp at h)⟩
  | own k =>
    have hx : obL τ (ob k) = some xs := hx
    rcases obL_row hx with ⟨e, ho⟩ | ho
    · obtain ⟨Im', hs⟩ := h.freeze k e τ xs ho
      refine ⟨Im', by simp only [frzUps, ho]; exact hs, ?_⟩
      have := (frz_cr hs.inv.hr (upd_same ob k _)).1
      rwa [← ha.2.1] at this
    · refine ⟨Im, by simp only [frzUps, ho]; exact .refl h, ?_⟩
      have := (frz_cr h.hr ho).1
      rwa [← ha.2.1] at this
  | view k s lo len clip =>
    have hx2 : (bif Nat.beq s (sz u τ) then (obL τ (ob k)).map fun xs => (xs.drop lo).take len else none) = some xs := hx
    clear hx
    cases hs : Nat.beq s (sz u τ) with
    | false => rw [hs] at hx2; cases hx2
    | true =>
      rw [hs] at hx2
      have es : s = sz u τ := Nat.eq_of_beq_eq_true hs
      subst es
      obtain ⟨ys, hy, rfl⟩ := Option.map_eq_some_iff.1 (show (obL τ (ob k)).map (fun xs => (xs.drop lo).take len) = some xs from hx2)
      rcases obL_row hy with ⟨e, ho⟩ | ho
      · obtain ⟨Im', hs⟩ := h.freeze k e τ ys ho
        refine ⟨Im', by simp only [frzUps, ho]; exact hs, ?_⟩
        exact view_cr (frz_cr hs.inv.hr (upd_same ob k _)) (ha.ext hs.ext)
      · refine ⟨Im, by simp only [frzUps, ho]; exact .refl h, ?_⟩
        exact view_cr (frz_cr h.hr ho) ha
  | _ =>
    have hx : (none : Option (List (u.D τ))) = some xs := hx
    cases hx

theorem toC_ok (h : Inv u fx V w Im ob) {a : AV u} {v : Value} (ha : AR u V (Lv u ob) w Im a v) {τ : Ty} {c : u.C} (hx : toC ob τ a = some c) :
    ∃ Im', Step u fx V w Im ob V w Im' (upds ob (frzUps ob a)) ∧ CR u w Im' v c ∧ c.τ = τ := by
  unfold toC at hx
  split at hx
  · rename_i e a
    obtain ⟨xs, hxs, rfl⟩ := Option.map_eq_some_iff.1 hx
    obtain ⟨Im', hs, hc⟩ := toL_frz h ha hxs
    exact ⟨Im', hs, hc, rfl⟩
  · rename_i t x _
    obtain ⟨y, hy, rfl⟩ := Option.map_eq_some_iff.1 hx
    have := as_eq hy
    subst this
    exact ⟨Im, .refl h, ha, rfl⟩
  · cases hx

theorem toData_ok : ∀ {ts : List Ty} {as : List (AV u)} {ob : Nat → Ob u} {Im : Nat → Prop} (h : Inv u fx V w Im ob) {vs : List Value} (ha : R2 (AR u V (Lv u ob) w Im) as vs) {cs : List u.C} {us : List (Nat × Ob u)} (hx : toData ob ts as = some (cs, us)),
    ∃ Im', Step u fx V w Im ob V w Im' (upds ob us) ∧ R2 (fun y k => CR u w Im' y k) vs cs
  | [], [], ob, Im, h, [], _, cs, us, hx => by
    cases hx
    exact ⟨Im, .refl h, trivial⟩
  | [], [], _, _, _, _ :: _, ha, _, _, _ => ha.elim
  | t :: ts, a :: as, ob, Im, h, [], ha, _, _, _ => ha.elim
  | [], _ :: _, _, _, _, _, _, _, _, hx => by cases hx
  | _ :: _, [], _, _, _, _, _, _, _, hx => by cases hx
  | t :: ts, a :: as, ob, Im, h, v :: vs, ha, cs, us, hx => by
    simp only [toData] at hx
    split at hx
    · rename_i c hc
      split at hx
      · rename_i cs' us' hd
        cases hx
        obtain ⟨Im1, hs1, hc1, _⟩ := toC_ok h ha.1 hc
        obtain ⟨Im2, hs2, hc2⟩ := toData_ok hs1.inv (ha.2.mono fun _ _ => AR.ext hs1.ext) hd
        exact ⟨Im2, by rw [upds_app]; exact hs1.trans hs2, CR.ext hs2.ext hc1, hc2⟩
      · cases hx
    · cases hx

theorem toElem_ok (h : Inv u fx V w Im ob) {τ : Ty} {as : List (AV u)} {vs : List Value} (ha : R2 (AR u V (Lv u ob) w Im) as vs) {x : u.D τ} {us : List (Nat × Ob u)} (hx : toElem ob τ as = some (x, us)) :
    ∃ Im', Step u fx V w Im ob V w Im' (upds ob us) ∧ R2 (fun y k => CR u w Im' y k) vs (flat u τ x) := by
  unfold toElem at hx
  split at hx
  · rename_i cs us' hd
    split at hx
    · rename_i y hp
      cases hx
      obtain ⟨Im', hs, hc⟩ := toData_ok h ha hd
      exact ⟨Im', hs, by rw [pack_eq u τ cs x hp]; exact hc⟩
    · cases hx
  · cases hx

theorem toElems_ok {τ : Ty} {s : Nat} : ∀ {n : Nat} {as : List (AV u)} {ob : Nat → Ob u} {Im : Nat → Prop} (h : Inv u fx V w Im ob) {vs : List Value} (ha : R2 (AR u V (Lv u ob) w Im) as vs) (hl : as.length = n * s) {xs : List (u.D τ)} {us : List (Nat × Ob u)} (hx : toElems ob τ s n as = some (xs, us)),
    ∃ Im', Step u fx V w Im ob V w Im' (upds ob us) ∧ R2 (fun y k => CR u w Im' y k) vs (xs.flatMap (flat u τ)) ∧ xs.length = n
  | 0, as, ob, Im, h, vs, ha, hl, xs, us, hx => by
    cases hx
    have : as = [] := List.eq_nil_of_length_eq_zero (by omega)
    subst this
    cases vs with
    | nil => exact ⟨Im, .refl h, trivial, rfl⟩
    | cons _ _ => exact ha.elim
  | n + 1, as, ob, Im, h, vs, ha, hl, xs, us, hx => by
    simp only [toElems] at hx
    split at hx
    · rename_i x us1 he
      split at hx
      · rename_i xs' us2 hes
        cases hx
        obtain ⟨Im1, hs1, hc1⟩ := toElem_ok h (ha.take s) he
        obtain ⟨Im2, hs2, hc2, hn⟩ := toElems_ok (n := n) hs1.inv ((ha.drop s).mono fun _ _ => AR.ext hs1.ext) (by rw [List.length_drop, hl, Nat.succ_mul]; omega) hes
        refine ⟨Im2, by rw [upds_app]; exact hs1.trans hs2, ?_, by simp [hn]⟩
        have := R2.app (hc1.mono fun _ _ => CR.ext hs2.ext) hc2
        rwa [List.take_append_drop] at this
      · cases hx
    · cases hx

theorem coerce_ok (h : Inv u fx V w Im ob) {s : Sh} {a b : AV u} {v : Value} (ha : AR u V (Lv u ob) w Im a v) {us : List (Nat × Ob u)} (hx : coerce ob s a = some (b, us)) :
    ∃ V' Im', Step u fx V w Im ob V' w Im' (upds ob us) ∧ AR u V' (Lv u (upds ob us)) w Im' b v := by
  unfold coerce at hx
  split at hx
  · rename_i τ a
    split at hx
    · rename_i c hc
      cases hx
      obtain ⟨Im', hs, hcr, _⟩ := toC_ok h ha hc
      exact ⟨V, Im', hs, hcr⟩
    · cases hx
  · rename_i e τ t k
    split at hx
    · rename_i e' τ' xs ho
      cases hb : (Nat.beq e' e && decide (τ' = τ)) with
      | false => rw [hb] at hx; cases hx
      | true =>
        rw [hb, cond_true] at hx
        cases hk : Nat.beq k t with
        | true =>
          rw [hk, cond_true] at hx
          cases hx
          exact ⟨V, Im, .refl h, ha⟩
        | false =>
          rw [hk, cond_false] at hx
          split at hx
          · rename_i hf
            cases hx
            have hne : t ≠ k := by rintro rfl; rw [ho] at hf; cases hf
            have s1 := h.kill k
            have hR : OR u V (Lv u ob) w Im (V k) (.row e' τ' xs) := by have := h.hr.obs k; rwa [ho] at this
            have hkt : M.upd ob k .dead t = .fresh := by rw [upd_ne _ _ hne]; exact hf
            have s2 := s1.inv.here t (.row e' τ' xs) (V k) (fun hl => absurd hkt (Lv_iff.1 hl)) (by simp)
              (fun E => hR.ext (s1.ext.trans E) fun p _ => .refl _ _)
              (fun p hp => by
                have hp0 : plc (ob k) (V k) = some p := by rw [ho]; exact hp
                refine ⟨fun k' p' hk' hp' => ?_, h.hr.notIm k p hp0, h.hr.lt k p hp0, h.fr.ownIn k p hp0⟩
                by_cases e : k' = k
                · subst e; rw [upd_same] at hp'; simp [plc] at hp'
                · rw [upd_ne _ _ e] at hp'
                  exact h.hr.disj k k' p p' (fun x => e x.symm) hp0 hp')
            refine ⟨_, _, s1.trans s2, ?_⟩
            exact ⟨Lv_iff.2 (by show M.upd (M.upd ob k .dead) t _ t ≠ _; rw [upd_same]; simp), by rw [upd_same]; exact ha.2.1, ha.2.2⟩
          · cases hx
    · cases hx
  · rename_i e τ t
    split at hx
    · rename_i hf
      cases hx
      obtain ⟨A, rfl⟩ := ha
      have s := h.here t (.row e τ []) (.slice A 0 0) (fun hl => absurd hf (Lv_iff.1 hl)) (by simp) (fun E => .inl ⟨rfl, A, rfl⟩)
        (fun p hp => by cases A <;> simp [plc, ownB] at hp)
      exact ⟨_, _, s, Lv_iff.2 (by show M.upd ob t _ t ≠ _; rw [upd_same]; simp), by rw [upd_same], rfl⟩
    · cases hx
  · cases hx
  · cases hx
    exact ⟨V, Im, .refl h, ha⟩

theorem coerces_ok : ∀ {ss : List Sh} {as bs : List (AV u)} {V : Nat → Value} {ob : Nat → Ob u} {Im : Nat → Prop} (h : Inv u fx V w Im ob) {vs : List Value} (ha : R2 (AR u V (Lv u ob) w Im) as vs) {us : List (Nat × Ob u)} (hx : coerces ob ss as = some (bs, us)),
    ∃ V' Im', Step u fx V w Im ob V' w Im' (upds ob us) ∧ R2 (AR u V' (Lv u (upds ob us)) w Im') bs vs
  | [], [], bs, V, ob, Im, h, [], _, us, hx => by
    cases hx
    exact ⟨V, Im, .refl h, trivial⟩
  | [], [], _, _, _, _, _, _ :: _, ha, _, _ => ha.elim
  | _ :: _, _ :: _, _, _, _, _, _, [], ha, _, _ => ha.elim
  | [], _ :: _, _, _, _, _, _, _, _, _, hx => by cases hx
  | _ :: _, [], _, _, _, _, _, _, _, _, hx => by cases hx
  | s :: ss, a :: as, bs, V, ob, Im, h, v :: vs, ha, us, hx => by
    simp only [coerces] at hx
    split at hx
    · rename_i b us1 hc
      split at hx
      · rename_i bs' us2 hcs
        cases hx
        obtain ⟨V1, Im1, s1, a1⟩ := coerce_ok h ha.1 hc
        obtain ⟨V2, Im2, s2, a2⟩ := coerces_ok s1.inv (ha.2.mono fun _ _ => AR.ext s1.ext) hcs
        rw [upds_app]
        exact ⟨V2, Im2, s1.trans s2, AR.ext s2.ext a1, a2⟩
      · cases hx
    · cases hx
end
end Go.Proofs.YtmppaodhihnejaaGreat.M

/- Reading slices; bringing values to shapes. -/
import Derived.Test.YtmppaodhihnejaaGreatStep
set_option linter.unusedVariables false
namespace Go.Proofs.YtmppaodhihnejaaGreat.M
open Go

theorem HL.cells_length {S : Nat → Type} : ∀ (ts : List Ty) (h : HL S ts), (HL.cells ts h).length = ts.length
  | [], _ => rfl
  | _ :: ts, (_, r) => by simp [HL.cells, HL.cells_length ts r]
theorem flat_length (u : Uni) (τ : Ty) (x : u.D τ) : (flat u τ x).length = sz u τ := by
  cases τ <;> simp [flat, sz, HL.cells_length]
theorem sz_pos (u : Uni) (τ : Ty) : 0 < sz u τ := by
  cases τ <;> simp [sz]
  exact u.some_ _
theorem flats_length (u : Uni) (τ : Ty) : ∀ xs : List (u.D τ), (xs.flatMap (flat u τ)).length = xs.length * sz u τ
  | [] => by simp
  | x :: xs => by
    rw [List.flatMap_cons, List.length_append, flat_length, flats_length u τ xs, List.length_cons, Nat.succ_mul]
    omega
theorem drop_add_app {α : Type} (as bs : List α) (n m : Nat) (h : m = as.length + n) : (as ++ bs).drop m = bs.drop n := by
  subst h
  rw [← List.drop_drop]
  simp
theorem take_add_app {α : Type} (as bs : List α) (n m : Nat) (h : m = as.length + n) : (as ++ bs).take m = as ++ bs.take n := by
  subst h
  rw [List.take_append, List.take_of_length_le (by omega), show as.length + n - as.length = n by omega]
theorem flats_drop (u : Uni) (τ : Ty) : ∀ (n : Nat) (xs : List (u.D τ)), (xs.drop n).flatMap (flat u τ) = (xs.flatMap (flat u τ)).drop (n * sz u τ)
  | 0, xs => by simp
  | n + 1, [] => by simp
  | n + 1, x :: xs => by
    rw [List.drop_succ_cons, flats_drop u τ n xs, List.flatMap_cons, drop_add_app (flat u τ x) _ (n * sz u τ) _ (by rw [flat_length, Nat.succ_mul, Nat.add_comm])]
theorem flats_take (u : Uni) (τ : Ty) : ∀ (n : Nat) (xs : List (u.D τ)), (xs.take n).flatMap (flat u τ) = (xs.flatMap (flat u τ)).take (n * sz u τ)
  | 0, xs => by simp
  | n + 1, [] => by simp
  | n + 1, x :: xs => by
    rw [List.take_succ_cons, List.flatMap_cons, flats_take u τ n xs, List.flatMap_cons, take_add_app (flat u τ x) _ (n * sz u τ) _ (by rw [flat_length, Nat.succ_mul, Nat.add_comm])]

theorem as_eq {S : Nat → Type} {τ : Ty} {c : Cell S} {x : Ty.den S τ} (h : c.as τ = some x) : c = ⟨τ, x⟩ := by
  unfold Cell.as at h
  split at h
  · rename_i e
    obtain ⟨t, y⟩ := c
    simp only at e
    subst e
    cases h
    rfl
  · cases h
theorem asL_eq {u : Uni} {τ τ' : Ty} {xs : List (u.D τ')} {ys : List (u.D τ)} (h : asL τ τ' xs = some ys) : ∃ e : τ' = τ, ys = e ▸ xs := by
  have := as_eq (S := u.S) (τ := .sl τ) (c := ⟨.sl τ', xs⟩) h
  injection this with h1 h2
  injection h1 with h1
  subst h1
  exact ⟨rfl, (eq_of_heq h2).symm⟩
theorem pack_flat {S : Nat → Type} : ∀ (ts : List Ty) (cs : List (Cell S)) (h : HL S ts), HL.pack ts cs = some h → HL.cells ts h = cs
  | [], [], _, _ => rfl
  | [], _ :: _, _, h => by simp [HL.pack] at h
  | _ :: _, [], _, h => by simp [HL.pack] at h
  | t :: ts, c :: cs, h, e => by
    simp only [HL.pack] at e
    split at e
    · rename_i x hx
      split at e
      · rename_i r hr
        cases e
        simp [HL.cells, pack_flat ts cs r hr, as_eq hx]
      · cases e
    · cases e
theorem pack_eq (u : Uni) (τ : Ty) (cs : List u.C) (x : u.D τ) (h : pack u τ cs = some x) : flat u τ x = cs := by
  cases τ with
  | nm n =>
    simp only [pack] at h
    split at h
    · rename_i y hy
      cases h
      simp only [flat, u.un_mk]
      exact pack_flat _ _ _ hy
    · cases h
  | int k =>
    match cs, h with
    | [c], h => simp only [pack] at h; rw [as_eq h]; rfl
  | bool =>
    match cs, h with
    | [c], h => simp only [pack] at h; rw [as_eq h]; rfl
  | str =>
    match cs, h with
    | [c], h => simp only [pack] at h; rw [as_eq h]; rfl
  | sl e =>
    match cs, h with
    | [c], h => simp only [pack] at h; rw [as_eq h]; rfl

section
variable {u : Uni} {fx : Fix} {V : Nat → Value} {w : World} {Im : Nat → Prop} {ob : Nat → Ob u}

/-- A slice value that can be read now. -/
def Reads (u : Uni) (w : World) (Im : Nat → Prop) (τ : Ty) (xs : List (u.D τ)) (v : Value) : Prop :=
  ∃ A c vs, v = .slice A xs.length c ∧ xs.length ≤ c ∧ c ≤ maxLen ∧ R2 (fun y k => CR u w Im y k) vs (xs.flatMap (flat u τ)) ∧
    (vs ≠ [] → ∃ a, A = some a ∧ ∀ (j : Nat) y, vs[j]? = some y → w.cell? (a.add j) = some y)

theorem CR.reads {τ : Ty} {xs : List (u.D τ)} {v : Value} (h : CR u w Im v ⟨.sl τ, xs⟩) : Reads u w Im τ xs v := by
  cases h with
  | sl _ _ A cap vs h1 h2 h3 h4 h5 =>
    refine ⟨A, cap, vs, rfl, h1, h2, R2.of_get (by rw [h3, flats_length]) fun i a b ha hb => h5 i a b ha hb, fun hn => ?_⟩
    obtain ⟨a, e, _, hc⟩ := h4 hn
    exact ⟨a, e, hc⟩
theorem Reads.nil (τ : Ty) (A : Option Addr) : Reads u w Im τ ([] : List (u.D τ)) (.slice A 0 0) :=
  ⟨A, 0, [], rfl, Nat.le_refl _, by unfold maxLen; omega, trivial, fun h => absurd rfl h⟩

/-- What an object that is a row, or was one, holds. -/
theorem ob_reads (h : HR u V w Im ob) {k : Nat} {τ : Ty} {xs : List (u.D τ)} (hx : obL τ (ob k) = some xs) :
    ∃ A c vs, V k = .slice A xs.length c ∧ xs.length ≤ c ∧ c ≤ maxLen ∧ R2 (fun y k => CR u w Im y k) vs (xs.flatMap (flat u τ)) ∧ (c ≠ 0 → ∃ g, A = some ⟨g, 0, none⟩) ∧
      (∀ g, A = some ⟨g, 0, none⟩ → ∀ (j : Nat) y, vs[j]? = some y → w.cell? ⟨g, j, none⟩ = some y) := by
  have ho := h.obs k
  unfold obL at hx
  split at hx
  · rename_i e t ys hk
    rw [hk] at ho
    obtain ⟨rfl, rfl⟩ := asL_eq hx
    rcases ho with ⟨rfl, A, hV⟩ | ⟨g, cap, cur, hV, hg, h1, h2, h3, h4⟩
    · exact ⟨A, 0, [], hV, Nat.le_refl _, by unfold maxLen; omega, trivial, fun h => absurd rfl h, fun _ _ j y hy => by simp at hy⟩
    · refine ⟨_, _, _, hV, h1, h2, h4, fun _ => ⟨g, rfl⟩, fun g' e' j y hy => ?_⟩
      simp at e'
      subst e'
      rw [cell_of_row w g j cur e (0, 0) hg]
      rw [List.getElem?_take] at hy
      split at hy
      · simpa using hy
      · cases hy
  · rename_i t ys hk
    rw [hk] at ho
    obtain ⟨rfl, rfl⟩ := asL_eq hx
    obtain ⟨hc, A, c, hV, hg⟩ := ho
    rw [hV] at hc
    obtain ⟨A', c', vs, e, h1, h2, h3, h4⟩ := hc.reads
    simp at e
    obtain ⟨rfl, rfl⟩ := e
    refine ⟨A, c, vs, hV, h1, h2, h3, hg, fun g e j y hy => ?_⟩
    obtain ⟨a, e', hc⟩ := h4 (by rintro rfl; simp at hy)
    rw [e] at e'
    cases e'
    have := hc j y hy
    rwa [Addr.add_lit, Nat.zero_add] at this
  · simp at hx

theorem toL_reads (h : HR u V w Im ob) {a : AV u} {v : Value} (ha : AR u V (Lv u ob) w Im a v) {τ : Ty} {xs : List (u.D τ)} (hx : toL ob τ a = some xs) : Reads u w Im τ xs v := by
  cases a with
  | c x =>
    have e : x = ⟨.sl τ, xs⟩ := as_eq (c := x) (τ := .sl τ) hx
    subst e
    exact CR.reads (v := v) (show CR u w Im v ⟨.sl τ, xs⟩ from ha)
  | kl t ys =>
    have hx : asL τ t ys = some xs := hx
    obtain ⟨rfl, rfl⟩ := asL_eq hx
    exact CR.reads ha.2
  | kn =>
    have e : xs = [] := by
      have : some ([] : List (u.D τ)) = some xs := hx
      injection this with this
      exact this.symm
    subst e
    obtain ⟨A, hv⟩ := ha
    rw [hv]
    exact Reads.nil τ A
  | own k =>
    have hx : obL τ (ob k) = some xs := hx
    obtain ⟨A, c, vs, hV, h1, h2, h3, h4, h5⟩ := ob_reads h hx
    obtain ⟨_, rfl, _⟩ := ha
    refine ⟨A, c, vs, hV, h1, h2, h3, fun hn => ?_⟩
    have hl : vs.length ≠ 0 := fun e => hn (List.eq_nil_of_length_eq_zero e)
    have : c ≠ 0 := by
      rintro rfl
      have e0 : xs.length = 0 := by omega
      have := h3.length
      rw [flats_length, e0, Nat.zero_mul] at this
      exact hl this
    obtain ⟨g, rfl⟩ := h4 this
    exact ⟨_, rfl, fun j y hy => by rw [Addr.add_lit, Nat.zero_add]; exact h5 g rfl j y hy⟩
  | view k s lo len clip =>
    have hx2 : (bif Nat.beq s (sz u τ) then (obL τ (ob k)).map fun xs => (xs.drop lo).take len else none) = some xs := hx
    clear hx
    obtain ⟨hl, A, n, c, hV, A', c', rfl, b1, b2, b3, b4, b5⟩ := ha
    cases hs : Nat.beq s (sz u τ) with
    | false => rw [hs] at hx2; cases hx2
    | true =>
      rw [hs] at hx2
      have es : s = sz u τ := Nat.eq_of_beq_eq_true hs
      subst es
      obtain ⟨ys, hy, rfl⟩ := Option.map_eq_some_iff.1 (show (obL τ (ob k)).map (fun xs => (xs.drop lo).take len) = some xs from hx2)
      obtain ⟨A2, c2, vs, hV2, h1, h2, h3, h4, h5⟩ := ob_reads h hy
      rw [hV] at hV2
      cases hV2
      have hlen : ((ys.drop lo).take len).length = len := by simp; omega
      refine ⟨A', c', (vs.drop (lo * sz u τ)).take (len * sz u τ), by rw [hlen], by omega, ?_, ?_, fun hn => ?_⟩
      · cases clip with
        | true => have := b3 rfl; omega
        | false => have := b4 rfl; omega
      · rw [flats_take, flats_drop]
        exact (h3.drop _).take _
      · have : c' ≠ 0 := by
          rintro rfl
          have : len = 0 := by omega
          subst this
          simp at hn
        obtain ⟨g, rfl, rfl⟩ := b5 this
        refine ⟨_, rfl, fun j y hy => ?_⟩
        rw [List.getElem?_take] at hy
        split at hy
        · rw [List.getElem?_drop] at hy
          rw [Addr.add_lit]
          exact h5 g rfl _ y hy
        · cases hy
  | _ =>
    have hx : (none : Option (List (u.D τ))) = some xs := hx
    cases hx
end
end Go.Proofs.YtmppaodhihnejaaGreat.M

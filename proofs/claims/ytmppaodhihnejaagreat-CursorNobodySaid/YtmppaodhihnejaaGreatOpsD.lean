/- Operations that make or write memory. -/
import Derived.Test.YtmppaodhihnejaaGreatOpsC
set_option linter.unusedVariables false
namespace Go.Proofs.YtmppaodhihnejaaGreat.M
open Go

section
variable {P : Program} {u : Uni} {R : Type} {fx : Fix} {V : Nat → Value} {w : World} {Im : Nat → Prop} {ob : Nat → Ob u}

/-- An operation is carried out: its value, the state behind it. -/
def Done (P : Program) (u : Uni) (fx : Fix) (V : Nat → Value) (w : World) (Im : Nat → Prop) (ob : Nat → Ob u) (m : Sem Value) (kk : Kt u R) (z : R) : Prop :=
  ∃ x us val V' w' Im', m.run P w = .ok val w' ∧ kk x us = some z ∧ Step u fx V w Im ob V' w' Im' (upds ob us) ∧ SlR u V' (Lv u (upds ob us)) w' Im' x val

theorem Pure.done (h : Inv u fx V w Im ob) {m : Sem Value} {kk : AV u → Option R} {kk' : Kt u R} {z : R} (hp : Pure P u V (Lv u ob) w Im m kk z) (he : ∀ r, kk r = kk' (one r) []) : Done P u fx V w Im ob m kk' z := by
  obtain ⟨r, v, hr, hk, ha⟩ := hp
  exact ⟨one r, [], v, V, w, Im, hr, by rw [← he]; exact hk, .refl h, ha⟩
theorem PureS.done (h : Inv u fx V w Im ob) {m : Sem Value} {kk : Slot u → Option R} {kk' : Kt u R} {z : R} (hp : PureS P u V (Lv u ob) w Im m kk z) (he : ∀ r, kk r = kk' r []) : Done P u fx V w Im ob m kk' z := by
  obtain ⟨r, v, hr, hk, ha⟩ := hp
  exact ⟨r, [], v, V, w, Im, hr, by rw [← he]; exact hk, .refl h, ha⟩

/-! ### New variables -/
theorem fresh_upds_setCells : ∀ (cs : List (AV u)) (ob : Nat → Ob u) (k k' : Nat), k' < k ∨ k + cs.length ≤ k' → upds ob (setCells k cs) k' = ob k'
  | [], _, _, _, _ => rfl
  | a :: cs, ob, k, k', h => by
    simp only [setCells, upds]
    simp only [List.length_cons] at h
    rw [fresh_upds_setCells cs _ (k + 1) k' (by omega), upd_ne _ _ (by omega)]
theorem allFresh_at : ∀ {n k : Nat} {lk : Nat → Ob u}, allFresh lk k n = true → ∀ j, j < n → lk (k + j) = .fresh
  | 0, _, _, _, j, h => by omega
  | n + 1, k, lk, h, j, hj => by
    simp only [allFresh] at h
    split at h
    · rename_i hf
      cases j with
      | zero => exact hf
      | succ j =>
        have := allFresh_at h j (by omega)
        rwa [show k + (j + 1) = k + 1 + j by omega]
    · cases h

theorem newCells : ∀ {cs : List (AV u)} {vs : List Value} {V : Nat → Value} {ob : Nat → Ob u} (h : Inv u fx V w Im ob) {g : Nat} {arr : Array Value} {t : TypeId} (hg : w.heap[g]? = some (.cells arr t)) (hIm : ¬ Im g) (hfx : fx.w.heap.size ≤ g)
    (i k : Nat) (hr : R2 (AR u V (Lv u ob) w Im) cs vs) (hv : ∀ (j : Nat) y, vs[j]? = some y → arr[i + j]? = some y) (hf : ∀ j, j < cs.length → ob (k + j) = .fresh)
    (hp : ∀ k p, plc (ob k) (V k) = some p → p.1 = g → ∃ j, p.2 = some j ∧ j < i),
    ∃ V', Step u fx V w Im ob V' w Im (upds ob (setCells k cs)) ∧ ∀ j, j < cs.length → V' (k + j) = .pointer (some ⟨g, i + j, none⟩) ∧ Lv u (upds ob (setCells k cs)) (k + j)
  | [], [], V, ob, h, g, arr, t, _, _, _, i, k, _, _, _, _ => ⟨V, .refl h, fun j hj => by simp at hj⟩
  | [], _ :: _, _, _, _, _, _, _, _, _, _, _, _, hr, _, _, _ => hr.elim
  | _ :: _, [], _, _, _, _, _, _, _, _, _, _, _, hr, _, _, _ => hr.elim
  | a :: cs, y :: vs, V, ob, h, g, arr, t, hg, hIm, hfx, i, k, hr, hv, hf, hp => by
    have hk0 : ob k = .fresh := by simpa using hf 0 (by simp)
    have hy : w.cell? ⟨g, i, none⟩ = some y := by
      rw [cell_of_row w g i arr t (0, 0) hg]
      simpa using hv 0 y rfl
    have hfr : w.frozen? ⟨g, i, none⟩ = false := by simp [World.frozen?, hg]
    have hlt : g < w.heap.size := (Array.getElem?_eq_some_iff.1 hg).1
    have s1 := h.here k (.cell a) (.pointer (some ⟨g, i, none⟩)) (fun hl => absurd hk0 (Lv_iff.1 hl)) (by simp)
      (fun E => ⟨_, y, rfl, rfl, hy, hfr, AR.ext E hr.1⟩)
      (fun p hpp => by
        simp [plc] at hpp
        subst hpp
        refine ⟨fun k' p' hk' hp' hc => ?_, hIm, hlt, .inr hfx⟩
        obtain ⟨j, hj, hji⟩ := hp k' p' hp' hc.1.symm
        rcases hc.2 with hc | hc | hc
        · cases hc
        · rw [hj] at hc; cases hc
        · rw [hj] at hc; cases hc; omega)
    obtain ⟨V', s2, hV'⟩ := newCells s1.inv hg hIm hfx (i + 1) (k + 1) (hr.2.mono fun _ _ => AR.ext s1.ext)
      (fun j z hz => by rw [show i + 1 + j = i + (j + 1) by omega]; exact hv (j + 1) z (by simpa using hz))
      (fun j hj => by
        rw [upd_ne _ _ (by omega), show k + 1 + j = k + (j + 1) by omega]
        exact hf (j + 1) (by simp; omega))
      (fun k' p hpp he => by
        by_cases e : k' = k
        · subst e
          rw [upd_same, upd_same] at hpp
          simp [plc] at hpp
          subst hpp
          exact ⟨i, rfl, by omega⟩
        · rw [upd_ne _ _ e, upd_ne _ _ e] at hpp
          obtain ⟨j, hj, hji⟩ := hp k' p hpp he
          exact ⟨j, hj, by omega⟩)
    refine ⟨V', s1.trans s2, fun j hj => ?_⟩
    cases j with
    | zero =>
      have hl : Lv u (M.upd ob k (.cell a)) k := Lv_iff.2 (by rw [upd_same]; simp)
      have := s2.ext.lv k hl
      rw [upd_same] at this
      exact ⟨this.2, this.1⟩
    | succ j =>
      have := hV' j (by simp at hj; omega)
      rw [show k + (j + 1) = k + 1 + j by omega, show i + (j + 1) = i + 1 + j by omega]
      exact this

theorem boxOp_ok (h : Inv u fx V w Im ob) {cs : List (AV u)} {vs : List Value} (hr : R2 (AR u V (Lv u ob) w Im) cs vs) (t : TypeId) (dk : Nat) {kk : AV u → List (Nat × Ob u) → Option R} {z : R} (hx : boxOp ob dk cs kk = some z) :
    ∃ V' us r, kk r us = some z ∧ Step u fx V w Im ob V' (w.alloc (.cells vs.toArray t)) Im (upds ob us) ∧ AR u V' (Lv u (upds ob us)) (w.alloc (.cells vs.toArray t)) Im r (.pointer (some ⟨w.heap.size, 0, none⟩)) := by
  unfold boxOp at hx
  cases hf : allFresh ob dk cs.length with
  | false => rw [hf] at hx; cases hx
  | true =>
    rw [hf, cond_true] at hx
    have s0 := h.alloc (.cells vs.toArray t)
    obtain ⟨V', s1, hV⟩ := newCells s0.inv (heap_alloc_new w _) (fun hi => by have := h.hr.imLt _ hi; omega) h.fr.size 0 dk (hr.mono fun _ _ => AR.ext s0.ext)
      (fun j y hy => by rw [Nat.zero_add]; simpa using hy) (allFresh_at hf) (fun k p hp he => by have := h.hr.lt k p hp; omega)
    refine ⟨V', _, _, hx, s0.trans s1, w.heap.size, 0, rfl, fun j hj => ?_⟩
    have := hV j hj
    exact ⟨this.2, this.1⟩

theorem run_box {t : TypeId} (v : Value) : (Instr.box t v).run P w = .ok (.pointer (some ⟨w.heap.size, 0, none⟩)) (w.alloc (.cells v.cells t)) := by
  simp [Instr.box, newVar, newRow]
theorem run_alloc {t : TypeId} {i : TypeInfo} {z : Value} (h : P.info? t = some i) (hz : i.zero = some z) : (Instr.alloc t true (.tuple #[])).run P w = .ok (.pointer (some ⟨w.heap.size, 0, none⟩)) (w.alloc (.cells z.cells t)) := by
  simp [Instr.alloc, run_zeroValue h hz, newVar, newRow]

/-- The cells of a value. -/
theorem SR.cells {V : Nat → Value} {L : Nat → Prop} {x : SV u} {v : Value} (h : SR u V L w Im x v) (hd : ∀ a, x = .v a → v.oneCell' = true) : R2 (AR u V L w Im) x.cells v.cells.toList := by
  cases x with
  | v a =>
    have := hd a rfl
    have e : v.cells = #[v] := by cases v <;> first | rfl | cases this
    rw [e]
    exact ⟨h, trivial⟩
  | agg cs =>
    obtain ⟨vs, rfl, hr⟩ := h
    exact hr
end
end Go.Proofs.YtmppaodhihnejaaGreat.M

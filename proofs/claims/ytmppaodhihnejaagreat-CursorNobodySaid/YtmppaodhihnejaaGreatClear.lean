/- The built-in clear, of a slice. -/
import Derived.Test.YtmppaodhihnejaaGreatOpsH
set_option linter.unusedVariables false
namespace Go.Proofs.YtmppaodhihnejaaGreat.M
open Go

section
variable {P : Program} {u : Uni} {R : Type} {fx : Fix} {V : Nat → Value} {w : World} {Im : Nat → Prop} {ob : Nat → Ob u}

theorem zCells_ok {L : Nat → Prop} : ∀ {ts : List Ty} {as : List (AV u)} {cs : List u.C} {vs : List Value}, zCells ts as = some cs → R2 (AR u V L w Im) as vs → R2 (fun y c => CR u w Im y c) vs cs
  | [], [], cs, [], h, _ => by cases h; trivial
  | [], [], cs, _ :: _, h, hr => hr.elim
  | [], _ :: _, cs, vs, h, _ => by cases h
  | _ :: _, [], cs, vs, h, _ => by cases h
  | t :: ts, a :: as, cs, [], h, hr => hr.elim
  | t :: ts, a :: as, cs, v :: vs, h, hr => by
    cases a with
    | c x =>
      have h : (match x.as t, zCells ts as with | some y, some l => some ((⟨t, y⟩ : u.C) :: l) | _, _ => none) = some cs := by cases t <;> exact h
      split at h
      · rename_i y l hy hl
        cases h
        have e := as_eq hy
        subst e
        exact ⟨hr.1, zCells_ok hl hr.2⟩
      · cases h
    | kn =>
      cases t with
      | sl e =>
        have h : (match zCells ts as with | some l => some ((⟨.sl e, ([] : List (Ty.den u.S e))⟩ : u.C) :: l) | none => none) = some cs := h
        split at h
        · rename_i l hl
          cases h
          obtain ⟨A, hv⟩ := hr.1
          refine ⟨?_, zCells_ok hl hr.2⟩
          rw [hv]
          exact .sl e [] A 0 [] (Nat.le_refl _) (by unfold maxLen; omega) (by simp) (fun h => absurd rfl h) (fun j v c h => by simp at h)
        · cases h
      | _ => cases h
    | _ => cases t <;> cases h
theorem zeroE_ok {T : TypeId → Option (TI u)} (hT : TOk P T) {e : TypeId} {τ : Ty} {z : u.D τ} (h : zeroE (T e) τ = some z) : ∃ zv, (zeroValue e).run P w = .ok zv w ∧ R2 (fun y c => CR u w Im y c) zv.cells.toList (flat u τ z) := by
  unfold zeroE at h
  split at h
  · rename_i ti ht
    obtain ⟨i, zv, i1, i2, i3, i4, i5⟩ := zero_AR hT ht (fun _ => .nilFunc) (fun _ => True) w Im
    split at h
    · rename_i cs hc
      refine ⟨zv, run_zeroValue i1 i4 w, ?_⟩
      rw [pack_eq u τ cs z h]
      exact zCells_ok hc i5
    · cases h
  · cases h
theorem repL_flat (u : Uni) (τ : Ty) (z : u.D τ) : ∀ n, (List.replicate n z).flatMap (flat u τ) = repL (flat u τ z) n
  | 0 => rfl
  | n + 1 => by rw [List.replicate_succ, List.flatMap_cons, repL_flat u τ z n]; rfl

theorem clrOp_ok {T : TypeId → Option (TI u)} (hT : TOk P T) (h : Inv u fx V w Im ob) {t ty e : TypeId} (ht : P.underlying t = some (.slice e)) {a : AV u} {av : Value} (ha : AR u V (Lv u ob) w Im a av)
    {kk : List (Nat × Ob u) → Option R} {z : R} (hk : clrOp ob e (T e) a kk = some z) :
    ∃ us w', (Builtin.clear_ #[t] ty #[av]).run P w = .ok (.tuple #[]) w' ∧ kk us = some z ∧ Step u fx V w Im ob V w' Im (upds ob us) := by
  unfold clrOp at hk
  split at hk
  · obtain ⟨A, rfl⟩ := ha
    refine ⟨[], w, ?_, hk, .refl h⟩
    cases A <;> simp [Builtin.clear_, run_underlying ht]
  · rename_i k s lo n cl
    split at hk
    · rename_i e' τ xs ho
      split at hk
      · rename_i z0 hz
        cases hb : (Nat.beq s (sz u τ) && Nat.beq e e') with
        | false => rw [hb] at hk; cases hk
        | true =>
          rw [hb, cond_true] at hk
          rw [Bool.and_eq_true] at hb
          have := Nat.eq_of_beq_eq_true hb.1
          subst this
          have := Nat.eq_of_beq_eq_true hb.2
          subst this
          obtain ⟨hfit, hk⟩ := ck_some hk
          have hfit : lo + n ≤ xs.length := of_decide_eq_true hfit
          obtain ⟨zv, hzr, hzc⟩ := zeroE_ok (w := w) (Im := Im) hT hz
          have hzl : zv.cells.size = sz u τ := by rw [← Array.length_toList (xs := zv.cells), hzc.length, flat_length]
          obtain ⟨hl, A, N, c, hV, A', c', rfl, a1, a2, a3, a4, a5⟩ := ha
          have hnews : R2 (fun y c => CR u w Im y c) (Builtin.zeroCells zv.cells n).toList ((List.replicate n z0).flatMap (flat u τ)) := by
            unfold Builtin.zeroCells
            rw [cells_range, repL_flat]
            exact repL_R2 hzc n
          have hnl : (Builtin.zeroCells zv.cells n).toList.length = n * sz u τ := by rw [hnews.length, flats_length, List.length_replicate]
          have hob := h.hr.obs k
          rw [ho] at hob
          by_cases hn0 : n = 0
          · subst hn0
            refine ⟨_, w, ?_, hk, ?_⟩
            · cases A' <;> simp [Builtin.clear_, run_underlying ht]
            · show Step u fx V w Im ob V w Im (M.upd ob k (.row e τ xs))
              rw [← ho, upd_self]
              exact .refl h
          · rcases hob with ⟨hnil, A0, hV0⟩ | ⟨g, cap, cur, hV0, hg, q1, q2, q3, q4⟩
            · subst hnil
              have hfit : lo + n ≤ 0 := hfit
              omega
            · rw [hV] at hV0
              cases hV0
              obtain ⟨g', e1, e2⟩ := a5 (by omega)
              cases e1
              subst e2
              have hmul : (lo + n) * sz u τ ≤ xs.length * sz u τ := Nat.mul_le_mul_right _ hfit
              have hmul2 : xs.length * sz u τ ≤ cur.size := by rw [q3]; exact Nat.mul_le_mul_right _ q1
              have hst := run_storeCells_row (P := P) g (lo * sz u τ) e (Builtin.zeroCells zv.cells n).toList cur w hg (by rw [hnl, ← Nat.add_mul]; omega) (R2_CR_one hnews)
              have hlr : lo + (List.replicate n z0).length ≤ xs.length := by rw [List.length_replicate]; exact hfit
              have s := h.rewrite (ys := putAt xs lo (List.replicate n z0)) ho hV hg (putAt cur.toList (lo * sz u τ) (Builtin.zeroCells zv.cells n).toList).toArray (by simp [putAt_length]) (putAt_length _ _ _) q1 q2 q3 (by
                rw [putAt_length, putAt_flats u τ _ xs lo hlr]
                show R2 _ ((putAt cur.toList (lo * sz u τ) _).take (xs.length * sz u τ)) _
                rw [take_putAt _ _ _ _ (by rw [hnl, ← Nat.add_mul]; exact hmul) (by rw [Array.length_toList (xs := cur)]; exact hmul2)]
                exact putAt_R2 _ q4 hnews)
              refine ⟨_, _, ?_, hk, s⟩
              obtain ⟨m, rfl⟩ : ∃ m, n = m + 1 := ⟨n - 1, by omega⟩
              simp only [Builtin.clear_, run_underlying ht, Sem.run_bind, Result.andThen]
              simp [run_underlying ht, hzr, hst]
      · cases hk
    · cases hk
  · cases hk
end
end Go.Proofs.YtmppaodhihnejaaGreat.M

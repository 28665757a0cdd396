/- The machine hands on one answer: calls, code, functions. -/
import Derived.Test.YtmppaodhihnejaaGreatMono
set_option linter.unusedVariables false
namespace Go.Proofs.YtmppaodhihnejaaGreat.M
open Go

section
variable {u : Uni} {R : Type}

theorem me_callOp {orc : Orc u R} (ho : ∀ f as os, ME2 (orc f as os)) (sg : FuncId → Option Sig) (lk : Nat → Ob u) (dk : Nat) (f : FuncId) (args : List (SV u)) : ME2 (callOp orc sg lk dk f args) := by
  intro kk z h
  unfold callOp at h
  split at h
  · rename_i args1 us h1
    simp only at h
    split at h
    · rename_i ks hks
      cases hb : (nodupN ks && allLive (upds lk us) ks) with
      | false => rw [hb] at h; cases h
      | true =>
        rw [hb, cond_true] at h
        split at h
        · rename_i as os has hos
          obtain ⟨res, obs, g1, g2⟩ := ho f as os _ z h
          cases hc : (Nat.ble ks.length obs.length && allFresh (upds lk us) dk (obs.length - ks.length)) with
          | false => rw [hc] at g1; cases g1
          | true =>
            rw [hc, cond_true] at g1
            split at g1
            · rename_i rs bs hrs hbs
              refine ⟨_, _, g1, fun kk' z' h' => ?_⟩
              unfold callOp
              simp only [h1, hks, hb, cond_true, has, hos]
              refine g2 _ _ ?_
              rw [hc, cond_true, hrs, hbs]
              exact h'
            · cases g1
        · cases h
    · cases h
  · cases h

def OrcsME (o : Orcs u R) : Prop := (∀ f as os, ME2 (o.fn f as os)) ∧ (∀ f m id σ, ME2 (o.lp f m id σ))

theorem me_sem {cx : Cx u R} (ho : OrcsME cx.o) (ev : Operand → Slot u) (lk : Nat → Ob u) (dk : Nat) (op : Op) : ME2 (sem cx ev lk dk op) := by
  intro kk z h
  cases op with
  | move x => exact ME2.ret _ _ kk z h
  | assign x => exact ME2.ret _ _ kk z h
  | pick c a b =>
    simp only [sem] at h
    split at h
    · rename_i t hc
      cases t with
      | true => exact ⟨_, _, h, fun kk' z' h' => by simp only [sem, hc]; exact h'⟩
      | false => exact ⟨_, _, h, fun kk' z' h' => by simp only [sem, hc]; exact h'⟩
    · cases h
  | alloc t =>
    simp only [sem] at h
    split at h
    · rename_i ti ht
      obtain ⟨x, y, h1, h2⟩ := (me_boxOp _ _ _).one kk z h
      exact ⟨x, y, h1, fun kk' z' h' => by simp only [sem, ht]; exact h2 kk' z' h'⟩
    · cases h
  | box t x =>
    simp only [sem] at h
    split at h
    · rename_i ti x' ht hx
      cases hb : (Nat.beq x'.cells.length ti.size && noDead x'.cells) with
      | false => rw [hb] at h; cases h
      | true =>
        rw [hb, cond_true] at h
        obtain ⟨x, y, h1, h2⟩ := (me_boxOp _ _ _).one kk z h
        exact ⟨x, y, h1, fun kk' z' h' => by simp only [sem, ht, hx, hb, cond_true]; exact h2 kk' z' h'⟩
    · cases h
  | build t ps => exact (me_buildOp _ _ _).slot kk z h
  | buildSlice t len ps =>
    simp only [sem] at h
    split at h
    · rename_i ht
      obtain ⟨x, y, h1, h2⟩ := (me_bsOp _ _ _ _ _ _).one kk z h
      exact ⟨x, y, h1, fun kk' z' h' => by simp only [sem, ht]; exact h2 kk' z' h'⟩
    · cases h
  | load t x =>
    simp only [sem] at h
    split at h
    · rename_i a hx
      obtain ⟨x, y, h1, h2⟩ := (me_ldOp _ _ _).slot kk z h
      exact ⟨x, y, h1, fun kk' z' h' => by simp only [sem, hx]; exact h2 kk' z' h'⟩
    · cases h
  | store t a x =>
    simp only [sem] at h
    split at h
    · rename_i a' x' ha hx
      obtain ⟨x, y, h1, h2⟩ := (me_stOp _ _ _ _).dead kk z h
      exact ⟨x, y, h1, fun kk' z' h' => by simp only [sem, ha, hx]; exact h2 kk' z' h'⟩
    · cases h
  | nilCheck x =>
    simp only [sem] at h
    split at h
    · rename_i hx
      exact ⟨_, _, h, fun kk' z' h' => by simp only [sem, hx]; exact h'⟩
    · rename_i hx
      exact ⟨_, _, h, fun kk' z' h' => by simp only [sem, hx]; exact h'⟩
    · rename_i hx
      exact ⟨_, _, h, fun kk' z' h' => by simp only [sem, hx]; exact h'⟩
    · cases h
  | binOp op t x y r =>
    simp only [sem] at h
    split at h
    · rename_i a b ti hx hy ht
      obtain ⟨x, y, h1, h2⟩ := (me_bOp _ _ _ _).one kk z h
      exact ⟨x, y, h1, fun kk' z' h' => by simp only [sem, hx, hy, ht]; exact h2 kk' z' h'⟩
    · cases h
  | unOp op t x =>
    simp only [sem] at h
    split at h
    · rename_i a hx
      obtain ⟨x, y, h1, h2⟩ := (me_uOp _ _).one kk z h
      exact ⟨x, y, h1, fun kk' z' h' => by simp only [sem, hx]; exact h2 kk' z' h'⟩
    · cases h
  | convert s d x =>
    simp only [sem] at h
    split at h
    · rename_i a ts td hx hs hd
      obtain ⟨x, y, h1, h2⟩ := (me_conv _ _ _ _ _).one kk z h
      exact ⟨x, y, h1, fun kk' z' h' => by simp only [sem, hx, hs, hd]; exact h2 kk' z' h'⟩
    · cases h
  | makeFunc fn first caps =>
    simp only [sem] at h
    split at h
    · rename_i l h1 h2
      split at h
      · rename_i l0 h3
        exact ⟨_, _, h, fun kk' z' h' => by simp only [sem, h1, h2, h3]; exact h'⟩
      · cases h
    · cases h
  | makeMap t r =>
    simp only [sem] at h
    split at h
    · rename_i ht
      obtain ⟨x, y, h1, h2⟩ := (me_mkMap _ _ _ _).one kk z h
      exact ⟨x, y, h1, fun kk' z' h' => by simp only [sem, ht]; exact h2 kk' z' h'⟩
    · cases h
  | lookup t m k ok =>
    simp only [sem] at h
    split at h
    · rename_i ht hm hk
      obtain ⟨x, y, h1, h2⟩ := (me_lookOp _ _ _ _ _ _).slot kk z h
      exact ⟨x, y, h1, fun kk' z' h' => by simp only [sem, ht, hm, hk]; exact h2 kk' z' h'⟩
    · cases h
  | mapUpdate t m k x =>
    simp only [sem] at h
    split at h
    · rename_i ht hm hk hx
      obtain ⟨x, y, h1, h2⟩ := (me_updOp _ _ _ _ _).dead kk z h
      exact ⟨x, y, h1, fun kk' z' h' => by simp only [sem, ht, hm, hk, hx]; exact h2 kk' z' h'⟩
    · cases h
  | slice t x lo hi mx =>
    simp only [sem] at h
    split at h
    · rename_i a ti l hh m hx ht hl hhi hm
      split at h
      · rename_i s hkk
        split at h
        · obtain ⟨hc, h⟩ := ck_some h
          exact ⟨_, _, h, fun kk' z' h' => by simp only [sem, hx, ht, hl, hhi, hm, hkk]; exact ck_intro hc h'⟩
        · cases h
      · rename_i e a' hkk
        split at h
        · rename_i τ hte
          obtain ⟨x, y, h1, h2⟩ := (me_sliceOp _ _ _ _ _ _).one kk z h
          exact ⟨x, y, h1, fun kk' z' h' => by simp only [sem, hx, ht, hl, hhi, hm, hkk, hte]; exact h2 kk' z' h'⟩
        · cases h
      · cases h
    · cases h
  | fieldAddr t x f =>
    simp only [sem] at h
    split at h
    · rename_i a hx
      obtain ⟨x, y, h1, h2⟩ := (me_faOp _ _ _).one kk z h
      exact ⟨x, y, h1, fun kk' z' h' => by simp only [sem, hx]; exact h2 kk' z' h'⟩
    · cases h
  | field t x f => exact (me_fOp _ _ _).slot kk z h
  | indexAddr t x i =>
    simp only [sem] at h
    split at h
    · rename_i a n hx hi
      obtain ⟨x, y, h1, h2⟩ := (me_iaOp _ _ _ _ _).one kk z h
      exact ⟨x, y, h1, fun kk' z' h' => by simp only [sem, hx, hi]; exact h2 kk' z' h'⟩
    · cases h
  | index t x i =>
    simp only [sem] at h
    split at h
    · rename_i n hi
      obtain ⟨x, y, h1, h2⟩ := (me_ixOp _ _ _ _).slot kk z h
      exact ⟨x, y, h1, fun kk' z' h' => by simp only [sem, hi]; exact h2 kk' z' h'⟩
    · cases h
  | range t x =>
    simp only [sem] at h
    split at h
    · rename_i ht hx
      split at h
      · rename_i hf
        exact ⟨_, _, h, fun kk' z' h' => by simp only [sem, ht, hx, hf]; exact h'⟩
      · cases h
    · cases h
  | next it b =>
    cases b with
    | false => simp only [sem] at h; cases h
    | true =>
    simp only [sem] at h
    split at h
    · rename_i k hx
      split at h
      · rename_i s pos ho
        cases hb : ltN pos s.length with
        | true =>
          rw [hb] at h
          exact ⟨_, _, h, fun kk' z' h' => by simp only [sem, hx, ho]; rw [hb]; exact h'⟩
        | false =>
          rw [hb] at h
          exact ⟨_, _, h, fun kk' z' h' => by simp only [sem, hx, ho]; rw [hb]; exact h'⟩
      · cases h
    · cases h
  | extract x i =>
    simp only [sem] at h
    split at h
    · rename_i l hx
      split at h
      · rename_i y hy
        exact ⟨_, _, h, fun kk' z' h' => by simp only [sem, hx, hy]; exact h'⟩
      · cases h
    · cases h
  | call c =>
    obtain ⟨callee, args, ats⟩ := c
    cases callee with
    | builtin b => exact me_bltOp _ _ _ _ _ _ kk z h
    | invoke r n => simp only [sem] at h; cases h
    | value g =>
      simp only [sem] at h
      split at h
      · rename_i f args' hg hargs
        obtain ⟨x, y, h1, h2⟩ := me_callOp ho.1 _ _ _ _ _ kk z h
        exact ⟨x, y, h1, fun kk' z' h' => by simp only [sem, hg, hargs]; exact h2 kk' z' h'⟩
      · rename_i f caps args' hg hargs
        obtain ⟨x, y, h1, h2⟩ := me_callOp ho.1 _ _ _ _ _ kk z h
        exact ⟨x, y, h1, fun kk' z' h' => by simp only [sem, hg, hargs]; exact h2 kk' z' h'⟩
      · cases h
  | _ => simp only [sem] at h; cases h
end
end Go.Proofs.YtmppaodhihnejaaGreat.M

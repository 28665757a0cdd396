/- What an abstract state says of memory. -/
import Derived.Test.YtmppaodhihnejaaGreatMach
import Derived.Deep.MidRow
set_option linter.unusedVariables false
namespace Go.Proofs.YtmppaodhihnejaaGreat.M
open Go

/-- A value that holds a datum: the blocks read are among those that stand still. -/
inductive CR (u : Uni) (w : World) (Im : Nat → Prop) : Value → u.C → Prop
  | int (k : IntKind) (n : Int) : CR u w Im (.int k n) ⟨.int k, n⟩
  | bool (b : Bool) : CR u w Im (.bool b) ⟨.bool, b⟩
  | str (s : List UInt8) : s.length ≤ strMax → CR u w Im (.string ⟨⟨s⟩⟩) ⟨.str, s⟩
  | sl (τ : Ty) (xs : List (u.D τ)) (A : Option Addr) (cap : Nat) (vs : List Value) :
      xs.length ≤ cap → cap ≤ maxLen → vs.length = xs.length * sz u τ →
      (vs ≠ [] → ∃ a, A = some a ∧ Im a.block ∧ ∀ (j : Nat) v, vs[j]? = some v → w.cell? (a.add j) = some v) →
      (∀ (j : Nat) v c, vs[j]? = some v → (xs.flatMap (flat u τ))[j]? = some c → CR u w Im v c) →
      CR u w Im (.slice A xs.length cap) ⟨.sl τ, xs⟩

theorem CR.mono {u : Uni} {w w' : World} {Im Im' : Nat → Prop} (hI : ∀ b, Im b → Im' b) (hw : ∀ b, Im b → w'.heap[b]? = w.heap[b]?) {v : Value} {c : u.C} (h : CR u w Im v c) : CR u w' Im' v c := by
  induction h with
  | int k n => exact .int k n
  | bool b => exact .bool b
  | str s hs => exact .str s hs
  | sl τ xs A cap vs h1 h2 h3 h4 h5 ih =>
    refine .sl τ xs A cap vs h1 h2 h3 (fun hn => ?_) (fun j v c a b => ih j v c a b)
    obtain ⟨a, e, hb, hc⟩ := h4 hn
    refine ⟨a, e, hI _ hb, fun j v hv => ?_⟩
    have := hc j v hv
    rw [← this]
    exact World.cell?_of_block (by rw [show (a.add j).block = a.block by unfold Addr.add; split <;> rfl]; exact hw _ hb)

theorem CR.one {u : Uni} {w : World} {Im : Nat → Prop} {v : Value} {c : u.C} (h : CR u w Im v c) : v.oneCell' = true := by
  cases h <;> rfl

/-- Two lists, element by element. -/
def R2 {α β : Type} (r : α → β → Prop) : List α → List β → Prop
  | [], [] => True
  | a :: as, b :: bs => r a b ∧ R2 r as bs
  | _, _ => False
theorem R2.length {α β : Type} {r : α → β → Prop} : ∀ {as : List α} {bs : List β}, R2 r as bs → as.length = bs.length
  | [], [], _ => rfl
  | _ :: _, _ :: _, h => by simp [R2.length h.2]
  | [], _ :: _, h => h.elim
  | _ :: _, [], h => h.elim
theorem R2.mono {α β : Type} {r s : α → β → Prop} (hm : ∀ a b, r a b → s a b) : ∀ {as : List α} {bs : List β}, R2 r as bs → R2 s as bs
  | [], [], _ => trivial
  | _ :: _, _ :: _, h => ⟨hm _ _ h.1, R2.mono hm h.2⟩
  | [], _ :: _, h => h.elim
  | _ :: _, [], h => h.elim
theorem R2.get {α β : Type} {r : α → β → Prop} : ∀ {as : List α} {bs : List β}, R2 r as bs → ∀ (i : Nat) a, as[i]? = some a → ∃ b, bs[i]? = some b ∧ r a b
  | [], [], _, i, a, h => by simp at h
  | x :: as, y :: bs, h, 0, a, e => by simp at e; subst e; exact ⟨y, rfl, h.1⟩
  | x :: as, y :: bs, h, i + 1, a, e => by simpa using R2.get h.2 i a (by simpa using e)
  | [], _ :: _, h, _, _, _ => h.elim
  | _ :: _, [], h, _, _, _ => h.elim
theorem R2.get' {α β : Type} {r : α → β → Prop} : ∀ {as : List α} {bs : List β}, R2 r as bs → ∀ (i : Nat) b, bs[i]? = some b → ∃ a, as[i]? = some a ∧ r a b
  | [], [], _, i, a, h => by simp at h
  | x :: as, y :: bs, h, 0, a, e => by simp at e; subst e; exact ⟨x, rfl, h.1⟩
  | x :: as, y :: bs, h, i + 1, a, e => by simpa using R2.get' h.2 i a (by simpa using e)
  | [], _ :: _, h, _, _, _ => h.elim
  | _ :: _, [], h, _, _, _ => h.elim
theorem R2.of_get {α β : Type} {r : α → β → Prop} : ∀ {as : List α} {bs : List β}, as.length = bs.length → (∀ (i : Nat) a b, as[i]? = some a → bs[i]? = some b → r a b) → R2 r as bs
  | [], [], _, _ => trivial
  | x :: as, y :: bs, h, g => ⟨g 0 x y rfl rfl, R2.of_get (by simpa using h) fun i a b ha hb => g (i + 1) a b (by simpa using ha) (by simpa using hb)⟩
  | [], _ :: _, h, _ => by simp at h
  | _ :: _, [], h, _ => by simp at h
theorem R2.app {α β : Type} {r : α → β → Prop} : ∀ {as : List α} {bs : List β} {as' bs'}, R2 r as bs → R2 r as' bs' → R2 r (as ++ as') (bs ++ bs')
  | [], [], _, _, _, h => h
  | _ :: _, _ :: _, _, _, g, h => ⟨g.1, R2.app g.2 h⟩
  | [], _ :: _, _, _, h, _ => h.elim
  | _ :: _, [], _, _, h, _ => h.elim
theorem R2.take {α β : Type} {r : α → β → Prop} (n : Nat) : ∀ {as : List α} {bs : List β}, R2 r as bs → R2 r (as.take n) (bs.take n) := by
  induction n with
  | zero => intro as bs _; simp [R2]
  | succ n ih =>
    intro as bs h
    cases as <;> cases bs
    · trivial
    · exact h.elim
    · exact h.elim
    · exact ⟨h.1, ih h.2⟩
theorem R2.drop {α β : Type} {r : α → β → Prop} (n : Nat) : ∀ {as : List α} {bs : List β}, R2 r as bs → R2 r (as.drop n) (bs.drop n) := by
  induction n with
  | zero => intro as bs h; exact h
  | succ n ih =>
    intro as bs h
    cases as <;> cases bs
    · trivial
    · exact h.elim
    · exact h.elim
    · exact ih h.2
theorem R2.set {α β : Type} {r : α → β → Prop} : ∀ {as : List α} {bs : List β}, R2 r as bs → ∀ i a b, r a b → R2 r (as.set i a) (bs.set i b)
  | [], [], _, _, _, _, _ => trivial
  | _ :: _, _ :: _, h, 0, _, _, g => ⟨g, h.2⟩
  | _ :: _, _ :: _, h, i + 1, a, b, g => ⟨h.1, R2.set h.2 i a b g⟩
  | [], _ :: _, h, _, _, _, _ => h.elim
  | _ :: _, [], h, _, _, _, _ => h.elim
theorem R2.mapL {α β γ : Type} {r : α → β → Prop} (f : γ → α) : ∀ {as : List γ} {bs : List β}, R2 (fun c b => r (f c) b) as bs → R2 r (as.map f) bs
  | [], [], _ => trivial
  | _ :: _, _ :: _, h => ⟨h.1, R2.mapL f h.2⟩
  | [], _ :: _, h => h.elim
  | _ :: _, [], h => h.elim
theorem R2.unmapL {α β γ : Type} {r : α → β → Prop} (f : γ → α) : ∀ {as : List γ} {bs : List β}, R2 r (as.map f) bs → R2 (fun c b => r (f c) b) as bs
  | [], [], _ => trivial
  | _ :: _, _ :: _, h => ⟨h.1, R2.unmapL f h.2⟩
  | [], _ :: _, h => h.elim
  | _ :: _, [], h => h.elim

section
variable (u : Uni) (V : Nat → Value) (L : Nat → Prop) (w : World) (Im : Nat → Prop)

def ptrR (k n : Nat) (v : Value) : Prop := ∃ b o, v = .pointer (some ⟨b, o, none⟩) ∧ ∀ j, j < n → L (k + j) ∧ V (k + j) = .pointer (some ⟨b, o + j, none⟩)
def AR0 : AV0 u → Value → Prop
  | .c c, v => CR u w Im v c
  | .ptr k n, v => ptrR V L k n v
  | .raw r, v => v = r ∧ r.oneCell' = true
def AR : AV u → Value → Prop
  | .c c, v => CR u w Im v c
  | .kl τ xs, v => (∃ A, v = .slice A xs.length xs.length) ∧ CR u w Im v ⟨.sl τ, xs⟩
  | .kn, v => ∃ A, v = .slice A 0 0
  | .ptr k n, v => ptrR V L k n v
  | .rp τ x off, v => ∃ b o, v = .pointer (some ⟨b, o + off, none⟩) ∧ Im b ∧ ∃ vs : List Value, (∀ (j : Nat) y, vs[j]? = some y → w.cell? ⟨b, o + j, none⟩ = some y) ∧ R2 (fun y c => CR u w Im y c) vs (flat u τ x)
  | .ep k s i off, v => L k ∧ ∃ g n c, V k = .slice (some ⟨g, 0, none⟩) n c ∧ v = .pointer (some ⟨g, i * s + off, none⟩)
  | .own k, v => L k ∧ v = V k ∧ v.oneCell' = true
  | .view k s lo len clip, v => L k ∧ ∃ A n c, V k = .slice A n c ∧ ∃ A' c', v = .slice A' len c' ∧ len ≤ c' ∧ lo + len ≤ n ∧ (clip = true → c' = len) ∧ (clip = false → lo + c' = c) ∧ (c' ≠ 0 → ∃ g, A = some ⟨g, 0, none⟩ ∧ A' = some ⟨g, lo * s, none⟩)
  | .map k, v => L k ∧ v = V k ∧ ∃ r, v = .map (some r)
  | .it k, v => L k ∧ v = V k ∧ v.oneCell' = true
  | .raw r, v => v = r ∧ r.oneCell' = true
  | .fn f caps, v => ∃ cs : List Value, v = .func f #[] cs.toArray ∧ R2 (AR0 u V L w Im) caps cs
  | .dead, _ => True
def SR : SV u → Value → Prop
  | .v a, v => AR u V L w Im a v
  | .agg cs, v => ∃ vs : List Value, v = .agg vs.toArray ∧ R2 (AR u V L w Im) cs vs
def SlR : Slot u → Value → Prop
  | .sv x, v => SR u V L w Im x v
  | .tup xs, v => ∃ vs : List Value, v = .tuple vs.toArray ∧ R2 (SR u V L w Im) xs vs
  | .und, v => v = undef
  | .dead, _ => True
end

/-- The world goes on: what is referred to keeps its place, what stands still stands still. -/
structure Ext (V : Nat → Value) (L : Nat → Prop) (w : World) (Im : Nat → Prop) (V' : Nat → Value) (L' : Nat → Prop) (w' : World) (Im' : Nat → Prop) : Prop where
  lv : ∀ k, L k → L' k ∧ V' k = V k
  im : ∀ b, Im b → Im' b
  blk : ∀ b, Im b → w'.heap[b]? = w.heap[b]?

section
variable {u : Uni} {V V' V'' : Nat → Value} {L L' L'' : Nat → Prop} {w w' w'' : World} {Im Im' Im'' : Nat → Prop}
theorem Ext.refl : Ext V L w Im V L w Im := ⟨fun _ h => ⟨h, rfl⟩, fun _ h => h, fun _ _ => rfl⟩
theorem Ext.trans (h : Ext V L w Im V' L' w' Im') (g : Ext V' L' w' Im' V'' L'' w'' Im'') : Ext V L w Im V'' L'' w'' Im'' :=
  ⟨fun k hk => ⟨(g.lv k (h.lv k hk).1).1, (g.lv k (h.lv k hk).1).2.trans (h.lv k hk).2⟩, fun b hb => g.im b (h.im b hb), fun b hb => (g.blk b (h.im b hb)).trans (h.blk b hb)⟩
theorem ptrR.ext (h : Ext V L w Im V' L' w' Im') {k n : Nat} {v : Value} (g : ptrR V L k n v) : ptrR V' L' k n v := by
  obtain ⟨b, o, e, hj⟩ := g
  exact ⟨b, o, e, fun j hjn => ⟨(h.lv _ (hj j hjn).1).1, (h.lv _ (hj j hjn).1).2.trans (hj j hjn).2⟩⟩
theorem CR.ext (h : Ext V L w Im V' L' w' Im') {v : Value} {c : u.C} (g : CR u w Im v c) : CR u w' Im' v c := g.mono h.im h.blk
theorem AR0.ext (h : Ext V L w Im V' L' w' Im') {a : AV0 u} {v : Value} (g : AR0 u V L w Im a v) : AR0 u V' L' w' Im' a v := by
  cases a with
  | c x => exact CR.ext h g
  | ptr k n => exact ptrR.ext h g
  | raw r => exact g
theorem AR.ext (h : Ext V L w Im V' L' w' Im') {a : AV u} {v : Value} (g : AR u V L w Im a v) : AR u V' L' w' Im' a v := by
  cases a with
  | c x => exact CR.ext h g
  | kl τ xs => exact ⟨g.1, CR.ext h g.2⟩
  | kn => exact g
  | ptr k n => exact ptrR.ext h g
  | rp τ x off =>
    obtain ⟨b, o, e, hb, vs, hc, hr⟩ := g
    refine ⟨b, o, e, h.im b hb, vs, fun j y hy => ?_, hr.mono fun _ _ => CR.ext h⟩
    rw [← hc j y hy]
    exact World.cell?_of_block (h.blk b hb)
  | ep k s i off =>
    obtain ⟨hl, r, n, c, e, he⟩ := g
    exact ⟨(h.lv k hl).1, r, n, c, (h.lv k hl).2.trans e, he⟩
  | own k => exact ⟨(h.lv k g.1).1, g.2.1.trans (h.lv k g.1).2.symm, g.2.2⟩
  | view k s lo len clip =>
    obtain ⟨hl, A, n, c, e, he⟩ := g
    exact ⟨(h.lv k hl).1, A, n, c, (h.lv k hl).2.trans e, he⟩
  | map k => exact ⟨(h.lv k g.1).1, g.2.1.trans (h.lv k g.1).2.symm, g.2.2⟩
  | it k => exact ⟨(h.lv k g.1).1, g.2.1.trans (h.lv k g.1).2.symm, g.2.2⟩
  | raw r => exact g
  | fn f caps =>
    obtain ⟨cs, e, hr⟩ := g
    exact ⟨cs, e, hr.mono fun _ _ => AR0.ext h⟩
  | dead => trivial
theorem SR.ext (h : Ext V L w Im V' L' w' Im') {a : SV u} {v : Value} (g : SR u V L w Im a v) : SR u V' L' w' Im' a v := by
  cases a with
  | v a => exact AR.ext h g
  | agg cs =>
    obtain ⟨vs, e, hr⟩ := g
    exact ⟨vs, e, hr.mono fun _ _ => AR.ext h⟩
theorem SlR.ext (h : Ext V L w Im V' L' w' Im') {a : Slot u} {v : Value} (g : SlR u V L w Im a v) : SlR u V' L' w' Im' a v := by
  cases a with
  | sv x => exact SR.ext h g
  | tup xs =>
    obtain ⟨vs, e, hr⟩ := g
    exact ⟨vs, e, hr.mono fun _ _ => SR.ext h⟩
  | und => exact g
  | dead => trivial
end

/-! ### Objects -/
/-- The block of a slice that is one's own, if there is one. -/
def ownB : Value → Option Nat
  | .slice (some a) _ (_ + 1) => some a.block
  | _ => none
/-- The place that an object holds: a block, or a cell of a block. -/
def plc {u : Uni} : Ob u → Value → Option (Nat × Option Nat)
  | .cell _, .pointer (some ad) => some (ad.block, some ad.off)
  | .row _ _ _, v => (ownB v).map (·, none)
  | .map _ _ _, .map (some r) => some (r, none)
  | .sit _ _, .pointer (some ad) => some (ad.block, none)
  | _, _ => none
def clash (p q : Nat × Option Nat) : Prop := p.1 = q.1 ∧ (p.2 = none ∨ q.2 = none ∨ p.2 = q.2)

section
variable (u : Uni) (V : Nat → Value) (L : Nat → Prop) (w : World) (Im : Nat → Prop)
def rowR (e : TypeId) (τ : Ty) (xs : List (u.D τ)) (v : Value) : Prop :=
  (xs = [] ∧ ∃ A, v = .slice A 0 0) ∨
  ∃ g cap cur, v = .slice (some ⟨g, 0, none⟩) xs.length (cap + 1) ∧ w.heap[g]? = some (.cells cur e (0, 0)) ∧ xs.length ≤ cap + 1 ∧ cap + 1 ≤ maxLen ∧ cur.size = (cap + 1) * sz u τ ∧
    R2 (fun y c => CR u w Im y c) (cur.toList.take (xs.length * sz u τ)) (xs.flatMap (flat u τ))
def frzR (τ : Ty) (xs : List (u.D τ)) (v : Value) : Prop :=
  CR u w Im v ⟨.sl τ, xs⟩ ∧ ∃ A c, v = .slice A xs.length c ∧ (c ≠ 0 → ∃ g, A = some ⟨g, 0, none⟩)
def entR (kt vt : Ty) (e : MapEntry) (p : u.D kt × u.D vt) : Prop := CR u w Im e.key ⟨kt, p.1⟩ ∧ CR u w Im e.val ⟨vt, p.2⟩
def OR (v : Value) : Ob u → Prop
  | .fresh => True
  | .dead => True
  | .cell a => ∃ ad y, v = .pointer (some ad) ∧ ad.spot = none ∧ w.cell? ad = some y ∧ w.frozen? ad = false ∧ AR u V L w Im a y
  | .row e τ xs => rowR u w Im e τ xs v
  | .frz τ xs => frzR u w Im τ xs v
  | .map kt vt es => ∃ r ents clock, v = .map (some r) ∧ w.heap[r]? = some (.map ents clock) ∧ R2 (entR u w Im kt vt) ents.toList es
  | .sit s pos => ∃ r, v = .pointer (some ⟨r, 0, none⟩) ∧ w.heap[r]? = some (.stringIter ⟨⟨s⟩⟩ pos)
def Lv (ob : Nat → Ob u) : Nat → Prop := fun k => match ob k with
  | .fresh => False
  | _ => True
structure HR (ob : Nat → Ob u) : Prop where
  obs : ∀ k, OR u V (Lv u ob) w Im (V k) (ob k)
  disj : ∀ k k' p p', k ≠ k' → plc (ob k) (V k) = some p → plc (ob k') (V k') = some p' → ¬ clash p p'
  notIm : ∀ k p, plc (ob k) (V k) = some p → ¬ Im p.1
  lt : ∀ k p, plc (ob k) (V k) = some p → p.1 < w.heap.size
  imLt : ∀ b, Im b → b < w.heap.size
end

/-- From where a function began: which places it was lent, the world, what stood still. -/
structure Fix where
  O : Nat × Option Nat → Prop
  w : World
  Im : Nat → Prop
  m : Nat
  V : Nat → Value
  df : List Deferred

structure Fr {u : Uni} (fx : Fix) (V : Nat → Value) (w : World) (Im : Nat → Prop) (ob : Nat → Ob u) : Prop where
  os : w.os = fx.w.os
  tape : w.tape = fx.w.tape
  output : w.output = fx.w.output
  size : fx.w.heap.size ≤ w.heap.size
  block : ∀ b, b < fx.w.heap.size → (∀ o, ¬ fx.O (b, o)) → w.heap[b]? = fx.w.heap[b]?
  cell : ∀ b o, b < fx.w.heap.size → ¬ fx.O (b, none) → ¬ fx.O (b, some o) → w.cell? ⟨b, o, none⟩ = fx.w.cell? ⟨b, o, none⟩ ∧ w.frozen? ⟨b, o, none⟩ = fx.w.frozen? ⟨b, o, none⟩
  imUp : ∀ b, fx.Im b → Im b
  imIn : ∀ b, Im b → fx.Im b ∨ fx.O (b, none) ∨ fx.w.heap.size ≤ b
  ownIn : ∀ k p, plc (ob k) (V k) = some p → fx.O p ∨ fx.w.heap.size ≤ p.1
  keys : ∀ k, k < fx.m → Lv u ob k ∧ V k = fx.V k

structure Rel {u : Uni} (fx : Fix) (nt : Nat) (V : Nat → Value) (Im : Nat → Prop) (σ : St u) (a : Act) (w : World) : Prop where
  hr : HR u V w Im σ.ob
  fr : Fr fx V w Im σ.ob
  sl : ∀ i, SlR u V (Lv u σ.ob) w Im (σ.sl i) (a.tmps.getD i undef)
  nt : a.tmps.size = nt
  df : a.defers = fx.df
end Go.Proofs.YtmppaodhihnejaaGreat.M

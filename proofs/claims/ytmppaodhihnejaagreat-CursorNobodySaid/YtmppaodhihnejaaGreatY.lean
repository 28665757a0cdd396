/- The program's data and tables. -/
import Derived.Test.YtmppaodhihnejaaGreatTab
import Derived.Test.YtmppaodhihnejaaGreatChecked
import Derived.KernelRfl
set_option linter.unusedVariables false
namespace Go.Proofs.YtmppaodhihnejaaGreat
open Go Go.Proofs.YtmppaodhihnejaaGreat.M

inductive Val where
  | mk (kind : Int) (int : Int) (text : List UInt8) (items : List Val) (names : List (List UInt8))
structure Dlt where
  kind : Int
  path : List (List UInt8)
  value : Val
  n : Int
structure Ent where
  term : Int
  kind : Int
  coll : List UInt8
  to_ : List UInt8
  id : Val
  doc : Val
  deltas : List Dlt
  session : Int
  number : Int
structure Msg where
  kind : Int
  from_ : Int
  to_ : Int
  term : Int
  index : Int
  logTerm : Int
  commit : Int
  round : Int
  ok : Bool
  entries : List Ent
  snap : List Int
structure Evt where
  kind : Int
  index : Int
  term : Int
  coll : List UInt8
  to_ : List UInt8
  id : Val
  deltas : List Dlt
  pre : Val
  had : Int
  post : Val
  has : Int
  token : List Int
structure VV where
  a : Val
  b : Val
structure BV where
  a : Bool
  b : Val
structure NV where
  a : List UInt8
  b : List Val
def Val.kind : Val → Int
  | .mk x _ _ _ _ => x
def Val.int : Val → Int
  | .mk _ x _ _ _ => x
def Val.text : Val → List UInt8
  | .mk _ _ x _ _ => x
def Val.items : Val → List Val
  | .mk _ _ _ x _ => x
def Val.names : Val → List (List UInt8)
  | .mk _ _ _ _ x => x
def uS : Nat → Type
  | 0 => Val
  | 1 => Dlt
  | 2 => Ent
  | 3 => Msg
  | 4 => Evt
  | 5 => VV
  | 6 => BV
  | 7 => NV
  | _ => Int
def uTys : Nat → List Ty
  | 0 => [.int .i64, .int .i64, .str, .sl (.nm 0), .sl .str]
  | 1 => [.int .i64, .sl .str, .int .i64, .int .i64, .str, .sl (.nm 0), .sl .str, .int .i64]
  | 2 => [.int .i64, .int .i64, .str, .str, .int .i64, .int .i64, .str, .sl (.nm 0), .sl .str, .int .i64, .int .i64, .str, .sl (.nm 0), .sl .str, .sl (.nm 1), .int .i64, .int .i64]
  | 3 => [.int .i64, .int .i64, .int .i64, .int .i64, .int .i64, .int .i64, .int .i64, .int .i64, .bool, .sl (.nm 2), .sl (.int .u8)]
  | 4 => [.int .i64, .int .i64, .int .i64, .str, .str, .int .i64, .int .i64, .str, .sl (.nm 0), .sl .str, .sl (.nm 1), .int .i64, .int .i64, .str, .sl (.nm 0), .sl .str, .int .i64, .int .i64, .int .i64, .str, .sl (.nm 0), .sl .str, .int .i64, .sl (.int .u8)]
  | 5 => [.int .i64, .int .i64, .str, .sl (.nm 0), .sl .str, .int .i64, .int .i64, .str, .sl (.nm 0), .sl .str]
  | 6 => [.bool, .int .i64, .int .i64, .str, .sl (.nm 0), .sl .str]
  | 7 => [.str, .sl (.nm 0)]
  | _ => [.int .i64]
def uMk : ∀ n, HL uS (uTys n) → uS n
  | 0, (c0, c1, c2, c3, c4, _) => Val.mk c0 c1 c2 c3 c4
  | 1, (c0, c1, c2, c3, c4, c5, c6, c7, _) => Dlt.mk c0 c1 (Val.mk c2 c3 c4 c5 c6) c7
  | 2, (c0, c1, c2, c3, c4, c5, c6, c7, c8, c9, c10, c11, c12, c13, c14, c15, c16, _) => Ent.mk c0 c1 c2 c3 (Val.mk c4 c5 c6 c7 c8) (Val.mk c9 c10 c11 c12 c13) c14 c15 c16
  | 3, (c0, c1, c2, c3, c4, c5, c6, c7, c8, c9, c10, _) => Msg.mk c0 c1 c2 c3 c4 c5 c6 c7 c8 c9 c10
  | 4, (c0, c1, c2, c3, c4, c5, c6, c7, c8, c9, c10, c11, c12, c13, c14, c15, c16, c17, c18, c19, c20, c21, c22, c23, _) => Evt.mk c0 c1 c2 c3 c4 (Val.mk c5 c6 c7 c8 c9) c10 (Val.mk c11 c12 c13 c14 c15) c16 (Val.mk c17 c18 c19 c20 c21) c22 c23
  | 5, (c0, c1, c2, c3, c4, c5, c6, c7, c8, c9, _) => VV.mk (Val.mk c0 c1 c2 c3 c4) (Val.mk c5 c6 c7 c8 c9)
  | 6, (c0, c1, c2, c3, c4, c5, _) => BV.mk c0 (Val.mk c1 c2 c3 c4 c5)
  | 7, (c0, c1, _) => NV.mk c0 c1
  | _ + 8, (x, _) => x
def uUn : ∀ n, uS n → HL uS (uTys n)
  | 0, x => (x.kind, x.int, x.text, x.items, x.names, ())
  | 1, x => (x.kind, x.path, x.value.kind, x.value.int, x.value.text, x.value.items, x.value.names, x.n, ())
  | 2, x => (x.term, x.kind, x.coll, x.to_, x.id.kind, x.id.int, x.id.text, x.id.items, x.id.names, x.doc.kind, x.doc.int, x.doc.text, x.doc.items, x.doc.names, x.deltas, x.session, x.number, ())
  | 3, x => (x.kind, x.from_, x.to_, x.term, x.index, x.logTerm, x.commit, x.round, x.ok, x.entries, x.snap, ())
  | 4, x => (x.kind, x.index, x.term, x.coll, x.to_, x.id.kind, x.id.int, x.id.text, x.id.items, x.id.names, x.deltas, x.pre.kind, x.pre.int, x.pre.text, x.pre.items, x.pre.names, x.had, x.post.kind, x.post.int, x.post.text, x.post.items, x.post.names, x.has, x.token, ())
  | 5, x => (x.a.kind, x.a.int, x.a.text, x.a.items, x.a.names, x.b.kind, x.b.int, x.b.text, x.b.items, x.b.names, ())
  | 6, x => (x.a, x.b.kind, x.b.int, x.b.text, x.b.items, x.b.names, ())
  | 7, x => (x.a, x.b, ())
  | _ + 8, x => (x, ())
def un : Uni where
  S := uS
  tys := uTys
  mkS := uMk
  unS := uUn
  un_mk
    | 0, (_, _, _, _, _, _) => rfl
    | 1, (_, _, _, _, _, _, _, _, _) => rfl
    | 2, (_, _, _, _, _, _, _, _, _, _, _, _, _, _, _, _, _, _) => rfl
    | 3, (_, _, _, _, _, _, _, _, _, _, _, _) => rfl
    | 4, (_, _, _, _, _, _, _, _, _, _, _, _, _, _, _, _, _, _, _, _, _, _, _, _, _) => rfl
    | 5, (_, _, _, _, _, _, _, _, _, _, _) => rfl
    | 6, (_, _, _, _, _, _, _) => rfl
    | 7, (_, _, _) => rfl
    | _ + 8, (_, _) => rfl
  mk_un
    | 0, Val.mk _ _ _ _ _ => rfl
    | 1, Dlt.mk _ _ (Val.mk _ _ _ _ _) _ => rfl
    | 2, Ent.mk _ _ _ _ (Val.mk _ _ _ _ _) (Val.mk _ _ _ _ _) _ _ _ => rfl
    | 3, Msg.mk _ _ _ _ _ _ _ _ _ _ _ => rfl
    | 4, Evt.mk _ _ _ _ _ (Val.mk _ _ _ _ _) _ (Val.mk _ _ _ _ _) _ (Val.mk _ _ _ _ _) _ _ => rfl
    | 5, VV.mk (Val.mk _ _ _ _ _) (Val.mk _ _ _ _ _) => rfl
    | 6, BV.mk _ (Val.mk _ _ _ _ _) => rfl
    | 7, NV.mk _ _ => rfl
    | _ + 8, _ => rfl
  single
    | 0, t, h => by simp only [uTys, List.mem_cons, List.not_mem_nil, or_false] at h; rcases h with rfl | rfl | rfl | rfl | rfl <;> rfl
    | 1, t, h => by simp only [uTys, List.mem_cons, List.not_mem_nil, or_false] at h; rcases h with rfl | rfl | rfl | rfl | rfl | rfl | rfl | rfl <;> rfl
    | 2, t, h => by simp only [uTys, List.mem_cons, List.not_mem_nil, or_false] at h; rcases h with rfl | rfl | rfl | rfl | rfl | rfl | rfl | rfl | rfl | rfl | rfl | rfl | rfl | rfl | rfl | rfl | rfl <;> rfl
    | 3, t, h => by simp only [uTys, List.mem_cons, List.not_mem_nil, or_false] at h; rcases h with rfl | rfl | rfl | rfl | rfl | rfl | rfl | rfl | rfl | rfl | rfl <;> rfl
    | 4, t, h => by simp only [uTys, List.mem_cons, List.not_mem_nil, or_false] at h; rcases h with rfl | rfl | rfl | rfl | rfl | rfl | rfl | rfl | rfl | rfl | rfl | rfl | rfl | rfl | rfl | rfl | rfl | rfl | rfl | rfl | rfl | rfl | rfl | rfl <;> rfl
    | 5, t, h => by simp only [uTys, List.mem_cons, List.not_mem_nil, or_false] at h; rcases h with rfl | rfl | rfl | rfl | rfl | rfl | rfl | rfl | rfl | rfl <;> rfl
    | 6, t, h => by simp only [uTys, List.mem_cons, List.not_mem_nil, or_false] at h; rcases h with rfl | rfl | rfl | rfl | rfl | rfl <;> rfl
    | 7, t, h => by simp only [uTys, List.mem_cons, List.not_mem_nil, or_false] at h; rcases h with rfl | rfl <;> rfl
    | _ + 8, t, h => by simp only [uTys, List.mem_cons, List.not_mem_nil, or_false] at h; rcases h with rfl; rfl
  some_
    | 0 => by decide
    | 1 => by decide
    | 2 => by decide
    | 3 => by decide
    | 4 => by decide
    | 5 => by decide
    | 6 => by decide
    | 7 => by decide
    | _ + 8 => Nat.succ_pos _
def dens : List (Option Ty) := [none, none, some (.int .i64), some (.int .i64), some (.bool), some (.int .u8), some (.int .u8), none, none, some (.str), some (.str), some (.str), some (.int .u64), none, none, none, none, none, none, none, none, some (.int .i32), some (.sl (.nm 2)), none, some (.sl (.nm 4)), some (.int .i64), none, none, some (.sl .str), none, none, none, none, none, some (.sl (.int .u8)), none, none, none, none, none, none, none, some (.sl (.nm 0)), some (.nm 0), some (.nm 0), some (.sl (.nm 1)), some (.nm 2), some (.nm 2), none, none, some (.nm 4), some (.nm 4), none, none, none, none, none, none, none, none, none, none, none, none, none, none, none, none, none, none, none, none, none, none, none, none, none, some (.sl (.nm 6)), none, none, some (.nm 6), some (.nm 6), none, none, none, none, none, none, none, none, none, none, none, none, none, none, none, none, none, none, none, none, none, none, none, none, none, none, none, some (.sl (.int .i64)), none, none, some (.int .u64), none, none, none, none, none, none, none, some (.int .u64), none, none, none, some (.nm 1), some (.nm 1), none, none, none, none, none, none, none, none, none, none, none, none, none, none, none, none, some (.int .u32), none, none, none, none, none, none, none, none, none, none, none, none, none, none, none, none, none, none, none, none, none, none, none, none, none, none, none, none, none, none, none, none, none, none, none, none, none, none, some (.int .u8), some (.int .u8), none, none, some (.int .i32), some (.int .i32), none, none, none]
noncomputable def tab : List (Option (TI un)) := tabOf Tryz.prog dens 0 190
theorem tabOk : TOk Tryz.prog (fun t => nthT tab t) := tab_ok rfl
end Go.Proofs.YtmppaodhihnejaaGreat

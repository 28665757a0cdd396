/- The program's data and tables. -/
import Derived.Test.YthnghbelgjdinaaGreatTab
import Derived.Test.YthnghbelgjdinaaGreatChecked
import Derived.KernelRfl
set_option linter.unusedVariables false
namespace Go.Proofs.YthnghbelgjdinaaGreat
open Go Go.Proofs.YthnghbelgjdinaaGreat.M

inductive Val where
  | mk (kind int : Int) (text : List UInt8) (items : List Val) (names : List (List UInt8))
structure Dlt where
  kind : Int
  path : List (List UInt8)
  value : Val
  n : Int
structure Ent where
  term : Int
  kind : Int
  coll : List UInt8
  to_ : List UInt8
  id : Val
  doc : Val
  deltas : List Dlt
  session : Int
  number : Int
structure Msg where
  kind : Int
  from_ : Int
  to_ : Int
  term : Int
  index : Int
  logTerm : Int
  commit : Int
  round : Int
  ok : Bool
  entries : List Ent
  snap : List Int

def uS : Nat → Type
  | 0 => Val
  | 1 => Dlt
  | 2 => Ent
  | 3 => Msg
  | _ => Int
def uTys : Nat → List Ty
  | 0 => [.int .i64, .int .i64, .str, .sl (.nm 0), .sl .str]
  | 1 => [.int .i64, .sl .str, .int .i64, .int .i64, .str, .sl (.nm 0), .sl .str, .int .i64]
  | 2 => [.int .i64, .int .i64, .str, .str, .int .i64, .int .i64, .str, .sl (.nm 0), .sl .str, .int .i64, .int .i64, .str, .sl (.nm 0), .sl .str, .sl (.nm 1), .int .i64, .int .i64]
  | 3 => [.int .i64, .int .i64, .int .i64, .int .i64, .int .i64, .int .i64, .int .i64, .int .i64, .bool, .sl (.nm 2), .sl (.int .u8)]
  | _ => [.int .i64]
def uMk : ∀ n, HL uS (uTys n) → uS n
  | 0, (a, b, c, d, e, _) => Val.mk a b c d e
  | 1, (a, p, k, i, t, l, m, n, _) => Dlt.mk a p (Val.mk k i t l m) n
  | 2, (a, b, c, d, k, i, t, l, m, k', i', t', l', m', ds, s, n, _) => Ent.mk a b c d (Val.mk k i t l m) (Val.mk k' i' t' l' m') ds s n
  | 3, (a, b, c, d, e, f, g, h, o, l, s, _) => Msg.mk a b c d e f g h o l s
  | _ + 4, (x, _) => x
def uUn : ∀ n, uS n → HL uS (uTys n)
  | 0, Val.mk a b c d e => (a, b, c, d, e, ())
  | 1, Dlt.mk a p (Val.mk k i t l m) n => (a, p, k, i, t, l, m, n, ())
  | 2, Ent.mk a b c d (Val.mk k i t l m) (Val.mk k' i' t' l' m') ds s n => (a, b, c, d, k, i, t, l, m, k', i', t', l', m', ds, s, n, ())
  | 3, Msg.mk a b c d e f g h o l s => (a, b, c, d, e, f, g, h, o, l, s, ())
  | _ + 4, x => (x, ())
def un : Uni where
  S := uS
  tys := uTys
  mkS := uMk
  unS := uUn
  un_mk
    | 0, (_, _, _, _, _, _) => rfl
    | 1, (_, _, _, _, _, _, _, _, _) => rfl
    | 2, (_, _, _, _, _, _, _, _, _, _, _, _, _, _, _, _, _, _) => rfl
    | 3, (_, _, _, _, _, _, _, _, _, _, _, _) => rfl
    | _ + 4, (_, _) => rfl
  mk_un
    | 0, Val.mk _ _ _ _ _ => rfl
    | 1, Dlt.mk _ _ (Val.mk _ _ _ _ _) _ => rfl
    | 2, Ent.mk _ _ _ _ (Val.mk _ _ _ _ _) (Val.mk _ _ _ _ _) _ _ _ => rfl
    | 3, Msg.mk _ _ _ _ _ _ _ _ _ _ _ => rfl
    | _ + 4, _ => rfl
  single
    | 0, t, h => by simp only [uTys, List.mem_cons, List.not_mem_nil, or_false] at h; rcases h with rfl | rfl | rfl | rfl | rfl <;> rfl
    | 1, t, h => by simp only [uTys, List.mem_cons, List.not_mem_nil, or_false] at h; rcases h with rfl | rfl | rfl | rfl | rfl | rfl | rfl | rfl <;> rfl
    | 2, t, h => by simp only [uTys, List.mem_cons, List.not_mem_nil, or_false] at h; rcases h with rfl | rfl | rfl | rfl | rfl | rfl | rfl | rfl | rfl | rfl | rfl | rfl | rfl | rfl | rfl | rfl | rfl <;> rfl
    | 3, t, h => by simp only [uTys, List.mem_cons, List.not_mem_nil, or_false] at h; rcases h with rfl | rfl | rfl | rfl | rfl | rfl | rfl | rfl | rfl | rfl | rfl <;> rfl
    | _ + 4, t, h => by simp only [uTys, List.mem_cons, List.not_mem_nil, or_false] at h; rcases h with rfl; rfl
  some_
    | 0 => by decide
    | 1 => by decide
    | 2 => by decide
    | 3 => by decide
    | _ + 4 => Nat.succ_pos _

def dens : List (Option Ty) := [none, none, some (.int .i64), some (.int .i64), some (.bool), some (.int .u8), none, none, none, some (.str), none, none, none, none, none, none, none, none, none, none, none, some (.int .i32), some (.sl (.nm 3)), none, none, none, none, none, none, none, some (.int .i64), none, none, some (.sl (.nm 2)), some (.sl (.int .u8)), some (.nm 3), some (.nm 3), none, none, none, none, none, none, some (.sl (.nm 0)), some (.sl .str), some (.nm 0), some (.nm 0), some (.sl (.nm 1)), some (.nm 2), some (.nm 2), none, none, none, none, none, none, none, none, none, none, none, none, none, none, none, none, none, none, none, none, none, none, none, none, none, none, none, none, none, none, none, none, none, none, none, none, none, none, none, none, none, none, none, none, none, none, none, none, none, none, none, none, none, none, none, none, none, some (.nm 1), some (.nm 1), none, none, none, none, none, none, none, some (.int .u64), none, none, none, none, none, none, none, none, none, none, none, none, none, none, none, none, none, none, none, none, none, none, none, some (.int .u64), none, none, none, none, none, none, none, none, none, none, none, none, none, none, none, none, none, none, none, none, none, none, none, none, none, none, none, none, none, some (.sl (.int .i64)), none, none, none, some (.int .u32), none, none, none, none, none, none, none, none, none, none, none, none, none, none, none]
noncomputable def tab : List (Option (TI un)) := tabOf Tryz.prog dens 0 190
theorem tabOk : TOk Tryz.prog (fun t => nthT tab t) := tab_ok rfl
end Go.Proofs.YthnghbelgjdinaaGreat

/- Plain laws: when two structs are equal, as the model has it. -/
import Derived.Test.YtfgjbcejpjcpeaaDoorNdV
namespace Go.Proofs.YtfgjbcejpjcpeaaDoor
open Go.RowKit
set_option maxHeartbeats 400000

theorem fields_of {t : TypeId} {fs : Array Field} (h : Tryd.prog.underlying t = some (.struct fs)) : Tryd.prog.fieldsOf t = fs := by
  unfold Program.fieldsOf; rw [h]
theorem eq_agg (w : World) (d : Nat) (t : TypeId) (fs : Array Field) (xs ys : Array Value) (h : Tryd.prog.underlying t = some (.struct fs)) (hp : Tryd.prog.stoodInHeld t = false) :
    (Op.equalIn (d + 1) t (.agg xs) (.agg ys)).run Tryd.prog w = (Op.eqFields d xs ys fs.toList).run Tryd.prog w := by
  rw [run_equalIn_agg w d t xs ys (by rw [fields_of h]; exact h) hp, fields_of h]

theorem eq_id (w : World) (d : Nat) (a b a' b' : ByteArray) : (Op.equalIn (d + 2) 99 (.agg #[.string a, .string b]) (.agg #[.string a', .string b'])).run Tryd.prog w = .ok (a.toList == a'.toList && b.toList == b'.toList) w := by
  rw [eq_agg w (d + 1) _ _ _ _ Tryd.underlying99 (by kernel_rfl)]
  simp [Op.eqFields, part, go_sem]
  repeat' split
  all_goals simp_all

def eqAc (x y : Ac) : Bool := x.perms == y.perms && (x.scheme.toList == y.scheme.toList && x.id.toList == y.id.toList)
def acV (x : Ac) : Value := .agg #[.int .i32 x.perms, .string x.scheme, .string x.id]
theorem eq_ac (w : World) (d : Nat) (x y : Ac) : (Op.equalIn (d + 3) 101 (acV x) (acV y)).run Tryd.prog w = .ok (eqAc x y) w := by
  unfold acV
  rw [eq_agg w (d + 2) _ _ _ _ Tryd.underlying101 (by kernel_rfl)]
  simp [Op.eqFields, part, go_sem]
  unfold eqAc
  repeat' split
  all_goals simp_all

theorem guard_ac : Tryd.prog.eqGuardType Tryd.prog.depth 101 = false := by kernel_rfl
theorem guard_q : Tryd.prog.eqGuardType Tryd.prog.depth 35 = false := by kernel_rfl
theorem neq_ac (w : World) (x y : Ac) : (binOp .neq 101 (.agg #[.int .i32 x.perms, .string x.scheme, .string x.id]) (.agg #[.int .i32 y.perms, .string y.scheme, .string y.id])).run Tryd.prog w = .ok (.bool (!eqAc x y)) w := by
  rw [run_neq_struct]
  have := eq_ac w 9997 x y
  unfold acV at this
  rw [this]
  rfl
theorem eql_ac (w : World) (x y : Ac) : (binOp .eql 101 (.agg #[.int .i32 x.perms, .string x.scheme, .string x.id]) (.agg #[.int .i32 y.perms, .string y.scheme, .string y.id])).run Tryd.prog w = .ok (.bool (eqAc x y)) w := by
  rw [run_eql_struct]
  have := eq_ac w 9997 x y
  unfold acV at this
  rw [this]
  rfl

def eqQ (h : Bool) (a b : Int) (h' : Bool) (a' b' : Int) : Bool := h == h' && (a == a' && b == b')
theorem eq_q (w : World) (d : Nat) (h : Bool) (a b : Int) (h' : Bool) (a' b' : Int) : (Op.equalIn (d + 2) 35 (.agg #[.bool h, .int .i64 a, .int .i64 b]) (.agg #[.bool h', .int .i64 a', .int .i64 b'])).run Tryd.prog w = .ok (eqQ h a b h' a' b') w := by
  rw [eq_agg w (d + 1) _ _ _ _ Tryd.underlying35 (by kernel_rfl)]
  simp [Op.eqFields, part, go_sem]
  unfold eqQ
  repeat' split
  all_goals simp_all
theorem neq_q (w : World) (h : Bool) (a b : Int) (h' : Bool) (a' b' : Int) : (binOp .neq 35 (.agg #[.bool h, .int .i64 a, .int .i64 b]) (.agg #[.bool h', .int .i64 a', .int .i64 b'])).run Tryd.prog w = .ok (.bool (!eqQ h a b h' a' b')) w := by
  rw [run_neq_struct, eq_q w 9998]; rfl
theorem eql_q (w : World) (h : Bool) (a b : Int) (h' : Bool) (a' b' : Int) : (binOp .eql 35 (.agg #[.bool h, .int .i64 a, .int .i64 b]) (.agg #[.bool h', .int .i64 a', .int .i64 b'])).run Tryd.prog w = .ok (.bool (eqQ h a b h' a' b')) w := by
  rw [run_eql_struct, eq_q w 9998]; rfl
end Go.Proofs.YtfgjbcejpjcpeaaDoor

/- Laws at the operations on maps, for the walk; small operations in a region that draws its order. -/
import Derived.Test.YtfgjbcejpjcpeaaDoorTr
import Derived.Test.YtfgjbcejpjcpeaaDoorReg2
namespace Go.Proofs.YtfgjbcejpjcpeaaDoor
open Go.RowKit

section
variable {P : Program}
theorem oper_put {w : World} {o : Oper} {a : Act} {K : Act → World → Prop} {Q : Exit → Act → World → Prop} (m x v : Operand) (t : TypeId) (hop : o.op = Op.mapUpdate t m x v)
    (kt e : TypeId) (hk : P.underlying kt = some .string) (ht : P.underlying t = some (.map kt e)) (b : Nat) (mm : List (Key × Value)) (h : SMap P kt w b mm) (hn : mm.length < maxLen)
    (hm : a.eval m = .map (some b)) (s : ByteArray) (hs : s.size ≤ maxLen) (hx : a.eval x = .string s) (val : Value) (hv : a.eval v = val)
    (hK : ∀ w', SMap P kt w' b (mput mm s.data.toList val) → w.mapTurned w' b → K (a.put o.dst undef) w') : o.wp P a w K Q := by
  obtain ⟨w', hrun, r1, r2⟩ := h.store hk ht hn hs val
  unfold Oper.wp
  simp [execOp, hop, hm, hx, hv, hrun, Result.andThen]
  exact hK w' r1 r2

theorem wpList_put (w : World) {ops : Array Oper} {rest : List Oper} {o : Oper} {a : Act} {Q : Exit → Act → World → Prop} (hg : o.guard = none) (m x v : Operand) (t : TypeId) (hop : o.op = Op.mapUpdate t m x v)
    (kt e : TypeId) (hk : P.underlying kt = some .string) (ht : P.underlying t = some (.map kt e)) (b : Nat) (mm : List (Key × Value)) (h : SMap P kt w b mm) (hn : mm.length < maxLen)
    (hm : a.eval m = .map (some b)) (s : ByteArray) (hs : s.size ≤ maxLen) (hx : a.eval x = .string s) (val : Value) (hv : a.eval v = val)
    (hK : ∀ w', SMap P kt w' b (mput mm s.data.toList val) → w.mapTurned w' b → wpList P ops Q rest (a.put o.dst undef) w') : wpList P ops Q (o :: rest) a w :=
  wpList_plain hg fun K hK' => oper_put m x v t hop kt e hk ht b mm h hn hm s hs hx val hv fun w' h1 h2 => hK' _ _ (hK w' h1 h2)

theorem wpList_del (w : World) {ops : Array Oper} {rest : List Oper} {o : Oper} {a : Act} {Q : Exit → Act → World → Prop} (hg : o.guard = none) (m x : Operand) (t kt e : TypeId)
    (hop : o.op = .call { callee := .builtin .delete, args := #[m, x], argTypes := #[t, kt] }) (hk : P.underlying kt = some .string) (ht : P.underlying t = some (.map kt e)) (b : Nat) (mm : List (Key × Value)) (h : SMap P kt w b mm)
    (hm : a.eval m = .map (some b)) (s : ByteArray) (hs : s.size ≤ maxLen) (hx : a.eval x = .string s)
    (hK : ∀ w', SMap P kt w' b (mdel mm s.data.toList) → w.mapTurned w' b → wpList P ops Q rest (a.put o.dst (.tuple #[])) w') : wpList P ops Q (o :: rest) a w :=
  wpList_plain hg fun K hK' => by
    obtain ⟨w', hrun, r1, r2⟩ := h.drop hk ht hs o.type
    unfold Oper.wp execOp
    simp only [hop, resolve, invoke, builtin, Sem.run_bind, Sem.run_pure, Result.andThen_ok, List.map_toArray, List.map_cons, List.map_nil, hm, hx, hrun]
    exact hK' _ _ (hK w' r1 r2)
end

variable {P : Program} {w : World} {a : Act} {o : Oper}
theorem ex_nilCheck {x : Operand} (ho : o.op = .nilCheck x) (p : Addr) (hx : a.eval x = .pointer (some p)) : (execOp a.eval o).run P w = .ok (.value (.pointer (some p))) w := by
  unfold execOp; simp only [ho, hx]; simp [go_sem]
def oneD : TypeDesc → Bool
  | .struct _ => false
  | .array _ _ => false
  | _ => true
theorem ex_cell {ty : TypeId} {x : Operand} (ho : o.op = .load ty x) (p : Addr) (v : Value) (hx : a.eval x = .pointer (some p)) (hc : w.cell? p = some v) {d : TypeDesc} (hd : oneD d = true) (hu : P.underlying ty = some d) :
    (execOp a.eval o).run P w = .ok (.value v) w := by
  unfold execOp
  simp only [ho, hx, Instr.loadAt, Instr.sureAddr, loadVar, isAgg, Sem.run_bind, Sem.run_pure, Result.andThen_ok, run_underlying hu]
  cases d <;> first | (simp [oneD] at hd; done) | simp [load, hc, Sem.run, Result.andThen]
end Go.Proofs.YtfgjbcejpjcpeaaDoor

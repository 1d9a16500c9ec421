/- The seat's types and functions, for the VC generator. -/
import Derived.Test.YtljahbpkhienkaaChecked
import Derived.Test.YtljahbpkhienkaaPvKm
namespace Go.Pv
open Go.Vc
open Go.Proofs

def T : Tab := [
  (2, ⟨1, 8, [.int .i64 0], .int .i64⟩),
  (3, ⟨1, 8, [.int .i64 0], .int .i64⟩),
  (4, ⟨1, 1, [.bool false], .bool⟩),
  (5, ⟨1, 1, [.int .u8 0], .int .u8⟩),
  (12, ⟨1, 8, [.int .u64 0], .int .u64⟩),
  (21, ⟨1, 4, [.int .i32 0], .int .i32⟩),
  (22, ⟨3, 24, [.int .i64 0, .int .i64 0, .int .i64 0], .struct [(0, 2, 1), (1, 2, 1), (2, 2, 1)] true⟩),
  (23, ⟨3, 24, [.int .i64 0, .int .i64 0, .int .i64 0], .struct [(0, 2, 1), (1, 2, 1), (2, 2, 1)] true⟩),
  (24, ⟨12, 96, List.replicate 12 (.int .i64 0), .arr 4 23 3 true⟩),
  (25, ⟨12, 96, List.replicate 12 (.int .i64 0), .arr 4 23 3 true⟩),
  (26, ⟨1, 8, [.int .i64 0], .int .i64⟩),
  (38, ⟨1, 24, [.slice none 0 0], .slice 25⟩),
  (39, ⟨1, 24, [.slice none 0 0], .slice 57⟩),
  (56, ⟨15, 120, List.replicate 15 (.int .i64 0), .struct [(0, 3, 1), (1, 3, 1), (2, 25, 12), (14, 3, 1)] true⟩),
  (57, ⟨15, 120, List.replicate 15 (.int .i64 0), .struct [(0, 3, 1), (1, 3, 1), (2, 25, 12), (14, 3, 1)] true⟩),
  (60, ⟨1, 24, [.slice none 0 0], .slice 3⟩),
  (79, ⟨4, 32, [.int .i64 0, .int .i64 0, .int .i64 0, .int .i64 0], .arr 4 3 1 true⟩),
  (80, ⟨48, 384, List.replicate 48 (.int .i64 0), .arr 4 25 12 true⟩),
  (81, ⟨2, 16, [.int .i64 0, .int .i64 0], .arr 2 3 1 true⟩),
  (82, ⟨8, 64, List.replicate 8 (.int .i64 0), .arr 4 81 2 true⟩),
  (92, ⟨3, 24, [.int .i64 0, .int .i64 0, .int .i64 0], .arr 3 2 1 true⟩),
  (93, ⟨1, 8, [.map none], .other⟩),
  (94, ⟨2, 16, [.int .i64 0, .int .i64 0], .struct [(0, 3, 1), (1, 3, 1)] true⟩),
  (95, ⟨2, 16, [.int .i64 0, .int .i64 0], .struct [(0, 3, 1), (1, 3, 1)] true⟩),
  (103, ⟨1, 4, [.int .u32 0], .int .u32⟩)]

theorem tabB_T : tabB Try.prog T = true := by kernel_rfl
theorem tabZ_T : tabZ Try.prog T = tabZ' T := by kernel_rfl
theorem tabOk : TabOk Try.prog T := tabOk_of tabB_T tabZ_T
theorem mixed : Try.prog.follows .mixedOrders = true := by kernel_rfl

def fnB (P : Program) (f : Nat) : Bool := match P.funcs[f]? with
  | some fn => fn.body.isSome && fn.name != "runtime.NumGoroutine"
  | none => false

theorem fnOk_of {P : Program} {f : Nat} (h : fnB P f = true) : FnOk P f := by
  unfold fnB at h
  cases hf : P.funcs[f]? with
  | none => simp [hf] at h
  | some fn => simp [hf] at h; exact ⟨fn, hf, h.1, h.2⟩

theorem fnsB : ((List.range (68 - 3)).all fun i => fnB Try.prog (i + 3)) = true := by kernel_rfl
theorem fnsOk : ∀ f : FuncId, 2 < f → f < 68 → FnOk Try.prog f := fun (f : Nat) (h : 2 < f) (h' : f < 68) => by
  have := List.all_eq_true.mp fnsB (f - 3) (List.mem_range.mpr (by omega))
  rw [show f - 3 + 3 = f from by omega] at this
  exact fnOk_of this

theorem ret {f : FuncId} {fn : Func} (hf : Try.prog.funcs[f]? = some fn) (hd : (match fn.body with | some c => drawsB c | none => false) = true) {args : List PV} (hn : Nat.ble (len args) fn.ntmps = true) {obsR : Obs} {r : SV}
    (h : vcFun Try.prog 68 T fn args obsR r) : Ret Try.prog f args obsR r := ret_of_vc mixed tabOk fnsOk hf hd (by rw [len_eq, Nat.ble_eq] at hn; exact hn) h
end Go.Pv

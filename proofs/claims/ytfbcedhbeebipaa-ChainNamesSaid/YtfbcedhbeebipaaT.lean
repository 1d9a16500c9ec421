/- The seat's types and functions, for the VC generator. -/
import Derived.Test.YtfbcedhbeebipaaChecked
import Derived.Test.YtfbcedhbeebipaaPvIm
namespace Go.Pv
open Go.Vc
open Go.Proofs

def T : Tab := [
  (2, ⟨1, 8, [.int .i64 0], .int .i64⟩),
  (3, ⟨1, 8, [.int .i64 0], .int .i64⟩),
  (4, ⟨1, 1, [.bool false], .bool⟩),
  (5, ⟨1, 1, [.int .u8 0], .int .u8⟩),
  (12, ⟨1, 8, [.int .u64 0], .int .u64⟩),
  (21, ⟨1, 4, [.int .i32 0], .int .i32⟩),
  (22, ⟨3, 24, [.int .i64 0, .int .i64 0, .int .i64 0], .struct [(0, 2, 1), (1, 2, 1), (2, 2, 1)] true⟩),
  (23, ⟨3, 24, [.int .i64 0, .int .i64 0, .int .i64 0], .struct [(0, 2, 1), (1, 2, 1), (2, 2, 1)] true⟩),
  (25, ⟨12, 96, List.replicate 12 (.int .i64 0), .arr 4 23 3 true⟩),
  (26, ⟨12, 96, List.replicate 12 (.int .i64 0), .arr 4 23 3 true⟩),
  (28, ⟨1, 24, [.slice none 0 0], .slice 23⟩),
  (29, ⟨1, 24, [.slice none 0 0], .slice 28⟩),
  (30, ⟨1, 24, [.slice none 0 0], .slice 26⟩),
  (31, ⟨1, 24, [.slice none 0 0], .slice 3⟩),
  (32, ⟨1, 24, [.slice none 0 0], .slice 30⟩),
  (33, ⟨6, 128, [.int .u8 0, .slice none 0 0, .slice none 0 0, .slice none 0 0, .slice none 0 0, .slice none 0 0], .struct [(0, 5, 1), (1, 28, 1), (2, 29, 1), (3, 30, 1), (4, 31, 1), (5, 32, 1)] false⟩),
  (34, ⟨6, 128, [.int .u8 0, .slice none 0 0, .slice none 0 0, .slice none 0 0, .slice none 0 0, .slice none 0 0], .struct [(0, 5, 1), (1, 28, 1), (2, 29, 1), (3, 30, 1), (4, 31, 1), (5, 32, 1)] false⟩),
  (35, ⟨1, 24, [.slice none 0 0], .slice 34⟩),
  (36, ⟨1, 8, [.int .i64 0], .int .i64⟩),
  (45, ⟨1, 24, [.slice none 0 0], .slice 49⟩),
  (48, ⟨3, 40, [.int .i64 0, .int .i64 0, .slice none 0 0], .struct [(0, 3, 1), (1, 3, 1), (2, 30, 1)] false⟩),
  (49, ⟨3, 40, [.int .i64 0, .int .i64 0, .slice none 0 0], .struct [(0, 3, 1), (1, 3, 1), (2, 30, 1)] false⟩),
  (72, ⟨1, 8, [.nilFunc], .other⟩),
  (76, ⟨1, 8, [.nilFunc], .other⟩),
  (80, ⟨1, 8, [.nilFunc], .other⟩),
  (81, ⟨1, 8, [.nilFunc], .other⟩),
  (82, ⟨5, 40, [.int .u8 0, .nilFunc, .nilFunc, .nilFunc, .nilFunc], .struct [(0, 5, 1), (1, 80, 1), (2, 72, 1), (3, 76, 1), (4, 81, 1)] false⟩),
  (83, ⟨5, 40, [.int .u8 0, .nilFunc, .nilFunc, .nilFunc, .nilFunc], .struct [(0, 5, 1), (1, 80, 1), (2, 72, 1), (3, 76, 1), (4, 81, 1)] false⟩),
  (100, ⟨5, 40, [.int .i64 0, .int .i64 0, .int .i64 0, .int .i64 0, .int .i64 0], .arr 5 3 1 true⟩),
  (104, ⟨25, 200, [.int .u8 0, .nilFunc, .nilFunc, .nilFunc, .nilFunc, .int .u8 0, .nilFunc, .nilFunc, .nilFunc, .nilFunc, .int .u8 0, .nilFunc, .nilFunc, .nilFunc, .nilFunc, .int .u8 0, .nilFunc, .nilFunc, .nilFunc, .nilFunc, .int .u8 0, .nilFunc, .nilFunc, .nilFunc, .nilFunc], .arr 5 83 5 false⟩),
  (133, ⟨3, 24, [.int .i64 0, .int .i64 0, .int .i64 0], .arr 3 2 1 true⟩),
  (141, ⟨1, 4, [.int .u32 0], .int .u32⟩)]

theorem tabB_T : tabB Try.prog T = true := by kernel_rfl
theorem tabZ_T : tabZ Try.prog T = tabZ' T := by kernel_rfl
theorem tabOk : TabOk Try.prog T := tabOk_of tabB_T tabZ_T
theorem mixed : Try.prog.follows .mixedOrders = true := by kernel_rfl

def fnB (P : Program) (f : Nat) : Bool := match P.funcs[f]? with
  | some fn => fn.body.isSome && fn.name != "runtime.NumGoroutine"
  | none => false

theorem fnOk_of {P : Program} {f : Nat} (h : fnB P f = true) : FnOk P f := by
  unfold fnB at h
  cases hf : P.funcs[f]? with
  | none => simp [hf] at h
  | some fn => simp [hf] at h; exact ⟨fn, hf, h.1, h.2⟩

theorem fnsB : ((List.range (115 - 3)).all fun i => fnB Try.prog (i + 3)) = true := by kernel_rfl
theorem fnsOk : ∀ f : FuncId, 2 < f → f < 115 → FnOk Try.prog f := fun (f : Nat) (h : 2 < f) (h' : f < 115) => by
  have := List.all_eq_true.mp fnsB (f - 3) (List.mem_range.mpr (by omega))
  rw [show f - 3 + 3 = f from by omega] at this
  exact fnOk_of this

theorem ret {f : FuncId} {fn : Func} (hf : Try.prog.funcs[f]? = some fn) (hd : (match fn.body with | some c => drawsB c | none => false) = true) {args : List PV} (hn : Nat.ble (len args) fn.ntmps = true) {obsR : Obs} {r : SV}
    (h : vcFun Try.prog 115 T fn args obsR r) : Ret Try.prog f args obsR r := ret_of_vc mixed tabOk fnsOk hf hd (by rw [len_eq, Nat.ble_eq] at hn; exact hn) h
end Go.Pv

/- The seat's types and functions, for the VC generator. -/
import Derived.Test.YtilmadidjihfkaaChecked
import Derived.Test.YtilmadidjihfkaaPvKm
namespace Go.Pv
open Go.Vc
open Go.Proofs

def T : Tab := [
  (2, ⟨1, 8, [.int .i64 0], .int .i64⟩),
  (3, ⟨1, 8, [.int .i64 0], .int .i64⟩),
  (4, ⟨1, 1, [.bool false], .bool⟩),
  (5, ⟨1, 1, [.int .u8 0], .int .u8⟩),
  (12, ⟨1, 8, [.int .u64 0], .int .u64⟩),
  (21, ⟨1, 4, [.int .i32 0], .int .i32⟩),
  (22, ⟨3, 24, [.int .i64 0, .int .i64 0, .int .i64 0], .struct [(0, 2, 1), (1, 2, 1), (2, 2, 1)] true⟩),
  (23, ⟨3, 24, [.int .i64 0, .int .i64 0, .int .i64 0], .struct [(0, 2, 1), (1, 2, 1), (2, 2, 1)] true⟩),
  (24, ⟨8, 64, [.int .u8 0, .int .i64 0, .int .i64 0, .int .i64 0, .int .i64 0, .int .i64 0, .int .i64 0, .int .i64 0], .struct [(0, 5, 1), (1, 3, 1), (2, 3, 1), (3, 3, 1), (4, 23, 3), (7, 3, 1)] false⟩),
  (25, ⟨8, 64, [.int .u8 0, .int .i64 0, .int .i64 0, .int .i64 0, .int .i64 0, .int .i64 0, .int .i64 0, .int .i64 0], .struct [(0, 5, 1), (1, 3, 1), (2, 3, 1), (3, 3, 1), (4, 23, 3), (7, 3, 1)] false⟩),
  (28, ⟨1, 24, [.slice none 0 0], .slice 23⟩),
  (29, ⟨1, 8, [.int .i64 0], .int .i64⟩),
  (32, ⟨1, 24, [.slice none 0 0], .slice 25⟩),
  (37, ⟨1, 24, [.slice none 0 0], .slice 48⟩),
  (48, ⟨1, 24, [.slice none 0 0], .slice 50⟩),
  (49, ⟨6, 48, [.int .i64 0, .int .i64 0, .int .i64 0, .int .i64 0, .int .i64 0, .int .i64 0], .struct [(0, 3, 1), (1, 3, 1), (2, 23, 3), (5, 3, 1)] true⟩),
  (50, ⟨6, 48, [.int .i64 0, .int .i64 0, .int .i64 0, .int .i64 0, .int .i64 0, .int .i64 0], .struct [(0, 3, 1), (1, 3, 1), (2, 23, 3), (5, 3, 1)] true⟩),
  (51, ⟨1, 24, [.slice none 0 0], .slice 54⟩),
  (54, ⟨3, 24, [.int .i64 0, .int .i64 0, .int .i64 0], .arr 3 3 1 true⟩),
  (56, ⟨1, 24, [.slice none 0 0], .slice 3⟩),
  (80, ⟨8, 8, List.replicate 8 (.bool false), .arr 8 4 1 false⟩),
  (81, ⟨64, 64, List.replicate 64 (.bool false), .arr 8 80 8 false⟩),
  (87, ⟨1, 24, [.slice none 0 0], .slice 28⟩),
  (95, ⟨2, 16, [.int .i64 0, .int .i64 0], .struct [(0, 2, 1), (1, 2, 1)] true⟩),
  (96, ⟨2, 16, [.int .i64 0, .int .i64 0], .struct [(0, 2, 1), (1, 2, 1)] true⟩),
  (113, ⟨4, 32, [.int .i64 0, .int .i64 0, .int .i64 0, .int .i64 0], .arr 4 3 1 true⟩),
  (120, ⟨3, 24, [.int .i64 0, .int .i64 0, .int .i64 0], .arr 3 2 1 true⟩),
  (122, ⟨1, 24, [.slice none 0 0], .slice 123⟩),
  (123, ⟨2, 16, [.int .i64 0, .int .i64 0], .arr 2 3 1 true⟩),
  (140, ⟨1, 4, [.int .u32 0], .int .u32⟩)]

theorem tabB_T : tabB Try.prog T = true := by kernel_rfl
theorem tabZ_T : tabZ Try.prog T = tabZ' T := by kernel_rfl
theorem tabOk : TabOk Try.prog T := tabOk_of tabB_T tabZ_T
theorem mixed : Try.prog.follows .mixedOrders = true := by kernel_rfl

def fnB (P : Program) (f : Nat) : Bool := match P.funcs[f]? with
  | some fn => fn.body.isSome && fn.name != "runtime.NumGoroutine"
  | none => false

theorem fnOk_of {P : Program} {f : Nat} (h : fnB P f = true) : FnOk P f := by
  unfold fnB at h
  cases hf : P.funcs[f]? with
  | none => simp [hf] at h
  | some fn => simp [hf] at h; exact ⟨fn, hf, h.1, h.2⟩

theorem fnsB : ((List.range (97 - 3)).all fun i => fnB Try.prog (i + 3)) = true := by kernel_rfl
theorem fnsOk : ∀ f : FuncId, 2 < f → f < 97 → FnOk Try.prog f := fun (f : Nat) (h : 2 < f) (h' : f < 97) => by
  have := List.all_eq_true.mp fnsB (f - 3) (List.mem_range.mpr (by omega))
  rw [show f - 3 + 3 = f from by omega] at this
  exact fnOk_of this

theorem ret {f : FuncId} {fn : Func} (hf : Try.prog.funcs[f]? = some fn) (hd : (match fn.body with | some c => drawsB c | none => false) = true) {args : List PV} (hn : Nat.ble (len args) fn.ntmps = true) {obsR : Obs} {r : SV}
    (h : vcFun Try.prog 97 T fn args obsR r) : Ret Try.prog f args obsR r := ret_of_vc mixed tabOk fnsOk hf hd (by rw [len_eq, Nat.ble_eq] at hn; exact hn) h
end Go.Pv

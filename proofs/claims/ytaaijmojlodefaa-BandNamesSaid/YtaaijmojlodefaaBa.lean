/- Contracts of bandpasses: going over all elements, Check. -/
import Derived.Test.YtaaijmojlodefaaGc
import Derived.Test.YtaaijmojlodefaaPlCxm
import Derived.Test.YtaaijmojlodefaaPvRm
namespace Go.Pv
open Go.Vc
open Go.Proofs
set_option maxRecDepth 10000

theorem itr {f : FuncId} {fn : Func} (hf : Try.prog.funcs[f]? = some fn) (hr : fn.results.toList = []) {b : List PV} (hn : Nat.blt (len b) fn.ntmps = true) {xs : List (List PV)} (h : ∀ l, vcIter Try.prog 87 T l fn b xs) : Iter Try.prog f b xs :=
  iter_of_vc tabOk fnsOk hf hr (by rw [len_eq, Nat.blt_eq] at hn; exact hn) h

theorem retR {f : FuncId} {fn : Func} (hf : Try.prog.funcs[f]? = some fn) (hd : (match fn.body with | some c => spB c | none => false) = true) {args : List PV} (hn : Nat.ble (len args) fn.ntmps = true) {obsR : Obs} {r : SV}
    (h : vcFunR Try.prog 87 T fn args obsR r) : Ret Try.prog f args obsR r := ret_of_range mixed tabOk fnsOk hf hd (by rw [len_eq, Nat.ble_eq] at hn; exact hn) h

theorem b_iter (b : List (List Cx)) (h1 : b.length ≤ 100) (h2 : ∀ r ∈ b, r.length ≤ 100) : Iter Try.prog 80 [.fp true [sl b]] (b.flatten.map fun c => [cx c]) := by
  refine itr (fn := Try.f80) (by kernel_rfl) (by kernel_rfl) rfl ?_
  intro l
  refine ⟨Nat, fun k => k ≤ b.length, fun k => cnt32 b k, fun k => [(9, .p (i64 k)), (8, .p (i64 b.length)), (7, .p (sl b)), (0, .p (.fn (.yield l) [] []))], fun k => b.length - k, 0, ⟨rfl, Nat.zero_le _, (by repeat' first | exact trivial | rfl | apply And.intro)⟩, ?_⟩
  intro k hk
  refine ⟨fun h3 => ?_, fun h3 => ?_⟩
  · simp at h3
    refine ⟨k, rfl, h3, by decide, _, idx h3, rfl, ?_⟩
    have hr := h2 _ (List.getElem_mem h3)
    refine ⟨Nat, fun j => j ≤ b[k].length, fun j => cnt32 b k + j, fun j => [(15, .p (i64 j)), (14, .p (i64 b[k].length)), (13, .p (sl b[k])), (9, .p (i64 k)), (8, .p (i64 b.length)), (7, .p (sl b)), (0, .p (.fn (.yield l) [] []))], fun j => b[k].length - j, 0, ⟨rfl, Nat.zero_le _, (by repeat' first | exact trivial | rfl | apply And.intro)⟩, ?_⟩
    intro j hj
    refine ⟨fun h4 => ?_, fun h4 => ?_⟩
    · simp at h4
      refine ⟨j, rfl, h4, by decide, _, idx h4, rfl, ?_⟩
      refine ⟨rfl, ?_, ?_, ?_⟩
      · rw [List.getElem?_map, cnt32_get h3 h4]; rfl
      · refine ⟨j + 1, by show _ < _; simp; omega, rfl, h4, ⟨?_, (by repeat' first | exact trivial | rfl | apply And.intro)⟩⟩
        show SV.p (PV.v (.int _ _)) = _
        rw [succ_w (by omega)]
      · trivial
    · simp at h4
      have : j = b[k].length := by omega
      subst this
      refine ⟨k + 1, by show _ < _; simp; omega, ?_, h3, ⟨?_, (by repeat' first | exact trivial | rfl | apply And.intro)⟩⟩
      · show some _ = some (cnt32 b (k + 1))
        rw [cnt32_succ h3]
      · show SV.p (PV.v (.int _ _)) = _
        rw [succ_w (by omega)]
  · simp at h3
    have : k = b.length := by omega
    subst this
    show cnt32 b b.length = _
    rw [cnt32_all, List.length_map]


theorem b_all (b : List (List Cx)) : Ret Try.prog 58 [sl b] [] (.p (.fn (.func 80) [] [.fp true [sl b]])) := by
  refine ret (fn := Try.f58) (by kernel_rfl) (by kernel_rfl) rfl ?_
  rfl

theorem b_check (b : List (List Cx)) (hb : ∀ r ∈ b, ∀ c ∈ r, Enc.ok c) : Ret Try.prog 26 [sl b] [] (.p (i64 (ck32 b))) := by
  refine retR (fn := Try.f26) (by kernel_rfl) (by kernel_rfl) rfl ?_
  refine ⟨fun h1 => ?_, fun h1 => ?_⟩
  · simp at h1
    rw [ck32, if_pos (by omega)]; rfl
  simp at h1
  have hlen : b.length ≤ 8 := by omega
  refine ⟨Nat, { inv := fun k => k ≤ b.length ∧ (∀ l ∈ b.take k, l.length ≤ 16), slots := [(13, fun k => i64 k)],  mu := fun k => b.length - k }, 0, ⟨⟨rfl, trivial⟩, trivial, (by repeat' first | exact trivial | rfl | apply And.intro), Nat.zero_le _, by simp⟩, ?_⟩
  intro k ⟨hk, hall⟩
  refine ⟨fun h2 => ?_, fun h2 => ?_⟩
  · simp at h2
    refine ⟨k, rfl, h2, by decide, _, idx h2, rfl, ?_⟩
    refine ⟨fun h3 => ?_, fun h3 => ?_⟩
    · simp at h3
      rw [ck32, if_neg (by omega), if_pos ⟨_, List.getElem_mem h2, by omega⟩]; rfl
    · simp at h3
      refine ⟨k + 1, by show _ < _; simp; omega, ⟨rfl, rfl⟩, ⟨by show PV.v (.int _ _) = _; rw [succ_w (by omega)], trivial⟩, trivial, (by repeat' first | exact trivial | rfl | apply And.intro), h2, ?_⟩
      intro l hl
      rw [List.take_succ_eq_append_getElem h2, List.mem_append] at hl
      rcases hl with hl | hl
      · exact hall l hl
      · simp at hl; subst hl; omega
  simp at h2
  have : k = b.length := by omega
  subst this
  rw [List.take_length] at hall
  have n2 : ¬ ∃ r ∈ b, 16 < r.length := by rintro ⟨r, hr, h⟩; have := hall r hr; omega
  refine ⟨fun h4 => ?_, fun h4 => ?_⟩
  rotate_left
  · simp at h4
    rw [ck32, if_neg (by omega), if_neg n2, if_pos (.inl (by simp [h4]))]; rfl
  simp at h4
  have h0 : 0 < b.length := by cases b with | nil => exact absurd rfl h4 | cons a r => simp
  have e0 := row0_get h0
  refine ⟨0, rfl, h0, by decide, _, idx h0, rfl, ?_⟩
  refine ⟨fun h5 => ?_, fun h5 => ?_⟩
  · simp at h5
    rw [ck32, if_neg (by omega), if_neg n2, if_pos (.inr (by rw [e0]; simp [h5]))]; rfl
  simp at h5
  have n3 : ¬ (b.length = 0 ∨ (row0 b).length = 0) := by
    rintro (h | h)
    · omega
    · rw [e0] at h; exact h5 (List.eq_nil_of_length_eq_zero h)
  refine ⟨Nat, { inv := fun k => k ≤ b.length ∧ (∀ l ∈ b.take k, l.length = (row0 b).length), slots := [(33, fun k => i64 k)],  mu := fun k => b.length - k }, 0, ⟨⟨rfl, trivial⟩, trivial, (by repeat' first | exact trivial | rfl | apply And.intro), Nat.zero_le _, by simp⟩, ?_⟩
  intro k ⟨hk, hall2⟩
  refine ⟨fun h6 => ?_, fun h6 => ?_⟩
  · simp at h6
    refine ⟨k, rfl, h6, by decide, _, idx h6, rfl, ?_⟩
    refine ⟨0, rfl, h0, by decide, _, idx h0, rfl, ?_⟩
    refine ⟨fun h7 => ?_, fun h7 => ?_⟩
    · simp at h7
      rw [ck32, if_neg (by omega), if_neg n2, if_neg n3, if_pos ⟨_, List.getElem_mem h6, by rw [e0]; omega⟩]; rfl
    · simp at h7
      refine ⟨k + 1, by show _ < _; simp; omega, ⟨rfl, rfl⟩, ⟨by show PV.v (.int _ _) = _; rw [succ_w (by omega)], trivial⟩, trivial, (by repeat' first | exact trivial | rfl | apply And.intro), h6, ?_⟩
      intro l hl
      rw [List.take_succ_eq_append_getElem h6, List.mem_append] at hl
      rcases hl with hl | hl
      · exact hall2 l hl
      · simp at hl; subst hl; rw [e0]; omega
  simp at h6
  have : k = b.length := by omega
  subst this
  rw [List.take_length] at hall2
  have n4 : ¬ ∃ r ∈ b, r.length ≠ (row0 b).length := by rintro ⟨r, hr, h⟩; exact h (hall2 r hr)
  refine ⟨[], _, b_all b, rfl, ?_⟩
  refine ⟨_, b_iter b (by omega) (fun r hr => by have := hall r hr; omega), { inv := fun i => ∀ c ∈ b.flatten.take i, okG c, slots := [], mu := fun _ => 0 }, ⟨trivial, trivial, (by repeat' first | exact trivial | rfl | apply And.intro), by simp⟩, ?_, ?_⟩
  · intro i pv hx hin
    rw [List.getElem?_map, Option.map_eq_some_iff] at hx
    obtain ⟨c, hc, rfl⟩ := hx
    have hcm : c ∈ b.flatten := List.mem_of_getElem? hc
    obtain ⟨r, hr, hcr⟩ := List.mem_flatten.1 hcm
    have hok := hb r hr c hcr
    refine ⟨rfl, ?_⟩
    refine ⟨[], _, c_check c hok, rfl, ?_⟩
    have bad : ¬ okG c → ck32 b = 8 := fun h => by rw [ck32, if_neg (by omega), if_neg n2, if_neg n3, if_neg n4, if_neg (fun q => h (q r hr c hcr))]
    have good : okG c → ∀ d ∈ b.flatten.take (i + 1), okG d := fun h d hd => by
      obtain ⟨hi, rfl⟩ := List.getElem?_eq_some_iff.1 hc
      rw [List.take_succ_eq_append_getElem hi, List.mem_append] at hd
      rcases hd with hd | hd
      · exact hin d hd
      · simp at hd; subst hd; exact h
    refine ⟨fun h8 => ?_, fun h8 => ?_⟩
    rotate_left
    · rw [chk_ne] at h8
      show SV.p (i64 8) = SV.p (i64 _)
      rw [bad (fun h => h8 h.1)]
    rw [chk_eq] at h8
    refine ⟨fun h9 => ?_, fun h9 => ?_⟩
    · refine ⟨fun h10 => ?_, fun h10 => ?_⟩
      · show SV.p (i64 8) = SV.p (i64 _)
        rw [bad (fun h => h.2 (zero_br h9 h10))]
      · simp at h10
        exact ⟨trivial, trivial, (by repeat' first | exact trivial | rfl | apply And.intro), good ⟨h8, fun h => h10 h.2⟩⟩
    · simp at h9
      exact ⟨trivial, trivial, (by repeat' first | exact trivial | rfl | apply And.intro), good ⟨h8, fun h => h9 h.1⟩⟩
  · intro hin
    have hin : ∀ c ∈ b.flatten.take (b.flatten.map fun c => [cx c]).length, okG c := hin
    rw [List.length_map, List.take_length] at hin
    refine ⟨rfl, ?_⟩
    rw [ck32, if_neg (by omega), if_neg n2, if_neg n3, if_neg n4, if_pos (fun r hr c hc => hin c (List.mem_flatten.2 ⟨r, hr, hc⟩))]; rfl
end Go.Pv

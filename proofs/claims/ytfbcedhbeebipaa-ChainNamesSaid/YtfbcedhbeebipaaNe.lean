/- Contracts of chains: Invert. -/
import Derived.Test.YtfbcedhbeebipaaNd
import Derived.Test.YtfbcedhbeebipaaPlChainCm
import Derived.Test.YtfbcedhbeebipaaPvRm
namespace Go.Pv
open Go.Vc
open Go.Proofs
set_option maxRecDepth 10000

theorem itr {f : FuncId} {fn : Func} (hf : Try.prog.funcs[f]? = some fn) (hr : fn.results.toList = []) {b : List PV} (hn : Nat.blt (len b) fn.ntmps = true) {xs : List (List PV)} (h : ∀ l, vcIter Try.prog 115 T l fn b xs) : Iter Try.prog f b xs :=
  iter_of_vc tabOk fnsOk hf hr (by rw [len_eq, Nat.blt_eq] at hn; exact hn) h

theorem retR {f : FuncId} {fn : Func} (hf : Try.prog.funcs[f]? = some fn) (hd : (match fn.body with | some c => spB c | none => false) = true) {args : List PV} (hn : Nat.ble (len args) fn.ntmps = true) {obsR : Obs} {r : SV}
    (h : vcFunR Try.prog 115 T fn args obsR r) : Ret Try.prog f args obsR r := ret_of_range mixed tabOk fnsOk hf hd (by rw [len_eq, Nat.ble_eq] at hn; exact hn) h

/-- What goes over a chain from its end. -/
def bwd (l : List Stg) : List (List PV) := (List.range l.length).map fun k => [i64 ((l.length - 1 - k : Nat) : Int), stg (el s0 l (l.length - 1 - k))]

theorem k_iter (l : List Stg) (hn : l.length ≤ 100) : Iter Try.prog 59 [.fp true [sl l]] (bwd l) := by
  refine itr (fn := Try.f59) (by kernel_rfl) (by kernel_rfl) rfl ?_
  intro y
  refine ⟨Nat, fun k => k ≤ l.length, fun k => k, fun k => [(3, .p (i64 ((l.length : Int) - 1 - k))), (1, .p (.fp true [sl l])), (0, .p (.fn (.yield y) [] []))], fun k => l.length - k, 0, ⟨rfl, Nat.zero_le _, ?_⟩, ?_⟩
  · refine ⟨?_, rfl, rfl, trivial⟩
    show SV.p (PV.v (.int _ _)) = _
    rw [wrap_id (by omega) (by omega)]
    show _ = SV.p (i64 ((l.length : Int) - 1 - ((0 : Nat) : Int)))
    congr 3
    omega
  intro k hk
  refine ⟨fun h1 => ?_, fun h1 => ?_⟩
  · have h1 : decide ((l.length : Int) - 1 - k ≥ 0) = true := h1
    rw [decide_eq_true_iff] at h1
    have hi : l.length - 1 - k < l.length := by omega
    have ei : (l.length : Int) - 1 - k = ((l.length - 1 - k : Nat) : Int) := by omega
    refine ⟨l.length - 1 - k, ei, hi, by decide, _, idx hi, rfl, ?_⟩
    refine ⟨rfl, ?_, ?_, ?_⟩
    · have hk2 : k < l.length := by omega
      rw [bwd, List.getElem?_map, List.getElem?_range hk2]
      show some [i64 ((l.length - 1 - k : Nat) : Int), stg (el s0 l (l.length - 1 - k))] = some [i64 ((l.length : Int) - 1 - k), stg l[l.length - 1 - k]]
      rw [el_get hi, ei]
    · refine ⟨k + 1, by show _ < _; simp; omega, rfl, by show k + 1 ≤ l.length; omega, ⟨?_, rfl, rfl, trivial⟩⟩
      show SV.p (PV.v (.int _ (IntKind.i64.wrap ((l.length : Int) - 1 - k - 1)))) = SV.p (i64 ((l.length : Int) - 1 - ((k + 1 : Nat) : Int)))
      rw [wrap_id (by omega) (by omega)]
      congr 3
      omega
    · trivial
  · have h1 : decide ((l.length : Int) - 1 - k ≥ 0) = false := h1
    rw [decide_eq_false_iff_not] at h1
    show k = (bwd l).length
    rw [bwd, List.length_map, List.length_range]
    omega

theorem k_back (l : List Stg) : Ret Try.prog 37 [sl l] [] (.p (.fn (.func 59) [] [.fp true [sl l]])) := by
  refine ret (fn := Try.f37) (by kernel_rfl) (by kernel_rfl) rfl ?_
  rfl

theorem bwd_get {l : List Stg} {i : Nat} {pv : List PV} (h : (bwd l)[i]? = some pv) : ∃ hi : i < l.length, pv = [i64 ((l.length - 1 - i : Nat) : Int), stg l[l.length - 1 - i]] := by
  rw [bwd, List.getElem?_map, Option.map_eq_some_iff] at h
  obtain ⟨k, hk, rfl⟩ := h
  obtain ⟨hi, rfl⟩ := List.getElem?_eq_some_iff.1 hk
  have hi' : i < l.length := by simpa using hi
  refine ⟨hi', ?_⟩
  simp only [List.getElem_range]
  rw [el_get (show l.length - 1 - i < l.length by omega)]

set_option maxHeartbeats 4000000 in
theorem k_invert (l : List Stg) (n m : Int) (hl : ∀ s ∈ l, Enc.ok s) : Ret Try.prog 16 [sl l, i64 n, i64 m] [] (resCh (chinv l n m)) := by
  refine retR (fn := Try.f16) (by kernel_rfl) (by kernel_rfl) rfl ?_
  refine ⟨[], _, k_check l n m hl, rfl, ?_⟩
  refine ⟨fun h1 => ?_, fun h1 => ?_⟩
  · simp at h1
    rw [chinv, if_pos h1]; rfl
  simp at h1
  obtain ⟨k1, k2, k3⟩ := ck34_0 h1
  refine ⟨[], _, k_back l, rfl, ?_⟩
  refine ⟨_, k_iter l (by omega), { inv := fun i => i ≤ l.length ∧ ∀ s ∈ l.reverse.take i, (sinv s).good n m, slots := [], cells := [(4, 0, 34, 6, fun i => i, fun i => flat ((l.reverse.take i).map sinv))], mu := fun _ => 0 }, ⟨trivial, ⟨⟨rfl, rfl⟩, trivial⟩, (by repeat' first | exact trivial | rfl | apply And.intro), Nat.zero_le _, by simp⟩, ?_, ?_⟩
  · intro i pv hx ⟨hi, hall⟩
    obtain ⟨hil, rfl⟩ := bwd_get hx
    have hidx : l.length - 1 - i < l.length := by omega
    have hrev : l.reverse.take (i + 1) = l.reverse.take i ++ [l[l.length - 1 - i]] := by
      rw [List.take_succ_eq_append_getElem (by simpa using hil), List.getElem_reverse]
    have hmem : l[l.length - 1 - i] ∈ l := List.getElem_mem hidx
    revert hrev hmem
    generalize l[l.length - 1 - i] = s
    intro hrev hmem
    have hg := k3 s hmem
    have hes := hl s hmem
    have hk := hg.1
    have hlen : ∀ x ∈ l.reverse.take i, x ∈ l := fun x hx => by simpa using List.mem_of_mem_take hx
    have bad : ¬ (sinv s).good n m → SV.tup [.p (.sl false 0 []), .p (i64 16)] = resCh (chinv l n m) := fun h => by
      rw [chinv, if_neg (by simp [h1]), if_neg fun q => h (q s hmem)]; rfl
    refine ⟨rfl, ?_⟩
    obtain e | e | e | e | e : s.kind = 1 ∨ s.kind = 2 ∨ s.kind = 3 ∨ s.kind = 4 ∨ s.kind = 5 := by omega
    · refine ⟨[], _, (show Ret Try.prog 38 [u8 s.kind] [] (.tup [.p (.agg kd1), .p (bl true)]) by rw [e]; exact k_ofE rfl rfl), rfl, ?_⟩
      refine ⟨fun h => absurd h (by first | decide | simp), fun _ => ?_⟩
      rcases undo_sinv hg with ⟨z, eu⟩ | ⟨z, nb⟩
      · refine ⟨[], _, (show Ret Try.prog 77 [stg s] [] (resSt (sinv s, 0)) by rw [← eu]; exact k_undo1 s hes (by have := (good_own1 hg e).1; omega) e), rfl, ?_⟩
        refine ⟨fun _ => ?_, fun h => absurd h (by first | decide | simp)⟩
        refine ⟨[], _, k_valid (sinv s) n m (sinv_enc hes hg), rfl, ?_⟩
        refine ⟨fun h3 => ?_, fun h3 => ?_⟩
        · simp at h3
          exact bad h3
        · simp at h3
          refine ⟨⟨by show i + 1 ≤ _; omega, by show (i + 1) * 128 ≤ _; omega⟩, ?_⟩
          refine ⟨trivial, ⟨⟨rfl, ?_⟩, trivial⟩, (by repeat' first | exact trivial | rfl | apply And.intro), by omega, fun x hx => ?_⟩
          · show _ ++ _ = flat _
            rw [hrev, List.map_append, List.map_singleton, flat_snoc]; rfl
          · rw [hrev, List.mem_append] at hx
            rcases hx with hx | hx
            · exact hall x hx
            · simp at hx; subst hx; exact h3
      · refine ⟨[], _, k_undo1 s hes (by have := (good_own1 hg e).1; omega) e, rfl, ?_⟩
        refine ⟨fun h => absurd (by simpa using h) z, fun _ => ?_⟩
        exact bad nb
    · refine ⟨[], _, (show Ret Try.prog 38 [u8 s.kind] [] (.tup [.p (.agg kd2), .p (bl true)]) by rw [e]; exact k_ofE rfl rfl), rfl, ?_⟩
      refine ⟨fun h => absurd h (by first | decide | simp), fun _ => ?_⟩
      rcases undo_sinv hg with ⟨z, eu⟩ | ⟨z, nb⟩
      · refine ⟨[], _, (show Ret Try.prog 81 [stg s] [] (resSt (sinv s, 0)) by rw [← eu]; exact k_undo2 s hes (by have := (good_own2 hg e).1; omega) (fun r hr => by have := ((good_own2 hg e).2.2.2.2.2 r hr).1; omega) e), rfl, ?_⟩
        refine ⟨fun _ => ?_, fun h => absurd h (by first | decide | simp)⟩
        refine ⟨[], _, k_valid (sinv s) n m (sinv_enc hes hg), rfl, ?_⟩
        refine ⟨fun h3 => ?_, fun h3 => ?_⟩
        · simp at h3
          exact bad h3
        · simp at h3
          refine ⟨⟨by show i + 1 ≤ _; omega, by show (i + 1) * 128 ≤ _; omega⟩, ?_⟩
          refine ⟨trivial, ⟨⟨rfl, ?_⟩, trivial⟩, (by repeat' first | exact trivial | rfl | apply And.intro), by omega, fun x hx => ?_⟩
          · show _ ++ _ = flat _
            rw [hrev, List.map_append, List.map_singleton, flat_snoc]; rfl
          · rw [hrev, List.mem_append] at hx
            rcases hx with hx | hx
            · exact hall x hx
            · simp at hx; subst hx; exact h3
      · refine ⟨[], _, k_undo2 s hes (by have := (good_own2 hg e).1; omega) (fun r hr => by have := ((good_own2 hg e).2.2.2.2.2 r hr).1; omega) e, rfl, ?_⟩
        refine ⟨fun h => absurd (by simpa using h) z, fun _ => ?_⟩
        exact bad nb
    · refine ⟨[], _, (show Ret Try.prog 38 [u8 s.kind] [] (.tup [.p (.agg kd3), .p (bl true)]) by rw [e]; exact k_ofE rfl rfl), rfl, ?_⟩
      refine ⟨fun h => absurd h (by first | decide | simp), fun _ => ?_⟩
      rcases undo_sinv hg with ⟨z, eu⟩ | ⟨z, nb⟩
      · refine ⟨[], _, (show Ret Try.prog 85 [stg s] [] (resSt (sinv s, 0)) by rw [← eu]; exact k_undo3 s hes (by have := (good_own3 hg e).1; omega) e), rfl, ?_⟩
        refine ⟨fun _ => ?_, fun h => absurd h (by first | decide | simp)⟩
        refine ⟨[], _, k_valid (sinv s) n m (sinv_enc hes hg), rfl, ?_⟩
        refine ⟨fun h3 => ?_, fun h3 => ?_⟩
        · simp at h3
          exact bad h3
        · simp at h3
          refine ⟨⟨by show i + 1 ≤ _; omega, by show (i + 1) * 128 ≤ _; omega⟩, ?_⟩
          refine ⟨trivial, ⟨⟨rfl, ?_⟩, trivial⟩, (by repeat' first | exact trivial | rfl | apply And.intro), by omega, fun x hx => ?_⟩
          · show _ ++ _ = flat _
            rw [hrev, List.map_append, List.map_singleton, flat_snoc]; rfl
          · rw [hrev, List.mem_append] at hx
            rcases hx with hx | hx
            · exact hall x hx
            · simp at hx; subst hx; exact h3
      · refine ⟨[], _, k_undo3 s hes (by have := (good_own3 hg e).1; omega) e, rfl, ?_⟩
        refine ⟨fun h => absurd (by simpa using h) z, fun _ => ?_⟩
        exact bad nb
    · refine ⟨[], _, (show Ret Try.prog 38 [u8 s.kind] [] (.tup [.p (.agg kd4), .p (bl true)]) by rw [e]; exact k_ofE rfl rfl), rfl, ?_⟩
      refine ⟨fun h => absurd h (by first | decide | simp), fun _ => ?_⟩
      rcases undo_sinv hg with ⟨z, eu⟩ | ⟨z, nb⟩
      · refine ⟨[], _, (show Ret Try.prog 89 [stg s] [] (resSt (sinv s, 0)) by rw [← eu]; exact k_undo4 s (by have := (good_own4 hg e).1; omega) (good_own4 hg e).2.2.2.2.2 e), rfl, ?_⟩
        refine ⟨fun _ => ?_, fun h => absurd h (by first | decide | simp)⟩
        refine ⟨[], _, k_valid (sinv s) n m (sinv_enc hes hg), rfl, ?_⟩
        refine ⟨fun h3 => ?_, fun h3 => ?_⟩
        · simp at h3
          exact bad h3
        · simp at h3
          refine ⟨⟨by show i + 1 ≤ _; omega, by show (i + 1) * 128 ≤ _; omega⟩, ?_⟩
          refine ⟨trivial, ⟨⟨rfl, ?_⟩, trivial⟩, (by repeat' first | exact trivial | rfl | apply And.intro), by omega, fun x hx => ?_⟩
          · show _ ++ _ = flat _
            rw [hrev, List.map_append, List.map_singleton, flat_snoc]; rfl
          · rw [hrev, List.mem_append] at hx
            rcases hx with hx | hx
            · exact hall x hx
            · simp at hx; subst hx; exact h3
      · refine ⟨[], _, k_undo4 s (by have := (good_own4 hg e).1; omega) (good_own4 hg e).2.2.2.2.2 e, rfl, ?_⟩
        refine ⟨fun h => absurd (by simpa using h) z, fun _ => ?_⟩
        exact bad nb
    · refine ⟨[], _, (show Ret Try.prog 38 [u8 s.kind] [] (.tup [.p (.agg kd5), .p (bl true)]) by rw [e]; exact k_ofE rfl rfl), rfl, ?_⟩
      refine ⟨fun h => absurd h (by first | decide | simp), fun _ => ?_⟩
      rcases undo_sinv hg with ⟨z, eu⟩ | ⟨z, nb⟩
      · refine ⟨[], _, (show Ret Try.prog 93 [stg s] [] (resSt (sinv s, 0)) by rw [← eu]; exact k_undo5 s hes (by have := (good_own5 hg e).1; omega) (fun r hr => by have := ((good_own5 hg e).2.2.2.2.2 r hr).1; omega) e), rfl, ?_⟩
        refine ⟨fun _ => ?_, fun h => absurd h (by first | decide | simp)⟩
        refine ⟨[], _, k_valid (sinv s) n m (sinv_enc hes hg), rfl, ?_⟩
        refine ⟨fun h3 => ?_, fun h3 => ?_⟩
        · simp at h3
          exact bad h3
        · simp at h3
          refine ⟨⟨by show i + 1 ≤ _; omega, by show (i + 1) * 128 ≤ _; omega⟩, ?_⟩
          refine ⟨trivial, ⟨⟨rfl, ?_⟩, trivial⟩, (by repeat' first | exact trivial | rfl | apply And.intro), by omega, fun x hx => ?_⟩
          · show _ ++ _ = flat _
            rw [hrev, List.map_append, List.map_singleton, flat_snoc]; rfl
          · rw [hrev, List.mem_append] at hx
            rcases hx with hx | hx
            · exact hall x hx
            · simp at hx; subst hx; exact h3
      · refine ⟨[], _, k_undo5 s hes (by have := (good_own5 hg e).1; omega) (fun r hr => by have := ((good_own5 hg e).2.2.2.2.2 r hr).1; omega) e, rfl, ?_⟩
        refine ⟨fun h => absurd (by simpa using h) z, fun _ => ?_⟩
        exact bad nb
  · intro ⟨_, hall⟩
    have hbl : (bwd l).length = l.length := by simp [bwd]
    refine ⟨rfl, ?_⟩
    have hall : ∀ s ∈ l.reverse.take (bwd l).length, (sinv s).good n m := hall
    have tk : l.reverse.take (bwd l).length = l.reverse := by rw [hbl, ← List.length_reverse, List.take_length]
    rw [tk] at hall
    show SV.tup [.p (.sl false (bwd l).length (flat ((l.reverse.take (bwd l).length).map sinv))), .p (i64 0)] = _
    rw [tk, hbl, chinv, if_neg (by simp [h1]), if_pos fun s hs => hall s (by simpa using hs)]
    simp [sl]
end Go.Pv

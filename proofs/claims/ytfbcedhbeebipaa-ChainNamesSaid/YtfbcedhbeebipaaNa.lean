/- Contracts of chains: the table of kinds, and what the stages of a kind have. -/
import Derived.Test.YtfbcedhbeebipaaJb
import Derived.Test.YtfbcedhbeebipaaPlChainCm
namespace Go.Pv
open Go.Vc
open Go.Proofs
set_option maxRecDepth 10000

abbrev fnP (f : Nat) : PV := .fn (.func f) [] []

abbrev kd1 : List PV := [u8 1, fnP 74, fnP 75, fnP 76, fnP 77]
abbrev kd2 : List PV := [u8 2, fnP 78, fnP 79, fnP 80, fnP 81]
abbrev kd3 : List PV := [u8 3, fnP 82, fnP 83, fnP 84, fnP 85]
abbrev kd4 : List PV := [u8 4, fnP 86, fnP 87, fnP 88, fnP 89]
abbrev kd5 : List PV := [u8 5, fnP 90, fnP 91, fnP 92, fnP 93]
abbrev kd0 : List PV := [u8 0, .v .nilFunc, .v .nilFunc, .v .nilFunc, .v .nilFunc]

theorem k_kinds : Ret Try.prog 58 [] [] (.p (.agg (kd1 ++ (kd2 ++ (kd3 ++ (kd4 ++ kd5)))))) := by
  refine ret (fn := Try.f58) (by kernel_rfl) (by kernel_rfl) rfl ?_
  refine ⟨Nat.le_refl _, ?_⟩
  exact ⟨_, rfl, rfl, rfl⟩

def kdc (c : Int) : List PV := if c = 1 then kd1 else if c = 2 then kd2 else if c = 3 then kd3 else if c = 4 then kd4 else if c = 5 then kd5 else kd0

theorem k_of (c : Int) : Ret Try.prog 38 [u8 c] [] (.tup [.p (.agg (kdc c)), .p (bl (decide (1 ≤ c ∧ c ≤ 5)))]) := by
  refine ret (fn := Try.f38) (by kernel_rfl) (by kernel_rfl) rfl ?_
  refine ⟨[], _, k_kinds, rfl, ?_⟩
  refine ⟨Nat, { inv := fun k => k ≤ 5 ∧ ∀ j : Nat, j < k → c ≠ (j + 1 : Nat), slots := [(7, fun k => i64 k)], mu := fun k => 5 - k }, 0, ⟨⟨rfl, trivial⟩, trivial, (by repeat' first | exact trivial | rfl | apply And.intro), Nat.zero_le _, fun j h => absurd h (by omega)⟩, ?_⟩
  intro k ⟨hk, hn⟩
  obtain rfl | rfl | rfl | rfl | rfl | rfl : k = 0 ∨ k = 1 ∨ k = 2 ∨ k = 3 ∨ k = 4 ∨ k = 5 := by omega
  · refine ⟨fun _ => ?_, fun h => absurd h (by first | decide | simp)⟩
    refine ⟨0, rfl, by decide, _, rfl, rfl, ?_⟩
    refine ⟨fun h => ?_, fun h => ?_⟩
    · have h : ((1 : Int) == c) = true := h
      have h : c = 1 := by simp at h; omega
      subst h
      rfl
    · have h : ((1 : Int) == c) = false := h
      have h : c ≠ 1 := by simp at h; omega
      refine ⟨1, by show _ < _; simp, ⟨rfl, rfl⟩, ⟨rfl, trivial⟩, trivial, (by repeat' first | exact trivial | rfl | apply And.intro), by decide, fun j hj => ?_⟩
      rcases Nat.lt_succ_iff_lt_or_eq.mp hj with h' | rfl
      · exact hn j h'
      · exact h
  · refine ⟨fun _ => ?_, fun h => absurd h (by first | decide | simp)⟩
    refine ⟨1, rfl, by decide, _, rfl, rfl, ?_⟩
    refine ⟨fun h => ?_, fun h => ?_⟩
    · have h : ((2 : Int) == c) = true := h
      have h : c = 2 := by simp at h; omega
      subst h
      rfl
    · have h : ((2 : Int) == c) = false := h
      have h : c ≠ 2 := by simp at h; omega
      refine ⟨2, by show _ < _; simp, ⟨rfl, rfl⟩, ⟨rfl, trivial⟩, trivial, (by repeat' first | exact trivial | rfl | apply And.intro), by decide, fun j hj => ?_⟩
      rcases Nat.lt_succ_iff_lt_or_eq.mp hj with h' | rfl
      · exact hn j h'
      · exact h
  · refine ⟨fun _ => ?_, fun h => absurd h (by first | decide | simp)⟩
    refine ⟨2, rfl, by decide, _, rfl, rfl, ?_⟩
    refine ⟨fun h => ?_, fun h => ?_⟩
    · have h : ((3 : Int) == c) = true := h
      have h : c = 3 := by simp at h; omega
      subst h
      rfl
    · have h : ((3 : Int) == c) = false := h
      have h : c ≠ 3 := by simp at h; omega
      refine ⟨3, by show _ < _; simp, ⟨rfl, rfl⟩, ⟨rfl, trivial⟩, trivial, (by repeat' first | exact trivial | rfl | apply And.intro), by decide, fun j hj => ?_⟩
      rcases Nat.lt_succ_iff_lt_or_eq.mp hj with h' | rfl
      · exact hn j h'
      · exact h
  · refine ⟨fun _ => ?_, fun h => absurd h (by first | decide | simp)⟩
    refine ⟨3, rfl, by decide, _, rfl, rfl, ?_⟩
    refine ⟨fun h => ?_, fun h => ?_⟩
    · have h : ((4 : Int) == c) = true := h
      have h : c = 4 := by simp at h; omega
      subst h
      rfl
    · have h : ((4 : Int) == c) = false := h
      have h : c ≠ 4 := by simp at h; omega
      refine ⟨4, by show _ < _; simp, ⟨rfl, rfl⟩, ⟨rfl, trivial⟩, trivial, (by repeat' first | exact trivial | rfl | apply And.intro), by decide, fun j hj => ?_⟩
      rcases Nat.lt_succ_iff_lt_or_eq.mp hj with h' | rfl
      · exact hn j h'
      · exact h
  · refine ⟨fun _ => ?_, fun h => absurd h (by first | decide | simp)⟩
    refine ⟨4, rfl, by decide, _, rfl, rfl, ?_⟩
    refine ⟨fun h => ?_, fun h => ?_⟩
    · have h : ((5 : Int) == c) = true := h
      have h : c = 5 := by simp at h; omega
      subst h
      rfl
    · have h : ((5 : Int) == c) = false := h
      have h : c ≠ 5 := by simp at h; omega
      refine ⟨5, by show _ < _; simp, ⟨rfl, rfl⟩, ⟨rfl, trivial⟩, trivial, (by repeat' first | exact trivial | rfl | apply And.intro), by decide, fun j hj => ?_⟩
      rcases Nat.lt_succ_iff_lt_or_eq.mp hj with h' | rfl
      · exact hn j h'
      · exact h
  · refine ⟨fun h => absurd h (by first | decide | simp), fun _ => ?_⟩
    have e1 : c ≠ 1 := hn 0 (by decide)
    have e2 : c ≠ 2 := hn 1 (by decide)
    have e3 : c ≠ 3 := hn 2 (by decide)
    have e4 : c ≠ 4 := hn 3 (by decide)
    have e5 : c ≠ 5 := hn 4 (by decide)
    have ed : decide (1 ≤ c ∧ c ≤ 5) = false := by rw [decide_eq_false_iff_not]; omega
    rw [ed, kdc, if_neg e1, if_neg e2, if_neg e3, if_neg e4, if_neg e5]
    rfl

theorem k_ofE {c : Int} {l : List PV} {q : Bool} (h1 : kdc c = l) (h2 : decide (1 ≤ c ∧ c ≤ 5) = q) : Ret Try.prog 38 [u8 c] [] (.tup [.p (.agg l), .p (bl q)]) := by
  have := k_of c
  rwa [h1, h2] at this

theorem k_size1 (s : Stg) : Ret Try.prog 74 [stg s] [] (.p (i64 s.gains.length)) := by
  refine ret (fn := Try.f74) (by kernel_rfl) (by kernel_rfl) rfl ?_
  rfl

theorem k_size2 (s : Stg) : Ret Try.prog 78 [stg s] [] (.p (i64 s.band.length)) := by
  refine ret (fn := Try.f78) (by kernel_rfl) (by kernel_rfl) rfl ?_
  rfl

theorem k_size3 (s : Stg) : Ret Try.prog 82 [stg s] [] (.p (i64 s.mats.length)) := by
  refine ret (fn := Try.f82) (by kernel_rfl) (by kernel_rfl) rfl ?_
  rfl

theorem k_size4 (s : Stg) : Ret Try.prog 86 [stg s] [] (.p (i64 s.turns.length)) := by
  refine ret (fn := Try.f86) (by kernel_rfl) (by kernel_rfl) rfl ?_
  rfl

theorem k_size5 (s : Stg) : Ret Try.prog 90 [stg s] [] (.p (i64 s.full.length)) := by
  refine ret (fn := Try.f90) (by kernel_rfl) (by kernel_rfl) rfl ?_
  rfl

theorem k_diag (a : Cx) : Ret Try.prog 54 [cx a] [] (.p (jn (diag a))) := by
  refine ret (fn := Try.f54) (by kernel_rfl) (by kernel_rfl) rfl ?_
  refine ⟨Nat.le_refl _, ?_⟩
  exact ⟨_, rfl, rfl, rfl⟩

theorem k_one : Ret Try.prog 55 [] [] (.p (cx one)) := by
  refine ret (fn := Try.f55) (by kernel_rfl) (by kernel_rfl) rfl ?_
  rfl

theorem zero_brK {a : Cx} (h1 : (a.re == 0) = true) (h2 : (a.im == 0) = true) : a.zero := ⟨by simpa using h1, by simpa using h2⟩

theorem k_gains (l : List Cx) (n : Int) (hl : ∀ c ∈ l, Enc.ok c) (hn : l.length ≤ maxLen) : Ret Try.prog 109 [sl l, i64 n] [] (.p (bl (decide (gainsOk l n)))) := by
  have bad : ¬ gainsOk l n → SV.p (bl false) = SV.p (bl (decide (gainsOk l n))) := fun h => by rw [decide_eq_false h]
  have hn : l.length ≤ 9223372036854775807 := by simpa only [maxLen] using hn
  refine ret (fn := Try.f109) (by kernel_rfl) (by kernel_rfl) rfl ?_
  refine ⟨fun h1 => ?_, fun h1 => ?_⟩
  · simp at h1
    exact bad fun h => h1 h.1
  simp at h1
  refine ⟨Nat, { inv := fun k => k ≤ l.length ∧ (∀ c ∈ l.take k, okG c), slots := [(13, fun k => i64 k)],  mu := fun k => l.length - k }, 0, ⟨⟨rfl, trivial⟩, trivial, (by repeat' first | exact trivial | rfl | apply And.intro), Nat.zero_le _, by simp⟩, ?_⟩
  intro k ⟨hk, hall⟩
  refine ⟨fun h2 => ?_, fun h2 => ?_⟩
  · simp at h2
    refine ⟨k, rfl, h2, by decide, _, idx h2, rfl, ?_⟩
    refine ⟨[], _, c_check l[k] (hl _ (List.getElem_mem h2)), rfl, ?_⟩
    have more : okG l[k] → ∀ c ∈ l.take (k + 1), okG c := fun h c hc => by
      rw [List.take_succ_eq_append_getElem h2, List.mem_append] at hc
      rcases hc with hc | hc
      · exact hall c hc
      · simp at hc; subst hc; exact h
    refine ⟨fun h3 => ?_, fun h3 => ?_⟩
    rotate_left
    · rw [chk_ne] at h3
      exact bad fun h => h3 (h.2 _ (List.getElem_mem h2)).1
    rw [chk_eq] at h3
    refine ⟨fun h4 => ?_, fun h4 => ?_⟩
    · refine ⟨fun h5 => ?_, fun h5 => ?_⟩
      · exact bad fun h => (h.2 _ (List.getElem_mem h2)).2 (zero_brK h4 h5)
      · simp at h5
        refine ⟨k + 1, by show _ < _; simp; omega, ⟨rfl, rfl⟩, ⟨by show PV.v (.int _ _) = _; rw [succ_w3 (by omega)], trivial⟩, trivial, (by repeat' first | exact trivial | rfl | apply And.intro), h2, more ⟨h3, fun h => h5 h.2⟩⟩
    · simp at h4
      refine ⟨k + 1, by show _ < _; simp; omega, ⟨rfl, rfl⟩, ⟨by show PV.v (.int _ _) = _; rw [succ_w3 (by omega)], trivial⟩, trivial, (by repeat' first | exact trivial | rfl | apply And.intro), h2, more ⟨h3, fun h => h4 h.1⟩⟩
  · simp at h2
    have : k = l.length := by omega
    subst this
    rw [List.take_length] at hall
    show SV.p (bl true) = _
    rw [decide_eq_true (show gainsOk l n from ⟨h1, hall⟩)]

theorem k_quo (l : List Cx) (hl : ∀ c ∈ l, Enc.ok c) (hn : l.length ≤ 1000) : Ret Try.prog 110 [sl l] [] (resCs (quo l)) := by
  refine ret (fn := Try.f110) (by kernel_rfl) (by kernel_rfl) rfl ?_
  refine ⟨Nat, { inv := fun k => k ≤ l.length ∧ (cferr (fun k => div one (gat l k)) k = 0), slots := [(11, fun k => i64 k)], rows := [(4, 23, 3, fun k => k, fun k => flat ((List.range k).map fun k => (div one (gat l k)).1))], mu := fun k => l.length - k }, 0, ⟨⟨rfl, trivial⟩, ⟨⟨rfl, rfl⟩, trivial⟩, (by repeat' first | exact trivial | rfl | apply And.intro), Nat.zero_le _, rfl⟩, ?_⟩
  intro k ⟨hk, hz⟩
  refine ⟨fun h2 => ?_, fun h2 => ?_⟩
  · simp at h2
    refine ⟨k, rfl, h2, by decide, _, idx h2, rfl, ?_⟩
    refine ⟨_, k_one, rfl, ?_⟩
    refine ⟨_, (show Ret Try.prog 73 [cx one, cx l[k]] [] (resC (div one (gat l k))) by rw [gat_get h2]; exact c_div _ _ (ok_valid oneC_valid) (hl _ (List.getElem_mem h2))), rfl, ?_⟩
    refine ⟨fun h3 => ?_, fun h3 => ?_⟩
    · simp at h3
      show SV.tup [.p (.sl false 0 []), .p (i64 _)] = resCs _
      have e := cferr_bad (f := fun k => div one (gat l k)) h2 hz h3
      rw [quo, cgath, if_neg (by rw [e]; exact h3), e]; rfl
    · simp at h3
      refine ⟨⟨by show k + 1 ≤ _; omega, by show (k + 1) * 24 ≤ _; omega⟩, ?_⟩
      refine ⟨k + 1, by show _ < _; simp; omega, ⟨rfl, rfl⟩, ⟨by show PV.v (.int _ _) = _; rw [succ_w (by omega)], trivial⟩, ⟨⟨rfl, ?_⟩, trivial⟩, (by repeat' first | exact trivial | rfl | apply And.intro), h2, ?_⟩
      · show _ ++ _ = flat _
        rw [List.range_succ, List.map_append, List.map_singleton, flat_snoc]; rfl
      · rw [cferr, if_neg (by simp [hz])]; exact h3
  · simp at h2
    have : k = l.length := by omega
    subst this
    show SV.tup [.p (.sl false l.length (flat ((List.range l.length).map fun k => (div one (gat l k)).1))), .p (i64 0)] = resCs _
    rw [quo, cgath, if_pos hz]
    simp

theorem k_inverses (l : List Jn) (hl : ∀ c ∈ l, Enc.ok c) (hn : l.length ≤ 1000) : Ret Try.prog 112 [sl l] [] (resJs (invs l)) := by
  refine ret (fn := Try.f112) (by kernel_rfl) (by kernel_rfl) rfl ?_
  refine ⟨Nat, { inv := fun k => k ≤ l.length ∧ (cferr (fun k => jinv (el j0 l k)) k = 0), slots := [(11, fun k => i64 k)], rows := [(4, 26, 12, fun k => k, fun k => flat ((List.range k).map fun k => (jinv (el j0 l k)).1))], mu := fun k => l.length - k }, 0, ⟨⟨rfl, trivial⟩, ⟨⟨rfl, rfl⟩, trivial⟩, (by repeat' first | exact trivial | rfl | apply And.intro), Nat.zero_le _, rfl⟩, ?_⟩
  intro k ⟨hk, hz⟩
  refine ⟨fun h2 => ?_, fun h2 => ?_⟩
  · simp at h2
    refine ⟨k, rfl, h2, by decide, _, idx h2, rfl, ?_⟩
    refine ⟨Nat.le_refl _, ?_⟩
    refine ⟨_, rfl, rfl, ?_⟩
    refine ⟨[], _, (show Ret Try.prog 57 [jn l[k]] [] (resJ (jinv (el j0 l k))) by rw [el_get h2]; exact j_inv _ (hl _ (List.getElem_mem h2))), rfl, ?_⟩
    refine ⟨Nat.le_refl _, ?_⟩
    refine ⟨fun h3 => ?_, fun h3 => ?_⟩
    · simp at h3
      show SV.tup [.p (.sl false 0 []), .p (i64 _)] = resJs _
      have e := cferr_bad (f := fun k => jinv (el j0 l k)) h2 hz h3
      rw [invs, cgath, if_neg (by rw [e]; exact h3), e]; rfl
    · simp at h3
      refine ⟨_, rfl, rfl, ?_⟩
      refine ⟨⟨by show k + 1 ≤ _; omega, by show (k + 1) * 96 ≤ _; omega⟩, ?_⟩
      refine ⟨k + 1, by show _ < _; simp; omega, ⟨rfl, rfl⟩, ⟨by show PV.v (.int _ _) = _; rw [succ_w (by omega)], trivial⟩, ⟨⟨rfl, ?_⟩, trivial⟩, (by repeat' first | exact trivial | rfl | apply And.intro), h2, ?_⟩
      · show _ ++ _ = flat _
        rw [List.range_succ, List.map_append, List.map_singleton, flat_snoc]; rfl
      · rw [cferr, if_neg (by simp [hz])]; exact h3
  · simp at h2
    have : k = l.length := by omega
    subst this
    show SV.tup [.p (.sl false l.length (flat ((List.range l.length).map fun k => (jinv (el j0 l k)).1))), .p (i64 0)] = resJs _
    rw [invs, cgath, if_pos hz]
    simp

theorem k_regular (l : List Jn) (hl : ∀ c ∈ l, Enc.ok c) (hn : l.length ≤ maxLen) : Ret Try.prog 111 [sl l] [] (.p (bl (decide (regs l)))) := by
  have bad : ¬ regs l → SV.p (bl false) = SV.p (bl (decide (regs l))) := fun h => by rw [decide_eq_false h]
  have hn : l.length ≤ 9223372036854775807 := by simpa only [maxLen] using hn
  refine ret (fn := Try.f111) (by kernel_rfl) (by kernel_rfl) rfl ?_
  refine ⟨Nat, { inv := fun k => k ≤ l.length ∧ (∀ c ∈ l.take k, (jinv c).2 = 0), slots := [(9, fun k => i64 k)],  mu := fun k => l.length - k }, 0, ⟨⟨rfl, trivial⟩, trivial, (by repeat' first | exact trivial | rfl | apply And.intro), Nat.zero_le _, by simp⟩, ?_⟩
  intro k ⟨hk, hall⟩
  refine ⟨fun h2 => ?_, fun h2 => ?_⟩
  · simp at h2
    refine ⟨k, rfl, h2, by decide, _, idx h2, rfl, ?_⟩
    refine ⟨Nat.le_refl _, ?_⟩
    refine ⟨_, rfl, rfl, ?_⟩
    refine ⟨[], _, j_inv l[k] (hl _ (List.getElem_mem h2)), rfl, ?_⟩
    refine ⟨Nat.le_refl _, ?_⟩
    refine ⟨fun h3 => ?_, fun h3 => ?_⟩
    · simp at h3
      exact bad fun h => h3 (h _ (List.getElem_mem h2))
    · simp at h3
      refine ⟨k + 1, by show _ < _; simp; omega, ⟨rfl, rfl⟩, ⟨by show PV.v (.int _ _) = _; rw [succ_w3 (by omega)], trivial⟩, trivial, (by repeat' first | exact trivial | rfl | apply And.intro), h2, ?_⟩
      intro c hc
      rw [List.take_succ_eq_append_getElem h2, List.mem_append] at hc
      rcases hc with hc | hc
      · exact hall c hc
      · simp at hc; subst hc; exact h3
  · simp at h2
    have : k = l.length := by omega
    subst this
    rw [List.take_length] at hall
    show SV.p (bl true) = _
    rw [decide_eq_true (show regs l from hall)]
end Go.Pv

/- The law JonesGroup, of the code. -/
import Derived.Test.YtljahbpkhienkaaJf
import Derived.Test.YtljahbpkhienkaaPlCxm
namespace Go.Pv
open Go.Vc
open Go.Proofs
set_option maxRecDepth 10000
set_option maxHeartbeats 4000000

def allJ (f : Nat → Int) (k : Nat) : Bool := (List.range k).all fun i => f i == 0
theorem allJ_succ (f : Nat → Int) (k : Nat) : allJ f (k + 1) = (allJ f k && (f k == 0)) := by simp [allJ, List.range_succ, List.all_append]
theorem allJ_all {f : Nat → Int} {n : Nat} (h : allJ f n = true) : ∀ k, k < n → f k = 0 := fun k hk => by
  unfold allJ at h
  rw [List.all_eq_true] at h
  simpa using h k (List.mem_range.2 hk)

theorem j0_ok : Enc.ok j0 := by decide

theorem jmul_ok (a b : Jn) : Enc.ok (jmul a b).1 := by
  by_cases h : (jmul a b).2 = 0
  · exact jn_ok (jmul_v h).2.2.1
  · by_cases hv : a.valid ∧ b.valid
    · rw [(jmul_err hv.1 hv.2).resolve_left h]; exact j0_ok
    · rw [jmul, if_neg hv]; exact j0_ok

theorem jinv_ok (a : Jn) : Enc.ok (jinv a).1 := by
  by_cases h : (jinv a).2 = 0
  · exact jn_ok (jinv_v h).2.1
  · have : (jinv a).1 = j0 := by
      unfold jinv at h ⊢
      split
      · rfl
      · rename_i h1
        rw [if_neg h1] at h
        unfold seq4 at h ⊢
        split
        · rfl
        split
        · rfl
        split
        · rfl
        split
        · rfl
        rename_i a1 a2 a3 a4
        rw [if_neg a1, if_neg a2, if_neg a3, if_neg a4] at h
        exact absurd rfl h
    rw [this]; exact j0_ok

theorem getD_range {α : Type} (f : Nat → α) (d : α) {n k : Nat} (h : k < n) : ((List.range n).map f).getD k d = f k := by simp [h]

theorem jonesGroup (s t : List Jn) (l : List Pol) (hs : ∀ m ∈ s, Enc.ok m) (ht : ∀ m ∈ t, Enc.ok m) (hl : ∀ p ∈ l, Enc.ok p) : Ret Try.prog 4 [sl s, sl t, sl l] [] (.p (bl true)) := by
  refine ret (fn := Try.f4) (by kernel_rfl) (by kernel_rfl) rfl ?_
  refine ⟨[], _, jl_alive, rfl, ?_⟩
  refine ⟨[], _, jr_table s, rfl, ?_⟩
  refine ⟨fun h1 => ?_, fun h1 => ?_⟩
  rotate_left
  · rfl
  have h1 : jtab s = 0 := by simpa using h1
  refine ⟨[], _, jr_table t, rfl, ?_⟩
  refine ⟨fun h2 => ?_, fun h2 => ?_⟩
  rotate_left
  · rfl
  have h2 : jtab t = 0 := by simpa using h2
  refine ⟨fun h3 => ?_, fun h3 => ?_⟩
  rotate_left
  · rfl
  have h3 : s.length = t.length := by simp at h3; omega
  refine ⟨[], _, jr_all l s.length, rfl, ?_⟩
  refine ⟨fun h4 => ?_, fun h4 => ?_⟩
  rotate_left
  · rfl
  have h4 : jall l s.length = 0 := by simpa using h4
  refine ⟨fun h => absurd h (by first | decide | simp), fun _ => ?_⟩
  obtain ⟨s1, s2, sv, _⟩ := jtab_0 h1
  obtain ⟨t1, t2, tv, _⟩ := jtab_0 h2
  obtain ⟨l1, lg⟩ := jall_0 h4
  refine ⟨[], _, j_act s l hs hl, rfl, ?_⟩
  refine ⟨fun h5 => ?_, fun h5 => ?_⟩
  · have h5 : (jact s l).2 ≠ 0 := by simpa using h5
    have := (jact_err h1 h4).resolve_left h5
    refine ⟨fun _ => ?_, fun h => absurd h (by first | decide | simp)⟩
    show SV.p (bl ((jact s l).2 == 16)) = _
    rw [this]; rfl
  have h5 : (jact s l).2 = 0 := by simpa using h5
  have fm : ∀ k, (hk : k < s.length) → jg s (k : Nat) = s[k] := fun k hk => jg_get hk
  have fn : ∀ k, (hk : k < t.length) → jg t (k : Nat) = t[k] := fun k hk => jg_get hk
  refine ⟨Nat, { inv := fun k => k ≤ s.length, slots := [(14, fun k => i64 k), (12, fun k => bl (allJ (fun i => (jmul (jg t i) (jg s i)).2) k)), (13, fun k => bl (allJ (fun i => (jinv (jg s i)).2) k))], rows := [(10, 25, 12, fun k => k, fun k => flat ((List.range k).map fun (i : Nat) => (jmul (jg t i) (jg s i)).1)), (11, 25, 12, fun k => k, fun k => flat ((List.range k).map fun (i : Nat) => (jinv (jg s i)).1))], mu := fun k => s.length - k }, 0, ⟨⟨rfl, rfl, rfl, trivial⟩, ⟨⟨rfl, rfl⟩, ⟨rfl, rfl⟩, trivial⟩, (by repeat' first | exact trivial | rfl | apply And.intro), Nat.zero_le _⟩, ?_⟩
  intro k hk
  have hk : k ≤ s.length := hk
  refine ⟨fun h6 => ?_, fun h6 => ?_⟩
  · simp at h6
    have h6' : k < t.length := by omega
    have e1 := fm k h6
    have e2 := fn k h6'
    refine ⟨k, rfl, h6', by decide, _, idx h6', rfl, ?_⟩
    refine ⟨k, rfl, h6, by decide, _, idx h6, rfl, ?_⟩
    refine ⟨_, j_mul t[k] s[k] (ht _ (List.getElem_mem h6')) (hs _ (List.getElem_mem h6)), rfl, ?_⟩
    refine ⟨k, rfl, h6, by decide, _, idx h6, rfl, ?_⟩
    refine ⟨[], _, j_inv s[k] (hs _ (List.getElem_mem h6)), rfl, ?_⟩
    refine ⟨Nat.le_refl _, ?_⟩
    have st1 : allJ (fun i => (jmul (jg t i) (jg s i)).2) (k + 1) = (allJ (fun i => (jmul (jg t i) (jg s i)).2) k && ((jmul t[k] s[k]).2 == 0)) := by rw [allJ_succ, e1, e2]
    have st2 : allJ (fun i => (jinv (jg s i)).2) (k + 1) = (allJ (fun i => (jinv (jg s i)).2) k && ((jinv s[k]).2 == 0)) := by rw [allJ_succ, e1]
    refine ⟨fun h7 => ?_, fun h7 => ?_⟩
    all_goals
      refine ⟨fun h8 => ?_, fun h8 => ?_⟩
      all_goals
        refine ⟨_, rfl, rfl, ?_⟩
        refine ⟨rfl, Nat.le_refl _, ⟨by show k + 1 ≤ _; omega, by show (k + 1) * 96 ≤ _; omega⟩, ?_⟩
        refine ⟨_, rfl, rfl, ?_⟩
        refine ⟨rfl, Nat.le_refl _, ⟨by show k + 1 ≤ _; omega, by show (k + 1) * 96 ≤ _; omega⟩, ?_⟩
        refine ⟨k + 1, by show _ < _; simp; omega, ⟨rfl, rfl⟩, ⟨by show PV.v (.int _ _) = _; rw [succ_w (by omega)], ?_, ?_, trivial⟩, ⟨⟨rfl, ?_⟩, ⟨rfl, ?_⟩, trivial⟩, (by repeat' first | exact trivial | rfl | apply And.intro), h6⟩
        · show PV.v (.bool _) = bl _
          rw [st1, h7]; simp
        · show PV.v (.bool _) = bl _
          rw [st2, h8]; simp
        · show _ ++ _ = flat _
          rw [List.range_succ, List.map_append, List.map_singleton, flat_snoc, e1, e2]; rfl
        · show _ ++ _ = flat _
          rw [List.range_succ, List.map_append, List.map_singleton, flat_snoc, e1]; rfl
  simp at h6
  have hk2 : k = s.length := by omega
  subst hk2
  clear h6 hk
  obtain ⟨B, hB⟩ : ∃ B, B = (List.range s.length).map fun (i : Nat) => (jmul (jg t i) (jg s i)).1 := ⟨_, rfl⟩
  obtain ⟨I, hI⟩ : ∃ I, I = (List.range s.length).map fun (i : Nat) => (jinv (jg s i)).1 := ⟨_, rfl⟩
  have lB : B.length = s.length := by rw [hB]; simp
  have lI : I.length = s.length := by rw [hI]; simp
  have gB : ∀ k : Nat, k < s.length → jg B k = (jmul (jg t k) (jg s k)).1 := fun k hk => by rw [jg, Int.toNat_natCast, hB, getD_range _ _ hk]
  have gI : ∀ k : Nat, k < s.length → jg I k = (jinv (jg s k)).1 := fun k hk => by rw [jg, Int.toNat_natCast, hI, getD_range _ _ hk]
  have penc := jact_enc h5 hl
  have cB : Ret Try.prog 22 [.sl false s.length (flat B), sl l] [] (resP (jact B l)) := by
    have := j_act B l (by rw [hB]; intro m hm; rw [List.mem_map] at hm; obtain ⟨i, _, rfl⟩ := hm; exact jmul_ok _ _) hl
    rw [show sl B = .sl false s.length (flat B) by rw [← lB]] at this
    exact this
  have cI : Ret Try.prog 22 [.sl false s.length (flat I), sl (jact s l).1] [] (resP (jact I (jact s l).1)) := by
    have := j_act I (jact s l).1 (by rw [hI]; intro m hm; rw [List.mem_map] at hm; obtain ⟨i, _, rfl⟩ := hm; exact jinv_ok _) penc
    rw [show sl I = .sl false s.length (flat I) by rw [← lI]] at this
    exact this
  have len1 : ∀ u m, (jact u m).2 = 0 → (jact u m).1.length ≤ 64 := fun u m h => by
    obtain ⟨_, q2, q3, _⟩ := jact_ok h
    rw [q3, List.length_map]; exact (jall_0 q2).1
  rw [hB] at cB
  rw [hI] at cI
  refine ⟨fun h7 => ?_, fun h7 => ?_⟩
  focus
    have k7 := allJ_all h7
    refine ⟨[], _, j_act t (jact s l).1 ht penc, rfl, ?_⟩
    refine ⟨[], _, cB, rfl, ?_⟩
    refine ⟨fun h8 => ?_, fun h8 => ?_⟩
    focus
      have h8 : (jact t (jact s l).1).2 = 0 := by simpa using h8
      refine ⟨fun h9 => ?_, fun h9 => ?_⟩
      focus
        have h9 : (jact B l).2 = 0 := by rw [hB]; simpa using h9
        have key := jact_mul (u := B) h3.symm lB (fun k hk => by rw [gB k hk]; exact (jmul_v (k7 k hk)).2.2.2) h5 h8 h9
        rw [hB] at key
        refine ⟨[], _, jr_same (jact t (jact s l).1).1 (jact ((List.range s.length).map fun (i : Nat) => (jmul (jg t i) (jg s i)).1) l).1 (by have := len1 _ _ h8; omega), rfl, ?_⟩
        refine ⟨fun q => absurd q ?_, fun _ => ?_⟩
        · show ¬ (!decide _) = true
          rw [key]; simp
  all_goals
    refine ⟨fun h10 => ?_, fun h10 => ?_⟩
    focus
      have k10 := allJ_all h10
      refine ⟨[], _, cI, rfl, ?_⟩
      refine ⟨fun h11 => ?_, fun h11 => ?_⟩
      focus
        have h11 : (jact I (jact s l).1).2 = 0 := by rw [hI]; simpa using h11
        have key := jact_back (u := I) lI (fun k hk => by rw [gI k hk]; exact (jinv_v (k10 k hk)).2.2.2.1) h5 h11
        rw [hI] at key
        refine ⟨[], _, jr_same (jact ((List.range s.length).map fun (i : Nat) => (jinv (jg s i)).1) (jact s l).1).1 l (by rw [hI] at h11; have := len1 _ _ h11; omega), rfl, ?_⟩
        refine ⟨fun q => absurd q ?_, fun _ => ?_⟩
        · show ¬ (!decide _) = true
          rw [key]; simp
    all_goals rfl
end Go.Pv

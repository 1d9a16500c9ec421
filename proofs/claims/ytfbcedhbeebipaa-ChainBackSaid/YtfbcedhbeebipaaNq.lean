/- The law ChainBack, of the code. -/
import Derived.Test.YtfbcedhbeebipaaNp
namespace Go.Pv
open Go.Vc
open Go.Proofs
set_option maxRecDepth 10000

theorem chinv_enc {l : List Stg} {n m : Int} (hl : ∀ s ∈ l, Enc.ok s) (h : (chinv l n m).2 = 0) : ∀ s ∈ (chinv l n m).1, Enc.ok s := by
  obtain ⟨h1, h2, h3⟩ := chinv_0 h
  obtain ⟨k1, k2, k3⟩ := ck34_0 h1
  intro s hs
  rw [h3] at hs
  simp only [List.mem_map, List.mem_reverse] at hs
  obtain ⟨x, hx, rfl⟩ := hs
  exact sinv_enc (hl x hx) (k3 x hx)

theorem k_inv0 {l : List Stg} {n m : Int} (hl : ∀ s ∈ l, Enc.ok s) (h : (chinv l n m).2 = 0) : Ret Try.prog 16 [sl l, i64 n, i64 m] [] (resCh ((chinv l n m).1, 0)) := by
  rw [← h]; exact k_invert l n m hl
theorem k_inv1 {l : List Stg} {n m : Int} (hl : ∀ s ∈ l, Enc.ok s) (h : chinv l n m = ([], 16)) : Ret Try.prog 16 [sl l, i64 n, i64 m] [] (resCh ([], 16)) := by
  rw [← h]; exact k_invert l n m hl
theorem k_inv2 {l : List Stg} {n m : Int} (hl : ∀ s ∈ (chinv l n m).1, Enc.ok s) (h : (chinv l n m).2 = 0) : Ret Try.prog 16 [sl (chinv l n m).1, i64 n, i64 m] [] (resCh (l, 0)) := by
  rw [← back_back h]; exact k_invert _ n m hl

theorem len_app {l r : List Stg} {n m : Int} (h1 : ck34 l n m = 0) (h2 : ck34 r n m = 0) (h : l.length ≤ 4) (h3 : r.length = l.length) : ck34 (l ++ r) n m = 0 := by
  obtain ⟨k1, k2, k3⟩ := ck34_0 h1
  obtain ⟨_, _, j3⟩ := ck34_0 h2
  refine ck34_ok k1 (by simp; omega) fun s hs => ?_
  rcases List.mem_append.1 hs with q | q
  · exact k3 s q
  · exact j3 s q

set_option maxHeartbeats 8000000 in
theorem chainBack (l : List Stg) (n m : Int) (cs : List Cube) (hl : ∀ s ∈ l, Enc.ok s) (hc : ∀ c ∈ cs, Enc.ok c) (ll : l.length ≤ 9223372036854775807) : Ret Try.prog 8 [sl l, i64 n, i64 m, sl cs] [] (.p (bl true)) := by
  refine ret (fn := Try.f8) (by kernel_rfl) (by kernel_rfl) rfl ?_
  refine ⟨[], _, w_alive, rfl, ?_⟩
  refine ⟨fun h0 => ?_, fun h0 => ?_⟩
  rotate_left
  · rfl
  simp at h0
  refine ⟨[], _, r_check34 l n m hl, rfl, ?_⟩
  refine ⟨fun h1 => ?_, fun h1 => ?_⟩
  rotate_left
  · rfl
  simp at h1
  refine ⟨[], _, r_cubes34 cs n m hc, rfl, ?_⟩
  refine ⟨fun h2 => ?_, fun h2 => ?_⟩
  rotate_left
  · rfl
  simp at h2
  refine ⟨fun h => absurd h (by first | decide | simp), fun _ => ?_⟩
  rcases chinv_err h1 with zi | zi
  rotate_left
  · refine ⟨[], _, k_inv1 hl zi, rfl, ?_⟩
    refine ⟨fun _ => ?_, fun h => absurd h (by first | decide | simp)⟩
    refine ⟨fun _ => ?_, fun h => absurd h (by first | decide | simp)⟩
    refine ⟨fun _ => ?_, fun h => absurd h (by first | decide | simp)⟩
    rfl
  refine ⟨[], _, k_inv0 hl zi, rfl, ?_⟩
  refine ⟨fun h => absurd h (by first | decide | simp), fun _ => ?_⟩
  obtain ⟨b1, b2⟩ := back_good zi
  have hli := chinv_enc hl zi
  refine ⟨[], _, (show Ret Try.prog 21 [sl (chinv l n m).1, i64 n, i64 m] [] (.p (i64 0)) by rw [← b1]; exact r_check34 _ n m hli), rfl, ?_⟩
  refine ⟨fun _ => ?_, fun h => absurd h (by first | decide | simp)⟩
  refine ⟨fun h => absurd h (by simp [b2]), fun _ => ?_⟩
  have hj : ck34 (l ++ (chinv l n m).1) n m = 0 := len_app h1 b1 (by omega) b2
  have hlj : ∀ s ∈ l ++ (chinv l n m).1, Enc.ok s := fun s hs => (List.mem_append.1 hs).elim (hl s) (hli s)
  rcases chact_err (cs := cs) h1 h2 with za | za
  · refine ⟨[], _, k_act0 hl hc za, rfl, ?_⟩
    refine ⟨fun _ => ?_, fun h => absurd h (by first | decide | simp)⟩
    refine ⟨[], _, k_act (chinv l n m).1 n m (chact l n m cs).1 hli (chact_enc za), rfl, ?_⟩
    refine ⟨fun h3 => ?_, fun h3 => ?_⟩
    · simp at h3
      refine ⟨[], _, sameC (back_act zi za h3) chact_small.1 chact_small.2, rfl, ?_⟩
      refine ⟨fun h => absurd h (by first | decide | simp), fun _ => ?_⟩
      refine ⟨[], _, k_inv2 hli zi, rfl, ?_⟩
      refine ⟨fun _ => ?_, fun h => absurd h (by first | decide | simp)⟩
      refine ⟨[], _, same2 (show l.length ≤ 1000000 by omega) (fun s hs => good_smallS ((ck34_0 h1).2.2 s hs) (ck34_0 h1).1.2.1 (ck34_0 h1).1.2.2.2), rfl, ?_⟩
      refine ⟨fun h => absurd h (by first | decide | simp), fun _ => ?_⟩
      refine ⟨by rw [flat_length]; rfl, ⟨by show 0 + l.length ≤ _; omega, by show (0 + l.length) * 128 ≤ _; omega⟩, false, (fun h => by cases h), ?_⟩
      refine ⟨by rw [flat_length]; rfl, ⟨by show 0 + l.length + (chinv l n m).1.length ≤ _; omega, by show (0 + l.length + (chinv l n m).1.length) * 128 ≤ _; omega⟩, ?_⟩
      have ea : PV.sl false (0 + l.length + (chinv l n m).1.length) ([] ++ flat l ++ flat (chinv l n m).1) = sl (l ++ (chinv l n m).1) := by
        show _ = PV.sl false (l ++ (chinv l n m).1).length (flat (l ++ (chinv l n m).1))
        rw [List.length_append, Nat.zero_add, List.nil_append, flat_append]
      rcases chcomp_err hj with zc | zc
      rotate_left
      · refine ⟨[], _, (show Ret Try.prog 12 [PV.sl false (0 + l.length + (chinv l n m).1.length) ([] ++ flat l ++ flat (chinv l n m).1), i64 n, i64 m] [] (resSt (s0, 16)) by rw [ea]; exact k_comp1 hlj zc), rfl, ?_⟩
        refine ⟨fun _ => ?_, fun h => absurd h (by first | decide | simp)⟩
        refine ⟨fun _ => ?_, fun h => absurd h (by first | decide | simp)⟩
        rfl
      · refine ⟨[], _, (show Ret Try.prog 12 [PV.sl false (0 + l.length + (chinv l n m).1.length) ([] ++ flat l ++ flat (chinv l n m).1), i64 n, i64 m] [] (resSt ((chcomp (l ++ (chinv l n m).1) n m).1, 0)) by rw [ea]; exact k_comp0 hlj zc), rfl, ?_⟩
        refine ⟨fun h => absurd h (by first | decide | simp), fun _ => ?_⟩
        obtain ⟨f1, f2⟩ := back_full zi zc
        have kn := (ck34_0 h1).1
        refine ⟨Nat, { inv := fun s => s ≤ (chcomp (l ++ (chinv l n m).1) n m).1.full.length ∧ (True), slots := [(20, fun s => i64 s)],  mu := fun s => (chcomp (l ++ (chinv l n m).1) n m).1.full.length - s }, 0, ⟨⟨rfl, trivial⟩, trivial, (by repeat' first | exact trivial | rfl | apply And.intro), Nat.zero_le _, trivial⟩, ?_⟩
        intro s ⟨hs, _⟩
        refine ⟨fun g1 => ?_, fun g1 => ?_⟩
        · simp at g1
          obtain ⟨f3, f4⟩ := f2 s g1
          refine ⟨Nat, { inv := fun k => k ≤ ((chcomp (l ++ (chinv l n m).1) n m).1.full[s]).length ∧ (True), slots := [(21, fun k => i64 k)],  mu := fun k => ((chcomp (l ++ (chinv l n m).1) n m).1.full[s]).length - k }, 0, ⟨⟨rfl, trivial⟩, trivial, (by repeat' first | exact trivial | rfl | apply And.intro), Nat.zero_le _, trivial⟩, ?_⟩
          intro k ⟨hk, _⟩
          refine ⟨s, rfl, g1, by decide, _, idx g1, rfl, ?_⟩
          refine ⟨fun g2 => ?_, fun g2 => ?_⟩
          · simp at g2
            refine ⟨s, rfl, g1, by decide, _, idx g1, rfl, ?_⟩
            refine ⟨k, rfl, g2, by decide, _, idx g2, rfl, ?_⟩
            refine ⟨_, r_one, rfl, ?_⟩
            refine ⟨_, r_times one, rfl, ?_⟩
            refine ⟨fun h => ?_, fun _ => ?_⟩
            · have h : (!eqPL (Enc.cs ((chcomp (l ++ (chinv l n m).1) n m).1.full[s])[k]) (Enc.cs (diag one))) = true := h
              rw [f4 k g2, eqPL_jnN] at h
              simp at h
            · refine ⟨k + 1, by show _ < _; simp; omega, ⟨rfl, rfl⟩, ⟨by show PV.v (.int _ _) = _; rw [succ_w (by omega)], trivial⟩, trivial, (by repeat' first | exact trivial | rfl | apply And.intro), g2, trivial⟩
          · simp at g2
            refine ⟨s + 1, by show _ < _; simp; omega, ⟨rfl, rfl⟩, ⟨by show PV.v (.int _ _) = _; rw [succ_w (by omega)], trivial⟩, trivial, (by repeat' first | exact trivial | rfl | apply And.intro), g1, trivial⟩
        · simp at g1
          refine ⟨fun _ => ?_, fun h => absurd h (by first | decide | simp)⟩
          have fe : ((chcomp (l ++ (chinv l n m).1) n m).1.full.length : Int) = n := by rw [f1]; omega
          show SV.p (bl (((chcomp (l ++ (chinv l n m).1) n m).1.full.length : Int) == n)) = SV.p (bl true)
          rw [fe]
          simp
    · skip
      refine ⟨[], _, k_inv2 hli zi, rfl, ?_⟩
      refine ⟨fun _ => ?_, fun h => absurd h (by first | decide | simp)⟩
      refine ⟨[], _, same2 (show l.length ≤ 1000000 by omega) (fun s hs => good_smallS ((ck34_0 h1).2.2 s hs) (ck34_0 h1).1.2.1 (ck34_0 h1).1.2.2.2), rfl, ?_⟩
      refine ⟨fun h => absurd h (by first | decide | simp), fun _ => ?_⟩
      refine ⟨by rw [flat_length]; rfl, ⟨by show 0 + l.length ≤ _; omega, by show (0 + l.length) * 128 ≤ _; omega⟩, false, (fun h => by cases h), ?_⟩
      refine ⟨by rw [flat_length]; rfl, ⟨by show 0 + l.length + (chinv l n m).1.length ≤ _; omega, by show (0 + l.length + (chinv l n m).1.length) * 128 ≤ _; omega⟩, ?_⟩
      have ea : PV.sl false (0 + l.length + (chinv l n m).1.length) ([] ++ flat l ++ flat (chinv l n m).1) = sl (l ++ (chinv l n m).1) := by
        show _ = PV.sl false (l ++ (chinv l n m).1).length (flat (l ++ (chinv l n m).1))
        rw [List.length_append, Nat.zero_add, List.nil_append, flat_append]
      rcases chcomp_err hj with zc | zc
      rotate_left
      · refine ⟨[], _, (show Ret Try.prog 12 [PV.sl false (0 + l.length + (chinv l n m).1.length) ([] ++ flat l ++ flat (chinv l n m).1), i64 n, i64 m] [] (resSt (s0, 16)) by rw [ea]; exact k_comp1 hlj zc), rfl, ?_⟩
        refine ⟨fun _ => ?_, fun h => absurd h (by first | decide | simp)⟩
        refine ⟨fun _ => ?_, fun h => absurd h (by first | decide | simp)⟩
        rfl
      · refine ⟨[], _, (show Ret Try.prog 12 [PV.sl false (0 + l.length + (chinv l n m).1.length) ([] ++ flat l ++ flat (chinv l n m).1), i64 n, i64 m] [] (resSt ((chcomp (l ++ (chinv l n m).1) n m).1, 0)) by rw [ea]; exact k_comp0 hlj zc), rfl, ?_⟩
        refine ⟨fun h => absurd h (by first | decide | simp), fun _ => ?_⟩
        obtain ⟨f1, f2⟩ := back_full zi zc
        have kn := (ck34_0 h1).1
        refine ⟨Nat, { inv := fun s => s ≤ (chcomp (l ++ (chinv l n m).1) n m).1.full.length ∧ (True), slots := [(20, fun s => i64 s)],  mu := fun s => (chcomp (l ++ (chinv l n m).1) n m).1.full.length - s }, 0, ⟨⟨rfl, trivial⟩, trivial, (by repeat' first | exact trivial | rfl | apply And.intro), Nat.zero_le _, trivial⟩, ?_⟩
        intro s ⟨hs, _⟩
        refine ⟨fun g1 => ?_, fun g1 => ?_⟩
        · simp at g1
          obtain ⟨f3, f4⟩ := f2 s g1
          refine ⟨Nat, { inv := fun k => k ≤ ((chcomp (l ++ (chinv l n m).1) n m).1.full[s]).length ∧ (True), slots := [(21, fun k => i64 k)],  mu := fun k => ((chcomp (l ++ (chinv l n m).1) n m).1.full[s]).length - k }, 0, ⟨⟨rfl, trivial⟩, trivial, (by repeat' first | exact trivial | rfl | apply And.intro), Nat.zero_le _, trivial⟩, ?_⟩
          intro k ⟨hk, _⟩
          refine ⟨s, rfl, g1, by decide, _, idx g1, rfl, ?_⟩
          refine ⟨fun g2 => ?_, fun g2 => ?_⟩
          · simp at g2
            refine ⟨s, rfl, g1, by decide, _, idx g1, rfl, ?_⟩
            refine ⟨k, rfl, g2, by decide, _, idx g2, rfl, ?_⟩
            refine ⟨_, r_one, rfl, ?_⟩
            refine ⟨_, r_times one, rfl, ?_⟩
            refine ⟨fun h => ?_, fun _ => ?_⟩
            · have h : (!eqPL (Enc.cs ((chcomp (l ++ (chinv l n m).1) n m).1.full[s])[k]) (Enc.cs (diag one))) = true := h
              rw [f4 k g2, eqPL_jnN] at h
              simp at h
            · refine ⟨k + 1, by show _ < _; simp; omega, ⟨rfl, rfl⟩, ⟨by show PV.v (.int _ _) = _; rw [succ_w (by omega)], trivial⟩, trivial, (by repeat' first | exact trivial | rfl | apply And.intro), g2, trivial⟩
          · simp at g2
            refine ⟨s + 1, by show _ < _; simp; omega, ⟨rfl, rfl⟩, ⟨by show PV.v (.int _ _) = _; rw [succ_w (by omega)], trivial⟩, trivial, (by repeat' first | exact trivial | rfl | apply And.intro), g1, trivial⟩
        · simp at g1
          refine ⟨fun _ => ?_, fun h => absurd h (by first | decide | simp)⟩
          have fe : ((chcomp (l ++ (chinv l n m).1) n m).1.full.length : Int) = n := by rw [f1]; omega
          show SV.p (bl (((chcomp (l ++ (chinv l n m).1) n m).1.full.length : Int) == n)) = SV.p (bl true)
          rw [fe]
          simp
  · refine ⟨[], _, k_act1 hl hc za, rfl, ?_⟩
    refine ⟨fun h => absurd h (by first | decide | simp), fun _ => ?_⟩
    refine ⟨[], _, k_inv2 hli zi, rfl, ?_⟩
    refine ⟨fun _ => ?_, fun h => absurd h (by first | decide | simp)⟩
    refine ⟨[], _, same2 (show l.length ≤ 1000000 by omega) (fun s hs => good_smallS ((ck34_0 h1).2.2 s hs) (ck34_0 h1).1.2.1 (ck34_0 h1).1.2.2.2), rfl, ?_⟩
    refine ⟨fun h => absurd h (by first | decide | simp), fun _ => ?_⟩
    refine ⟨by rw [flat_length]; rfl, ⟨by show 0 + l.length ≤ _; omega, by show (0 + l.length) * 128 ≤ _; omega⟩, false, (fun h => by cases h), ?_⟩
    refine ⟨by rw [flat_length]; rfl, ⟨by show 0 + l.length + (chinv l n m).1.length ≤ _; omega, by show (0 + l.length + (chinv l n m).1.length) * 128 ≤ _; omega⟩, ?_⟩
    have ea : PV.sl false (0 + l.length + (chinv l n m).1.length) ([] ++ flat l ++ flat (chinv l n m).1) = sl (l ++ (chinv l n m).1) := by
      show _ = PV.sl false (l ++ (chinv l n m).1).length (flat (l ++ (chinv l n m).1))
      rw [List.length_append, Nat.zero_add, List.nil_append, flat_append]
    rcases chcomp_err hj with zc | zc
    rotate_left
    · refine ⟨[], _, (show Ret Try.prog 12 [PV.sl false (0 + l.length + (chinv l n m).1.length) ([] ++ flat l ++ flat (chinv l n m).1), i64 n, i64 m] [] (resSt (s0, 16)) by rw [ea]; exact k_comp1 hlj zc), rfl, ?_⟩
      refine ⟨fun _ => ?_, fun h => absurd h (by first | decide | simp)⟩
      refine ⟨fun _ => ?_, fun h => absurd h (by first | decide | simp)⟩
      rfl
    · refine ⟨[], _, (show Ret Try.prog 12 [PV.sl false (0 + l.length + (chinv l n m).1.length) ([] ++ flat l ++ flat (chinv l n m).1), i64 n, i64 m] [] (resSt ((chcomp (l ++ (chinv l n m).1) n m).1, 0)) by rw [ea]; exact k_comp0 hlj zc), rfl, ?_⟩
      refine ⟨fun h => absurd h (by first | decide | simp), fun _ => ?_⟩
      obtain ⟨f1, f2⟩ := back_full zi zc
      have kn := (ck34_0 h1).1
      refine ⟨Nat, { inv := fun s => s ≤ (chcomp (l ++ (chinv l n m).1) n m).1.full.length ∧ (True), slots := [(20, fun s => i64 s)],  mu := fun s => (chcomp (l ++ (chinv l n m).1) n m).1.full.length - s }, 0, ⟨⟨rfl, trivial⟩, trivial, (by repeat' first | exact trivial | rfl | apply And.intro), Nat.zero_le _, trivial⟩, ?_⟩
      intro s ⟨hs, _⟩
      refine ⟨fun g1 => ?_, fun g1 => ?_⟩
      · simp at g1
        obtain ⟨f3, f4⟩ := f2 s g1
        refine ⟨Nat, { inv := fun k => k ≤ ((chcomp (l ++ (chinv l n m).1) n m).1.full[s]).length ∧ (True), slots := [(21, fun k => i64 k)],  mu := fun k => ((chcomp (l ++ (chinv l n m).1) n m).1.full[s]).length - k }, 0, ⟨⟨rfl, trivial⟩, trivial, (by repeat' first | exact trivial | rfl | apply And.intro), Nat.zero_le _, trivial⟩, ?_⟩
        intro k ⟨hk, _⟩
        refine ⟨s, rfl, g1, by decide, _, idx g1, rfl, ?_⟩
        refine ⟨fun g2 => ?_, fun g2 => ?_⟩
        · simp at g2
          refine ⟨s, rfl, g1, by decide, _, idx g1, rfl, ?_⟩
          refine ⟨k, rfl, g2, by decide, _, idx g2, rfl, ?_⟩
          refine ⟨_, r_one, rfl, ?_⟩
          refine ⟨_, r_times one, rfl, ?_⟩
          refine ⟨fun h => ?_, fun _ => ?_⟩
          · have h : (!eqPL (Enc.cs ((chcomp (l ++ (chinv l n m).1) n m).1.full[s])[k]) (Enc.cs (diag one))) = true := h
            rw [f4 k g2, eqPL_jnN] at h
            simp at h
          · refine ⟨k + 1, by show _ < _; simp; omega, ⟨rfl, rfl⟩, ⟨by show PV.v (.int _ _) = _; rw [succ_w (by omega)], trivial⟩, trivial, (by repeat' first | exact trivial | rfl | apply And.intro), g2, trivial⟩
        · simp at g2
          refine ⟨s + 1, by show _ < _; simp; omega, ⟨rfl, rfl⟩, ⟨by show PV.v (.int _ _) = _; rw [succ_w (by omega)], trivial⟩, trivial, (by repeat' first | exact trivial | rfl | apply And.intro), g1, trivial⟩
      · simp at g1
        refine ⟨fun _ => ?_, fun h => absurd h (by first | decide | simp)⟩
        have fe : ((chcomp (l ++ (chinv l n m).1) n m).1.full.length : Int) = n := by rw [f1]; omega
        show SV.p (bl (((chcomp (l ++ (chinv l n m).1) n m).1.full.length : Int) == n)) = SV.p (bl true)
        rw [fe]
        simp
end Go.Pv

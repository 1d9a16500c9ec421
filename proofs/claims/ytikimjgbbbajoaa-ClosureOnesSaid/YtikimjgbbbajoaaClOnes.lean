/- ClosureOnes: the walk. -/
import Derived.Test.YtikimjgbbbajoaaClGains
import Derived.Test.YtikimjgbbbajoaaPlOnes
namespace Go.Pv
open Go.Vc
open Go.Proofs
set_option maxRecDepth 10000
set_option maxHeartbeats 4000000

theorem closureOnes (g : List Cx) (l : List Vis) (a b c d : Int) (hg : ∀ v ∈ g, Enc.ok v) (hl : ∀ v ∈ l, Enc.ok v) : Ret Try.prog 9 [sl g, sl l, i64 a, i64 b, i64 c, i64 d] [] (.p (bl true)) := by
  refine ret (fn := Try.f9) (by kernel_rfl) (by kernel_rfl) rfl ?_
  refine ⟨[], _, w_alive, rfl, ?_⟩
  refine ⟨[], _, r_check27 l, rfl, ?_⟩
  refine ⟨fun h1 => ?_, fun h1 => ?_⟩
  rotate_left
  · rfl
  have h0 : ck27 l = 0 := by simpa using h1
  obtain ⟨hlen, hgood, _⟩ := ck27_0 h0
  refine ⟨[], _, r_check26 g, rfl, ?_⟩
  refine ⟨fun h2 => ?_, fun h2 => ?_⟩
  rotate_left
  · rfl
  have hk' : ck26 g = 0 := by simpa using h2
  refine ⟨fun h3 => ?_, fun h3 => ?_⟩
  rotate_left
  · rfl
  have h8 : g.length = 8 := by simp at h3; omega
  refine ⟨fun h => absurd h (by decide), fun _ => ?_⟩
  have ct := l_triples l hl
  rw [triples, if_neg (by simp [h0])] at ct
  refine ⟨[], _, ct, rfl, ?_⟩
  refine ⟨fun h => absurd h (by simp), fun _ => ?_⟩
  have htl := tris_length l 512
  have hup : ∀ t ∈ tris l 512, t.a < t.b ∧ t.b < t.c := fun t ht => tris_up ht
  have hhas := fun ha hab hbc hc => tris_has (l := l) hgood (a := a) (b := b) (c := c) ha hab hbc hc
  generalize tris l 512 = ts at *
  refine ⟨Nat, { inv := fun k => k ≤ ts.length, slots := [(17, fun k => i64 k), (16, fun k => bl (decide ((⟨a, b, c⟩ : Tri) ∈ ts.take k)))], mu := fun k => ts.length - k }, 0, ⟨⟨rfl, (by show PV.v (.bool false) = bl (decide _); simp), trivial⟩, trivial, (by repeat' first | exact trivial | rfl | apply And.intro), Nat.zero_le _⟩, ?_⟩
  intro k hk
  refine ⟨fun h4 => ?_, fun h4 => ?_⟩
  · have h4 : k < ts.length := by simpa using h4
    have u := hup ts[k] (List.getElem_mem h4)
    have hmem : (⟨a, b, c⟩ : Tri) ∈ ts.take (k + 1) ↔ (⟨a, b, c⟩ : Tri) ∈ ts.take k ∨ (⟨a, b, c⟩ : Tri) = ts[k] := by
      rw [List.take_succ_eq_append_getElem h4, List.mem_append]; simp
    refine ⟨k, rfl, h4, by decide, _, idx h4, rfl, ?_⟩
    refine ⟨0, rfl, by decide, _, rfl, rfl, ?_⟩
    refine ⟨k, rfl, h4, by decide, _, idx h4, rfl, ?_⟩
    refine ⟨1, rfl, by decide, _, rfl, rfl, ?_⟩
    refine ⟨fun h5 => ?_, fun h5 => ?_⟩
    rotate_left
    · have h5 : ts[k].a ≥ ts[k].b := by simpa using h5
      omega
    refine ⟨k, rfl, h4, by decide, _, idx h4, rfl, ?_⟩
    refine ⟨1, rfl, by decide, _, rfl, rfl, ?_⟩
    refine ⟨k, rfl, h4, by decide, _, idx h4, rfl, ?_⟩
    refine ⟨2, rfl, by decide, _, rfl, rfl, ?_⟩
    refine ⟨fun h6 => ?_, fun h6 => ?_⟩
    · have h6 : ts[k].b ≥ ts[k].c := by simpa using h6
      omega
    have eT : ∀ x y : Tri, eqPL [i64 x.a, i64 x.b, i64 x.c] [i64 y.a, i64 y.b, i64 y.c] = decide (x = y) := fun x y => by
      cases x; cases y; rw [Bool.eq_iff_iff]; simp [eqPL, eqP]
    refine ⟨fun h7 => ?_, fun h7 => ?_⟩
    · refine ⟨k, rfl, h4, by decide, _, idx h4, rfl, ?_⟩
      refine ⟨k + 1, by show _ < _; simp; omega, ⟨rfl, rfl⟩, ⟨by show PV.v (.int _ _) = _; rw [succ_w (by omega)], ?_, trivial⟩, trivial, (by repeat' first | exact trivial | rfl | apply And.intro), h4⟩
      have h7 : ¬ (⟨a, b, c⟩ : Tri) ∈ ts.take k := by simpa using h7
      show bl (eqPL [i64 ts[k].a, i64 ts[k].b, i64 ts[k].c] [i64 (Tri.mk a b c).a, i64 (Tri.mk a b c).b, i64 (Tri.mk a b c).c]) = bl (decide _)
      rw [eT]
      congr 2
      exact propext ⟨fun h => hmem.2 (.inr h.symm), fun h => ((hmem.1 h).resolve_left h7).symm⟩
    · refine ⟨k + 1, by show _ < _; simp; omega, ⟨rfl, rfl⟩, ⟨by show PV.v (.int _ _) = _; rw [succ_w (by omega)], ?_, trivial⟩, trivial, (by repeat' first | exact trivial | rfl | apply And.intro), h4⟩
      have h7 : (⟨a, b, c⟩ : Tri) ∈ ts.take k := by simpa using h7
      show PV.v (.bool _) = bl (decide _)
      rw [decide_eq_true (hmem.2 (.inl h7))]
      try rfl
      try simp [h7]
  have h4 : ¬ k < ts.length := by simpa using h4
  have : k = ts.length := by simp only at hk; omega
  subst this
  refine ⟨[], _, l_phase l [a, b, c] hl (by simp), rfl, ?_⟩
  have h6 := @phase_6 l h0 a b c
  have hon := ones_ck h0
  have hong : ∀ v ∈ onesOf l, Enc.ok v := fun v hv => by
    unfold onesOf at hv
    rw [List.mem_map] at hv
    obtain ⟨u, hu, rfl⟩ := hv
    have := hl u hu
    exact ⟨this.1, this.2.1, ok_valid one_valid, this.2.2.2⟩
  have col : (onesOf l).length = l.length := by simp [onesOf]
  have cray : Ret Try.prog 31 [cx one] [] (resC (one, 0)) := by
    have := c_ray one (ok_valid one_valid)
    rwa [show ray one = (one, 0) from by decide +kernel] at this
  refine And.intro (fun p1 => ?_) (fun p1 => ?_)
  · refine And.intro (fun p2 => ?_) (fun p2 => ?_)
    · refine ⟨[], _, r_circle [a, b, c] (by simp), rfl, ?_⟩
      refine And.intro (fun p3 => ?_) (fun p3 => ?_)
      · refine And.intro (fun p4 => ?_) (fun p4 => ?_)
        · exfalso
          have hc : circle [a, b, c] := by simpa using p3
          have q1 : a < b := by simpa using p1
          have q2 : b < c := by simpa using p2
          have A := hc.2.2.1
          have e := (hhas (A a (by simp)).1 q1 q2 (A c (by simp)).2).trans (h6 hc).symm
          have p4 : (decide ((⟨a, b, c⟩ : Tri) ∈ ts.take ts.length) != ((phase l [a, b, c]).2 != 6)) = true := p4
          rw [List.take_length] at p4
          by_cases m : (⟨a, b, c⟩ : Tri) ∈ ts
          · have := e.1 m; simp [m, this] at p4
          · have n : (phase l [a, b, c]).2 = 6 := Decidable.byContradiction fun h => m (e.2 h)
            simp [m, n] at p4
        · clear p4
          refine ⟨Nat, { inv := fun k => k ≤ l.length, slots := [(21, fun k => i64 k)], rows := [(20, 58, 6, fun k => k, fun k => flat (onesOf (l.take k)))], mu := fun k => l.length - k }, 0, ⟨⟨rfl, trivial⟩, ⟨⟨rfl, rfl⟩, trivial⟩, (by repeat' first | exact trivial | rfl | apply And.intro), Nat.zero_le _⟩, ?_⟩
          intro k hk
          refine ⟨fun r1 => ?_, fun r1 => ?_⟩
          · have r1 : k < l.length := by simpa using r1
            refine ⟨k, rfl, r1, by decide, _, idx r1, rfl, ?_⟩
            refine ⟨k, rfl, r1, by decide, _, idx r1, rfl, ?_⟩
            refine ⟨_, r_one, rfl, ?_⟩
            refine ⟨k, rfl, r1, by decide, _, idx r1, rfl, ?_⟩
            refine ⟨⟨by show k + 1 ≤ _; omega, by show (k + 1) * 48 ≤ _; omega⟩, ?_⟩
            refine ⟨k + 1, by show _ < _; simp; omega, ⟨rfl, rfl⟩, ⟨by show PV.v (.int _ _) = _; rw [succ_w (by omega)], trivial⟩, ⟨⟨rfl, ?_⟩, trivial⟩, (by repeat' first | exact trivial | rfl | apply And.intro), r1⟩
            show _ ++ _ = flat _
            rw [List.take_succ_eq_append_getElem r1]
            unfold onesOf
            rw [List.map_append, List.map_singleton, flat_snoc]; rfl
          · have r1 : ¬ k < l.length := by simpa using r1
            have : k = l.length := by simp only at hk; omega
            subst this
            refine ⟨[], resV (act26 g (onesOf l)), ?_, rfl, ?_⟩
            · show Ret Try.prog 29 [sl g, .sl false l.length (flat (onesOf (l.take l.length)))] [] _
              have e : (PV.sl false l.length (flat (onesOf (l.take l.length)))) = sl (onesOf l) := by
                rw [List.take_length]; show _ = PV.sl false (onesOf l).length _; rw [col]
              rw [e]
              exact g_act g (onesOf l) hg hong
            refine ⟨fun h5 => ?_, fun h5 => ?_⟩
            · have h5 : (act26 g (onesOf l)).2 ≠ 0 := by simpa using h5
              rcases act26_err hon hk' h8 with h | h
              · exact absurd h h5
              · refine ⟨fun _ => ?_, fun h => absurd h (by decide)⟩
                show SV.p (bl _) = SV.p (bl true)
                rw [h]; rfl
            have h5 : (act26 g (onesOf l)).2 = 0 := by simpa using h5
            have H := acts_of hon h8 h5
            have hm := act_okV hong H h5
            refine ⟨[], _, l_phase (act26 g (onesOf l)).1 [a, b, c] hm (by simp), rfl, ?_⟩
            refine ⟨[], _, l_amp (act26 g (onesOf l)).1 a b c d hm, rfl, ?_⟩
            refine ⟨[], _, r_one, rfl, ?_⟩
            refine ⟨[], _, cray, rfl, ?_⟩
            have s1 := fun h => ones_phase H (a := a) (b := b) (c := c) h
            have s2 := fun h => ones_amp H (a := a) (b := b) (c := c) (d := d) h
            clear H hm
            generalize phase (act26 g (onesOf l)).1 [a, b, c] = x at *
            generalize amp (act26 g (onesOf l)).1 a b c d = u at *
            obtain ⟨X, i⟩ := x
            obtain ⟨U, j⟩ := u
            simp only at s1 s2
            have eU := eqPL_fr U ⟨1, 1⟩
            have eX := eqPL_cx X one
            repeat' (refine And.intro (fun _ => ?_) (fun _ => ?_))
            all_goals show SV.p (bl _) = SV.p (bl true)
            all_goals first
              | rfl
              | (exfalso; grind)
              | (rw [eqPL_fr U ⟨1, 1⟩]; grind)
              | grind
      · skip
        refine ⟨Nat, { inv := fun k => k ≤ l.length, slots := [(21, fun k => i64 k)], rows := [(20, 58, 6, fun k => k, fun k => flat (onesOf (l.take k)))], mu := fun k => l.length - k }, 0, ⟨⟨rfl, trivial⟩, ⟨⟨rfl, rfl⟩, trivial⟩, (by repeat' first | exact trivial | rfl | apply And.intro), Nat.zero_le _⟩, ?_⟩
        intro k hk
        refine ⟨fun r1 => ?_, fun r1 => ?_⟩
        · have r1 : k < l.length := by simpa using r1
          refine ⟨k, rfl, r1, by decide, _, idx r1, rfl, ?_⟩
          refine ⟨k, rfl, r1, by decide, _, idx r1, rfl, ?_⟩
          refine ⟨_, r_one, rfl, ?_⟩
          refine ⟨k, rfl, r1, by decide, _, idx r1, rfl, ?_⟩
          refine ⟨⟨by show k + 1 ≤ _; omega, by show (k + 1) * 48 ≤ _; omega⟩, ?_⟩
          refine ⟨k + 1, by show _ < _; simp; omega, ⟨rfl, rfl⟩, ⟨by show PV.v (.int _ _) = _; rw [succ_w (by omega)], trivial⟩, ⟨⟨rfl, ?_⟩, trivial⟩, (by repeat' first | exact trivial | rfl | apply And.intro), r1⟩
          show _ ++ _ = flat _
          rw [List.take_succ_eq_append_getElem r1]
          unfold onesOf
          rw [List.map_append, List.map_singleton, flat_snoc]; rfl
        · have r1 : ¬ k < l.length := by simpa using r1
          have : k = l.length := by simp only at hk; omega
          subst this
          refine ⟨[], resV (act26 g (onesOf l)), ?_, rfl, ?_⟩
          · show Ret Try.prog 29 [sl g, .sl false l.length (flat (onesOf (l.take l.length)))] [] _
            have e : (PV.sl false l.length (flat (onesOf (l.take l.length)))) = sl (onesOf l) := by
              rw [List.take_length]; show _ = PV.sl false (onesOf l).length _; rw [col]
            rw [e]
            exact g_act g (onesOf l) hg hong
          refine ⟨fun h5 => ?_, fun h5 => ?_⟩
          · have h5 : (act26 g (onesOf l)).2 ≠ 0 := by simpa using h5
            rcases act26_err hon hk' h8 with h | h
            · exact absurd h h5
            · refine ⟨fun _ => ?_, fun h => absurd h (by decide)⟩
              show SV.p (bl _) = SV.p (bl true)
              rw [h]; rfl
          have h5 : (act26 g (onesOf l)).2 = 0 := by simpa using h5
          have H := acts_of hon h8 h5
          have hm := act_okV hong H h5
          refine ⟨[], _, l_phase (act26 g (onesOf l)).1 [a, b, c] hm (by simp), rfl, ?_⟩
          refine ⟨[], _, l_amp (act26 g (onesOf l)).1 a b c d hm, rfl, ?_⟩
          refine ⟨[], _, r_one, rfl, ?_⟩
          refine ⟨[], _, cray, rfl, ?_⟩
          have s1 := fun h => ones_phase H (a := a) (b := b) (c := c) h
          have s2 := fun h => ones_amp H (a := a) (b := b) (c := c) (d := d) h
          clear H hm
          generalize phase (act26 g (onesOf l)).1 [a, b, c] = x at *
          generalize amp (act26 g (onesOf l)).1 a b c d = u at *
          obtain ⟨X, i⟩ := x
          obtain ⟨U, j⟩ := u
          simp only at s1 s2
          have eU := eqPL_fr U ⟨1, 1⟩
          have eX := eqPL_cx X one
          repeat' (refine And.intro (fun _ => ?_) (fun _ => ?_))
          all_goals show SV.p (bl _) = SV.p (bl true)
          all_goals first
            | rfl
            | (exfalso; grind)
            | (rw [eqPL_fr U ⟨1, 1⟩]; grind)
            | grind
    · skip
      refine ⟨Nat, { inv := fun k => k ≤ l.length, slots := [(21, fun k => i64 k)], rows := [(20, 58, 6, fun k => k, fun k => flat (onesOf (l.take k)))], mu := fun k => l.length - k }, 0, ⟨⟨rfl, trivial⟩, ⟨⟨rfl, rfl⟩, trivial⟩, (by repeat' first | exact trivial | rfl | apply And.intro), Nat.zero_le _⟩, ?_⟩
      intro k hk
      refine ⟨fun r1 => ?_, fun r1 => ?_⟩
      · have r1 : k < l.length := by simpa using r1
        refine ⟨k, rfl, r1, by decide, _, idx r1, rfl, ?_⟩
        refine ⟨k, rfl, r1, by decide, _, idx r1, rfl, ?_⟩
        refine ⟨_, r_one, rfl, ?_⟩
        refine ⟨k, rfl, r1, by decide, _, idx r1, rfl, ?_⟩
        refine ⟨⟨by show k + 1 ≤ _; omega, by show (k + 1) * 48 ≤ _; omega⟩, ?_⟩
        refine ⟨k + 1, by show _ < _; simp; omega, ⟨rfl, rfl⟩, ⟨by show PV.v (.int _ _) = _; rw [succ_w (by omega)], trivial⟩, ⟨⟨rfl, ?_⟩, trivial⟩, (by repeat' first | exact trivial | rfl | apply And.intro), r1⟩
        show _ ++ _ = flat _
        rw [List.take_succ_eq_append_getElem r1]
        unfold onesOf
        rw [List.map_append, List.map_singleton, flat_snoc]; rfl
      · have r1 : ¬ k < l.length := by simpa using r1
        have : k = l.length := by simp only at hk; omega
        subst this
        refine ⟨[], resV (act26 g (onesOf l)), ?_, rfl, ?_⟩
        · show Ret Try.prog 29 [sl g, .sl false l.length (flat (onesOf (l.take l.length)))] [] _
          have e : (PV.sl false l.length (flat (onesOf (l.take l.length)))) = sl (onesOf l) := by
            rw [List.take_length]; show _ = PV.sl false (onesOf l).length _; rw [col]
          rw [e]
          exact g_act g (onesOf l) hg hong
        refine ⟨fun h5 => ?_, fun h5 => ?_⟩
        · have h5 : (act26 g (onesOf l)).2 ≠ 0 := by simpa using h5
          rcases act26_err hon hk' h8 with h | h
          · exact absurd h h5
          · refine ⟨fun _ => ?_, fun h => absurd h (by decide)⟩
            show SV.p (bl _) = SV.p (bl true)
            rw [h]; rfl
        have h5 : (act26 g (onesOf l)).2 = 0 := by simpa using h5
        have H := acts_of hon h8 h5
        have hm := act_okV hong H h5
        refine ⟨[], _, l_phase (act26 g (onesOf l)).1 [a, b, c] hm (by simp), rfl, ?_⟩
        refine ⟨[], _, l_amp (act26 g (onesOf l)).1 a b c d hm, rfl, ?_⟩
        refine ⟨[], _, r_one, rfl, ?_⟩
        refine ⟨[], _, cray, rfl, ?_⟩
        have s1 := fun h => ones_phase H (a := a) (b := b) (c := c) h
        have s2 := fun h => ones_amp H (a := a) (b := b) (c := c) (d := d) h
        clear H hm
        generalize phase (act26 g (onesOf l)).1 [a, b, c] = x at *
        generalize amp (act26 g (onesOf l)).1 a b c d = u at *
        obtain ⟨X, i⟩ := x
        obtain ⟨U, j⟩ := u
        simp only at s1 s2
        have eU := eqPL_fr U ⟨1, 1⟩
        have eX := eqPL_cx X one
        repeat' (refine And.intro (fun _ => ?_) (fun _ => ?_))
        all_goals show SV.p (bl _) = SV.p (bl true)
        all_goals first
          | rfl
          | (exfalso; grind)
          | (rw [eqPL_fr U ⟨1, 1⟩]; grind)
          | grind
  · skip
    refine ⟨Nat, { inv := fun k => k ≤ l.length, slots := [(21, fun k => i64 k)], rows := [(20, 58, 6, fun k => k, fun k => flat (onesOf (l.take k)))], mu := fun k => l.length - k }, 0, ⟨⟨rfl, trivial⟩, ⟨⟨rfl, rfl⟩, trivial⟩, (by repeat' first | exact trivial | rfl | apply And.intro), Nat.zero_le _⟩, ?_⟩
    intro k hk
    refine ⟨fun r1 => ?_, fun r1 => ?_⟩
    · have r1 : k < l.length := by simpa using r1
      refine ⟨k, rfl, r1, by decide, _, idx r1, rfl, ?_⟩
      refine ⟨k, rfl, r1, by decide, _, idx r1, rfl, ?_⟩
      refine ⟨_, r_one, rfl, ?_⟩
      refine ⟨k, rfl, r1, by decide, _, idx r1, rfl, ?_⟩
      refine ⟨⟨by show k + 1 ≤ _; omega, by show (k + 1) * 48 ≤ _; omega⟩, ?_⟩
      refine ⟨k + 1, by show _ < _; simp; omega, ⟨rfl, rfl⟩, ⟨by show PV.v (.int _ _) = _; rw [succ_w (by omega)], trivial⟩, ⟨⟨rfl, ?_⟩, trivial⟩, (by repeat' first | exact trivial | rfl | apply And.intro), r1⟩
      show _ ++ _ = flat _
      rw [List.take_succ_eq_append_getElem r1]
      unfold onesOf
      rw [List.map_append, List.map_singleton, flat_snoc]; rfl
    · have r1 : ¬ k < l.length := by simpa using r1
      have : k = l.length := by simp only at hk; omega
      subst this
      refine ⟨[], resV (act26 g (onesOf l)), ?_, rfl, ?_⟩
      · show Ret Try.prog 29 [sl g, .sl false l.length (flat (onesOf (l.take l.length)))] [] _
        have e : (PV.sl false l.length (flat (onesOf (l.take l.length)))) = sl (onesOf l) := by
          rw [List.take_length]; show _ = PV.sl false (onesOf l).length _; rw [col]
        rw [e]
        exact g_act g (onesOf l) hg hong
      refine ⟨fun h5 => ?_, fun h5 => ?_⟩
      · have h5 : (act26 g (onesOf l)).2 ≠ 0 := by simpa using h5
        rcases act26_err hon hk' h8 with h | h
        · exact absurd h h5
        · refine ⟨fun _ => ?_, fun h => absurd h (by decide)⟩
          show SV.p (bl _) = SV.p (bl true)
          rw [h]; rfl
      have h5 : (act26 g (onesOf l)).2 = 0 := by simpa using h5
      have H := acts_of hon h8 h5
      have hm := act_okV hong H h5
      refine ⟨[], _, l_phase (act26 g (onesOf l)).1 [a, b, c] hm (by simp), rfl, ?_⟩
      refine ⟨[], _, l_amp (act26 g (onesOf l)).1 a b c d hm, rfl, ?_⟩
      refine ⟨[], _, r_one, rfl, ?_⟩
      refine ⟨[], _, cray, rfl, ?_⟩
      have s1 := fun h => ones_phase H (a := a) (b := b) (c := c) h
      have s2 := fun h => ones_amp H (a := a) (b := b) (c := c) (d := d) h
      clear H hm
      generalize phase (act26 g (onesOf l)).1 [a, b, c] = x at *
      generalize amp (act26 g (onesOf l)).1 a b c d = u at *
      obtain ⟨X, i⟩ := x
      obtain ⟨U, j⟩ := u
      simp only at s1 s2
      have eU := eqPL_fr U ⟨1, 1⟩
      have eX := eqPL_cx X one
      repeat' (refine And.intro (fun _ => ?_) (fun _ => ?_))
      all_goals show SV.p (bl _) = SV.p (bl true)
      all_goals first
        | rfl
        | (exfalso; grind)
        | (rw [eqPL_fr U ⟨1, 1⟩]; grind)
        | grind
end Go.Pv

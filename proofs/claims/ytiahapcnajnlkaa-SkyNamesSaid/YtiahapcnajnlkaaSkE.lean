/- Contracts of the sky's functions: Turned, images. -/
import Derived.Test.YtiahapcnajnlkaaSkD
namespace Go.Pv
open Go.Vc
open Go.Proofs
set_option maxRecDepth 10000

theorem skyTurned (p : List Place) (l : List Lamp) (x y : Int) : Ret Try.prog 24 [sl p, sl l, i64 x, i64 y] [] (resV (turnd p l x y)) := by
  refine ret (fn := Try.f24) (by kernel_rfl) (by kernel_rfl) rfl ?_
  refine ⟨_, _, skySee p l, rfl, ?_⟩
  have es : (see p l).2 = both41 p l := by
    rw [see]; split
    · rfl
    · rename_i h; simp at h; exact h.symm
  refine ⟨fun h1 => ?_, fun h1 => ?_⟩
  · simp at h1
    rw [es] at h1
    show SV.tup [.p (.sl false 0 []), .p (i64 (see p l).2)] = _
    rw [es, turnd, if_pos h1]; rfl
  simp at h1
  rw [es] at h1
  obtain ⟨hp, hl⟩ := both_0 h1
  obtain ⟨hn8, hn2, hpl⟩ := places_0 hp
  have hin : ¬ (-8 ≤ x ∧ x ≤ 8 ∧ -8 ≤ y ∧ y ≤ 8) → SV.tup [.p (.sl false 0 []), .p (i64 2)] = resV (turnd p l x y) := fun h => by rw [turnd, if_neg (by simp [h1]), if_neg h]; rfl
  have e1 : (see p l).1 = turned p l 0 0 := by rw [see, if_neg (by simp [h1])]
  refine ⟨fun h2 => ?_, fun h2 => ?_⟩
  rotate_left
  · simp at h2; exact hin (by omega)
  refine ⟨fun h3 => ?_, fun h3 => ?_⟩
  rotate_left
  · simp at h3; exact hin (by omega)
  refine ⟨fun h4 => ?_, fun h4 => ?_⟩
  rotate_left
  · simp at h4; exact hin (by omega)
  refine ⟨fun h5 => ?_, fun h5 => ?_⟩
  · simp at h5; exact hin (by omega)
  simp at h2 h3 h4 h5
  have hle := prs_le hn8
  have hlen := turned_length p l 0 0
  generalize ha : turned p l 0 0 = a at *
  have hab : ∀ v ∈ a, (-16000 ≤ v.v.re ∧ v.v.re ≤ 16000) ∧ (-16000 ≤ v.v.im ∧ v.v.im ≤ 16000) := by rw [← ha]; exact turned_bound hl 0 0
  have haq : ∀ v ∈ a, ∃ i j : Nat, v.i = i ∧ v.j = j ∧ i < p.length ∧ j < p.length := by
    intro v hv
    rw [← ha, turned, List.mem_map] at hv
    obtain ⟨q, hq, rfl⟩ := hv
    have := mem_prs hq
    exact ⟨q.1, q.2, rfl, rfl, by omega, by omega⟩
  refine ⟨Nat, { inv := fun k => k ≤ a.length, slots := [(39, fun k => i64 k)], boxes := [(0, fun k => flat (mixT (turnV p x y) a k))], mu := fun k => a.length - k }, 0, ⟨⟨rfl, trivial⟩, trivial, ⟨⟨rfl, ?_⟩, trivial⟩, Nat.zero_le _⟩, ?_⟩
  · show flat (see p l).1 = flat (mixT (turnV p x y) a 0)
    rw [mixT_0, e1]
  intro k hk
  refine ⟨fun h6 => ?_, fun h6 => ?_⟩
  · rw [e1] at h6
    simp at h6
    have hml := mixT_length (turnV p x y) a k
    have hk' : k < (mixT (turnV p x y) a k).length := by omega
    have hid := idx hk'
    rw [mixT_get' _ h6] at hid
    refine ⟨k, rfl, by rw [e1]; exact h6, _, hid, rfl, ?_⟩
    obtain ⟨i, j, hi, hj, hil, hjl⟩ := haq a[k] (List.getElem_mem h6)
    have hb := hab a[k] (List.getElem_mem h6)
    refine ⟨.p (i64 (qs p i j x y)), ?_, rfl, ?_⟩
    · show Ret Try.prog 38 [sl p, i64 a[k].i, i64 a[k].j, i64 x, i64 y] [] _
      rw [hi, hj]
      exact skyQuarters hpl hil hjl (x := x) (y := y) (by omega) (by omega)
    refine ⟨_, skyTurn a[k].v (qs p i j x y) (by unfold fits; omega), rfl, ?_⟩
    refine ⟨k, rfl, by rw [e1]; exact h6, ?_⟩
    refine ⟨by show k * 6 + 2 + 3 ≤ (flat (mixT (turnV p x y) a k)).length; rw [flat_length, hml]; show _ ≤ a.length * 6; omega, ?_⟩
    refine ⟨k + 1, by show _ < _; simp; omega, ⟨rfl, rfl⟩, ⟨by show PV.v (.int _ _) = _; rw [succ_w (by omega)], trivial⟩, trivial, ⟨⟨rfl, ?_⟩, trivial⟩, h6⟩
    show spl (flat (mixT (turnV p x y) a k)) (k * 6 + 2) (Enc.cs (gtc (qs p i j x y) a[k].v)) = flat (mixT (turnV p x y) a (k + 1))
    rw [← mixT_set _ h6]
    refine flat_put_part hk' _ _ ?_ (by show 2 + 3 ≤ 6; decide)
    rw [mixT_get' _ h6, turnV, show a[k].i.toNat = i by omega, show a[k].j.toNat = j by omega]
    rfl
  · rw [e1] at h6
    simp at h6
    have : k = a.length := by simp only at hk; omega
    subst this
    show SV.tup [.p (.sl false (see p l).1.length (flat (mixT (turnV p x y) a a.length))), .p (i64 0)] = resV _
    rw [mixT_end, ← ha, turned_turnV, e1, turnd, if_neg (by simp [h1]), if_pos (by omega)]
    rw [show a.length = (turned p l x y).length by rw [hlen, turned_length]]

theorem refSameImage (xs ys : List (List Int)) (hn : xs.length ≤ 1000000) (hx : ∀ a ∈ xs, a.length ≤ 1000000) : Ret Try.prog 30 [sl xs, sl ys] [] (.p (bl (decide (xs = ys)))) := by
  refine ret (fn := Try.f30) (by kernel_rfl) (by kernel_rfl) rfl ?_
  refine ⟨fun h1 => ?_, fun h1 => ?_⟩
  · show SV.p (bl _) = _
    simp at h1
    have : xs ≠ ys := by rintro rfl; exact h1 rfl
    simp [this]
  simp at h1
  refine ⟨Nat, { inv := fun k => k ≤ xs.length ∧ xs.take k = ys.take k, slots := [(5, fun k => i64 k)], mu := fun k => xs.length - k }, 0, ⟨⟨rfl, trivial⟩, trivial, trivial, Nat.zero_le _, by simp⟩, ?_⟩
  intro k ⟨hk, hall⟩
  refine ⟨fun h2 => ?_, fun h2 => ?_⟩
  · simp at h2
    have h2' : k < ys.length := by omega
    have hxk := hx xs[k] (List.getElem_mem h2)
    refine ⟨k, rfl, h2, by decide, _, idx h2, rfl, ?_⟩
    refine ⟨k, rfl, h2', by decide, _, idx h2', rfl, ?_⟩
    refine ⟨fun h3 => ?_, fun h3 => ?_⟩
    · show SV.p (bl _) = _
      simp at h3
      have : xs ≠ ys := by rintro rfl; exact h3 rfl
      simp [this]
    simp at h3
    refine ⟨Nat, { inv := fun m => m ≤ xs[k].length ∧ xs[k].take m = ys[k].take m, slots := [(6, fun m => i64 m)], mu := fun m => xs[k].length - m }, 0, ⟨⟨rfl, trivial⟩, trivial, trivial, Nat.zero_le _, by simp⟩, ?_⟩
    intro m ⟨hm, hall'⟩
    refine ⟨k, rfl, h2, by decide, _, idx h2, rfl, ?_⟩
    refine ⟨fun h4 => ?_, fun h4 => ?_⟩
    · simp at h4
      have h4' : m < ys[k].length := by omega
      refine ⟨k, rfl, h2, by decide, _, idx h2, rfl, ?_⟩
      refine ⟨m, rfl, h4, by decide, _, idx h4, rfl, ?_⟩
      refine ⟨k, rfl, h2', by decide, _, idx h2', rfl, ?_⟩
      refine ⟨m, rfl, h4', by decide, _, idx h4', rfl, ?_⟩
      refine ⟨fun h5 => ?_, fun h5 => ?_⟩
      · show SV.p (bl _) = _
        simp at h5
        have : xs ≠ ys := by rintro rfl; exact h5 rfl
        simp [this]
      · simp at h5
        refine ⟨m + 1, by show _ < _; simp; omega, ⟨rfl, rfl⟩, ⟨by show PV.v (.int _ _) = _; rw [succ_w (by omega)], trivial⟩, trivial, trivial, h4, ?_⟩
        rw [List.take_succ_eq_append_getElem h4, List.take_succ_eq_append_getElem h4', hall', h5]
    · simp at h4
      have e1 : m = xs[k].length := by omega
      have e2 : m = ys[k].length := by omega
      rw [e1, List.take_length, ← e1, e2, List.take_length] at hall'
      refine ⟨k + 1, by show _ < _; simp; omega, ⟨rfl, rfl⟩, ⟨by show PV.v (.int _ _) = _; rw [succ_w (by omega)], trivial⟩, trivial, trivial, h2, ?_⟩
      rw [List.take_succ_eq_append_getElem h2, List.take_succ_eq_append_getElem h2', hall, hall']
  · simp at h2
    have e1 : k = xs.length := by omega
    have e2 : k = ys.length := by omega
    rw [e1, List.take_length, ← e1, e2, List.take_length] at hall
    show SV.p (bl _) = _
    simp [hall]

/-- An image and an error. -/
abbrev resI (r : List (List Int) × Int) : SV := .tup [.p (sl r.1), .p (i64 r.2)]

theorem refDirty (p : List Place) (l : List Lamp) (n : Int) : Ret Try.prog 26 [sl p, sl l, i64 n] [] (resI (dirty p l n)) := by
  refine ret (fn := Try.f26) (by kernel_rfl) (by kernel_rfl) rfl ?_
  refine ⟨[], _, refBoth p l, rfl, ?_⟩
  refine ⟨fun h1 => ?_, fun h1 => ?_⟩
  · simp at h1
    rw [dirty, if_pos h1]; rfl
  simp at h1
  obtain ⟨hp, hl⟩ := both_0 h1
  obtain ⟨hn8, hn2, hpl⟩ := places_0 hp
  refine ⟨[], _, refIn _ _ _, rfl, ?_⟩
  refine ⟨fun h2 => ?_, fun h2 => ?_⟩
  · simp at h2
    rw [dirty, if_neg (by simp [h1]), if_neg (by omega)]; rfl
  simp at h2
  obtain ⟨n, rfl⟩ : ∃ m : Nat, n = m := ⟨n.toNat, by omega⟩
  refine ⟨Nat, { inv := fun y => y ≤ n, slots := [(10, fun y => i64 y)], rows := [(9, 53, 1, fun y => y, fun y => flat ((List.range y).map fun y => irow p l n y))], mu := fun y => n - y }, 0, ⟨⟨rfl, trivial⟩, ⟨⟨rfl, rfl⟩, trivial⟩, trivial, Nat.zero_le _⟩, ?_⟩
  intro y hy
  refine ⟨fun h3 => ?_, fun h3 => ?_⟩
  · simp at h3
    refine ⟨Nat, { inv := fun x => x ≤ n, slots := [(12, fun x => i64 x)], rows := [(11, 3, 1, fun x => x, fun x => flat ((List.range x).map fun (x : Nat) => bright p l x y))], mu := fun x => n - x }, 0, ⟨⟨rfl, trivial⟩, ⟨⟨rfl, rfl⟩, trivial⟩, (by repeat' first | exact trivial | rfl | apply And.intro), Nat.zero_le _⟩, ?_⟩
    intro x hx
    refine ⟨fun h4 => ?_, fun h4 => ?_⟩
    · simp at h4
      have ex : IntKind.i64.wrap (0 - (x : Int)) = -(x : Int) := by rw [wrap_id (by omega) (by omega)]; omega
      have ey : IntKind.i64.wrap (0 - (y : Int)) = -(y : Int) := by rw [wrap_id (by omega) (by omega)]; omega
      refine ⟨[], .p (sl (turned p l (-x) (-y))), ?_, rfl, ?_⟩
      · show Ret Try.prog 39 [sl p, sl l, i64 (IntKind.i64.wrap (0 - (x : Int))), i64 (IntKind.i64.wrap (0 - (y : Int)))] [] _
        rw [ex, ey]
        exact refTurned hp hl (by omega) (by omega)
      have hb := turned_bound hl (p := p) (-(x : Int)) (-(y : Int))
      have hle := prs_le hn8
      have hlen := turned_length p l (-(x : Int)) (-(y : Int))
      have hbr := bright_eq p l x y
      generalize turned p l (-(x : Int)) (-(y : Int)) = a at *
      have hsb := sum_take_bound (B := 16000) (by decide) (l := res_ a) (fun z hz => by unfold res_ at hz; rw [List.mem_map] at hz; obtain ⟨v, hv, rfl⟩ := hz; exact (hb v hv).1) 28 (by unfold res_; rw [List.length_map]; omega)
      refine ⟨Nat, { inv := fun k => k ≤ a.length, slots := [(15, fun k => i64 k), (14, fun k => i64 ((res_ a).take k).sum)], mu := fun k => a.length - k }, 0, ⟨⟨rfl, rfl, trivial⟩, trivial, (by repeat' first | exact trivial | rfl | apply And.intro), Nat.zero_le _⟩, ?_⟩
      intro k hk
      refine ⟨fun h5 => ?_, fun h5 => ?_⟩
      · simp at h5
        have hr : k < (res_ a).length := by unfold res_; rw [List.length_map]; exact h5
        have hbk := hb a[k] (List.getElem_mem h5)
        have hs := hsb k
        refine ⟨k, rfl, h5, by decide, _, idx h5, rfl, ?_⟩
        refine ⟨k + 1, by show _ < _; simp; omega, ⟨rfl, rfl⟩, ⟨?_, ?_, trivial⟩, trivial, (by repeat' first | exact trivial | rfl | apply And.intro), h5⟩
        · show PV.v (.int _ _) = _
          rw [succ_w (by omega)]
        · show PV.v (.int _ (IntKind.i64.wrap (((res_ a).take k).sum + a[k].v.re))) = i64 ((res_ a).take (k + 1)).sum
          rw [sum_take_succ hr, wrap_id (by omega) (by omega)]
          simp [res_]
      · simp at h5
        have : k = a.length := by simp only at hk; omega
        subst this
        refine ⟨⟨by show x + 1 ≤ _; omega, by show (x + 1) * 8 ≤ _; omega⟩, ?_⟩
        refine ⟨x + 1, by show _ < _; simp; omega, ⟨rfl, rfl⟩, ⟨by show PV.v (.int _ _) = _; rw [succ_w (by omega)], trivial⟩, ⟨⟨rfl, ?_⟩, trivial⟩, (by repeat' first | exact trivial | rfl | apply And.intro), h4⟩
        show _ ++ [i64 ((res_ a).take a.length).sum] = flat ((List.range (x + 1)).map fun (x : Nat) => bright p l x y)
        rw [List.range_succ, List.map_append, List.map_singleton, flat_snoc, hbr, List.take_of_length_le (by unfold res_; rw [List.length_map]; omega)]
        rfl
    · simp at h4
      have : x = n := by simp only at hx; omega
      subst this
      refine ⟨⟨by show y + 1 ≤ _; omega, by show (y + 1) * 24 ≤ _; omega⟩, ?_⟩
      refine ⟨y + 1, by show _ < _; simp; omega, ⟨rfl, rfl⟩, ⟨by show PV.v (.int _ _) = _; rw [succ_w (by omega)], trivial⟩, ⟨⟨rfl, ?_⟩, trivial⟩, (by repeat' first | exact trivial | rfl | apply And.intro), h3⟩
      show _ ++ [PV.sl false x (flat (irow p l x y))] = flat ((List.range (y + 1)).map fun y => irow p l x y)
      rw [List.range_succ, List.map_append, List.map_singleton, flat_snoc]
      congr 1
      show _ = [PV.sl false (irow p l x y).length (flat (irow p l x y))]
      rw [show (irow p l x y).length = x by simp [irow]]
  · simp at h3
    have : y = n := by simp only at hy; omega
    subst this
    show SV.tup [.p (.sl false y (flat (image p l y))), .p (i64 0)] = resI _
    rw [dirty, if_neg (by simp [h1]), if_pos (by omega)]
    simp [image]

theorem skyDirty (p : List Place) (l : List Lamp) (n : Int) : Ret Try.prog 21 [sl p, sl l, i64 n] [] (resI (dirty p l n)) := by
  refine ret (fn := Try.f21) (by kernel_rfl) (by kernel_rfl) rfl ?_
  refine ⟨_, _, skySee p l, rfl, ?_⟩
  have es : (see p l).2 = both41 p l := by
    rw [see]; split
    · rfl
    · rename_i h; simp at h; exact h.symm
  refine ⟨fun h1 => ?_, fun h1 => ?_⟩
  · simp at h1
    rw [es] at h1
    show SV.tup [.p (.sl false 0 []), .p (i64 (see p l).2)] = _
    rw [es, dirty, if_pos h1]; rfl
  simp at h1
  rw [es] at h1
  obtain ⟨hp, hl⟩ := both_0 h1
  obtain ⟨hn8, hn2, hpl⟩ := places_0 hp
  have hin : ¬ (1 ≤ n ∧ n ≤ 8) → SV.tup [.p (.sl false 0 []), .p (i64 2)] = resI (dirty p l n) := fun h => by rw [dirty, if_neg (by simp [h1]), if_neg h]; rfl
  have e1 : (see p l).1 = turned p l 0 0 := by rw [see, if_neg (by simp [h1])]
  refine ⟨fun h2 => ?_, fun h2 => ?_⟩
  rotate_left
  · simp at h2; exact hin (by omega)
  refine ⟨fun h3 => ?_, fun h3 => ?_⟩
  · simp at h3; exact hin (by omega)
  simp at h2 h3
  obtain ⟨n, rfl⟩ : ∃ m : Nat, n = m := ⟨n.toNat, by omega⟩
  refine ⟨n, n, rfl, rfl, Nat.le_refl _, ⟨by show n + 0 ≤ _; omega, by show (n + 0) * 24 ≤ _; omega⟩, ?_⟩
  refine ⟨Nat, { inv := fun y => y ≤ n, slots := [(35, fun y => i64 y)], nrows := [(10, 53, 1, fun y => n, fun y => ims 3 p l n y)], mu := fun y => n - y }, 0, ⟨⟨rfl, trivial⟩, ⟨⟨rfl, ims_0 _ p l n⟩, trivial⟩, (by repeat' first | exact trivial | rfl | apply And.intro), Nat.zero_le _⟩, ?_⟩
  intro y hy
  refine ⟨fun h4 => ?_, fun h4 => ?_⟩
  · simp at h4
    refine ⟨n, n, rfl, rfl, Nat.le_refl _, ⟨by show n + 0 ≤ _; omega, by show (n + 0) * 8 ≤ _; omega⟩, ?_⟩
    refine ⟨y, rfl, h4, ?_⟩
    refine ⟨by show y * 1 + 1 ≤ (ims _ _ _ _ _).length; rw [ims_length]; omega, trivial, ?_⟩
    refine ⟨y, rfl, h4, [.ob 3], ⟨.inl ⟨rfl, rfl⟩, trivial⟩, rfl, by show y * 1 + 1 ≤ (ims _ _ _ _ _).length; rw [ims_length]; omega, ?_⟩
    refine ⟨Nat, { inv := fun x => x ≤ n, slots := [(48, fun x => i64 x)], boxes := [(3, fun x => flat (fillTo (fun (x : Nat) => bright p l x y) n x))], mu := fun x => n - x }, 0, ⟨⟨rfl, trivial⟩, trivial, ⟨⟨rfl, rfl⟩, trivial, ⟨rfl, rfl, rfl⟩, ⟨rfl, fillTo_0 _ _⟩, trivial⟩, Nat.zero_le _⟩, ?_⟩
    intro x hx
    refine ⟨fun h5 => ?_, fun h5 => ?_⟩
    · simp at h5
      have hb := turned_bound hl (p := p) 0 0
      have hle := prs_le hn8
      have hlen := turned_length p l 0 0
      have hbr := bright_eq p l x y
      have ht := turned_turnV p l (-(x : Int)) (-(y : Int))
      generalize ha : turned p l 0 0 = a at *
      rw [← ht] at hbr
      have haq : ∀ v ∈ a, ∃ i j : Nat, v.i = i ∧ v.j = j ∧ i < p.length ∧ j < p.length := by
        intro v hv
        rw [← ha, turned, List.mem_map] at hv
        obtain ⟨q, hq, rfl⟩ := hv
        have := mem_prs hq
        exact ⟨q.1, q.2, rfl, rfl, by omega, by omega⟩
      have hb2 : ∀ v ∈ a.map (turnV p (-(x : Int)) (-(y : Int))), (-16000 ≤ v.v.re ∧ v.v.re ≤ 16000) := by rw [ht]; exact fun v hv => (turned_bound hl _ _ v hv).1
      generalize hc : a.map (turnV p (-(x : Int)) (-(y : Int))) = c at *
      have hcl : c.length = a.length := by rw [← hc, List.length_map]
      have hsb := sum_take_bound (B := 16000) (by decide) (l := res_ c) (fun z hz => by unfold res_ at hz; rw [List.mem_map] at hz; obtain ⟨v, hv, rfl⟩ := hz; exact hb2 v hv) 28 (by unfold res_; rw [List.length_map]; omega)
      refine ⟨Nat, { inv := fun k => k ≤ a.length, slots := [(53, fun k => i64 k), (13, fun k => i64 ((res_ c).take k).sum)], mu := fun k => a.length - k }, 0, ⟨⟨rfl, rfl, trivial⟩, trivial, ⟨⟨rfl, rfl⟩, trivial, ⟨rfl, rfl, rfl⟩, ⟨rfl, rfl⟩, trivial⟩, Nat.zero_le _⟩, ?_⟩
      intro k hk
      refine ⟨fun h6 => ?_, fun h6 => ?_⟩
      · rw [e1] at h6
        simp at h6
        have hr : k < (res_ c).length := by unfold res_; rw [List.length_map]; omega
        have hk1 : k < (see p l).1.length := by rw [e1]; exact h6
        have hid := idx hk1
        rw [show (see p l).1[k] = a[k] by simp only [e1]] at hid
        refine ⟨k, rfl, hk1, _, hid, rfl, ?_⟩
        obtain ⟨i, j, hi, hj, hil, hjl⟩ := haq a[k] (List.getElem_mem h6)
        have hbk := hb a[k] (List.getElem_mem h6)
        refine ⟨.p (i64 (qs p i j x y)), ?_, rfl, ?_⟩
        · show Ret Try.prog 38 [sl p, i64 a[k].i, i64 a[k].j, i64 x, i64 y] [] _
          rw [hi, hj]
          exact skyQuarters hpl hil hjl (x := x) (y := y) (by omega) (by omega)
        have hq := qs_bound hpl (i := i) (j := j) (x := x) (y := y) (by omega) (by omega)
        have en : IntKind.i64.wrap (0 - qs p i j x y) = qs p i j (-x) (-y) := by rw [wrap_id (by omega) (by omega), qs_neg]; omega
        refine ⟨.p (cxv (gtc (qs p i j (-x) (-y)) a[k].v)), ?_, rfl, ?_⟩
        · show Ret Try.prog 37 [cxv a[k].v, i64 (IntKind.i64.wrap (0 - qs p i j x y))] [] _
          rw [en]
          exact skyTurn _ _ (by unfold fits; omega)
        have hs := hsb k
        have hck : (res_ c)[k] = (gtc (qs p i j (-x) (-y)) a[k].v).re := by
          simp only [res_, List.getElem_map, ← hc, turnV, hi, hj]
          rfl
        have hcb : -16000 ≤ (res_ c)[k] ∧ (res_ c)[k] ≤ 16000 := by
          simp only [res_, List.getElem_map]
          exact hb2 c[k] (List.getElem_mem (by omega))
        refine ⟨k + 1, by show _ < _; simp; omega, ⟨rfl, rfl⟩, ⟨?_, ?_, trivial⟩, trivial, ⟨⟨rfl, rfl⟩, trivial, ⟨rfl, rfl, rfl⟩, ⟨rfl, rfl⟩, trivial⟩, h6⟩
        · show PV.v (.int _ _) = _
          rw [succ_w (by omega)]
        · show PV.v (.int _ (IntKind.i64.wrap (((res_ c).take k).sum + (gtc (qs p i j (-x) (-y)) a[k].v).re))) = i64 ((res_ c).take (k + 1)).sum
          rw [sum_take_succ hr, ← hck, wrap_id (by omega) (by omega)]
      · rw [e1] at h6
        simp at h6
        have : k = a.length := by simp only at hk; omega
        subst this
        refine ⟨y, rfl, h4, [.ob 3], ⟨.inl ⟨rfl, rfl⟩, trivial⟩, rfl, by show y * 1 + 1 ≤ (ims _ _ _ _ _).length; rw [ims_length]; omega, ?_⟩
        refine ⟨x, rfl, h5, by show x * 1 + 1 ≤ (flat (fillTo _ _ _)).length; rw [flat_length, fillTo_length]; show _ ≤ n * 1; omega, ?_⟩
        refine ⟨x + 1, by show _ < _; simp; omega, ⟨rfl, rfl⟩, ⟨by show PV.v (.int _ _) = _; rw [succ_w (by omega)], trivial⟩, trivial, ⟨⟨rfl, rfl⟩, trivial, ⟨rfl, rfl, rfl⟩, ⟨rfl, ?_⟩, trivial⟩, h5⟩
        show spl (flat (fillTo (fun (x : Nat) => bright p l x y) n x)) (x * 1) (Enc.cs ((res_ c).take a.length).sum) = flat (fillTo (fun (x : Nat) => bright p l x y) n (x + 1))
        rw [← fillTo_set _ h5, List.take_of_length_le (by unfold res_; rw [List.length_map]; omega), ← hbr]
        exact flat_put (by rw [fillTo_length]; exact h5) (bright p l x y)
    · simp at h5
      have : x = n := by simp only at hx; omega
      subst this
      refine ⟨y + 1, by show _ < _; simp; omega, ⟨rfl, rfl⟩, ⟨by show PV.v (.int _ _) = _; rw [succ_w (by omega)], trivial⟩, ⟨⟨rfl, ?_⟩, trivial⟩, (by repeat' first | exact trivial | rfl | apply And.intro), h4⟩
      show (ims 3 p l x y).set (y * 1) (.ow 3 1 x (flat (fillTo (fun (x : Nat) => bright p l x y) x x))) = ims 3 p l x (y + 1)
      rw [fillTo_end, Nat.mul_one]
      exact ims_set _ p l h4
  · simp at h4
    have : y = n := by simp only at hy; omega
    subst this
    show SV.tup [.p (.sl false y ((ims _ p l y y).map ncP)), .p (i64 0)] = resI _
    rw [ims_end, dirty, if_neg (by simp [h1]), if_pos (by omega)]
    simp [image]
end Go.Pv

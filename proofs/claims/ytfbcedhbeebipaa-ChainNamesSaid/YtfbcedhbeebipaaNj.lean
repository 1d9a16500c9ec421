/- Contracts of the reference's chains: inverted, Invert. -/
import Derived.Test.YtfbcedhbeebipaaNi
namespace Go.Pv
open Go.Vc
open Go.Proofs
set_option maxRecDepth 10000

theorem good_small {s : Stg} {n m : Int} (h : s.good n m) (hn : n ≤ 8) (hm : m ≤ 16) : s.gains.length ≤ 8 ∧ s.band.length ≤ 8 ∧ s.mats.length ≤ 8 ∧ s.turns.length ≤ 8 ∧ s.full.length ≤ 8 ∧ (∀ r ∈ s.band, r.length ≤ 16) ∧ (∀ t ∈ s.turns, 0 ≤ t ∧ t ≤ 3) ∧ ∀ r ∈ s.full, r.length ≤ 16 := by
  have hk := h.1
  obtain e | e | e | e | e : s.kind = 1 ∨ s.kind = 2 ∨ s.kind = 3 ∨ s.kind = 4 ∨ s.kind = 5 := by omega
  · obtain ⟨l, a, b, c, d, o⟩ := good_own1 h e
    rw [a, b, c, d]; refine ⟨by omega, ?_⟩; simp
  · obtain ⟨l, a, b, c, d, o⟩ := good_own2 h e
    rw [a, b, c, d]; refine ⟨by simp, by omega, by simp, by simp, by simp, fun r hr => ?_, by simp, by simp⟩
    have := (o r hr).1; omega
  · obtain ⟨l, a, b, c, d, o⟩ := good_own3 h e
    rw [a, b, c, d]; refine ⟨by simp, by simp, by omega, ?_⟩; simp
  · obtain ⟨l, a, b, c, d, o⟩ := good_own4 h e
    rw [a, b, c, d]; exact ⟨by simp, by simp, by simp, by omega, by simp, by simp, o, by simp⟩
  · obtain ⟨l, a, b, c, d, o⟩ := good_own5 h e
    rw [a, b, c, d]; refine ⟨by simp, by simp, by simp, by simp, by omega, by simp, by simp, fun r hr => ?_⟩
    have := (o r hr).1; omega

theorem take_map_snoc {α β : Type} [Enc β] {l : List α} {f : α → β} {k : Nat} (h : k < l.length) : flat ((l.take k).map f) ++ Enc.cs (f l[k]) = flat ((l.take (k + 1)).map f) := by
  rw [List.take_succ_eq_append_getElem h, List.map_append, List.map_singleton, flat_snoc]

set_option maxHeartbeats 4000000 in
theorem r_inverted (s : Stg) (n m : Int) (hs : Enc.ok s) (hg : s.good n m) (hn : n ≤ 8) (hm : m ≤ 16) : Ret Try.prog 51 [stg s, i64 n, i64 m] [] (.tup [.p (stg (sinv s)), .p (bl (decide ((sinv s).good n m)))]) := by
  have hr := r_stage (sinv s) n m (sinv_enc hs hg)
  obtain ⟨b1, b2, b3, b4, b5, b6, b7, b8⟩ := good_small hg hn hm
  have es : PV.agg [u8 s.kind, .sl false s.gains.length (flat ((s.gains.take s.gains.length).map fun g => (div one g).1)), .sl false s.band.length (flat ((s.band.take s.band.length).map fun r => r.map fun g => (div one g).1)), .sl false s.mats.length (flat ((s.mats.take s.mats.length).map fun a => (jinv a).1)), .sl false s.turns.length (flat ((s.turns.take s.turns.length).map fun t => (4 - t).tmod 4)), .sl false s.full.length (flat ((s.full.take s.full.length).map fun r => r.map fun a => (jinv a).1))] = stg (sinv s) := by
    simp only [List.take_length]
    show PV.agg [_, _, _, _, _, _] = PV.agg [_, .sl false (s.gains.map _).length _, .sl false (s.band.map _).length _, .sl false (s.mats.map _).length _, .sl false (s.turns.map _).length _, .sl false (s.full.map _).length _]
    rw [List.length_map, List.length_map, List.length_map, List.length_map, List.length_map]; rfl
  have hr' : Ret Try.prog 32 [PV.agg [u8 s.kind, .sl false s.gains.length (flat ((s.gains.take s.gains.length).map fun g => (div one g).1)), .sl false s.band.length (flat ((s.band.take s.band.length).map fun r => r.map fun g => (div one g).1)), .sl false s.mats.length (flat ((s.mats.take s.mats.length).map fun a => (jinv a).1)), .sl false s.turns.length (flat ((s.turns.take s.turns.length).map fun t => (4 - t).tmod 4)), .sl false s.full.length (flat ((s.full.take s.full.length).map fun r => r.map fun a => (jinv a).1))], i64 n, i64 m] [] (.p (bl (decide ((sinv s).good n m)))) := by rw [es]; exact hr
  refine ret (fn := Try.f51) (by kernel_rfl) (by kernel_rfl) rfl ?_
  refine ⟨Nat, { inv := fun k => k ≤ s.gains.length ∧ (True), slots := [(9, fun k => i64 k)], cells := [(2, 1, 23, 3, fun k => k, fun k => flat ((s.gains.take k).map fun g => (div one g).1))], mu := fun k => s.gains.length - k }, 0, ⟨⟨rfl, trivial⟩, ⟨⟨rfl, rfl⟩, trivial⟩, (by repeat' first | exact trivial | rfl | apply And.intro), Nat.zero_le _, trivial⟩, ?_⟩
  intro k ⟨hk, _⟩
  refine ⟨fun h1 => ?_, fun h1 => ?_⟩
  · simp at h1
    refine ⟨_, r_one, rfl, ?_⟩
    refine ⟨k, rfl, h1, by decide, _, idx h1, rfl, ?_⟩
    refine ⟨_, r_div one s.gains[k], rfl, ?_⟩
    refine ⟨⟨by show k + 1 ≤ _; omega, by show (k + 1) * 24 ≤ _; omega⟩, ?_⟩
    refine ⟨k + 1, by show _ < _; simp; omega, ⟨rfl, rfl⟩, ⟨by show PV.v (.int _ _) = _; rw [succ_w (by omega)], trivial⟩, ⟨⟨rfl, ?_⟩, trivial⟩, (by repeat' first | exact trivial | rfl | apply And.intro), h1, trivial⟩
    exact take_map_snoc h1
  simp at h1
  have : k = s.gains.length := by omega
  subst this
  refine ⟨Nat, { inv := fun k => k ≤ s.band.length ∧ (True), slots := [(12, fun k => i64 k)], cells := [(2, 2, 28, 1, fun k => k, fun k => flat ((s.band.take k).map fun r => r.map fun g => (div one g).1))], mu := fun k => s.band.length - k }, 0, ⟨⟨rfl, trivial⟩, ⟨⟨rfl, rfl⟩, trivial⟩, (by repeat' first | exact trivial | rfl | apply And.intro), Nat.zero_le _, trivial⟩, ?_⟩
  intro k ⟨hk, _⟩
  refine ⟨fun h1 => ?_, fun h1 => ?_⟩
  · simp at h1
    have hb := b6 _ (List.getElem_mem h1)
    refine ⟨Nat, { inv := fun j => j ≤ s.band[k].length ∧ (True), slots := [(14, fun j => i64 j)], rows := [(13, 23, 3, fun k => k, fun j => flat ((s.band[k].take j).map fun g => (div one g).1))], mu := fun j => s.band[k].length - j }, 0, ⟨⟨rfl, trivial⟩, ⟨⟨rfl, rfl⟩, trivial⟩, (by repeat' first | exact trivial | rfl | apply And.intro), Nat.zero_le _, trivial⟩, ?_⟩
    intro j ⟨hj, _⟩
    refine ⟨k, rfl, h1, by decide, _, idx h1, rfl, ?_⟩
    refine ⟨fun h2 => ?_, fun h2 => ?_⟩
    · simp at h2
      refine ⟨_, r_one, rfl, ?_⟩
      refine ⟨k, rfl, h1, by decide, _, idx h1, rfl, ?_⟩
      refine ⟨j, rfl, h2, by decide, _, idx h2, rfl, ?_⟩
      refine ⟨_, r_div one s.band[k][j], rfl, ?_⟩
      refine ⟨⟨by show j + 1 ≤ _; omega, by show (j + 1) * 24 ≤ _; omega⟩, ?_⟩
      refine ⟨j + 1, by show _ < _; simp; omega, ⟨rfl, rfl⟩, ⟨by show PV.v (.int _ _) = _; rw [succ_w (by omega)], trivial⟩, ⟨⟨rfl, ?_⟩, trivial⟩, (by repeat' first | exact trivial | rfl | apply And.intro), h2, trivial⟩
      exact take_map_snoc h2
    · simp at h2
      have : j = s.band[k].length := by omega
      subst this
      refine ⟨false, ?_⟩
      refine ⟨⟨by show k + 1 ≤ _; omega, by show (k + 1) * 24 ≤ _; omega⟩, ?_⟩
      refine ⟨k + 1, by show _ < _; simp; omega, ⟨rfl, rfl⟩, ⟨by show PV.v (.int _ _) = _; rw [succ_w (by omega)], trivial⟩, ⟨⟨rfl, ?_⟩, trivial⟩, (by repeat' first | exact trivial | rfl | apply And.intro), h1, trivial⟩
      refine Eq.trans ?_ (take_map_snoc h1)
      show _ ++ [PV.sl false s.band[k].length (flat ((s.band[k].take s.band[k].length).map fun g => (div one g).1))] = _ ++ [PV.sl false (s.band[k].map fun g => (div one g).1).length _]
      rw [List.take_length, List.length_map]
  simp at h1
  have : k = s.band.length := by omega
  subst this
  refine ⟨Nat, { inv := fun k => k ≤ s.mats.length ∧ (True), slots := [(17, fun k => i64 k)], cells := [(2, 3, 26, 12, fun k => k, fun k => flat ((s.mats.take k).map fun a => (jinv a).1))], mu := fun k => s.mats.length - k }, 0, ⟨⟨rfl, trivial⟩, ⟨⟨rfl, rfl⟩, trivial⟩, (by repeat' first | exact trivial | rfl | apply And.intro), Nat.zero_le _, trivial⟩, ?_⟩
  intro k ⟨hk, _⟩
  refine ⟨fun h1 => ?_, fun h1 => ?_⟩
  · simp at h1
    refine ⟨k, rfl, h1, by decide, _, idx h1, rfl, ?_⟩
    refine ⟨[], _, jr_inv s.mats[k], rfl, ?_⟩
    refine ⟨Nat.le_refl _, ?_⟩
    refine ⟨_, rfl, rfl, ?_⟩
    refine ⟨⟨by show k + 1 ≤ _; omega, by show (k + 1) * 96 ≤ _; omega⟩, ?_⟩
    refine ⟨k + 1, by show _ < _; simp; omega, ⟨rfl, rfl⟩, ⟨by show PV.v (.int _ _) = _; rw [succ_w (by omega)], trivial⟩, ⟨⟨rfl, ?_⟩, trivial⟩, (by repeat' first | exact trivial | rfl | apply And.intro), h1, trivial⟩
    exact take_map_snoc h1
  simp at h1
  have : k = s.mats.length := by omega
  subst this
  refine ⟨Nat, { inv := fun k => k ≤ s.turns.length ∧ (True), slots := [(20, fun k => i64 k)], cells := [(2, 4, 3, 1, fun k => k, fun k => flat ((s.turns.take k).map fun t => (4 - t).tmod 4))], mu := fun k => s.turns.length - k }, 0, ⟨⟨rfl, trivial⟩, ⟨⟨rfl, rfl⟩, trivial⟩, (by repeat' first | exact trivial | rfl | apply And.intro), Nat.zero_le _, trivial⟩, ?_⟩
  intro k ⟨hk, _⟩
  refine ⟨fun h1 => ?_, fun h1 => ?_⟩
  · simp at h1
    have ht := b7 _ (List.getElem_mem h1)
    refine ⟨k, rfl, h1, by decide, _, idx h1, rfl, ?_⟩
    refine ⟨by decide, ?_⟩
    refine ⟨⟨by show k + 1 ≤ _; omega, by show (k + 1) * 8 ≤ _; omega⟩, ?_⟩
    refine ⟨k + 1, by show _ < _; simp; omega, ⟨rfl, rfl⟩, ⟨by show PV.v (.int _ _) = _; rw [succ_w (by omega)], trivial⟩, ⟨⟨rfl, ?_⟩, trivial⟩, (by repeat' first | exact trivial | rfl | apply And.intro), h1, trivial⟩
    refine Eq.trans ?_ (take_map_snoc h1)
    show _ ++ [i64 ((IntKind.i64.wrap (4 - s.turns[k])).tmod 4)] = _ ++ [i64 ((4 - s.turns[k]).tmod 4)]
    have e : IntKind.i64.wrap (4 - s.turns[k]) = 4 - s.turns[k] := wrap_id (by omega) (by omega)
    rw [e]
  simp at h1
  have : k = s.turns.length := by omega
  subst this
  refine ⟨Nat, { inv := fun k => k ≤ s.full.length ∧ (True), slots := [(21, fun k => i64 k)], cells := [(2, 5, 30, 1, fun k => k, fun k => flat ((s.full.take k).map fun r => r.map fun a => (jinv a).1))], mu := fun k => s.full.length - k }, 0, ⟨⟨rfl, trivial⟩, ⟨⟨rfl, rfl⟩, trivial⟩, (by repeat' first | exact trivial | rfl | apply And.intro), Nat.zero_le _, trivial⟩, ?_⟩
  intro k ⟨hk, _⟩
  refine ⟨fun h1 => ?_, fun h1 => ?_⟩
  · simp at h1
    have hb := b8 _ (List.getElem_mem h1)
    refine ⟨Nat, { inv := fun j => j ≤ s.full[k].length ∧ (True), slots := [(23, fun j => i64 j)], rows := [(22, 26, 12, fun k => k, fun j => flat ((s.full[k].take j).map fun a => (jinv a).1))], mu := fun j => s.full[k].length - j }, 0, ⟨⟨rfl, trivial⟩, ⟨⟨rfl, rfl⟩, trivial⟩, (by repeat' first | exact trivial | rfl | apply And.intro), Nat.zero_le _, trivial⟩, ?_⟩
    intro j ⟨hj, _⟩
    refine ⟨k, rfl, h1, by decide, _, idx h1, rfl, ?_⟩
    refine ⟨fun h2 => ?_, fun h2 => ?_⟩
    · simp at h2
      refine ⟨k, rfl, h1, by decide, _, idx h1, rfl, ?_⟩
      refine ⟨j, rfl, h2, by decide, _, idx h2, rfl, ?_⟩
      refine ⟨[], _, jr_inv s.full[k][j], rfl, ?_⟩
      refine ⟨Nat.le_refl _, ?_⟩
      refine ⟨_, rfl, rfl, ?_⟩
      refine ⟨⟨by show j + 1 ≤ _; omega, by show (j + 1) * 96 ≤ _; omega⟩, ?_⟩
      refine ⟨j + 1, by show _ < _; simp; omega, ⟨rfl, rfl⟩, ⟨by show PV.v (.int _ _) = _; rw [succ_w (by omega)], trivial⟩, ⟨⟨rfl, ?_⟩, trivial⟩, (by repeat' first | exact trivial | rfl | apply And.intro), h2, trivial⟩
      exact take_map_snoc h2
    · simp at h2
      have : j = s.full[k].length := by omega
      subst this
      refine ⟨false, ?_⟩
      refine ⟨⟨by show k + 1 ≤ _; omega, by show (k + 1) * 24 ≤ _; omega⟩, ?_⟩
      refine ⟨k + 1, by show _ < _; simp; omega, ⟨rfl, rfl⟩, ⟨by show PV.v (.int _ _) = _; rw [succ_w (by omega)], trivial⟩, ⟨⟨rfl, ?_⟩, trivial⟩, (by repeat' first | exact trivial | rfl | apply And.intro), h1, trivial⟩
      refine Eq.trans ?_ (take_map_snoc h1)
      show _ ++ [PV.sl false s.full[k].length (flat ((s.full[k].take s.full[k].length).map fun a => (jinv a).1))] = _ ++ [PV.sl false (s.full[k].map fun a => (jinv a).1).length _]
      rw [List.take_length, List.length_map]
  simp at h1
  have : k = s.full.length := by omega
  subst this
  refine ⟨_, hr', rfl, ?_⟩
  show SV.tup _ = SV.tup _
  exact congrArg (fun x => SV.tup [.p x, .p (bl (decide ((sinv s).good n m)))]) es

set_option maxHeartbeats 4000000 in
theorem r_invert34 (l : List Stg) (n m : Int) (hl : ∀ s ∈ l, Enc.ok s) : Ret Try.prog 28 [sl l, i64 n, i64 m] [] (resCh (chinv l n m)) := by
  refine ret (fn := Try.f28) (by kernel_rfl) (by kernel_rfl) rfl ?_
  refine ⟨[], _, r_check34 l n m hl, rfl, ?_⟩
  refine ⟨fun h1 => ?_, fun h1 => ?_⟩
  · simp at h1
    rw [chinv, if_pos h1]; rfl
  simp at h1
  obtain ⟨k1, k2, k3⟩ := ck34_0 h1
  refine ⟨Nat, { inv := fun i => i ≤ l.length ∧ ∀ s ∈ l.reverse.take i, (sinv s).good n m, slots := [(10, fun i => i64 ((l.length : Int) - 1 - i))], rows := [(9, 34, 6, fun i => i, fun i => flat ((l.reverse.take i).map sinv))], mu := fun i => l.length - i }, 0, ⟨⟨?_, trivial⟩, ⟨⟨rfl, rfl⟩, trivial⟩, trivial, Nat.zero_le _, by simp⟩, ?_⟩
  · show PV.v (.int _ _) = _
    rw [wrap_id (by omega) (by omega)]
    show _ = i64 ((l.length : Int) - 1 - ((0 : Nat) : Int))
    congr 2
    omega
  intro i ⟨hi, hall⟩
  refine ⟨fun h2 => ?_, fun h2 => ?_⟩
  · have h2 : decide ((l.length : Int) - 1 - i ≥ 0) = true := h2
    rw [decide_eq_true_iff] at h2
    have hil : i < l.length := by omega
    have hidx : l.length - 1 - i < l.length := by omega
    have ei : (l.length : Int) - 1 - i = ((l.length - 1 - i : Nat) : Int) := by omega
    have hrev : l.reverse.take (i + 1) = l.reverse.take i ++ [l[l.length - 1 - i]] := by
      rw [List.take_succ_eq_append_getElem (by simpa using hil), List.getElem_reverse]
    have hmem : l[l.length - 1 - i] ∈ l := List.getElem_mem hidx
    refine ⟨l.length - 1 - i, ei, hidx, by decide, _, idx hidx, rfl, ?_⟩
    refine ⟨[], _, r_inverted l[l.length - 1 - i] n m (hl _ hmem) (k3 _ hmem) (by omega) (by omega), rfl, ?_⟩
    refine ⟨fun h3 => ?_, fun h3 => ?_⟩
    · simp at h3
      show SV.tup [.p (.sl false 0 []), .p (i64 16)] = _
      rw [chinv, if_neg (by simp [h1]), if_neg fun q => h3 (q _ hmem)]; rfl
    · simp at h3
      refine ⟨⟨by show i + 1 ≤ _; omega, by show (i + 1) * 128 ≤ _; omega⟩, ?_⟩
      refine ⟨i + 1, by show _ < _; simp; omega, ⟨rfl, rfl⟩, ⟨?_, trivial⟩, ⟨⟨rfl, ?_⟩, trivial⟩, (by repeat' first | exact trivial | rfl | apply And.intro), by omega, fun x hx => ?_⟩
      · show PV.v (.int _ (IntKind.i64.wrap ((l.length : Int) - 1 - i - 1))) = i64 ((l.length : Int) - 1 - ((i + 1 : Nat) : Int))
        rw [wrap_id (by omega) (by omega)]
        congr 2
        omega
      · show _ ++ _ = flat _
        rw [hrev, List.map_append, List.map_singleton, flat_snoc]; rfl
      · rw [hrev, List.mem_append] at hx
        rcases hx with hx | hx
        · exact hall x hx
        · simp at hx; subst hx; exact h3
  · have h2 : decide ((l.length : Int) - 1 - i ≥ 0) = false := h2
    rw [decide_eq_false_iff_not] at h2
    have : i = l.length := by omega
    subst this
    have et : l.reverse.take l.length = l.reverse := by rw [List.take_of_length_le (by simp)]
    rw [et] at hall
    show SV.tup [.p (.sl false l.length (flat ((l.reverse.take l.length).map sinv))), .p (i64 0)] = _
    rw [et, chinv, if_neg (by simp [h1]), if_pos fun s hs => hall s (by simpa using hs)]
    simp [sl]
end Go.Pv

/- The law CorruptDiffers, of the code. -/
import Derived.Test.YtilmadidjihfkaaKp
import Derived.Test.YtilmadidjihfkaaCq
import Derived.Test.YtilmadidjihfkaaPlCalm
namespace Go.Pv
open Go.Vc
open Go.Proofs
set_option maxRecDepth 10000
set_option maxHeartbeats 4000000

/-- Rows of the call's own. -/
def nrV (e : TypeId) (l : List (List Vis)) : List NC := l.map fun r => .ow e 6 r.length (flat r)

theorem nrV_pv (e : TypeId) (l : List (List Vis)) : (nrV e l).map ncP = flat l := by
  unfold nrV flat
  rw [List.map_map]
  induction l with
  | nil => rfl
  | cons x r ih => rw [List.map_cons, List.map_cons, List.flatten_cons, ← ih]; rfl

theorem nrV_len (e : TypeId) (l : List (List Vis)) : (nrV e l).length = l.length := by simp [nrV]

theorem nrV_get {e : TypeId} {l : List (List Vis)} {n : Nat} (h : n < l.length) : (nrV e l)[n]? = some (.ow e 6 l[n].length (flat l[n])) := by simp [nrV, h]

theorem idx_v {l : List Vis} {m : Nat} (h : m < l.length) : ((flat l).drop (m * 6 + 2)).take 3 = Enc.cs l[m].v := by
  have e : ((flat l).drop (m * 6)).take 6 = Enc.cs l[m] := idx h
  have e2 : ((flat l).drop (m * 6 + 2)).take 3 = ((((flat l).drop (m * 6)).take 6).drop 2).take 3 := by rw [List.drop_take, List.take_take, List.drop_drop]; rfl
  rw [e2, e]; rfl

/-- How many of the first stations of a triangle are i or j. -/
def hasT (i j : Int) (t : Tri) : Nat → Nat
  | 0 => 0
  | n + 1 => hasT i j t n + if t.list.getD n 0 = i ∨ t.list.getD n 0 = j then 1 else 0

theorem hasT_le (i j : Int) (t : Tri) : ∀ n, hasT i j t n ≤ n
  | 0 => Nat.le_refl _
  | n + 1 => by
    have := hasT_le i j t n
    rw [hasT]
    split <;> omega

theorem hasT_2 {i j : Int} {t : Tri} (hij : i < j) (h1 : t.a < t.b) (h2 : t.b < t.c) : hasT i j t 3 = 2 ↔ both2 i j t := by
  unfold hasT hasT hasT hasT both2 Tri.list
  simp only [List.getD_cons_zero, List.getD_cons_succ]
  split <;> split <;> split <;> omega

theorem tri_at (t : Tri) {i : Nat} (h : i < 3) : ((Enc.cs t).drop (i * 1)).take 1 = [i64 (t.list.getD i 0)] := by
  obtain rfl | rfl | rfl : i = 0 ∨ i = 1 ∨ i = 2 := by omega
  all_goals rfl

theorem dif_cells (e : TypeId) {s : List (List Vis)} {n m r : Nat} (hn : n < s.length) (hm : m < s[n].length) {x : NC} {s' : List (List Vis)} (hs : s' = s) :
    (((nrV e s').set n x).set n (.ow e 6 s[n].length (spl (flat s[n]) (m * 6 + 2) (Enc.cs (rotN r s[n][m].v))))).map ncP = flat (dif35 s n m r) := by
  subst hs
  have e1 : spl (flat s'[n]) (m * 6 + 2) (Enc.cs (rotN r s'[n][m].v)) = flat (dif s'[n] m r) := by
    have := flat_put_part (o := 2) hm (Enc.cs (rotN r s'[n][m].v)) (s'[n][m].set (rotN r s'[n][m].v)) rfl (by show 2 + 3 ≤ 6; decide)
    rw [dif, getD_get hm]
    exact this
  rw [e1, List.set_set, dif35, getD_get hn]
  unfold nrV
  rw [show (NC.ow e 6 s'[n].length (flat (dif s'[n] m r))) = (fun r : List Vis => NC.ow e 6 r.length (flat r)) (dif s'[n] m r) by show _ = NC.ow e 6 (dif s'[n] m r).length _; rw [dif_length], ← List.map_set]
  exact nrV_pv e _

theorem dif_at {s : List (List Vis)} {n m r : Nat} {cs : List PV} (hn : n < s.length) (h : cs = flat (dif35 s n m r)) : (cs.drop (n * 1)).take 1 = Enc.cs (dif s[n] m r) := by
  have hl : n < (dif35 s n m r).length := by rw [dif35_length]; exact hn
  have e : ((flat (dif35 s n m r)).drop (n * 1)).take 1 = Enc.cs (dif35 s n m r)[n] := idx hl
  rw [h, e, dif35_get n hn, if_pos rfl]

theorem any_take_succ {α : Type} {l : List α} (f : α → Bool) {k : Nat} (h : k < l.length) : (l.take (k + 1)).any f = ((l.take k).any f || f l[k]) := by
  rw [List.take_succ_eq_append_getElem h, List.any_append]; simp

theorem dif_ok {l : List Vis} (hl : ∀ v ∈ l, Enc.ok v) (hg : ∀ v ∈ l, v.good 8) (k q : Nat) : ∀ v ∈ dif l k q, Enc.ok v := by
  induction l generalizing k with
  | nil => simp [dif]
  | cons v r ih =>
    cases k with
    | zero =>
      intro u hu
      have : u = v.set (rotN q v.v) ∨ u ∈ r := by simpa [dif] using hu
      rcases this with rfl | hu
      · have g := hg v (by simp)
        obtain ⟨o1, o2, o3, o4⟩ := hl v (by simp)
        exact ⟨o1, o2, ok_valid (rotN_validD q g.2.2.2.2), o4⟩
      · exact hl u (by simp [hu])
    | succ k =>
      intro u hu
      rw [dif_cons] at hu
      rcases List.mem_cons.1 hu with rfl | hu
      · exact hl _ (by simp)
      · exact ih (fun v hv => hl v (by simp [hv])) (fun v hv => hg v (by simp [hv])) k u hu

theorem dif35_ok {s : List (List Vis)} {n m r : Nat} (hs : ∀ l ∈ s, ∀ v ∈ l, Enc.ok v) (hrow : ∀ l ∈ s, ck27 l = 0) : ∀ l ∈ dif35 s n m r, ∀ v ∈ l, Enc.ok v := by
  intro l hl v hv
  obtain ⟨t, ht, rfl⟩ := List.getElem_of_mem hl
  have ht' : t < s.length := by rw [dif35_length] at ht; exact ht
  rw [dif35_get t ht'] at hv
  have hm := List.getElem_mem ht'
  split at hv
  · exact dif_ok (hs _ hm) (ck27_0 (hrow _ hm)).2.1 _ _ v hv
  · exact hs _ hm v hv

theorem corruptDiffers (s : List (List Vis)) (t k q : Int) (hn : s.length ≤ 9223372036854775807) (hs : ∀ l ∈ s, ∀ v ∈ l, Enc.ok v) (hq : I64 q) : Ret Try.prog 6 [sl s, i64 t, i64 k, i64 q] [] (.p (bl true)) := by
  refine ret (fn := Try.f6) (by kernel_rfl) (by kernel_rfl) rfl ?_
  refine ⟨[], _, law_alive, rfl, ?_⟩
  refine ⟨[], _, r_great35 s hn, rfl, ?_⟩
  refine ⟨fun h1 => ?_, fun h1 => ?_⟩
  rotate_left
  · rfl
  refine ⟨[], _, r_check35 s, rfl, ?_⟩
  refine ⟨fun h2 => ?_, fun h2 => ?_⟩
  rotate_left
  · rfl
  have h2 : ck35 s = 0 := by simpa using h2
  refine ⟨fun h3 => ?_, fun h3 => ?_⟩
  rotate_left
  · rfl
  have h3 : 0 ≤ t := by simpa using h3
  refine ⟨fun h4 => ?_, fun h4 => ?_⟩
  rotate_left
  · rfl
  have h4 : t < s.length := by simpa using h4
  obtain ⟨n, rfl⟩ : ∃ n : Nat, t = n := ⟨t.toNat, by omega⟩
  have h4 : n < s.length := by omega
  refine ⟨fun h => absurd h (by first | decide | simp), fun _ => ?_⟩
  refine ⟨fun h5 => ?_, fun h5 => ?_⟩
  rotate_left
  · rfl
  have h5 : 0 ≤ k := by simpa using h5
  refine ⟨n, rfl, h4, by decide, _, idx h4, rfl, ?_⟩
  refine ⟨fun h6 => ?_, fun h6 => ?_⟩
  rotate_left
  · rfl
  have h6 : k < s[n].length := by simpa using h6
  obtain ⟨m, rfl⟩ : ∃ m : Nat, k = m := ⟨k.toNat, by omega⟩
  have h6 : m < s[n].length := by omega
  refine ⟨fun h7 => ?_, fun h7 => ?_⟩
  rotate_left
  · rfl
  have h7 : 1 ≤ q := by simpa using h7
  refine ⟨fun h8 => ?_, fun h8 => ?_⟩
  · rfl
  have h8 : q ≤ 3 := by simpa using h8
  have hrow := ck35_rows h2
  have hbas : ∀ (i j : Nat) (hi : i < s.length) (hj : j < s.length), bas s[i] s[j] = true := fun i j hi hj => ck35_bas h2 hi hj
  have hlen := ck35_len h2
  obtain ⟨r, rfl⟩ : ∃ r : Nat, q = r := ⟨q.toNat, by omega⟩
  have er : quart r = r := by
    obtain rfl | rfl | rfl : r = 1 ∨ r = 2 ∨ r = 3 := by omega
    all_goals decide
  have hval : s[n][m].v.valid := ((ck27_0 (hrow _ (List.getElem_mem h4))).2.1 _ (List.getElem_mem h6)).2.2.2.2
  have hij : s[n][m].i < s[n][m].j := ((ck27_0 (hrow _ (List.getElem_mem h4))).2.1 _ (List.getElem_mem h6)).2.1
  have ct : Ret Try.prog 14 [cx s[n][m].v, i64 r] [] (resC (rotN r s[n][m].v, 0)) := by
    have := r_turn s[n][m].v r hq
    rw [turn, if_pos hval, er] at this
    exact this
  refine ⟨Nat, { inv := fun k => k ≤ s.length, slots := [(11, fun k => i64 k)], nrows := [(10, 48, 1, fun k => k, fun k => nrV 50 (s.take k))], mu := fun k => s.length - k }, 0, ⟨⟨rfl, trivial⟩, ⟨⟨rfl, rfl⟩, trivial⟩, (by repeat' first | exact trivial | rfl | apply And.intro), Nat.zero_le _⟩, ?_⟩
  intro c hc
  have hc : c ≤ s.length := hc
  refine ⟨fun h9 => ?_, fun h9 => ?_⟩
  · have h9 : c < s.length := by simpa using h9
    have hlc : s[c].length ≤ 64 := (ck27_0 (hrow _ (List.getElem_mem h9))).1
    refine ⟨.no, ?_⟩
    refine ⟨c, rfl, h9, by decide, _, idx h9, rfl, ?_⟩
    refine ⟨by rw [flat_length]; rfl, ⟨by show 0 + s[c].length ≤ _; omega, by show (0 + s[c].length) * 48 ≤ _; omega⟩, false, (fun h => by cases h), ?_⟩
    refine ⟨true, 0, 0, 0, ?_⟩
    refine ⟨⟨by show c + 1 ≤ _; omega, by show (c + 1) * 24 ≤ _; omega⟩, ?_⟩
    refine ⟨c + 1, by show _ < _; simp; omega, ⟨rfl, rfl⟩, ⟨by show PV.v (.int _ _) = _; rw [succ_w (by omega)], trivial⟩, ⟨⟨rfl, ?_⟩, trivial⟩, (by repeat' first | exact trivial | rfl | apply And.intro), h9⟩
    show nrV 50 (s.take c) ++ [NC.ow 50 6 (0 + s[c].length) ([] ++ flat s[c])] = nrV 50 (s.take (c + 1))
    rw [List.take_succ_eq_append_getElem h9, Nat.zero_add, nrV, nrV, List.map_append]; rfl
  have h9 : c = s.length := by simp at h9; omega
  subst h9
  have hT : s.take s.length = s := List.take_length
  have hTl : (nrV 50 (s.take s.length)).length = s.length := by rw [hT, nrV_len]
  refine ⟨.out 0 n 50 6 s[n].length (flat s[n]), by show (nrV 50 (s.take s.length))[n]? = _; rw [hT]; exact nrV_get h4, ?_⟩
  refine ⟨n, rfl, h4, ?_⟩
  refine ⟨[.ob 1], ⟨.inl ⟨(by simp), rfl⟩, trivial⟩, rfl, by show n * 1 + 1 ≤ (nrV 50 (s.take s.length)).length; omega, ?_⟩
  refine ⟨m, rfl, h6, ?_⟩
  refine ⟨_, idx_v h6, rfl, ?_⟩
  refine ⟨[], _, ct, rfl, ?_⟩
  refine ⟨fun h => absurd h (by first | decide | simp), fun _ => ?_⟩
  refine ⟨.out 0 n 50 6 s[n].length (flat s[n]), List.getElem?_set_self (by show n < (nrV 50 (s.take s.length)).length; omega), ?_⟩
  refine ⟨n, rfl, h4, ?_⟩
  refine ⟨[.ob 3], ⟨.inl ⟨(by simp), rfl⟩, trivial⟩, rfl, by show n * 1 + 1 ≤ ((nrV 50 (s.take s.length)).set n _).length; rw [List.length_set]; omega, ?_⟩
  refine ⟨m, rfl, h6, ?_⟩
  refine ⟨by show m * 6 + 2 + 3 ≤ (flat s[n]).length; rw [flat_length]; show _ ≤ s[n].length * 6; omega, ?_⟩
  refine ⟨.inn, ?_⟩
  refine ⟨n, rfl, h4, by decide, _, idx h4, rfl, ?_⟩
  refine ⟨[], _, l_triples s[n] (fun v hv => hs _ (List.getElem_mem h4) v hv), rfl, ?_⟩
  have ht2 : (triples s[n]).2 = 0 := by rw [triples, if_neg (by simp [hrow _ (List.getElem_mem h4)])]
  refine ⟨fun q => absurd q (by rw [ht2]; simp), fun _ => ?_⟩
  have htn : (triples s[n]).1.length ≤ 512 := by rw [triples, if_neg (by simp [hrow _ (List.getElem_mem h4)])]; exact tris_length _ 512
  have htin : ∀ t ∈ (triples s[n]).1, 0 ≤ t.a ∧ t.a < t.b ∧ t.b < t.c ∧ t.c < 8 := fun t ht => tri_in (hrow _ (List.getElem_mem h4)) ht
  refine ⟨Nat, { inv := fun k => k ≤ (triples s[n]).1.length, slots := [(17, fun k => i64 k), (16, fun k => bl (((triples s[n]).1.take k).any (tell s[n][m].i s[n][m].j s[n] (dif s[n] m r))))], frz := [0], mu := fun k => (triples s[n]).1.length - k }, 0, ⟨⟨rfl, rfl, trivial⟩, trivial, (by repeat' first | exact trivial | rfl | apply And.intro), Nat.zero_le _⟩, ?_⟩
  intro k hk
  have hk : k ≤ (triples s[n]).1.length := hk
  refine ⟨fun h10 => ?_, fun h10 => ?_⟩
  · have h10 : k < (triples s[n]).1.length := by simpa using h10
    have hmem := List.getElem_mem h10
    obtain ⟨ta, tb, tc, t8⟩ := htin _ hmem
    refine ⟨Nat, { inv := fun i => i ≤ 3, slots := [(19, fun i => i64 i), (18, fun i => i64 (hasT s[n][m].i s[n][m].j (triples s[n]).1[k] i))], mu := fun i => 3 - i }, 0, ⟨⟨rfl, rfl, trivial⟩, trivial, (by repeat' first | exact trivial | rfl | apply And.intro), Nat.zero_le _⟩, ?_⟩
    intro i hi
    have hi : i ≤ 3 := hi
    refine ⟨fun h11 => ?_, fun h11 => ?_⟩
    · have h11 : i < 3 := by simp at h11; omega
      refine ⟨k, rfl, h10, by decide, _, idx h10, rfl, ?_⟩
      refine ⟨i, rfl, h11, _, tri_at _ h11, rfl, ?_⟩
      refine ⟨n, rfl, h4, by decide, _, idx h4, rfl, ?_⟩
      refine ⟨m, rfl, h6, by decide, _, idx h6, rfl, ?_⟩
      refine ⟨fun h12 => ?_, fun h12 => ?_⟩
      rotate_left
      · have h12 : (triples s[n]).1[k].list.getD i 0 = s[n][m].i := by simpa using h12
        have e : hasT s[n][m].i s[n][m].j (triples s[n]).1[k] (i + 1) = hasT s[n][m].i s[n][m].j (triples s[n]).1[k] i + 1 := by rw [hasT, if_pos (.inl h12)]
        have el := hasT_le s[n][m].i s[n][m].j (triples s[n]).1[k] i
        refine ⟨i + 1, by show _ < _; simp; omega, ⟨rfl, rfl⟩, ⟨by show PV.v (.int _ _) = _; rw [succ_w (by omega)], ?_, trivial⟩, trivial, (by repeat' first | exact trivial | rfl | apply And.intro), by show i + 1 ≤ 3; omega⟩
        show PV.v (.int _ (IntKind.i64.wrap _)) = i64 ((hasT s[n][m].i s[n][m].j (triples s[n]).1[k] (i + 1) : Nat) : Int)
        rw [e, succ_w (by omega)]
      have h12 : (triples s[n]).1[k].list.getD i 0 ≠ s[n][m].i := by simpa using h12
      refine ⟨k, rfl, h10, by decide, _, idx h10, rfl, ?_⟩
      refine ⟨i, rfl, h11, _, tri_at _ h11, rfl, ?_⟩
      refine ⟨n, rfl, h4, by decide, _, idx h4, rfl, ?_⟩
      refine ⟨m, rfl, h6, by decide, _, idx h6, rfl, ?_⟩
      refine ⟨fun h13 => ?_, fun h13 => ?_⟩
      · have h13 : (triples s[n]).1[k].list.getD i 0 = s[n][m].j := by simpa using h13
        have e : hasT s[n][m].i s[n][m].j (triples s[n]).1[k] (i + 1) = hasT s[n][m].i s[n][m].j (triples s[n]).1[k] i + 1 := by rw [hasT, if_pos (.inr h13)]
        have el := hasT_le s[n][m].i s[n][m].j (triples s[n]).1[k] i
        refine ⟨i + 1, by show _ < _; simp; omega, ⟨rfl, rfl⟩, ⟨by show PV.v (.int _ _) = _; rw [succ_w (by omega)], ?_, trivial⟩, trivial, (by repeat' first | exact trivial | rfl | apply And.intro), by show i + 1 ≤ 3; omega⟩
        show PV.v (.int _ (IntKind.i64.wrap _)) = i64 ((hasT s[n][m].i s[n][m].j (triples s[n]).1[k] (i + 1) : Nat) : Int)
        rw [e, succ_w (by omega)]
      · have h13 : (triples s[n]).1[k].list.getD i 0 ≠ s[n][m].j := by simpa using h13
        have e : hasT s[n][m].i s[n][m].j (triples s[n]).1[k] (i + 1) = hasT s[n][m].i s[n][m].j (triples s[n]).1[k] i := by rw [hasT, if_neg (fun h => h.elim h12 h13)]; rfl
        refine ⟨i + 1, by show _ < _; simp; omega, ⟨rfl, rfl⟩, ⟨by show PV.v (.int _ _) = _; rw [succ_w (by omega)], ?_, trivial⟩, trivial, (by repeat' first | exact trivial | rfl | apply And.intro), by show i + 1 ≤ 3; omega⟩
        show i64 ((hasT s[n][m].i s[n][m].j (triples s[n]).1[k] i : Nat) : Int) = i64 ((hasT s[n][m].i s[n][m].j (triples s[n]).1[k] (i + 1) : Nat) : Int)
        rw [e]
    have h11 : i = 3 := by simp at h11; omega
    subst h11
    have hT1 := any_take_succ (tell s[n][m].i s[n][m].j s[n] (dif s[n] m r)) h10
    have h2b := hasT_2 hij tb tc
    refine ⟨n, rfl, h4, by decide, _, idx h4, rfl, ?_⟩
    refine ⟨k, rfl, h10, by decide, _, idx h10, rfl, ?_⟩
    refine ⟨0, rfl, by decide, _, rfl, rfl, ?_⟩
    refine ⟨k, rfl, h10, by decide, _, idx h10, rfl, ?_⟩
    refine ⟨1, rfl, by decide, _, rfl, rfl, ?_⟩
    refine ⟨k, rfl, h10, by decide, _, idx h10, rfl, ?_⟩
    refine ⟨2, rfl, by decide, _, rfl, rfl, ?_⟩
    refine ⟨_, r_phase s[n] (triples s[n]).1[k].list (by show 3 ≤ _; omega), rfl, ?_⟩
    refine ⟨n, rfl, h4, by decide, _, dif_at h4 (dif_cells _ h4 h6 hT), rfl, ?_⟩
    refine ⟨k, rfl, h10, by decide, _, idx h10, rfl, ?_⟩
    refine ⟨0, rfl, by decide, _, rfl, rfl, ?_⟩
    refine ⟨k, rfl, h10, by decide, _, idx h10, rfl, ?_⟩
    refine ⟨1, rfl, by decide, _, rfl, rfl, ?_⟩
    refine ⟨k, rfl, h10, by decide, _, idx h10, rfl, ?_⟩
    refine ⟨2, rfl, by decide, _, rfl, rfl, ?_⟩
    refine ⟨_, r_phase (dif s[n] m r) (triples s[n]).1[k].list (by show 3 ≤ _; omega), rfl, ?_⟩
    have nx : k + 1 ≤ (triples s[n]).1.length := h10
    refine ⟨fun hb => ?_, fun hb => ?_⟩
    rotate_left
    · have hb : ((triples s[n]).1.take k).any (tell s[n][m].i s[n][m].j s[n] (dif s[n] m r)) = true := hb
      refine ⟨k + 1, by show _ < _; simp; omega, ⟨rfl, rfl⟩, ⟨by show PV.v (.int _ _) = _; rw [succ_w (by omega)], ?_, trivial⟩, trivial, (by repeat' first | exact trivial | rfl | apply And.intro), nx⟩
      show PV.v (.bool _) = bl _
      rw [hT1, hb]; rfl
    have hb : ((triples s[n]).1.take k).any (tell s[n][m].i s[n][m].j s[n] (dif s[n] m r)) = false := hb
    refine ⟨fun hh => ?_, fun hh => ?_⟩
    rotate_left
    · have hh : ¬ both2 s[n][m].i s[n][m].j (triples s[n]).1[k] := by rw [← h2b]; have hh : ((hasT s[n][m].i s[n][m].j (triples s[n]).1[k] 3 : Int) == 2) = false := hh; simp at hh; omega
      refine ⟨k + 1, by show _ < _; simp; omega, ⟨rfl, rfl⟩, ⟨by show PV.v (.int _ _) = _; rw [succ_w (by omega)], ?_, trivial⟩, trivial, (by repeat' first | exact trivial | rfl | apply And.intro), nx⟩
      show PV.v (.bool _) = bl _
      rw [hT1, hb, tell, decide_eq_false hh]; rfl
    have hh : both2 s[n][m].i s[n][m].j (triples s[n]).1[k] := by rw [← h2b]; have hh : ((hasT s[n][m].i s[n][m].j (triples s[n]).1[k] 3 : Int) == 2) = true := hh; simp at hh; omega
    refine ⟨fun hp => ?_, fun hp => ?_⟩
    rotate_left
    · have hp : ¬ (phase s[n] (triples s[n]).1[k].list).2 = 0 := by simpa using hp
      refine ⟨k + 1, by show _ < _; simp; omega, ⟨rfl, rfl⟩, ⟨by show PV.v (.int _ _) = _; rw [succ_w (by omega)], ?_, trivial⟩, trivial, (by repeat' first | exact trivial | rfl | apply And.intro), nx⟩
      show PV.v (.bool _) = bl _
      rw [hT1, hb, tell, decide_eq_true hh, decide_eq_false hp]; rfl
    have hp : (phase s[n] (triples s[n]).1[k].list).2 = 0 := by simpa using hp
    refine ⟨k + 1, by show _ < _; simp; omega, ⟨rfl, rfl⟩, ⟨by show PV.v (.int _ _) = _; rw [succ_w (by omega)], ?_, trivial⟩, trivial, (by repeat' first | exact trivial | rfl | apply And.intro), nx⟩
    show PV.v (.bool _) = bl _
    rw [hT1, hb, tell, decide_eq_true hh, decide_eq_true hp, Bool.true_and, Bool.true_and, Bool.false_or]; rfl
  have h10 : k = (triples s[n]).1.length := by simp at h10; omega
  subst h10
  have hTt : ((triples s[n]).1.take (triples s[n]).1.length).any (tell s[n][m].i s[n][m].j s[n] (dif s[n] m r)) = told s[n][m].i s[n][m].j s[n] (dif s[n] m r) := by rw [List.take_length]; rfl
  have hal := dif35_alike h2 hrow hbas h4 h6 (q := r) (by omega) (by omega)
  have ca : ∀ cs, cs = flat (dif35 s n m r) → Ret Try.prog 24 [sl s, .sl false s.length cs] [] (.tup [.p (bl (!told s[n][m].i s[n][m].j s[n] (dif s[n] m r))), .p (i64 0)]) := by
    rintro cs rfl
    have h := k_alikeE hal hs (dif35_ok hs hrow)
    rw [show sl (dif35 s n m r) = .sl false s.length (flat (dif35 s n m r)) by rw [sl, dif35_length]] at h
    exact h
  refine ⟨[], _, (ca _ (dif_cells _ h4 h6 hT)), rfl, ?_⟩
  refine ⟨fun _ => ?_, fun h => absurd h (by first | decide | simp)⟩
  refine ⟨fun _ => ?_, fun h => absurd h (by first | decide | simp)⟩
  show SV.p (bl (_ == !((triples s[n]).1.take (triples s[n]).1.length).any _)) = _
  rw [hTt]; simp
end Go.Pv

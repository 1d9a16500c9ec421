/- Contracts of bandpasses: parts, Split, Join. -/
import Derived.Test.YtaaijmojlodefaaBc
import Derived.Test.YtaaijmojlodefaaPlBandBm
namespace Go.Pv
open Go.Vc
open Go.Proofs
set_option maxRecDepth 10000

theorem b_clone (xs : List Cx) (h : 0 < xs.length) (hn : xs.length ≤ 100) : Ret Try.prog 77 [sl xs] [.row 60 3 xs.length false (flat xs)] (.ob 0) := by
  refine ret (fn := Try.f77) (by kernel_rfl) (by kernel_rfl) rfl ?_
  refine ⟨h, ?_⟩
  refine ⟨by rw [flat_length]; rfl, ⟨by show 0 + xs.length ≤ _; omega, by show (0 + xs.length) * 24 ≤ _; omega⟩, false, (fun h => by cases h), ?_⟩
  exact ⟨⟨Nat.zero_add _, rfl⟩, rfl⟩

theorem b_cloneR {r : List Cx} {p q : Nat} (h1 : p < q) (h2 : q ≤ r.length) (h3 : q ≤ 100) : Ret Try.prog 77 [.sl false (q - p) (((flat r).drop (p * 3)).take ((q - p) * 3))] [.row 60 3 (q - p) false (flat (cutR r p q))] (.ob 0) := by
  have e : ((flat r).drop (p * 3)).take ((q - p) * 3) = flat (cutR r p q) := flat_part r p q
  rw [e]
  have := b_clone (cutR r p q) (by rw [cutR_length h2]; omega) (by rw [cutR_length h2]; omega)
  rw [cutR_length h2] at this
  simpa [sl, cutR_length h2] using this

theorem b_partO (b : List (List Cx)) (p q : Nat) (hb : b.length ≤ 8) (h1 : p < q) (h2 : ∀ r ∈ b, q ≤ r.length) (h3 : q ≤ 100) : Ret Try.prog 51 [sl b, i64 p, i64 q] [.nest 23 1 b.length (partN 60 b p q) none] (.ob 0) := by
  refine ret (fn := Try.f51) (by kernel_rfl) (by kernel_rfl) rfl ?_
  refine ⟨Nat, { inv := fun k => k ≤ b.length, slots := [(12, fun k => i64 k)], nrows := [(7, 23, 1, fun k => k, fun k => partN 60 (b.take k) p q)], mu := fun k => b.length - k }, 0, ⟨⟨rfl, trivial⟩, ⟨⟨rfl, rfl⟩, trivial⟩, trivial, Nat.zero_le _⟩, ?_⟩
  intro k hk
  refine ⟨fun h4 => ?_, fun h4 => ?_⟩
  · simp at h4
    have h5 := h2 _ (List.getElem_mem h4)
    refine ⟨.no, ?_⟩
    refine ⟨k, rfl, h4, by decide, _, idx h4, rfl, ?_⟩
    refine ⟨by rw [flat_length]; rfl, p, rfl, q, rfl, by omega, h5, q, rfl, rfl, ?_⟩
    refine ⟨_, _, b_cloneR h1 h5 h3, rfl, ?_⟩
    refine ⟨true, 0, 0, 0, ?_⟩
    refine ⟨⟨by show k + 1 ≤ _; omega, by show (k + 1) * 24 ≤ _; omega⟩, ?_⟩
    refine ⟨k + 1, by show _ < _; simp; omega, ⟨rfl, rfl⟩, ⟨by show PV.v (.int _ _) = _; rw [succ_w (by omega)], trivial⟩, ⟨⟨rfl, ?_⟩, trivial⟩, trivial, h4⟩
    exact partN_succ h4
  · simp at h4
    have hk : k ≤ b.length := hk
    have : k = b.length := by omega
    subst this
    refine ⟨⟨rfl, ?_⟩, rfl⟩
    show partN _ (b.take b.length) p q = _
    rw [List.take_length]

theorem b_part (b : List (List Cx)) (p q : Nat) (hb : b.length ≤ 8) (h1 : p < q) (h2 : ∀ r ∈ b, q ≤ r.length) (h3 : q ≤ 100) : Ret Try.prog 51 [sl b, i64 p, i64 q] [] (.p (sl (cut32 b p q))) := by
  refine ret (fn := Try.f51) (by kernel_rfl) (by kernel_rfl) rfl ?_
  refine ⟨Nat, { inv := fun k => k ≤ b.length ∧ (True), slots := [(12, fun k => i64 k)], rows := [(7, 23, 1, fun k => k, fun k => flat (cut32 (b.take k) p q))], mu := fun k => b.length - k }, 0, ⟨⟨rfl, trivial⟩, ⟨⟨rfl, rfl⟩, trivial⟩, trivial, Nat.zero_le _, trivial⟩, ?_⟩
  intro k ⟨hk, _⟩
  refine ⟨fun h4 => ?_, fun h4 => ?_⟩
  · simp at h4
    have h5 := h2 _ (List.getElem_mem h4)
    refine ⟨k, rfl, h4, by decide, _, idx h4, rfl, ?_⟩
    refine ⟨by rw [flat_length]; rfl, p, rfl, q, rfl, by omega, h5, q, rfl, rfl, ?_⟩
    refine ⟨_, _, b_cloneR h1 h5 h3, rfl, ?_⟩
    refine ⟨false, ?_⟩
    refine ⟨⟨by show k + 1 ≤ _; omega, by show (k + 1) * 24 ≤ _; omega⟩, ?_⟩
    refine ⟨k + 1, by show _ < _; simp; omega, ⟨rfl, rfl⟩, ⟨by show PV.v (.int _ _) = _; rw [succ_w (by omega)], trivial⟩, ⟨⟨rfl, ?_⟩, trivial⟩, (by repeat' first | exact trivial | rfl | apply And.intro), h4, trivial⟩
    show flat (cut32 (b.take k) p q) ++ [PV.sl false (q - p) (flat (cutR b[k] p q))] = flat (cut32 (b.take (k + 1)) p q)
    rw [List.take_succ_eq_append_getElem h4, ← cutR_length h5]
    unfold cut32
    rw [List.map_append, List.map_singleton, flat_snoc]; rfl
  · simp at h4
    have : k = b.length := by omega
    subst this
    show SV.p (.sl false b.length (flat (cut32 (b.take b.length) p q))) = _
    rw [List.take_length]
    simp [cut32]

theorem b_split (b : List (List Cx)) (n : Int) (hb : ∀ r ∈ b, ∀ c ∈ r, Enc.ok c) : Ret Try.prog 17 [sl b, i64 n] [] (resB2 (bsplit b n)) := by
  refine ret (fn := Try.f17) (by kernel_rfl) (by kernel_rfl) rfl ?_
  refine ⟨[], _, b_check b hb, rfl, ?_⟩
  refine ⟨fun h1 => ?_, fun h1 => ?_⟩
  · simp at h1
    rw [bsplit, if_pos h1]; rfl
  simp at h1
  obtain ⟨b1, b2, b3, b4, b5, b6⟩ := ck32_0 h1
  have eb := row0_get b2
  refine ⟨fun h2 => ?_, fun h2 => ?_⟩
  rotate_left
  · simp at h2
    show SV.tup [.p (.sl false 0 []), .p (.sl false 0 []), .p (i64 2)] = resB2 _
    rw [bsplit, if_neg (by simp [h1]), if_pos (.inl h2)]; rfl
  simp at h2
  refine ⟨0, rfl, b2, by decide, _, idx b2, rfl, ?_⟩
  refine ⟨fun h3 => ?_, fun h3 => ?_⟩
  · simp at h3
    show SV.tup [.p (.sl false 0 []), .p (.sl false 0 []), .p (i64 2)] = resB2 _
    rw [bsplit, if_neg (by simp [h1]), if_pos (.inr (by rw [eb]; exact h3))]; rfl
  simp at h3
  obtain ⟨m, rfl⟩ := Int.eq_ofNat_of_zero_le (show 0 ≤ n by omega)
  have hm : m < (row0 b).length := by rw [eb]; omega
  refine ⟨_, b_part b 0 m b1 (by omega) (fun r hr => by have := b5 r hr; omega) (by omega), rfl, ?_⟩
  refine ⟨0, rfl, b2, by decide, _, idx b2, rfl, ?_⟩
  refine ⟨_, b_part b m b[0].length b1 (by rw [← eb]; exact hm) (fun r hr => by have := b5 r hr; rw [← eb]; omega) (by rw [← eb]; omega), rfl, ?_⟩
  rw [bsplit, if_neg (by simp [h1]), if_neg (by omega), eb]; rfl

theorem b_join (a b : List (List Cx)) (ha : ∀ r ∈ a, ∀ c ∈ r, Enc.ok c) (hb : ∀ r ∈ b, ∀ c ∈ r, Enc.ok c) : Ret Try.prog 19 [sl a, sl b] [] (resBs (bjoin a b)) := by
  refine ret (fn := Try.f19) (by kernel_rfl) (by kernel_rfl) rfl ?_
  refine ⟨[], _, b_both a b ha hb, rfl, ?_⟩
  refine ⟨fun h1 => ?_, fun h1 => ?_⟩
  · simp at h1
    rw [bjoin, if_pos h1]; rfl
  simp at h1
  obtain ⟨ka, kb⟩ := both32_0 h1
  obtain ⟨a1, a2, a3, a4, a5, a6⟩ := ck32_0 ka
  obtain ⟨b1, b2, b3, b4, b5, b6⟩ := ck32_0 kb
  have ea := row0_get a2
  have eb := row0_get b2
  refine ⟨fun h2 => ?_, fun h2 => ?_⟩
  · simp at h2
    show SV.tup [.p (.sl false 0 []), .p (i64 2)] = resBs _
    rw [bjoin, if_neg (by simp [h1]), if_pos (by omega)]; rfl
  simp at h2
  refine ⟨0, rfl, a2, by decide, _, idx a2, rfl, ?_⟩
  refine ⟨0, rfl, b2, by decide, _, idx b2, rfl, ?_⟩
  have ew : IntKind.i64.wrap ((a[0].length : Int) + b[0].length) = ((a[0].length + b[0].length : Nat) : Int) := by rw [← ea, ← eb, wrap_id (by omega) (by omega)]; omega
  refine ⟨fun h3 => ?_, fun h3 => ?_⟩
  · have h3 : decide (IntKind.i64.wrap ((a[0].length : Int) + b[0].length) > 16) = true := h3
    rw [ew] at h3
    simp at h3
    show SV.tup [.p (.sl false 0 []), .p (i64 4)] = resBs _
    rw [bjoin, if_neg (by simp [h1]), if_neg (by omega), if_pos (by rw [ea, eb]; omega)]; rfl
  have h3 : decide (IntKind.i64.wrap ((a[0].length : Int) + b[0].length) > 16) = false := h3
  rw [ew] at h3
  simp at h3
  refine ⟨0, rfl, a2, by decide, _, idx a2, rfl, ?_⟩
  refine ⟨_, _, b_partO a 0 a[0].length a1 (by rw [← ea]; exact a3) (fun r hr => by rw [a5 r hr, ea]; exact Nat.le_refl _) (by omega), rfl, ?_⟩
  refine ⟨Nat, { inv := fun i => i ≤ b.length, slots := [(39, fun i => i64 i)], nrows := [(7, 23, 1, fun _ => a.length, fun i => jnN 60 a b i)], mu := fun i => b.length - i }, 0, ⟨⟨rfl, trivial⟩, ⟨⟨rfl, jnN_0 fun r hr => by rw [a5 r hr, ea]⟩, trivial⟩, (by repeat' first | exact trivial | rfl | apply And.intro), Nat.zero_le _⟩, ?_⟩
  intro i hi
  refine ⟨fun h4 => ?_, fun h4 => ?_⟩
  · simp at h4
    refine ⟨.no, ?_⟩
    refine ⟨i, rfl, h4, by decide, _, idx h4, rfl, ?_⟩
    have h5 : i < a.length := by omega
    have l1 := a5 _ (List.getElem_mem h5)
    have l2 := b5 _ (List.getElem_mem h4)
    rw [ea] at l1
    rw [eb] at l2
    refine ⟨.out 1 i 60 3 a[i].length (flat a[i]), jnN_get h5, ?_⟩
    refine ⟨i, rfl, h5, ?_⟩
    have hlen : (jnN 60 a b i).length = a.length := by simp [jnN]
    refine ⟨[.ob 2], ⟨.inl ⟨(by simp), rfl⟩, trivial⟩, rfl, by show i * 1 + 1 ≤ (jnN 60 a b i).length; omega, ?_⟩
    refine ⟨by rw [flat_length]; rfl, ⟨by show a[i].length + b[i].length ≤ _; omega, by show (a[i].length + b[i].length) * 24 ≤ _; omega⟩, ?_⟩
    refine ⟨i, rfl, h5, ?_⟩
    refine ⟨by show i * 1 + 1 ≤ (jnN 60 a b i).length; omega, (by show i = i * 1; omega), ?_⟩
    refine ⟨i + 1, by show _ < _; simp; omega, ⟨rfl, rfl⟩, ⟨by show PV.v (.int _ _) = _; rw [succ_w (by omega)], trivial⟩, ⟨⟨rfl, ?_⟩, trivial⟩, (by repeat' first | exact trivial | rfl | apply And.intro), h4⟩
    show (jnN 60 a b i).set (i * 1) (.ow 60 3 (a[i].length + b[i].length) (flat a[i] ++ flat b[i])) = jnN 60 a b (i + 1)
    rw [Nat.mul_one, jnN_put h5 h4]
  · simp at h4
    have hi : i ≤ b.length := hi
    have : i = a.length := by omega
    subst this
    show SV.tup [.p (.sl false a.length ((jnN 60 a b a.length).map ncP)), .p (i64 0)] = resBs _
    rw [bjoin, if_neg (by simp [h1]), if_neg (by omega), if_neg (by rw [ea, eb]; omega), jnN_pv]
    simp [jn]
end Go.Pv

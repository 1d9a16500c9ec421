/- Contracts of bandpasses: a channel of all stations, building channel by channel. -/
import Derived.Test.YtaaijmojlodefaaBa
import Derived.Test.YtaaijmojlodefaaCd
namespace Go.Pv
open Go.Vc
open Go.Proofs
set_option maxRecDepth 10000

theorem b_col (b : List (List Cx)) (c : Nat) (h1 : b.length ≤ 100) (hc : ∀ r ∈ b, c < r.length) : Ret Try.prog 43 [sl b, i64 c] [] (.p (sl (col32 b c))) := by
  refine ret (fn := Try.f43) (by kernel_rfl) (by kernel_rfl) rfl ?_
  refine ⟨Nat, { inv := fun k => k ≤ b.length ∧ (True), slots := [(10, fun k => i64 k)], rows := [(5, 60, 3, fun k => k, fun k => flat ((b.take k).map fun r => gat r c))], mu := fun k => b.length - k }, 0, ⟨⟨rfl, trivial⟩, ⟨⟨rfl, rfl⟩, trivial⟩, trivial, Nat.zero_le _, trivial⟩, ?_⟩
  intro k ⟨hk, _⟩
  refine ⟨fun h2 => ?_, fun h2 => ?_⟩
  · simp at h2
    refine ⟨k, rfl, h2, by decide, _, idx h2, rfl, ?_⟩
    have h3 := hc _ (List.getElem_mem h2)
    refine ⟨c, rfl, h3, by decide, _, idx h3, rfl, ?_⟩
    refine ⟨⟨by show k + 1 ≤ _; omega, by show (k + 1) * 24 ≤ _; omega⟩, ?_⟩
    refine ⟨k + 1, by show _ < _; simp; omega, ⟨rfl, rfl⟩, ⟨by show PV.v (.int _ _) = _; rw [succ_w (by omega)], trivial⟩, ⟨⟨rfl, ?_⟩, trivial⟩, trivial, h2, trivial⟩
    show _ ++ _ = flat _
    rw [List.take_succ_eq_append_getElem h2, List.map_append, List.map_singleton, flat_snoc, gat_get h3]; rfl
  · simp at h2
    have : k = b.length := by omega
    subst this
    show SV.p (.sl false b.length (flat ((b.take b.length).map fun r => gat r c))) = _
    rw [List.take_length]
    simp [col32]

theorem b_buildM (n m : Nat) (hn : n ≤ 8) (hm : m ≤ 16) (ca cb : List PV) (col : Nat → List Cx × Int)
    (hc : ∀ c : Nat, c < m → Ret Try.prog 41 [i64 c, .fp true ca, .fp true cb] [] (resCs (col c)))
    (hl : ∀ c : Nat, c < m → (col c).2 = 0 → (col c).1.length = n) :
    Ret Try.prog 40 [i64 n, i64 m, .fn (.func 41) [] [.fp true ca, .fp true cb]] [] (resBs (built n m col)) := by
  refine ret (fn := Try.f40) (by kernel_rfl) (by kernel_rfl) rfl ?_
  refine ⟨n, n, rfl, rfl, Nat.le_refl _, ⟨by show n + 0 ≤ _; omega, by show (n + 0) * 24 ≤ _; omega⟩, ?_⟩
  refine ⟨Nat, { inv := fun c => c ≤ m ∧ berr col c = 0, slots := [(17, fun c => i64 c)], nrows := [(8, 23, 1, fun _ => n, fun c => bNs 60 n col c 0)], mu := fun c => m - c }, 0, ⟨⟨rfl, trivial⟩, ⟨⟨rfl, (bNs_0 _ _ _).symm⟩, trivial⟩, (by repeat' first | exact trivial | rfl | apply And.intro), Nat.zero_le _, rfl⟩, ?_⟩
  intro c ⟨hcm, hz⟩
  refine ⟨fun h1 => ?_, fun h1 => ?_⟩
  · simp at h1
    refine ⟨[], _, hc c h1, rfl, ?_⟩
    refine ⟨fun h2 => ?_, fun h2 => ?_⟩
    · simp at h2
      show SV.tup [.p (.sl false 0 []), .p (i64 _)] = resBs _
      have e := berr_bad h1 hz h2
      rw [built, if_neg (by rw [e]; exact h2), e]; rfl
    simp at h2
    have hln := hl c h1 h2
    refine ⟨Nat, { inv := fun i => i ≤ n, slots := [(31, fun i => i64 i)], nrows := [(8, 23, 1, fun _ => n, fun i => bNs 60 n col c i)], mu := fun i => n - i }, 0, ⟨⟨rfl, trivial⟩, ⟨⟨rfl, rfl⟩, trivial⟩, (by repeat' first | exact trivial | rfl | apply And.intro), Nat.zero_le _⟩, ?_⟩
    intro i hi
    refine ⟨fun h3 => ?_, fun h3 => ?_⟩
    · simp at h3
      have h4 : i < (col c).1.length := by omega
      refine ⟨.no, ?_⟩
      refine ⟨i, rfl, h4, by decide, _, idx h4, rfl, ?_⟩
      have h5 : i < n := by omega
      refine ⟨.out 2 i 60 3 c (flat (brow col c i)), bNs_get h5, ?_⟩
      refine ⟨i, rfl, h5, ?_⟩
      have hlen : (bNs 60 n col c i).length = n := by simp [bNs]
      refine ⟨[.ob 4], ⟨.inl ⟨(by simp), rfl⟩, trivial⟩, rfl, by show i * 1 + 1 ≤ (bNs 60 n col c i).length; omega, ?_⟩
      refine ⟨⟨by show c + 1 ≤ _; omega, by show (c + 1) * 24 ≤ _; omega⟩, ?_⟩
      refine ⟨i, rfl, h5, ?_⟩
      refine ⟨by show i * 1 + 1 ≤ (bNs 60 n col c i).length; omega, (by show i = i * 1; omega), ?_⟩
      refine ⟨i + 1, by show _ < _; simp; omega, ⟨rfl, rfl⟩, ⟨by show PV.v (.int _ _) = _; rw [succ_w (by omega)], trivial⟩, ⟨⟨rfl, ?_⟩, trivial⟩, (by repeat' first | exact trivial | rfl | apply And.intro), h5⟩
      show (bNs 60 n col c i).set (i * 1) (.ow 60 3 (c + 1) (flat (brow col c i) ++ Enc.cs (col c).1[i])) = bNs 60 n col c (i + 1)
      rw [Nat.mul_one, ← bNs_put h5, brow_succ, flat_snoc, gat_get h4]
    · simp at h3
      have : i = n := by have hi : i ≤ n := hi; omega
      subst this
      refine ⟨c + 1, by show _ < _; simp; omega, ⟨rfl, rfl⟩, ⟨by show PV.v (.int _ _) = _; rw [succ_w (by omega)], trivial⟩, ⟨⟨rfl, bNs_next⟩, trivial⟩, (by repeat' first | exact trivial | rfl | apply And.intro), h1, ?_⟩
      rw [berr, if_neg (by simp [hz])]; exact h2
  · simp at h1
    have : c = m := by omega
    subst this
    show SV.tup [.p (.sl false n ((bNs 60 n col c 0).map ncP)), .p (i64 0)] = resBs _
    rw [built, if_pos hz, bNs_pv]
    simp

theorem b_buildI (n m : Nat) (hn : n ≤ 8) (hm : m ≤ 16) (ca : List PV) (col : Nat → List Cx × Int)
    (hc : ∀ c : Nat, c < m → Ret Try.prog 45 [i64 c, .fp true ca] [] (resCs (col c)))
    (hl : ∀ c : Nat, c < m → (col c).2 = 0 → (col c).1.length = n) :
    Ret Try.prog 40 [i64 n, i64 m, .fn (.func 45) [] [.fp true ca]] [] (resBs (built n m col)) := by
  refine ret (fn := Try.f40) (by kernel_rfl) (by kernel_rfl) rfl ?_
  refine ⟨n, n, rfl, rfl, Nat.le_refl _, ⟨by show n + 0 ≤ _; omega, by show (n + 0) * 24 ≤ _; omega⟩, ?_⟩
  refine ⟨Nat, { inv := fun c => c ≤ m ∧ berr col c = 0, slots := [(17, fun c => i64 c)], nrows := [(8, 23, 1, fun _ => n, fun c => bNs 60 n col c 0)], mu := fun c => m - c }, 0, ⟨⟨rfl, trivial⟩, ⟨⟨rfl, (bNs_0 _ _ _).symm⟩, trivial⟩, (by repeat' first | exact trivial | rfl | apply And.intro), Nat.zero_le _, rfl⟩, ?_⟩
  intro c ⟨hcm, hz⟩
  refine ⟨fun h1 => ?_, fun h1 => ?_⟩
  · simp at h1
    refine ⟨[], _, hc c h1, rfl, ?_⟩
    refine ⟨fun h2 => ?_, fun h2 => ?_⟩
    · simp at h2
      show SV.tup [.p (.sl false 0 []), .p (i64 _)] = resBs _
      have e := berr_bad h1 hz h2
      rw [built, if_neg (by rw [e]; exact h2), e]; rfl
    simp at h2
    have hln := hl c h1 h2
    refine ⟨Nat, { inv := fun i => i ≤ n, slots := [(31, fun i => i64 i)], nrows := [(8, 23, 1, fun _ => n, fun i => bNs 60 n col c i)], mu := fun i => n - i }, 0, ⟨⟨rfl, trivial⟩, ⟨⟨rfl, rfl⟩, trivial⟩, (by repeat' first | exact trivial | rfl | apply And.intro), Nat.zero_le _⟩, ?_⟩
    intro i hi
    refine ⟨fun h3 => ?_, fun h3 => ?_⟩
    · simp at h3
      have h4 : i < (col c).1.length := by omega
      refine ⟨.no, ?_⟩
      refine ⟨i, rfl, h4, by decide, _, idx h4, rfl, ?_⟩
      have h5 : i < n := by omega
      refine ⟨.out 2 i 60 3 c (flat (brow col c i)), bNs_get h5, ?_⟩
      refine ⟨i, rfl, h5, ?_⟩
      have hlen : (bNs 60 n col c i).length = n := by simp [bNs]
      refine ⟨[.ob 4], ⟨.inl ⟨(by simp), rfl⟩, trivial⟩, rfl, by show i * 1 + 1 ≤ (bNs 60 n col c i).length; omega, ?_⟩
      refine ⟨⟨by show c + 1 ≤ _; omega, by show (c + 1) * 24 ≤ _; omega⟩, ?_⟩
      refine ⟨i, rfl, h5, ?_⟩
      refine ⟨by show i * 1 + 1 ≤ (bNs 60 n col c i).length; omega, (by show i = i * 1; omega), ?_⟩
      refine ⟨i + 1, by show _ < _; simp; omega, ⟨rfl, rfl⟩, ⟨by show PV.v (.int _ _) = _; rw [succ_w (by omega)], trivial⟩, ⟨⟨rfl, ?_⟩, trivial⟩, (by repeat' first | exact trivial | rfl | apply And.intro), h5⟩
      show (bNs 60 n col c i).set (i * 1) (.ow 60 3 (c + 1) (flat (brow col c i) ++ Enc.cs (col c).1[i])) = bNs 60 n col c (i + 1)
      rw [Nat.mul_one, ← bNs_put h5, brow_succ, flat_snoc, gat_get h4]
    · simp at h3
      have : i = n := by have hi : i ≤ n := hi; omega
      subst this
      refine ⟨c + 1, by show _ < _; simp; omega, ⟨rfl, rfl⟩, ⟨by show PV.v (.int _ _) = _; rw [succ_w (by omega)], trivial⟩, ⟨⟨rfl, bNs_next⟩, trivial⟩, (by repeat' first | exact trivial | rfl | apply And.intro), h1, ?_⟩
      rw [berr, if_neg (by simp [hz])]; exact h2
  · simp at h1
    have : c = m := by omega
    subst this
    show SV.tup [.p (.sl false n ((bNs 60 n col c 0).map ncP)), .p (i64 0)] = resBs _
    rw [built, if_pos hz, bNs_pv]
    simp

theorem b_buildF (n m : Nat) (hn : n ≤ 8) (hm : m ≤ 16) (ca : List PV) (col : Nat → List Cx × Int)
    (hc : ∀ c : Nat, c < m → Ret Try.prog 50 [i64 c, .fp true ca] [] (resCs (col c)))
    (hl : ∀ c : Nat, c < m → (col c).2 = 0 → (col c).1.length = n) :
    Ret Try.prog 40 [i64 n, i64 m, .fn (.func 50) [] [.fp true ca]] [] (resBs (built n m col)) := by
  refine ret (fn := Try.f40) (by kernel_rfl) (by kernel_rfl) rfl ?_
  refine ⟨n, n, rfl, rfl, Nat.le_refl _, ⟨by show n + 0 ≤ _; omega, by show (n + 0) * 24 ≤ _; omega⟩, ?_⟩
  refine ⟨Nat, { inv := fun c => c ≤ m ∧ berr col c = 0, slots := [(17, fun c => i64 c)], nrows := [(8, 23, 1, fun _ => n, fun c => bNs 60 n col c 0)], mu := fun c => m - c }, 0, ⟨⟨rfl, trivial⟩, ⟨⟨rfl, (bNs_0 _ _ _).symm⟩, trivial⟩, (by repeat' first | exact trivial | rfl | apply And.intro), Nat.zero_le _, rfl⟩, ?_⟩
  intro c ⟨hcm, hz⟩
  refine ⟨fun h1 => ?_, fun h1 => ?_⟩
  · simp at h1
    refine ⟨[], _, hc c h1, rfl, ?_⟩
    refine ⟨fun h2 => ?_, fun h2 => ?_⟩
    · simp at h2
      show SV.tup [.p (.sl false 0 []), .p (i64 _)] = resBs _
      have e := berr_bad h1 hz h2
      rw [built, if_neg (by rw [e]; exact h2), e]; rfl
    simp at h2
    have hln := hl c h1 h2
    refine ⟨Nat, { inv := fun i => i ≤ n, slots := [(31, fun i => i64 i)], nrows := [(8, 23, 1, fun _ => n, fun i => bNs 60 n col c i)], mu := fun i => n - i }, 0, ⟨⟨rfl, trivial⟩, ⟨⟨rfl, rfl⟩, trivial⟩, (by repeat' first | exact trivial | rfl | apply And.intro), Nat.zero_le _⟩, ?_⟩
    intro i hi
    refine ⟨fun h3 => ?_, fun h3 => ?_⟩
    · simp at h3
      have h4 : i < (col c).1.length := by omega
      refine ⟨.no, ?_⟩
      refine ⟨i, rfl, h4, by decide, _, idx h4, rfl, ?_⟩
      have h5 : i < n := by omega
      refine ⟨.out 2 i 60 3 c (flat (brow col c i)), bNs_get h5, ?_⟩
      refine ⟨i, rfl, h5, ?_⟩
      have hlen : (bNs 60 n col c i).length = n := by simp [bNs]
      refine ⟨[.ob 4], ⟨.inl ⟨(by simp), rfl⟩, trivial⟩, rfl, by show i * 1 + 1 ≤ (bNs 60 n col c i).length; omega, ?_⟩
      refine ⟨⟨by show c + 1 ≤ _; omega, by show (c + 1) * 24 ≤ _; omega⟩, ?_⟩
      refine ⟨i, rfl, h5, ?_⟩
      refine ⟨by show i * 1 + 1 ≤ (bNs 60 n col c i).length; omega, (by show i = i * 1; omega), ?_⟩
      refine ⟨i + 1, by show _ < _; simp; omega, ⟨rfl, rfl⟩, ⟨by show PV.v (.int _ _) = _; rw [succ_w (by omega)], trivial⟩, ⟨⟨rfl, ?_⟩, trivial⟩, (by repeat' first | exact trivial | rfl | apply And.intro), h5⟩
      show (bNs 60 n col c i).set (i * 1) (.ow 60 3 (c + 1) (flat (brow col c i) ++ Enc.cs (col c).1[i])) = bNs 60 n col c (i + 1)
      rw [Nat.mul_one, ← bNs_put h5, brow_succ, flat_snoc, gat_get h4]
    · simp at h3
      have : i = n := by have hi : i ≤ n := hi; omega
      subst this
      refine ⟨c + 1, by show _ < _; simp; omega, ⟨rfl, rfl⟩, ⟨by show PV.v (.int _ _) = _; rw [succ_w (by omega)], trivial⟩, ⟨⟨rfl, bNs_next⟩, trivial⟩, (by repeat' first | exact trivial | rfl | apply And.intro), h1, ?_⟩
      rw [berr, if_neg (by simp [hz])]; exact h2
  · simp at h1
    have : c = m := by omega
    subst this
    show SV.tup [.p (.sl false n ((bNs 60 n col c 0).map ncP)), .p (i64 0)] = resBs _
    rw [built, if_pos hz, bNs_pv]
    simp

end Go.Pv

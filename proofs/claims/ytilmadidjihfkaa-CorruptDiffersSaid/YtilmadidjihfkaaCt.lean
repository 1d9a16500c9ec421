/- Contracts of the closure's functions: triples. -/
import Derived.Test.YtilmadidjihfkaaCm
import Derived.Test.YtilmadidjihfkaaPlCxm
namespace Go.Pv
open Go.Vc
open Go.Proofs
set_option maxRecDepth 10000

abbrev resT (r : List Tri × Int) : SV := .tup [.p (sl r.1), .p (i64 r.2)]

theorem l_triples (l : List Vis) (hl : ∀ v ∈ l, Enc.ok v) : Ret Try.prog 22 [sl l] [] (resT (triples l)) := by
  refine ret (fn := Try.f22) (by kernel_rfl) (by kernel_rfl) rfl ?_
  refine ⟨[], _, l_check l hl, rfl, ?_⟩
  refine ⟨fun h1 => ?_, fun h1 => ?_⟩
  · simp at h1
    rw [triples, if_pos h1]; rfl
  simp at h1
  obtain ⟨hlen, hgood, _⟩ := ck27_0 h1
  refine ⟨Nat, { inv := fun k => k ≤ l.length ∧ (True), slots := [(19, fun k => i64 k)], boxes := [(0, fun k => seenAt (l.take k))], mu := fun k => l.length - k }, 0, ⟨⟨rfl, trivial⟩, trivial, ⟨seenAt_nil, trivial⟩, Nat.zero_le _, trivial⟩, ?_⟩
  intro k ⟨hk, _⟩
  refine ⟨fun h2 => ?_, fun h2 => ?_⟩
  · simp at h2
    have hg := hgood l[k] (List.getElem_mem h2)
    unfold Vis.good at hg
    obtain ⟨a, ha⟩ : ∃ a : Nat, l[k].i = a := ⟨l[k].i.toNat, by omega⟩
    obtain ⟨b, hb⟩ : ∃ b : Nat, l[k].j = b := ⟨l[k].j.toNat, by omega⟩
    refine ⟨k, rfl, h2, by decide, _, idx h2, rfl, ?_⟩
    refine ⟨a, ha, by omega, b, hb, by omega, ?_⟩
    refine ⟨by show a * 8 + b * 1 + 1 ≤ (seenAt _).length; simp [seenAt]; omega, ?_⟩
    refine ⟨k + 1, by show _ < _; simp; omega, ⟨rfl, rfl⟩, ⟨by show PV.v (.int _ _) = _; rw [succ_w (by omega)], trivial⟩, trivial, ⟨?_, trivial⟩, h2, trivial⟩
    show spl (seenAt _) (a * 8 + b * 1) [PV.v (.bool true)] = seenAt _
    rw [Nat.mul_one, List.take_succ_eq_append_getElem h2]
    refine spl_map _ _ _ _ _ (by omega) ?_ ?_
    · rw [hit_snoc, show (l[k].i * 8 + l[k].j == ((a * 8 + b : Nat) : Int)) = true by simp; omega]
      simp
    · intro j hj
      rw [hit_snoc, show (l[k].i * 8 + l[k].j == (j : Int)) = false by simp; omega]
      simp
  simp at h2
  have : k = l.length := by omega
  subst this
  have cell : ∀ (a b : Nat), a < 8 → b < 8 → ((seenAt (l.take l.length)).drop (a * 8 + b * 1)).take 1 = [bl (hit l (a * 8 + b))] := fun a b ha hb => by
    rw [List.take_length, Nat.mul_one, seenAt, part_map _ _ _ _ (by omega)]; rfl
  refine ⟨Nat, { inv := fun a => a ≤ 8 ∧ (True), slots := [(30, fun a => i64 a)], rows := [(8, 54, 3, fun a => (tris l (a * 64)).length, fun a => flat (tris l (a * 64)))], mu := fun a => 8 - a }, 0, ⟨⟨rfl, trivial⟩, ⟨⟨rfl, rfl⟩, trivial⟩, (by repeat' first | exact trivial | rfl | apply And.intro), Nat.zero_le _, trivial⟩, ?_⟩
  intro a ⟨ha, _⟩
  refine ⟨fun h3 => ?_, fun h3 => ?_⟩
  · simp at h3
    have h3 : a < 8 := by omega
    refine ⟨Nat, { inv := fun b => a + 1 ≤ b ∧ b ≤ 8, slots := [(10, fun b => i64 b)], rows := [(8, 54, 3, fun b => (tris l (a * 64 + b * 8)).length, fun b => flat (tris l (a * 64 + b * 8)))], mu := fun b => 8 - b }, a + 1, ⟨⟨by show PV.v (.int _ _) = _; rw [succ_w (by omega)], trivial⟩, ⟨⟨by show _ = (tris l _).length; rw [tris_b l h3], by show _ = flat (tris l _); rw [tris_b l h3]⟩, trivial⟩, (by repeat' first | exact trivial | rfl | apply And.intro), Nat.le_refl _, by show a + 1 ≤ 8; omega⟩, ?_⟩
    intro b ⟨hb1, hb2⟩
    refine ⟨fun h4 => ?_, fun h4 => ?_⟩
    · simp at h4
      have h4 : b < 8 := by omega
      refine ⟨Nat, { inv := fun c => b + 1 ≤ c ∧ c ≤ 8, slots := [(11, fun c => i64 c)], rows := [(8, 54, 3, fun c => (tris l (a * 64 + b * 8 + c)).length, fun c => flat (tris l (a * 64 + b * 8 + c)))], mu := fun c => 8 - c }, b + 1, ⟨⟨by show PV.v (.int _ _) = _; rw [succ_w (by omega)], trivial⟩, ⟨⟨by show _ = (tris l _).length; rw [tris_c l h3 h4], by show _ = flat (tris l _); rw [tris_c l h3 h4]⟩, trivial⟩, (by repeat' first | exact trivial | rfl | apply And.intro), Nat.le_refl _, by show b + 1 ≤ 8; omega⟩, ?_⟩
      intro c ⟨hc1, hc2⟩
      refine ⟨fun h5 => ?_, fun h5 => ?_⟩
      · simp at h5
        have h5 : c < 8 := by omega
        have skip : (hit l (a * 8 + b) && hit l (b * 8 + c) && hit l (a * 8 + c)) = false → tris l (a * 64 + b * 8 + (c + 1)) = tris l (a * 64 + b * 8 + c) := fun h => by
          rw [tris_at l (by omega) (by omega) h5, h]; simp
        refine ⟨a, rfl, h3, b, rfl, h4, _, cell a b h3 h4, rfl, ?_⟩
        refine ⟨fun h6 => ?_, fun h6 => ?_⟩
        · refine ⟨b, rfl, h4, c, rfl, h5, _, cell b c h4 h5, rfl, ?_⟩
          refine ⟨fun h7 => ?_, fun h7 => ?_⟩
          · refine ⟨a, rfl, h3, c, rfl, h5, _, cell a c h3 h5, rfl, ?_⟩
            refine ⟨fun h8 => ?_, fun h8 => ?_⟩
            · have e := tris_at l (a := a) (b := b) (c := c) (by omega) (by omega) h5
              rw [h6, h7, h8] at e
              have hm := tris_length l (a * 64 + b * 8 + c)
              refine ⟨⟨by show (tris l (a * 64 + b * 8 + c)).length + 1 ≤ _; omega, by show ((tris l (a * 64 + b * 8 + c)).length + 1) * 24 ≤ _; omega⟩, ?_⟩
              refine ⟨c + 1, by show _ < _; simp; omega, ⟨rfl, rfl⟩, ⟨by show PV.v (.int _ _) = _; rw [succ_w (by omega)], trivial⟩, ⟨⟨?_, ?_⟩, trivial⟩, (by repeat' first | exact trivial | rfl | apply And.intro), by show b + 1 ≤ c + 1; omega, by show c + 1 ≤ 8; omega⟩
              · show _ + 1 = (tris l (a * 64 + b * 8 + (c + 1))).length
                rw [e]; simp
              · show _ ++ _ = flat (tris l (a * 64 + b * 8 + (c + 1)))
                rw [e]
                simp only [Bool.and_self, if_true]
                rw [flat_snoc]; rfl
            · refine ⟨c + 1, by show _ < _; simp; omega, ⟨rfl, rfl⟩, ⟨by show PV.v (.int _ _) = _; rw [succ_w (by omega)], trivial⟩, ⟨⟨by show _ = (tris l (a * 64 + b * 8 + (c + 1))).length; rw [skip (by simp [h8])], by show _ = flat (tris l (a * 64 + b * 8 + (c + 1))); rw [skip (by simp [h8])]⟩, trivial⟩, (by repeat' first | exact trivial | rfl | apply And.intro), by show b + 1 ≤ c + 1; omega, by show c + 1 ≤ 8; omega⟩
          · refine ⟨c + 1, by show _ < _; simp; omega, ⟨rfl, rfl⟩, ⟨by show PV.v (.int _ _) = _; rw [succ_w (by omega)], trivial⟩, ⟨⟨by show _ = (tris l (a * 64 + b * 8 + (c + 1))).length; rw [skip (by simp [h7])], by show _ = flat (tris l (a * 64 + b * 8 + (c + 1))); rw [skip (by simp [h7])]⟩, trivial⟩, (by repeat' first | exact trivial | rfl | apply And.intro), by show b + 1 ≤ c + 1; omega, by show c + 1 ≤ 8; omega⟩
        · refine ⟨c + 1, by show _ < _; simp; omega, ⟨rfl, rfl⟩, ⟨by show PV.v (.int _ _) = _; rw [succ_w (by omega)], trivial⟩, ⟨⟨by show _ = (tris l (a * 64 + b * 8 + (c + 1))).length; rw [skip (by simp [h6])], by show _ = flat (tris l (a * 64 + b * 8 + (c + 1))); rw [skip (by simp [h6])]⟩, trivial⟩, (by repeat' first | exact trivial | rfl | apply And.intro), by show b + 1 ≤ c + 1; omega, by show c + 1 ≤ 8; omega⟩
      · simp at h5
        have : c = 8 := by omega
        subst this
        refine ⟨b + 1, by show _ < _; simp; omega, ⟨rfl, rfl⟩, ⟨by show PV.v (.int _ _) = _; rw [succ_w (by omega)], trivial⟩, ⟨⟨by show _ = (tris l (a * 64 + (b + 1) * 8)).length; rw [Nat.add_mul, ← Nat.add_assoc], by show _ = flat (tris l (a * 64 + (b + 1) * 8)); rw [Nat.add_mul, ← Nat.add_assoc]⟩, trivial⟩, (by repeat' first | exact trivial | rfl | apply And.intro), by show a + 1 ≤ b + 1; omega, by show b + 1 ≤ 8; omega⟩
    · simp at h4
      have : b = 8 := by omega
      subst this
      refine ⟨a + 1, by show _ < _; simp; omega, ⟨rfl, rfl⟩, ⟨by show PV.v (.int _ _) = _; rw [succ_w (by omega)], trivial⟩, ⟨⟨by show _ = (tris l ((a + 1) * 64)).length; rw [Nat.add_mul], by show _ = flat (tris l ((a + 1) * 64)); rw [Nat.add_mul]⟩, trivial⟩, (by repeat' first | exact trivial | rfl | apply And.intro), by show a + 1 ≤ 8; omega, trivial⟩
  simp at h3
  have : a = 8 := by omega
  subst this
  rw [triples, if_neg (by omega)]; rfl

theorem r_triples (l : List Vis) : Ret Try.prog 55 [sl l] [] (resT (triples l)) := by
  refine ret (fn := Try.f55) (by kernel_rfl) (by kernel_rfl) rfl ?_
  refine ⟨[], _, r_check27 l, rfl, ?_⟩
  refine ⟨fun h1 => ?_, fun h1 => ?_⟩
  · simp at h1
    refine ⟨[], _, r_check27 l, rfl, ?_⟩
    rw [triples, if_pos h1]; rfl
  simp at h1
  obtain ⟨hlen, hgood, _⟩ := ck27_0 h1
  refine ⟨Nat, { inv := fun a => a ≤ 8 ∧ (True), slots := [(5, fun a => i64 a)], rows := [(4, 54, 3, fun a => (tris l (a * 64)).length, fun a => flat (tris l (a * 64)))], mu := fun a => 8 - a }, 0, ⟨⟨rfl, trivial⟩, ⟨⟨rfl, rfl⟩, trivial⟩, (by repeat' first | exact trivial | rfl | apply And.intro), Nat.zero_le _, trivial⟩, ?_⟩
  intro a ⟨ha, _⟩
  refine ⟨fun h3 => ?_, fun h3 => ?_⟩
  · simp at h3
    have h3 : a < 8 := by omega
    refine ⟨Nat, { inv := fun b => a + 1 ≤ b ∧ b ≤ 8, slots := [(6, fun b => i64 b)], rows := [(4, 54, 3, fun b => (tris l (a * 64 + b * 8)).length, fun b => flat (tris l (a * 64 + b * 8)))], mu := fun b => 8 - b }, a + 1, ⟨⟨by show PV.v (.int _ _) = _; rw [succ_w (by omega)], trivial⟩, ⟨⟨by show _ = (tris l _).length; rw [tris_b l h3], by show _ = flat (tris l _); rw [tris_b l h3]⟩, trivial⟩, (by repeat' first | exact trivial | rfl | apply And.intro), Nat.le_refl _, by show a + 1 ≤ 8; omega⟩, ?_⟩
    intro b ⟨hb1, hb2⟩
    refine ⟨fun h4 => ?_, fun h4 => ?_⟩
    · simp at h4
      have h4 : b < 8 := by omega
      refine ⟨Nat, { inv := fun c => b + 1 ≤ c ∧ c ≤ 8, slots := [(7, fun c => i64 c)], rows := [(4, 54, 3, fun c => (tris l (a * 64 + b * 8 + c)).length, fun c => flat (tris l (a * 64 + b * 8 + c)))], mu := fun c => 8 - c }, b + 1, ⟨⟨by show PV.v (.int _ _) = _; rw [succ_w (by omega)], trivial⟩, ⟨⟨by show _ = (tris l _).length; rw [tris_c l h3 h4], by show _ = flat (tris l _); rw [tris_c l h3 h4]⟩, trivial⟩, (by repeat' first | exact trivial | rfl | apply And.intro), Nat.le_refl _, by show b + 1 ≤ 8; omega⟩, ?_⟩
      intro c ⟨hc1, hc2⟩
      refine ⟨fun h5 => ?_, fun h5 => ?_⟩
      · simp at h5
        have h5 : c < 8 := by omega
        have skip : (hit l (a * 8 + b) && hit l (b * 8 + c) && hit l (a * 8 + c)) = false → tris l (a * 64 + b * 8 + (c + 1)) = tris l (a * 64 + b * 8 + c) := fun h => by
          rw [tris_at l (by omega) (by omega) h5, h]; simp
        have e1 := got_some hgood (a := a) (b := b) (by omega) h4
        have e2 := got_some hgood (a := b) (b := c) (by omega) h5
        have e3 := got_some hgood (a := a) (b := c) (by omega) h5
        refine ⟨[], _, r_got l a b hlen hgood, rfl, ?_⟩
        refine ⟨[], _, r_got l b c hlen hgood, rfl, ?_⟩
        refine ⟨[], _, r_got l a c hlen hgood, rfl, ?_⟩
        refine ⟨fun h6 => ?_, fun h6 => ?_⟩
        · refine ⟨fun h7 => ?_, fun h7 => ?_⟩
          · refine ⟨fun h8 => ?_, fun h8 => ?_⟩
            · have e := tris_at l (a := a) (b := b) (c := c) (by omega) (by omega) h5
              rw [← e1, ← e2, ← e3, h6, h7, h8] at e
              have hm := tris_length l (a * 64 + b * 8 + c)
              refine ⟨⟨by show (tris l (a * 64 + b * 8 + c)).length + 1 ≤ _; omega, by show ((tris l (a * 64 + b * 8 + c)).length + 1) * 24 ≤ _; omega⟩, ?_⟩
              refine ⟨c + 1, by show _ < _; simp; omega, ⟨rfl, rfl⟩, ⟨by show PV.v (.int _ _) = _; rw [succ_w (by omega)], trivial⟩, ⟨⟨?_, ?_⟩, trivial⟩, (by repeat' first | exact trivial | rfl | apply And.intro), by show b + 1 ≤ c + 1; omega, by show c + 1 ≤ 8; omega⟩
              · show _ + 1 = (tris l (a * 64 + b * 8 + (c + 1))).length
                rw [e]; simp
              · show _ ++ _ = flat (tris l (a * 64 + b * 8 + (c + 1)))
                rw [e]
                simp only [Bool.and_self, if_true]
                rw [flat_snoc]; rfl
            · refine ⟨c + 1, by show _ < _; simp; omega, ⟨rfl, rfl⟩, ⟨by show PV.v (.int _ _) = _; rw [succ_w (by omega)], trivial⟩, ⟨⟨by show _ = (tris l (a * 64 + b * 8 + (c + 1))).length; rw [skip (by rw [← e3]; simp [h8])], by show _ = flat (tris l (a * 64 + b * 8 + (c + 1))); rw [skip (by rw [← e3]; simp [h8])]⟩, trivial⟩, (by repeat' first | exact trivial | rfl | apply And.intro), by show b + 1 ≤ c + 1; omega, by show c + 1 ≤ 8; omega⟩
          · refine ⟨c + 1, by show _ < _; simp; omega, ⟨rfl, rfl⟩, ⟨by show PV.v (.int _ _) = _; rw [succ_w (by omega)], trivial⟩, ⟨⟨by show _ = (tris l (a * 64 + b * 8 + (c + 1))).length; rw [skip (by rw [← e2]; simp [h7])], by show _ = flat (tris l (a * 64 + b * 8 + (c + 1))); rw [skip (by rw [← e2]; simp [h7])]⟩, trivial⟩, (by repeat' first | exact trivial | rfl | apply And.intro), by show b + 1 ≤ c + 1; omega, by show c + 1 ≤ 8; omega⟩
        · refine ⟨c + 1, by show _ < _; simp; omega, ⟨rfl, rfl⟩, ⟨by show PV.v (.int _ _) = _; rw [succ_w (by omega)], trivial⟩, ⟨⟨by show _ = (tris l (a * 64 + b * 8 + (c + 1))).length; rw [skip (by rw [← e1]; simp [h6])], by show _ = flat (tris l (a * 64 + b * 8 + (c + 1))); rw [skip (by rw [← e1]; simp [h6])]⟩, trivial⟩, (by repeat' first | exact trivial | rfl | apply And.intro), by show b + 1 ≤ c + 1; omega, by show c + 1 ≤ 8; omega⟩
      · simp at h5
        have : c = 8 := by omega
        subst this
        refine ⟨b + 1, by show _ < _; simp; omega, ⟨rfl, rfl⟩, ⟨by show PV.v (.int _ _) = _; rw [succ_w (by omega)], trivial⟩, ⟨⟨by show _ = (tris l (a * 64 + (b + 1) * 8)).length; rw [Nat.add_mul, ← Nat.add_assoc], by show _ = flat (tris l (a * 64 + (b + 1) * 8)); rw [Nat.add_mul, ← Nat.add_assoc]⟩, trivial⟩, (by repeat' first | exact trivial | rfl | apply And.intro), by show a + 1 ≤ b + 1; omega, by show b + 1 ≤ 8; omega⟩
    · simp at h4
      have : b = 8 := by omega
      subst this
      refine ⟨a + 1, by show _ < _; simp; omega, ⟨rfl, rfl⟩, ⟨by show PV.v (.int _ _) = _; rw [succ_w (by omega)], trivial⟩, ⟨⟨by show _ = (tris l ((a + 1) * 64)).length; rw [Nat.add_mul], by show _ = flat (tris l ((a + 1) * 64)); rw [Nat.add_mul]⟩, trivial⟩, (by repeat' first | exact trivial | rfl | apply And.intro), by show a + 1 ≤ 8; omega, trivial⟩
  simp at h3
  have : a = 8 := by omega
  subst this
  rw [triples, if_neg (by omega)]; rfl

end Go.Pv

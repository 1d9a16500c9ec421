/- The law BandMeans. -/
import Derived.Test.YtaaijmojlodefaaBo
namespace Go.Pv
open Go.Vc
open Go.Proofs
set_option maxRecDepth 10000

theorem facs_all (b : List (List Cx)) (f : Cx) : ((b.take b.length).map fun r => List.replicate r.length f) = facs b f := by rw [List.take_length]; rfl

set_option maxHeartbeats 8000000 in
theorem bandMeans (b : List (List Cx)) (v w : Int) (f : Cx) (hb : ∀ r ∈ b, ∀ c ∈ r, Enc.ok c) (hf : Enc.ok f) : Ret Try.prog 6 [sl b, i64 v, i64 w, cx f] [] (.p (bl true)) := by
  refine ret (fn := Try.f6) (by kernel_rfl) (by kernel_rfl) rfl ?_
  refine ⟨[], _, w_alive, rfl, ?_⟩
  refine ⟨[], _, r_check32 b, rfl, ?_⟩
  refine ⟨fun h1 => ?_, fun h1 => ?_⟩
  rotate_left
  · rfl
  simp at h1
  refine ⟨fun h2 => ?_, fun h2 => ?_⟩
  rotate_left
  · rfl
  simp at h2
  refine ⟨fun h3 => ?_, fun h3 => ?_⟩
  rotate_left
  · rfl
  simp at h3
  refine ⟨fun h4 => ?_, fun h4 => ?_⟩
  rotate_left
  · rfl
  simp at h4
  refine ⟨fun h5 => ?_, fun h5 => ?_⟩
  rotate_left
  · rfl
  simp at h5
  refine ⟨[], _, r_check f, rfl, ?_⟩
  refine ⟨fun h6 => ?_, fun h6 => ?_⟩
  rotate_left
  · rfl
  rw [chk_eq] at h6
  refine ⟨[], _, r_zero f, rfl, ?_⟩
  refine ⟨fun h7 => ?_, fun h7 => ?_⟩
  rotate_left
  · rfl
  simp at h7
  refine ⟨fun h => absurd h (by first | decide | simp), fun _ => ?_⟩
  obtain ⟨b1, b2, b3, b4, b5, b6⟩ := ck32_0 h1
  obtain ⟨v, rfl⟩ := Int.eq_ofNat_of_zero_le (show 0 ≤ v by omega)
  obtain ⟨w, rfl⟩ := Int.eq_ofNat_of_zero_le (show 0 ≤ w by omega)
  have hvw : v * w ≤ 256 := Nat.mul_le_mul (show v ≤ 16 by omega) (show w ≤ 16 by omega)
  have ew : IntKind.i64.wrap ((v : Int) * (w : Int)) = ((v * w : Nat) : Int) := by
    rw [← Int.natCast_mul]
    generalize v * w = q at hvw ⊢
    exact wrap_id (by omega) (by omega)
  have iw : ∀ q : Nat, q ≤ 256 → I64 (q : Int) := fun q hq => ⟨by omega, by omega⟩
  refine ⟨[], _, b_mean b v (iw v (by omega)) hb, rfl, ?_⟩
  refine ⟨[], _, (show Ret Try.prog 24 [sl b, .v (.int .i64 (IntKind.i64.wrap ((v : Int) * (w : Int))))] [] (resBs (bmean b ((v * w : Nat) : Int))) by rw [ew]; exact b_mean b _ (iw _ hvw) hb), rfl, ?_⟩
  refine ⟨fun h8 => ?gA, fun h8 => ?gB⟩
  case' gA =>
    simp at h8
    refine ⟨fun h9 => ?gC, fun h9 => ?gD⟩
    case' gC =>
      simp at h9
      obtain ⟨_, _, _, _, _, _, kx, _, _⟩ := bmean_ok h8
      refine ⟨[], _, b_mean (bmean b (v : Int)).1 w (iw w (by omega)) (ck_enc kx), rfl, ?_⟩
      refine ⟨fun h10 => ?gE, fun h10 => ?gF⟩
      case' gE =>
        simp at h10
        refine ⟨[], _, r_sameXX (mean_mean h8 h9 h10) (sz_mean _ _), rfl, ?_⟩
        refine ⟨fun h => absurd h (by first | decide | simp), fun _ => ?_⟩
  all_goals
    refine ⟨Nat, { inv := fun i => i ≤ b.length, slots := [(17, fun i => i64 i)], rows := [(16, 23, 1, fun k => k, fun k => flat ((b.take k).map fun r => List.replicate r.length f))], mu := fun i => b.length - i }, 0, ⟨⟨rfl, trivial⟩, ⟨⟨rfl, rfl⟩, trivial⟩, (by repeat' first | exact trivial | rfl | apply And.intro), Nat.zero_le _⟩, ?_⟩
    intro i hi
    refine ⟨fun h11 => ?_, fun h11 => ?_⟩
    · simp at h11
      have hli : b[i].length ≤ 16 := by rw [b5 _ (List.getElem_mem h11)]; exact b4
      refine ⟨Nat, { inv := fun j => j ≤ b[i].length, slots := [(19, fun j => i64 j)], rows := [(18, 60, 3, fun j => j, fun j => flat (List.replicate j f))], mu := fun j => b[i].length - j }, 0, ⟨⟨rfl, trivial⟩, ⟨⟨rfl, rfl⟩, trivial⟩, (by repeat' first | exact trivial | rfl | apply And.intro), Nat.zero_le _⟩, ?_⟩
      intro j hj
      refine ⟨i, rfl, h11, by decide, _, idx h11, rfl, ?_⟩
      refine ⟨fun h12 => ?_, fun h12 => ?_⟩
      · simp at h12
        refine ⟨⟨by show j + 1 ≤ _; omega, by show (j + 1) * 24 ≤ _; omega⟩, ?_⟩
        refine ⟨j + 1, by show _ < _; simp; omega, ⟨rfl, rfl⟩, ⟨by show PV.v (.int _ _) = _; rw [succ_w (by omega)], trivial⟩, ⟨⟨rfl, ?_⟩, trivial⟩, (by repeat' first | exact trivial | rfl | apply And.intro), h12⟩
        show flat (List.replicate j f) ++ _ = flat (List.replicate (j + 1) f)
        rw [List.replicate_succ', flat_snoc]; rfl
      · simp at h12
        have : j = b[i].length := by have hj : j ≤ b[i].length := hj; omega
        subst this
        refine ⟨false, ?_⟩
        refine ⟨⟨by show i + 1 ≤ _; omega, by show (i + 1) * 24 ≤ _; omega⟩, ?_⟩
        refine ⟨i + 1, by show _ < _; simp; omega, ⟨rfl, rfl⟩, ⟨by show PV.v (.int _ _) = _; rw [succ_w (by omega)], trivial⟩, ⟨⟨rfl, ?_⟩, trivial⟩, (by repeat' first | exact trivial | rfl | apply And.intro), h11⟩
        show flat ((b.take i).map fun r => List.replicate r.length f) ++ [PV.sl false b[i].length (flat (List.replicate b[i].length f))] = flat ((b.take (i + 1)).map fun r => List.replicate r.length f)
        rw [List.take_succ_eq_append_getElem h11, List.map_append, List.map_singleton, flat_snoc]
        show _ = _ ++ [PV.sl false (List.replicate b[i].length f).length _]
        rw [List.length_replicate]
    simp at h11
    have : i = b.length := by have hi : i ≤ b.length := hi; omega
    subst this
    clear h11 hi
    obtain ⟨f1, f2, f3, f4⟩ := facs_ck h1 (show okG f from ⟨h6, h7⟩)
    refine ⟨[], _, (show Ret Try.prog 11 [sl b, .sl false b.length (flat ((b.take b.length).map fun r => List.replicate r.length f))] [] (resBs (bmul b (facs b f))) by have := b_mul b (facs b f) hb (ck_enc f1); rw [facs_all]; rw [show sl (facs b f) = PV.sl false b.length (flat (facs b f)) by rw [← f2]] at this; exact this), rfl, ?_⟩
    by_cases z1 : (bmean b (v : Int)).2 = 0
    · refine ⟨fun _ => ?_, fun h => absurd z1 (by simpa using h)⟩
      refine ⟨fun _ => ?_, fun h13 => ?_⟩
      · rfl
      simp at h13
      have h0 : both32 b (facs b f) = 0 := by simp [both32, h1, f1]
      obtain ⟨p1, p2, p3⟩ := bmul_ck h0 f2.symm f3.symm h13
      refine ⟨[], _, b_mean (bmul b (facs b f)).1 v (iw v (by omega)) (ck_enc p1), rfl, ?_⟩
      obtain ⟨_, _, _, _, _, lx, kx, rx, _⟩ := bmean_ok z1
      obtain ⟨x1, x2, x3, x4, x5, x6⟩ := ck32_0 kx
      have fac := fun z => mean_fac (show okG f from ⟨h6, h7⟩) z1 h13 z
      refine ⟨Nat, { inv := fun r => r ≤ (bmean b (v : Int)).1.length, slots := [(24, fun r => i64 r)], mu := fun r => (bmean b (v : Int)).1.length - r }, 0, ⟨⟨rfl, trivial⟩, trivial, (by repeat' first | exact trivial | rfl | apply And.intro), Nat.zero_le _⟩, ?_⟩
      intro r hr
      have last : (bmean (bmul b (facs b f)).1 (v : Int)).2 = 0 → ((bmean (bmul b (facs b f)).1 (v : Int)).1.length : Int) = (bmean b (v : Int)).1.length := fun z => by rw [(fac z).1]
      refine ⟨fun h14 => ?_, fun h14 => ?_⟩
      case' refine_1 =>
        refine ⟨fun h15 => ?_, fun h15 => ?_⟩
        case' refine_1 =>
          refine ⟨fun h16 => ?_, fun h16 => ?_⟩
          case refine_1 =>
            simp at h14 h15 h16
            obtain ⟨c1, c2, c3⟩ := fac h16
            have lr : (bmean b (v : Int)).1[r].length = (row0 (bmean b (v : Int)).1).length := x5 _ (List.getElem_mem h14)
            obtain ⟨_, _, _, _, _, _, kq, _, _⟩ := bmean_ok h16
            have lq : (bmean (bmul b (facs b f)).1 (v : Int)).1[r].length = (row0 (bmean b (v : Int)).1).length := by rw [(ck32_0 kq).2.2.2.2.1 _ (List.getElem_mem h15), c2]
            refine ⟨Nat, { inv := fun c => c ≤ (row0 (bmean b (v : Int)).1).length, slots := [(25, fun c => i64 c)], mu := fun c => (row0 (bmean b (v : Int)).1).length - c }, 0, ⟨⟨rfl, trivial⟩, trivial, (by repeat' first | exact trivial | rfl | apply And.intro), Nat.zero_le _⟩, ?_⟩
            intro c hc
            refine ⟨r, rfl, h14, by decide, _, idx h14, rfl, ?_⟩
            refine ⟨fun h18 => ?_, fun h18 => ?_⟩
            case' refine_1 =>
              refine ⟨r, rfl, h15, by decide, _, idx h15, rfl, ?_⟩
              refine ⟨fun h19 => ?_, fun h19 => ?_⟩
              case refine_1 =>
                simp at h18 h19
                have h20 : c < (row0 (bmean b (v : Int)).1).length := by omega
                refine ⟨r, rfl, h14, by decide, _, idx h14, rfl, ?_⟩
                refine ⟨c, rfl, h18, by decide, _, idx h18, rfl, ?_⟩
                refine ⟨_, r_mul (bmean b (v : Int)).1[r][c] f, rfl, ?_⟩
                have hcq : c < (bmean (bmul b (facs b f)).1 (v : Int)).1[r].length := by omega
                have key := c3 r h14 c h20
                rw [rw32_get h14, rw32_get h15, gat_get h18, gat_get hcq] at key
                refine ⟨fun h21 => ?_, fun h21 => ?_⟩
                case' refine_1 =>
                  simp at h21
                  have key := key h21
                  refine ⟨r, rfl, h15, by decide, _, idx h15, rfl, ?_⟩
                  refine ⟨c, rfl, hcq, by decide, _, idx hcq, rfl, ?_⟩
                  rw [← key]
                  refine ⟨fun h22 => ?_, fun h22 => ?_⟩
                  case refine_1 =>
                    exfalso
                    have h22 : (!eqPL (Enc.cs (mul (bmean b (v : Int)).1[r][c] f).1) (Enc.cs (mul (bmean b (v : Int)).1[r][c] f).1)) = true := h22
                    have := eqPL_cx (mul (bmean b (v : Int)).1[r][c] f).1 (mul (bmean b (v : Int)).1[r][c] f).1
                    rw [show eqPL (Enc.cs (mul (bmean b (v : Int)).1[r][c] f).1) (Enc.cs (mul (bmean b (v : Int)).1[r][c] f).1) = _ from this] at h22
                    simp at h22
                all_goals
                  refine ⟨c + 1, by show _ < _; simp; omega, ⟨rfl, rfl⟩, ⟨by show PV.v (.int _ _) = _; rw [succ_w (by omega)], trivial⟩, trivial, (by repeat' first | exact trivial | rfl | apply And.intro), h20⟩
            all_goals
              refine ⟨r + 1, by show _ < _; simp; omega, ⟨rfl, rfl⟩, ⟨by show PV.v (.int _ _) = _; rw [succ_w (by omega)], trivial⟩, trivial, (by repeat' first | exact trivial | rfl | apply And.intro), h14⟩
      all_goals
        refine ⟨fun _ => ?_, fun h => absurd h (by first | decide | simp)⟩
        refine ⟨fun h17 => ?_, fun h17 => ?_⟩
        · simp at h17
          have := last h17
          show SV.p (bl _) = SV.p (bl true)
          simp [this]
        · rfl
    · refine ⟨fun h => absurd (by simpa using h) z1, fun _ => ?_⟩
      rfl
end Go.Pv

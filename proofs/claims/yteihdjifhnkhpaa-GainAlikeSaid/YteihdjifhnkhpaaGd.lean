/- Contracts of the gains' functions: tables that act alike, products, inverses, tables referred to a station. -/
import Derived.Test.YteihdjifhnkhpaaGr
import Derived.Test.YteihdjifhnkhpaaCd
import Derived.Test.YteihdjifhnkhpaaPlAlike
namespace Go.Pv
open Go.Vc
open Go.Proofs
set_option maxRecDepth 10000

theorem retM {f : FuncId} {fn : Func} (hf : Try.prog.funcs[f]? = some fn) (hd : (match fn.body with | some c => drawsB c | none => false) = true) {args : List SV} (hn : Nat.ble (len args) fn.ntmps = true) {ob : Ob} {t : TypeId} {b : Bool} {r : PV}
    (h : vcFunM Try.prog 62 T fn args ob t b r) : RetM Try.prog f args ob (.box t [.p (.v (.bool b))]) r := retM_of_vc mixed tabOk fnsOk hf hd (by rw [len_eq, Nat.ble_eq] at hn; exact hn) h

theorem g_both (g h : List Cx) (hg : ∀ c ∈ g, Enc.ok c) (hh : ∀ c ∈ h, Enc.ok c) : Ret Try.prog 46 [sl g, sl h] [] (.p (i64 (both26 g h))) := by
  refine ret (fn := Try.f46) (by kernel_rfl) (by kernel_rfl) rfl ?_
  refine ⟨[], _, g_check g hg, rfl, ?_⟩
  refine ⟨fun h1 => ?_, fun h1 => ?_⟩
  · simp at h1
    rw [both26, if_pos h1]; rfl
  simp at h1
  refine ⟨[], _, g_check h hh, rfl, ?_⟩
  refine ⟨fun h2 => ?_, fun h2 => ?_⟩
  · simp at h2
    rw [both26, if_neg (by simp [h1]), if_pos h2]; rfl
  simp at h2
  refine ⟨fun h3 => ?_, fun h3 => ?_⟩
  · simp at h3
    rw [both26, if_neg (by simp [h1]), if_neg (by simp [h2]), if_pos (by omega)]; rfl
  · simp at h3
    rw [both26, if_neg (by simp [h1]), if_neg (by simp [h2]), if_neg (by omega)]; rfl

theorem g_alike1 (g h : List Cx) (k : Nat) (hk : k < g.length) (hkh : k < h.length) (hg : ∀ c ∈ g, Enc.ok c) (hh : ∀ c ∈ h, Enc.ok c) (b : Bool) :
    RetM Try.prog 48 [.p (i64 k), .p (cx g[k]), .p (.fp true [sl h]), .p (.fp true [sl g]), .ob 0] (.box 4 [.p (bl b)]) (.box 4 [.p (bl (if alE g h k = 0 then b && alS g h k else b))]) (i64 (alE g h k)) := by
  refine retM (fn := Try.f48) (by kernel_rfl) (by kernel_rfl) rfl ?_
  have h0 : 0 < h.length := by omega
  have g0 : 0 < g.length := by omega
  have eg : gat g k = g[k] := gat_get hk
  have eh : gat h k = h[k] := gat_get hkh
  have eg0 : gat g 0 = g[0] := gat_get g0
  have eh0 : gat h 0 = h[0] := gat_get h0
  refine ⟨0, rfl, h0, by decide, _, idx h0, rfl, ?_⟩
  refine ⟨_, c_mul g[k] h[0] (hg _ (List.getElem_mem hk)) (hh _ (List.getElem_mem h0)), rfl, ?_⟩
  have eE : alE g h k = if (mul g[k] h[0]).2 ≠ 0 then (mul g[k] h[0]).2 else (mul g[0] h[k]).2 := by rw [alE, eg, eh0, eg0, eh]
  have eS : alS g h k = decide ((mul g[k] h[0]).1 = (mul g[0] h[k]).1) := by rw [alS, eg, eh0, eg0, eh]
  refine ⟨fun h1 => ?_, fun h1 => ?_⟩
  · simp at h1
    rw [if_pos h1] at eE
    rw [eE, if_neg h1]
    exact ⟨rfl, rfl⟩
  simp at h1
  rw [if_neg (by simp [h1])] at eE
  refine ⟨0, rfl, g0, by decide, _, idx g0, rfl, ?_⟩
  refine ⟨k, rfl, hkh, by decide, _, idx hkh, rfl, ?_⟩
  refine ⟨_, c_mul g[0] h[k] (hg _ (List.getElem_mem g0)) (hh _ (List.getElem_mem hkh)), rfl, ?_⟩
  refine ⟨fun h2 => ?_, fun h2 => ?_⟩
  · simp at h2
    rw [eE, if_neg h2]
    exact ⟨rfl, rfl⟩
  simp at h2
  rw [eE, if_pos h2, eS]
  refine ⟨fun h3 => ?_, fun h3 => ?_⟩
  · refine ⟨?_, by show i64 0 = i64 _; rw [h2]⟩
    show PV.v (.bool (eqPL [i64 _, i64 _, i64 _] [i64 _, i64 _, i64 _])) = _
    rw [eqPL_cx, h3]; simp
  · refine ⟨?_, by show i64 0 = i64 _; rw [h2]⟩
    show false = _
    rw [h3]; simp

theorem g_eachA (g h : List Cx) (hlen : g.length ≤ 8) (hl : g.length = h.length) (hg : ∀ c ∈ g, Enc.ok c) (hh : ∀ c ∈ h, Enc.ok c) (b : Bool) :
    ∃ b', (aerr g h g.length = 0 → b' = (b && asame g h g.length)) ∧ RetM Try.prog 41 [.p (sl g), .cl (.func 48) [] [.p (.fp true [sl h]), .p (.fp true [sl g]), .ob 0]] (.box 4 [.p (bl b)]) (.box 4 [.p (bl b')]) (i64 (aerr g h g.length)) := by
  by_cases he : ∃ k, k < g.length ∧ aerr g h k = 0 ∧ alE g h k ≠ 0
  · obtain ⟨k0, hk0, hz, hne⟩ := he
    refine ⟨b && asame g h k0, fun h => absurd h (by rw [aerr_bad hk0 hz hne]; exact hne), ?_⟩
    refine retM (fn := Try.f41) (by kernel_rfl) (by kernel_rfl) rfl ?_
    refine ⟨Nat, { inv := fun k => k ≤ k0, slots := [(10, fun k => i64 k)], boxes := [(0, fun k => [bl (b && asame g h k)])], mu := fun k => g.length - k }, 0, ⟨⟨rfl, trivial⟩, trivial, ⟨by show [SV.p (bl b)] = [SV.p (bl (b && true))]; simp, trivial⟩, Nat.zero_le _⟩, ?_⟩
    intro k hk
    have hk : k ≤ k0 := hk
    have h2' : k < g.length := by omega
    refine ⟨fun h2 => ?_, fun h2 => ?_⟩
    rotate_left
    · simp at h2; omega
    refine ⟨k, rfl, h2', by decide, _, idx h2', rfl, ?_⟩
    refine ⟨_, _, g_alike1 g h k h2' (by omega) hg hh (b && asame g h k), rfl, ?_⟩
    refine ⟨fun h3 => ?_, fun h3 => ?_⟩
    · simp at h3
      have e : k = k0 := by
        by_cases e : k = k0
        · exact e
        · exact absurd (by
            have := aerr_bad (g := g) (h := h) (k := k) (n := k0) (by omega) (by
              by_cases hz' : aerr g h k = 0
              · exact hz'
              · have := aerr_le hz' (k0 - k)
                rw [show k + (k0 - k) = k0 by omega, hz] at this
                exact this.symm) h3
            rw [hz] at this
            exact this.symm) h3
      subst e
      refine ⟨?_, ?_⟩
      · show PV.v (.bool _) = _
        rw [if_neg h3]
      · show i64 _ = i64 _
        rw [aerr_bad hk0 hz hne]
    · simp at h3
      have hlt : k < k0 := by
        by_cases e : k = k0
        · subst e; exact absurd h3 hne
        · omega
      refine ⟨k + 1, by show _ < _; simp; omega, ⟨rfl, rfl⟩, ⟨by show PV.v (.int _ _) = _; rw [succ_w (by omega)], trivial⟩, trivial, ⟨?_, (by repeat' first | exact trivial | rfl | apply And.intro)⟩, hlt⟩
      show [SV.p (bl _)] = [SV.p (bl (b && (asame g h k && alS g h k)))]
      rw [if_pos h3, Bool.and_assoc]
  · have hall : ∀ k, k ≤ g.length → aerr g h k = 0 := by
      intro k
      induction k with
      | zero => intro _; rfl
      | succ k ih =>
        intro hk
        rw [aerr, if_neg (by simp [ih (by omega)])]
        by_cases e : alE g h k = 0
        · exact e
        · exact absurd ⟨k, by omega, ih (by omega), e⟩ he
    have hE : ∀ k, k < g.length → alE g h k = 0 := fun k hk => by
      have := hall (k + 1) (by omega)
      rwa [aerr, if_neg (by simp [hall k (by omega)])] at this
    refine ⟨b && asame g h g.length, fun _ => rfl, ?_⟩
    rw [hall g.length (Nat.le_refl _)]
    refine retM (fn := Try.f41) (by kernel_rfl) (by kernel_rfl) rfl ?_
    refine ⟨Nat, { inv := fun k => k ≤ g.length, slots := [(10, fun k => i64 k)], boxes := [(0, fun k => [bl (b && asame g h k)])], mu := fun k => g.length - k }, 0, ⟨⟨rfl, trivial⟩, trivial, ⟨by show [SV.p (bl b)] = [SV.p (bl (b && true))]; simp, trivial⟩, Nat.zero_le _⟩, ?_⟩
    intro k hk
    refine ⟨fun h2 => ?_, fun h2 => ?_⟩
    · simp at h2
      refine ⟨k, rfl, h2, by decide, _, idx h2, rfl, ?_⟩
      refine ⟨_, _, g_alike1 g h k h2 (by omega) hg hh (b && asame g h k), rfl, ?_⟩
      refine ⟨fun h3 => ?_, fun h3 => ?_⟩
      · simp at h3
        exact absurd (hE k h2) h3
      · simp at h3
        refine ⟨k + 1, by show _ < _; simp; omega, ⟨rfl, rfl⟩, ⟨by show PV.v (.int _ _) = _; rw [succ_w (by omega)], trivial⟩, trivial, ⟨?_, (by repeat' first | exact trivial | rfl | apply And.intro)⟩, h2⟩
        show [SV.p (bl _)] = [SV.p (bl (b && (asame g h k && alS g h k)))]
        rw [if_pos h3, Bool.and_assoc]
    · simp at h2
      have : k = g.length := by simp only at hk; omega
      subst this
      exact ⟨rfl, rfl⟩

/-- A bool and an error. -/
abbrev resB (r : Bool × Int) : SV := .tup [.p (bl r.1), .p (i64 r.2)]

theorem eqPL_fr' (a b : Frac) : eqPL [i64 a.num, i64 a.den] [i64 b.num, i64 b.den] = decide (a = b) := by
  cases a; cases b
  rw [Bool.eq_iff_iff]
  simp [eqPL, eqP]

theorem g_alike (g h : List Cx) (hg : ∀ c ∈ g, Enc.ok c) (hh : ∀ c ∈ h, Enc.ok c) : Ret Try.prog 21 [sl g, sl h] [] (resB (alike g h)) := by
  refine ret (fn := Try.f21) (by kernel_rfl) (by kernel_rfl) rfl ?_
  refine ⟨[], _, g_both g h hg hh, rfl, ?_⟩
  refine ⟨fun h1 => ?_, fun h1 => ?_⟩
  · simp at h1
    rw [alike, if_pos h1]; rfl
  simp at h1
  obtain ⟨b1, b2, b3⟩ := both26_0 h1
  obtain ⟨c1, c2, c3⟩ := ck26_0 b1
  obtain ⟨d1, d2, d3⟩ := ck26_0 b2
  have eg0 : gat g 0 = g[0] := gat_get c2
  have eh0 : gat h 0 = h[0] := gat_get d2
  refine ⟨0, rfl, c2, by decide, _, idx c2, rfl, ?_⟩
  refine ⟨[], _, c_norm g[0] (hg _ (List.getElem_mem c2)), rfl, ?_⟩
  refine ⟨fun h2 => ?_, fun h2 => ?_⟩
  · simp at h2
    rcases nrm_err (c3 g[0] (List.getElem_mem c2)).1 with e | e
    · exact absurd e h2
    · rw [alike, if_neg (by simp [h1]), if_pos (by rw [eg0]; exact h2)]
      show SV.tup [_, .p (i64 (nrm g[0]).2)] = _
      rw [e]
  simp at h2
  refine ⟨0, rfl, d2, by decide, _, idx d2, rfl, ?_⟩
  refine ⟨[], _, c_norm h[0] (hh _ (List.getElem_mem d2)), rfl, ?_⟩
  refine ⟨fun h3 => ?_, fun h3 => ?_⟩
  · simp at h3
    rcases nrm_err (d3 h[0] (List.getElem_mem d2)).1 with e | e
    · exact absurd e h3
    · rw [alike, if_neg (by simp [h1]), if_neg (by rw [eg0]; simp [h2]), if_pos (by rw [eh0]; exact h3)]
      show SV.tup [_, .p (i64 (nrm h[0]).2)] = _
      rw [e]
  simp at h3
  obtain ⟨b', hb', hret⟩ := g_eachA g h (by omega) b3 hg hh (decide ((nrm g[0]).1 = (nrm h[0]).1))
  refine ⟨b', i64 (aerr g h g.length), ?_, rfl, ?_⟩
  · show RetM Try.prog 41 [.p (sl g), .cl (.func 48) [] [.p (.fp true [sl h]), .p (.fp true [sl g]), .ob 0]] (.box 4 [.p (bl (eqPL [i64 _, i64 _] [i64 _, i64 _]))]) _ _
    rw [eqPL_fr']
    exact hret
  refine ⟨fun h4 => ?_, fun h4 => ?_⟩
  · simp at h4
    rcases aerr_16 h1 g.length (Nat.le_refl _) with e | e
    · exact absurd e h4
    · rw [alike, if_neg (by simp [h1]), if_neg (by rw [eg0]; simp [h2]), if_neg (by rw [eh0]; simp [h3]), if_pos h4]
      show SV.tup [_, .p (i64 (aerr g h g.length))] = _
      rw [e]
  · simp at h4
    rw [alike, if_neg (by simp [h1]), if_neg (by rw [eg0]; simp [h2]), if_neg (by rw [eh0]; simp [h3]), if_neg (by simp [h4]), eg0, eh0, ← hb' h4]
    rfl
end Go.Pv

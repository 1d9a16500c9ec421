/- Contracts of bandpasses: valid spectra, Act. -/
import Derived.Test.YtaaijmojlodefaaBe
namespace Go.Pv
open Go.Vc
open Go.Proofs
set_option maxRecDepth 10000

theorem b_valid (s : Spec) (n m : Int) (hs : ∀ c ∈ s.v, Enc.ok c) (hl : s.v.length ≤ 9223372036854775807) : Ret Try.prog 54 [sp s, i64 n, i64 m] [] (.p (bl (decide (s.good n m)))) := by
  have bad : ¬ s.good n m → SV.p (bl false) = SV.p (bl (decide (s.good n m))) := fun h => by simp [h]
  refine ret (fn := Try.f54) (by kernel_rfl) (by kernel_rfl) rfl ?_
  refine ⟨fun h1 => ?_, fun h1 => ?_⟩
  rotate_left
  · simp at h1
    exact bad fun h => by have := h.1; omega
  simp at h1
  refine ⟨fun h2 => ?_, fun h2 => ?_⟩
  rotate_left
  · simp at h2
    exact bad fun h => by have := h.2.1; omega
  simp at h2
  refine ⟨fun h3 => ?_, fun h3 => ?_⟩
  rotate_left
  · simp at h3
    exact bad fun h => by have := h.2.2.1; omega
  simp at h3
  refine ⟨fun h4 => ?_, fun h4 => ?_⟩
  rotate_left
  · simp at h4
    exact bad fun h => by have := h.2.2.2.1; omega
  simp at h4
  refine ⟨fun h5 => ?_, fun h5 => ?_⟩
  · simp at h5
    exact bad fun h => h5 h.2.2.2.2.1
  simp at h5
  refine ⟨Nat, { inv := fun k => k ≤ s.v.length ∧ (∀ c ∈ s.v.take k, c.valid), slots := [(40, fun k => i64 k)],  mu := fun k => s.v.length - k }, 0, ⟨⟨rfl, trivial⟩, trivial, (by repeat' first | exact trivial | rfl | apply And.intro), Nat.zero_le _, by simp⟩, ?_⟩
  intro k ⟨hk, hall⟩
  refine ⟨fun h6 => ?_, fun h6 => ?_⟩
  · simp at h6
    refine ⟨k, rfl, h6, by decide, _, idx h6, rfl, ?_⟩
    refine ⟨[], _, c_check s.v[k] (hs _ (List.getElem_mem h6)), rfl, ?_⟩
    refine ⟨fun h7 => ?_, fun h7 => ?_⟩
    · rw [chk_ne] at h7
      exact bad fun h => h7 (h.2.2.2.2.2 _ (List.getElem_mem h6))
    · rw [chk_eq] at h7
      refine ⟨k + 1, by show _ < _; simp; omega, ⟨rfl, rfl⟩, ⟨by show PV.v (.int _ _) = _; rw [succ_w3 (by omega)], trivial⟩, trivial, (by repeat' first | exact trivial | rfl | apply And.intro), h6, ?_⟩
      intro c hc
      rw [List.take_succ_eq_append_getElem h6, List.mem_append] at hc
      rcases hc with hc | hc
      · exact hall c hc
      · simp at hc; subst hc; exact h7
  · simp at h6
    have : k = s.v.length := by omega
    subst this
    rw [List.take_length] at hall
    have : s.good n m := ⟨h1, h2, h3, h4, h5, hall⟩
    show SV.p (bl true) = _
    simp [this]

theorem b_act (b : List (List Cx)) (l : List Spec) (hb : ∀ r ∈ b, ∀ c ∈ r, Enc.ok c) (hl : ∀ s ∈ l, Enc.ok s) (hv : ∀ s ∈ l, s.v.length ≤ 9223372036854775807) : Ret Try.prog 22 [sl b, sl l] [] (resSs (bact b l)) := by
  refine ret (fn := Try.f22) (by kernel_rfl) (by kernel_rfl) rfl ?_
  refine ⟨[], _, b_check b hb, rfl, ?_⟩
  refine ⟨fun h1 => ?_, fun h1 => ?_⟩
  · simp at h1
    rw [bact, if_pos h1]; rfl
  simp at h1
  obtain ⟨b1, b2, b3, b4, b5, b6⟩ := ck32_0 h1
  have eb := row0_get b2
  refine ⟨fun h2 => ?_, fun h2 => ?_⟩
  · simp at h2
    show SV.tup [.p (.sl false 0 []), .p (i64 4)] = resSs _
    have : all32 l b.length (row0 b).length = 4 := by rw [all32, if_pos (by omega)]
    rw [bact, if_neg (by simp [h1]), this]; rfl
  simp at h2
  refine ⟨0, l.length, rfl, rfl, Nat.zero_le _, ⟨by show l.length + 0 ≤ _; omega, by show (l.length + 0) * 48 ≤ _; omega⟩, ?_⟩
  refine ⟨Nat, { inv := fun k => k ≤ l.length ∧ ∀ s ∈ l.take k, s.good b.length (row0 b).length, slots := [(31, fun k => i64 k)], nrows := [(7, 58, 4, fun k => k, fun k => spNs 60 (gsp l) (chan b l 0) k)], mu := fun k => l.length - k }, 0, ⟨⟨rfl, trivial⟩, ⟨⟨rfl, rfl⟩, trivial⟩, (by repeat' first | exact trivial | rfl | apply And.intro), Nat.zero_le _, by simp⟩, ?_⟩
  intro k ⟨hk, hall⟩
  refine ⟨fun h3 => ?_, fun h3 => ?_⟩
  · simp at h3
    refine ⟨.no, ?_⟩
    refine ⟨k, rfl, h3, by decide, _, idx h3, rfl, ?_⟩
    refine ⟨.no, ?_⟩
    refine ⟨0, rfl, b2, by decide, _, idx b2, rfl, ?_⟩
    refine ⟨_, b_valid l[k] b.length b[0].length (hl _ (List.getElem_mem h3)).2.2.1.2 (hv _ (List.getElem_mem h3)), rfl, ?_⟩
    refine ⟨fun h4 => ?_, fun h4 => ?_⟩
    · simp at h4
      show SV.tup [.p (.sl false 0 []), .p (i64 8)] = resSs _
      have : all32 l b.length (row0 b).length = 8 := by rw [all32, if_neg (by omega), if_neg fun h => h4 (by rw [← eb]; exact h _ (List.getElem_mem h3))]
      rw [bact, if_neg (by simp [h1]), this]; rfl
    simp at h4
    refine ⟨.no, ?_⟩
    refine ⟨true, 2, 60, 3, ?_⟩
    refine ⟨⟨by show k + 1 ≤ _; omega, by show (k + 1) * 48 ≤ _; omega⟩, ?_⟩
    refine ⟨k + 1, by show _ < _; simp; omega, ⟨rfl, rfl⟩, ⟨by show PV.v (.int _ _) = _; rw [succ_w (by omega)], trivial⟩, ⟨⟨rfl, ?_⟩, trivial⟩, (by repeat' first | exact trivial | rfl | apply And.intro), h3, ?_⟩
    · show _ = spNs 60 (gsp l) (chan b l 0) (k + 1)
      rw [spNs_succ, gsp_get h3]; rfl
    · intro c hc
      rw [List.take_succ_eq_append_getElem h3, List.mem_append] at hc
      rcases hc with hc | hc
      · exact hall c hc
      · simp at hc; subst hc; rw [eb]; exact h4
  simp at h3
  have : k = l.length := by omega
  subst this
  rw [List.take_length] at hall
  have ha : all32 l b.length (row0 b).length = 0 := by rw [all32, if_neg (by omega), if_pos hall]
  refine ⟨.no, ?_⟩
  refine ⟨0, rfl, b2, by decide, _, idx b2, rfl, ?_⟩
  refine ⟨Nat, { inv := fun c => c ≤ (row0 b).length ∧ ∀ c', c' < c → ∀ s ∈ l, (sact b s c').2 = 0, slots := [(59, fun c => i64 c)], nrows := [(7, 58, 4, fun _ => l.length, fun c => spNs 60 (gsp l) (chan b l c) l.length)], mu := fun c => (row0 b).length - c }, 0, ⟨⟨rfl, trivial⟩, ⟨⟨rfl, rfl⟩, trivial⟩, (by repeat' first | exact trivial | rfl | apply And.intro), Nat.zero_le _, fun _ h => by omega⟩, ?_⟩
  intro c ⟨hc, hz⟩
  refine ⟨fun h4 => ?_, fun h4 => ?_⟩
  · simp at h4
    have hc' : c < (row0 b).length := by rw [eb]; exact h4
    refine ⟨Nat, { inv := fun k => k ≤ l.length ∧ (True), slots := [(64, fun k => i64 k)], rows := [(11, 62, 6, fun k => k, fun k => flat ((l.take k).map fun s => s.vis c))], mu := fun k => l.length - k }, 0, ⟨⟨rfl, trivial⟩, ⟨⟨rfl, rfl⟩, trivial⟩, (by repeat' first | exact trivial | rfl | apply And.intro), Nat.zero_le _, trivial⟩, ?_⟩
    intro k ⟨hk, _⟩
    refine ⟨fun h5 => ?_, fun h5 => ?_⟩
    · simp at h5
      have gd := hall _ (List.getElem_mem h5)
      have hcv : c < l[k].v.length := by have := gd.2.2.2.2.1; omega
      refine ⟨.no, ?_⟩
      refine ⟨k, rfl, h5, by decide, _, idx h5, rfl, ?_⟩
      refine ⟨.no, ?_⟩
      refine ⟨c, rfl, hcv, by decide, _, idx hcv, rfl, ?_⟩
      refine ⟨⟨by show k + 1 ≤ _; omega, by show (k + 1) * 48 ≤ _; omega⟩, ?_⟩
      refine ⟨k + 1, by show _ < _; simp; omega, ⟨rfl, rfl⟩, ⟨by show PV.v (.int _ _) = _; rw [succ_w (by omega)], trivial⟩, ⟨⟨rfl, ?_⟩, trivial⟩, (by repeat' first | exact trivial | rfl | apply And.intro), h5, trivial⟩
      show flat ((l.take k).map fun s => s.vis c) ++ _ = flat ((l.take (k + 1)).map fun s => s.vis c)
      rw [List.take_succ_eq_append_getElem h5, List.map_append, List.map_singleton, flat_snoc, Spec.vis, gat_get hcv]; rfl
    simp at h5
    have : k = l.length := by omega
    subst this
    refine ⟨[], _, b_col b c (by omega) (fun r hr => by have := b5 r hr; omega), rfl, ?_⟩
    have okv : ∀ v ∈ l.map (fun s => s.vis c), Enc.ok v := fun v hvm => by
      rw [List.mem_map] at hvm
      obtain ⟨s, hs, rfl⟩ := hvm
      obtain ⟨o1, o2, o3, o4⟩ := hl s hs
      have hcv : c < s.v.length := by have := (hall s hs).2.2.2.2.1; omega
      exact ⟨o1, o2, by show Enc.ok (gat s.v c); rw [gat_get hcv]; exact o3.2 _ (List.getElem_mem _), o4⟩
    refine ⟨[], _, (show Ret Try.prog 32 [sl (col32 b c), .sl false l.length (flat ((l.take l.length).map fun s => s.vis c))] [] (resV (act26 (col32 b c) (l.map fun s => s.vis c))) by have := g_act (col32 b c) (l.map fun s => s.vis c) (ck_oks (col32_ck h1 hc')) okv; rw [List.take_length]; simpa [sl] using this), rfl, ?_⟩
    obtain ⟨c1, c2⟩ := act_chan h1 ha hc'
    refine ⟨fun h6 => ?_, fun h6 => ?_⟩
    · simp at h6
      show SV.tup [.p (.sl false 0 []), .p (i64 _)] = resSs _
      rw [(c1 h6).1, (c1 h6).2]; rfl
    simp at h6
    obtain ⟨d1, d2⟩ := c2 h6
    have dl : (act26 (col32 b c) (l.map fun s => s.vis c)).1.length = l.length := by rw [d2]; simp
    refine ⟨Nat, { inv := fun k => k ≤ l.length, slots := [(97, fun k => i64 k)], nrows := [(7, 58, 4, fun _ => l.length, fun k => spNs 60 (gsp l) (fun j => chan b l (if j < k then c + 1 else c) j) l.length)], mu := fun k => l.length - k }, 0, ⟨⟨rfl, trivial⟩, ⟨⟨rfl, spNs_congr fun j _ => by rw [if_neg (by omega)]⟩, trivial⟩, (by repeat' first | exact trivial | rfl | apply And.intro), Nat.zero_le _⟩, ?_⟩
    intro k hk
    refine ⟨fun h7 => ?_, fun h7 => ?_⟩
    · simp at h7
      have h8 : k < l.length := by omega
      refine ⟨.no, ?_⟩
      refine ⟨k, rfl, h7, by decide, _, idx h7, rfl, ?_⟩
      refine ⟨.out 4 (k * 4 + 2) 60 3 (chan b l (if k < k then c + 1 else c) k).length (flat (chan b l (if k < k then c + 1 else c) k)), spNs_get h8, ?_⟩
      refine ⟨k, rfl, h8, ?_⟩
      have hlen := spNs_len 60 (gsp l) (fun j => chan b l (if j < k then c + 1 else c) j) l.length
      refine ⟨[.ob 6], ⟨.inl ⟨(by simp), rfl⟩, trivial⟩, rfl, by show k * 4 + 2 + 1 ≤ (spNs 60 (gsp l) (fun j => chan b l (if j < k then c + 1 else c) j) l.length).length; omega, ?_⟩
      have hch : (chan b l (if k < k then c + 1 else c) k).length = c := by rw [chan_length, if_neg (by omega)]
      refine ⟨⟨by show (chan b l (if k < k then c + 1 else c) k).length + 1 ≤ _; omega, by show ((chan b l (if k < k then c + 1 else c) k).length + 1) * 24 ≤ _; omega⟩, ?_⟩
      refine ⟨k, rfl, h8, ?_⟩
      refine ⟨by show k * 4 + 2 + 1 ≤ (spNs 60 (gsp l) (fun j => chan b l (if j < k then c + 1 else c) j) l.length).length; omega, (by show k * 4 + 2 = k * 4 + 2; rfl), ?_⟩
      refine ⟨k + 1, by show _ < _; simp; omega, ⟨rfl, rfl⟩, ⟨by show PV.v (.int _ _) = _; rw [succ_w (by omega)], trivial⟩, ⟨⟨rfl, ?_⟩, trivial⟩, (by repeat' first | exact trivial | rfl | apply And.intro), h8⟩
      show (spNs 60 (gsp l) (fun j => chan b l (if j < k then c + 1 else c) j) l.length).set (k * 4 + 2) (.ow 60 3 ((chan b l (if k < k then c + 1 else c) k).length + 1) (flat (chan b l (if k < k then c + 1 else c) k) ++ Enc.cs (act26 (col32 b c) (l.map fun s => s.vis c)).1[k].v)) = spNs 60 (gsp l) (fun j => chan b l (if j < k + 1 then c + 1 else c) j) l.length
      have ev : (act26 (col32 b c) (l.map fun s => s.vis c)).1[k].v = (sact b (gsp l k) c).1 := by
        simp only [d2, List.getElem_map, gsp_get h8]; rfl
      rw [if_neg (Nat.lt_irrefl k), ev, ← flat_snoc, ← chan_succ, show (chan b l c k).length + 1 = (chan b l (c + 1) k).length by rw [chan_length, chan_length], spNs_set h8]
      apply spNs_congr
      intro j hj
      show (if j = k then _ else _) = _
      by_cases e : j = k
      · subst e; rw [if_pos rfl, if_pos (by omega)]
      · rw [if_neg e]
        by_cases e2 : j < k
        · rw [if_pos e2, if_pos (by omega)]
        · rw [if_neg e2, if_neg (by omega)]
    · simp at h7
      have hk : k ≤ l.length := hk
      have : k = l.length := by omega
      subst this
      refine ⟨c + 1, by show _ < _; simp; omega, ⟨rfl, rfl⟩, ⟨by show PV.v (.int _ _) = _; rw [succ_w (by omega)], trivial⟩, ⟨⟨rfl, ?_⟩, trivial⟩, (by repeat' first | exact trivial | rfl | apply And.intro), hc', ?_⟩
      · exact spNs_congr fun j hj => by rw [if_pos hj]
      · intro c' hc2 s hs
        by_cases e : c' = c
        · subst e; exact d1 s hs
        · exact hz c' (by omega) s hs
  · simp at h4
    have : c = (row0 b).length := by rw [eb] at hc ⊢; omega
    subst this
    show SV.tup [.p (.sl false l.length ((spNs 60 (gsp l) (chan b l (row0 b).length) l.length).map ncP)), .p (i64 0)] = resSs _
    rw [bact, if_neg (by simp [h1]), if_neg (by simp [ha]), if_pos fun s hs c hc => hz c hc s hs, spNs_pv, chan_all]
    simp
end Go.Pv

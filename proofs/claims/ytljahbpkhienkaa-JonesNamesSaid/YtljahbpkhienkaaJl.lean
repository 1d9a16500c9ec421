/- Contracts: loops of four stations. -/
import Derived.Test.YtljahbpkhienkaaJk
import Derived.Test.YtljahbpkhienkaaJe
namespace Go.Pv
open Go.Vc
open Go.Proofs
set_option maxRecDepth 10000
set_option maxHeartbeats 4000000

def jfind (l : List Pol) (i j : Int) : Jn × Int := (gJ l i j, if (jgot i j l).isNone then 6 else 0)

theorem jfind_some {l : List Pol} {i j : Int} {m : Jn} (h : jgot i j l = some m) : jfind l i j = (m, 0) := by
  simp [jfind, gJ, h]
theorem jfind_none {l : List Pol} {i j : Int} (h : jgot i j l = none) : jfind l i j = (j0, 6) := by
  simp [jfind, gJ, h]

theorem j_adjV {a : Jn} (va : a.valid) : Ret Try.prog 11 [jn a] [] (resJ ((jadj a).1, 0)) := by
  have := j_adj a (jn_ok va)
  rw [show jadj a = ((jadj a).1, 0) by rw [jadj, if_pos va]] at this
  exact this

theorem j_find (l : List Pol) (i j : Int) (hlen : l.length ≤ 64) (hl : ∀ p ∈ l, p.good 8) : Ret Try.prog 57 [sl l, i64 i, i64 j] [] (resJ (jfind l i j)) := by
  refine ret (fn := Try.f57) (by kernel_rfl) (by kernel_rfl) rfl ?_
  refine ⟨Nat, { inv := fun k => k ≤ l.length ∧ (jgot i j l = jgot i j (l.drop k)), slots := [(12, fun k => i64 k)],  mu := fun k => l.length - k }, 0, ⟨⟨rfl, trivial⟩, trivial, (by repeat' first | exact trivial | rfl | apply And.intro), Nat.zero_le _, rfl⟩, ?_⟩
  intro k ⟨hk, hall⟩
  refine ⟨fun h2 => ?_, fun h2 => ?_⟩
  · have h2 : k < l.length := by simpa using h2
    rw [jgot_drop h2] at hall
    have hv := (hl _ (List.getElem_mem h2)).2.2.2.2
    have next : ¬ (l[k].i = i ∧ l[k].j = j) → ¬ (l[k].i = j ∧ l[k].j = i) → jgot i j l = jgot i j (l.drop (k + 1)) := fun h h' => by rw [hall, if_neg h, if_neg h']
    refine ⟨k, rfl, h2, by decide, _, idx h2, rfl, ?_⟩
    refine ⟨fun h3 => ?_, fun h3 => ?_⟩
    · have h3 : l[k].i = i := by simpa using h3
      refine ⟨fun h4 => ?_, fun h4 => ?_⟩
      · have h4 : l[k].j = j := by simpa using h4
        refine ⟨Nat.le_refl _, ?_⟩
        refine ⟨_, rfl, rfl, ?_⟩
        show resJ (l[k].v, 0) = _
        rw [jfind_some (by rw [hall, if_pos ⟨h3, h4⟩])]
      · have h4 : ¬ l[k].j = j := by simpa using h4
        refine ⟨fun h5 => ?_, fun h5 => ?_⟩
        · have h5 : l[k].i = j := by simpa using h5
          refine ⟨fun h6 => ?_, fun h6 => ?_⟩
          · have h6 : l[k].j = i := by simpa using h6
            refine ⟨[], _, j_adjV hv, rfl, ?_⟩
            refine ⟨Nat.le_refl _, ?_⟩
            refine ⟨_, rfl, rfl, ?_⟩
            show resJ ((jadj l[k].v).1, 0) = _
            rw [jfind_some (by rw [hall, if_neg (fun h => h4 h.2), if_pos ⟨h5, h6⟩])]
          · have h6 : ¬ l[k].j = i := by simpa using h6
            refine ⟨k + 1, by show _ < _; simp; omega, ⟨rfl, rfl⟩, ⟨by show PV.v (.int _ _) = _; rw [succ_w (by omega)], trivial⟩, trivial, (by repeat' first | exact trivial | rfl | apply And.intro), h2, next (fun h => h4 h.2) (fun h => h6 h.2)⟩
        · have h5 : ¬ l[k].i = j := by simpa using h5
          refine ⟨k + 1, by show _ < _; simp; omega, ⟨rfl, rfl⟩, ⟨by show PV.v (.int _ _) = _; rw [succ_w (by omega)], trivial⟩, trivial, (by repeat' first | exact trivial | rfl | apply And.intro), h2, next (fun h => h4 h.2) (fun h => h5 h.1)⟩
    · have h3 : ¬ l[k].i = i := by simpa using h3
      refine ⟨fun h5 => ?_, fun h5 => ?_⟩
      · have h5 : l[k].i = j := by simpa using h5
        refine ⟨fun h6 => ?_, fun h6 => ?_⟩
        · have h6 : l[k].j = i := by simpa using h6
          refine ⟨[], _, j_adjV hv, rfl, ?_⟩
          refine ⟨Nat.le_refl _, ?_⟩
          refine ⟨_, rfl, rfl, ?_⟩
          show resJ ((jadj l[k].v).1, 0) = _
          rw [jfind_some (by rw [hall, if_neg (fun h => h3 h.1), if_pos ⟨h5, h6⟩])]
        · have h6 : ¬ l[k].j = i := by simpa using h6
          refine ⟨k + 1, by show _ < _; simp; omega, ⟨rfl, rfl⟩, ⟨by show PV.v (.int _ _) = _; rw [succ_w (by omega)], trivial⟩, trivial, (by repeat' first | exact trivial | rfl | apply And.intro), h2, next (fun h => h3 h.1) (fun h => h6 h.2)⟩
      · have h5 : ¬ l[k].i = j := by simpa using h5
        refine ⟨k + 1, by show _ < _; simp; omega, ⟨rfl, rfl⟩, ⟨by show PV.v (.int _ _) = _; rw [succ_w (by omega)], trivial⟩, trivial, (by repeat' first | exact trivial | rfl | apply And.intro), h2, next (fun h => h3 h.1) (fun h => h5 h.1)⟩
  · have h2 : k = l.length := by simp at h2; omega
    subst h2
    rw [List.drop_length] at hall
    refine ⟨Nat.le_refl _, ?_⟩
    refine ⟨_, rfl, rfl, ?_⟩
    show resJ (j0, 6) = _
    rw [jfind_none hall]

theorem jr_got (l : List Pol) (i j : Int) (hlen : l.length ≤ 64) (hl : ∀ p ∈ l, p.good 8) : Ret Try.prog 58 [sl l, i64 i, i64 j] [] (.tup [.p (jn (gJ l i j)), .p (bl (!(jgot i j l).isNone))]) := by
  have fin : ∀ m, jgot i j l = some m → SV.tup [.p (jn m), .p (bl true)] = SV.tup [.p (jn (gJ l i j)), .p (bl (!(jgot i j l).isNone))] := fun m h => by rw [gJ, h]; rfl
  refine ret (fn := Try.f58) (by kernel_rfl) (by kernel_rfl) rfl ?_
  refine ⟨Nat, { inv := fun k => k ≤ l.length ∧ (jgot i j l = jgot i j (l.drop k)), slots := [(8, fun k => i64 k)],  mu := fun k => l.length - k }, 0, ⟨⟨rfl, trivial⟩, trivial, (by repeat' first | exact trivial | rfl | apply And.intro), Nat.zero_le _, rfl⟩, ?_⟩
  intro k ⟨hk, hall⟩
  refine ⟨fun h2 => ?_, fun h2 => ?_⟩
  · have h2 : k < l.length := by simpa using h2
    rw [jgot_drop h2] at hall
    have hv := (hl _ (List.getElem_mem h2)).2.2.2.2
    have next : ¬ (l[k].i = i ∧ l[k].j = j) → ¬ (l[k].i = j ∧ l[k].j = i) → jgot i j l = jgot i j (l.drop (k + 1)) := fun h h' => by rw [hall, if_neg h, if_neg h']
    refine ⟨k, rfl, h2, by decide, _, idx h2, rfl, ?_⟩
    refine ⟨fun h3 => ?_, fun h3 => ?_⟩
    · have h3 : l[k].i = i := by simpa using h3
      refine ⟨k, rfl, h2, by decide, _, idx h2, rfl, ?_⟩
      refine ⟨fun h4 => ?_, fun h4 => ?_⟩
      · have h4 : l[k].j = j := by simpa using h4
        refine ⟨k, rfl, h2, by decide, _, idx h2, rfl, ?_⟩
        refine ⟨Nat.le_refl _, ?_⟩
        refine ⟨_, rfl, rfl, ?_⟩
        exact fin l[k].v (by rw [hall, if_pos ⟨h3, h4⟩])
      · have h4 : ¬ l[k].j = j := by simpa using h4
        refine ⟨k, rfl, h2, by decide, _, idx h2, rfl, ?_⟩
        refine ⟨fun h5 => ?_, fun h5 => ?_⟩
        · have h5 : l[k].i = j := by simpa using h5
          refine ⟨k, rfl, h2, by decide, _, idx h2, rfl, ?_⟩
          refine ⟨fun h6 => ?_, fun h6 => ?_⟩
          · have h6 : l[k].j = i := by simpa using h6
            refine ⟨k, rfl, h2, by decide, _, idx h2, rfl, ?_⟩
            refine ⟨[], _, jr_adj1 l[k].v hv, rfl, ?_⟩
            refine ⟨Nat.le_refl _, ?_⟩
            refine ⟨_, rfl, rfl, ?_⟩
            refine Eq.trans ?_ (fin (jadj l[k].v).1 (by rw [hall, if_neg (fun h => h4 h.2), if_pos ⟨h5, h6⟩]))
            rw [jadj, if_pos hv]; rfl
          · have h6 : ¬ l[k].j = i := by simpa using h6
            refine ⟨k + 1, by show _ < _; simp; omega, ⟨rfl, rfl⟩, ⟨by show PV.v (.int _ _) = _; rw [succ_w (by omega)], trivial⟩, trivial, (by repeat' first | exact trivial | rfl | apply And.intro), h2, next (fun h => h4 h.2) (fun h => h6 h.2)⟩
        · have h5 : ¬ l[k].i = j := by simpa using h5
          refine ⟨k + 1, by show _ < _; simp; omega, ⟨rfl, rfl⟩, ⟨by show PV.v (.int _ _) = _; rw [succ_w (by omega)], trivial⟩, trivial, (by repeat' first | exact trivial | rfl | apply And.intro), h2, next (fun h => h4 h.2) (fun h => h5 h.1)⟩
    · have h3 : ¬ l[k].i = i := by simpa using h3
      refine ⟨k, rfl, h2, by decide, _, idx h2, rfl, ?_⟩
      refine ⟨fun h5 => ?_, fun h5 => ?_⟩
      · have h5 : l[k].i = j := by simpa using h5
        refine ⟨k, rfl, h2, by decide, _, idx h2, rfl, ?_⟩
        refine ⟨fun h6 => ?_, fun h6 => ?_⟩
        · have h6 : l[k].j = i := by simpa using h6
          refine ⟨k, rfl, h2, by decide, _, idx h2, rfl, ?_⟩
          refine ⟨[], _, jr_adj1 l[k].v hv, rfl, ?_⟩
          refine ⟨Nat.le_refl _, ?_⟩
          refine ⟨_, rfl, rfl, ?_⟩
          refine Eq.trans ?_ (fin (jadj l[k].v).1 (by rw [hall, if_neg (fun h => h3 h.1), if_pos ⟨h5, h6⟩]))
          rw [jadj, if_pos hv]; rfl
        · have h6 : ¬ l[k].j = i := by simpa using h6
          refine ⟨k + 1, by show _ < _; simp; omega, ⟨rfl, rfl⟩, ⟨by show PV.v (.int _ _) = _; rw [succ_w (by omega)], trivial⟩, trivial, (by repeat' first | exact trivial | rfl | apply And.intro), h2, next (fun h => h3 h.1) (fun h => h6 h.2)⟩
      · have h5 : ¬ l[k].i = j := by simpa using h5
        refine ⟨k + 1, by show _ < _; simp; omega, ⟨rfl, rfl⟩, ⟨by show PV.v (.int _ _) = _; rw [succ_w (by omega)], trivial⟩, trivial, (by repeat' first | exact trivial | rfl | apply And.intro), h2, next (fun h => h3 h.1) (fun h => h5 h.1)⟩
  · have h2 : k = l.length := by simp at h2; omega
    subst h2
    rw [List.drop_length] at hall
    refine ⟨Nat.le_refl _, ?_⟩
    refine ⟨_, rfl, rfl, ?_⟩
    have hall : jgot i j l = none := hall
    rw [gJ, hall]; rfl

theorem jr_check (l : List Pol) : Ret Try.prog 31 [sl l] [] (.p (i64 (jck l))) := by
  refine ret (fn := Try.f31) (by kernel_rfl) (by kernel_rfl) rfl ?_
  refine ⟨[], _, jr_all l 8, rfl, ?_⟩
  refine ⟨fun h1 => ?_, fun h1 => ?_⟩
  · have h1 : jall l 8 ≠ 0 := by simpa using h1
    show SV.p (i64 (jall l 8)) = _
    rw [jck, if_pos h1]
  have h1 : jall l 8 = 0 := by simpa using h1
  obtain ⟨l1, l2⟩ := jall_0 h1
  refine ⟨Nat, { inv := fun k => k ≤ l.length ∧ (((l.take k).map Pol.key).Nodup), slots := [(4, fun k => i64 k)],  mu := fun k => l.length - k }, 0, ⟨⟨rfl, trivial⟩, trivial, (by repeat' first | exact trivial | rfl | apply And.intro), Nat.zero_le _, by simp⟩, ?_⟩
  intro k ⟨hk, hn⟩
  refine ⟨fun h2 => ?_, fun h2 => ?_⟩
  · have h2 : k < l.length := by simpa using h2
    refine ⟨Nat, { inv := fun m => m ≤ k ∧ l[k].key ∉ (l.take m).map Pol.key, slots := [(5, fun m => i64 m)], mu := fun m => k - m }, 0, ⟨⟨rfl, trivial⟩, trivial, (by repeat' first | exact trivial | rfl | apply And.intro), Nat.zero_le _, by simp⟩, ?_⟩
    intro m ⟨hm, hnot⟩
    have hm : m ≤ k := hm
    refine ⟨fun h3 => ?_, fun h3 => ?_⟩
    · have h3 : m < k := by have := of_decide_eq_true h3; omega
      have h3' : m < l.length := by omega
      have nx : l[k].key ≠ l[m].key → l[k].key ∉ (l.take (m + 1)).map Pol.key := fun h => by
        rw [List.take_succ_eq_append_getElem h3', List.map_append, List.mem_append]
        rintro (h' | h')
        · exact hnot h'
        · rw [List.map_singleton, List.mem_singleton] at h'; exact h h'
      refine ⟨k, rfl, h2, by decide, _, idx h2, rfl, ?_⟩
      refine ⟨m, rfl, h3', by decide, _, idx h3', rfl, ?_⟩
      refine ⟨fun h4 => ?_, fun h4 => ?_⟩
      · have h4 : l[k].i = l[m].i := by simpa using h4
        refine ⟨k, rfl, h2, by decide, _, idx h2, rfl, ?_⟩
        refine ⟨m, rfl, h3', by decide, _, idx h3', rfl, ?_⟩
        refine ⟨fun h5 => ?_, fun h5 => ?_⟩
        · have h5 : l[k].j = l[m].j := by simpa using h5
          have : ¬ (l.map Pol.key).Nodup := fun h => by
            refine ((pkeys_succ h2).1 (pkeys_take (k + 1) h)).2 ?_
            rw [List.mem_map]
            refine ⟨l[m], ?_, by unfold Pol.key; rw [h4, h5]⟩
            rw [List.mem_take_iff_getElem]
            exact ⟨m, by omega, rfl⟩
          show SV.p (i64 14) = _
          rw [jck, if_neg (by simp [h1]), if_neg this]
        · have h5 : ¬ l[k].j = l[m].j := by simpa using h5
          refine ⟨m + 1, by show _ < _; simp; omega, ⟨rfl, rfl⟩, ⟨by show PV.v (.int _ _) = _; rw [succ_w (by omega)], trivial⟩, trivial, (by repeat' first | exact trivial | rfl | apply And.intro), h3, nx fun h => h5 (congrArg Prod.snd h)⟩
      · have h4 : ¬ l[k].i = l[m].i := by simpa using h4
        refine ⟨m + 1, by show _ < _; simp; omega, ⟨rfl, rfl⟩, ⟨by show PV.v (.int _ _) = _; rw [succ_w (by omega)], trivial⟩, trivial, (by repeat' first | exact trivial | rfl | apply And.intro), h3, nx fun h => h4 (congrArg Prod.fst h)⟩
    have h3 : m = k := by have := of_decide_eq_false h3; omega
    subst h3
    refine ⟨m + 1, by show _ < _; simp; omega, ⟨rfl, rfl⟩, ⟨by show PV.v (.int _ _) = _; rw [succ_w (by omega)], trivial⟩, trivial, (by repeat' first | exact trivial | rfl | apply And.intro), h2, (pkeys_succ h2).2 ⟨hn, hnot⟩⟩
  have h2 : k = l.length := by simp at h2; omega
  subst h2
  have hn : ((l.take l.length).map Pol.key).Nodup := hn
  rw [List.take_length] at hn
  show SV.p (i64 0) = _
  rw [jck, if_neg (by simp [h1]), if_pos hn]
end Go.Pv

/- Contracts: loops' errors; a map that is keyed by pairs. -/
import Derived.Test.YtljahbpkhienkaaJd
import Derived.Test.YtljahbpkhienkaaPvRm
import Derived.Test.YtljahbpkhienkaaPlJgm
import Derived.DeepKeys4
namespace Go.Pv
open Go.Vc
open Go.Proofs
set_option maxRecDepth 10000
set_option maxHeartbeats 4000000

theorem jlaid : laidOutB Try.prog = true := by kernel_rfl
theorem jrow : (95 : TypeId) < Try.prog.types.size := of_decide_eq_true (by kernel_rfl)
theorem jcells : Try.prog.cellsOf 95 = 2 := by kernel_rfl
theorem jwide : (match Try.prog.underlying 95 with | some (.array _ _) | some (.struct _) => true | _ => false) = true := by kernel_rfl
theorem jkt : Try.prog.keyType 95 = true := by kernel_rfl

theorem wf_i64 {a : Int} (h : I64 a) : (Lit.int .i64 a).wf = true := by
  have e1 : IntKind.i64.min = -9223372036854775808 := by decide
  have e2 : IntKind.i64.max = 9223372036854775807 := by decide
  simp [Lit.wf, e1, e2, I64] at *
  omega

theorem jcells3 : Try.prog.cellsOf 3 = 1 := by kernel_rfl
theorem jsz : ∃ n, Try.prog.types.size + 1 = n + 2 := ⟨Try.prog.types.size - 1, by have : 1 ≤ Try.prog.types.size := of_decide_eq_true (by kernel_rfl); omega⟩

theorem jkey (p : Int × Int) (h1 : I64 p.1) (h2 : I64 p.2) : ∃ l, keyOf Try.prog 95 (pk p) = some l := by
  have w1 := wf_i64 h1
  have w2 := wf_i64 h2
  unfold keyOf
  obtain ⟨n, hn⟩ := jsz
  rw [hn]
  simp [Try.underlying95, jkt, pk, Value.formed, jcells, Value.cells, Program.keyLits, Try.underlying3, jcells3, w1, w2]

/-- A number of an array. -/
theorem nums_at (s : List Int) {k : Nat} (h : k < s.length) : ((s.map i64).drop (k * 1)).take 1 = [i64 s[k]] := by
  rw [Nat.mul_one, ← List.map_drop, List.drop_eq_getElem_cons h]; rfl

theorem nums_cut (s : List Int) {k i : Nat} (h : i < k) (hk : k ≤ s.length) : (((((s.map i64).drop (0 * 1)).take ((k - 0) * 1))).drop (i * 1)).take 1 = [i64 (s[i]'(by omega))] := by
  have e : (((s.map i64).drop (0 * 1)).take ((k - 0) * 1)) = (s.take k).map i64 := by simp
  rw [e, nums_at (s.take k) (by rw [List.length_take]; omega)]
  simp

theorem jmapT : MapT Try.prog 93 95 4 where
  und := by kernel_rfl
  keyed := Go.Maps.Keyed.of_law (deep_law_laid jlaid (m := 3) (by omega) jrow (by kernel_rfl) jwide)
  key := jkey
  zero := fun w => by kernel_rfl

theorem retMp {f : FuncId} {fn : Func} (hf : Try.prog.funcs[f]? = some fn) (hd : (match fn.body with | some c => drawsB c | none => false) = true) {args : List PV} (hn : Nat.ble (len args) fn.ntmps = true) {obsR : Obs} {r : SV}
    (h : vcFunMp Try.prog 68 T 93 fn args obsR r) : Ret Try.prog f args obsR r := ret_of_vcM mixed tabOk fnsOk jmapT hf hd (by rw [len_eq, Nat.ble_eq] at hn; exact hn) h

theorem j_lerr (l : List Pol) (a b c d : Int) (hl : ∀ p ∈ l, Enc.ok p) : Ret Try.prog 56 [sl l, .agg [i64 a, i64 b, i64 c, i64 d]] [] (.p (i64 (jlerr l [a, b, c, d]))) := by
  refine retMp (fn := Try.f56) (by kernel_rfl) (by kernel_rfl) rfl ?_
  refine ⟨[], _, j_coh l 8 hl, rfl, ?_⟩
  refine ⟨fun h1 => ?_, fun h1 => ?_⟩
  · have h1 : jall l 8 ≠ 0 := by simpa using h1
    have e : jlerr l [a, b, c, d] = jall l 8 := by
      have : jck l = jall l 8 := by rw [jck, if_pos h1]
      rw [jlerr, this, if_pos h1]
    show SV.p (i64 (jall l 8)) = _
    rw [e]
  have h1 : jall l 8 = 0 := by simpa using h1
  obtain ⟨l1, l2⟩ := jall_0 h1
  intro mb
  refine ⟨Nat, { inv := fun k => k ≤ l.length ∧ ((l.take k).map Pol.key).Nodup, slots := [(22, fun k => i64 k)], mu := fun k => l.length - k }, fun k => some (mb, (l.take k).map Pol.key), 0, ⟨rfl, ⟨rfl, trivial⟩, trivial, (by repeat' first | exact trivial | rfl | apply And.intro), Nat.zero_le _, by simp⟩, ?_⟩
  intro k ⟨hk, hn⟩
  refine ⟨fun h2 => ?_, fun h2 => ?_⟩
  · have h2 : k < l.length := by simpa using h2
    have hok := hl _ (List.getElem_mem h2)
    refine ⟨k, rfl, h2, by decide, _, idx h2, rfl, ?_⟩
    refine ⟨rfl, ⟨hok.1, hok.2.1⟩, ?_⟩
    refine ⟨fun h3 => ?_, fun h3 => ?_⟩
    · have h3 : l[k].key ∈ (l.take k).map Pol.key := of_decide_eq_true h3
      have e : jlerr l [a, b, c, d] = 14 := by
        have : jck l = 14 := by
          rw [jck, if_neg (by simp [h1]), if_neg]
          intro h
          exact ((pkeys_succ h2).1 (pkeys_take (k + 1) h)).2 h3
        rw [jlerr, this, if_pos (by decide)]
      show SV.p (i64 14) = _
      rw [e]
    have h3 : l[k].key ∉ (l.take k).map Pol.key := of_decide_eq_false h3
    refine ⟨rfl, ⟨hok.1, hok.2.1⟩, h3, ?_⟩
    refine ⟨k + 1, by show _ < _; simp; omega, ⟨rfl, rfl⟩, ?_, ⟨by show PV.v (.int _ _) = _; rw [succ_w (by omega)], trivial⟩, trivial, (by repeat' first | exact trivial | rfl | apply And.intro), h2, (pkeys_succ h2).2 ⟨hn, h3⟩⟩
    show some (mb, (l.take k).map Pol.key ++ [l[k].key]) = some (mb, (l.take (k + 1)).map Pol.key)
    rw [List.take_succ_eq_append_getElem h2, List.map_append]; rfl
  have h2 : k = l.length := by simp at h2; omega
  subst h2
  have hck : jck l = 0 := by
    have hn : ((l.take l.length).map Pol.key).Nodup := hn
    rw [List.take_length] at hn
    rw [jck, if_neg (by simp [h1]), if_pos hn]
  have bad : ¬ apart [a, b, c, d] → SV.p (i64 2) = SV.p (i64 (jlerr l [a, b, c, d])) := fun h => by
    rw [jlerr, if_neg (by simp [hck]), if_neg h]
  refine ⟨_, rfl, rfl, ?_⟩
  refine ⟨Nat, { inv := fun k => k ≤ 4 ∧ apart ([a, b, c, d].take k), slots := [(38, fun k => i64 k)], frz := [0], mu := fun k => 4 - k }, 0, ⟨⟨rfl, trivial⟩, trivial, (by repeat' first | exact trivial | rfl | apply And.intro), Nat.zero_le _, by simp [apart]⟩, ?_⟩
  intro k ⟨hk, hall⟩
  refine ⟨fun h4 => ?_, fun h4 => ?_⟩
  · have h4 : k < 4 := by simp at h4; omega
    have h4' : k < [a, b, c, d].length := h4
    refine ⟨k, rfl, h4, _, nums_at [a, b, c, d] h4', rfl, ?_⟩
    have up := apart_succ h4'
    have bad1 : ¬ apart ([a, b, c, d].take (k + 1)) → SV.p (i64 2) = SV.p (i64 (jlerr l [a, b, c, d])) := fun h => bad fun h' => h (apart_take _ h')
    refine ⟨fun h5 => ?_, fun h5 => ?_⟩
    rotate_left
    · have h5 : [a, b, c, d][k] < 0 := of_decide_eq_true h5
      exact bad1 fun h => by have := (up.1 h).2.1; omega
    have h5 : ¬ [a, b, c, d][k] < 0 := of_decide_eq_false h5
    refine ⟨fun h6 => ?_, fun h6 => ?_⟩
    · have h6 : [a, b, c, d][k] ≥ 8 := of_decide_eq_true h6
      exact bad1 fun h => by have := (up.1 h).2.1; omega
    have h6 : ¬ [a, b, c, d][k] ≥ 8 := of_decide_eq_false h6
    refine ⟨rfl, k, rfl, Nat.zero_le _, hk, ?_⟩
    refine ⟨Nat, { inv := fun i => i ≤ k ∧ [a, b, c, d][k] ∉ [a, b, c, d].take i, slots := [(51, fun i => i64 i)], mu := fun i => k - i }, 0, ⟨⟨rfl, trivial⟩, trivial, (by repeat' first | exact trivial | rfl | apply And.intro), Nat.zero_le _, by simp⟩, ?_⟩
    intro i ⟨hi, hnot⟩
    have hi : i ≤ k := hi
    refine ⟨fun h7 => ?_, fun h7 => ?_⟩
    · have h7 : i < k := by have := of_decide_eq_true h7; omega
      have h7' : i < [a, b, c, d].length := by omega
      refine ⟨i, rfl, (by omega), by decide, _, nums_cut [a, b, c, d] h7 hk, rfl, ?_⟩
      refine ⟨fun h8 => ?_, fun h8 => ?_⟩
      · have h8 : [a, b, c, d][i] = [a, b, c, d][k] := by simpa using h8
        refine bad1 fun h => (up.1 h).2.2 ?_
        rw [List.mem_take_iff_getElem]
        exact ⟨i, by omega, h8⟩
      have h8 : [a, b, c, d][i] ≠ [a, b, c, d][k] := by simpa using h8
      refine ⟨i + 1, by show _ < _; simp; omega, ⟨rfl, rfl⟩, ⟨by show PV.v (.int _ _) = _; rw [succ_w (by omega)], trivial⟩, trivial, (by repeat' first | exact trivial | rfl | apply And.intro), h7, ?_⟩
      rw [List.take_succ_eq_append_getElem h7', List.mem_append]
      rintro (h | h)
      · exact hnot h
      · rw [List.mem_singleton] at h; exact h8 h.symm
    have h7 : i = k := by have := of_decide_eq_false h7; omega
    subst h7
    refine ⟨i + 1, by show _ < _; simp; omega, ⟨rfl, rfl⟩, ⟨by show PV.v (.int _ _) = _; rw [succ_w (by omega)], trivial⟩, trivial, (by repeat' first | exact trivial | rfl | apply And.intro), h4, up.2 ⟨hall, by omega, hnot⟩⟩
  have h4 : k = 4 := by simp at h4; omega
  subst h4
  show SV.p (i64 0) = _
  rw [jlerr, if_neg (by simp [hck]), if_pos (show apart [a, b, c, d] from hall)]
end Go.Pv

/- What the operations do: reading and computing. -/
import Derived.Test.YtljahbpkhienkaaPvDefm
set_option linter.unusedSimpArgs false
namespace Go.Pv
open Go.Vc
open Go.RowKit (Below)

section
variable {P : Program} {T : Tab} {N : Nat} {sl : Slots} {obs : Obs} {n : Nat → Prop} {ρ : Nat → Value} {S : Nat → Prop} {S0 : Fr} {a : Act} {w w0 : World}

theorem intBin_spec {kd : IntKind} {op : BinOp} {x y : Int} {kk : SV → Prop} (h : intBin kd op x y kk) (t : TypeId) (w : World) :
    ∃ v, kk (.p (.v v)) ∧ (binOp op t (.int kd x) (.int kd y)).run P w = .ok v w := by
  unfold intBin at h
  cases op <;> simp only at h <;> first
    | exact ⟨_, h, by simp [binOp, Op.intArith, Op.intCmp]⟩
    | exact ⟨_, h.2, by simp [binOp, Op.intDiv, h.1]⟩
    | exact h.elim

theorem run_eqGuard_int (op : BinOp) (t : TypeId) (x y : Operand) (k k' : IntKind) (m n : Int) (w : World) : (eqGuard op t x y (.int k m) (.int k' n)).run P w = .ok () w := by
  cases op <;> simp [eqGuard]
theorem run_eqGuard_bool (op : BinOp) (t : TypeId) (x y : Operand) (m n : Bool) (w : World) : (eqGuard op t x y (.bool m) (.bool n)).run P w = .ok () w := by
  cases op <;> simp [eqGuard]

theorem allI_rep : ∀ {l : List PV} {xs : List Value}, allI l = true → RepL (Rep w S) l xs → allI64 xs = true ∧ ∀ {l' : List PV} {ys : List Value}, allI l' = true → RepL (Rep w S) l' ys → eqPL l l' = eqL xs ys
  | [], xs, _, hr => by
    have : xs = [] := List.eq_nil_of_length_eq_zero (by simpa using hr.1.symm)
    subst this
    refine ⟨rfl, fun {l' ys} h' hr' => ?_⟩
    cases l' with
    | nil =>
      have : ys = [] := List.eq_nil_of_length_eq_zero (by simpa using hr'.1.symm)
      subst this; rfl
    | cons x r =>
      obtain ⟨v, rs, rfl, _⟩ := repL_uncons hr'
      rfl
  | x :: r, xs, h, hr => by
    obtain ⟨v, rs, rfl, h1, h2⟩ := repL_uncons hr
    unfold allI at h
    split at h
    · rename_i hh; cases hh
    · rename_i n r' hh
      cases hh
      cases h1
      obtain ⟨i1, i2⟩ := allI_rep h h2
      refine ⟨by simpa [allI64] using i1, fun {l' ys} h' hr' => ?_⟩
      cases l' with
      | nil =>
        have : ys = [] := List.eq_nil_of_length_eq_zero (by simpa using hr'.1.symm)
        subst this; rfl
      | cons y s =>
        obtain ⟨v, ss, rfl, h3, h4⟩ := repL_uncons hr'
        unfold allI at h'
        split at h'
        · rename_i hh; cases hh
        · rename_i m r'' hh
          cases hh
          cases h3
          simp [eqPL, eqL, eqP, eqV, i2 h' h4]
        · cases h'
    · cases h

theorem vcBin_spec (hT : TabOk P T) {op : BinOp} {t : TypeId} {x y : PV} {kk : SV → Prop} (h : vcBin T op t x y kk) {vx vy : Value} (hx : Rep w S x vx) (hy : Rep w S y vy) (ox oy : Operand) :
    ∃ v, kk (.p (.v v)) ∧ (eqGuard op t ox oy vx vy).run P w = .ok () w ∧ (binOp op t vx vy).run P w = .ok v w := by
  unfold vcBin at h
  split at h
  · cases hx; cases hy
    obtain ⟨v, h1, h2⟩ := intBin_spec (P := P) h t w
    exact ⟨v, h1, run_eqGuard_int _ _ _ _ _ _ _ _ _, h2⟩
  · cases hx; cases hy
    obtain ⟨v, h1, h2⟩ := intBin_spec (P := P) h t w
    exact ⟨v, h1, run_eqGuard_int _ _ _ _ _ _ _ _ _, h2⟩
  · rename_i p q
    cases hx; cases hy
    rw [find_iff] at h
    obtain ⟨ty, ht, h⟩ := h
    have hty := hT t ty ht
    split at h
    · rename_i hk
      have hu := kd_bool hty hk
      have hq : (Op.equal t (.bool p) (.bool q)).run P w = .ok (p == q) w := run_equalIn_bool' w 9999 t p q hu
      unfold boolBin at h
      split at h
      · exact ⟨_, h, run_eqGuard_bool _ _ _ _ _ _ _, by simp only [binOp, Sem.run_bind, hq, Result.andThen_ok]; rfl⟩
      · exact ⟨_, h, run_eqGuard_bool _ _ _ _ _ _ _, by simp only [binOp, Sem.run_bind, hq, Result.andThen_ok]; rfl⟩
      · exact h.elim
    · exact h.elim
  · rename_i lx ly
    rw [find_iff] at h
    obtain ⟨ty, ht, h⟩ := h
    have hty := hT t ty ht
    simp only [cond_false_iff, Bool.and_eq_true, len_eq] at h
    obtain ⟨⟨⟨⟨⟨hf, h1⟩, h2⟩, h3⟩, h4⟩, h⟩ := h
    cases hx with
    | agg hlx h1x hhx =>
    rename_i xs
    cases hy with
    | agg hly h1y hhy =>
    rename_i ys
    have h3 : xs.length = ty.size := by rw [← hlx]; exact Nat.eq_of_beq_eq_true h3
    have h4 : ys.length = ty.size := by rw [← hly]; exact Nat.eq_of_beq_eq_true h4
    obtain ⟨a1, a2⟩ := allI_rep (w := w) (S := S) h1 ⟨hlx, hhx⟩
    obtain ⟨b1, _⟩ := allI_rep (w := w) (S := S) h2 ⟨hly, hhy⟩
    have heq := a2 h2 ⟨hly, hhy⟩
    obtain ⟨hfl, hgd, hag⟩ := kd_flat hty hf
    obtain ⟨d, hd, hda⟩ := hty.und
    have hfv : ∀ l, flatVal P t l = .agg l.toArray := by
      intro l
      rw [hag] at hda
      unfold flatVal
      rw [hd]
      cases d <;> simp at hda <;> rfl
    have he := flat_eq 8 t hfl 10000 (by omega) xs ys w a1 b1 (by rw [h3, hty.cellsOf]) (by rw [h4, hty.cellsOf])
    rw [hfv, hfv] at he
    unfold aggBin at h
    rw [heq] at h
    split at h
    · exact ⟨_, h, run_eqGuard_agg w _ _ _ _ _ _ hgd, by rw [run_eql_struct, he]; rfl⟩
    · exact ⟨_, h, run_eqGuard_agg w _ _ _ _ _ _ hgd, by rw [run_neq_struct, he]; rfl⟩
    · exact h.elim
  · exact h.elim

/-- Loading cells that are there. -/
theorem run_loadCells {t : TypeId} {ty : Ty} (hty : TyOk P t ty) {ad : Addr} {xs : List Value} (hn : xs.length = ty.size) (hc : ∀ (j : Nat) (c : Value), xs[j]? = some c → w.cell? (ad.add j) = some c) {v : Value}
    (hv : (isAggK ty.kd = true ∧ v = .agg xs.toArray) ∨ (isAggK ty.kd = false ∧ xs = [v])) : (Instr.loadAt t (.pointer (some ad))).run P w = .ok v w := by
  simp [Instr.loadAt, Instr.sureAddr, run_loadVar hty w ad xs hn hc v hv]

theorem sub_get {cur xs : List Value} {o m j : Nat} {c : Value} (ht : cur.take xs.length = xs) (h : ((xs.drop o).take m)[j]? = some c) : cur[o + j]? = some c := by
  rw [List.getElem?_take] at h
  split at h
  · rw [List.getElem?_drop, ← ht, List.getElem?_take] at h
    split at h
    · exact h
    · cases h
  · cases h

theorem Ones.sub {xs : List Value} (h : Ones xs) (o m : Nat) : Ones ((xs.drop o).take m) := fun x hx => h x (List.mem_of_mem_drop (List.mem_of_mem_take hx))

theorem hasN_get {cs : List NC} {h : Option (Nat × SV)} : ∀ {l : List SV} {o j : Nat} {y : SV}, hasN cs h o l → l[j]? = some y → NCat cs h (o + j) y
  | [], _, _, _, _, hj => by simp at hj
  | z :: r, o, j, y, hh, hj => by
    cases j with
    | zero => simp at hj; subst hj; exact hh.1
    | succ j =>
      have := hasN_get hh.2 (by simpa using hj)
      rwa [show o + (j + 1) = o + 1 + j by omega]

theorem ncat_den {cs : List NC} {h : Option (Nat × SV)} {xs : List Value} (h3 : ∀ j c v, cs[j]? = some c → xs[j]? = some v → Off h j → NcOk w S c v) (h4 : ∀ p y, h = some (p, y) → ∃ v, xs[p]? = some v ∧ Den ρ n w S y v) {q : Nat} {y : SV} {v : Value} (hy : NCat cs h q y) (hv : xs[q]? = some v) : Den ρ n w S y v := by
  unfold NCat at hy
  split at hy
  · rename_i p z
    rcases hy with ⟨rfl, rfl⟩ | ⟨hne, x, rfl, hc⟩
    · obtain ⟨v', hv', hd⟩ := h4 _ _ rfl
      rw [hv] at hv'
      cases hv'
      exact hd
    · have := h3 q _ v hc hv (by rintro p' y' he; cases he; exact hne)
      exact .p this
  · obtain ⟨x, rfl, hc⟩ := hy
    have := h3 q _ v hc hv (by rintro p' y' he; cases he)
    exact .p this

theorem loadOb_spec {ob : Ob} {x : Value} (hob : ObOk ρ n w S ob x) (hl : ob.live = true) {b : Nat} (hb : blk x = some b) {t : TypeId} {ty : Ty} (hty : TyOk P t ty) {o : Nat} {kk : SV → Prop} (h : loadOb ob o ty kk) :
    ∃ sv v, kk sv ∧ Den ρ n w S sv v ∧ (Instr.loadAt t (.pointer (some ⟨b, o, none⟩))).run P w = .ok v w := by
  obtain ⟨cur, e, xs, hg, hle, ht, h1, hd⟩ := hob.cells hl hb
  have hc : ∀ (j : Nat) (c : Value), ((xs.drop o).take ty.size)[j]? = some c → w.cell? ((⟨b, o, none⟩ : Addr).add j) = some c := by
    intro j c hj
    rw [Addr.add0, cell_of_row w b (o + j) cur e (0, 0) hg]
    have := sub_get ht hj
    simpa using this
  have R : ∀ cs, RepL (Rep w S) cs xs → loadR cs o ty kk → ∃ sv v, kk sv ∧ Den ρ n w S sv v ∧ (Instr.loadAt t (.pointer (some ⟨b, o, none⟩))).run P w = .ok v w := by
    intro cs hd h
    obtain ⟨l, hl', hn, h⟩ := h
    have hr := repL_take (repL_drop hd o) ty.size
    rw [hl'] at hr
    obtain ⟨sv, v, hk, hden, hv⟩ := ofCellsP_spec (ρ := ρ) (n := n) h hr (h1.sub o ty.size)
    exact ⟨sv, v, hk, hden, run_loadCells hty (by rw [← hr.1]; exact hn) hc hv⟩
  cases ob with
  | box t' cs =>
    simp only [loadOb, loadS, fL_iff, cond_false_iff, len_eq] at h
    have hr := denL_take (denL_drop hd o) ty.size
    obtain ⟨sv, v, hk, hden, hv⟩ := ofCellsS_spec h.2 hr (h1.sub o ty.size)
    exact ⟨sv, v, hk, hden, run_loadCells hty (by rw [← hr.1]; exact Nat.eq_of_beq_eq_true h.1) hc hv⟩
  | arr t' cs => exact R cs hd h
  | row e' sz m ex cs => exact R cs hd h
  | nest e' sz m cs hole =>
    obtain ⟨_, hlen, h3, h4⟩ := hd
    obtain ⟨l, hN, hn, hfit, h⟩ := h
    have hr : DenL ρ n w S l ((xs.drop o).take ty.size) := by
      refine ⟨by rw [hn, List.length_take, List.length_drop]; omega, fun j p x hp hx => ?_⟩
      rw [List.getElem?_take] at hx
      split at hx
      · rw [List.getElem?_drop] at hx
        exact ncat_den h3 h4 (hasN_get hN hp) hx
      · cases hx
    obtain ⟨sv, v, hk, hden, hv⟩ := ofCellsS_spec h hr (h1.sub o ty.size)
    exact ⟨sv, v, hk, hden, run_loadCells hty (by rw [← hr.1]; exact hn) hc hv⟩
  | dead => exact h.elim

theorem isVar_blk {ob : Ob} {x : Value} (hob : ObOk ρ n w S ob x) (hv : isVar ob = true) : ob.live = true ∧ ∃ b, x = .pointer (some ⟨b, 0, none⟩) ∧ blk x = some b := by
  cases ob with
  | box t cs => obtain ⟨b, xs, rfl, _⟩ := hob; exact ⟨rfl, b, rfl, rfl⟩
  | arr t cs => obtain ⟨b, xs, rfl, _⟩ := hob; exact ⟨rfl, b, rfl, rfl⟩
  | row e sz m ex cs => cases hv
  | nest e sz m cs h => cases hv
  | dead => cases hv

/-- Cells that nobody changes. -/
theorem fp_load {l : List PV} {ad : Addr} {xs : List Value} (hl : l.length = xs.length) (h1 : Ones xs) (hc : ∀ (j : Nat) (x : Value), xs[j]? = some x → w.cell? (ad.add j) = some x) (hh : ∀ (j : Nat) (p : PV) (x : Value), l[j]? = some p → xs[j]? = some x → Rep w S p x) {t : TypeId} {ty : Ty} (hty : TyOk P t ty) {m : List PV} (hm : l.take ty.size = m) (hn : m.length = ty.size) {kk : SV → Prop} (h : ofCellsP (isAggK ty.kd) m kk) :
    ∃ sv v, kk sv ∧ Den ρ n w S sv v ∧ (Instr.loadAt t (.pointer (some ad))).run P w = .ok v w := by
  have hr : RepL (Rep w S) (l.take ty.size) (xs.take ty.size) := repL_take ⟨hl, hh⟩ _
  rw [hm] at hr
  obtain ⟨sv, v, hk, hden, hv⟩ := ofCellsP_spec (ρ := ρ) (n := n) h hr (fun x hx => h1 x (List.mem_of_mem_take hx))
  refine ⟨sv, v, hk, hden, run_loadCells hty (by rw [← hr.1]; exact hn) (fun j c hj => ?_) hv⟩
  rw [List.getElem?_take] at hj
  split at hj
  · exact hc j c hj
  · cases hj

theorem vcLoad_spec (hT : TabOk P T) (hW : SatW w0 S0 obs ρ S w) (hn' : ∀ i, i < obs.length → n i) {t : TypeId} {x : SV} {kk : SV → Prop} (h : vcLoad T t x obs kk) {vx : Value} (hd : Den ρ n w S x vx) :
    ∃ sv v, kk sv ∧ Den ρ n w S sv v ∧ (Instr.loadAt t vx).run P w = .ok v w := by
  unfold vcLoad at h
  rw [find_iff] at h
  obtain ⟨ty, ht, h⟩ := h
  have hty := hT t ty ht
  cases hd with
  | ob hi =>
    simp only at h
    rw [at_iff] at h
    obtain ⟨ob, hi, h⟩ := h
    rw [cond_false_iff] at h
    have hob := (hW.objs _ ob hi).mono (n' := n) (fun _ _ _ => rfl) (fun _ _ => rfl) (fun _ h => h) hn' (fun _ _ => rfl)
    obtain ⟨hl, b, hx, hb⟩ := isVar_blk hob h.1
    have := loadOb_spec hob hl hb hty h.2
    rw [hx]
    exact this
  | pt hi hb =>
    rename_i i o b
    simp only at h
    rw [at_iff] at h
    obtain ⟨ob, hi, h⟩ := h
    have hl : ob.live = true := by cases ob <;> first | rfl | exact h.elim
    exact loadOb_spec ((hW.objs _ ob hi).mono (n' := n) (fun _ _ _ => rfl) (fun _ _ => rfl) (fun _ h => h) hn' (fun _ _ => rfl)) hl hb hty h
  | p hr =>
    cases hr with
    | fp hS hl h1 hc hh =>
      rename_i lit l xs ad
      cases lit with
      | true =>
        simp only [loadF, fL_iff, cond_false_iff, len_eq] at h
        exact fp_load hl h1 hc hh hty rfl (Nat.eq_of_beq_eq_true h.1) h.2
      | false =>
        obtain ⟨m, hm, hn, h⟩ := h
        exact fp_load hl h1 hc hh hty (by simpa using hm) hn h
    | _ => exact h.elim
  | _ => exact h.elim

theorem vcUn_spec {uop : UnOp} {x : SV} {vx : Value} {k : SV → Prop} (h : vcUn uop x k) (hd : Den ρ n w S x vx) : ∃ sv v, k sv ∧ Den ρ n w S sv v ∧ (Op.unary uop vx).run P w = .ok v w := by
  unfold vcUn at h
  split at h
  · cases hd with
    | p hr => cases hr; exact ⟨_, _, h, .p (.v _), by simp [Op.unary, Op.intArith]⟩
  · cases hd with
    | p hr => cases hr; exact ⟨_, _, h, .p (.v _), by simp [Op.unary]⟩
  · cases hd; exact ⟨_, _, h, .kb _, by simp [Op.unary]⟩
  · cases hd; exact ⟨_, _, h, .kb _, by simp [Op.unary]⟩
  · exact h.elim

theorem run_fieldAt {s : TypeId} {ty : Ty} (hty : TyOk P s ty) {fs : List (Nat × Nat × Nat)} {fl : Bool} (hk : ty.kd = .struct fs fl) {f o e n : Nat} (hf : fs[f]? = some (o, e, n)) (ad : Addr) (w : World) :
    (Instr.fieldAt s (.pointer (some ad)) f).run P w = .ok (.pointer (some (ad.add o))) w := by
  obtain ⟨fields, hu, hm, hz⟩ := kd_struct hty hk
  have hlen : f < fields.size := by
    have h1 := (List.getElem?_eq_some_iff.1 hf).1
    rw [← hm] at h1
    simpa using h1
  have hff : fields[f]? = some fields[f] := by simp [hlen]
  have hfo : (fields[f].offset, fields[f].type, P.cellsOf fields[f].type) = (o, e, n) := by
    rw [← hm] at hf
    simpa [hlen] using hf
  have hnz := hz (o, e, n) (List.mem_of_getElem? hf)
  simp only [Prod.mk.injEq] at hfo
  obtain ⟨ho, he, hn⟩ := hfo
  have hcn : P.cellsOf fields[f].type ≠ 0 := by rw [hn]; exact hnz
  have hsz : (sizeOf fields[f].type).run P w = .ok (P.cellsOf fields[f].type) w := by
    cases hi : P.info? fields[f].type with
    | none => simp [Program.cellsOf, hi] at hcn
    | some i => simp [sizeOf, typeInfo, hi, Program.cellsOf]
  simp only [Instr.fieldAt, Sem.run_bind, run_underlying hu, Result.andThen_ok, hff, Instr.sureAddr, Sem.run_pure, fieldPlace, hsz, hcn, if_false, ho]

theorem drop_head {α : Type} {l : List α} {f : Nat} {x : α} {r : List α} (h : l.drop f = x :: r) : l[f]? = some x := by
  have := congrArg (·[0]?) h
  simpa using this

theorem Rep.fp_drop {l : List PV} {lit : Bool} {ad : Addr} {xs : List Value} (hS : S ad.block) (hl : l.length = xs.length) (h1 : Ones xs) (hc : ∀ (j : Nat) (x : Value), xs[j]? = some x → w.cell? (ad.add j) = some x) (hh : ∀ (j : Nat) (p : PV) (x : Value), l[j]? = some p → xs[j]? = some x → Rep w S p x) (o : Nat) : Rep w S (.fp lit (l.drop o)) (.pointer (some (ad.add o))) := by
  have hr := repL_drop (w := w) (S := S) ⟨hl, hh⟩ o
  refine .fp (by rw [addr_add_block]; exact hS) hr.1 (fun x hx => h1 x (List.mem_of_mem_drop hx)) (fun j x hj => ?_) hr.2
  rw [List.getElem?_drop] at hj
  rw [Addr.add_add]
  exact hc _ x hj

theorem fDrop_iff (lit : Bool) (o : Nat) (l : List PV) (k : List PV → Prop) : fDrop lit o l k ↔ k (l.drop o) := by
  cases lit <;> simp [fDrop, fL_iff]

theorem vcFieldAddr_spec (hT : TabOk P T) (hW : SatW w0 S0 obs ρ S w) (hn' : ∀ i, i < obs.length → n i) {s f : Nat} {x : SV} {kk : SV → Prop} (h : vcFieldAddr T s x f obs kk) {vx : Value} (hd : Den ρ n w S x vx) :
    ∃ sv v, kk sv ∧ Den ρ n w S sv v ∧ (Instr.fieldAt s vx f).run P w = .ok v w := by
  unfold vcFieldAddr at h
  rw [find_iff] at h
  obtain ⟨ty, ht, h⟩ := h
  have hty := hT s ty ht
  split at h
  · rename_i fs fl hk
    split at h
    · rename_i o e m _ hdr
      have hf := drop_head hdr
      cases hd with
      | ob hi =>
        simp only at h
        rw [at_iff] at h
        obtain ⟨ob, hi', h⟩ := h
        rw [cond_false_iff] at h
        obtain ⟨hl, b, hx, hb⟩ := isVar_blk (hW.objs _ ob hi') h.1
        refine ⟨_, _, h.2, .pt hi hb, ?_⟩
        rw [hx, run_fieldAt hty hk hf _ w, Addr.add0, Nat.zero_add]
      | pt hi hb =>
        exact ⟨_, _, h, .pt hi hb, by rw [run_fieldAt hty hk hf _ w, Addr.add0]⟩
      | p hr =>
        cases hr with
        | fp hS hl h1 hc hh =>
          simp only [fDrop_iff] at h
          exact ⟨_, _, h, .p (Rep.fp_drop hS hl h1 hc hh o), run_fieldAt hty hk hf _ w⟩
        | _ => exact h.elim
      | _ => exact h.elim
    · exact h.elim
  · exact h.elim

theorem run_indexAt_arr {t e n esz : Nat} (hu : P.underlying t = some (.array n e)) (hs : ∀ w : World, (sizeOf e).run P w = .ok esz w) (ad : Addr) (kd : IntKind) (m : Nat) (hm : m < n) (w : World) :
    (Instr.indexAt t (.pointer (some ad)) (.int kd (m : Int))).run P w = .ok (.pointer (some (ad.add (m * esz)))) w := by
  have h1 : (0 : Int) ≤ (m : Int) ∧ (m : Int) < (n : Int) := ⟨by omega, by omega⟩
  simp only [Instr.indexAt, asIntOf, Sem.run_bind, Sem.run_pure, Result.andThen_ok, run_underlying hu, Instr.sureAddr, h1, and_self, if_true, hs, Int.toNat_natCast]

theorem run_indexAt_slice {t e esz : Nat} (hu : P.underlying t = some (.slice e)) (hs : ∀ w : World, (sizeOf e).run P w = .ok esz w) (ad : Addr) (l c : Nat) (kd : IntKind) (m : Nat) (hm : m < l) (w : World) :
    (Instr.indexAt t (.slice (some ad) l c) (.int kd (m : Int))).run P w = .ok (.pointer (some (ad.add (m * esz)))) w := by
  have h1 : (0 : Int) ≤ (m : Int) ∧ (m : Int) < (l : Int) := ⟨by omega, by omega⟩
  simp only [Instr.indexAt, asIntOf, Sem.run_bind, Sem.run_pure, Result.andThen_ok, run_underlying hu, h1, and_self, if_true, hs, Int.toNat_natCast]

/-- A pointer to some of the cells. -/
theorem Rep.fp_sub {l : List PV} {lit : Bool} {ad : Addr} {xs : List Value} (hS : S ad.block) (hl : l.length = xs.length) (h1 : Ones xs) (hc : ∀ (j : Nat) (x : Value), xs[j]? = some x → w.cell? (ad.add j) = some x) (hh : ∀ (j : Nat) (p : PV) (x : Value), l[j]? = some p → xs[j]? = some x → Rep w S p x) (o m : Nat) : Rep w S (.fp lit ((l.drop o).take m)) (.pointer (some (ad.add o))) := by
  have hr := repL_take (repL_drop (w := w) (S := S) ⟨hl, hh⟩ o) m
  refine .fp (by rw [addr_add_block]; exact hS) hr.1 (h1.sub o m) (fun j x hj => ?_) hr.2
  rw [List.getElem?_take] at hj
  split at hj
  · rw [List.getElem?_drop] at hj
    rw [Addr.add_add]
    exact hc _ x hj
  · cases hj

theorem vcIndexAddr_spec (hT : TabOk P T) (hW : SatW w0 S0 obs ρ S w) (hn' : ∀ i, i < obs.length → n i) {t : Nat} {x : SV} {j : Int} (kd : IntKind) {kk : SV → Prop} (h : vcIndexAddr T t x j obs kk) {vx : Value} (hd : Den ρ n w S x vx) :
    ∃ sv v, kk sv ∧ Den ρ n w S sv v ∧ (Instr.indexAt t vx (.int kd j)).run P w = .ok v w := by
  unfold vcIndexAddr at h
  rw [find_iff] at h
  obtain ⟨ty, ht, h⟩ := h
  have hty := hT t ty ht
  split at h
  · rename_i n0 e esz fl hk
    obtain ⟨hu, hs⟩ := kd_arr hty hk
    cases hd with
    | ob hi =>
      simp only at h
      rw [at_iff] at h
      obtain ⟨ob, hi', h⟩ := h
      rw [cond_false_iff] at h
      obtain ⟨hv, m, rfl, hm, h⟩ := h
      obtain ⟨hl, b, hx, hb⟩ := isVar_blk (hW.objs _ ob hi') hv
      refine ⟨_, _, h, .pt hi hb, ?_⟩
      rw [hx, run_indexAt_arr hu hs _ kd m hm w, Addr.add0, Nat.zero_add]
    | pt hi hb =>
      obtain ⟨m, rfl, hm, h⟩ := h
      exact ⟨_, _, h, .pt hi hb, by rw [run_indexAt_arr hu hs _ kd m hm w, Addr.add0]⟩
    | p hr =>
      cases hr with
      | fp hS hl h1 hc hh =>
        obtain ⟨m, rfl, hm, c, rfl, hcl, h⟩ := h
        exact ⟨_, _, h, .p (Rep.fp_sub hS hl h1 hc hh _ _), run_indexAt_arr hu hs _ kd m hm w⟩
      | _ => exact h.elim
    | _ => exact h.elim
  · rename_i e hk
    have hu := kd_slice hty hk
    rw [find_iff] at h
    obtain ⟨te, hte, h⟩ := h
    have hs : ∀ w : World, (sizeOf e).run P w = .ok te.size w := fun w => Vc.run_sizeOf (hT e te hte) w
    cases hd with
    | p hr =>
      cases hr with
      | nil ex _ _ _ _ =>
        obtain ⟨m, rfl, hm, _⟩ := h
        omega
      | sl hS hn hex hl h1 hc hh =>
        obtain ⟨m, rfl, hm, h0, c, rfl, hcl, h⟩ := h
        exact ⟨_, _, h, .p (Rep.fp_sub hS hl h1 hc hh _ _), run_indexAt_slice hu hs _ _ _ kd m hm w⟩
      | _ => exact h.elim
    | ob hi =>
      simp only at h
      rw [at_iff] at h
      obtain ⟨ob, hi', h⟩ := h
      split at h
      · rename_i e' sz n0 ex cs
        rw [cond_false_iff] at h
        obtain ⟨hsz, m, rfl, hm, h⟩ := h
        have hsz : sz = te.size := Nat.eq_of_beq_eq_true hsz
        obtain ⟨xs, hrow, _⟩ := hW.objs _ _ hi'
        rcases hrow.2 with ⟨_, rfl⟩ | ⟨g, cap, cur, hx, _⟩
        · omega
        · refine ⟨_, _, h, .pt hi (by rw [hx]; rfl), ?_⟩
          rw [hx, run_indexAt_slice hu hs _ n0 cap kd m hm w, Addr.add0, Nat.zero_add, hsz]
      · rename_i e' sz n0 cs hole
        rw [cond_false_iff] at h
        obtain ⟨hsz, m, rfl, hm, h⟩ := h
        have hsz : sz = te.size := Nat.eq_of_beq_eq_true hsz
        obtain ⟨xs, hrow, _⟩ := hW.objs _ _ hi'
        rcases hrow.2 with ⟨_, rfl⟩ | ⟨g, cap, cur, hx, _⟩
        · omega
        · refine ⟨_, _, h, .pt hi (by rw [hx]; rfl), ?_⟩
          rw [hx, run_indexAt_slice hu hs _ n0 cap kd m hm w, Addr.add0, Nat.zero_add, hsz]
      · exact h.elim
    | _ => exact h.elim
  · exact h.elim

theorem part_spec {t : TypeId} {te : Ty} (hte : TyOk P t te) {cs : List Value} {o : Nat} {v : Value} (_ : ((cs.drop o).take te.size).length = te.size)
    (hv : (isAggK te.kd = true ∧ v = .agg ((cs.drop o).take te.size).toArray) ∨ (isAggK te.kd = false ∧ (cs.drop o).take te.size = [v])) (w : World) :
    (part t cs.toArray o).run P w = .ok v w := by
  have hx : (cs.toArray.extract o (o + te.size)) = ((cs.drop o).take te.size).toArray := by
    apply Array.ext'
    simp [Array.toList_extract]
  rcases hv with ⟨ha, rfl⟩ | ⟨ha, hx1⟩
  · simp only [part, Sem.run_bind, run_isAgg hte, ha, Result.andThen_ok, if_true, Vc.run_sizeOf hte, hx, Sem.run_pure]
  · have h0 : cs.toArray[o]? = some v := by
      have h1 := congrArg (·[0]?) hx1
      simp only [List.getElem?_take, List.getElem?_drop, Nat.add_zero] at h1
      split at h1
      · simpa using h1
      · simp at h1
    simp only [part, Sem.run_bind, run_isAgg hte, ha, Result.andThen_ok, Bool.false_eq_true, if_false, h0, Sem.run_pure]

theorem vcField_spec (hT : TabOk P T) {t f : Nat} {x : SV} {k : SV → Prop} (h : vcField T t f x k) {vx : Value} (hd : Den ρ n w S x vx) : ∃ sv v, k sv ∧ Den ρ n w S sv v ∧ (Instr.field t vx f).run P w = .ok v w := by
  unfold vcField at h
  rw [find_iff] at h
  obtain ⟨ty, ht, h⟩ := h
  split at h
  · rename_i fs fl hk
    split at h
    · rename_i o e m _ hdr
      have hf := drop_head hdr
      rw [find_iff] at h
      obtain ⟨te, hte, h⟩ := h
      obtain ⟨fields, hu, hm, hz⟩ := kd_struct (hT _ _ ht) hk
      have hlen : f < fields.size := by
        have h1 := (List.getElem?_eq_some_iff.1 hf).1
        rw [← hm] at h1
        simpa using h1
      have hff : fields[f]? = some fields[f] := by simp [hlen]
      have hfo : (fields[f].offset, fields[f].type, P.cellsOf fields[f].type) = (o, e, m) := by
        rw [← hm] at hf
        simpa [hlen] using hf
      simp only [Prod.mk.injEq] at hfo
      have run : ∀ (xs : List Value) (v : Value), ((xs.drop o).take te.size).length = te.size → ((isAggK te.kd = true ∧ v = .agg ((xs.drop o).take te.size).toArray) ∨ (isAggK te.kd = false ∧ (xs.drop o).take te.size = [v])) → (Instr.field t (.agg xs.toArray) f).run P w = .ok v w := by
        intro xs v h1 h2
        simp only [Instr.field, Sem.run_bind, run_underlying hu, Result.andThen_ok, hff, hfo.1, hfo.2.1, asAgg, Sem.run_pure, part_spec (hT _ _ hte) h1 h2 w]
      cases hd with
      | p hr =>
        cases hr with
        | agg hl h1 hh =>
          simp only [fL_iff, cond_false_iff, len_eq] at h
          have hr := repL_take (repL_drop (w := w) (S := S) ⟨hl, hh⟩ o) te.size
          obtain ⟨sv, v, hk, hden, hv⟩ := ofCellsP_spec (ρ := ρ) (n := n) h.2 hr (Ones.sub h1 o _)
          exact ⟨sv, v, hk, hden, run _ v (by rw [← hr.1]; exact Nat.eq_of_beq_eq_true h.1) hv⟩
        | _ => exact h.elim
      | ag hl h1 hh =>
        simp only [fL_iff, cond_false_iff, len_eq] at h
        have hr := denL_take (denL_drop (⟨hl, hh⟩ : DenL ρ n w S _ _) o) te.size
        obtain ⟨sv, v, hk, hden, hv⟩ := ofCellsS_spec h.2 hr (Ones.sub h1 o _)
        exact ⟨sv, v, hk, hden, run _ v (by rw [← hr.1]; exact Nat.eq_of_beq_eq_true h.1) hv⟩
      | _ => exact h.elim
    · exact h.elim
  · exact h.elim

theorem vcIndex_spec (hT : TabOk P T) {t : Nat} {x : PV} {j : Int} (kd : IntKind) {k : SV → Prop} (h : vcIndex T t x j k) {vx : Value} (hr : Rep w S x vx) : ∃ sv v, k sv ∧ Den ρ n w S sv v ∧ (Instr.index t vx (.int kd j)).run P w = .ok v w := by
  unfold vcIndex at h
  cases hr with
  | agg hl h1 hh =>
    simp only [find_iff] at h
    obtain ⟨ty, ht, h⟩ := h
    split at h
    · rename_i n' e esz fl hk
      obtain ⟨te, hte, m, rfl, hm, l, hll, hn, h⟩ := h
      obtain ⟨hu, hs⟩ := kd_arr (hT _ _ ht) hk
      have hr := repL_take (repL_drop (w := w) (S := S) ⟨hl, hh⟩ (m * esz)) te.size
      rw [hll] at hr
      obtain ⟨sv, v, hk, hden, hv⟩ := ofCellsP_spec (ρ := ρ) (n := n) h hr (Ones.sub h1 _ _)
      refine ⟨sv, v, hk, hden, ?_⟩
      have h1 : (0 : Int) ≤ (m : Int) ∧ (m : Int) < (n' : Int) := ⟨by omega, by omega⟩
      simp only [Instr.index, asIntOf, Sem.run_bind, Sem.run_pure, Result.andThen_ok, run_underlying hu, h1, and_self, if_true, hs, Int.toNat_natCast, part_spec (hT _ _ hte) (by rw [← hr.1]; exact hn) hv w]
    · exact h.elim
  | _ => exact h.elim

theorem vcLen_spec (hT : TabOk P T) (hW : SatW w0 S0 obs ρ S w) (hn' : ∀ i, i < obs.length → n i) {t : Nat} {x : SV} {kk : SV → Prop} (h : vcLen T t x obs kk) {vx : Value} (hd : Den ρ n w S x vx) (ty : TypeId) :
    ∃ v, kk (.p (.v v)) ∧ (Builtin.len_ #[t] ty #[vx]).run P w = .ok v w := by
  unfold vcLen at h
  rw [find_iff] at h
  obtain ⟨tt, ht, h⟩ := h
  have hty := hT t tt ht
  split at h
  · rename_i e hk
    have hu := kd_slice hty hk
    cases hd with
    | p hr =>
      cases hr with
      | nil ex _ _ _ _ => exact ⟨_, h, by simp [Builtin.len_, run_underlying hu, goInt]⟩
      | sl hS hn hex hl h1 hc hh => exact ⟨_, h, by simp [Builtin.len_, run_underlying hu, goInt]⟩
      | _ => exact h.elim
    | nil => exact ⟨_, h, by simp [Builtin.len_, run_underlying hu, goInt]⟩
    | ob hi =>
      simp only at h
      rw [at_iff] at h
      obtain ⟨ob, hi', h⟩ := h
      split at h
      · obtain ⟨xs, hrow, _⟩ := hW.objs _ _ hi'
        rcases hrow.2 with ⟨h1, rfl⟩ | ⟨g, cap, cur, h1, _⟩
        · exact ⟨_, h, by rw [h1]; simp [Builtin.len_, run_underlying hu, goInt]⟩
        · exact ⟨_, h, by rw [h1]; simp [Builtin.len_, run_underlying hu, goInt]⟩
      · obtain ⟨xs, hrow, _⟩ := hW.objs _ _ hi'
        rcases hrow.2 with ⟨h1, rfl⟩ | ⟨g, cap, cur, h1, _⟩
        · exact ⟨_, h, by rw [h1]; simp [Builtin.len_, run_underlying hu, goInt]⟩
        · exact ⟨_, h, by rw [h1]; simp [Builtin.len_, run_underlying hu, goInt]⟩
      · exact h.elim
    | _ => exact h.elim
  · rename_i n0 e z fl hk
    obtain ⟨hu, _⟩ := kd_arr hty hk
    exact ⟨_, h, by simp [Builtin.len_, run_underlying hu, goInt]⟩
  · exact h.elim

theorem maxL_spec : ∀ (l : List SV) (xs : List Value) (x : Int) {kk : Int → Prop}, DenL ρ n w S l xs → maxL x l kk → ∃ m, kk m ∧ (xs.foldlM Builtin.max2 (.int .i64 x)).run P w = .ok (.int .i64 m) w
  | [], xs, x, kk, hd, h => by
    have : xs = [] := List.eq_nil_of_length_eq_zero (by simpa using hd.1.symm)
    subst this
    exact ⟨x, h, by simp⟩
  | s :: r, xs, x, kk, hd, h => by
    obtain ⟨v, rs, rfl, h1, h2⟩ := denL_uncons hd
    simp only [maxL] at h
    split at h
    · cases h1 with
      | p hr =>
        cases hr
        obtain ⟨m, hk, hr⟩ := maxL_spec r rs _ h2 h
        exact ⟨m, hk, by simp only [List.foldlM_cons, Builtin.max2, Sem.run_bind, Sem.run_pure, Result.andThen_ok]; exact hr⟩
    · exact h.elim

theorem vcMax_spec {l : List SV} {xs : List Value} {kk : SV → Prop} (hd : DenL ρ n w S l xs) (h : vcMax l kk) (ts : Array TypeId) (ty : TypeId) : ∃ v, kk (.p (.v v)) ∧ (Builtin.max_ ts ty xs.toArray).run P w = .ok v w := by
  unfold vcMax at h
  split at h
  · rename_i x r
    obtain ⟨v, rs, rfl, h1, h2⟩ := denL_uncons hd
    cases h1 with
    | p hr =>
      cases hr
      obtain ⟨m, hk, hr⟩ := maxL_spec (P := P) r rs x h2 h
      exact ⟨_, hk, by simp only [Builtin.max_]; exact hr⟩
  · exact h.elim

theorem spl_eq (cs : List Value) (o : Nat) (xs : List Value) : spl cs o xs = splice cs o xs := rfl

theorem spl_den {cs l : List SV} {xs ys : List Value} (h : DenL ρ n w S cs xs) (h' : DenL ρ n w S l ys) (o : Nat) : DenL ρ n w S (spl cs o l) (splice xs o ys) := by
  unfold spl splice
  rw [h'.1]
  exact denL_app (denL_app (denL_take h _) h') (denL_drop h _)

theorem spl_rep {cs l : List PV} {xs ys : List Value} (h : RepL (Rep w S) cs xs) (h' : RepL (Rep w S) l ys) (o : Nat) : RepL (Rep w S) (spl cs o l) (splice xs o ys) := by
  unfold spl splice
  rw [h'.1]
  exact repL_app (repL_app (repL_take h _) h') (repL_drop h _)

theorem Ones.splice {xs ys : List Value} (h : Ones xs) (h' : Ones ys) (o : Nat) : Ones (splice xs o ys) := by
  intro x hx
  unfold Vc.splice at hx
  simp only [List.mem_append] at hx
  rcases hx with (hx | hx) | hx
  · exact h x (List.mem_of_mem_take hx)
  · exact h' x hx
  · exact h x (List.mem_of_mem_drop hx)

theorem putS_spec (hρ : ∀ i, n i → Plain (ρ i)) {pl : List (Nat × Nat)} : ∀ {ps : List (Nat × SV)} {vs : List (Nat × Value)} {cs : List SV} {xs : List Value} {k : List SV → Prop}, putS cs pl ps k → DenPs ρ n w S ps vs → DenL ρ n w S cs xs → Ones xs →
    ∃ l ys, k l ∧ DenL ρ n w S l ys ∧ Ones ys ∧ putParts xs pl vs (fun z => z = ys)
  | [], [], cs, xs, k, h, _, hd, h1 => ⟨cs, xs, h, hd, h1, rfl⟩
  | [], _ :: _, _, _, _, _, h, _, _ => h.elim
  | _ :: _, [], _, _, _, _, h, _, _ => h.elim
  | (i, y) :: r, (j, v) :: s, cs, xs, k, h, hp, hd, h1 => by
    obtain ⟨rfl, hdy, hp⟩ := hp
    simp only [putS] at h
    split at h
    · rename_i o m _ hdr
      obtain ⟨l, h, hl, ho, hnt⟩ := cellsS_spec hρ hdy h
      rw [cond_false_iff, fL_iff, Bool.and_eq_true, len_eq, len_eq, Nat.ble_eq] at h
      obtain ⟨⟨h2, h3⟩, h⟩ := h
      obtain ⟨l', ys, hk, hd', ho', hpp⟩ := putS_spec hρ h hp (spl_den hd hl o) (Ones.splice h1 ho o)
      refine ⟨l', ys, hk, hd', ho', ?_⟩
      simp only [putParts, hdr]
      rw [cellsOf_iff]
      refine ⟨hnt, ?_⟩
      rw [cond_false_iff, fL_iff, Bool.and_eq_true, len_eq, len_eq, Nat.ble_eq, ← hl.1, ← hd.1]
      exact ⟨⟨h2, h3⟩, hpp⟩
    · exact h.elim

theorem rowParts_spec {pl : List (Nat × Nat)} : ∀ {ps : List (Nat × SV)} {vs : List (Nat × Value)} {cs : List PV} {xs : List Value} {k : List PV → Prop}, rowParts cs pl ps k → DenPs ρ n w S ps vs → RepL (Rep w S) cs xs → Ones xs →
    ∃ l ys, k l ∧ RepL (Rep w S) l ys ∧ Ones ys ∧ putParts xs pl vs (fun z => z = ys)
  | [], [], cs, xs, k, h, _, hd, h1 => ⟨cs, xs, h, hd, h1, rfl⟩
  | [], _ :: _, _, _, _, _, h, _, _ => h.elim
  | _ :: _, [], _, _, _, _, h, _, _ => h.elim
  | (i, y) :: r, (j, v) :: s, cs, xs, k, h, hp, hd, h1 => by
    obtain ⟨rfl, hdy, hp⟩ := hp
    simp only [rowParts] at h
    split at h
    · rename_i o m _ hdr
      obtain ⟨y', h, hr⟩ := toP_spec hdy h
      obtain ⟨l, h, hl, ho, hnt⟩ := cellsP_spec hr h
      rw [cond_false_iff, fL_iff, Bool.and_eq_true, len_eq, len_eq, Nat.ble_eq] at h
      obtain ⟨⟨h2, h3⟩, h⟩ := h
      obtain ⟨l', ys, hk, hd', ho', hpp⟩ := rowParts_spec h hp (spl_rep hd hl o) (Ones.splice h1 ho o)
      refine ⟨l', ys, hk, hd', ho', ?_⟩
      simp only [putParts, hdr]
      rw [cellsOf_iff]
      refine ⟨hnt, ?_⟩
      rw [cond_false_iff, fL_iff, Bool.and_eq_true, len_eq, len_eq, Nat.ble_eq, ← hl.1, ← hd.1]
      exact ⟨⟨h2, h3⟩, hpp⟩
    · exact h.elim

theorem zS_den (x : Value) : Den ρ n w S (zS x) x := by
  unfold zS
  split
  · exact .nil
  · exact .p (.v _)

theorem zP_rep (x : Value) : Rep w S (zP x) x := by
  unfold zP
  split
  · exact Rep.nil0 _
  · exact .v _

theorem mapZS_den (z : List Value) : DenL ρ n w S (mapZS z) z := by
  rw [mapZS_eq]
  refine ⟨by simp, fun j p x hp hx => ?_⟩
  rw [List.getElem?_map, hx] at hp
  cases hp
  exact zS_den x

theorem mapZ_rep (z : List Value) : RepL (Rep w S) (mapZ z) z := by
  rw [mapZ_eq]
  refine ⟨by simp, fun j p x hp hx => ?_⟩
  rw [List.getElem?_map, hx] at hp
  cases hp
  exact zP_rep x

end
end Go.Pv

/- What the operations do: writing. -/
set_option linter.unusedSimpArgs false
namespace Go.Pv
open Go.Vc
open Go.RowKit (Below)

section
variable {P : Program} {T : Tab} {N : Nat} {sl : Slots} {obs : Obs} {n : Nat → Prop} {ρ : Nat → Value} {S : Nat → Prop} {S0 : Fr} {a : Act} {w w0 : World}

theorem splice_take {cur cs : List Value} {o : Nat} {xs : List Value} (ht : cur.take cs.length = cs) (hfit : o + xs.length ≤ cs.length) : (splice cur o xs).take cs.length = splice cs o xs := by
  have hcl : cs.length ≤ cur.length := by
    have := congrArg List.length ht
    simp at this; omega
  have e1 : cs.take o = cur.take o := by
    rw [← ht, List.take_take, Nat.min_eq_left (by omega)]
  have hlen : (cur.take o ++ xs).length = o + xs.length := by simp; omega
  have e2 : cs.drop (o + xs.length) = (cur.drop (o + xs.length)).take (cs.length - (o + xs.length)) := by
    conv => lhs; rw [← ht, List.drop_take]
  unfold splice
  rw [e1, e2, List.take_append, List.take_of_length_le (l := cur.take o ++ xs) (by omega), hlen]

theorem row_write {e0 : TypeId} {sz m b : Nat} {ex : Bool} {xs' : List Value} {x : Value} (hrow : RowOk w e0 sz m xs' ex x) (hb : blk x = some b) {cur : Array Value} {e : TypeId} (hg : w.heap[b]? = some (.cells cur e (0, 0))) {o : Nat} {vs : List Value} (hfit : o + vs.length ≤ xs'.length) :
    RowOk (w.setRow b (splice cur.toList o vs).toArray) e0 sz m (splice xs' o vs) ex x := by
  have hh := setRow_heap w b cur (splice cur.toList o vs).toArray e (0, 0) hg
  obtain ⟨hl', hv⟩ := hrow
  rcases hv with ⟨hx, _⟩ | ⟨g, cap, cur', hx, hg', h2, h3, h4, h5, h6⟩
  · rw [hx] at hb; cases hb
  · rw [hx] at hb
    simp only [blk, Option.some.injEq] at hb
    subst hb
    rw [hg'] at hg
    simp only [Option.some.injEq, Obj.cells.injEq] at hg
    obtain ⟨rfl, rfl, _⟩ := hg
    have ht' : cur'.toList.take xs'.length = xs' := by rw [hl']; exact h5
    have hst' := splice_take (o := o) (xs := vs) ht' hfit
    have hsl : (splice xs' o vs).length = xs'.length := splice_length _ _ _ (by omega)
    refine ⟨by rw [hsl]; exact hl', .inr ⟨g, cap, _, hx, hh, h2, h3, ?_, ?_, h6⟩⟩
    · have hcl : xs'.length ≤ cur'.size := by
        have := congrArg List.length ht'
        simp at this
        omega
      rw [List.size_toArray, splice_length _ _ _ (by simp only [Array.length_toList]; omega)]; simpa using h4
    · rw [← hl']; exact hst'

/-- Cells written into an object. -/
theorem write_ob {i : Nat} {ob : Ob} (hW : SatW w0 S0 obs ρ S w) (hi : obs[i]? = some ob) (hl : ob.live = true) {b : Nat} (hb : blk (ρ i) = some b) {t : TypeId} {ty : Ty} (hty : TyOk P t ty) {o : Nat} {v : Value}
    (hn : v.cells.toList.length = ty.size) (h1 : Ones v.cells.toList) {ob' : Ob}
    (hob : match ob, ob' with
      | .box t cs, .box t' cs' => t' = t ∧ o + ty.size ≤ cs.length ∧ ∃ l, cs' = spl cs o l ∧ DenL ρ (Lt obs.length) w S l v.cells.toList
      | .arr t cs, .arr t' cs' => t' = t ∧ o + ty.size ≤ cs.length ∧ ∃ l, cs' = spl cs o l ∧ RepL (Rep w S) l v.cells.toList
      | .row e sz m ex cs, .row e' sz' m' ex' cs' => e' = e ∧ sz' = sz ∧ m' = m ∧ ex' = ex ∧ o + ty.size ≤ cs.length ∧ ∃ l, cs' = spl cs o l ∧ RepL (Rep w S) l v.cells.toList
      | _, _ => False) :
    ∃ w', (Instr.storeAt t (.pointer (some ⟨b, o, none⟩)) v).run P w = .ok () w' ∧ SatW w0 S0 (obs.set i ob') ρ S w' ∧ Keeps S w w' ∧ Ch b w w' := by
  have hoi := hW.objs i ob hi
  obtain ⟨cur, e, xs, hg, hle, ht, hx1, hd⟩ := hoi.cells hl hb
  have hlen : (match ob with | .box _ cs => cs.length | .arr _ cs => cs.length | .row _ _ _ _ cs => cs.length | .nest _ _ _ cs _ => cs.length | .dead => 0) = xs.length := by
    cases ob <;> first | exact hd.1 | exact hd.2.1 | cases hl
  have hfit : o + ty.size ≤ xs.length := by
    cases ob <;> cases ob' <;> simp only at hob hlen <;> first | exact hob.elim | (rw [← hlen]; exact hob.2.1) | (rw [← hlen]; exact hob.2.2.2.2.1)
  have hrun := run_storeVar hty w b o e cur hg v hn h1 (by omega)
  have hch := Ch_setRow w b (splice cur.toList o v.cells.toList).toArray
  have hh := setRow_heap w b cur (splice cur.toList o v.cells.toList).toArray e (0, 0) hg
  have hst := splice_take (o := o) (xs := v.cells.toList) ht (by omega)
  have hk : Keeps S w (w.setRow b (splice cur.toList o v.cells.toList).toArray) := fun b' hb' => hch.block b' (hW.lt b' hb') fun e' => by subst e'; exact (hW.own i ob b' hi hl (.inl hb)).2 hb'
  have hflat : flatOb ob = true ∧ flatOb ob' = true := by
    cases ob <;> cases ob' <;> simp only at hob <;> first | exact hob.elim | exact ⟨rfl, rfl⟩
  refine ⟨_, by simp [Instr.storeAt, Instr.sureAddr, hrun], hW.store hi hl (.inl hb) hch ?_ (fun b' _ hb' => .inl (hb'.flat hflat.2)), hk, hch⟩
  cases ob with
  | box t0 cs =>
    cases ob' <;> simp only at hob <;> first | exact hob.elim | skip
    obtain ⟨rfl, _, l, rfl, hdl⟩ := hob
    obtain ⟨b', xs', hx, hb', hd', hx1'⟩ := hoi
    rw [hx] at hb
    simp only [blk, Option.some.injEq] at hb
    subst hb
    rw [hb'] at hg
    simp only [Option.some.injEq, Obj.cells.injEq] at hg
    obtain ⟨rfl, rfl, _⟩ := hg
    refine ⟨b', splice xs' o v.cells.toList, hx, hh, ?_, Ones.splice hx1' h1 o⟩
    exact (spl_den hd' hdl o).mono hk (fun _ h => h) (fun _ h => h) (fun _ _ => rfl)
  | arr t0 cs =>
    cases ob' <;> simp only at hob <;> first | exact hob.elim | skip
    obtain ⟨rfl, _, l, rfl, hdl⟩ := hob
    obtain ⟨b', xs', hx, hb', hd', hx1'⟩ := hoi
    rw [hx] at hb
    simp only [blk, Option.some.injEq] at hb
    subst hb
    rw [hb'] at hg
    simp only [Option.some.injEq, Obj.cells.injEq] at hg
    obtain ⟨rfl, rfl, _⟩ := hg
    exact ⟨b', splice xs' o v.cells.toList, hx, hh, (spl_rep hd' hdl o).mono hk (fun _ h => h), Ones.splice hx1' h1 o⟩
  | row e0 sz m ex cs =>
    cases ob' <;> simp only at hob <;> first | exact hob.elim | skip
    obtain ⟨rfl, rfl, rfl, rfl, _, l, rfl, hdl⟩ := hob
    obtain ⟨xs', hrow, hd', hx1'⟩ := hoi
    have hxl : xs'.length = xs.length := by rw [← hd'.1, ← hd.1]
    exact ⟨splice xs' o v.cells.toList, row_write hrow hb hg (by omega), (spl_rep hd' hdl o).mono hk (fun _ h => h), Ones.splice hx1' h1 o⟩
  | nest e0 sz m cs hole => exact hob.elim
  | dead => cases hl

theorem splice_get {xs vs : List Value} {o j : Nat} {u : Value} (hfit : o + vs.length ≤ xs.length) (h : (splice xs o vs)[j]? = some u) : ((j < o ∨ o + vs.length ≤ j) ∧ xs[j]? = some u) ∨ (o ≤ j ∧ j < o + vs.length ∧ vs[j - o]? = some u) := by
  unfold splice at h
  have hl : (xs.take o).length = o := by simp; omega
  rw [List.append_assoc, List.getElem?_append, hl] at h
  split at h
  · rename_i hj
    rw [List.getElem?_take, if_pos hj] at h
    exact .inl ⟨.inl hj, h⟩
  · rename_i hj
    rw [List.getElem?_append] at h
    split at h
    · exact .inr ⟨by omega, by omega, h⟩
    · rename_i hj2
      rw [List.getElem?_drop] at h
      refine .inl ⟨.inr (by omega), ?_⟩
      rw [← h]; congr 1; omega

theorem spl_get {α : Type} {xs vs : List α} {o j : Nat} {u : α} (hfit : o + vs.length ≤ xs.length) (h : (spl xs o vs)[j]? = some u) : ((j < o ∨ o + vs.length ≤ j) ∧ xs[j]? = some u) ∨ (o ≤ j ∧ j < o + vs.length ∧ vs[j - o]? = some u) := by
  unfold spl at h
  have hl : (xs.take o).length = o := by simp; omega
  rw [List.append_assoc, List.getElem?_append, hl] at h
  split at h
  · rename_i hj
    rw [List.getElem?_take, if_pos hj] at h
    exact .inl ⟨.inl hj, h⟩
  · rename_i hj
    rw [List.getElem?_append] at h
    split at h
    · exact .inr ⟨by omega, by omega, h⟩
    · rename_i hj2
      rw [List.getElem?_drop] at h
      refine .inl ⟨.inr (by omega), ?_⟩
      rw [← h]; congr 1; omega

theorem spl_length {α : Type} {xs vs : List α} {o : Nat} (hfit : o + vs.length ≤ xs.length) : (spl xs o vs).length = xs.length := by
  simp [spl]; omega

/-- Cells written into a row of rows. -/
theorem write_nest {i : Nat} {e0 : TypeId} {sz m : Nat} {cs : List NC} {hole : Option (Nat × SV)} (hW : SatW w0 S0 obs ρ S w) (hi : obs[i]? = some (.nest e0 sz m cs hole)) {b : Nat} (hb : blk (ρ i) = some b) {t : TypeId} {ty : Ty} (hty : TyOk P t ty) {o : Nat} {v : Value}
    (hn : v.cells.toList.length = ty.size) (h1 : Ones v.cells.toList) (hfit : o + ty.size ≤ cs.length) {cs' : List NC} {hole' : Option (Nat × SV)} (hlen : cs'.length = cs.length)
    (hcell : ∀ j c u, cs'[j]? = some c → Off hole' j → ((j < o ∨ o + ty.size ≤ j) ∧ cs[j]? = some c ∧ Off hole j) ∨ (o ≤ j ∧ j < o + ty.size ∧ (v.cells.toList[j - o]? = some u → ∃ p, c = .pu p ∧ Rep w S p u)))
    (hhole : ∀ p y, hole' = some (p, y) → ((p < o ∨ o + ty.size ≤ p) ∧ hole = some (p, y)) ∨ (o ≤ p ∧ p < o + ty.size ∧ ∀ u, v.cells.toList[p - o]? = some u → Den ρ (Lt obs.length) w S y u)) :
    ∃ w', (Instr.storeAt t (.pointer (some ⟨b, o, none⟩)) v).run P w = .ok () w' ∧ SatW w0 S0 (obs.set i (.nest e0 sz m cs' hole')) ρ S w' ∧ Keeps S w w' := by
  have hoi := hW.objs i _ hi
  obtain ⟨cur, e, xs, hg, hle, ht, hx1, _⟩ := hoi.cells rfl hb
  obtain ⟨xs', hrow, hl1, hx1', h3, h4, h5, h6⟩ := hoi
  have hxl : xs'.length = cs.length := hl1.symm
  have hcur : xs'.length ≤ cur.size := by
    rcases hrow.2 with ⟨hx, _⟩ | ⟨g, cap, cur', hx, hg', h2, _, h4', h5', _⟩
    · rw [hx] at hb; cases hb
    · rw [hx] at hb
      simp only [blk, Option.some.injEq] at hb
      subst hb
      rw [hg'] at hg
      simp only [Option.some.injEq, Obj.cells.injEq] at hg
      obtain ⟨rfl, rfl, _⟩ := hg
      rw [hrow.1, h4']
      exact Nat.mul_le_mul_right _ h2
  have hrun := run_storeVar hty w b o e cur hg v hn h1 (by omega)
  have hch := Ch_setRow w b (splice cur.toList o v.cells.toList).toArray
  have hk : Keeps S w (w.setRow b (splice cur.toList o v.cells.toList).toArray) := fun b' hb' => hch.block b' (hW.lt b' hb') fun e' => by subst e'; exact (hW.own i _ b' hi rfl (.inl hb)).2 hb'
  have hrow' := row_write hrow hb hg (o := o) (vs := v.cells.toList) (by omega)
  have hsl : (splice xs' o v.cells.toList).length = xs'.length := splice_length _ _ _ (by omega)
  -- what is an own row behind the store was one ahead of it
  have old : ∀ j b', Inn cs' hole' (splice xs' o v.cells.toList) j b' → Inn cs hole xs' j b' := by
    rintro j b' ⟨c, u, hc, how, hoff, hu, hbl⟩
    rcases splice_get (by omega) hu with ⟨hj, hu'⟩ | ⟨hj1, hj2, hu'⟩
    · rcases hcell j c u hc hoff with ⟨_, h7, h8⟩ | ⟨h7, h8, _⟩
      · exact ⟨c, u, h7, how, h8, hu', hbl⟩
      · omega
    · rcases hcell j c u hc hoff with ⟨h7, _⟩ | ⟨_, _, h8⟩
      · omega
      · obtain ⟨p, rfl, _⟩ := h8 hu'
        cases how
  have hne : ∀ j b', Inn cs hole xs' j b' → (w.setRow b (splice cur.toList o v.cells.toList).toArray).heap[b']? = w.heap[b']? := by
    intro j b' hin
    refine hch.block b' (hW.owned hi rfl (.inr ⟨_, _, _, _, _, xs', j, rfl, hrow, hin⟩)) fun e' => ?_
    subst e'
    exact h6 j b' hin hb
  refine ⟨_, by simp [Instr.storeAt, Instr.sureAddr, hrun], hW.store hi rfl (.inl hb) hch ?_ ?_, hk⟩
  · refine ⟨_, hrow', by rw [hsl, hlen, hl1], Ones.splice hx1' h1 o, fun j c u hc hu hoff => ?_, fun p y hp => ?_, fun j j' b' hj hj' => h5 j j' b' (old j b' hj) (old j' b' hj'), fun j b' hj => h6 j b' (old j b' hj)⟩
    · rcases splice_get (by omega) hu with ⟨hj, hu'⟩ | ⟨hj1, hj2, hu'⟩
      · rcases hcell j c u hc hoff with ⟨_, h7, h8⟩ | ⟨h7, h8, _⟩
        · exact (h3 j c u h7 hu' h8).mono (fun g how hg => hne j g ⟨c, u, h7, how, h8, hu', hg⟩) hk (fun _ h => h)
        · omega
      · rcases hcell j c u hc hoff with ⟨h7, _⟩ | ⟨_, _, h8⟩
        · omega
        · obtain ⟨p, rfl, hr⟩ := h8 hu'
          exact Rep.mono hk (fun _ h => h) hr
    · have hplt : p < cs.length := by
        rcases hhole p y hp with ⟨_, h7⟩ | ⟨h7, h8, _⟩
        · obtain ⟨v', hv', _⟩ := h4 p y h7
          have := (List.getElem?_eq_some_iff.1 hv').1
          omega
        · omega
      have hu : (splice xs' o v.cells.toList)[p]? = some ((splice xs' o v.cells.toList)[p]'(by omega)) := List.getElem?_eq_getElem (by omega)
      refine ⟨_, hu, ?_⟩
      rcases splice_get (by omega) hu with ⟨hj, hu'⟩ | ⟨hj1, hj2, hu'⟩
      · rcases hhole p y hp with ⟨_, h7⟩ | ⟨h7, h8, _⟩
        · obtain ⟨v', hv', hd⟩ := h4 p y h7
          rw [hu'] at hv'
          cases hv'
          exact hd.mono hk (fun _ h => h) (fun _ h => h) (fun _ _ => rfl)
        · omega
      · rcases hhole p y hp with ⟨h7, _⟩ | ⟨_, _, h8⟩
        · omega
        · exact (h8 _ hu').mono hk (fun _ h => h) (fun _ h => h) (fun _ _ => rfl)
  · rintro b' _ (hb' | ⟨e1, sz1, m1, cs1, hole1, xs1, j, he, hr1, hin⟩)
    · exact .inl hb'
    · cases he
      have := hr1.uniq hrow'
      subst this
      exact .inr ⟨_, _, _, _, _, xs', j, rfl, hrow, old j b' hin⟩

theorem mapNC_get {l : List PV} {j : Nat} {c : NC} (h : (mapNC l)[j]? = some c) : ∃ p, l[j]? = some p ∧ c = .pu (weak p) := by
  induction l generalizing j with
  | nil => simp [mapNC] at h
  | cons x r ih =>
    cases j with
    | zero => simp [mapNC] at h; exact ⟨x, by simp, h.symm⟩
    | succ j => simp [mapNC] at h; simpa using ih h

theorem mapNC_length (l : List PV) : (mapNC l).length = l.length := by induction l <;> simp_all [mapNC]

theorem storeOb_spec (hW : SatW w0 S0 obs ρ S w) {i o b : Nat} {t : TypeId} {ty : Ty} (hty : TyOk P t ty) {y : SV} {kk : Obs → Prop} (h : storeOb obs i o ty.size y kk) (hb : blk (ρ i) = some b) {vy : Value} (hd : Den ρ (Lt obs.length) w S y vy) :
    ∃ obs' w', kk obs' ∧ (Instr.storeAt t (.pointer (some ⟨b, o, none⟩)) vy).run P w = .ok () w' ∧ SatW w0 S0 obs' ρ S w' ∧ obs'.length = obs.length ∧ Keeps S w w' := by
  unfold storeOb at h
  rw [at_iff] at h
  obtain ⟨ob, hi, h⟩ := h
  cases ob with
  | box t0 cs =>
    simp only at h
    obtain ⟨l, h, hdl, h1, _⟩ := cellsS_spec (fun i hi => hW.plain i hi) hd h
    rw [cond_false_iff, Bool.and_eq_true, len_eq, len_eq, Nat.ble_eq, fL_iff, upd_iff] at h
    obtain ⟨⟨hn, hfit⟩, hlt, h⟩ := h
    have hn : l.length = ty.size := Nat.eq_of_beq_eq_true hn
    obtain ⟨w', h2, h3, h4, _⟩ := write_ob hW hi rfl hb hty (by rw [← hdl.1]; exact hn) h1 (ob' := .box t0 (spl cs o l)) (show _ ∧ _ ∧ _ from ⟨rfl, hfit, l, rfl, hdl⟩)
    exact ⟨_, w', h, h2, h3, by simp, h4⟩
  | arr t0 cs =>
    simp only at h
    obtain ⟨y', h, hr⟩ := toP_spec hd h
    obtain ⟨l, h, hdl, h1, _⟩ := cellsP_spec hr h
    rw [cond_false_iff, len_eq, upd_iff] at h
    obtain ⟨hn, hfit, hlt, h⟩ := h
    have hn : l.length = ty.size := Nat.eq_of_beq_eq_true hn
    obtain ⟨w', h2, h3, h4, _⟩ := write_ob hW hi rfl hb hty (by rw [← hdl.1]; exact hn) h1 (ob' := .arr t0 (spl cs o l)) (show _ ∧ _ ∧ _ from ⟨rfl, hfit, l, rfl, hdl⟩)
    exact ⟨_, w', h, h2, h3, by simp, h4⟩
  | row e sz m ex cs =>
    simp only at h
    obtain ⟨y', h, hr⟩ := toP_spec hd h
    obtain ⟨l, h, hdl, h1, _⟩ := cellsP_spec hr h
    rw [cond_false_iff, len_eq, upd_iff] at h
    obtain ⟨hn, hfit, hlt, h⟩ := h
    have hn : l.length = ty.size := Nat.eq_of_beq_eq_true hn
    obtain ⟨w', h2, h3, h4, _⟩ := write_ob hW hi rfl hb hty (by rw [← hdl.1]; exact hn) h1 (ob' := .row e sz m ex (spl cs o l)) (show _ ∧ _ ∧ _ ∧ _ ∧ _ ∧ _ from ⟨rfl, rfl, rfl, rfl, hfit, l, rfl, hdl⟩)
    exact ⟨_, w', h, h2, h3, by simp, h4⟩
  | nest e sz m cs hole =>
    simp only at h
    obtain ⟨l, h, hdl, h1, _⟩ := cellsS_spec (fun i hi => hW.plain i hi) hd h
    rw [cond_false_iff, len_eq] at h
    obtain ⟨hn, hfit, h⟩ := h
    have hn : l.length = ty.size := Nat.eq_of_beq_eq_true hn
    have hn' : vy.cells.toList.length = ty.size := by rw [← hdl.1]; exact hn
    unfold storeN at h
    cases hp : pures l with
    | some lp =>
      simp only [hp] at h
      obtain ⟨hoff, h⟩ := h
      rw [upd_iff] at h
      have hrp := pures_spec hp hdl
      have hml : (mapNC lp).length = ty.size := by rw [mapNC_length, hrp.1]; exact hn'
      obtain ⟨w', h2, h3, h4⟩ := write_nest hW hi hb hty hn' h1 hfit (cs' := spl cs o (mapNC lp)) (hole' := hole) (spl_length (by omega)) (by
        intro j c u hc ho
        rcases spl_get (by omega) hc with ⟨h5, h6⟩ | ⟨h5, h6, h7⟩
        · exact .inl ⟨by omega, h6, ho⟩
        · refine .inr ⟨h5, by omega, fun hu => ?_⟩
          obtain ⟨p, h8, rfl⟩ := mapNC_get h7
          exact ⟨_, rfl, weak_rep (hrp.2 _ p u h8 hu)⟩) (by
        intro p y hpy
        subst hpy
        exact .inl ⟨hoff, rfl⟩)
      exact ⟨_, w', h.2, h2, h3, by simp, h4⟩
    | none =>
      simp only [hp] at h
      split at h
      · rename_i _ _ _ j _
        obtain ⟨hat, h⟩ := h
        rw [upd_iff] at h
        have hs1 : ty.size = 1 := by rw [← hn]; rfl
        obtain ⟨w', h2, h3, h4⟩ := write_nest hW hi hb hty hn' h1 hfit (cs' := cs) (hole' := some (o, .ob j)) rfl (by
          intro q c u hc ho
          have hqo : q ≠ o := ho o _ rfl
          refine .inl ⟨by omega, hc, fun p y hpy => ?_⟩
          subst hpy
          have : p = o := hat
          omega) (by
          intro p y hpy
          cases hpy
          refine .inr ⟨Nat.le_refl _, by omega, fun u hu => ?_⟩
          rw [Nat.sub_self] at hu
          exact hdl.2 0 _ u rfl hu)
        exact ⟨_, w', h.2, h2, h3, by simp, h4⟩
      · exact h.elim
  | dead => exact h.elim

theorem vcStore_spec (hT : TabOk P T) (hW : SatW w0 S0 obs ρ S w) {t : TypeId} {x y : SV} {kk : Obs → Prop} (h : vcStore T t x y obs kk) {vx vy : Value} (hx : Den ρ (Lt obs.length) w S x vx) (hy : Den ρ (Lt obs.length) w S y vy) :
    ∃ obs' w', kk obs' ∧ (Instr.storeAt t vx vy).run P w = .ok () w' ∧ SatW w0 S0 obs' ρ S w' ∧ obs'.length = obs.length ∧ Keeps S w w' := by
  unfold vcStore at h
  rw [find_iff] at h
  obtain ⟨ty, ht, h⟩ := h
  have hty := hT t ty ht
  cases hx with
  | ob hi =>
    simp only at h
    rw [at_iff] at h
    obtain ⟨ob, hi', h⟩ := h
    rw [cond_false_iff] at h
    obtain ⟨hl, b, hx, hb⟩ := isVar_blk (hW.objs _ ob hi') h.1
    rw [hx]
    exact storeOb_spec hW hty h.2 hb hy
  | pt hi hb => exact storeOb_spec hW hty h hb hy
  | _ => exact h.elim

/-! ### Slices of slices -/

theorem optInt_spec (hA : SatA N sl n ρ S w a) {x : Option Operand} {d : Nat} {k : Nat → Prop} (h : optInt sl x d k) :
    ∃ m, k m ∧ ((x = none ∧ m = d) ∨ ∃ y, x = some y ∧ a.eval y = .int .i64 (m : Int)) := by
  cases x with
  | none => exact ⟨d, h, .inl ⟨rfl, rfl⟩⟩
  | some y =>
    obtain ⟨z, h, hr⟩ := evP_spec hA h
    split at h
    · have hr := hr.of_v
      obtain ⟨m, rfl, h⟩ := h
      exact ⟨m, h, .inr ⟨y, rfl, hr⟩⟩
    · exact h.elim

theorem run_sliceBound (m y : Nat) (h : m ≤ y) (c : BoundsCode) (w : World) : (Instr.sliceBound (.int .i64 (m : Int)) y c).run P w = .ok m w := by
  simp [Instr.sliceBound, asIntOf, h]

theorem run_slice {t e : TypeId} {te : Ty} (hu : P.underlying t = some (.slice e)) (hte : TyOk P e te) {lo hi mx : Option Value} {ad : Option Addr} {n c l h m : Nat} (h1 : m ≤ c) (h2 : h ≤ m) (h3 : l ≤ h)
    (hl : (lo = none ∧ l = 0) ∨ lo = some (.int .i64 (l : Int))) (hh : (hi = none ∧ h = n) ∨ hi = some (.int .i64 (h : Int))) (hm : (mx = none ∧ m = c) ∨ (mx = some (.int .i64 (m : Int)) ∧ hi ≠ none)) (w : World) :
    (Instr.sliceAt t (.slice ad n c) lo hi mx).run P w = .ok (.slice (if m = l then ad else ad.map (·.add (l * te.size))) (h - l) (m - l)) w := by
  have hs := Vc.run_sizeOf hte
  have hb : (Instr.sliceBounds true n c lo hi mx).run P w = .ok (l, h, m) w := by
    rcases hm with ⟨rfl, rfl⟩ | ⟨rfl, hne⟩ <;> rcases hh with ⟨rfl, rfl⟩ | rfl <;> rcases hl with ⟨rfl, rfl⟩ | rfl <;>
      first
        | exact absurd rfl hne
        | simp [Instr.sliceBounds, run_sliceBound, h1, h2, h3, *]
  simp only [Instr.sliceAt, Sem.run_bind, run_underlying hu, Result.andThen_ok]
  simp [Instr.slice, run_underlying hu, hb, hs]

theorem Rep.sl_sub {ex' : Bool} {l : List PV} {xs : List Value} {ad : Addr} (hS : S ad.block) (hl : l.length = xs.length) (h1 : Ones xs) (hc : ∀ (j : Nat) (x : Value), xs[j]? = some x → w.cell? (ad.add j) = some x) (hh : ∀ (j : Nat) (p : PV) (x : Value), l[j]? = some p → xs[j]? = some x → Rep w S p x)
    (p q m sz : Nat) (h2 : p ≤ q) (h3 : q ≤ m) (hex : ex' = true → m = q) : Rep w S (.sl ex' (q - p) ((l.drop (p * sz)).take ((q - p) * sz))) (.slice (if m = p then some ad else (some ad).map (·.add (p * sz))) (q - p) (m - p)) := by
  have hr := repL_take (repL_drop (w := w) (S := S) ⟨hl, hh⟩ (p * sz)) ((q - p) * sz)
  split
  · rename_i hmp
    have hqp : q - p = 0 := by omega
    rw [hqp, Nat.zero_mul, List.take_zero]
    refine .sl (xs := []) hS (by omega) (fun h => by have := hex h; omega) rfl (by simp) (by simp) (by simp)
  · refine .sl (xs := (xs.drop (p * sz)).take ((q - p) * sz)) (by simpa [addr_add_block] using hS) (by omega) (fun h => by have := hex h; omega) hr.1 (h1.sub _ _) (fun j x hj => ?_) hr.2
    rw [List.getElem?_take] at hj
    split at hj
    · rw [List.getElem?_drop] at hj
      rw [Addr.add_add]
      exact hc _ x hj
    · cases hj

theorem run_sliceArr {t e : TypeId} {n esz : Nat} (hu : P.underlying t = some (.array n e)) (hs : ∀ w : World, (sizeOf e).run P w = .ok esz w) {lo hi mx : Option Value} {ad : Addr} {l h m : Nat} (h1 : m ≤ n) (h2 : h ≤ m) (h3 : l ≤ h)
    (hl : (lo = none ∧ l = 0) ∨ lo = some (.int .i64 (l : Int))) (hh : (hi = none ∧ h = n) ∨ hi = some (.int .i64 (h : Int))) (hm : (mx = none ∧ m = n) ∨ (mx = some (.int .i64 (m : Int)) ∧ hi ≠ none)) (w : World) :
    (Instr.sliceAt t (.pointer (some ad)) lo hi mx).run P w = .ok (.slice (if m = l then some ad else (some ad).map (·.add (l * esz))) (h - l) (m - l)) w := by
  have hb : (Instr.sliceBounds false n n lo hi mx).run P w = .ok (l, h, m) w := by
    rcases hm with ⟨rfl, rfl⟩ | ⟨rfl, hne⟩ <;> rcases hh with ⟨rfl, rfl⟩ | rfl <;> rcases hl with ⟨rfl, rfl⟩ | rfl <;>
      first
        | exact absurd rfl hne
        | simp [Instr.sliceBounds, run_sliceBound, h1, h2, h3, *]
  simp only [Instr.sliceAt, Sem.run_bind, run_underlying hu, Result.andThen_ok, Instr.sureAddr, Sem.run_pure, hb, hs]
  congr 2
  split <;> rfl

theorem slice_main (hA : SatA N sl n ρ S w a) {t : Nat} {lo hi mx : Option Operand} {k : SV → Prop} (hmh : mx = none ∨ hi ≠ none) {vx : Value} {sz : Nat} {ad : Option Addr} {cap : Nat} (ex : Bool) (m0 : Nat) (l : List PV)
    (hrun : ∀ (l h m : Nat), m ≤ cap → h ≤ m → l ≤ h → ((lo.map a.eval = none ∧ l = 0) ∨ lo.map a.eval = some (.int .i64 (l : Int))) → ((hi.map a.eval = none ∧ h = m0) ∨ hi.map a.eval = some (.int .i64 (h : Int))) → ((mx.map a.eval = none ∧ m = cap) ∨ (mx.map a.eval = some (.int .i64 (m : Int)) ∧ hi.map a.eval ≠ none)) →
      (Instr.sliceAt t vx (lo.map a.eval) (hi.map a.eval) (mx.map a.eval)).run P w = .ok (.slice (if m = l then ad else ad.map (·.add (l * sz))) (h - l) (m - l)) w)
    (h : sliceP sl m0 sz ex l lo hi mx k) (hcap : m0 ≤ cap) (hex : ex = true → cap = m0)
    (hrep : ∀ (ex' : Bool) (p q m : Nat), p ≤ q → q ≤ m → m ≤ cap → q ≤ m0 → (ex' = true → m = q) → Rep w S (.sl ex' (q - p) ((l.drop (p * sz)).take ((q - p) * sz))) (.slice (if m = p then ad else ad.map (·.add (p * sz))) (q - p) (m - p))) :
    ∃ sv v, k sv ∧ Den ρ n w S sv v ∧ (Instr.sliceAt t vx (lo.map a.eval) (hi.map a.eval) (mx.map a.eval)).run P w = .ok v w := by
  unfold sliceP at h
  obtain ⟨p, h, hp⟩ := optInt_spec hA h
  obtain ⟨q, h, hq⟩ := optInt_spec hA h
  obtain ⟨h1, h2, h⟩ := h
  have hl' : (lo.map a.eval = none ∧ p = 0) ∨ lo.map a.eval = some (.int .i64 (p : Int)) := by
    rcases hp with ⟨rfl, rfl⟩ | ⟨y, rfl, hy⟩
    · exact .inl ⟨rfl, rfl⟩
    · exact .inr (by simp [hy])
  have hh' : (hi.map a.eval = none ∧ q = m0) ∨ hi.map a.eval = some (.int .i64 (q : Int)) := by
    rcases hq with ⟨rfl, rfl⟩ | ⟨y, rfl, hy⟩
    · exact .inl ⟨rfl, rfl⟩
    · exact .inr (by simp [hy])
  cases mx with
  | none =>
    have h : ∃ ex', (ex' = true → cap = q) ∧ k (.p (.sl ex' (q - p) ((l.drop (p * sz)).take ((q - p) * sz)))) := by
      cases hi with
      | none =>
        have hqm : q = m0 := by
          rcases hq with ⟨_, rfl⟩ | ⟨y, hy, _⟩
          · rfl
          · cases hy
        exact ⟨ex, fun he => by rw [hqm]; exact hex he, h⟩
      | some y => exact ⟨false, by simp, h⟩
    obtain ⟨ex', hex', h⟩ := h
    exact ⟨_, _, h, .p (hrep ex' p q cap h1 (by omega) (Nat.le_refl _) h2 hex'), hrun p q cap (Nat.le_refl _) (by omega) h1 hl' hh' (.inl ⟨rfl, rfl⟩)⟩
  | some x =>
    simp only at h
    obtain ⟨m, h, hm⟩ := optInt_spec hA h
    obtain ⟨rfl, h⟩ := h
    rcases hm with ⟨hc, _⟩ | ⟨y, hy, hy'⟩
    · cases hc
    cases hy
    refine ⟨_, _, h, .p (hrep true p m m h1 (Nat.le_refl _) (by omega) h2 (fun _ => rfl)), hrun p m m (by omega) (Nat.le_refl _) h1 hl' hh' (.inr ⟨by simp [hy'], ?_⟩)⟩
    rcases hmh with h | h
    · cases h
    · simpa using h

theorem vcSlice_spec (hT : TabOk P T) (hA : SatA N sl n ρ S w a) {t : Nat} {lo hi mx : Option Operand} {x : SV} {k : SV → Prop} (h : vcSlice T sl t x lo hi mx k) {vx : Value} (hd : Den ρ n w S x vx) (hmh : mx = none ∨ hi ≠ none) :
    ∃ sv v, k sv ∧ Den ρ n w S sv v ∧ (Instr.sliceAt t vx (lo.map a.eval) (hi.map a.eval) (mx.map a.eval)).run P w = .ok v w := by
  unfold vcSlice at h
  rw [find_iff] at h
  obtain ⟨ty, ht, h⟩ := h
  have hty := hT t ty ht
  split at h
  · rename_i e hk
    have hu := kd_slice hty hk
    rw [find_iff] at h
    obtain ⟨te, hte, h⟩ := h
    have hteo := hT e te hte
    cases hd with
    | p hr =>
      cases hr with
      | nil ex a0 cap0 hex0 hn0 =>
        refine slice_main hA hmh ex 0 [] (fun l h m q1 q2 q3 q4 q5 q6 => run_slice hu hteo q1 q2 q3 q4 q5 q6 w) h.2 (Nat.zero_le _) hex0 fun ex' p q m h1 h2 h3 h4 h5 => ?_
        have hq0 : q = 0 := by omega
        have hp0 : p = 0 := by omega
        subst hq0 hp0
        simp only [List.drop_nil, List.take_nil, Nat.sub_self]
        refine .nil _ _ _ (fun h => by have := h5 h; omega) (fun h => ?_)
        split at h
        · omega
        · cases a0 with
          | none => have := hn0 rfl; omega
          | some a => cases h
      | sl hS hn hex hl h1 hc hh => exact slice_main hA hmh _ _ _ (fun l h m q1 q2 q3 q4 q5 q6 => run_slice hu hteo q1 q2 q3 q4 q5 q6 w) h.2 hn hex fun ex' p q m h2 h3 h4 h5 h6 => Rep.sl_sub hS hl h1 hc hh p q m te.size h2 h3 h6
      | _ => exact h.elim
    | _ => exact h.elim
  · rename_i n0 e esz fl hk
    obtain ⟨hu, hs⟩ := kd_arr hty hk
    cases hd with
    | p hr =>
      cases hr with
      | fp hS hl h1 hc hh => exact slice_main hA hmh _ _ _ (fun l h m q1 q2 q3 q4 q5 q6 => run_sliceArr hu hs q1 q2 q3 q4 q5 q6 w) h.2 (Nat.le_refl _) (fun _ => rfl) fun ex' p q m h2 h3 h4 h5 h6 => Rep.sl_sub hS hl h1 hc hh p q m esz h2 h3 h6
      | _ => exact h.elim
    | _ => exact h.elim
  · exact h.elim

/-! ### Rows that are made and built -/

theorem reps_rep {z : List PV} {xs : List Value} (h : RepL (Rep w S) z xs) : ∀ m, RepL (Rep w S) (reps m z) (repl m xs)
  | 0 => by simpa [reps, repl] using (repL_nil : RepL (Rep w S) [] [])
  | m + 1 => by
    have e1 : reps (m + 1) z = z ++ reps m z := by simp [reps, List.replicate_succ]
    rw [e1, repl_succ]
    exact repL_app h (reps_rep h m)

theorem ones_repl {xs : List Value} (h : Ones xs) (m : Nat) : Ones (repl m xs) := by
  intro x hx
  simp only [repl, List.mem_flatten, List.mem_replicate] at hx
  obtain ⟨l, ⟨_, rfl⟩, hx⟩ := hx
  exact h x hx

theorem ones_of {xs : List Value} (h : oneCells xs = true) : Ones xs := (oneCells_iff xs).1 h

theorem mkVar_spec {ty : Ty} {t : Nat} {cs : List SV} {k : Ob → Prop} (h : mkVar ty t cs k) {xs : List Value} {b : Nat} (hd : DenL ρ n w S cs xs) (h1 : Ones xs) (hb : w.heap[b]? = some (.cells xs.toArray t (0, 0))) :
    ∃ ob, k ob ∧ ob.live = true ∧ ObOk ρ n w S ob (.pointer (some ⟨b, 0, none⟩)) ∧ flatOb ob = true := by
  unfold mkVar at h
  cases hx : isArr ty with
  | true =>
    cases hp : pures cs with
    | some l =>
      simp only [hx, hp, fWL_iff] at h
      exact ⟨_, h, rfl, ⟨b, xs, rfl, hb, weakL_rep (pures_spec hp hd), h1⟩, rfl⟩
    | none => simp only [hx, hp] at h
  | false =>
    simp only [hx] at h
    exact ⟨_, h, rfl, ⟨b, xs, rfl, hb, hd, h1⟩, rfl⟩

theorem vcMake_spec (hT : TabOk P T) {t : Nat} {l c : Int} {k : Ob → Prop} (h : vcMake T t l c k) (kl kc : IntKind) :
    ∃ ob v w', k ob ∧ (Instr.makeSlice t (.int kl l) (.int kc c)).run P w = .ok v w' ∧ Le w w' ∧ ob.live = true ∧ ObOk ρ n w' S ob v ∧ blk v = some w.heap.size ∧ Plain v ∧ flatOb ob = true := by
  unfold vcMake at h
  rw [find_iff] at h
  obtain ⟨ty, ht, h⟩ := h
  split at h
  · rename_i e hk
    have hu := kd_slice (hT _ _ ht) hk
    rw [find_iff] at h
    obtain ⟨te, hte, h⟩ := h
    rw [cond_false_iff, Bool.and_eq_true, Bool.and_eq_true, Nat.ble_eq, len_eq] at h
    obtain ⟨⟨⟨hsz, hz⟩, ho⟩, n', m, rfl, rfl, hnm, ⟨hm, hb⟩, h⟩ := h
    rw [fWL_iff] at h
    obtain ⟨v, w', hrun, hrow, hle, hbl⟩ := run_make_row (P := P) hu (hT _ _ hte) hsz (Nat.eq_of_beq_eq_true hz) kl kc n' m hnm (by omega) (by simpa using hb) w
    refine ⟨_, v, w', h, hrun, hle, rfl, ⟨_, hrow, reps_rep (weakL_rep (mapZ_rep _)) _, ones_repl (ones_of ho) _⟩, hbl, ?_, rfl⟩
    rcases hrow.2 with ⟨rfl, _⟩ | ⟨g, cap, cur, rfl, _⟩ <;> exact ⟨rfl, rfl⟩
  · exact h.elim

theorem vcNew_spec (hT : TabOk P T) (hA : SatA N sl n ρ S w a) (hlt : ∀ b, S b → b < w.heap.size) (hpl : ∀ i, n i → Plain (ρ i)) (o : Oper) {k : Ob → Prop} (h : vcNew T o.op sl k) :
    ∃ ob v w', k ob ∧ (execOp a.eval o).run P w = .ok (.value v) w' ∧ Le w w' ∧ ob.live = true ∧ ObOk ρ n w' S ob v ∧ blk v = some w.heap.size ∧ Plain v ∧ flatOb ob = true := by
  obtain ⟨dst, op, type, pos, after, guard⟩ := o
  have keeps : ∀ w', Le w w' → Keeps S w w' := fun w' hl => Keeps.of_le hl hlt
  cases op <;> simp only [vcNew] at h
  case alloc t =>
    rw [find_iff] at h
    obtain ⟨ty, ht, h⟩ := h
    rw [cond_false_iff, Bool.and_eq_true, len_eq] at h
    obtain ⟨⟨hz, ho⟩, h⟩ := h
    rw [fL_iff] at h
    obtain ⟨z, hzc, hzr⟩ := run_zeroValue (hT _ _ ht)
    have hcs : z.cells = ty.zero.toArray := by rw [← hzc]
    have hb : (w.alloc (.cells z.cells t)).heap[w.heap.size]? = some (.cells ty.zero.toArray t (0, 0)) := by rw [heap_alloc_new, hcs]
    obtain ⟨ob, hk, hl, hob, hfl⟩ := mkVar_spec (ρ := ρ) (n := n) (w := w.alloc (.cells z.cells t)) (S := S) h (mapZS_den _) (ones_of ho) hb
    exact ⟨ob, .pointer (some ⟨w.heap.size, 0, none⟩), w.alloc (.cells z.cells t), hk, by simp [execOp, Instr.alloc, hzr, newVar, newRow], Le.alloc _ _, hl, hob, rfl, ⟨rfl, rfl⟩, hfl⟩
  case box t x =>
    obtain ⟨sv, h, hd⟩ := ev_spec hA h
    rw [find_iff] at h
    obtain ⟨ty, ht, h⟩ := h
    obtain ⟨l, h, hdl, h1, _⟩ := cellsS_spec hpl hd h
    rw [cond_false_iff, len_eq] at h
    have hb : (w.alloc (.cells (a.eval x).cells t)).heap[w.heap.size]? = some (.cells (a.eval x).cells.toList.toArray t (0, 0)) := by rw [heap_alloc_new]
    obtain ⟨ob, hk, hl, hob, hfl⟩ := mkVar_spec (ρ := ρ) (n := n) (S := S) h.2 (hdl.mono (keeps _ (Le.alloc w _)) (fun _ h => h) (fun _ h => h) (fun _ _ => rfl)) h1 hb
    exact ⟨ob, .pointer (some ⟨w.heap.size, 0, none⟩), w.alloc (.cells (a.eval x).cells t), hk, by simp [execOp, Instr.box, newVar, newRow], Le.alloc _ _, hl, hob, rfl, ⟨rfl, rfl⟩, hfl⟩
  case makeSlice t l c =>
    obtain ⟨vl, h', hrl⟩ := evP_spec hA h
    clear h
    obtain ⟨vc, h, hrc⟩ := evP_spec hA h'
    clear h'
    split at h
    · rename_i kl l' kc c'
      have hl := hrl.of_v
      have hc := hrc.of_v
      unfold vcMake at h
      rw [find_iff] at h
      obtain ⟨ty, ht, h⟩ := h
      split at h
      · rename_i e hk
        have hu := kd_slice (hT _ _ ht) hk
        rw [find_iff] at h
        obtain ⟨te, hte, h⟩ := h
        rw [cond_false_iff, Bool.and_eq_true, Bool.and_eq_true, Nat.ble_eq, len_eq] at h
        obtain ⟨⟨⟨hsz, hz⟩, ho⟩, n', m, rfl, rfl, hnm, ⟨hm, hb⟩, h⟩ := h
        rw [fWL_iff] at h
        obtain ⟨v, w', hrun, hrow, hle, hbl⟩ := run_make_row (P := P) hu (hT _ _ hte) hsz (Nat.eq_of_beq_eq_true hz) kl kc n' m hnm (by omega) (by simpa using hb) w
        refine ⟨_, v, w', h, by simp [execOp, hl, hc, hrun], hle, rfl, ⟨_, hrow, reps_rep (weakL_rep (mapZ_rep _)) _, ones_repl (ones_of ho) _⟩, hbl, ?_, rfl⟩
        rcases hrow.2 with ⟨rfl, _⟩ | ⟨g, cap, cur, rfl, _⟩ <;> exact ⟨rfl, rfl⟩
      · exact h.elim
    · exact h.elim
  case buildSlice t m ps =>
    obtain ⟨l, h, hps⟩ := evParts_spec hA ps.toList h
    unfold vcBuildSlice at h
    rw [find_iff] at h
    obtain ⟨ty, ht, h⟩ := h
    split at h
    · rename_i e hk
      have hu := kd_slice (hT _ _ ht) hk
      rw [find_iff] at h
      obtain ⟨te, hte, h⟩ := h
      rw [cond_false_iff, Bool.and_eq_true, Bool.and_eq_true, Bool.and_eq_true, Nat.ble_eq, len_eq, Nat.ble_eq] at h
      obtain ⟨⟨⟨⟨hsz, hz⟩, ho⟩, hn⟩, h⟩ := h
      rw [fWL_iff, fL_iff, fL_iff] at h
      obtain ⟨l', ys, h, hr, h1, hpp⟩ := rowParts_spec h hps (reps_rep (weakL_rep (mapZ_rep _)) _) (ones_repl (ones_of ho) _)
      obtain ⟨l2, v, w', hrun, hrow, hle, hbl, rfl⟩ := run_buildSlice (P := P) hu (hT _ _ hte) hsz (Nat.eq_of_beq_eq_true hz) m hn (ps.map fun p => (p.1, a.eval p.2)) _ (by simpa using hpp) w
      refine ⟨_, v, w', h, by simp [execOp, hrun], hle, rfl, ⟨_, hrow, hr.mono (keeps w' hle) (fun _ h => h), h1⟩, hbl, ?_, rfl⟩
      rcases hrow.2 with ⟨rfl, _⟩ | ⟨g, cap, cur, rfl, _⟩ <;> exact ⟨rfl, rfl⟩
    · exact h.elim
  all_goals exact h.elim

end
end Go.Pv

/- What the operations do: append, calls; all together. -/
set_option linter.unusedSimpArgs false
namespace Go.Pv
open Go.Vc
open Go.RowKit (Below)

section
variable {P : Program} {T : Tab} {N : Nat} {sl : Slots} {obs : Obs} {n : Nat → Prop} {ρ : Nat → Value} {S : Nat → Prop} {S0 : Fr} {a : Act} {w w0 : World}

/-- What an operation's VC has to give. -/
def Step (w0 : World) (S0 : Fr) (P : Program) (N : Nat) (o : Oper) (a : Act) (w : World) (k : SV → K) (K : Act → World → Prop) (Q : Exit → Act → World → Prop) : Prop :=
  (∀ sv sl' obs' ρ' S' v w', k sv sl' obs' → SatA N sl' (Lt obs'.length) ρ' S' w' a → SatW w0 S0 obs' ρ' S' w' → Den ρ' (Lt obs'.length) w' S' sv v → K (a.put o.dst v) w') → o.wp P a w K Q

theorem step_value {o : Oper} {k : SV → K} {K : Act → World → Prop} {Q : Exit → Act → World → Prop} {sv : SV} {obs' : Obs} {ρ' : Nat → Value} {S' : Nat → Prop} {v : Value} {w' : World} (hA : SatA N sl (Lt obs.length) ρ S w a)
    (hrun : (execOp a.eval o).run P w = .ok (.value v) w') (hk : k sv sl obs') (hW : SatW w0 S0 obs' ρ' S' w') (hd : Den ρ' (Lt obs'.length) w' S' sv v) (hkp : Keeps S w w') (hs : ∀ b, S b → S' b) (hρ : ∀ i, i < obs.length → ρ' i = ρ i) (hn : obs.length ≤ obs'.length) :
    Step w0 S0 P N o a w k K Q := by
  intro H
  unfold Oper.wp
  rw [hrun]
  exact H sv sl obs' ρ' S' v w' hk (hA.mono hkp hs (fun i hi => Nat.lt_of_lt_of_le hi hn) hρ) hW hd

/-- An operation that leaves the world alone. -/
theorem step_pure {o : Oper} {k : SV → K} {K : Act → World → Prop} {Q : Exit → Act → World → Prop} {sv : SV} {v : Value} (hA : SatA N sl (Lt obs.length) ρ S w a) (hW : SatW w0 S0 obs ρ S w)
    (hrun : (execOp a.eval o).run P w = .ok (.value v) w) (hk : k sv sl obs) (hd : Den ρ (Lt obs.length) w S sv v) : Step w0 S0 P N o a w k K Q :=
  step_value hA hrun hk hW hd (fun _ _ => rfl) (fun _ h => h) (fun _ _ => rfl) (Nat.le_refl _)

/-- A new object. -/
theorem step_new {o : Oper} {k : SV → K} {K : Act → World → Prop} {Q : Exit → Act → World → Prop} {ob : Ob} {v : Value} {w' : World} (hA : SatA N sl (Lt obs.length) ρ S w a) (hW : SatW w0 S0 obs ρ S w) (hle : Le w w')
    (hrun : (execOp a.eval o).run P w = .ok (.value v) w') (hk : k (.ob obs.length) sl (obs ++ [ob])) (hob : ObOk ρ (Lt obs.length) w' S ob v) (hbl : ∀ b, Owns w' ob v b → w.heap.size ≤ b) (hpl : Plain v) : Step w0 S0 P N o a w k K Q := by
  refine step_value hA hrun hk (hW.snoc hle hob hbl hpl) ?_ (hW.keeps hle) (fun _ h => h) (fun i hi => updρ_lt hi) (by simp)
  have : Den (updρ ρ obs.length v) (Lt (obs ++ [ob]).length) w' S (.ob obs.length) (updρ ρ obs.length v obs.length) := .ob (by simp [Lt])
  rwa [updρ_eq] at this

theorem src_spec (hW : SatW w0 S0 obs ρ S w) {x : SV} {sz : Nat} {kk : Nat → List PV → Prop} (h : vcSrc x sz obs kk) {vx : Value} (hd : Den ρ (Lt obs.length) w S x vx) :
    ∃ ad m c l xs, vx = .slice ad m c ∧ kk m l ∧ RepL (Rep w S) l xs ∧ xs.length = m * sz ∧ Ones xs ∧ (m = 0 ∨ Cells w ad 0 xs) := by
  cases hd with
  | p hr =>
    cases hr with
    | nil ex a0 cap0 _ _ => exact ⟨a0, 0, cap0, [], [], rfl, h.2, repL_nil, by simp, fun _ h => by simp at h, .inl rfl⟩
    | sl hS hn hex hl h1 hc hh => exact ⟨_, _, _, _, _, rfl, h.2, ⟨hl, hh⟩, by rw [← hl]; exact h.1, h1, .inr ⟨_, rfl, fun j c hj => by rw [Nat.zero_add]; exact hc j c hj⟩⟩
    | _ => exact h.elim
  | nil => exact ⟨none, 0, 0, [], [], rfl, h, repL_nil, by simp, fun _ h => by simp at h, .inl rfl⟩
  | ob hi =>
    simp only [vcSrc] at h
    rw [at_iff] at h
    obtain ⟨ob, hi', h⟩ := h
    split at h
    · rename_i e sz' m ex cs
      rw [cond_false_iff] at h
      have hsz : sz' = sz := Nat.eq_of_beq_eq_true h.1
      subst hsz
      obtain ⟨xs, hrow, hr, h1⟩ := hW.objs _ _ hi'
      obtain ⟨hlen, hv⟩ := hrow
      rcases hv with ⟨hx, rfl⟩ | ⟨g, cap, cur, hx, hg, hnc, _, hcs, ht, _⟩
      · exact ⟨none, 0, 0, _, xs, hx, h.2, hr, hlen, h1, .inl rfl⟩
      · refine ⟨_, m, cap, _, xs, hx, h.2, hr, hlen, h1, .inr ⟨_, rfl, fun j c hj => ?_⟩⟩
        rw [Addr.add0, Nat.zero_add, Nat.zero_add, cell_of_row w g j cur e (0, 0) hg]
        rw [← ht, List.getElem?_take] at hj
        split at hj
        · simpa using hj
        · cases hj
    · exact h.elim
  | _ => exact h.elim

theorem plain_row {w : World} {e : TypeId} {sz m : Nat} {xs : List Value} {ex : Bool} {x : Value} (h : RowOk w e sz m xs ex x) : Plain x := by
  rcases h.2 with ⟨rfl, _⟩ | ⟨g, cap, cur, rfl, _⟩ <;> exact ⟨rfl, rfl⟩

/-- append to a slice that is full. -/
theorem run_append_full {t e : TypeId} {te : Ty} (ty : TypeId) (ht : P.underlying t = some (.slice e)) (he : TyOk P e te) (hz : te.zero.length = te.size) (w : World) (ad0 : Addr) (n : Nat) (cs : List Value)
    (hcl : cs.length = n * te.size) (holds : ∀ (j : Nat) (u : Value), cs[j]? = some u → w.cell? (ad0.add j) = some u) (ad : Addr) (m c : Nat) (l : List Value) (hl : l.length = m * te.size) (hnews : ∀ (j : Nat) (u : Value), l[j]? = some u → w.cell? (ad.add j) = some u)
    (hm : 1 ≤ m) (hnm : n + m ≤ 1099511627776) (hb : (n + m) * te.bytes ≤ 140737488355328) :
    ∃ v' w', (Builtin.append_ #[t, t] ty #[.slice (some ad0) n n, .slice (some ad) m c]).run P w = .ok v' w' ∧ RowOk w' e te.size (n + m) (cs ++ l) false v' ∧ Le w w' ∧ (blk v' = none ∨ blk v' = some w.heap.size) := by
  obtain ⟨i, z, hi, hs, hby, hzz, hzc⟩ := he.info
  have hzs : z.cells.size = te.size := by rw [← hz, ← hzc]; simp
  have hlen : (cs ++ l).length = (n + m) * te.size := by rw [List.length_append, hcl, hl, Nat.add_mul]
  have hmax : n + m ≤ maxLen := by simp only [maxLen]; omega
  have hr := run_append_grow (P := P) w t ty e i z ht hi hzz ad0 n n cs (by rw [hs]; exact hcl) holds ad m c l (by rw [hs]; exact hl) hnews (by omega) (by omega) (growslice_fits (by omega) (by rw [hby]; exact hb))
  refine ⟨_, _, hr, ?_, (Le.drew w).trans (Le.alloc _ _), .inr rfl⟩
  have hge := grownCap_ge w (n + m) n e
  have hcm : grownCap w (n + m) n e ≤ maxLen := grownCap_le_maxLen w (n + m) n e hmax
  refine ⟨hlen, .inr ⟨w.heap.size, _, _, rfl, heap_alloc_new w.drew _, hge, hcm, ?_, ?_, by simp⟩⟩
  · simp only [Array.size_append, List.size_toArray, size_zeroCells, hzs, hcl, hl, ← Nat.add_mul]
    congr 1
    omega
  · simp only [Array.toList_append, List.append_assoc]
    rw [← List.append_assoc, ← hlen]
    exact List.take_left

theorem step_append (hT : TabOk P T) (hA : SatA N sl (Lt obs.length) ρ S w a) (hW : SatW w0 S0 obs ρ S w) {o : Oper} {t : Nat} {s x : SV} {os ox : Operand} (ho : o.op = .call { callee := .builtin .append, args := #[os, ox], argTypes := #[t, t] })
    {k : SV → K} {K : Act → World → Prop} {Q : Exit → Act → World → Prop} (h : vcAppend T t s x obs fun x obs => k x sl obs) (hs : Den ρ (Lt obs.length) w S s (a.eval os)) (hx : Den ρ (Lt obs.length) w S x (a.eval ox)) : Step w0 S0 P N o a w k K Q := by
  unfold vcAppend at h
  rw [find_iff] at h
  obtain ⟨ty, ht, h⟩ := h
  have hty := hT t ty ht
  split at h
  · rename_i e hk
    have hu := kd_slice hty hk
    rw [find_iff] at h
    obtain ⟨te, hte, h⟩ := h
    have hteo := hT e te hte
    rw [cond_false_iff, Bool.and_eq_true, Nat.ble_eq, len_eq] at h
    obtain ⟨⟨hsz, hz⟩, h⟩ := h
    have hz : te.zero.length = te.size := Nat.eq_of_beq_eq_true hz
    have hS := src_spec hW h hx
    clear h
    obtain ⟨ad, m, c, l, ys, hvx, h, hlr, hl, h1, hsrc⟩ := hS
    have h1' : oneCells ys = true := (oneCells_iff ys).2 h1
    have hrun : ∀ v' w', (Builtin.append_ #[t, t] o.type #[a.eval os, .slice ad m c]).run P w = .ok v' w' → (execOp a.eval o).run P w = .ok (.value v') w' := by
      intro v' w' hr
      simp only [execOp, ho, resolve, invoke, builtin, Sem.run_bind, Sem.run_pure, Result.andThen_ok, List.map_toArray, List.map_cons, List.map_nil, hvx, hr]
    generalize a.eval os = vs at hs hrun
    cases hs with
    | nil =>
      simp only at h
      obtain ⟨⟨hb1, hb2⟩, h⟩ := h
      rw [snoc_iff, fN_iff, len_eq] at h
      obtain ⟨v', w', hr, hrow, hfr⟩ := run_append_row (P := P) o.type hu hteo hz w (.slice none 0 0) 0 [] true ⟨by simp, .inl ⟨rfl, rfl⟩⟩ ad m c ys hl h1' hsrc hb1 hb2
      have hle : Le w w' ∧ (blk v' = none ∨ blk v' = some w.heap.size) := by
        rcases hfr with h | ⟨_, g, hg, _⟩
        · exact h
        · cases hg
      refine step_new hA hW hle.1 (hrun v' w' hr) h ⟨ys, by simpa using hrow, hlr.mono (hW.keeps hle.1) (fun _ h => h), h1⟩ ?_ (plain_row hrow)
      intro b hb
      have hb := hb.flat rfl
      rcases hle.2 with h | h <;> rw [hb] at h <;> simp at h; omega
    | p hr0 =>
      have full : ∀ (n : Nat) (l0 : List PV) (xs : List Value) (ad0 : Addr), l0.length = xs.length → l0.length = n * te.size → Ones xs → (∀ (j : Nat) (x : Value), xs[j]? = some x → w.cell? (ad0.add j) = some x) → (∀ (j : Nat) (p : PV) (x : Value), l0[j]? = some p → xs[j]? = some x → Rep w S p x) →
          room n m te.bytes → 1 ≤ m → k (.ob obs.length) sl (obs ++ [.row e te.size (n + m) false (l0 ++ l)]) → vs = .slice (some ad0) n n → Step w0 S0 P N o a w k K Q := by
        intro n l0 xs ad0 hll hl0 hx1 hc hh hroom hm h hvs
        subst hvs
        cases ad with
        | none =>
          rcases hsrc with h0 | ⟨_, h0, _⟩
          · omega
          · cases h0
        | some ad =>
          have hnews : ∀ (j : Nat) (u : Value), ys[j]? = some u → w.cell? (ad.add j) = some u := by
            intro j u hj
            rcases hsrc with h0 | ⟨_, h0, hc'⟩
            · omega
            · cases h0
              have := hc' j u hj
              rwa [Nat.zero_add] at this
          obtain ⟨v', w', hr, hrow, hle, hbl⟩ := run_append_full (P := P) o.type hu hteo hz w ad0 n xs (by rw [← hll]; exact hl0) hc ad m c ys hl hnews hm hroom.1 hroom.2
          refine step_new hA hW hle (hrun v' w' hr) h ⟨xs ++ ys, hrow, (repL_app ⟨hll, hh⟩ hlr).mono (hW.keeps hle) (fun _ h => h), ?_⟩ ?_ (plain_row hrow)
          · intro x hx
            rcases List.mem_append.1 hx with hx | hx
            · exact hx1 x hx
            · exact h1 x hx
          · intro b hb
            have hb := hb.flat rfl
            rcases hbl with h | h <;> rw [hb] at h <;> simp at h; omega
      cases hr0 with
      | nil ex a0 cap0 hex0 hn0 =>
        simp only [cond_false_iff] at h
        obtain ⟨rfl, hroom, _, z, hz1, hz2, h⟩ := h
        have hcap0 := hex0 rfl
        subst hcap0
        cases a0 with
        | some ad0 =>
          cases z with
          | true =>
            have hm0 := hz1 rfl
            subst hm0
            have hr : (Builtin.append_ #[t, t] o.type #[.slice (some ad0) 0 0, .slice ad 0 c]).run P w = .ok (.slice (some ad0) 0 0) w := by
              obtain ⟨i, z, hi, hs, hby, hzz, hzc⟩ := hteo.info
              have hy0 : ys = [] := List.eq_nil_of_length_eq_zero (by simpa using hl)
              subst hy0
              cases ad with
              | none => simp [Builtin.append_, run_underlying hu, sizeOf, typeInfo, hi, Builtin.lenOf, Builtin.firstCells, storeCells]
              | some ad => simp [Builtin.append_, run_underlying hu, sizeOf, typeInfo, hi, Builtin.lenOf, Builtin.firstCells, loadCells, loadCellsFrom, storeCells]
            exact step_pure hA hW (hrun _ _ hr) h (.p (.nil _ _ _ hex0 hn0))
          | false =>
            simp only at h
            rw [snoc_iff, fN_iff, len_eq] at h
            exact full 0 [] [] ad0 rfl (by simp) (fun _ h => by simp at h) (fun j x hj => by simp at hj) (fun j p x hp => by simp at hp) hroom (hz2 rfl) h rfl
        | none =>
          obtain ⟨v', w', hr, hrow, hfr⟩ := run_append_row (P := P) o.type hu hteo hz w (.slice none 0 0) 0 [] true ⟨by simp, .inl ⟨rfl, rfl⟩⟩ ad m c ys hl h1' hsrc hroom.1 hroom.2
          have hle : Le w w' ∧ (blk v' = none ∨ blk v' = some w.heap.size) := by
            rcases hfr with h | ⟨_, g, hg, _⟩
            · exact h
            · cases hg
          cases z with
          | true =>
            have hm0 := hz1 rfl
            subst hm0
            have hv' : v' = .slice none 0 0 ∧ w' = w := by
              have e1 : (Builtin.append_ #[t, t] o.type #[.slice none 0 0, .slice ad 0 c]).run P w = .ok (.slice none 0 0) w := by
                obtain ⟨i, z, hi, hs, hby, hzz, hzc⟩ := hteo.info
                have hy0 : ys = [] := List.eq_nil_of_length_eq_zero (by simpa using hl)
                subst hy0
                cases ad with
                | none => simp [Builtin.append_, run_underlying hu, sizeOf, typeInfo, hi, Builtin.lenOf, Builtin.firstCells]
                | some ad => simp [Builtin.append_, run_underlying hu, sizeOf, typeInfo, hi, Builtin.lenOf, Builtin.firstCells, loadCells, loadCellsFrom]
              rw [hr] at e1
              cases e1
              exact ⟨rfl, rfl⟩
            obtain ⟨rfl, rfl⟩ := hv'
            exact step_pure hA hW (hrun _ _ hr) h (.p (Rep.nil0 _))
          | false =>
            simp only at h
            rw [snoc_iff, fN_iff, len_eq] at h
            refine step_new hA hW hle.1 (hrun v' w' hr) h ⟨ys, by simpa using hrow, by simpa using hlr.mono (hW.keeps hle.1) (fun _ h => h), h1⟩ ?_ (plain_row hrow)
            intro b hb
            have hb := hb.flat rfl
            rcases hle.2 with h | h <;> rw [hb] at h <;> simp at h; omega
      | sl hS hn hex hll hx1 hc hh =>
        rename_i ex n0 cap l0 xs ad0
        simp only [cond_false_iff] at h
        obtain ⟨rfl, hroom, hl0, z, hz1, hz2, h⟩ := h
        have hcap := hex rfl
        subst hcap
        cases z with
        | true =>
          have hm0 := hz1 rfl
          subst hm0
          have hr : (Builtin.append_ #[t, t] o.type #[.slice (some ad0) cap cap, .slice ad 0 c]).run P w = .ok (.slice (some ad0) cap cap) w := by
            obtain ⟨i, z, hi, hs, hby, hzz, hzc⟩ := hteo.info
            have hy0 : ys = [] := List.eq_nil_of_length_eq_zero (by simpa using hl)
            subst hy0
            cases ad with
            | none => simp [Builtin.append_, run_underlying hu, sizeOf, typeInfo, hi, Builtin.lenOf, Builtin.firstCells, storeCells]
            | some ad => simp [Builtin.append_, run_underlying hu, sizeOf, typeInfo, hi, Builtin.lenOf, Builtin.firstCells, loadCells, loadCellsFrom, storeCells]
          exact step_pure hA hW (hrun _ _ hr) h (.p (.sl hS hn hex hll hx1 hc hh))
        | false =>
          simp only at h
          rw [snoc_iff, fN_iff, len_eq] at h
          exact full cap l0 xs ad0 hll hl0 hx1 hc hh hroom (hz2 rfl) h rfl
      | _ => exact h.elim
    | ob hi =>
      rename_i i
      simp only at h
      rw [at_iff] at h
      obtain ⟨ob, hi', h⟩ := h
      split at h
      · rename_i e' sz n0 exact_ cs
        rw [cond_false_iff, Bool.and_eq_true] at h
        obtain ⟨⟨hsz', hety⟩, ⟨hb1, hb2⟩, h⟩ := h
        have hsz' : sz = te.size := Nat.eq_of_beq_eq_true hsz'
        have hety : e' = e := Nat.eq_of_beq_eq_true hety
        subst hsz' hety
        obtain ⟨xs, hrow, hrx, hx1⟩ := hW.objs i _ hi'
        obtain ⟨v', w', hr, hrow', hfr⟩ := run_append_row (P := P) o.type hu hteo hz w (ρ i) n0 xs exact_ hrow ad m c ys hl h1' hsrc hb1 hb2
        have hxy : Ones (xs ++ ys) := by
          intro x hx
          rcases List.mem_append.1 hx with hx | hx
          · exact hx1 x hx
          · exact h1 x hx
        have hset : (obs.set i .dead).length = obs.length := by simp
        -- the row is given up, and a new one is there
        have general : k (.ob obs.length) sl (obs.set i .dead ++ [.row e' te.size (n0 + m) false (cs ++ l)]) → Step w0 S0 P N o a w k K Q := by
          intro h
          have hden : ∀ w'', Den (updρ ρ obs.length v') (Lt (obs.set i .dead ++ [Ob.row e' te.size (n0 + m) false (cs ++ l)]).length) w'' S (.ob obs.length) v' := by
            intro w''
            have : Den (updρ ρ obs.length v') (Lt (obs.set i .dead ++ [Ob.row e' te.size (n0 + m) false (cs ++ l)]).length) w'' S (.ob obs.length) (updρ ρ obs.length v' obs.length) := .ob (by simp [Lt])
            rwa [updρ_eq] at this
          rcases hfr with ⟨hle, hbl⟩ | ⟨_, g, hg, hg', hch⟩
          · have hk := (hW.kill i).snoc hle (ob := .row e' te.size (n0 + m) false (cs ++ l)) (x := v') ⟨xs ++ ys, hrow', (repL_app hrx hlr).mono (hW.keeps hle) (fun _ h => h), hxy⟩ (by
              intro b hb
              have hb := hb.flat rfl
              rcases hbl with h | h <;> rw [hb] at h <;> simp at h; omega) (plain_row hrow')
            rw [hset] at hk
            exact step_value hA (hrun v' w' hr) h hk (hden _) (hW.keeps hle) (fun _ h => h) (fun j hj => updρ_lt hj) (by simp)
          · have hkp : Keeps S w w' := fun b hb => hch.block b (hW.lt b hb) fun e => by subst e; exact (hW.own i _ b hi' rfl (.inl hg)).2 hb
            have hst := hW.store hi' rfl (.inl hg) hch (ob' := .dead) trivial (fun b h => by cases h)
            have hk := hst.snoc' (ob := .row e' te.size (n0 + m) false (cs ++ l)) (x := v') ⟨xs ++ ys, hrow', (repL_app hrx hlr).mono hkp (fun _ h => h), hxy⟩ (by
              intro b hb
              have hb := hb.flat rfl
              rw [hg'] at hb
              cases hb
              obtain ⟨h1, h2⟩ := hW.own i _ g hi' rfl (.inl hg)
              refine ⟨h1, h2, fun j oj hj lj bj => ?_⟩
              rcases get_set hj with ⟨h3, h4⟩ | ⟨_, _, rfl⟩
              · refine h3 (hW.dist i j _ oj g hi' h4 rfl lj (.inl hg) (hW.same h4 lj (fun g2 hg2 => hch.block g2 (hW.owned h4 lj hg2) fun e => h3 (hW.dist i j _ oj g hi' h4 rfl lj (.inl hg) (e ▸ hg2))) bj))
              · cases lj) (plain_row hrow')
            rw [hset] at hk
            exact step_value hA (hrun v' w' hr) h hk (hden _) hkp (fun _ h => h) (fun j hj => updρ_lt hj) (by simp)
        have general' : (obs.upd i .dead fun obs1 => obs1.snoc (.row e' te.size (n0 + m) false (cs ++ l)) fun obs' => fN (len obs) fun q => k (.ob q) sl obs') → Step w0 S0 P N o a w k K Q := by
          intro h
          rw [upd_iff, snoc_iff, fN_iff, len_eq] at h
          exact general h.2
        cases exact_ with
        | false => exact general' h
        | true =>
          simp only at h
          obtain ⟨z, hz1, h⟩ := h
          cases z with
          | false => exact general' h
          | true =>
            simp only at h
            rw [snoc_iff, fN_iff, len_eq] at h
            have hm1 := hz1 rfl
            have hle : Le w w' ∧ (blk v' = none ∨ blk v' = some w.heap.size) := by
              rcases hfr with h | ⟨h0, _⟩
              · exact h
              · have := h0 rfl; omega
            refine step_new hA hW hle.1 (hrun v' w' hr) h ⟨xs ++ ys, hrow', (repL_app hrx hlr).mono (hW.keeps hle.1) (fun _ h => h), hxy⟩ ?_ (plain_row hrow')
            intro b hb
            have hb := hb.flat rfl
            rcases hle.2 with h | h <;> rw [hb] at h <;> simp at h; omega
      · exact h.elim
    | _ => exact h.elim
  · exact h.elim

theorem vcNilCmp_spec (hT : TabOk P T) {op : BinOp} {t : Nat} {x : PV} {k : SV → Prop} (h : vcNilCmp T op t x k) {vx : Value} (hx : Rep w S x vx) (ox oy : Operand) :
    ∃ b : Bool, k (.kb b) ∧ (eqGuard op t ox oy vx (.slice none 0 0)).run P w = .ok () w ∧ (binOp op t vx (.slice none 0 0)).run P w = .ok (.bool b) w := by
  unfold vcNilCmp at h
  rw [find_iff] at h
  obtain ⟨ty, ht, h⟩ := h
  split at h
  · rename_i e hk
    have hu := kd_slice (hT t ty ht) hk
    split at h
    · obtain ⟨h0, h⟩ := h
      cases hx with
      | nil => omega
      | sl hS hn hex hl h1 hc hh =>
        rename_i n cap l xs ad
        have hq : ∀ (a : Addr) (n c : Nat), (Op.equal t (.slice (some a) n c) (.slice none 0 0)).run P w = .ok false w := by
          intro a n c
          show (Op.equalIn 10000 t _ _).run P w = _
          unfold Op.equalIn
          simp [run_underlying hu]
        split at h
        · exact ⟨false, h, by simp [eqGuard], by simp only [binOp, Sem.run_bind, hq, Result.andThen_ok]; rfl⟩
        · exact ⟨true, h, by simp [eqGuard], by simp only [binOp, Sem.run_bind, hq, Result.andThen_ok]; rfl⟩
        · exact h.elim
    · exact h.elim
  · exact h.elim

theorem vcPure_spec (hT : TabOk P T) (hA : SatA N sl n ρ S w a) (hW : SatW w0 S0 obs ρ S w) (hn' : ∀ i, i < obs.length → n i) (hpl : ∀ i, n i → Plain (ρ i)) (o : Oper) {k : SV → Prop} (h : vcPure T o.op sl obs k) :
    ∃ sv v, k sv ∧ (execOp a.eval o).run P w = .ok (.value v) w ∧ Den ρ n w S sv v := by
  obtain ⟨dst, op, type, pos, after, guard⟩ := o
  cases op <;> simp only [vcPure] at h
  case move x =>
    obtain ⟨sv, hk, hd⟩ := ev_spec hA h
    exact ⟨_, _, hk, (by simp [execOp]), hd⟩
  case assign x =>
    obtain ⟨sv, hk, hd⟩ := ev_spec hA h
    exact ⟨_, _, hk, (by simp [execOp]), hd⟩
  case pick c x y =>
    obtain ⟨sv, h, hd⟩ := ev_spec hA h
    generalize hc : a.eval c = vc at hd
    split at h
    · obtain ⟨sx, hk, hdx⟩ := ev_spec hA h
      cases hd
      exact ⟨_, _, hk, (by simp [execOp, hc, asBool]), hdx⟩
    · obtain ⟨sx, hk, hdx⟩ := ev_spec hA h
      cases hd
      exact ⟨_, _, hk, (by simp [execOp, hc, asBool]), hdx⟩
    · rename_i q
      cases hd with
      | p hr =>
      cases hr
      cases q with
      | true =>
        obtain ⟨sx, hk, hdx⟩ := ev_spec hA (h.1 rfl)
        exact ⟨_, _, hk, (by simp [execOp, hc, asBool]), hdx⟩
      | false =>
        obtain ⟨sx, hk, hdx⟩ := ev_spec hA (h.2 rfl)
        exact ⟨_, _, hk, (by simp [execOp, hc, asBool]), hdx⟩
    · exact h.elim
  case binOp bop t x y t' =>
    cases hn : isNilC y with
    | true =>
      simp only [hn] at h
      have hy : y = .const (.slice none 0 0) := by
        unfold isNilC at hn
        split at hn
        · rfl
        · cases hn
      subst hy
      obtain ⟨px, h, hx⟩ := evP_spec hA h
      obtain ⟨b, hk, hg, hr⟩ := vcNilCmp_spec (P := P) hT h hx x (.const (.slice none 0 0))
      exact ⟨_, .bool b, hk, (by simp only [execOp, Sem.run_bind, show a.eval (.const (.slice none 0 0)) = .slice none 0 0 from rfl, hg, hr, Result.andThen_ok]; rfl), .kb b⟩
    | false =>
      simp only [hn] at h
      obtain ⟨px, h', hx⟩ := evP_spec hA h
      clear h
      obtain ⟨py, h, hy⟩ := evP_spec hA h'
      obtain ⟨v, hk, hg, hr⟩ := vcBin_spec hT h hx hy x y
      exact ⟨_, _, hk, (by simp [execOp, hg, hr]), .p (.v _)⟩
  case unOp uop t x =>
    obtain ⟨sv, h, hd⟩ := ev_spec hA h
    obtain ⟨sv', v, hk, hd', hr⟩ := vcUn_spec (P := P) h hd
    exact ⟨_, _, hk, (by simp [execOp, hr]), hd'⟩
  case convert src dst x =>
    obtain ⟨sv, h', hd⟩ := ev_spec hA h
    clear h
    rw [find_iff] at h'
    obtain ⟨tys, hts, h⟩ := h'
    obtain ⟨d, hus, _⟩ := (hT _ _ hts).und
    rw [find_iff] at h
    obtain ⟨ty, ht, h⟩ := h
    generalize hx : a.eval x = vx at hd
    split at h
    · cases hd with
      | p hr =>
      cases hr
      split at h
      · rename_i kd hk
        have hu := kd_int (hT _ _ ht) hk
        exact ⟨_, _, h, (by simp [execOp, hx, convert, run_underlying hu, run_underlying hus, Conv.intToInt]), .p (.v _)⟩
      · exact h.elim
    · exact h.elim
  case extract x i =>
    obtain ⟨sv, h, hd⟩ := ev_spec hA h
    generalize hx : a.eval x = vx at hd
    split at h
    · cases hd with
      | tup hl hh =>
      rename_i xs
      rw [nth_iff] at h
      obtain ⟨y, hy, h⟩ := h
      have hlt := (List.getElem?_eq_some_iff.1 hy).1
      have hy' : xs[i]? = some xs[i] := List.getElem?_eq_getElem (by omega)
      exact ⟨_, xs[i], h, (by simp [execOp, hx, Instr.extract, hy']), hh i y _ hy hy'⟩
    · exact h.elim
  case build t ps =>
    rw [find_iff] at h
    obtain ⟨ty, ht, h⟩ := h
    rw [cond_false_iff, Bool.and_eq_true, Bool.and_eq_true, len_eq] at h
    obtain ⟨⟨⟨hz, hag⟩, ho⟩, h⟩ := h
    obtain ⟨l, h, hps⟩ := evParts_spec hA ps.toList h
    rw [fL_iff] at h
    obtain ⟨l', ys, h, hdl, h1, hpp⟩ := putS_spec hpl h hps (mapZS_den _) (ones_of ho)
    rw [fSV_iff] at h
    obtain ⟨l2, _, hrun, rfl⟩ := Vc.run_build (hT _ _ ht) (Nat.eq_of_beq_eq_true hz) hag (ps.map fun p => (p.1, a.eval p.2)) _ (by simpa using hpp) w
    exact ⟨_, _, h, (by simp [execOp, hrun]), aggOf_den hdl h1⟩
  case load t x =>
    obtain ⟨sv, h, hd⟩ := ev_spec hA h
    obtain ⟨sv', v, hk, hd', hrun⟩ := vcLoad_spec hT hW hn' h hd
    exact ⟨_, _, hk, (by simp [execOp, hrun]), hd'⟩
  case fieldAddr t x f =>
    obtain ⟨sv, h, hd⟩ := ev_spec hA h
    obtain ⟨sv', v, hk, hd', hrun⟩ := vcFieldAddr_spec hT hW hn' h hd
    exact ⟨_, _, hk, (by simp [execOp, hrun]), hd'⟩
  case indexAddr t x j =>
    obtain ⟨sv, h', hd⟩ := ev_spec hA h
    clear h
    obtain ⟨pj, h, hj⟩ := evP_spec hA h'
    clear h'
    split at h
    · rename_i kd j'
      have hj := hj.of_v
      obtain ⟨sv', v, hk, hd', hrun⟩ := vcIndexAddr_spec hT hW hn' kd h hd
      exact ⟨_, _, hk, (by simp [execOp, hj, hrun]), hd'⟩
    · exact h.elim
  case field t x f =>
    obtain ⟨sv, h, hd⟩ := ev_spec hA h
    obtain ⟨sv', v, hk, hd', hrun⟩ := vcField_spec hT h hd
    exact ⟨_, _, hk, (by simp [execOp, hrun]), hd'⟩
  case index t x j =>
    obtain ⟨px, h', hx⟩ := evP_spec hA h
    clear h
    obtain ⟨pj, h, hj⟩ := evP_spec hA h'
    clear h'
    split at h
    · rename_i kd j'
      have hj := hj.of_v
      obtain ⟨sv', v, hk, hd', hrun⟩ := vcIndex_spec (ρ := ρ) (n := n) hT kd h hx
      exact ⟨_, _, hk, (by simp [execOp, hj, hrun]), hd'⟩
    · exact h.elim
  case slice t x lo hi mx =>
    split at h
    · exact h.elim
    · rename_i hne
      obtain ⟨sv, h, hd⟩ := ev_spec hA h
      obtain ⟨sv', v, hk, hd', hrun⟩ := vcSlice_spec hT hA h hd (by
        cases mx with
        | none => exact .inl rfl
        | some m =>
          cases hi with
          | none => exact (hne m rfl rfl).elim
          | some x => exact .inr (by simp))
      exact ⟨_, _, hk, by simp only [execOp, Sem.run_bind, hrun, Result.andThen_ok]; rfl, hd'⟩
  case makeFunc f first cap =>
    obtain ⟨l, h', hl⟩ := evs_spec hA first.toList h
    clear h
    obtain ⟨m, h, hm⟩ := evs_spec hA cap.toList h'
    rw [fSV_iff] at h
    refine ⟨_, _, h, ?_, clOf_den hl hm⟩
    have e1 : first.map a.eval = (first.toList.map a.eval).toArray := by apply Array.ext'; simp
    have e2 : cap.map a.eval = (cap.toList.map a.eval).toArray := by apply Array.ext'; simp
    simp only [execOp, Instr.makeFunc, Sem.run_bind, Sem.run_pure, Result.andThen_ok, e1, e2]
  case call c =>
    obtain ⟨callee, args, argTypes⟩ := c
    split at h
    · -- len
      rename_i hcal
      simp only at hcal
      subst hcal
      split at h
      · rename_i x t hargs htys
        simp only at hargs htys
        obtain ⟨sv, h, hd⟩ := ev_spec hA h
        obtain ⟨v, hk, hrun⟩ := vcLen_spec hT hW hn' h hd type
        have e1 : args = #[x] := by apply Array.ext'; simpa using hargs
        have e2 : argTypes = #[t] := by apply Array.ext'; simpa using htys
        subst e1 e2
        refine ⟨_, _, hk, ?_, .p (.v _)⟩
        simp only [execOp, resolve, invoke, builtin, Sem.run_bind, Sem.run_pure, Result.andThen_ok, List.map_toArray, List.map_cons, List.map_nil, hrun]
      · exact h.elim
    · -- max
      rename_i hcal
      simp only at hcal
      subst hcal
      obtain ⟨l, h, hl⟩ := evs_spec hA args.toList h
      obtain ⟨v, hk, hrun⟩ := vcMax_spec (P := P) hl h argTypes type
      refine ⟨_, _, hk, ?_, .p (.v _)⟩
      have e : args.map a.eval = (args.toList.map a.eval).toArray := by apply Array.ext'; simp
      simp only [execOp, resolve, invoke, builtin, Sem.run_bind, Sem.run_pure, Result.andThen_ok, e, hrun]
    · exact h.elim
  all_goals exact h.elim

/-- The functions that are called have bodies. -/
def FnOk (P : Program) (f : FuncId) : Prop := ∃ fn, P.funcs[f]? = some fn ∧ fn.body.isSome = true ∧ fn.name ≠ "runtime.NumGoroutine"

theorem callFunc_spec {f : FuncId} {fn : Func} (hf : P.funcs[f]? = some fn) (hb : fn.body.isSome = true) (hn : fn.name ≠ "runtime.NumGoroutine") (args : Array Value) (w : World) : (callFunc f args).run P w = .ok (.enter f args) w := by
  have hb' : fn.body.isNone = false := by cases h : fn.body <;> simp_all
  simp only [callFunc, Sem.run_bind, run_program, Result.andThen_ok, hf, hb']
  simp [hn]

theorem vcFn_spec {F : Nat} (hF : ∀ f, 2 < f → f < F → FnOk P f) (hA : SatA N sl n ρ S w a) {f : Operand} {args : List Operand} {k : FuncId → List SV → Prop} (h : vcFn F f args sl k) (ts : Array TypeId) (type : TypeId) :
    ∃ fi l xs, k fi l ∧ DenL ρ n w S l xs ∧ (do let d ← resolve a.eval { callee := .value f, args := args.toArray, argTypes := ts } type; invoke d.target d.args : Sem Next).run P w = .ok (.enter fi xs.toArray) w := by
  unfold vcFn at h
  obtain ⟨pf, h', hf⟩ := ev_spec hA h
  clear h
  have main : ∀ (fi : FuncId) (a' b' : List SV) (xa xb : List Value), a.eval f = .func (.func fi) xa.toArray xb.toArray → DenL ρ n w S a' xa → DenL ρ n w S b' xb → (bif Nat.blt 2 fi && Nat.blt fi F then evs sl args fun l => fL (a' ++ (l ++ b')) (k fi) else False) →
      ∃ fi l xs, k fi l ∧ DenL ρ n w S l xs ∧ (do let d ← resolve a.eval { callee := .value f, args := args.toArray, argTypes := ts } type; invoke d.target d.args : Sem Next).run P w = .ok (.enter fi xs.toArray) w := by
    intro fi a' b' xa xb hef ha hb h'
    rw [cond_false_iff] at h'
    obtain ⟨hlt, h⟩ := h'
    rw [Bool.and_eq_true, Nat.blt_eq, Nat.blt_eq] at hlt
    obtain ⟨l, h, hl⟩ := evs_spec hA args h
    rw [fL_iff] at h
    obtain ⟨fn, h1, h2, h3⟩ := hF fi hlt.1 hlt.2
    refine ⟨fi, _, xa ++ (args.map a.eval ++ xb), h, denL_app ha (denL_app hl hb), ?_⟩
    simp only [resolve, hef, Deferred.ofValue, invoke, Sem.run_bind, Sem.run_pure, Result.andThen_ok]
    rw [callFunc_spec h1 h2 h3]
    congr 2
    apply Array.ext'
    simp
  generalize hef : a.eval f = vf at hf main
  split at h'
  · cases hf with
    | p hr =>
      cases hr with
      | fn ha hb hh1 hh2 => exact main _ _ _ _ _ rfl (mapP_den ⟨ha, hh1⟩) (mapP_den ⟨hb, hh2⟩) h'
  · cases hf with
    | cl ha hb hh1 hh2 => exact main _ _ _ _ _ rfl ⟨ha, hh1⟩ ⟨hb, hh2⟩ h'
  · exact h'.elim

end
end Go.Pv

/-
  Operations: slices, strings, addresses.
-/
import Derived.Test.YtaaimcecdoeimaaGreatDoorMachB
namespace Go.Abs
section
variable {P : Program} {lm : List Nat} {m : Mp} {h : H} {w : World} {e : A → V} {ρ : Operand → Value}

theorem natOf_rel {v : V} {x : Value} (hx : VR m v x) {n : Nat} (hn : natOf v = some n) : ∃ k, x = .int k (n : Int) := by
  unfold natOf at hn
  split at hn
  · split at hn
    · cases hn; simp only [VR] at hx; subst hx; exact ⟨_, by congr 1; omega⟩
    · cases hn
  · cases hn

theorem run_sliceBound' {k : IntKind} {n y : Nat} {c : BoundsCode} (hle : n ≤ y) : (Instr.sliceBound (.int k (n : Int)) y c).run P w = .ok n w := by
  simp only [Instr.sliceBound, asIntOf, Sem.run_bind, Sem.run_pure, Result.andThen_ok]
  rw [if_pos (by omega)]
  simp

theorem trOpt_rel (hev : EvR P lm m e ρ) {x : Option Operand} {a : Option A} (hx : trOpt P lm x = some a) {d n : Nat} (hn : bndOf e d a = some n) :
    (x = none ∧ a = none ∧ n = d) ∨ ∃ y b k, x = some y ∧ a = some b ∧ ρ y = .int k (n : Int) := by
  cases x with
  | none => simp only [trOpt, Option.some.injEq] at hx; subst hx; simp only [bndOf, Option.some.injEq] at hn; exact .inl ⟨rfl, rfl, hn.symm⟩
  | some y =>
    simp only [trOpt, Option.map_eq_some_iff] at hx
    obtain ⟨b, hb, rfl⟩ := hx
    simp only [bndOf] at hn
    obtain ⟨k, hk⟩ := natOf_rel (hev y b hb) hn
    exact .inr ⟨y, b, k, rfl, rfl, hk⟩

/-- the three bounds -/
theorem run_bounds (hev : EvR P lm m e ρ) {isS : Bool} {len cap : Nat} {lo hi mx : Option Operand} {la ha ma : Option A} (hlo : trOpt P lm lo = some la) (hhi : trOpt P lm hi = some ha) (hmx : trOpt P lm mx = some ma)
    {a z c : Nat} (h1 : bndOf e 0 la = some a) (h2 : bndOf e len ha = some z) (h3 : bndOf e cap ma = some c) (h12 : a ≤ z) (h23 : z ≤ c) (h3c : c ≤ cap) (hnh : mx.isSome = true → hi.isSome = true) :
    (Instr.sliceBounds isS len cap (lo.map ρ) (hi.map ρ) (mx.map ρ)).run P w = .ok (a, z, c) w := by
  rcases trOpt_rel hev hmx h3 with ⟨rfl, rfl, rfl⟩ | ⟨y, b, k, rfl, rfl, hk⟩ <;>
  rcases trOpt_rel hev hhi h2 with ⟨rfl, rfl, rfl⟩ | ⟨y', b', k', rfl, rfl, hk'⟩ <;>
  rcases trOpt_rel hev hlo h1 with ⟨rfl, rfl, rfl⟩ | ⟨y1, b1, k1, rfl, rfl, hk1⟩
  · simp only [Instr.sliceBounds, Option.map_none, Sem.run_bind, Sem.run_pure, Result.andThen_ok]
  · simp only [Instr.sliceBounds, Option.map_none, Option.map_some, Sem.run_bind, Sem.run_pure, Result.andThen_ok, hk1, run_sliceBound' h12]
  · simp only [Instr.sliceBounds, Option.map_none, Option.map_some, Sem.run_bind, Sem.run_pure, Result.andThen_ok, hk', run_sliceBound' h23]
  · simp only [Instr.sliceBounds, Option.map_none, Option.map_some, Sem.run_bind, Sem.run_pure, Result.andThen_ok, hk', hk1, run_sliceBound' h23, run_sliceBound' h12]
  · simp at hnh
  · simp at hnh
  · simp only [Instr.sliceBounds, Option.map_none, Option.map_some, Sem.run_bind, Sem.run_pure, Result.andThen_ok, hk, hk', run_sliceBound' h3c, run_sliceBound' h23]
  · simp only [Instr.sliceBounds, Option.map_some, Sem.run_bind, Sem.run_pure, Result.andThen_ok, hk, hk', hk1, run_sliceBound' h3c, run_sliceBound' h23, run_sliceBound' h12]

theorem os_slStr (s : Sim P m h.get h.next w) (hev : EvR P lm m e ρ) {o : Oper} {t : TypeId} {x : Operand} {lo hi : Option Operand} (ho : o.op = .slice t x lo hi none) (ht : P.underlying t = some .string)
    {la ha : Option A} (hlo : trOpt P lm lo = some la) (hhi : trOpt P lm hi = some ha) {l : List UInt8} (hx : VR m (.str l) (ρ x)) {a z : Nat} (h1 : bndOf e 0 la = some a) (h2 : bndOf e l.length ha = some z) (h12 : a ≤ z) (h2l : z ≤ l.length) :
    OpS P m h w ((execOp ρ o).run P w) (.str ((l.drop a).take (z - a))) h := by
  simp only [VR] at hx
  obtain ⟨b, hx, rfl⟩ := hx
  have hsz : b.data.toList.length = b.size := by simp
  rw [hsz] at h2 h2l
  have hb := run_bounds (P := P) (w := w) hev (isS := false) (len := b.size) (cap := b.size) (mx := none) hlo hhi (ma := none) rfl h1 h2 (c := b.size) rfl h12 h2l (Nat.le_refl _) (by simp)
  refine OpS.val s (cv := .string (b.extract a z)) ?_ (by simp only [VR]; exact ⟨_, rfl, by simp [ByteArray.data_extract, List.extract_eq_take_drop]⟩)
  simp only [Option.map_none] at hb
  simp only [execOp, ho, Instr.sliceAt, Sem.run_bind, run_under ht, Result.andThen_ok, Instr.slice, hx, Option.map_none]
  simp [hb]

theorem addr_add (r o n : Nat) : (Addr.mk r o none).add n = ⟨r, o + n, none⟩ := add_off r o n

/-- a slice of a slice that is not nil -/
theorem os_slSl (s : Sim P m h.get h.next w) (hev : EvR P lm m e ρ) {o : Oper} {t el : TypeId} {x : Operand} {lo hi mx : Option Operand} (ho : o.op = .slice t x lo hi mx) (ht : P.underlying t = some (.slice el)) {sz : Nat} (hsz : szOf P el = some sz)
    (hnh : mx.isSome = true → hi.isSome = true)
    {la ha ma : Option A} (hlo : trOpt P lm lo = some la) (hhi : trOpt P lm hi = some ha) (hmx : trOpt P lm mx = some ma) {b f len : Nat} {cap : Cap} (hx : VR m (.sl b f len cap) (ρ x)) {v : V}
    {xa : A} (hxa : e xa = .sl b f len cap) {h' : H} (hv : evOp (.slSl sz xa la ha ma) e h = some (v, h')) :
    OpS P m h w ((execOp ρ o).run P w) v h' := by
  simp only [evOp, hxa] at hv
  simp only [VR] at hx
  obtain ⟨ca, cp, hx, hle, hk, hor⟩ := hx
  split at hv
  · rename_i a z h1 h2
    have fin : ∀ (c : Nat) (cap' : Cap), bndOf e cp ma = some c → a ≤ z → z ≤ c → c ≤ cp → (∀ k, cap' = .k k → c - a = k) → (∀ u, cap' = .u u → u = sz ∧ cap = .u u ∧ c = cp) →
        OpS P m h w ((execOp ρ o).run P w) (.sl b (f + a * sz) (z - a) cap') h := by
      intro c cap' h3 h12 h23 h3c hk1 hk2
      have hb := run_bounds (P := P) (w := w) hev (isS := true) (len := len) (cap := cp) hlo hhi hmx h1 h2 h3 h12 h23 h3c hnh
      refine OpS.val s (cv := .slice (if c = a then some ca else (some ca).map (·.add (a * sz))) (z - a) (c - a)) ?_ ?_
      · simp only [execOp, ho, Instr.sliceAt, Sem.run_bind, run_under ht, Result.andThen_ok, Instr.slice, hx, hb, run_sizeOf hsz, Sem.run_pure]
      · simp only [VR]
        by_cases hca : c = a
        · rw [if_pos hca]
          obtain ⟨y, hy, _⟩ := hor
          exact ⟨ca, c - a, rfl, by omega, hk1, y, hy, .inl (by omega)⟩
        · rw [if_neg hca]
          obtain ⟨y, hy, hor⟩ := hor
          refine ⟨ca.add (a * sz), c - a, rfl, by omega, hk1, y, hy, .inr ?_⟩
          rcases hor with h0 | ⟨hca', hu⟩
          · omega
          · refine ⟨by rw [hca', addr_add, Nat.add_assoc], fun u hu' => ?_⟩
            obtain ⟨rfl, hcap, rfl⟩ := hk2 u hu'
            have := hu u hcap
            have h5 : c * u = a * u + (c - a) * u := by rw [← Nat.add_mul]; congr 1; omega
            omega
    cases ma with
    | some mxa =>
      -- three bounds
      simp only [] at hv
      split at hv
      · rename_i c hc
        split at hv
        · rename_i hcond
          cases hv
          have h3 : bndOf e cp (some mxa) = some c := hc
          have hleast : cap.least len ≤ cp := by
            cases cap with
            | k c' => have := hk c' rfl; simp [Cap.least]; omega
            | u _ => simpa [Cap.least] using hle
          exact fin c _ h3 hcond.1 hcond.2.1 (by omega) (fun k hk => by cases hk; rfl) (fun u hu => by cases hu)
        · cases hv
      · cases hv
    | none =>
      simp only [] at hv
      split at hv
      · rename_i hcond
        cases hv
        have hleast : cap.least len ≤ cp := by
          cases cap with
          | k c' => have := hk c' rfl; simp [Cap.least]; omega
          | u _ => simpa [Cap.least] using hle
        refine fin cp _ rfl hcond.1 (by omega) (Nat.le_refl _) ?_ ?_
        · intro k hk'
          cases cap with
          | k c' => simp only [Cap.less] at hk'; cases hk'; have := hk c' rfl; omega
          | u _ => simp [Cap.less] at hk'
        · intro u hu
          cases cap with
          | k c' => simp [Cap.less] at hu
          | u u' => simp only [Cap.less] at hu; cases hu; have := hcond.2.2; simp only [Cap.fits, beq_iff_eq] at this; exact ⟨this, rfl, rfl⟩
      · cases hv
  · cases hv

theorem os_slSl_nil (s : Sim P m h.get h.next w) (hev : EvR P lm m e ρ) {o : Oper} {t el : TypeId} {x : Operand} {lo hi mx : Option Operand} (ho : o.op = .slice t x lo hi mx) (ht : P.underlying t = some (.slice el)) {sz : Nat} (hsz : szOf P el = some sz)
    (hnh : mx.isSome = true → hi.isSome = true)
    {la ha ma : Option A} (hlo : trOpt P lm lo = some la) (hhi : trOpt P lm hi = some ha) (hmx : trOpt P lm mx = some ma) (hx : VR m .nils (ρ x))
    (h1 : bndOf e 0 la = some 0) (h2 : bndOf e 0 ha = some 0) (h3 : bndOf e 0 ma = some 0) : OpS P m h w ((execOp ρ o).run P w) .nils h := by
  simp only [VR] at hx
  have hb := run_bounds (P := P) (w := w) hev (isS := true) (len := 0) (cap := 0) hlo hhi hmx h1 h2 h3 (Nat.le_refl _) (Nat.le_refl _) (Nat.le_refl _) hnh
  refine OpS.val s (cv := .slice none 0 0) ?_ (by simp only [VR])
  simp only [execOp, ho, Instr.sliceAt, Sem.run_bind, run_under ht, Result.andThen_ok, Instr.slice, hx, hb, run_sizeOf hsz, Sem.run_pure]
  simp

theorem os_slArr (s : Sim P m h.get h.next w) (hev : EvR P lm m e ρ) {o : Oper} {t el : TypeId} {n : Nat} {x : Operand} {lo hi mx : Option Operand} (ho : o.op = .slice t x lo hi mx)
    (ht : P.underlying t = some (.array n el) ∨ ∃ ar, P.underlying t = some (.pointer ar) ∧ P.underlying ar = some (.array n el)) {sz : Nat} (hsz : szOf P el = some sz)
    (hnh : mx.isSome = true → hi.isSome = true)
    {la ha ma : Option A} (hlo : trOpt P lm lo = some la) (hhi : trOpt P lm hi = some ha) (hmx : trOpt P lm mx = some ma) {b f : Nat} (hx : VR m (.ptr b f) (ρ x)) {a z c : Nat}
    (h1 : bndOf e 0 la = some a) (h2 : bndOf e n ha = some z) (h3 : bndOf e n ma = some c) (h12 : a ≤ z) (h23 : z ≤ c) (h3c : c ≤ n) :
    OpS P m h w ((execOp ρ o).run P w) (.sl b (f + a * sz) (z - a) (.k (c - a))) h := by
  obtain ⟨y, hy, hx⟩ := hx.ptr
  have hb := run_bounds (P := P) (w := w) hev (isS := false) (len := n) (cap := n) hlo hhi hmx h1 h2 h3 h12 h23 h3c hnh
  refine OpS.val s (cv := .slice (some (if c = a then ⟨y.blk, y.sh + f, none⟩ else (Addr.mk y.blk (y.sh + f) none).add (a * sz))) (z - a) (c - a)) ?_ ?_
  · rcases ht with ht | ⟨ar, ht, har⟩
    · simp only [execOp, ho, Instr.sliceAt, Sem.run_bind, run_under ht, Result.andThen_ok, Instr.sureAddr, hx, hb, run_sizeOf hsz, Sem.run_pure]
    · simp only [execOp, ho, Instr.sliceAt, Instr.slice, Sem.run_bind, run_under ht, run_under har, Result.andThen_ok, asAddr, hx, hb, run_sizeOf hsz, Sem.run_pure]
  · simp only [VR]
    by_cases hca : c = a
    · rw [if_pos hca]
      exact ⟨_, _, rfl, by omega, (fun k hk => by cases hk; rfl), y, hy, .inl (by omega)⟩
    · rw [if_neg hca]
      exact ⟨_, _, rfl, by omega, (fun k hk => by cases hk; rfl), y, hy, .inr ⟨by rw [addr_add, Nat.add_assoc], by simp⟩⟩

theorem os_faddr (s : Sim P m h.get h.next w) {o : Oper} {t : TypeId} {x : Operand} {i : Nat} (ho : o.op = .fieldAddr t x i) {fs : Array Field} (ht : P.underlying t = some (.struct fs)) {fd : Field} (hf : fs[i]? = some fd)
    (hz : (szOf P fd.type).getD 0 ≠ 0) {b f : Nat} (hx : VR m (.ptr b f) (ρ x)) : OpS P m h w ((execOp ρ o).run P w) (.ptr b (f + fd.offset)) h := by
  obtain ⟨y, hy, hx⟩ := hx.ptr
  obtain ⟨n, hn⟩ : ∃ n, szOf P fd.type = some n := by
    cases hh : szOf P fd.type with
    | none => simp [hh] at hz
    | some n => exact ⟨n, rfl⟩
  have hn0 : n ≠ 0 := by simpa [hn] using hz
  refine OpS.val s ?_ (by simp only [VR]; exact ⟨y, hy, rfl⟩)
  simp only [execOp, ho, Instr.fieldAt, Sem.run_bind, run_under ht, Result.andThen_ok, hf, Instr.sureAddr, hx, Sem.run_pure, fieldPlace, run_sizeOf hn]
  rw [if_neg hn0]
  simp [add_off, Nat.add_assoc]

theorem agg_part (_s : Sim P m h.get h.next w) {t : TypeId} {ag : Bool} {sz : Nat} (ha : isAggT P t = some ag) (hs : szOf P t = some sz) (h1 : (ag || sz == 1) = true) {l : List V} {xs : Array Value} (hl : VRs m l xs.toList) {off : Nat}
    (hle : off + sz ≤ l.length) {v : V} (hv : (if ag then some (.agg ((l.drop off).take sz)) else l[off]?) = some v) : ∃ cv, (part t xs off).run P w = .ok cv w ∧ VR m v cv := by
  have hlen := hl.length
  have hp := run_part (P := P) (w := w) ha hs (by rintro rfl; simpa using h1) (xs := xs.toList) (off := off) (by omega)
  refine ⟨_, hp, ?_⟩
  cases ag
  · simp only [Bool.false_eq_true, if_false] at hv
    obtain ⟨x, hx1, hx2⟩ := hl.get hv
    have : sz = 1 := by simpa using h1
    subst this
    have hlt : off < xs.toList.length := by omega
    rw [List.drop_eq_getElem_cons hlt]
    simp only [valOf, List.take_succ_cons, Bool.false_eq_true, if_false, List.headD_cons]
    rw [List.getElem?_eq_getElem hlt] at hx1
    cases hx1; exact hx2
  · simp only [if_true, Option.some.injEq] at hv
    subst hv
    simp only [valOf, if_true, VR]
    exact ⟨_, rfl, (hl.drop off).take sz⟩

theorem os_field (s : Sim P m h.get h.next w) {o : Oper} {t : TypeId} {x : Operand} {i : Nat} (ho : o.op = .field t x i) {fs : Array Field} (ht : P.underlying t = some (.struct fs)) {fd : Field} (hf : fs[i]? = some fd)
    {ag : Bool} {sz : Nat} (ha : isAggT P fd.type = some ag) (hs : szOf P fd.type = some sz) (h1 : (ag || sz == 1) = true) {l : List V} (hx : VR m (.agg l) (ρ x)) (hle : fd.offset + sz ≤ l.length) {v : V}
    (hv : (if ag then some (.agg ((l.drop fd.offset).take sz)) else l[fd.offset]?) = some v) : OpS P m h w ((execOp ρ o).run P w) v h := by
  simp only [VR] at hx
  obtain ⟨xs, hx, hl⟩ := hx
  obtain ⟨cv, h2, h3⟩ := agg_part s ha hs h1 hl hle hv
  refine OpS.val s ?_ h3
  simp only [execOp, ho, Instr.field, Sem.run_bind, run_under ht, Result.andThen_ok, hf, asAgg, hx, Sem.run_pure, h2]

theorem os_iaddr (s : Sim P m h.get h.next w) {o : Oper} {t el : TypeId} {x i : Operand} (ho : o.op = .indexAddr t x i) (ht : P.underlying t = some (.slice el)) {sz : Nat} (hs : szOf P el = some sz)
    {b f len : Nat} {cap : Cap} (hx : VR m (.sl b f len cap) (ρ x)) {k : IntKind} {n : Int} (hi : VR m (.int k n) (ρ i)) (h0 : 0 ≤ n) (h1 : n < len) : OpS P m h w ((execOp ρ o).run P w) (.ptr b (f + n.toNat * sz)) h := by
  simp only [VR] at hx hi
  obtain ⟨ca, cp, hx, hle, hk, hor⟩ := hx
  obtain ⟨y, hy, hor⟩ := hor
  rcases hor with hz | ⟨hca, _⟩
  · omega
  · refine OpS.val s ?_ (by simp only [VR]; exact ⟨y, hy, rfl⟩)
    simp only [execOp, ho, Instr.indexAt, hi, asIntOf, Sem.run_bind, Sem.run_pure, Result.andThen_ok, run_under ht, hx]
    rw [if_pos ⟨h0, h1⟩]
    simp only [Sem.run_bind, run_sizeOf hs, Result.andThen_ok, Sem.run_pure, hca, add_off, Nat.add_assoc]

theorem os_iaddrArr (s : Sim P m h.get h.next w) {o : Oper} {t el : TypeId} {x i : Operand} {len : Nat} (ho : o.op = .indexAddr t x i) (ht : P.underlying t = some (.array len el)) {sz : Nat} (hs : szOf P el = some sz)
    {b f : Nat} (hx : VR m (.ptr b f) (ρ x)) {k : IntKind} {n : Int} (hi : VR m (.int k n) (ρ i)) (h0 : 0 ≤ n) (h1 : n < len) : OpS P m h w ((execOp ρ o).run P w) (.ptr b (f + n.toNat * sz)) h := by
  obtain ⟨y, hy, hx⟩ := hx.ptr
  simp only [VR] at hi
  refine OpS.val s ?_ (by simp only [VR]; exact ⟨y, hy, rfl⟩)
  simp only [execOp, ho, Instr.indexAt, hi, asIntOf, Sem.run_bind, Sem.run_pure, Result.andThen_ok, run_under ht, hx, Instr.sureAddr]
  rw [if_pos ⟨h0, h1⟩]
  simp only [Sem.run_bind, run_sizeOf hs, Result.andThen_ok, Sem.run_pure, add_off, Nat.add_assoc]

theorem os_idxStr (s : Sim P m h.get h.next w) {o : Oper} {t : TypeId} {x i : Operand} (ho : o.op = .index t x i) (ht : P.underlying t = some .string) {l : List UInt8} (hx : VR m (.str l) (ρ x)) {k : IntKind} {n : Int} (hi : VR m (.int k n) (ρ i))
    (h0 : 0 ≤ n) {c : UInt8} (hc : l[n.toNat]? = some c) : OpS P m h w ((execOp ρ o).run P w) (.int .u8 c.toNat) h := by
  simp only [VR] at hx hi
  obtain ⟨b, hx, rfl⟩ := hx
  refine OpS.val s ?_ (by simp only [VR]; rfl)
  have hlt : n.toNat < b.size := by
    have := (List.getElem?_eq_some_iff.1 hc).1
    simpa using this
  have hb : b[n.toNat]? = some c := by
    rw [ByteArray.getElem?_lt' b _ hlt]
    have hd : b.data[n.toNat]? = some c := by simpa using hc
    rw [Array.getElem?_eq_getElem (by simpa using hlt)] at hd
    exact hd
  simp only [execOp, ho, Instr.index, hi, asIntOf, Sem.run_bind, Sem.run_pure, Result.andThen_ok, run_under ht, hx]
  rw [if_pos h0, hb]
  rfl

theorem os_idxArr (s : Sim P m h.get h.next w) {o : Oper} {t el : TypeId} {x i : Operand} {len : Nat} (ho : o.op = .index t x i) (ht : P.underlying t = some (.array len el)) {ag : Bool} {sz : Nat} (ha : isAggT P el = some ag) (hs : szOf P el = some sz)
    (h1 : (ag || sz == 1) = true) {l : List V} (hx : VR m (.agg l) (ρ x)) {k : IntKind} {n : Int} (hi : VR m (.int k n) (ρ i)) (h0 : 0 ≤ n) (hn : n < len) (hle : n.toNat * sz + sz ≤ l.length) {v : V}
    (hv : (if ag then some (.agg ((l.drop (n.toNat * sz)).take sz)) else l[n.toNat * sz]?) = some v) : OpS P m h w ((execOp ρ o).run P w) v h := by
  simp only [VR] at hx hi
  obtain ⟨xs, hx, hl⟩ := hx
  obtain ⟨cv, h2, h3⟩ := agg_part s ha hs h1 hl hle hv
  refine OpS.val s ?_ h3
  simp only [execOp, ho, Instr.index, hi, asIntOf, Sem.run_bind, Sem.run_pure, Result.andThen_ok, run_under ht, hx]
  rw [if_pos ⟨h0, hn⟩]
  simp only [Sem.run_bind, run_sizeOf hs, Result.andThen_ok, h2]

end
end Go.Abs

namespace Go.Abs
section
variable {P : Program} {lm : List Nat} {m : Mp} {h : H} {w : World} {e : A → V} {ρ : Operand → Value}

/-- a builtin's run, one operand -/
theorem run_builtin1 {o : Oper} {c : Call} (ho : o.op = .call c) {b : Builtin} (hc : c.callee = .builtin b) {x : Operand} (hargs : c.args.toList = [x]) {r : Result Next}
    (hr : (builtin b c.argTypes o.type (c.args.map fun | .const _ => true | _ => false) #[ρ x]).run P w = r) : (execOp ρ o).run P w = r := by
  have ha : (c.args.map ρ) = #[ρ x] := by apply Array.ext'; rw [Array.toList_map, hargs]; rfl
  rw [← hr]
  simp only [execOp, ho, resolve, hc, Sem.run_bind, Sem.run_pure, Result.andThen_ok, invoke, ha]
  rfl

theorem run_builtin2 {o : Oper} {c : Call} (ho : o.op = .call c) {b : Builtin} (hc : c.callee = .builtin b) {x y : Operand} (hargs : c.args.toList = [x, y]) {r : Result Next}
    (hr : (builtin b c.argTypes o.type (c.args.map fun | .const _ => true | _ => false) #[ρ x, ρ y]).run P w = r) : (execOp ρ o).run P w = r := by
  have ha : (c.args.map ρ) = #[ρ x, ρ y] := by apply Array.ext'; rw [Array.toList_map, hargs]; rfl
  rw [← hr]
  simp only [execOp, ho, resolve, hc, Sem.run_bind, Sem.run_pure, Result.andThen_ok, invoke, ha]
  rfl

theorem ERs.length {m : Mp} : ∀ {l : List (V × V × Nat)} {r : List MapEntry}, ERs m l r → l.length = r.length
  | [], _, h => by simp only [ERs] at h; subst h; rfl
  | _ :: l, _, h => by simp only [ERs] at h; obtain ⟨x, r', rfl, _, b⟩ := h; simp [ERs.length b]

/-- what a type's length is asked of -/
def lenFit : TypeDesc → V → Bool
  | .string, .str _ | .slice _, .nils | .slice _, .sl .. | .map _ _, .nilm | .map _ _, .map _ => true
  | _, _ => false

theorem os_len (s : Sim P m h.get h.next w) {o : Oper} {c : Call} (ho : o.op = .call c) (hc : c.callee = .builtin .len) {t : TypeId} (ht : c.argTypes[0]? = some t) {x : Operand} (hargs : c.args.toList = [x])
    {d : TypeDesc} (hd : P.underlying t = some d) {v u : V} (hx : VR m v (ρ x)) (hfit : lenFit d v = true) {ln : Nat} (hv : lenV h v = some ln) (hu : u = .int .i64 ln) : OpS P m h w ((execOp ρ o).run P w) u h := by
  have go : ∀ n : Nat, (Builtin.len_ c.argTypes o.type #[ρ x]).run P w = .ok (goInt n) w → u = .int .i64 n → OpS P m h w ((execOp ρ o).run P w) u h := by
    intro n h1 h2
    subst h2
    refine OpS.val s (cv := goInt n) (run_builtin1 ho hc hargs ?_) (by simp only [VR, goInt])
    simp only [builtin, Sem.run_bind, h1, Result.andThen_ok, Sem.run_pure]
  cases v <;> simp only [lenFit, Bool.false_eq_true] at hfit <;> simp only [lenV, Option.some.injEq] at hv
  · rename_i l
    cases d <;> simp only [Bool.false_eq_true] at hfit
    simp only [VR] at hx; obtain ⟨b, hx, rfl⟩ := hx
    exact go b.data.toList.length (by simp [Builtin.len_, ht, hx, run_under hd]) (by rw [hu, ← hv])
  · cases d <;> simp only [Bool.false_eq_true] at hfit
    simp only [VR] at hx
    exact go 0 (by simp [Builtin.len_, ht, hx, run_under hd]) (by rw [hu, ← hv])
  · cases d <;> simp only [Bool.false_eq_true] at hfit
    simp only [VR] at hx; obtain ⟨ca, cp, hx, _⟩ := hx
    subst hv; exact go _ (by simp [Builtin.len_, ht, hx, run_under hd]) hu
  · cases d <;> simp only [Bool.false_eq_true] at hfit
    simp only [VR] at hx
    exact go 0 (by simp [Builtin.len_, ht, hx, run_under hd]) (by rw [hu, ← hv])
  · rename_i b
    cases d <;> simp only [Bool.false_eq_true] at hfit
    split at hv
    · rename_i es cl hg
      simp only [Option.some.injEq] at hv
      simp only [VR] at hx
      obtain ⟨y, hy, hx⟩ := hx
      obtain ⟨co, h1, es', rfl, h2⟩ := s.obj b y _ hy hg (by simp)
      have hl := h2.length
      simp only [Array.length_toList] at hl
      exact go es.length (by simp [Builtin.len_, ht, hx, run_under hd, getObj, Sem.run, h1, hl]) (by rw [hu, ← hv])
    · cases hum : um (h.get b) with
      | none => rw [hum] at hv; cases hv
      | some es =>
        rw [hum] at hv
        simp only [Option.map_some, Option.some.injEq] at hv
        have hg : h.get b = some (.umap es) := by
          unfold um at hum
          split at hum
          · rename_i e; cases hum; exact e
          · cases hum
        simp only [VR] at hx
        obtain ⟨y, hy, hx⟩ := hx
        obtain ⟨co, h1, l, cl, es', rfl, h2, hp⟩ := s.obj b y _ hy hg (by simp)
        have hl := h2.length
        have hl2 := hp.length_eq
        simp only [Array.length_toList] at hl
        rw [List.length_map] at hl2
        rw [hl2] at hl
        exact go es.length (by simp [Builtin.len_, ht, hx, run_under hd, getObj, Sem.run, h1, hl]) (by rw [hu, ← hv])

theorem os_cap (s : Sim P m h.get h.next w) {o : Oper} {c : Call} (ho : o.op = .call c) (hc : c.callee = .builtin .cap) {t : TypeId} (ht : c.argTypes[0]? = some t) {x : Operand} (hargs : c.args.toList = [x])
    {el : TypeId} (hd : P.underlying t = some (.slice el)) {v u : V} (hx : VR m v (ρ x)) (hv : evOp (.capOf (.c v)) (evA [] []) h = some (u, h)) : OpS P m h w ((execOp ρ o).run P w) u h := by
  have go : ∀ n : Nat, (Builtin.cap_ c.argTypes o.type #[ρ x]).run P w = .ok (goInt n) w → u = .int .i64 n → OpS P m h w ((execOp ρ o).run P w) u h := by
    intro n h1 h2
    subst h2
    refine OpS.val s (cv := goInt n) (run_builtin1 ho hc hargs ?_) (by simp only [VR, goInt])
    simp only [builtin, Sem.run_bind, h1, Result.andThen_ok, Sem.run_pure]
  simp only [evOp, evA] at hv
  split at hv
  · cases hv
    simp only [VR] at hx
    exact go 0 (by simp [Builtin.cap_, ht, hx, run_under hd]) rfl
  · cases hv
    simp only [VR] at hx; obtain ⟨ca, cp, hx, _, hk, _⟩ := hx
    have := hk _ rfl; subst this
    exact go cp (by simp [Builtin.cap_, ht, hx, run_under hd]) rfl
  · cases hv

/-- the elements of a slice or a string -/
theorem src_run (s : Sim P m h.get h.next w) {sz n : Nat} {v : V} {x : Value} (hx : VR m v x) {cs : List V} (hs : srcOf h sz v = some (n, cs)) :
    (Builtin.lenOf x).run P w = .ok n w ∧ ∀ k, k ≤ n → ∃ cv : List Value, (Builtin.firstCells sz k x).run P w = .ok cv.toArray w ∧ VRs m (cs.take (k * sz)) cv ∧ cv.length = k * sz := by
  unfold srcOf at hs
  split at hs
  · cases hs
    simp only [VR] at hx; subst hx
    refine ⟨rfl, fun k hk => ⟨[], rfl, by simpa using VRs.nil, ?_⟩⟩
    have : k = 0 := by omega
    simp [this]
  · rename_i b o len cap
    simp only [Option.map_eq_some_iff] at hs
    obtain ⟨c, hrd, hs⟩ := hs
    cases hs
    simp only [VR] at hx
    obtain ⟨ca, cp, rfl, hle, hk, hor⟩ := hx
    refine ⟨rfl, fun k hkn => ?_⟩
    by_cases hk0 : k * sz = 0
    · refine ⟨[], ?_, (by rw [hk0]; simpa using VRs.nil), (by simp [hk0])⟩
      simp [Builtin.firstCells, hk0, loadCells, loadCellsFrom]
    · have hkpos : 0 < k := Nat.pos_of_ne_zero (by rintro rfl; simp at hk0)
      obtain ⟨y, hy, hor⟩ := hor
      rcases hor with h0 | ⟨hca, _⟩
      · omega
      · obtain ⟨cc, hg, hl, rfl⟩ := rd_some hrd
        obtain ⟨ccc, el, fr, hw, h1, h2, h3⟩ := s.rcells hy hg
        have hkl : k * sz ≤ n * sz := Nat.mul_le_mul_right _ hkn
        refine ⟨(ccc.toList.drop (y.sh + o)).take (k * sz), ?_, ?_, by simp; omega⟩
        · simp only [Builtin.firstCells, hca]
          rw [run_loadCells hw _ _ (by omega)]
        · rw [List.take_take, Nat.min_eq_left hkl]
          have := (h3.drop o).take (k * sz)
          rwa [List.drop_take, List.drop_drop, List.take_take, Nat.min_eq_left (by omega)] at this
  · rename_i l
    split at hs
    · rename_i h1; subst h1
      cases hs
      simp only [VR] at hx
      obtain ⟨b, rfl, rfl⟩ := hx
      refine ⟨by simp [Builtin.lenOf], fun k hk => ⟨(b.data.toList.take k).map fun c => Value.int .u8 c.toNat, ?_, ?_, ?_⟩⟩
      · simp only [Builtin.firstCells, Sem.run_pure]
        congr 1
        apply Array.ext'
        simp [ByteArray.data_extract, List.extract_eq_take_drop]
      · rw [← List.map_take, Nat.mul_one]
        generalize b.data.toList.take k = q
        induction q with
        | nil => exact VRs.nil
        | cons c q ih => exact VRs.cons (by simp only [VR]) ih
      · simp only [List.length_map, List.length_take, Nat.mul_one]; omega
    · cases hs
  · cases hs

theorem src_length {sz n : Nat} {v : V} {cs : List V} (hs : srcOf h sz v = some (n, cs)) : cs.length = n * sz := by
  unfold srcOf at hs
  split at hs
  · cases hs; simp
  · simp only [Option.map_eq_some_iff] at hs
    obtain ⟨c, hrd, hs⟩ := hs
    cases hs
    obtain ⟨cc, hg, hl, rfl⟩ := rd_some hrd
    simp; omega
  · split at hs
    · rename_i h1; subst h1; cases hs; simp
    · cases hs
  · cases hs

/-- a new row with places to spare -/
theorem sim_newRow' (_s : Sim P m h.get h.next w) {c : List V} {cc : Array Value} (el : TypeId) {r : List Value} (hcc : ∃ rest, cc.toList = r ++ rest) (hc : VRs m c r) {w1 : World} (hw1 : w1.heap = w.heap) (hr : w1.tape = w.tape ∧ w1.os = w.os ∧ w1.output = w.output) {h0 : H} (hh : h0.next = h.next) (s0 : Sim P m h0.get h0.next w)
    (ex0 : Ex m h.get h.next w m h0.get h0.next w) :
    ∃ w' m', (newRow el cc).run P w1 = .ok ⟨w.heap.size, 0, none⟩ w' ∧ m' h.next = some ⟨w.heap.size, 0, cc.size⟩ ∧
      Sim P m' (h0.push (.cells c)).get (h0.push (.cells c)).next w' ∧ Ex m h.get h.next w m' (h0.push (.cells c)).get (h0.push (.cells c)).next w' := by
  obtain ⟨rest, hrest⟩ := hcc
  have hl := hc.length
  have hsz : cc.size = r.length + rest.length := by have := congrArg List.length hrest; simpa using this
  have hor : OR P (upd m h0.next (some ⟨w.heap.size, 0, cc.size⟩)) ⟨w.heap.size, 0, cc.size⟩ (.cells c) (.cells cc el) := by
    refine ⟨cc, el, (0, 0), rfl, by simp; omega, by simp, (fun i _ => by simp), ?_⟩
    simp only [List.drop_zero]
    rw [hrest, hl, List.take_left']
    · exact hc.mono (Mle.upd s0 _)
    · rfl
  refine ⟨{ w1 with heap := w1.heap.push (.cells cc el) }, upd m h0.next (some ⟨w.heap.size, 0, cc.size⟩), by simp [newRow, hw1], by rw [← hh]; exact upd_same _ _ _, ?_, ?_⟩
  · rw [get_push_upd]
    exact s0.push (co := .cells cc el) rfl (by simp [hw1]) hor
  · refine ex0.trans ?_
    rw [get_push_upd]
    exact Ex.push (co := .cells cc el) s0 rfl (by simp [hw1]) hr

theorem room_fits {need old bytes : Nat} (h : old < need) (hr : roomOK need bytes = true) : ¬ Builtin.nextslicecap need old * bytes > 2 ^ 48 := by
  simp only [roomOK, decide_eq_true_eq] at hr
  have h1 := nextslicecap_le h
  have : Builtin.nextslicecap need old * bytes ≤ (2 * need + 200) * (bytes + 1) := Nat.mul_le_mul (by omega) (by omega)
  omega

theorem run_append_in {ts : Array TypeId} {t0 t1 el : TypeId} {i : TypeInfo} (ht0 : ts[0]? = some t0) (hd0 : P.underlying t0 = some (.slice el)) (ht1 : ts[1]? = some t1) (hd1 : sliceOrStr (P.underlying t1) = true)
    (hi : P.info? el = some i) (ty : TypeId) {a : Addr} {len cp n : Nat} {x : Value} (hlen : (Builtin.lenOf x).run P w = .ok n w) (hle : len + n ≤ cp) {new : List Value} (hf : (Builtin.firstCells i.size n x).run P w = .ok new.toArray w)
    {w' : World} (hst : (storeCells (a.add (len * i.size)) new).run P w = .ok () w') : (Builtin.append_ ts ty #[.slice (some a) len cp, x]).run P w = .ok (.slice (some a) (len + n) cp) w' := by
  unfold sliceOrStr at hd1
  split at hd1
  · rename_i e1 hu
    simp [Builtin.append_, ht0, ht1, run_under hd0, run_under hu, sizeOf, typeInfo, hi, hlen, hle, hf, hst]
  · rename_i hu
    simp [Builtin.append_, ht0, ht1, run_under hd0, run_under hu, sizeOf, typeInfo, hi, hlen, hle, hf, hst]
  · cases hd1

theorem run_append_out {ts : Array TypeId} {t0 t1 el : TypeId} {i : TypeInfo} (ht0 : ts[0]? = some t0) (hd0 : P.underlying t0 = some (.slice el)) (ht1 : ts[1]? = some t1) (hd1 : sliceOrStr (P.underlying t1) = true)
    (hi : P.info? el = some i) (hb : i.bytes ≠ 0) {z : Value} (hz : i.zero = some z) (ty : TypeId) {base : Option Addr} {len cp n : Nat} {x : Value} (hlen : (Builtin.lenOf x).run P w = .ok n w) (hgt : cp < len + n)
    (hroom : ¬ Builtin.nextslicecap (len + n) cp * i.bytes > 2 ^ 48) {old new : List Value} (hfo : (Builtin.firstCells i.size len (.slice base len cp)).run P w.drew = .ok old.toArray w.drew) (hf : (Builtin.firstCells i.size n x).run P w.drew = .ok new.toArray w.drew) :
    ∃ (rest : Array Value) (cap : Nat), len + n ≤ cap ∧ rest.size = (cap - (len + n)) * z.cells.size ∧
      (Builtin.append_ ts ty #[.slice base len cp, x]).run P w = ((newRow el (old.toArray ++ new.toArray ++ rest)).run P w.drew).andThen fun a w' => .ok (.slice (some a) (len + n) cap) w' := by
  refine ⟨Builtin.zeroCells z.cells (grownCap w (len + n) cp el - (len + n)), grownCap w (len + n) cp el, ?_, ?_, ?_⟩
  · simp [grownCap, Question.cut]
  · simp [Builtin.zeroCells]
  have hn : ¬ (len + n ≤ cp) := by omega
  have hr' : ¬ (281474976710656 < Builtin.nextslicecap (len + n) cp * i.bytes) := by simpa using hroom
  unfold sliceOrStr at hd1
  split at hd1
  · rename_i e1 hu
    simp [Builtin.append_, ht0, ht1, run_under hd0, run_under hu, sizeOf, typeInfo, zeroValue, hi, hz, hlen, hn, hb, hr', Question.forced, hf, hfo, newRow, grownCap]
    rw [← Array.append_assoc, show old.toArray ++ new.toArray = (old ++ new).toArray from by apply Array.ext'; simp]; rfl
  · rename_i hu
    simp [Builtin.append_, ht0, ht1, run_under hd0, run_under hu, sizeOf, typeInfo, zeroValue, hi, hz, hlen, hn, hb, hr', Question.forced, hf, hfo, newRow, grownCap]
    rw [← Array.append_assoc, show old.toArray ++ new.toArray = (old ++ new).toArray from by apply Array.ext'; simp]; rfl
  · cases hd1

theorem list_adopt {α : Type} (L new : List α) (k a n : Nat) (hn : new.length = n) (h : k + a + n ≤ L.length) :
    ((L.take (k + a) ++ (new ++ L.drop (k + a + n))).drop k).take (a + n) = (L.drop k).take a ++ new := by
  apply List.ext_getElem?
  intro i
  simp only [List.getElem?_take, List.getElem?_drop, List.getElem?_append, List.length_take, List.length_drop]
  rw [Nat.min_eq_left (show k + a ≤ L.length by omega), Nat.min_eq_left (show a ≤ L.length - k by omega)]
  by_cases h1 : i < a + n
  · rw [if_pos h1]
    by_cases h2 : i < a
    · rw [if_pos (by omega), if_pos (by omega), if_pos h2, if_pos h2]
    · rw [if_neg (by omega), if_pos (by omega), if_neg h2]
      congr 1; omega
  · rw [if_neg h1, if_neg (by omega), List.getElem?_eq_none (by omega)]

theorem firstCells_drew {sz k : Nat} {x : Value} {w : World} {r : Array Value} (h : (Builtin.firstCells sz k x).run P w = .ok r w) (hx : ∀ (a : Addr) n c, x = .slice (some a) n c → ∃ cc e fr off, a = ⟨a.block, off, none⟩ ∧ w.heap[a.block]? = some (.cells cc e fr) ∧ off + k * sz ≤ cc.size) :
    (Builtin.firstCells sz k x).run P w.drew = .ok r w.drew := by
  unfold Builtin.firstCells at h ⊢
  split
  · rename_i a n c
    obtain ⟨cc, e, fr, off, h1, h2, h3⟩ := hx a n c rfl
    simp only [] at h
    rw [h1, run_loadCells h2 _ _ h3] at h
    rw [h1, run_loadCells (w := w.drew) h2 _ _ h3]
    cases h; rfl
  · simp only [Sem.run_pure] at h ⊢; cases h; rfl
  · simp only [Sem.run_pure] at h ⊢; cases h; rfl
  · rename_i h1 h2 h3
    exfalso
    split at h
    · exact h1 _ _ _ rfl
    · exact h2 _ _ rfl
    · exact h3 _ rfl
    · cases h

theorem Sim.drew (s : Sim P m h.get h.next w) : Sim P m h.get h.next w.drew := s.heap rfl

theorem all_take {l : List V} {p : V → Bool} (h : l.all p = true) (n : Nat) : (l.take n).all p = true := by
  rw [List.all_eq_true] at h ⊢
  intro x hx
  exact h x (List.mem_of_mem_take hx)

theorem os_append (s : Sim P m h.get h.next w) {o : Oper} {c : Call} (ho : o.op = .call c) (hc : c.callee = .builtin .append) {t0 t1 el : TypeId} {i : TypeInfo} (ht0 : c.argTypes[0]? = some t0) (hd0 : P.underlying t0 = some (.slice el))
    (ht1 : c.argTypes[1]? = some t1) (hd1 : sliceOrStr (P.underlying t1) = true) (hi : P.info? el = some i) (hb : i.bytes ≠ 0) {zc : List V} (hz : zeroC P el = some zc) (hzl : zc.length = i.size) {x y : Operand} (hargs : c.args.toList = [x, y])
    {sv xv : V} (hsv : VR m sv (ρ x)) (hxv : VR m xv (ρ y)) {n : Nat} {cs : List V} (hsrc : srcOf h i.size xv = some (n, cs)) {u : V} {h' : H} (hv : appendV i.size i.bytes sv n cs h = some (u, h')) :
    OpS P m h w ((execOp ρ o).run P w) u h' := by
  obtain ⟨hlen, hsrc1⟩ := src_run s hxv hsrc
  obtain ⟨cv, hcv1, hcv2, hcv3⟩ := hsrc1 n (Nat.le_refl _)
  have hcl := src_length hsrc
  rw [← hcl, List.take_length] at hcv2
  obtain ⟨_, hsrcd⟩ := src_run s.drew hxv hsrc
  obtain ⟨cd, hcd1, hcd2, hcd3⟩ := hsrcd n (Nat.le_refl _)
  rw [← hcl, List.take_length] at hcd2
  obtain ⟨z, hz0, hzs⟩ : ∃ z, i.zero = some z ∧ z.cells.size = i.size := by
    simp only [zeroC, zeroV, hi, Option.bind_some, Option.bind_eq_some_iff] at hz
    obtain ⟨v, ⟨z, h1, h2⟩, h3⟩ := hz
    have := ((ofV_rel (m := m) h2).parts h3).length
    exact ⟨z, h1, by simpa [hzl] using this.symm⟩
  -- the run of the whole
  have fin : ∀ {w' : World} {cvv : Value} {m' : Mp}, (Builtin.append_ c.argTypes o.type #[ρ x, ρ y]).run P w = .ok cvv w' → VR m' u cvv → Sim P m' h'.get h'.next w' → Ex m h.get h.next w m' h'.get h'.next w' →
      OpS P m h w ((execOp ρ o).run P w) u h' := by
    intro w' cvv m' h1 h2 h3 h4
    refine ⟨w', m', cvv, _, run_builtin2 ho hc hargs (r := .ok (.value cvv) w') ?_, .inl rfl, h2, h3, h4⟩
    simp only [builtin, Sem.run_bind, h1, Result.andThen_ok, Sem.run_pure]
  -- a new array
  have grow : ∀ {base : Option Addr} {len cp : Nat} {old : List V} {h0 : H}, ρ x = .slice base len cp → cp < len + n → roomOK (len + n) i.bytes = true →
      (∃ co : List Value, (Builtin.firstCells i.size len (.slice base len cp)).run P w.drew = .ok co.toArray w.drew ∧ VRs m old co) → h0.next = h.next → Sim P m h0.get h0.next w → Ex m h.get h.next w m h0.get h0.next w →
      u = .sl h.next 0 (len + n) (.u i.size) → h' = h0.push (.cells (old ++ cs)) → old.length = len * i.size → OpS P m h w ((execOp ρ o).run P w) u h' := by
    intro base len cp old h0 hx hgt hroom ⟨co, hco1, hco2⟩ hh s0 ex0 hu hh' hol
    obtain ⟨rest, cap, hcap, hrest, hrun⟩ := run_append_out ht0 hd0 ht1 hd1 hi hb hz0 o.type hlen hgt (room_fits hgt hroom) hco1 hcd1
    obtain ⟨w', m', h1, h2, h3, h4⟩ := sim_newRow' s (c := old ++ cs) (cc := co.toArray ++ cd.toArray ++ rest) el (r := co ++ cd) ⟨rest.toList, by simp⟩ (hco2.append hcd2) (w1 := w.drew) rfl ⟨rfl, rfl, rfl⟩ hh s0 ex0
    subst hu hh'
    refine fin (cvv := .slice (some ⟨w.heap.size, 0, none⟩) (len + n) cap) ?_ ?_ h3 h4
    · rw [hx, hrun, h1]; rfl
    · simp only [VR]
      refine ⟨_, cap, rfl, hcap, by simp, _, h2, .inr ⟨rfl, fun z' hz' => ?_⟩⟩
      cases hz'
      have hcol := hco2.length
      simp only [Array.size_append, List.size_toArray, hrest, hzs]
      have : cap * i.size = len * i.size + n * i.size + (cap - (len + n)) * i.size := by
        rw [← Nat.add_mul, ← Nat.add_mul]; congr 1; omega
      omega
  unfold appendV at hv
  split at hv
  · -- nothing is appended
    rename_i hn; subst hn
    split at hv
    · cases hv
      have hx := hsv
      simp only [VR] at hx
      refine fin (cvv := .slice none 0 0) ?_ (by simp only [VR]) s (Ex.refl _ _ _ _ fun b x e => (s.dom b x e).1)
      have h0 : (Builtin.firstCells i.size 0 (ρ y)).run P w = .ok #[] w := by
        have : cv = [] := List.eq_nil_of_length_eq_zero (by simpa using hcv3)
        rw [hcv1, this]
      unfold sliceOrStr at hd1
      split at hd1
      · rename_i e1 hu
        simp [Builtin.append_, ht0, ht1, run_under hd0, run_under hu, sizeOf, typeInfo, hi, hx, hlen, h0]
      · rename_i hu
        simp [Builtin.append_, ht0, ht1, run_under hd0, run_under hu, sizeOf, typeInfo, hi, hx, hlen, h0]
      · cases hd1
    · rename_i b f len cap
      cases hv
      have hx := hsv
      simp only [VR] at hx
      obtain ⟨ca, cp, hx, hle, hk, hor⟩ := hx
      have h0 : cv = [] := List.eq_nil_of_length_eq_zero (by simpa using hcv3)
      subst h0
      refine fin (cvv := .slice (some ca) (len + 0) cp) ?_ ?_ s (Ex.refl _ _ _ _ fun b x e => (s.dom b x e).1)
      · rw [hx]
        exact run_append_in ht0 hd0 ht1 hd1 hi o.type hlen (by omega) hcv1 (by simp [storeCells])
      · simpa [hx] using hsv
    · cases hv
  · rename_i hn
    split at hv
    · cases hv
    · rename_i hok
      have hok' : cs.all V.cellOK = true := by simpa using hok
      split at hv
      · -- nil
        split at hv
        · rename_i hroom
          cases hv
          simp only [VR] at hsv
          refine grow (old := []) (h0 := h) hsv (by omega) (by simpa using hroom) ⟨[], by simp [Builtin.firstCells], VRs.nil⟩ rfl s (Ex.refl _ _ _ _ fun b x e => (s.dom b x e).1) (by simp) (by simp) (by simp)
        · cases hv
      · -- the capacity is known
        rename_i b f len c'
        have hx := hsv
        simp only [VR] at hx
        obtain ⟨ca, cp, hx, hle, hk, hor⟩ := hx
        have := hk c' rfl; subst this
        split at hv
        · rename_i hin
          simp only [Option.map_eq_some_iff] at hv
          obtain ⟨h1, hwr, hv⟩ := hv
          cases hv
          obtain ⟨mb, hmb, hor⟩ := hor
          rcases hor with h0 | ⟨hca, hu⟩
          · omega
          · obtain ⟨w', h3, h4, h5⟩ := s.wr hmb hwr hcv2 hok'
            refine fin (cvv := .slice (some ca) (len + n) cp) (m' := m) ?_ ?_ h4 h5
            · rw [hx]
              refine run_append_in ht0 hd0 ht1 hd1 hi o.type hlen hin hcv1 ?_
              rw [hca, addr_add, Nat.add_assoc]; exact h3
            · simp only [VR]
              exact ⟨ca, cp, rfl, hin, (fun c hc => by cases hc; rfl), mb, hmb, .inr ⟨hca, hu⟩⟩
        · rename_i hin
          split at hv
          · cases hv
          · rename_i hroom
            split at hv
            · rename_i old hrd
              cases hv
              have hso : srcOf h i.size (.sl b f len (.k cp)) = some (len, old) := by simp [srcOf, hrd]
              obtain ⟨_, ho1⟩ := src_run s.drew hsv hso
              obtain ⟨co, hco1, hco2, _⟩ := ho1 len (Nat.le_refl _)
              have hol := src_length hso
              rw [← hol, List.take_length] at hco2
              rw [hx] at hco1
              exact grow (old := old) (h0 := h) hx (by omega) (by simpa using hroom) ⟨co, hco1, hco2⟩ rfl s (Ex.refl _ _ _ _ fun b x e => (s.dom b x e).1) rfl rfl hol
            · cases hv
      · -- the capacity is not known
        rename_i b f len esz
        split at hv
        · cases hv
        · rename_i hcond
          simp only [Bool.or_eq_true, Bool.not_eq_true', bne_iff_ne, ne_eq, not_or, Bool.not_eq_false, Decidable.not_not] at hcond
          obtain ⟨hroom, hez⟩ := hcond
          subst hez
          split at hv
          · rename_i old hrdc
            have hrd := rdc_rd hrdc
            cases hv
            have hx := hsv
            simp only [VR] at hx
            obtain ⟨ca, cp, hx, hle, hk, hor⟩ := hx
            have hso : srcOf h i.size (.sl b f len (.u i.size)) = some (len, old) := by simp [srcOf, hrd]
            have hol := src_length hso
            obtain ⟨ocs, hog, hole, hoeq⟩ := rdc_some hrdc
            have hlive : live h.get b := ⟨_, hog, by simp⟩
            by_cases hin : len + n ≤ cp
            · -- in place
              obtain ⟨mb, hmb, hor⟩ := hor
              rcases hor with h0 | ⟨hca, hu⟩
              · omega
              · have hub := hu _ rfl
                obtain ⟨cc, ety, fr, hw, q1, q2, q3, q4⟩ := s.cells hmb hog
                have hcvl : cv.length = n * i.size := hcv3
                have hmul : len * i.size + n * i.size ≤ cp * i.size := by rw [← Nat.add_mul]; exact Nat.mul_le_mul_right _ hin
                obtain ⟨w', r1, r2, r3, r4, r5⟩ := run_storeCells (P := P) mb.blk (mb.sh + f + len * i.size) cv 0 w cc ety fr hw (by omega)
                  (fun j hj hj' => by
                    have := q3 (j - mb.sh) (by omega)
                    rwa [show mb.sh + (j - mb.sh) = j from by omega] at this) (flats_of hok' hcv2)
                have hmbn : b ≠ h.next := by have := (s.dom b mb hmb).1; omega
                have hor' : OR P (upd m h.next (some ⟨mb.blk, mb.sh + f, mb.lim - f⟩)) ⟨mb.blk, mb.sh + f, mb.lim - f⟩ (.cells (old ++ cs))
                    (.cells (cc.toList.take (mb.sh + f + len * i.size + 0) ++ (cv ++ cc.toList.drop (mb.sh + f + len * i.size + 0 + cv.length))).toArray ety fr) := by
                  refine ⟨_, ety, fr, rfl, ?_, ?_, ?_, ?_⟩
                  · simp only [List.length_append, hol, hcl]; omega
                  · simp; omega
                  · intro j hj
                    have := q3 (f + j) (by simp at hj; omega)
                    rwa [show mb.sh + (f + j) = mb.sh + f + j from by omega] at this
                  · simp only [Nat.add_zero, List.length_append, hol, hcl, hcvl]
                    rw [list_adopt _ _ _ _ _ hcvl (by simp; omega)]
                    refine VRs.append ?_ (hcv2.mono (Mle.upd s _))
                    have := (q4.drop f).take (len * i.size)
                    rw [← hoeq, List.drop_take, List.drop_drop, List.take_take, Nat.min_eq_left (by omega)] at this
                    exact this.mono (Mle.upd s _)
                refine fin (w' := w') (cvv := .slice (some ca) (len + n) cp) (m' := upd m h.next (some ⟨mb.blk, mb.sh + f, mb.lim - f⟩)) ?_ ?_ ?_ ?_
                · rw [hx]
                  refine run_append_in ht0 hd0 ht1 hd1 hi o.type hlen hin hcv1 ?_
                  rw [hca, addr_add]; exact r1
                · simp only [VR]
                  refine ⟨ca, cp, rfl, hin, by simp, _, upd_same _ _ _, .inr ⟨by simp [hca], fun z' hz' => ?_⟩⟩
                  cases hz'; simp only []; omega
                · rw [get_push_upd, get_set_upd]
                  exact s.adopt hmb hlive rfl r2 r3 r4 hor'
                · rw [get_push_upd, get_set_upd]
                  exact Ex.adopt s hmb hlive rfl r2 r4 r5
            · -- a new array
              obtain ⟨_, ho1⟩ := src_run s.drew hsv hso
              obtain ⟨co, hco1, hco2, _⟩ := ho1 len (Nat.le_refl _)
              rw [← hol, List.take_length] at hco2
              rw [hx] at hco1
              have s0 : Sim P m (h.set b .dead).get (h.set b .dead).next w := by rw [get_set_upd]; exact s.kill b
              obtain ⟨mb, hmb, _⟩ := hor
              have ex0 : Ex m h.get h.next w m (h.set b .dead).get (h.set b .dead).next w := by rw [get_set_upd]; exact Ex.kill s hmb
              exact grow (old := old) (h0 := h.set b .dead) hx (by omega) hroom ⟨co, hco1, hco2⟩ rfl s0 ex0 rfl rfl hol
          · cases hv
      · cases hv

end
end Go.Abs

namespace Go.Abs
section
variable {P : Program} {lm : List Nat} {m : Mp} {h : H} {w : World} {e : A → V} {ρ : Operand → Value}

theorem min_eq_nat (a b : Nat) : Nat.min a b = min a b := rfl

theorem os_copy (s : Sim P m h.get h.next w) {o : Oper} {c : Call} (ho : o.op = .call c) (hc : c.callee = .builtin .copy) {t0 el : TypeId} (ht0 : c.argTypes[0]? = some t0) (hd0 : P.underlying t0 = some (.slice el)) {sz : Nat} (hsz : szOf P el = some sz)
    {x y : Operand} (hargs : c.args.toList = [x, y]) {dv sv : V} (hdv : VR m dv (ρ x)) (hsv : VR m sv (ρ y)) {u : V} {h' : H} (hv : evOp (.copy sz (.c dv) (.c sv)) (evA [] []) h = some (u, h')) : OpS P m h w ((execOp ρ o).run P w) u h' := by
  have fin : ∀ {w' : World} {n : Nat}, (Builtin.copy_ c.argTypes o.type #[ρ x, ρ y]).run P w = .ok (goInt n) w' → u = .int .i64 n → Sim P m h'.get h'.next w' → Ex m h.get h.next w m h'.get h'.next w' →
      OpS P m h w ((execOp ρ o).run P w) u h' := by
    intro w' n h1 h2 h3 h4
    subst h2
    refine ⟨w', m, goInt n, _, run_builtin2 ho hc hargs (r := .ok (.value (goInt n)) w') ?_, .inl rfl, by simp only [VR, goInt], h3, h4⟩
    simp only [builtin, Sem.run_bind, h1, Result.andThen_ok, Sem.run_pure]
  simp only [evOp, evA] at hv
  split at hv
  · rename_i q hq
    cases hv
    obtain ⟨hlen, hsrc⟩ := src_run s hsv (n := q.1) (cs := q.2) (sz := sz) (by rw [hq])
    obtain ⟨cv, h1, h2, h3⟩ := hsrc 0 (Nat.zero_le _)
    simp only [VR] at hdv
    refine fin (n := 0) ?_ rfl s (Ex.refl _ _ _ _ fun b x e => (s.dom b x e).1)
    simp [Builtin.copy_, ht0, run_under hd0, run_sizeOf hsz, hdv, hlen, h1]
  · rename_i b f n cap k cs hq
    obtain ⟨hlen, hsrc⟩ := src_run s hsv hq
    obtain ⟨cv, h1, h2, h3⟩ := hsrc (min k n) (Nat.min_le_left _ _)
    simp only [VR] at hdv
    obtain ⟨ca, cp, hx, hle, hk, mb, hmb, hor⟩ := hdv
    split at hv
    · rename_i hok
      simp only [Option.map_eq_some_iff] at hv
      obtain ⟨h1', hwr, hv⟩ := hv
      cases hv
      rcases hor with h0 | ⟨hca, _⟩
      · -- nothing to be copied
        have hn : n = 0 := by omega
        subst hn
        have hcv : cv = [] := List.eq_nil_of_length_eq_zero (by simpa using h3)
        subst hcv
        simp only [Nat.min_zero, Nat.zero_mul, List.take_zero] at hwr
        unfold H.wr at hwr
        split at hwr
        · rename_i c0 hg
          split at hwr
          · cases hwr
            have hset : (h.set b (.cells (c0.take f ++ ([] ++ c0.drop (f + ([] : List V).length))))).get = h.get := by
              rw [get_set_upd]; funext j; unfold upd; split
              · rename_i hj; subst hj; rw [hg]; simp [List.take_append_drop]
              · rfl
            refine fin (n := 0) (w' := w) ?_ (by simp) ?_ ?_
            · simp [Builtin.copy_, ht0, run_under hd0, run_sizeOf hsz, hx, hlen] at h1 ⊢
              simp [h1, storeCells]
            · rw [hset]; exact s
            · rw [hset]; exact Ex.refl _ _ _ _ fun b x e => (s.dom b x e).1
          · cases hwr
        · cases hwr
      · obtain ⟨w', h4, h5, h6⟩ := s.wr hmb hwr h2 hok
        refine fin (n := min k n) ?_ rfl h5 h6
        rw [← hca] at h4
        simp only [Builtin.copy_, ht0, hx]
        simp [run_under hd0, run_sizeOf hsz, hlen, min_eq_nat, h1, h4]
    · cases hv
  · cases hv

theorem os_clear (s : Sim P m h.get h.next w) {o : Oper} {c : Call} (ho : o.op = .call c) (hc : c.callee = .builtin .clear) {t0 el : TypeId} (ht0 : c.argTypes[0]? = some t0) (hd0 : P.underlying t0 = some (.slice el)) {z : List V} (hz : zeroC P el = some z)
    {x : Operand} (hargs : c.args.toList = [x]) {dv : V} (hdv : VR m dv (ρ x)) {u : V} {h' : H} (hv : evOp (.clearSl z (.c dv)) (evA [] []) h = some (u, h')) : OpS P m h w ((execOp ρ o).run P w) u h' := by
  have fin : ∀ {w' : World}, (Builtin.clear_ c.argTypes o.type #[ρ x]).run P w = .ok (.tuple #[]) w' → u = .tup [] → Sim P m h'.get h'.next w' → Ex m h.get h.next w m h'.get h'.next w' →
      OpS P m h w ((execOp ρ o).run P w) u h' := by
    intro w' h1 h2 h3 h4
    subst h2
    refine ⟨w', m, .tuple #[], _, run_builtin1 ho hc hargs (r := .ok (.value (.tuple #[])) w') ?_, .inl rfl, VR.undef, h3, h4⟩
    simp only [builtin, Sem.run_bind, h1, Result.andThen_ok, Sem.run_pure]
  simp only [evOp, evA] at hv
  split at hv
  · cases hv
    simp only [VR] at hdv
    refine fin ?_ rfl s (Ex.refl _ _ _ _ fun b x e => (s.dom b x e).1)
    simp [Builtin.clear_, ht0, run_under hd0, hdv]
  · rename_i b f n cap
    simp only [VR] at hdv
    obtain ⟨ca, cp, hx, hle, hk, mb, hmb, hor⟩ := hdv
    split at hv
    · rename_i hn; subst hn; cases hv
      refine fin ?_ rfl s (Ex.refl _ _ _ _ fun b x e => (s.dom b x e).1)
      simp [Builtin.clear_, ht0, run_under hd0, hx]
    · rename_i hn
      split at hv
      · rename_i hok
        simp only [Option.map_eq_some_iff] at hv
        obtain ⟨h1', hwr, hv⟩ := hv
        cases hv
        obtain ⟨zv, hz1, hz2⟩ := run_zeroC hz
        rcases hor with h0 | ⟨hca, _⟩
        · omega
        · have hreps : (reps z n).all V.cellOK = true := by
            clear hwr hx hle hn
            induction n with
            | zero => rfl
            | succ n ih => simp only [reps, List.all_append, hok, ih, Bool.and_self]
          obtain ⟨w', h4, h5, h6⟩ := s.wr hmb hwr (reps_rel (hz2 m) n) hreps
          refine fin ?_ rfl h5 h6
          obtain ⟨n', rfl⟩ : ∃ k, n = k + 1 := ⟨n - 1, by omega⟩
          rw [← hca] at h4
          have hzc : (Builtin.zeroCells zv.cells (n' + 1)).toList = (List.range ((n' + 1) * zv.cells.size)).map fun i => zv.cells[i % zv.cells.size]! := by simp [Builtin.zeroCells]
          simp only [Builtin.clear_, ht0, hx]
          simp [run_under hd0, hz1, hzc, h4]
      · cases hv
  · cases hv

theorem os_mkSlice (s : Sim P m h.get h.next w) {o : Oper} {t el : TypeId} {lx cx : Operand} (ho : o.op = .makeSlice t lx cx) (ht : P.underlying t = some (.slice el)) {i : TypeInfo} (hi : P.info? el = some i) {z : List V} (hz : zeroC P el = some z)
    (hzl : z.length = i.size) (h0 : 0 < i.size) {lv cv : V} (hl : VR m lv (ρ lx)) (hc : VR m cv (ρ cx)) {n c : Nat} (hn : natOf lv = some n) (hcn : natOf cv = some c) (hle : n ≤ c) (hroom : roomOK c i.bytes = true) :
    OpS P m h w ((execOp ρ o).run P w) (.sl h.next 0 n (.k c)) (h.push (.cells (reps z c))) := by
  obtain ⟨k1, hl'⟩ := natOf_rel hl hn
  obtain ⟨k2, hc'⟩ := natOf_rel hc hcn
  obtain ⟨zv, hz1, hz2⟩ := run_zeroC hz
  have hsz : szOf P el = some i.size := by simp [szOf, hi]
  have hzs : zv.cells.size = i.size := by have := (hz2 m).length; simpa [hzl] using this.symm
  simp only [roomOK, decide_eq_true_eq] at hroom
  have hcb : c ≤ 2 ^ 46 := by
    have h1 : 2 * c + 200 ≤ (2 * c + 200) * (i.bytes + 1) := Nat.le_mul_of_pos_right _ (by omega)
    omega
  have hbc : i.bytes * c ≤ 2 ^ 46 := by
    have h1 : c * i.bytes ≤ (2 * c + 200) * (i.bytes + 1) := Nat.mul_le_mul (by omega) (by omega)
    rw [Nat.mul_comm]; omega
  have w1 : IntKind.i64.wrap (n : Int) = n := by simp [IntKind.wrap, IntKind.signed, IntKind.bits]; omega
  have w2 : IntKind.i64.wrap (c : Int) = c := by simp [IntKind.wrap, IntKind.signed, IntKind.bits]; omega
  have hrel : VRs m (reps z c) ((Array.range (c * i.size)).map fun j => (if c * i.size = 0 then (#[] : Array Value) else zv.cells)[j % (if c * i.size = 0 then (#[] : Array Value) else zv.cells).size]!).toList := by
    by_cases hc0 : c * i.size = 0
    · have : c = 0 := by rcases Nat.mul_eq_zero.1 hc0 with k | k <;> omega
      subst this; simpa [reps] using VRs.nil
    · simp only [if_neg hc0]
      have := reps_rel (hz2 m) c
      rw [Array.toList_map, Array.toList_range]
      rwa [hzs] at this ⊢
  obtain ⟨w', m', h3, h4, h5, h6⟩ := sim_newRow s el hrel
  refine ⟨w', m', .slice (some ⟨w.heap.size, 0, none⟩) n c, _, ?_, .inl rfl, ?_, h5, h6⟩
  · have hb1 : ¬ ((c : Int) < 0) := by omega
    have hb2 : ¬ ((i.bytes : Int) * (c : Int) > 2 ^ 48) := by
      have : ((i.bytes * c : Nat) : Int) = (i.bytes : Int) * (c : Int) := by simp
      omega
    simp only [execOp, ho, Instr.makeSlice, Sem.run_bind, run_under ht, Result.andThen_ok, hl', hc', asInt, asIntOf, Sem.run_pure, run_typeInfo hi, w1, w2]
    rw [if_neg (by simp [hb1]; omega)]
    simp only [Sem.run_bind, run_askRoom, Result.andThen_ok, run_sizeOf hsz, Int.toNat_natCast]
    by_cases hc0 : c * i.size = 0
    · simp only [if_pos hc0] at h3
      rw [if_pos hc0]
      simp only [Sem.run_bind, Sem.run_pure, Result.andThen_ok, h3]
    · simp only [if_neg hc0] at h3
      rw [if_neg hc0]
      simp only [Sem.run_bind, Sem.run_pure, Result.andThen_ok, hz1, h3]
  · simp only [VR]
    exact ⟨_, c, rfl, hle, (fun c hc => by cases hc; rfl), _, h4, .inr ⟨rfl, by simp⟩⟩

theorem sim_newObj (s : Sim P m h.get h.next w) {ob : O} {co : Obj} (hor : ∀ m' : Mp, Mle m m' → OR P m' ⟨w.heap.size, 0, 0⟩ ob co) :
    ∃ w' m', (newObj co).run P w = .ok w.heap.size w' ∧ m' h.next = some ⟨w.heap.size, 0, 0⟩ ∧ Sim P m' (h.push ob).get (h.push ob).next w' ∧ Ex m h.get h.next w m' (h.push ob).get (h.push ob).next w' := by
  refine ⟨{ w with heap := w.heap.push co }, upd m h.next (some ⟨w.heap.size, 0, 0⟩), rfl, upd_same _ _ _, ?_, ?_⟩
  · rw [get_push_upd]
    exact s.push rfl rfl (hor _ (Mle.upd s _))
  · rw [get_push_upd]
    exact Ex.push (co := co) s rfl rfl ⟨rfl, rfl, rfl⟩

theorem os_mkMap (s : Sim P m h.get h.next w) (hev : EvR P lm m e ρ) {o : Oper} {t k el : TypeId} {r : Option Operand} (ho : o.op = .makeMap t r) (ht : P.underlying t = some (.map k el)) {ra : Option A} (hr : trOpt P lm r = some ra)
    (hok : ∀ a, ra = some a → ∃ k n, e a = .int k n) : OpS P m h w ((execOp ρ o).run P w) (.map h.next) (h.push (.map [] 0)) := by
  obtain ⟨w', m', h3, h4, h5, h6⟩ := sim_newObj s (ob := .map [] 0) (co := .map #[] 0) (fun m' _ => ⟨#[], rfl, by simp [ERs]⟩)
  refine ⟨w', m', .map (some w.heap.size), _, ?_, .inl rfl, by simp only [VR]; exact ⟨_, h4, rfl⟩, h5, h6⟩
  cases r with
  | none => simp only [execOp, ho, Instr.makeMap, Option.map_none, Sem.run_bind, h3, Result.andThen_ok, Sem.run_pure]
  | some y =>
    simp only [trOpt, Option.map_eq_some_iff] at hr
    obtain ⟨a, ha, rfl⟩ := hr
    obtain ⟨k', n, hkn⟩ := hok a rfl
    have := hev y a ha
    rw [hkn] at this
    simp only [VR] at this
    simp only [execOp, ho, Instr.makeMap, Option.map_some, Sem.run_bind, run_under ht, Result.andThen_ok, this, asInt, asIntOf, Sem.run_pure, h3]

theorem bytes_forIn : ∀ {c : List V} {cv : List Value} {l : List UInt8}, VRs m c cv → bytesOf c = some l → ∀ acc : ByteArray,
    Sem.run P (forIn cv acc fun c __s => match c with
      | Value.int IntKind.u8 n => pure (ForInStep.yield (__s.push (UInt8.ofNat n.toNat)))
      | _ => do
        stuck "bytesToString: byte expected"
        pure (ForInStep.yield __s)) w = .ok ⟨(acc.data.toList ++ l).toArray⟩ w
  | [], cv, l, hr, hb, acc => by
    simp only [VRs] at hr; subst hr
    simp only [bytesOf, Option.some.injEq] at hb; subst hb
    simp
  | v :: c, cv, l, hr, hb, acc => by
    simp only [VRs] at hr
    obtain ⟨x, r', rfl, h1, h2⟩ := hr
    unfold bytesOf at hb
    split at hb
    · rename_i h3; cases h3
    · rename_i n r h3
      cases h3
      simp only [Option.map_eq_some_iff] at hb
      obtain ⟨l', h4, rfl⟩ := hb
      simp only [VR] at h1; subst h1
      simp only [List.forIn_cons, Sem.run_bind, Sem.run_pure, Result.andThen_ok]
      rw [bytes_forIn h2 h4]
      simp [ByteArray.push]
    · cases hb

theorem os_cvBytes (s : Sim P m h.get h.next w) {o : Oper} {src dst el : TypeId} {x : Operand} (ho : o.op = .convert src dst x) (hs : P.underlying src = some (.slice el)) (hd : P.underlying dst = some .string) (he : P.underlying el = some (.int .u8))
    {v : V} (hx : VR m v (ρ x)) (hnstr : ∀ l, v ≠ .str l) {n : Nat} {c : List V} (hsrc : srcOf h 1 v = some (n, c)) {l : List UInt8} (hl : bytesOf c = some l) : OpS P m h w ((execOp ρ o).run P w) (.str l) h := by
  obtain ⟨hlen, hsrc1⟩ := src_run s hx hsrc
  obtain ⟨cv, h1, h2, h3⟩ := hsrc1 n (Nat.le_refl _)
  have hcl := src_length hsrc
  rw [← hcl, List.take_length] at h2
  refine OpS.val s (cv := .string ⟨l.toArray⟩) ?_ (by simp only [VR]; exact ⟨_, rfl, by simp⟩)
  unfold srcOf at hsrc
  split at hsrc
  · cases hsrc
    simp only [bytesOf, Option.some.injEq] at hl; subst hl
    simp only [VR] at hx
    simp [execOp, ho, hx, convert, run_under hs, run_under hd, run_under he, Conv.bytesToString]
    rfl
  · rename_i b o' len cap
    simp only [Option.map_eq_some_iff] at hsrc
    obtain ⟨c', hrd, hsrc⟩ := hsrc
    cases hsrc
    simp only [VR] at hx
    obtain ⟨ca, cp, hx, hle, hk, mb, hmb, hor⟩ := hx
    simp only [Builtin.firstCells, hx] at h1
    rw [Nat.mul_one] at h1
    simp only [execOp, ho, hx, convert, Sem.run_bind, run_under hs, run_under hd, run_under he, Result.andThen_ok, Conv.bytesToString, h1]
    rw [← Array.forIn_toList]
    have := bytes_forIn (P := P) (w := w) h2 hl ByteArray.empty
    rw [show cv.toArray.toList = cv from rfl]
    first | rw [this] | erw [this]
    rfl
  · exact absurd rfl (hnstr _)
  · cases hsrc

theorem freeze_size {w : World} {r : Nat} {cc : Array Value} {el : TypeId} (hr : w.heap[r]? = some (.cells cc el (0, 0))) (n : Nat) :
    (w.freeze ⟨r, n, none⟩ 1).heap[r]? = some (.cells cc el (n, n + 1)) ∧ (∀ k, k ≠ r → (w.freeze ⟨r, n, none⟩ 1).heap[k]? = w.heap[k]?) ∧ (w.freeze ⟨r, n, none⟩ 1).heap.size = w.heap.size := by
  simp only [World.freeze]
  refine ⟨?_, fun k hk => ?_, by simp⟩
  · simp [Array.getElem?_modify, hr]
  · simp [Array.getElem?_modify, Ne.symm hk]

theorem os_cvToBytes (s : Sim P m h.get h.next w) {o : Oper} {src dst el : TypeId} {x : Operand} (ho : o.op = .convert src dst x) (hs : P.underlying src = some .string) (hd : P.underlying dst = some (.slice el)) (he : P.underlying el = some (.int .u8))
    {l : List UInt8} (hx : VR m (.str l) (ρ x)) (hlen : l.length < 2 ^ 46) :
    OpS P m h w ((execOp ρ o).run P w) (.sl h.next 0 l.length (.u 1)) (h.push (.cells (l.map fun c => .int .u8 c.toNat))) := by
  simp only [VR] at hx
  obtain ⟨b, hx, rfl⟩ := hx
  have hsz : b.data.toList.length = b.size := by simp
  have hcap : b.size ≤ grownCap w b.size 0 el := by simp [grownCap, Question.cut]
  let arr : Array Value := (b.data.map fun c => Value.int .u8 c.toNat) ++ Array.replicate (grownCap w b.size 0 el - b.size) (.int .u8 0)
  have harr : arr.size = grownCap w b.size 0 el := by simp [arr]; omega
  let w1 : World := { w.drew with heap := w.heap.push (.cells arr el) }
  have hw1 : w1.heap[w.heap.size]? = some (.cells arr el (0, 0)) := get?_push_size _ _
  obtain ⟨f1, f2, f3⟩ := freeze_size hw1 arr.size
  have hbl : VRs m (b.data.toList.map fun c => V.int .u8 c.toNat) (b.data.toList.map fun c => Value.int .u8 c.toNat) := by
    generalize b.data.toList = q
    induction q with
    | nil => exact VRs.nil
    | cons c q ih => exact VRs.cons (by simp only [VR]) ih
  -- in two steps: the block, and its mark
  have hor : ∀ fr : Nat × Nat, (∀ i, i < arr.size → (decide (fr.1 ≤ i) && decide (i < fr.2)) = false) → OR P (upd m h.next (some ⟨w.heap.size, 0, arr.size⟩)) ⟨w.heap.size, 0, arr.size⟩ (.cells (b.data.toList.map fun c => .int .u8 c.toNat)) (.cells arr el fr) := by
    intro fr hfr
    refine ⟨arr, el, fr, rfl, by simp [harr]; omega, by simp, (fun i hi => by simpa using hfr i hi), ?_⟩
    simp only [List.drop_zero, List.length_map]
    have : arr.toList.take b.data.toList.length = b.data.toList.map fun c => Value.int .u8 c.toNat := by
      simp only [arr, Array.toList_append, Array.toList_map]
      rw [List.take_left']
      simp
    rw [this]
    exact hbl.mono (Mle.upd s _)
  have s1 := s.push (w' := w1) (x := ⟨w.heap.size, 0, arr.size⟩) rfl rfl (hor (0, 0) (fun i _ => by simp))
  have e1 := Ex.push (w' := w1) (o := .cells (b.data.toList.map fun c => .int .u8 c.toNat)) s (x := ⟨w.heap.size, 0, arr.size⟩) rfl rfl ⟨rfl, rfl, rfl⟩
  have hlive : live (upd h.get h.next (some (.cells (b.data.toList.map fun c => .int .u8 c.toNat)))) h.next := ⟨_, upd_same _ _ _, by simp⟩
  have s2 := s1.set (w' := w1.freeze ⟨w.heap.size, arr.size, none⟩ 1) (upd_same _ _ _) hlive f3 f1 f2 (hor (arr.size, arr.size + 1) (fun i hi => by simp; omega))
  have e2 := e1.trans (Ex.set (o := .cells (b.data.toList.map fun c => .int .u8 c.toNat)) (w' := w1.freeze ⟨w.heap.size, arr.size, none⟩ 1) s1 (upd_same _ _ _) hlive f3 f2 (fun c e => by rw [upd_same] at e; cases e) ⟨rfl, rfl, rfl⟩)
  have hg : upd (upd h.get h.next (some (.cells (b.data.toList.map fun c => .int .u8 c.toNat)))) h.next (some (.cells (b.data.toList.map fun c => .int .u8 c.toNat))) = (h.push (.cells (b.data.toList.map fun c => .int .u8 c.toNat))).get := by
    rw [get_push_upd]; funext k; unfold upd; split <;> rfl
  rw [hg] at s2 e2
  refine ⟨_, _, .slice (some ⟨w.heap.size, 0, none⟩) b.size (grownCap w b.size 0 el), _, ?_, .inl rfl, ?_, s2, e2⟩
  · simp only [execOp, ho, hx, convert, Sem.run_bind, run_under hs, run_under hd, run_under he, Result.andThen_ok, Conv.stringToBytes]
    have hch : (choose (.appendCap b.size 0 el)).run P w = .ok (grownCap w b.size 0 el) w.drew := rfl
    have hnr : (newRow el arr).run P w.drew = .ok ⟨w.heap.size, 0, none⟩ w1 := rfl
    have hmk : (markStringish ⟨w.heap.size, 0, none⟩).run P w1 = .ok () (w1.freeze ⟨w.heap.size, arr.size, none⟩ 1) := by
      have : w1.shape? w.heap.size = some (el, arr.size) := by simp [World.shape?, hw1]
      simp [markStringish, this]
    simp only [hch, Result.andThen_ok]
    simp only [arr] at hnr hmk
    rw [hnr]
    simp only [Result.andThen_ok]
    rw [hmk]
    rfl
  · simp only [VR]
    rw [hsz]
    exact ⟨_, _, rfl, hcap, by simp, _, upd_same _ _ _, .inr ⟨rfl, fun z hz => by cases hz; simp [harr]⟩⟩

theorem minV_run {mx : Bool} {a b c : V} {x y : Value} (ha : VR m a x) (hb : VR m b y) (hv : minV mx a b = some c) :
    ∃ z, ((if mx then Builtin.max2 x y else Builtin.min2 x y) : Sem Value).run P w = .ok z w ∧ VR m c z := by
  unfold minV at hv
  split at hv
  · split at hv
    · rename_i hk; subst hk
      cases hv
      simp only [VR] at ha hb; subst ha hb
      refine ⟨_, ?_, by simp only [VR]; rfl⟩
      cases mx
      · simp [Builtin.min2]
      · simp [Builtin.max2]
    · cases hv
  · cases hv

theorem foldV_run {mx : Bool} : ∀ {l : List V} {r : List Value} {a c : V} {x : Value}, VR m a x → VRs m l r → foldV mx a l = some c →
    ∃ z, (r.foldlM (fun x y => if mx then Builtin.max2 x y else Builtin.min2 x y) x : Sem Value).run P w = .ok z w ∧ VR m c z
  | [], r, a, c, x, ha, hl, hv => by
    simp only [VRs] at hl; subst hl
    simp only [foldV, Option.some.injEq] at hv; subst hv
    exact ⟨x, by simp, ha⟩
  | v :: l, r, a, c, x, ha, hl, hv => by
    simp only [VRs] at hl
    obtain ⟨y, r', rfl, h1, h2⟩ := hl
    simp only [foldV] at hv
    split at hv
    · rename_i u hu
      obtain ⟨z, h3, h4⟩ := minV_run (P := P) (w := w) ha h1 hu
      obtain ⟨z', h5, h6⟩ := foldV_run h4 h2 hv
      exact ⟨z', by simp only [List.foldlM_cons, Sem.run_bind, h3, Result.andThen_ok, h5], h6⟩
    · cases hv

theorem os_minmax (s : Sim P m h.get h.next w) {o : Oper} {c : Call} (ho : o.op = .call c) {mx : Bool} (hc : c.callee = .builtin (if mx then .max else .min)) {vs : List V} (hvs : VRs m vs (c.args.map ρ).toList) {v : V} {r : List V} (hr : vs = v :: r) {u : V}
    (hv : foldV mx v r = some u) : OpS P m h w ((execOp ρ o).run P w) u h := by
  subst hr
  simp only [VRs] at hvs
  obtain ⟨x, r', h1, h2, h3⟩ := hvs
  obtain ⟨z, h4, h5⟩ := foldV_run (P := P) (w := w) h2 h3 hv
  refine OpS.val s (cv := z) ?_ h5
  cases mx
  · simp only [Bool.false_eq_true, if_false] at hc h4
    simp only [execOp, ho, resolve, hc, Sem.run_bind, Sem.run_pure, Result.andThen_ok, invoke, builtin, Builtin.min_, h1]
    rw [h4]; rfl
  · simp only [if_true] at hc h4
    simp only [execOp, ho, resolve, hc, Sem.run_bind, Sem.run_pure, Result.andThen_ok, invoke, builtin, Builtin.max_, h1]
    rw [h4]; rfl

end
end Go.Abs

/-
  Operations: values, structs, memory.
-/
import Derived.Test.YtaaimcecdoeimaaGreatDoorMachA
import Derived.Laws.Strings
import Derived.Laws.Append
import Derived.Laws.StructEq
import Derived.Laws.Concat
import Derived.Laws.Unary
import Derived.Laws.Small
import Derived.Laws.Entries
import Derived.Laws.Slices
namespace Go.Abs

/-- operands are related -/
def EvR (P : Program) (lm : List Nat) (m : Mp) (e : A → V) (ρ : Operand → Value) : Prop := ∀ x a, trA P lm x = some a → VR m (e a) (ρ x)

/-- an operation's run gives what the abstract one gives -/
def OpS (P : Program) (m : Mp) (h : H) (w : World) (r : Result Next) (v : V) (h' : H) : Prop :=
  ∃ w' m' cv n, r = .ok n w' ∧ (n = .value cv ∨ n = .skip ∧ cv = undef) ∧ VR m' v cv ∧ Sim P m' h'.get h'.next w' ∧ Ex m h.get h.next w m' h'.get h'.next w'

section
variable {P : Program} {lm : List Nat} {m : Mp} {h : H} {w : World} {e : A → V} {ρ : Operand → Value}

theorem OpS.val (s : Sim P m h.get h.next w) {r : Result Next} {v : V} {cv : Value} (hr : r = .ok (.value cv) w) (hv : VR m v cv) : OpS P m h w r v h :=
  ⟨w, m, cv, _, hr, .inl rfl, hv, s, Ex.refl _ _ _ _ fun b x e => (s.dom b x e).1⟩

theorem VR.undef : VR m (.tup []) undef := by simp only [VR]; exact ⟨#[], rfl, by simp [VRs]⟩

theorem VR.one {m : Mp} {v : V} {cv : Value} (hv : VR m v cv) (k : V.cellOK v = true) : v.cells = [v] ∧ cv.cells = #[cv] := by
  refine ⟨?_, cells_flat (flat_of k hv)⟩
  cases v <;> first | rfl | simp [V.cellOK] at k

/-- a known value's cells -/
theorem VR.parts {m : Mp} {v : V} {cv : Value} {p : List V} (hv : VR m v cv) (hp : v.parts = some p) : VRs m p cv.cells.toList := by
  cases v with
  | bad => simp [V.parts] at hp
  | tup l => simp [V.parts] at hp
  | agg l => simp [V.parts, V.cells] at hp; subst hp; simp only [VR] at hv; obtain ⟨a, rfl, k⟩ := hv; exact k
  | _ =>
    simp only [V.parts, Option.some.injEq] at hp
    obtain ⟨h1, h2⟩ := VR.one hv rfl
    rw [h1] at hp; subst hp; rw [h2]
    exact VRs.cons hv VRs.nil

mutual
theorem ofV_rel {m : Mp} : ∀ {x : Value} {v : V}, ofV x = some v → VR m v x
  | .bool _, _, h => by simp only [ofV, Option.some.injEq] at h; subst h; simp only [VR]
  | .int _ _, _, h => by simp only [ofV, Option.some.injEq] at h; subst h; simp only [VR]
  | .string s, _, h => by simp only [ofV, Option.some.injEq] at h; subst h; simp only [VR]; exact ⟨s, rfl, rfl⟩
  | .pointer none, _, h => by simp only [ofV, Option.some.injEq] at h; subst h; simp only [VR]
  | .pointer (some _), _, h => by simp [ofV] at h
  | .slice none 0 0, _, h => by simp only [ofV, Option.some.injEq] at h; subst h; simp only [VR]
  | .slice none 0 (_ + 1), _, h => by simp [ofV] at h
  | .slice none (_ + 1) _, _, h => by simp [ofV] at h
  | .slice (some _) _ _, _, h => by simp [ofV] at h
  | .map none, _, h => by simp only [ofV, Option.some.injEq] at h; subst h; simp only [VR]
  | .map (some _), _, h => by simp [ofV] at h
  | .nilFunc, _, h => by simp only [ofV, Option.some.injEq] at h; subst h; simp only [VR]
  | .nilIface, _, h => by simp only [ofV, Option.some.injEq] at h; subst h; simp only [VR]
  | .agg ⟨l⟩, _, h => by
    simp only [ofV, Option.map_eq_some_iff] at h
    obtain ⟨r, h1, rfl⟩ := h
    simp only [VR]; exact ⟨⟨l⟩, rfl, ofVs_rel h1⟩
  | .tuple ⟨l⟩, _, h => by
    simp only [ofV, Option.map_eq_some_iff] at h
    obtain ⟨r, h1, rfl⟩ := h
    simp only [VR]; exact ⟨⟨l⟩, rfl, ofVs_rel h1⟩
  | .float _ _, _, h => by simp [ofV] at h
  | .complex _ _ _, _, h => by simp [ofV] at h
  | .chan _, _, h => by simp [ofV] at h
  | .func _ _ _, _, h => by simp [ofV] at h
  | .iface _ _, _, h => by simp [ofV] at h
theorem ofVs_rel {m : Mp} : ∀ {l : List Value} {r : List V}, ofVs l = some r → VRs m r l
  | [], _, h => by simp only [ofVs, Option.some.injEq] at h; subst h; exact VRs.nil
  | x :: l, _, h => by
    simp only [ofVs] at h
    split at h
    · rename_i v r h1 h2; cases h; exact VRs.cons (ofV_rel h1) (ofVs_rel h2)
    · cases h
end

theorem run_typeInfo {t : TypeId} {i : TypeInfo} (h : P.info? t = some i) : (typeInfo t).run P w = .ok i w := by simp [typeInfo, h]
theorem run_sizeOf {t : TypeId} {n : Nat} (h : szOf P t = some n) : (sizeOf t).run P w = .ok n w := by
  simp only [szOf, Option.map_eq_some_iff] at h
  obtain ⟨i, hi, rfl⟩ := h
  simp [sizeOf, run_typeInfo hi]
theorem run_under {t : TypeId} {d : TypeDesc} (h : P.underlying t = some d) : (underlying t).run P w = .ok d w := by simp [underlying, h]
theorem run_isAgg {t : TypeId} {b : Bool} (h : isAggT P t = some b) : (isAgg t).run P w = .ok b w := by
  simp only [isAggT, Option.map_eq_some_iff] at h
  obtain ⟨d, hd, rfl⟩ := h
  simp only [isAgg, Sem.run_bind, run_under hd, Result.andThen_ok]
  cases d <;> simp
theorem run_zeroV {t : TypeId} {v : V} (h : zeroV P t = some v) : ∃ z : Value, (∀ w : World, (zeroValue t).run P w = .ok z w) ∧ ∀ m : Mp, VR m v z := by
  simp only [zeroV, Option.bind_eq_some_iff] at h
  obtain ⟨z, ⟨i, h1, h2⟩, h3⟩ := h
  exact ⟨z, fun w => by simp [zeroValue, run_typeInfo h1, h2], fun m => ofV_rel h3⟩
theorem run_zeroC {t : TypeId} {c : List V} (h : zeroC P t = some c) : ∃ z : Value, (∀ w : World, (zeroValue t).run P w = .ok z w) ∧ ∀ m : Mp, VRs m c z.cells.toList := by
  simp only [zeroC, Option.bind_eq_some_iff] at h
  obtain ⟨v, h1, h2⟩ := h
  obtain ⟨z, h3, h4⟩ := run_zeroV h1
  exact ⟨z, h3, fun m => (h4 m).parts h2⟩

/-- new cells -/
theorem sim_newRow (s : Sim P m h.get h.next w) {c : List V} {cc : Array Value} (el : TypeId) (hc : VRs m c cc.toList) :
    ∃ w' m', (newRow el cc).run P w = .ok ⟨w.heap.size, 0, none⟩ w' ∧ m' h.next = some ⟨w.heap.size, 0, c.length⟩ ∧
      Sim P m' (h.push (.cells c)).get (h.push (.cells c)).next w' ∧ Ex m h.get h.next w m' (h.push (.cells c)).get (h.push (.cells c)).next w' := by
  refine ⟨{ w with heap := w.heap.push (.cells cc el) }, upd m h.next (some ⟨w.heap.size, 0, c.length⟩), by simp [newRow], upd_same _ _ _, ?_, ?_⟩
  · rw [get_push_upd]
    refine s.push rfl rfl ⟨cc, el, (0, 0), rfl, Nat.le_refl _, ?_, (fun i _ => by simp), ?_⟩
    · have := hc.length; simp at this ⊢; omega
    · have := hc.length
      simp only [List.drop_zero]
      rw [this, List.take_length]
      exact hc.mono (Mle.upd s _)
  · rw [get_push_upd]
    exact Ex.push s rfl rfl ⟨rfl, rfl, rfl⟩

theorem VR.ptr0 {m : Mp} {b : Nat} {x : MB} (h : m b = some x) (h0 : x.sh = 0) : VR m (.ptr b 0) (.pointer (some ⟨x.blk, 0, none⟩)) := by
  simp only [VR]; exact ⟨x, h, by simp [h0]⟩

theorem os_alloc (s : Sim P m h.get h.next w) {o : Oper} {t : TypeId} (ho : o.op = .alloc t) {z : List V} (hz : zeroC P t = some z) :
    OpS P m h w ((execOp ρ o).run P w) (.ptr h.next 0) (h.push (.cells z)) := by
  obtain ⟨zv, h1, h2⟩ := run_zeroC hz
  obtain ⟨w', m', h3, h4, h5, h6⟩ := sim_newRow s t (h2 m)
  refine ⟨w', m', _, _, ?_, .inl rfl, VR.ptr0 h4 rfl, h5, h6⟩
  simp only [execOp, ho, Instr.alloc, Sem.run_bind, h1, Result.andThen_ok, newVar, h3, Sem.run_pure]

theorem os_box (s : Sim P m h.get h.next w) {o : Oper} {t : TypeId} {x : Operand} (ho : o.op = .box t x) {v : V} {p : List V} (hv : VR m v (ρ x)) (hp : v.parts = some p) :
    OpS P m h w ((execOp ρ o).run P w) (.ptr h.next 0) (h.push (.cells p)) := by
  obtain ⟨w', m', h3, h4, h5, h6⟩ := sim_newRow s t (hv.parts hp)
  refine ⟨w', m', _, _, ?_, .inl rfl, VR.ptr0 h4 rfl, h5, h6⟩
  simp only [execOp, ho, Instr.box, Sem.run_bind, newVar, h3, Result.andThen_ok, Sem.run_pure]

/-! ### parts of structs -/
theorem set_foldl (p : List Value) : ∀ (off : Nat) (cs : Array Value), off + p.length ≤ cs.size →
    (p.zipIdx.foldl (fun (cs : Array Value) (x : Value × Nat) => cs.setIfInBounds (off + x.2) x.1) cs) = (cs.toList.take off ++ (p ++ cs.toList.drop (off + p.length))).toArray := by
  suffices H : ∀ (p : List Value) (k off : Nat) (cs : Array Value), off + k + p.length ≤ cs.size →
      ((p.zipIdx k).foldl (fun (cs : Array Value) (x : Value × Nat) => cs.setIfInBounds (off + x.2) x.1) cs) = (cs.toList.take (off + k) ++ (p ++ cs.toList.drop (off + k + p.length))).toArray by
    intro off cs hle
    simpa using H p 0 off cs (by simpa using hle)
  intro p
  induction p with
  | nil => intro k off cs _; simp [List.take_append_drop]
  | cons v p ih =>
    intro k off cs hle
    simp only [List.length_cons] at hle
    simp only [List.zipIdx_cons, List.foldl_cons]
    rw [ih (k + 1) off _ (by simp; omega)]
    have hl : off + k < cs.toList.length := by simp; omega
    simp only [Array.toList_setIfInBounds, list_set_split _ _ _ hl, List.length_cons]
    have e1 : (cs.toList.take (off + k) ++ v :: cs.toList.drop (off + k + 1)).take (off + (k + 1)) = cs.toList.take (off + k) ++ [v] := by
      rw [List.take_append, List.take_of_length_le (by simp; omega)]
      simp only [List.length_take, Nat.min_eq_left (Nat.le_of_lt hl)]
      rw [show off + (k + 1) - (off + k) = 1 from by omega]
      simp
    have e2 : (cs.toList.take (off + k) ++ v :: cs.toList.drop (off + k + 1)).drop (off + (k + 1) + p.length) = cs.toList.drop (off + k + (p.length + 1)) := by
      rw [List.drop_append, List.drop_of_length_le (by simp; omega), List.nil_append]
      simp only [List.length_take, Nat.min_eq_left (Nat.le_of_lt hl)]
      rw [show off + (k + 1) + p.length - (off + k) = p.length + 1 from by omega, List.drop_succ_cons, List.drop_drop]
      congr 1; omega
    rw [e1, e2]
    simp

theorem trParts_cons {place : Nat → Option (Nat × Nat)} {i : Nat} {x : Operand} {r : List (Nat × Operand)} {l : List (Nat × Nat × A)}
    (h : trParts P lm place ((i, x) :: r) = some l) : ∃ o s a l', place i = some (o, s) ∧ trA P lm x = some a ∧ trParts P lm place r = some l' ∧ l = (o, s, a) :: l' := by
  simp only [trParts] at h
  split at h
  · rename_i o s a l' h1 h2 h3; cases h; exact ⟨o, s, a, l', h1, h2, h3, rfl⟩
  · cases h

theorem fill_sound (hev : EvR P lm m e ρ) {place pl : Nat → Option (Nat × Nat)} : ∀ (ps : List (Nat × Operand)) (l : List (Nat × Nat × A)) (cs c' : List V) (cc : Array Value),
    (∀ i o s, place i = some (o, s) → pl i = some (o, s)) →
    trParts P lm place ps = some l → fill e cs l = some c' → VRs m cs cc.toList →
    ∃ cc', Instr.fill pl cc (ps.map fun p => (p.1, ρ p.2)) = some cc' ∧ VRs m c' cc'.toList ∧ cc'.size = cc.size := by
  intro ps
  induction ps with
  | nil =>
    intro l cs c' cc _ h1 h2 h3
    simp only [trParts, Option.some.injEq] at h1; subst h1
    simp only [fill, Option.some.injEq] at h2; subst h2
    exact ⟨cc, rfl, h3, rfl⟩
  | cons p ps ih =>
    intro l cs c' cc hpl h1 h2 h3
    obtain ⟨i, x⟩ := p
    obtain ⟨o, s, a, l', k1, k2, k3, rfl⟩ := trParts_cons h1
    simp only [fill] at h2
    split at h2
    · cases h2
    · rename_i q hq
      split at h2
      · rename_i hle
        have hv := (hev x a k2).parts hq
        have hl := hv.length
        have hcl := h3.length
        simp only [Array.length_toList] at hl hcl
        simp only [List.map_cons, Instr.fill, hpl _ _ _ k1]
        rw [if_neg (by simp; omega)]
        have hset := set_foldl (ρ x).cells.toList o cc (by simp; omega)
        simp only [Array.length_toList] at hset
        have hz : (ρ x).cells.zipIdx.foldl (fun (cs : Array Value) (x : Value × Nat) => cs.setIfInBounds (o + x.2) x.1) cc =
            (cc.toList.take o ++ ((ρ x).cells.toList ++ cc.toList.drop (o + (ρ x).cells.size))).toArray := by
          rw [← hset, ← Array.foldl_toList, Array.toList_zipIdx]
        have := ih l' _ c' (cc.toList.take o ++ ((ρ x).cells.toList ++ cc.toList.drop (o + (ρ x).cells.size))).toArray hpl k3 h2
          (by rw [show o + (ρ x).cells.size = o + s by omega]; exact (h3.take o).append (hv.append (h3.drop (o + s))))
        obtain ⟨cc', a1, a2, a3⟩ := this
        refine ⟨cc', ?_, a2, ?_⟩
        · rw [← a1, ← hz]
        · rw [a3]; simp; omega
      · cases h2

theorem run_mapM {α β : Type} (f : α → Sem β) (g : α → β) (w : World) (l : List α) (hf : ∀ x ∈ l, (f x).run P w = .ok (g x) w) : (l.mapM f).run P w = .ok (l.map g) w := by
  induction l with
  | nil => simp
  | cons x l ih =>
    simp only [List.mapM_cons, Sem.run_bind, hf x (by simp), Result.andThen_ok, ih fun y hy => hf y (by simp [hy]), Sem.run_pure, List.map_cons]

theorem run_amapM {α β : Type} (f : α → Sem β) (g : α → β) (w : World) (l : Array α) (hf : ∀ x ∈ l.toList, (f x).run P w = .ok (g x) w) : (l.mapM f).run P w = .ok (l.map g) w := by
  have := run_mapM (P := P) f g w l.toList hf
  rw [Array.mapM_eq_mapM_toList]
  simp only [Sem.run_map, this, Result.andThen_ok]
  congr 1
  apply Array.ext'
  simp

end
end Go.Abs

namespace Go.Abs
section
variable {P : Program} {lm : List Nat} {m : Mp} {h : H} {w : World} {e : A → V} {ρ : Operand → Value}

theorem os_build (s : Sim P m h.get h.next w) (hev : EvR P lm m e ρ) {o : Oper} {t : TypeId} {ps : Array (Nat × Operand)} (ho : o.op = .build t ps)
    {z c : List V} {fs : Array Field} (hz : zeroC P t = some z) (ht : P.underlying t = some (.struct fs)) (hall : fs.toList.all (fun f => (szOf P f.type).isSome) = true)
    {l : List (Nat × Nat × A)} (hl : trParts P lm (fun i => match fs[i]? with | some f => (szOf P f.type).map (f.offset, ·) | none => none) ps.toList = some l)
    (hc : fill e z l = some c) : OpS P m h w ((execOp ρ o).run P w) (.agg c) h := by
  obtain ⟨zv, h1, h2⟩ := run_zeroC hz
  have hm := run_amapM (P := P) (fun f : Field => (do pure (f.offset, ← sizeOf f.type) : Sem (Nat × Nat))) (fun f => (f.offset, (szOf P f.type).getD 0)) w fs (fun f hf => by
    have := List.all_eq_true.1 hall f hf
    obtain ⟨n, hn⟩ := Option.isSome_iff_exists.1 this
    simp [run_sizeOf hn, hn])
  obtain ⟨cc', a1, a2, a3⟩ := fill_sound (pl := fun i => ((fs.map fun f => (f.offset, (szOf P f.type).getD 0)))[i]?) hev ps.toList l z c zv.cells (fun i o s hp => by
    simp only [Array.getElem?_map]
    split at hp
    · rename_i f hf
      simp only [Option.map_eq_some_iff] at hp
      obtain ⟨n, hn, e1⟩ := hp
      cases e1
      simp [hf, hn]
    · cases hp) hl hc (h2 m)
  refine OpS.val s (cv := .agg cc') ?_ (by simp only [VR]; exact ⟨cc', rfl, a2⟩)
  simp only [execOp, ho, Instr.build, Sem.run_bind, h1, Result.andThen_ok, run_under ht, hm]
  simp only [Array.toList_map]
  rw [a1]
  simp

theorem os_build_arr (s : Sim P m h.get h.next w) (hev : EvR P lm m e ρ) {o : Oper} {t : TypeId} {ps : Array (Nat × Operand)} (ho : o.op = .build t ps)
    {z c : List V} {n sz : Nat} {el : TypeId} (hz : zeroC P t = some z) (ht : P.underlying t = some (.array n el)) (hs : szOf P el = some sz)
    {l : List (Nat × Nat × A)} (hl : trParts P lm (fun i => some (i * sz, sz)) ps.toList = some l)
    (hc : fill e z l = some c) : OpS P m h w ((execOp ρ o).run P w) (.agg c) h := by
  obtain ⟨zv, h1, h2⟩ := run_zeroC hz
  obtain ⟨cc', a1, a2, a3⟩ := fill_sound (pl := fun i => some (i * sz, sz)) hev ps.toList l z c zv.cells (fun i o s hp => hp) hl hc (h2 m)
  refine OpS.val s (cv := .agg cc') ?_ (by simp only [VR]; exact ⟨cc', rfl, a2⟩)
  simp only [execOp, ho, Instr.build, Sem.run_bind, h1, Result.andThen_ok, run_under ht, run_sizeOf hs]
  simp only [Array.toList_map]
  rw [a1]
  simp

theorem getElem!_toList {l : Array Value} {i : Nat} (h : i < l.size) : l[i]! = l.toList[i]'(by simpa using h) := by
  simp [h]

theorem reps_rel {m : Mp} {z : List V} {zc : Array Value} (h : VRs m z zc.toList) : ∀ n, VRs m (reps z n) ((List.range (n * zc.size)).map fun i => zc[i % zc.size]!) := by
  intro n
  have hz := h.length
  simp only [Array.length_toList] at hz
  induction n with
  | zero => simpa [reps] using VRs.nil
  | succ n ih =>
    have e1 : (List.range ((n + 1) * zc.size)).map (fun i => zc[i % zc.size]!) = zc.toList ++ (List.range (n * zc.size)).map (fun i => zc[i % zc.size]!) := by
      rw [Nat.succ_mul, Nat.add_comm, List.range_add, List.map_append, List.map_map]
      congr 1
      · apply List.ext_getElem
        · simp
        · intro i h1 h2
          simp only [List.length_map, List.length_range] at h1
          simp [Nat.mod_eq_of_lt h1, h1]
      · apply List.map_congr_left
        intro i _
        simp [Nat.add_mod_left]
    rw [e1]
    exact h.append ih

theorem reps_length (z : List V) : ∀ n, (reps z n).length = n * z.length
  | 0 => by simp [reps]
  | n + 1 => by simp [reps, reps_length z n, Nat.succ_mul, Nat.add_comm]

theorem os_bslice (s : Sim P m h.get h.next w) (hev : EvR P lm m e ρ) {o : Oper} {t : TypeId} {len : Nat} {ps : Array (Nat × Operand)} (ho : o.op = .buildSlice t len ps)
    {z c : List V} {sz : Nat} {el : TypeId} (hz : zeroC P el = some z) (ht : P.underlying t = some (.slice el)) (hs : szOf P el = some sz) (h0 : 0 < sz) (hbig : len * sz ≤ 2 ^ 24) (hzl : z.length = sz)
    {l : List (Nat × Nat × A)} (hl : trParts P lm (fun i => some (i * sz, sz)) ps.toList = some l)
    (hc : fill e (reps z len) l = some c) : OpS P m h w ((execOp ρ o).run P w) (.sl h.next 0 len (.k len)) (h.push (.cells c)) := by
  obtain ⟨zv, h1, h2⟩ := run_zeroC hz
  have hsz : zv.cells.size = sz := by have := (h2 m).length; simpa [hzl] using this.symm
  have hzz : VRs m (reps z len) ((Array.range (len * sz)).map fun i => (if len * sz = 0 then #[] else zv.cells)[i % (if len * sz = 0 then (#[] : Array Value) else zv.cells).size]!).toList := by
    have := reps_rel (h2 m) len
    by_cases hn : len * sz = 0
    · have : len = 0 := by rcases Nat.mul_eq_zero.1 hn with k | k <;> omega
      subst this
      simpa [reps] using VRs.nil
    · simp only [if_neg hn]
      rw [Array.toList_map, Array.toList_range]
      rwa [hsz] at this ⊢
  obtain ⟨cc', a1, a2, a3⟩ := fill_sound (pl := fun i => some (i * sz, sz)) hev ps.toList l (reps z len) c _ (fun i o s hp => hp) hl hc hzz
  obtain ⟨w', m', h3, h4, h5, h6⟩ := sim_newRow s el a2
  refine ⟨w', m', .slice (some ⟨w.heap.size, 0, none⟩) len len, _, ?_, .inl rfl, ?_, h5, h6⟩
  · simp only [execOp, ho, Instr.buildSlice, Sem.run_bind, Result.andThen_ok, run_under ht, run_sizeOf hs]
    rw [if_neg (by omega)]
    by_cases hn : len * sz = 0
    · simp only [if_pos hn] at a1
      rw [if_pos hn]
      simp only [Sem.run_bind, Sem.run_pure, Result.andThen_ok, Array.toList_map]
      rw [a1]
      simp [h3]
    · simp only [if_neg hn] at a1
      rw [if_neg hn]
      simp only [Sem.run_bind, Sem.run_pure, Result.andThen_ok, h1, Array.toList_map]
      rw [a1]
      simp [h3]
  · simp only [VR]
    exact ⟨_, len, rfl, Nat.le_refl _, fun c hc => by cases hc; rfl, _, h4, .inr ⟨rfl, by simp⟩⟩

theorem VR.ptr {m : Mp} {b o : Nat} {v : Value} (h : VR m (.ptr b o) v) : ∃ x, m b = some x ∧ v = .pointer (some ⟨x.blk, x.sh + o, none⟩) := by simpa only [VR] using h

theorem os_load_agg (s : Sim P m h.get h.next w) {o : Oper} {t : TypeId} {x : Operand} (ho : o.op = .load t x) (ha : isAggT P t = some true) {n : Nat} (hs : szOf P t = some n)
    {b f : Nat} (hx : VR m (.ptr b f) (ρ x)) {c : List V} (hr : h.rd b f n = some c) : OpS P m h w ((execOp ρ o).run P w) (.agg c) h := by
  obtain ⟨mb, h1, h2⟩ := hx.ptr
  obtain ⟨cv, h3, h4, h5⟩ := s.rd h1 hr
  refine OpS.val s (cv := .agg cv.toArray) ?_ (by simp only [VR]; exact ⟨_, rfl, h3⟩)
  simp only [execOp, ho, h2, Instr.loadAt, Instr.sureAddr, Sem.run_bind, Sem.run_pure, Result.andThen_ok, loadVar, run_isAgg ha, run_sizeOf hs, h5, if_true]

theorem os_load_one (s : Sim P m h.get h.next w) {o : Oper} {t : TypeId} {x : Operand} (ho : o.op = .load t x) (ha : isAggT P t = some false)
    {b f : Nat} (hx : VR m (.ptr b f) (ρ x)) {v : V} (hr : h.rd b f 1 = some [v]) : OpS P m h w ((execOp ρ o).run P w) v h := by
  obtain ⟨mb, h1, h2⟩ := hx.ptr
  obtain ⟨cv, h3, h4⟩ := s.rd1 h1 hr
  refine OpS.val s (cv := cv) ?_ h3
  simp only [execOp, ho, h2, Instr.loadAt, Instr.sureAddr, Sem.run_bind, Sem.run_pure, Result.andThen_ok, loadVar, run_isAgg ha, h4, Bool.false_eq_true, if_false]

theorem os_store (s : Sim P m h.get h.next w) {o : Oper} {t : TypeId} {x y : Operand} (ho : o.op = .store t x y) {n : Nat} (hs : szOf P t = some n)
    {b f : Nat} (hx : VR m (.ptr b f) (ρ x)) {v : V} {c : List V} (hv : VR m v (ρ y)) (hp : v.parts = some c) (hn : c.length = n) (hok : c.all V.cellOK = true)
    {h' : H} (hr : h.wr b f c = some h') : OpS P m h w ((execOp ρ o).run P w) (.tup []) h' := by
  obtain ⟨mb, h1, h2⟩ := hx.ptr
  have hc := hv.parts hp
  obtain ⟨w', h3, h4, h5⟩ := s.wr h1 hr hc hok
  refine ⟨w', m, undef, .skip, ?_, .inr ⟨rfl, rfl⟩, VR.undef, h4, h5⟩
  have hl := hc.length
  simp only [Array.length_toList] at hl
  simp only [execOp, ho, h2, Instr.storeAt, Instr.sureAddr, Sem.run_bind, Sem.run_pure, Result.andThen_ok, storeVar, run_sizeOf hs]
  rw [if_neg (by omega)]
  simp [h3]

theorem os_nilck (s : Sim P m h.get h.next w) {o : Oper} {x : Operand} (ho : o.op = .nilCheck x) {v : V} (hv : VR m v (ρ x)) (hk : nilckOK v = true) :
    OpS P m h w ((execOp ρ o).run P w) v h := by
  refine OpS.val s (cv := ρ x) ?_ hv
  cases v with
  | ptr b f => obtain ⟨mb, h1, h2⟩ := hv.ptr; simp [execOp, ho, h2]
  | map b => simp only [VR] at hv; obtain ⟨mb, h1, h2⟩ := hv; simp [execOp, ho, h2]
  | iface t v => simp only [VR] at hv; obtain ⟨x', h1, h2⟩ := hv; simp [execOp, ho, h1]
  | fn f a b =>
    simp only [VR] at hv
    obtain ⟨f', a', b', h1, h2, _, _⟩ := hv
    cases f with
    | func g => simp only [FnR] at h2; simp [execOp, ho, h1, h2]
    | yield l => simp only [FnR] at h2; obtain ⟨y, _, h2⟩ := h2; simp [execOp, ho, h1, h2]
    | _ => simp only [FnR] at h2
  | _ => simp [nilckOK] at hk

/-! ### numbers and strings -/
theorem eqGuard_int (op : BinOp) (t : TypeId) (x y : Operand) (k : IntKind) (a : Int) (b : Value) : eqGuard op t x y (.int k a) b = pure () := by cases op <;> rfl
theorem eqGuard_str (op : BinOp) (t : TypeId) (x y : Operand) (a : ByteArray) (b : Value) : eqGuard op t x y (.string a) b = pure () := by cases op <;> rfl

theorem arith_run {op : BinOp} {k : IntKind} {a b : Int} {v : V} (h : arith op k a b = some v) (hs : isShift op = false) (t : TypeId) :
    ∃ cv, (binOp op t (.int k a) (.int k b)).run P w = .ok cv w ∧ ∀ m : Mp, VR m v cv := by
  cases op <;> simp only [isShift, Bool.true_eq_false] at hs <;> simp only [arith, Option.some.injEq] at h
  all_goals first
    | (split at h
       · cases h
       · rename_i hne
         simp only [Option.some.injEq] at h
         subst h
         refine ⟨_, ?_, fun m => by simp only [VR]; rfl⟩
         simp [binOp, Op.intDiv, hne])
    | (subst h
       refine ⟨_, ?_, fun m => by simp only [VR]; rfl⟩
       simp [binOp, Op.intArith, Op.intBits, Op.intCmp])

theorem shift_run {op : BinOp} {k k' : IntKind} {a b : Int} {v : V} (h : shift op k a b = some v) (hs : isShift op = true) (t : TypeId) :
    ∃ cv, (binOp op t (.int k a) (.int k' b)).run P w = .ok cv w ∧ ∀ m : Mp, VR m v cv := by
  unfold shift at h
  split at h
  · cases h
  · rename_i hb
    cases op <;> simp only [isShift, Bool.false_eq_true] at hs <;> simp only [Option.some.injEq] at h <;> subst h
    all_goals
      refine ⟨_, ?_, fun m => by simp only [VR]; rfl⟩
      simp [binOp, Op.shift, hb]

theorem str_run {op : BinOp} {a b : ByteArray} {v : V} (h : strOp op a.data.toList b.data.toList = some v) (t : TypeId) :
    ∃ cv, (binOp op t (.string a) (.string b)).run P w = .ok cv w ∧ ∀ m : Mp, VR m v cv := by
  cases op <;> simp only [strOp, Option.some.injEq, reduceCtorEq] at h
  case add =>
    split at h
    · rename_i hlt
      simp only [Option.some.injEq] at h
      subst h
      refine ⟨.string (a ++ b), ?_, fun m => by simp only [VR]; exact ⟨_, rfl, by simp⟩⟩
      have : a.size + b.size ≤ 9223372036854775807 := by
        have h1 : a.data.toList.length = a.size := by simp
        have h2 : b.data.toList.length = b.size := by simp
        omega
      simp only [binOp]
      exact run_string_add_sum w a b this
    · cases h
  all_goals
    subst h
    refine ⟨_, ?_, fun m => by simp only [VR]; rfl⟩
    simp [binOp, Op.stringOp, ByteArray.toList_eq]

theorem os_bin (s : Sim P m h.get h.next w) {o : Oper} {op : BinOp} {t yt : TypeId} {x y : Operand} (ho : o.op = .binOp op t x y yt) {a b v : V} (ha : VR m a (ρ x)) (hb : VR m b (ρ y))
    (hv : binV op a b = some v) : OpS P m h w ((execOp ρ o).run P w) v h := by
  unfold binV at hv
  split at hv
  · rename_i k n k' n'
    simp only [VR] at ha hb
    have hg : (eqGuard op t x y (ρ x) (ρ y)).run P w = .ok () w := by rw [ha, eqGuard_int]; rfl
    split at hv
    · rename_i hs
      obtain ⟨cv, h1, h2⟩ := shift_run (P := P) (w := w) (k' := k') hv hs t
      refine OpS.val s (cv := cv) ?_ (h2 m)
      simp only [execOp, ho, Sem.run_bind, hg, Result.andThen_ok]
      rw [ha, hb, h1]; simp
    · rename_i hs
      split at hv
      · rename_i hk; subst hk
        obtain ⟨cv, h1, h2⟩ := arith_run (P := P) (w := w) hv (by simpa using hs) t
        refine OpS.val s (cv := cv) ?_ (h2 m)
        simp only [execOp, ho, Sem.run_bind, hg, Result.andThen_ok]
        rw [ha, hb, h1]; simp
      · cases hv
  · simp only [VR] at ha hb
    obtain ⟨sa, ha, rfl⟩ := ha
    obtain ⟨sb, hb, rfl⟩ := hb
    have hg : (eqGuard op t x y (ρ x) (ρ y)).run P w = .ok () w := by rw [ha, eqGuard_str]; rfl
    obtain ⟨cv, h1, h2⟩ := str_run (P := P) (w := w) hv t
    refine OpS.val s (cv := cv) ?_ (h2 m)
    simp only [execOp, ho, Sem.run_bind, hg, Result.andThen_ok]
    rw [ha, hb, h1]; simp
  · cases hv

theorem os_un (s : Sim P m h.get h.next w) {o : Oper} {op : UnOp} {t : TypeId} {x : Operand} (ho : o.op = .unOp op t x) {a v : V} (ha : VR m a (ρ x)) (hv : unV op a = some v) :
    OpS P m h w ((execOp ρ o).run P w) v h := by
  cases op <;> cases a <;> simp only [unV, Option.some.injEq, reduceCtorEq] at hv <;> subst hv <;> simp only [VR] at ha
  all_goals
    refine OpS.val s ?_ (by simp only [VR]; rfl)
    simp [execOp, ho, ha, Op.unary, Op.intArith, Op.intBits]

end
end Go.Abs

namespace Go.Abs
section
variable {P : Program} {lm : List Nat} {m : Mp} {h : H} {w : World} {e : A → V} {ρ : Operand → Value}

theorem eqCells_append : ∀ {k1 k2 : List CK} {a1 b1 a2 b2 : List V} (_ : a1.length = k1.length) (_ : b1.length = k1.length) {r : Bool} (_ : eqCells (k1 ++ k2) (a1 ++ a2) (b1 ++ b2) = some r),
    (eqCells k1 a1 b1 = some true ∧ eqCells k2 a2 b2 = some r) ∨ (eqCells k1 a1 b1 = some false ∧ r = false)
  | [], _, a1, b1, _, _, ha, hb, _, he => by
    have := List.eq_nil_of_length_eq_zero ha; subst this
    have := List.eq_nil_of_length_eq_zero hb; subst this
    exact .inl ⟨rfl, he⟩
  | k :: k1, k2, [], _, _, _, ha, _, _, _ => by simp at ha
  | k :: k1, k2, _ :: _, [], _, _, _, hb, _, _ => by simp at hb
  | k :: k1, k2, x :: a1, y :: b1, _, _, ha, hb, _, he => by
    simp only [List.cons_append, eqCells] at he ⊢
    split at he
    · exact eqCells_append (by simpa using ha) (by simpa using hb) he
    · cases he; exact .inr ⟨rfl, rfl⟩
    · cases he

/-- a value of a type out of its cells -/
def valOf (agg : Bool) (xs : List Value) : Value := if agg then .agg xs.toArray else xs.headD undef

theorem run_part {t : TypeId} {ag : Bool} {s : Nat} (ha : isAggT P t = some ag) (hs : szOf P t = some s) (h1 : ag = false → s = 1) {xs : List Value} {off : Nat} (hle : off + s ≤ xs.length) :
    (part t xs.toArray off).run P w = .ok (valOf ag ((xs.drop off).take s)) w := by
  unfold part
  simp only [Sem.run_bind, run_isAgg ha, Result.andThen_ok]
  cases ag
  · have := h1 rfl; subst this
    have hlt : off < xs.length := by omega
    simp only [Bool.false_eq_true, if_false]
    have : xs.toArray[off]? = some xs[off] := by simp [hlt]
    rw [this]
    rw [List.drop_eq_getElem_cons hlt]
    rfl
  · simp only [if_true, Sem.run_bind, run_sizeOf hs, Result.andThen_ok, Sem.run_pure, valOf]
    congr 2
    apply Array.ext'
    rw [Array.toList_extract, List.extract_eq_take_drop]
    simp

theorem aggT_of {t : TypeId} {d : TypeDesc} (h : P.underlying t = some d) : isAggT P t = some (match d with | .struct _ | .array _ _ => true | _ => false) := by
  simp only [isAggT, h, Option.map_some]; cases d <;> rfl

theorem fieldsOf_of {t : TypeId} {fs : Array Field} (h : P.underlying t = some (.struct fs)) : P.fieldsOf t = fs := by simp [Program.fieldsOf, h]

def ckDesc : CK → TypeDesc → Prop
  | .bool, d => d = .bool
  | .int, d => ∃ k, d = .int k
  | .str, d => d = .string

theorem eqCell_run {t : TypeId} {d : TypeDesc} (ht : P.underlying t = some d) {k : CK} (hk : ckDesc k d) {a b : V} {x y : Value} (ha : VR m a x) (hb : VR m b y)
    {r : Bool} (he : eqCell k a b = some r) (D : Nat) : (Op.equalIn (D + 1) t x y).run P w = .ok r w := by
  unfold eqCell at he
  split at he
  · cases he
    simp only [VR] at ha hb; subst ha hb
    simp only [ckDesc] at hk; subst hk
    exact run_equalIn_bool w D t _ _ ht
  · rename_i k n k' n'
    simp only [VR] at ha hb; subst ha hb
    split at he
    · rename_i hk'; subst hk'; cases he
      obtain ⟨k'', rfl⟩ := hk
      exact run_equalIn_int w D t k k'' _ _ ht
    · cases he
  · cases he
    simp only [VR] at ha hb
    obtain ⟨sa, rfl, rfl⟩ := ha
    obtain ⟨sb, rfl, rfl⟩ := hb
    simp only [ckDesc] at hk; subst hk
    have := run_equalIn_string (P := P) w D t sa sb ht
    rw [this]; congr 1
    rw [ByteArray.toList_eq, ByteArray.toList_eq]
  · cases he

theorem VRs.one_of {m : Mp} {l : List V} {r : List Value} (h : VRs m l r) (hl : l.length = 1) : ∃ v x, l = [v] ∧ r = [x] ∧ VR m v x := by
  cases l with
  | nil => simp at hl
  | cons v l =>
    simp only [VRs] at h; obtain ⟨x, r', rfl, a, b⟩ := h
    have : l = [] := List.eq_nil_of_length_eq_zero (by simpa using hl)
    subst this
    simp only [VRs] at b; subst b
    exact ⟨v, x, rfl, rfl, a⟩

/-- types of plain data are compared cell by cell -/
theorem kinds_run : ∀ (d : Nat) (t : TypeId) (ks : List CK), kindsT P d t = some ks → ∀ (D : Nat), d ≤ D → ∀ (as bs : List V) (xs ys : List Value) (r : Bool),
    VRs m as xs → VRs m bs ys → as.length = ks.length → bs.length = ks.length → eqCells ks as bs = some r →
    ∃ ag, isAggT P t = some ag ∧ (ag = false → ks.length = 1) ∧ (Op.equalIn D t (valOf ag xs) (valOf ag ys)).run P w = .ok r w := by
  intro d
  induction d with
  | zero => intro t ks hk; simp [kindsT] at hk
  | succ d ih =>
    intro t ks hk D hD as bs xs ys r ha hb hla hlb he
    obtain ⟨D, rfl⟩ : ∃ k, D = k + 1 := ⟨D - 1, by omega⟩
    have one : ∀ (k : CK) (u : TypeDesc), ckDesc k u → P.underlying t = some u → isAggT P t = some false → ks = [k] →
        ∃ ag, isAggT P t = some ag ∧ (ag = false → ks.length = 1) ∧ (Op.equalIn (D + 1) t (valOf ag xs) (valOf ag ys)).run P w = .ok r w := by
      intro k u hku hu hag hks
      subst hks
      obtain ⟨v, x, rfl, rfl, h1⟩ := ha.one_of hla
      obtain ⟨v', x', rfl, rfl, h2⟩ := hb.one_of hlb
      refine ⟨false, hag, fun _ => rfl, ?_⟩
      have : eqCell k v v' = some r := by
        simp only [eqCells] at he
        split at he
        · rename_i h3; rw [h3]; exact he
        · rename_i h3; rw [h3]; exact he
        · cases he
      exact eqCell_run hu hku h1 h2 this D
    simp only [kindsT] at hk
    split at hk
    · rename_i hu; cases hk; exact one .bool _ rfl hu (aggT_of hu) rfl
    · rename_i k hu; cases hk; exact one .int _ ⟨k, rfl⟩ hu (aggT_of hu) rfl
    · rename_i hu; cases hk; exact one .str _ rfl hu (aggT_of hu) rfl
    · rename_i fs hu
      split at hk
      · cases hk
      · rename_i hst
        refine ⟨true, aggT_of hu, (fun h => by cases h), ?_⟩
        have hst' : P.stoodInHeld t = false := by simpa using hst
        rw [show valOf true xs = .agg xs.toArray from rfl, show valOf true ys = .agg ys.toArray from rfl]
        rw [run_equalIn_struct w D t _ _ (by rw [fieldsOf_of hu]; exact hu) hst', fieldsOf_of hu]
        have hxl := ha.length
        have hyl := hb.length
        -- over the fields
        have key : ∀ (l : List Field) (at_ : Nat) (k : List CK), kindsF P (kindsT P d) l at_ = some k → at_ + k.length = ks.length → k = ks.drop at_ →
            ∀ r, eqCells k (as.drop at_) (bs.drop at_) = some r → (Op.eqFields D xs.toArray ys.toArray l).run P w = .ok r w := by
          intro l
          induction l with
          | nil =>
            intro at_ k hk hle hkd r he
            simp only [kindsF, Option.some.injEq] at hk; subst hk
            have h1 : as.drop at_ = [] := by apply List.drop_eq_nil_of_le; simp at hle; omega
            have h2 : bs.drop at_ = [] := by apply List.drop_eq_nil_of_le; simp at hle; omega
            rw [h1, h2] at he
            simp only [eqCells, Option.some.injEq] at he; subst he
            simp [Op.eqFields]
          | cons f l ihl =>
            intro at_ k hk hle hkd r he
            simp only [kindsF] at hk
            split at hk
            · rename_i hf
              obtain ⟨hoff, hname⟩ := hf
              split at hk
              · rename_i k1 hk1
                split at hk
                · rename_i hsz
                  simp only [Option.map_eq_some_iff] at hk
                  obtain ⟨k2, hk2, rfl⟩ := hk
                  simp only [List.length_append] at hle
                  have ea : as.drop at_ = (as.drop at_).take k1.length ++ as.drop (at_ + k1.length) := by
                    rw [← List.drop_drop, List.take_append_drop]
                  have eb : bs.drop at_ = (bs.drop at_).take k1.length ++ bs.drop (at_ + k1.length) := by
                    rw [← List.drop_drop, List.take_append_drop]
                  rw [ea, eb] at he
                  have hs := eqCells_append (by simp; omega) (by simp; omega) he
                  have hkd2 : k2 = ks.drop (at_ + k1.length) := by
                    rw [← List.drop_drop, ← hkd]; simp
                  have hab : ∃ rr, eqCells k1 ((as.drop at_).take k1.length) ((bs.drop at_).take k1.length) = some rr := by
                    rcases hs with ⟨h1, _⟩ | ⟨h1, _⟩ <;> exact ⟨_, h1⟩
                  obtain ⟨rr, hrr⟩ := hab
                  obtain ⟨ag, hag, hone, hrun⟩ := ih f.type k1 hk1 D (by omega) _ _ _ _ rr ((ha.drop at_).take k1.length) ((hb.drop at_).take k1.length) (by simp; omega) (by simp; omega) hrr
                  have hp1 := run_part (P := P) (w := w) hag hsz hone (xs := xs) (off := at_) (by omega)
                  have hp2 := run_part (P := P) (w := w) hag hsz hone (xs := ys) (off := at_) (by omega)
                  simp only [Op.eqFields]
                  rw [if_pos hname]
                  simp only [Sem.run_bind, hoff, hp1, hp2, Result.andThen_ok, hrun]
                  rcases hs with ⟨h1, h2⟩ | ⟨h1, h2⟩
                  · rw [hrr] at h1; cases h1
                    simp only [Bool.not_true, Bool.false_eq_true, if_false]
                    exact ihl (at_ + k1.length) k2 hk2 (by omega) hkd2 r h2
                  · rw [hrr] at h1; cases h1
                    subst h2
                    simp
                · cases hk
              · cases hk
            · cases hk
        exact key fs.toList 0 ks hk (by simp) (by simp) r (by simpa using he)
    · cases hk

theorem trEqD_run {t : TypeId} {d : EqD} (ht : trEqD P t = some d) {a b : V} {x y : Value} (ha : VR m a x) (hb : VR m b y) {r : Bool} (he : eqD d a b = some r) :
    (Op.equal t x y).run P w = .ok r w := by
  unfold trEqD at ht
  unfold Op.equal Op.maxDepth
  split at ht
  · rename_i hu; cases ht; exact eqCell_run hu (k := .bool) rfl ha hb he 9999
  · rename_i k hu; cases ht; exact eqCell_run hu (k := .int) ⟨k, rfl⟩ ha hb he 9999
  · rename_i hu; cases ht; exact eqCell_run hu (k := .str) rfl ha hb he 9999
  · rename_i fs hu
    split at ht
    · cases ht
    · simp only [Option.map_eq_some_iff] at ht
      obtain ⟨ks, hks, rfl⟩ := ht
      unfold eqD at he
      split at he
      · rename_i k h1; cases h1
      · rename_i ks' l l' h1; cases h1
        split at he
        · rename_i hl
          simp only [VR] at ha hb
          obtain ⟨xa, rfl, h1⟩ := ha
          obtain ⟨ya, rfl, h2⟩ := hb
          obtain ⟨ag, hag, _, hrun⟩ := kinds_run (P := P) (w := w) 20 t ks hks 10000 (by omega) _ _ _ _ r h1 h2 hl.1 hl.2 he
          rw [aggT_of hu] at hag
          cases hag
          simpa [valOf] using hrun
        · cases he
      · cases he
  · cases ht

theorem eqGuard_trEqD {t : TypeId} {d : EqD} (ht : trEqD P t = some d) (op : BinOp) (x y : Operand) {a b : V} {xv yv : Value} (ha : VR m a xv) (hb : VR m b yv) {r : Bool} (he : eqD d a b = some r) :
    (eqGuard op t x y xv yv).run P w = .ok () w := by
  have plain : ∀ k, eqCell k a b = some r → (eqGuard op t x y xv yv).run P w = .ok () w := by
    intro k hk
    unfold eqCell at hk
    split at hk
    · simp only [VR] at ha hb; subst ha hb; cases op <;> rfl
    · simp only [VR] at ha hb; subst ha hb; cases op <;> rfl
    · simp only [VR] at ha hb
      obtain ⟨sa, rfl, rfl⟩ := ha
      obtain ⟨sb, rfl, rfl⟩ := hb
      cases op <;> rfl
    · cases hk
  unfold trEqD at ht
  split at ht
  · cases ht; exact plain _ he
  · cases ht; exact plain _ he
  · cases ht; exact plain _ he
  · split at ht
    · cases ht
    · rename_i hg
      simp only [Option.map_eq_some_iff] at ht
      obtain ⟨ks, hks, rfl⟩ := ht
      unfold eqD at he
      split at he
      · rename_i k h1; cases h1
      · simp only [VR] at ha hb
        obtain ⟨xa, rfl, h1⟩ := ha
        obtain ⟨ya, rfl, h2⟩ := hb
        exact run_eqGuard_agg w op t x y xa ya (by simpa using hg)
      · cases he
  · cases ht

/-- '==' and '!=' through Op.equal -/
theorem binOp_equal {op : BinOp} (hop : op = .eql ∨ op = .neq) {t : TypeId} {x y : Value} (hi : ∀ k n, x ≠ .int k n) (hs : ∀ s, x ≠ .string s) (hf : ∀ k n, x ≠ .float k n) (hc : ∀ k a b, x ≠ .complex k a b) {r : Bool}
    (hr : (Op.equal t x y).run P w = .ok r w) : (binOp op t x y).run P w = .ok (.bool (if op == .neq then !r else r)) w := by
  rcases hop with rfl | rfl
  · have : binOp .eql t x y = (do pure (.bool (← Op.equal t x y)) : Sem Value) := by
      unfold binOp; cases x <;> first | (exact absurd rfl (hi _ _)) | (exact absurd rfl (hs _)) | (exact absurd rfl (hf _ _)) | (exact absurd rfl (hc _ _ _)) | (cases y <;> rfl)
    rw [this]; simp [hr]
  · have : binOp .neq t x y = (do pure (.bool (!(← Op.equal t x y))) : Sem Value) := by
      unfold binOp; cases x <;> first | (exact absurd rfl (hi _ _)) | (exact absurd rfl (hs _)) | (exact absurd rfl (hf _ _)) | (exact absurd rfl (hc _ _ _)) | (cases y <;> rfl)
    rw [this]; simp [hr]

theorem os_eq (s : Sim P m h.get h.next w) {o : Oper} {op : BinOp} (hop : op = .eql ∨ op = .neq) {t yt : TypeId} {x y : Operand} (ho : o.op = .binOp op t x y yt) {d : EqD} (hd : trEqD P t = some d)
    (hnd : d ≠ .one .int ∧ d ≠ .one .str) {a b : V} (ha : VR m a (ρ x)) (hb : VR m b (ρ y)) {r : Bool} (he : eqD d a b = some r) :
    OpS P m h w ((execOp ρ o).run P w) (.bool (if op == .neq then !r else r)) h := by
  refine OpS.val s ?_ (by simp only [VR]; rfl)
  have h1 := eqGuard_trEqD (P := P) (w := w) hd op x y ha hb he
  have hx : (∃ b, ρ x = .bool b) ∨ ∃ l, ρ x = .agg l := by
    unfold eqD at he
    split at he
    · rename_i k
      unfold eqCell at he
      split at he
      · simp only [VR] at ha; exact .inl ⟨_, ha⟩
      · exact absurd rfl hnd.1
      · exact absurd rfl hnd.2
      · cases he
    · simp only [VR] at ha; obtain ⟨l, ha, _⟩ := ha; exact .inr ⟨l, ha⟩
    · cases he
  have h2 := binOp_equal (P := P) (w := w) hop (t := t) (x := ρ x) (y := ρ y)
    (fun k n hh => by rcases hx with ⟨_, k⟩ | ⟨_, k⟩ <;> rw [k] at hh <;> cases hh) (fun k hh => by rcases hx with ⟨_, k⟩ | ⟨_, k⟩ <;> rw [k] at hh <;> cases hh)
    (fun k n hh => by rcases hx with ⟨_, k⟩ | ⟨_, k⟩ <;> rw [k] at hh <;> cases hh) (fun k n _ hh => by rcases hx with ⟨_, k⟩ | ⟨_, k⟩ <;> rw [k] at hh <;> cases hh)
    (trEqD_run (P := P) (w := w) hd ha hb he)
  simp only [execOp, ho, Sem.run_bind, h1, Result.andThen_ok, h2, Sem.run_pure]

end
end Go.Abs

namespace Go.Abs
section
variable {P : Program} {lm : List Nat} {m : Mp} {h : H} {w : World} {e : A → V} {ρ : Operand → Value}

def nkDesc (P : Program) : NK → TypeDesc → Prop
  | .ptr, d => ∃ e, d = .pointer e ∧ (szOf P e).getD 0 ≠ 0
  | .sl, d => ∃ e, d = .slice e
  | .map, d => ∃ k e, d = .map k e
  | .fn, d => ∃ a b c, d = .func a b c
  | .ifc, d => ∃ ms, d = .interface ms

theorem eqNil_run {t : TypeId} {d : TypeDesc} (ht : P.underlying t = some d) {k : NK} (hk : nkDesc P k d) {a b : V} {x y : Value} (ha : VR m a x) (hb : VR m b y)
    {r : Bool} (he : eqNil k a b = some r) (D : Nat) : (Op.equalIn (D + 1) t x y).run P w = .ok r w := by
  rw [Op.equalIn]
  simp only [Sem.run_bind, run_under ht, Result.andThen_ok]
  unfold eqNil at he
  split at he
  all_goals first
    | (cases he
       simp only [VR] at ha hb
       simp only [nkDesc] at hk)
    | skip
  -- both nil
  · obtain ⟨el, rfl, _⟩ := hk; subst ha hb; rfl
  · obtain ⟨el, rfl⟩ := hk; subst ha hb; rfl
  · obtain ⟨_, _, rfl⟩ := hk; subst ha hb; rfl
  · obtain ⟨_, _, _, rfl⟩ := hk; subst ha hb; rfl
  · obtain ⟨_, rfl⟩ := hk; subst ha hb; rfl
  -- one nil
  · obtain ⟨el, rfl, _⟩ := hk; obtain ⟨_, _, rfl⟩ := hb; subst ha; rfl
  · obtain ⟨el, rfl, _⟩ := hk; obtain ⟨_, _, rfl⟩ := ha; subst hb; rfl
  · obtain ⟨el, rfl⟩ := hk; obtain ⟨_, _, rfl, _⟩ := hb; subst ha; rfl
  · obtain ⟨el, rfl⟩ := hk; obtain ⟨_, _, rfl, _⟩ := ha; subst hb; rfl
  · obtain ⟨_, _, rfl⟩ := hk; obtain ⟨_, _, rfl⟩ := hb; subst ha; rfl
  · obtain ⟨_, _, rfl⟩ := hk; obtain ⟨_, _, rfl⟩ := ha; subst hb; rfl
  · obtain ⟨_, _, _, rfl⟩ := hk; obtain ⟨_, _, _, rfl, _⟩ := hb; subst ha; rfl
  · obtain ⟨_, _, _, rfl⟩ := hk; obtain ⟨_, _, _, rfl, _⟩ := ha; subst hb; rfl
  · obtain ⟨_, rfl⟩ := hk; obtain ⟨_, rfl, _⟩ := hb; subst ha; rfl
  · obtain ⟨_, rfl⟩ := hk; obtain ⟨_, rfl, _⟩ := ha; subst hb; rfl
  -- two pointers
  · rename_i a o b p
    split at he
    · rename_i hab; subst hab; cases he
      obtain ⟨x1, h1, rfl⟩ := ha.ptr
      obtain ⟨x2, h2, rfl⟩ := hb.ptr
      rw [h1] at h2; cases h2
      simp only [nkDesc] at hk
      obtain ⟨el, rfl, hz⟩ := hk
      obtain ⟨n, hn⟩ : ∃ n, szOf P el = some n := by
        cases hh : szOf P el with
        | none => simp [hh] at hz
        | some n => exact ⟨n, rfl⟩
      have hn0 : n ≠ 0 := by simpa [hn] using hz
      simp only [Sem.run_bind, Result.andThen_ok, run_sizeOf hn]
      rw [if_pos hn0]
      simp only [sameAddr, beq_self_eq_true, if_true, Sem.run_pure]
      congr 1
      rw [Bool.eq_iff_iff]
      simp
    · cases he
  · cases he

theorem eqGuard_nil {op : BinOp} {t : TypeId} {x y : Operand} {k : NK} (hc : k = .ifc → (isNilC x || isNilC y) = true) {a b : V} {xv yv : Value} (ha : VR m a xv) (hb : VR m b yv)
    {r : Bool} (he : eqNil k a b = some r) : (eqGuard op t x y xv yv).run P w = .ok () w := by
  unfold eqNil at he
  split at he <;> first
    | (cases he; done)
    | (simp only [VR] at ha hb)
  all_goals first
    | (subst ha hb; cases op <;> rfl)
    | (obtain ⟨_, _, rfl⟩ := hb; subst ha; cases op <;> rfl)
    | (obtain ⟨_, _, rfl⟩ := ha; subst hb; cases op <;> rfl)
    | (obtain ⟨_, _, rfl, _⟩ := hb; subst ha; cases op <;> rfl)
    | (obtain ⟨_, _, rfl, _⟩ := ha; subst hb; cases op <;> rfl)
    | (obtain ⟨_, _, _, rfl, _⟩ := hb; subst ha; cases op <;> rfl)
    | (obtain ⟨_, _, _, rfl, _⟩ := ha; subst hb; cases op <;> rfl)
    | (obtain ⟨_, rfl, _⟩ := hb; subst ha; cases op <;> rfl)
    | (obtain ⟨_, rfl, _⟩ := ha; subst hb; cases op <;> rfl)
    | (obtain ⟨_, _, rfl⟩ := ha; obtain ⟨_, _, rfl⟩ := hb; cases op <;> rfl)
    | skip
  -- two nil interfaces
  subst ha hb
  have := hc rfl
  simp only [isNilC, Bool.or_eq_true] at this
  rcases this with h1 | h1
  · split at h1
    · cases op <;> rfl
    · cases h1
  · split at h1
    · cases op <;> cases x <;> rfl
    · cases h1

theorem os_eqnil (s : Sim P m h.get h.next w) {o : Oper} {op : BinOp} (hop : op = .eql ∨ op = .neq) {t yt : TypeId} {x y : Operand} (ho : o.op = .binOp op t x y yt) {d : TypeDesc} (ht : P.underlying t = some d) {k : NK} (hk : nkDesc P k d)
    (hc : k = .ifc → (isNilC x || isNilC y) = true) {a b : V} (ha : VR m a (ρ x)) (hb : VR m b (ρ y)) {r : Bool} (he : eqNil k a b = some r) :
    OpS P m h w ((execOp ρ o).run P w) (.bool (if op == .neq then !r else r)) h := by
  refine OpS.val s ?_ (by simp only [VR]; rfl)
  have h1 := eqGuard_nil (P := P) (w := w) (op := op) (t := t) hc ha hb he
  have hx : (∀ k n, ρ x ≠ .int k n) ∧ (∀ s, ρ x ≠ .string s) ∧ (∀ k n, ρ x ≠ .float k n) ∧ (∀ k a b, ρ x ≠ .complex k a b) := by
    unfold eqNil at he
    split at he <;> first
      | (cases he; done)
      | (simp only [VR] at ha)
    all_goals first
      | (rw [ha]; simp; done)
      | (obtain ⟨_, _, ha⟩ := ha; rw [ha]; simp; done)
      | (obtain ⟨_, _, ha, _⟩ := ha; rw [ha]; simp; done)
      | (obtain ⟨_, _, _, ha, _⟩ := ha; rw [ha]; simp; done)
      | (obtain ⟨_, ha, _⟩ := ha; rw [ha]; simp; done)
  have h2 := binOp_equal (P := P) (w := w) hop (t := t) (x := ρ x) (y := ρ y) hx.1 hx.2.1 hx.2.2.1 hx.2.2.2 (eqNil_run (P := P) (w := w) ht hk ha hb he 9999)
  simp only [execOp, ho, Sem.run_bind, h1, Result.andThen_ok, h2, Sem.run_pure]

theorem plainTypes_mem {t : TypeId} (ht : (plainTypes P).contains t = true) : ∃ i k, P.info? t = some i ∧ i.comparable = true ∧ P.underlying t = some (.int k) := by
  unfold plainTypes at ht
  simp only [List.contains_iff_mem, List.mem_filter] at ht
  obtain ⟨_, ht⟩ := ht
  split at ht
  · rename_i u _ _ _ _ _ _ _ hi
    split at ht
    · rename_i k _ _ _ _ _ _ _ _ _ hu
      refine ⟨_, k, hi, rfl, ?_⟩
      simp [Program.underlying, hi, hu]
    · cases ht
  · cases ht

theorem os_eqI (s : Sim P m h.get h.next w) {o : Oper} {op : BinOp} (hop : op = .eql ∨ op = .neq) {t yt : TypeId} {x y : Operand} (ho : o.op = .binOp op t x y yt) {ms : Array (String × TypeId)} (ht : P.underlying t = some (.interface ms))
    {a b : V} (ha : VR m a (ρ x)) (hb : VR m b (ρ y)) {r : Bool} (he : eqIface (plainTypes P) a b = some r) :
    OpS P m h w ((execOp ρ o).run P w) (.bool (if op == .neq then !r else r)) h := by
  refine OpS.val s ?_ (by simp only [VR]; rfl)
  have key : (eqGuard op t x y (ρ x) (ρ y)).run P w = .ok () w ∧ (Op.equalIn (9999 + 1) t (ρ x) (ρ y)).run P w = .ok r w ∧ ((ρ x = .nilIface) ∨ ∃ t v, ρ x = .iface t v) := by
    rw [Op.equalIn]
    simp only [Sem.run_bind, run_under ht, Result.andThen_ok]
    unfold eqIface at he
    split at he
    · cases he
      simp only [VR] at ha hb; obtain ⟨x', h1, _⟩ := hb
      rw [ha, h1]
      exact ⟨by cases op <;> rfl, rfl, .inl rfl⟩
    · cases he
      simp only [VR] at ha hb; obtain ⟨x', h1, _⟩ := ha
      rw [hb, h1]
      exact ⟨by cases op <;> rfl, rfl, .inr ⟨_, _, rfl⟩⟩
    · simp only [VR] at ha hb
      obtain ⟨x1, h1, h1'⟩ := ha
      obtain ⟨x2, h2, h2'⟩ := hb
      rw [h1, h2]
      refine ⟨by cases op <;> rfl, ?_, .inr ⟨_, _, rfl⟩⟩
      split at he
      · rename_i hne; cases he
        simp only
        rw [if_pos hne]; rfl
      · rename_i heq
        simp only [ne_eq, Decidable.not_not] at heq
        subst heq
        split at he
        · rename_i hc
          obtain ⟨i, k, hi, hcmp, hu⟩ := plainTypes_mem hc
          have := eqCell_run (P := P) (w := w) hu (k := .int) ⟨k, rfl⟩ h1' h2' he 9998
          simp only [Sem.run_bind, Result.andThen_ok, run_typeInfo hi, hcmp, ne_eq, not_true_eq_false, if_false, Bool.not_true, Bool.false_eq_true]
          exact this
        · cases he
    · cases he
  obtain ⟨h1, h2, hx⟩ := key
  have hx' : (∀ k n, ρ x ≠ .int k n) ∧ (∀ s, ρ x ≠ .string s) ∧ (∀ k n, ρ x ≠ .float k n) ∧ (∀ k a b, ρ x ≠ .complex k a b) := by
    rcases hx with hx | ⟨_, _, hx⟩ <;> rw [hx] <;> simp
  have h3 := binOp_equal (P := P) (w := w) hop (t := t) hx'.1 hx'.2.1 hx'.2.2.1 hx'.2.2.2 h2
  simp only [execOp, ho, Sem.run_bind, h1, Result.andThen_ok, h3, Sem.run_pure]

/-! ### conversions -/
theorem os_cvInt (s : Sim P m h.get h.next w) {o : Oper} {src dst : TypeId} {x : Operand} (ho : o.op = .convert src dst x) {k k0 : IntKind} (hs : P.underlying src = some (.int k0)) (hd : P.underlying dst = some (.int k))
    {k' : IntKind} {n : Int} (hx : VR m (.int k' n) (ρ x)) : OpS P m h w ((execOp ρ o).run P w) (.int k (k.wrap n)) h := by
  simp only [VR] at hx
  refine OpS.val s ?_ (by simp only [VR]; rfl)
  simp [execOp, ho, hx, convert, run_under hs, run_under hd, Conv.intToInt]

theorem os_cvStr (s : Sim P m h.get h.next w) {o : Oper} {src dst : TypeId} {x : Operand} (ho : o.op = .convert src dst x) (hs : P.underlying src = some .string) (hd : P.underlying dst = some .string)
    {l : List UInt8} (hx : VR m (.str l) (ρ x)) : OpS P m h w ((execOp ρ o).run P w) (.str l) h := by
  refine OpS.val s (cv := ρ x) ?_ hx
  simp only [VR] at hx; obtain ⟨b, hx, _⟩ := hx
  simp [execOp, ho, hx, convert, run_under hs, run_under hd]

theorem os_cvIntStr (s : Sim P m h.get h.next w) {o : Oper} {src dst : TypeId} {x : Operand} (ho : o.op = .convert src dst x) {k0 : IntKind} (hs : P.underlying src = some (.int k0)) (hd : P.underlying dst = some .string)
    {k' : IntKind} {n : Int} (hx : VR m (.int k' n) (ρ x)) : OpS P m h w ((execOp ρ o).run P w) (.str (Utf8.encode n).data.toList) h := by
  simp only [VR] at hx
  refine OpS.val s ?_ (by simp only [VR]; exact ⟨_, rfl, rfl⟩)
  simp [execOp, ho, hx, convert, run_under hs, run_under hd, Conv.intToString]

theorem os_mkIface (s : Sim P m h.get h.next w) {o : Oper} {t : TypeId} {x : Operand} (ho : o.op = .makeInterface t x) {d : TypeDesc} (ht : P.underlying t = some d) (hd : ∀ ms, d ≠ .interface ms) {v : V} (hx : VR m v (ρ x)) :
    OpS P m h w ((execOp ρ o).run P w) (.iface t v) h := by
  refine OpS.val s (cv := .iface t (ρ x)) ?_ (by simp only [VR]; exact ⟨_, rfl, hx⟩)
  simp only [execOp, ho, Instr.makeInterface, Sem.run_bind, run_under ht, Result.andThen_ok]
  cases d <;> first | exact absurd rfl (hd _) | rfl

theorem trAs_rel (hev : EvR P lm m e ρ) : ∀ {xs : List Operand} {l : List A}, trAs P lm xs = some l → VRs m (l.map e) (xs.map ρ)
  | [], l, h => by simp only [trAs, Option.some.injEq] at h; subst h; exact VRs.nil
  | x :: xs, l, h => by
    simp only [trAs] at h
    split at h
    · rename_i a r h1 h2; cases h
      exact VRs.cons (hev x a h1) (trAs_rel hev h2)
    · cases h

theorem os_mkFn (s : Sim P m h.get h.next w) (hev : EvR P lm m e ρ) {o : Oper} {f : FuncId} {a b : Array Operand} (ho : o.op = .makeFunc (.func f) a b) {la lb : List A} (h1 : trAs P lm a.toList = some la) (h2 : trAs P lm b.toList = some lb) :
    OpS P m h w ((execOp ρ o).run P w) (.fn (.func f) (la.map e) (lb.map e)) h := by
  refine OpS.val s (cv := .func (.func f) (a.map ρ) (b.map ρ)) ?_ ?_
  · simp [execOp, ho, Instr.makeFunc]
  · simp only [VR]
    exact ⟨_, _, _, rfl, rfl, by rw [Array.toList_map]; exact trAs_rel hev h1, by rw [Array.toList_map]; exact trAs_rel hev h2⟩

theorem os_tassert (s : Sim P m h.get h.next w) {o : Oper} {x : Operand} {xt t : TypeId} (ho : o.op = .typeAssert x xt t true) {d : TypeDesc} (ht : P.underlying t = some d) (hd : ∀ ms, d ≠ .interface ms) {z : V} (hz : zeroV P t = some z)
    {a v : V} (hx : VR m a (ρ x)) (hv : evOp (.tassert (.c a) t z) (evA [] []) h = some (v, h)) : OpS P m h w ((execOp ρ o).run P w) v h := by
  obtain ⟨zv, hz1, hz2⟩ := run_zeroV hz
  have tup2 : ∀ {a b : V} {x y : Value}, VR m a x → VR m b y → VR m (.tup [a, b]) (.tuple #[x, y]) := fun h1 h2 => by
    simp only [VR]; exact ⟨_, rfl, VRs.cons h1 (VRs.cons h2 VRs.nil)⟩
  simp only [evOp, evA] at hv
  split at hv
  · cases hv
    simp only [VR] at hx
    refine OpS.val s ?_ (tup2 (hz2 m) (by simp only [VR]; rfl))
    simp only [execOp, ho, Instr.typeAssert, Sem.run_bind, run_under ht, Result.andThen_ok, hx]
    cases d <;> first | exact absurd rfl (hd _) | simp [hz1]
  · rename_i u c
    simp only [VR] at hx
    obtain ⟨x', hx1, hx2⟩ := hx
    split at hv
    · rename_i hu; subst hu
      cases hv
      refine OpS.val s ?_ (tup2 hx2 (by simp only [VR]; rfl))
      simp only [execOp, ho, Instr.typeAssert, Sem.run_bind, run_under ht, Result.andThen_ok, hx1]
      cases d <;> first | exact absurd rfl (hd _) | simp
    · rename_i hu
      cases hv
      refine OpS.val s ?_ (tup2 (hz2 m) (by simp only [VR]; rfl))
      simp only [execOp, ho, Instr.typeAssert, Sem.run_bind, run_under ht, Result.andThen_ok, hx1]
      cases d <;> first | exact absurd rfl (hd _) | simp [hz1, hu]
  · cases hv

theorem os_extract (s : Sim P m h.get h.next w) {o : Oper} {x : Operand} {i : Nat} (ho : o.op = .extract x i) {l : List V} {v : V} (hx : VR m (.tup l) (ρ x)) (hv : l[i]? = some v) :
    OpS P m h w ((execOp ρ o).run P w) v h := by
  simp only [VR] at hx
  obtain ⟨a, hx, hl⟩ := hx
  obtain ⟨cv, h1, h2⟩ := hl.get hv
  refine OpS.val s (cv := cv) ?_ h2
  have : a[i]? = some cv := by simpa using h1
  simp [execOp, ho, hx, Instr.extract, this]

end
end Go.Abs

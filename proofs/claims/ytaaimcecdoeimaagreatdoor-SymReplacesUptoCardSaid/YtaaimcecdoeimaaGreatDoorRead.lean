/-
  A world, as far as the machine may read it: a heap of the machine, to be read alone.
-/
import Derived.Test.YtaaimcecdoeimaaGreatDoorMachJ
import Derived.Test.YtaaimcecdoeimaaGreatDoorSymA
import Derived.Test.YtaaimcecdoeimaaGreatDoorLawA
import Derived.ChangeArms
namespace Go.Abs.Sy

/-- what is known of a value; block 0 stands for a place that is never read -/
def absV (n : Nat) : Value → V
  | .int k x => .int k x
  | .string s => .str s.data.toList
  | .slice none 0 0 => .nils
  | .slice (some a) len cap =>
    if cap = 0 then (if len = 0 then .sl 0 0 0 (.k 0) else .bad)
    else if a.spot = none ∧ len ≤ cap ∧ a.block < n then .sl a.block a.off len (.k cap) else .bad
  | _ => .bad

def absO (n : Nat) : Option Obj → Option O
  | some (.cells c _ _) => some (.rcells (c.toList.map (absV n)))
  | _ => none

def absH (w : World) : H := H.ofList 0 ((List.range w.heap.size).map fun r => absO w.heap.size w.heap[r]?)
def absM (w : World) : Mp := fun b => if b < w.heap.size then some ⟨b, 0, match w.heap[b]? with | some (.cells c _ _) => c.size | _ => 0⟩ else none

theorem told_range {f : Nat → Option O} : ∀ (n k s b : Nat), told k ((List.range' s n).map f) b = if k ≤ b ∧ b < k + n then f (s + (b - k)) else none
  | 0, k, s, b => by
    rw [if_neg (by omega)]; rfl
  | n + 1, k, s, b => by
    rw [List.range'_succ, List.map_cons, told_cons, told_range n (k + 1) (s + 1) b]
    by_cases hb : b = k
    · subst hb
      rw [if_pos rfl, if_pos (by omega)]
      congr 1; omega
    · rw [if_neg hb]
      by_cases h2 : k ≤ b ∧ b < k + (n + 1)
      · rw [if_pos h2, if_pos (by omega)]
        congr 1; omega
      · rw [if_neg h2, if_neg (by omega)]

theorem absH_get (w : World) (b : Nat) : (absH w).get b = absO w.heap.size w.heap[b]? := by
  unfold absH
  rw [ofList_get, List.range_eq_range', told_range]
  by_cases hb : b < w.heap.size
  · rw [if_pos (by omega)]; congr 2; omega
  · rw [if_neg (by omega)]
    have : w.heap[b]? = none := Array.getElem?_eq_none (by omega)
    rw [this]; rfl
theorem absH_next (w : World) : (absH w).next = w.heap.size := by
  unfold absH
  rw [ofList_next, List.length_map, List.length_range, Nat.zero_add]
theorem absH_ro (w : World) : ∀ b o, (absH w).get b = some o → ∃ c, o = .rcells c := by
  intro b o h
  rw [absH_get] at h
  unfold absO at h
  split at h
  · cases h; exact ⟨_, rfl⟩
  · cases h
theorem absH_wf (w : World) : WF (absH w) := by
  intro b hb
  rw [absH_next] at hb
  rw [absH_get]
  have : w.heap[b]? = none := Array.getElem?_eq_none hb
  rw [this]; rfl

theorem absV_vr {w : World} (h0 : 0 < w.heap.size) (v : Value) : VR (absM w) (absV w.heap.size v) v := by
  unfold absV
  split
  · simp only [VR]
  · simp only [VR]; exact ⟨_, rfl, rfl⟩
  · simp only [VR]
  · rename_i a len cap
    split
    · rename_i hc
      split
      · rename_i hl
        subst hc hl
        simp only [VR]
        refine ⟨a, 0, rfl, Nat.le_refl _, fun c h => by cases h; rfl, ?_⟩
        unfold absM
        rw [if_pos h0]
        exact ⟨_, rfl, .inl rfl⟩
      · simp only [VR]
    · split
      · rename_i hc h
        obtain ⟨h1, h2, h3⟩ := h
        simp only [VR]
        refine ⟨a, cap, rfl, h2, fun c h => by cases h; rfl, ?_⟩
        unfold absM
        rw [if_pos h3]
        refine ⟨_, rfl, .inr ⟨?_, fun z h => by cases h⟩⟩
        cases a
        simp only at h1
        subst h1
        simp
      · simp only [VR]
  · simp only [VR]

theorem absL_vrs {w : World} (h0 : 0 < w.heap.size) : ∀ (l : List Value), VRs (absM w) (l.map (absV w.heap.size)) l
  | [] => VRs.nil
  | v :: l => VRs.cons (absV_vr h0 v) (absL_vrs h0 l)

theorem abs_sim {P : Program} {w : World} (h0 : 0 < w.heap.size) (hg : P.globals.size ≤ w.heap.size) : Sim P (absM w) (absH w).get (absH w).next w where
  dom b x e := by
    unfold absM at e
    split at e
    · rename_i hb; cases e; rw [absH_next]; exact ⟨hb, hb⟩
    · cases e
  obj b x o e k _ := by
    unfold absM at e
    split at e
    · cases e
      rw [absH_get] at k
      unfold absO at k
      split at k
      · rename_i c t fr hh
        cases k
        refine ⟨_, hh, c, t, fr, rfl, ?_, ?_, ?_⟩
        · simp []
        · simp []
        · rw [List.drop_zero, List.length_map, List.take_length]
          exact absL_vrs h0 _
      · cases k
    · cases e
  inj b b' x x' e e' _ _ q := by
    unfold absM at e e'
    split at e
    · split at e'
      · cases e; cases e'; exact q
      · cases e'
    · cases e
  glob i hi := by
    have e : absM w i = some ⟨i, 0, match w.heap[i]? with | some (.cells c _ _) => c.size | _ => 0⟩ := if_pos (by omega)
    exact ⟨_, e, rfl, rfl⟩
  top b hb l := by
    obtain ⟨o, e, _⟩ := l
    rw [absH_wf w b hb] at e; cases e

theorem mapM_range {α : Type} {f : Nat → Option α} {n : Nat} {l : List α} (h : (List.range n).mapM f = some l) : l.length = n ∧ ∀ i, i < n → f i = l[i]? := by
  refine ⟨by simpa using mapM_some_length h, fun i hi => mapM_some_get h i i (by simp [hi])⟩

/-- cells that a reading meets are cells of the machine's heap -/
theorem abs_rd {w : World} {base : Nat} {a : Addr} {n : Nat} {cs : List Value} (h : w.cells? base a n = some cs) (hn : 0 < n) :
    a.spot = none ∧ a.block < w.heap.size ∧ cs.length = n ∧ (absH w).rd a.block a.off n = some (cs.map (absV w.heap.size)) := by
  unfold World.cells? at h
  split at h
  · obtain ⟨hl, hc⟩ := mapM_range h
    have h00 := hc 0 hn
    have hadd : a.add 0 = a := by unfold Addr.add; rw [if_pos rfl]
    rw [hadd] at h00
    have h0 : ∃ v, w.cell? a = some v := ⟨cs[0], by rw [h00, List.getElem?_eq_getElem]⟩
    obtain ⟨v, hv⟩ := h0
    unfold World.cell? at hv
    split at hv
    · rename_i c t fr hh
      have hs : a.spot = none := by
        cases hs : a.spot with
        | none => rfl
        | some q => rw [hs] at hv; simp at hv
      have hblk : a.block < w.heap.size := (Array.getElem?_eq_some_iff.1 hh).1
      have hcell : ∀ i, i < n → c.toList[a.off + i]? = cs[i]? := by
        intro i hi
        rw [← hc i hi]
        by_cases hi0 : i = 0
        · subst hi0
          rw [hadd]
          unfold World.cell?
          rw [hh]
          simp only [hs, Option.isSome_none, Bool.false_eq_true, if_false, Array.getElem?_toList, Nat.add_zero]
        · unfold World.cell? Addr.add
          rw [if_neg hi0]
          dsimp only
          rw [hh]
          simp only [Option.isSome_none, Bool.false_eq_true, if_false, Array.getElem?_toList]
      refine ⟨hs, hblk, hl, ?_⟩
      unfold H.rd
      rw [absH_get, hh]
      show (if a.off + n ≤ (c.toList.map (absV w.heap.size)).length then _ else _) = _
      have hlen : a.off + n ≤ c.toList.length := by
        have := hcell (n - 1) (by omega)
        rw [List.getElem?_eq_getElem (l := cs) (by omega)] at this
        have := (List.getElem?_eq_some_iff.1 this).1
        omega
      rw [if_pos (by rw [List.length_map]; exact hlen), ← List.map_drop, ← List.map_take]
      congr 2
      apply List.ext_getElem?
      intro i
      rw [List.getElem?_take]
      by_cases hi : i < n
      · rw [if_pos hi, List.getElem?_drop, hcell i hi]
      · rw [if_neg hi, List.getElem?_eq_none (by omega)]
    · cases hv
  · cases h
end Go.Abs.Sy

namespace Go.Abs.Sy

section
variable {H0 : Type} {enc : TypeId × Value → H0} {P : Program} {w : World} {base : Nat} {held : Bool} {fuel : Nat} {cs : List Value} {x : DataW H0 × List MemPlace}

/-- the types that the arguments have -/
structure Tys (P : Program) (tI tS tT tV tL tF tA : TypeId) : Prop where
  int : P.underlying tI = some (.int .i64)
  str : P.underlying tS = some .string
  val : ∃ f0 f1 f2 : Field, P.underlying tT = some (.struct #[f0, f1, f2]) ∧ (f0.type, f0.offset) = (tI, 0) ∧ (f1.type, f1.offset) = (tI, 1) ∧ (f2.type, f2.offset) = (tS, 2)
  sval : ∃ f0 f1 f2 f3 : Field, P.underlying tV = some (.struct #[f0, f1, f2, f3]) ∧ (f0.type, f0.offset) = (tI, 0) ∧ (f1.type, f1.offset) = (tI, 1) ∧ (f2.type, f2.offset) = (tI, 2) ∧ (f3.type, f3.offset) = (tT, 3)
  svals : P.underlying tL = some (.slice tV)
  frame : ∃ f0 f1 f2 f3 f4 f5 f6 f7 : Field, P.underlying tF = some (.struct #[f0, f1, f2, f3, f4, f5, f6, f7]) ∧ (f0.type, f0.offset) = (tI, 0) ∧ (f1.type, f1.offset) = (tI, 1) ∧ (f2.type, f2.offset) = (tV, 2) ∧ (f3.type, f3.offset) = (tV, 8) ∧
    (f4.type, f4.offset) = (tL, 14) ∧ (f5.type, f5.offset) = (tL, 15) ∧ (f6.type, f6.offset) = (tI, 16) ∧ (f7.type, f7.offset) = (tI, 17)
  frames : P.underlying tA = some (.slice tF)
  cI : P.cellsOf tI = 1
  cS : P.cellsOf tS = 1
  cT : P.cellsOf tT = 3
  cV : P.cellsOf tV = 6
  cL : P.cellsOf tL = 1
  cF : P.cellsOf tF = 18
  cA : P.cellsOf tA = 1

variable {tI tS tT tV tL tF tA : TypeId}

theorem len3 {α : Type} : ∀ {l : List α}, l.length = 3 → ∃ a b c, l = [a, b, c]
  | [a, b, c], _ => ⟨a, b, c, rfl⟩
theorem len6 {α : Type} : ∀ {l : List α}, l.length = 6 → ∃ a b c d e f, l = [a, b, c, d, e, f]
  | [a, b, c, d, e, f], _ => ⟨a, b, c, d, e, f, rfl⟩
theorem len18 {α : Type} : ∀ {l : List α}, l.length = 18 → ∃ a0 a1 a2 a3 a4 a5 a6 a7 a8 a9 a10 a11 a12 a13 a14 a15 a16 a17, l = [a0, a1, a2, a3, a4, a5, a6, a7, a8, a9, a10, a11, a12, a13, a14, a15, a16, a17]
  | [a0, a1, a2, a3, a4, a5, a6, a7, a8, a9, a10, a11, a12, a13, a14, a15, a16, a17], _ => ⟨a0, a1, a2, a3, a4, a5, a6, a7, a8, a9, a10, a11, a12, a13, a14, a15, a16, a17, rfl⟩

/-- the cells of a value of frames -/
def svC (s : SV) : List Value := [.int .i64 s.k, .int .i64 s.n, .int .i64 s.m, .int .i64 s.a, .int .i64 s.b, .string ⟨s.t.toArray⟩]
theorem svC_abs (n : Nat) (s : SV) : (svC s).map (absV n) = s.cells := rfl

theorem some_at {α : Type} {l : List α} {i : Nat} {o : Option α} (h : o = l[i]?) (hi : i < l.length) : ∃ y, o = some y := by
  rw [h, List.getElem?_eq_getElem hi]; exact ⟨_, rfl⟩

theorem sval_of (T : Tys P tI tS tT tV tL tF tA) {sp : Nat → Bool} (h : DataW.trod enc P w base sp held fuel tV cs = some x) : ∃ s : SV, cs = svC s := by
  obtain ⟨f0, f1, f2, f3, ht, h0, h1, h2, h3⟩ := T.sval
  simp only [Prod.mk.injEq] at h0 h1 h2 h3
  obtain ⟨xs, n, rfl, _, hl, hxs, hf⟩ := DataW.trod_struct ht h
  rw [T.cV] at hl
  obtain ⟨c0, c1, c2, c3, c4, c5, rfl⟩ := len6 hl
  have hxs : xs.length = 4 := hxs
  obtain ⟨y0, e0⟩ := some_at (hf 0 f0 rfl) (by omega)
  obtain ⟨y1, e1⟩ := some_at (hf 1 f1 rfl) (by omega)
  obtain ⟨y2, e2⟩ := some_at (hf 2 f2 rfl) (by omega)
  obtain ⟨y3, e3⟩ := some_at (hf 3 f3 rfl) (by omega)
  rw [h0.1, h0.2, T.cI] at e0
  rw [h1.1, h1.2, T.cI] at e1
  rw [h2.1, h2.2, T.cI] at e2
  rw [h3.1, h3.2, T.cT] at e3
  obtain ⟨n0, q0, _⟩ := DataW.trod_int T.int e0
  obtain ⟨n1, q1, _⟩ := DataW.trod_int T.int e1
  obtain ⟨n2, q2, _⟩ := DataW.trod_int T.int e2
  obtain ⟨g0, g1, g2, gt, k0, k1, k2⟩ := T.val
  simp only [Prod.mk.injEq] at k0 k1 k2
  obtain ⟨xs2, n', hn, _, _, hxs2, hf2⟩ := DataW.trod_struct gt e3
  have hxs2 : xs2.length = 3 := hxs2
  obtain ⟨z0, d0⟩ := some_at (hf2 0 g0 rfl) (by omega)
  obtain ⟨z1, d1⟩ := some_at (hf2 1 g1 rfl) (by omega)
  obtain ⟨z2, d2⟩ := some_at (hf2 2 g2 rfl) (by omega)
  rw [k0.1, k0.2, T.cI] at d0
  rw [k1.1, k1.2, T.cI] at d1
  rw [k2.1, k2.2, T.cS] at d2
  obtain ⟨n3, q3, _⟩ := DataW.trod_int T.int d0
  obtain ⟨n4, q4, _⟩ := DataW.trod_int T.int d1
  obtain ⟨st, q5, _⟩ := DataW.trod_string T.str d2
  simp only [List.drop_zero, List.drop_succ_cons, List.take_succ_cons, List.take_zero, List.cons.injEq, and_true] at q0 q1 q2 q3 q4 q5
  subst q0 q1 q2 q3 q4 q5
  exact ⟨⟨n0, n1, n2, n3, n4, st.data.toList⟩, rfl⟩

/-- how long a reading of a list is -/
def LenOf (d : DataW H0) (n : Nat) : Prop := (d = .nil ∧ n = 0) ∨ ∃ el sp, d = .slice el sp ∧ el.length = n

/-- elements that are read, one by one -/
theorem elems_rd {a : Addr} {len z : Nat} {n0 : Nat} {te : TypeId} {elems : List (DataW H0 × List MemPlace)} (hz : P.cellsOf te = z) (hpos : 0 < z) (hlen : 0 < len)
    (hel : elems.length = len) (hr : ∀ i, i < len → (w.cells? base (a.add (i * P.cellsOf te)) (P.cellsOf te)).bind (DataW.trod enc P w base (fun _ => true) held n0 te) = elems[i]?) :
    a.spot = none ∧ a.block < w.heap.size ∧ ∀ i, i < len → ∃ cs y, (absH w).rd a.block (a.off + i * z) z = some (cs.map (absV w.heap.size)) ∧ elems[i]? = some y ∧ DataW.trod enc P w base (fun _ => true) held n0 te cs = some y := by
  rw [hz] at hr
  have one : ∀ i, i < len → ∃ cs y, w.cells? base (a.add (i * z)) z = some cs ∧ elems[i]? = some y ∧ DataW.trod enc P w base (fun _ => true) held n0 te cs = some y := by
    intro i hi
    have := hr i hi
    rw [List.getElem?_eq_getElem (by omega)] at this
    obtain ⟨cs, h1, h2⟩ := Option.bind_eq_some_iff.1 this
    exact ⟨cs, _, h1, List.getElem?_eq_getElem (by omega), h2⟩
  obtain ⟨cs0, y0, h1, _, _⟩ := one 0 hlen
  have hadd : a.add (0 * z) = a := by rw [Nat.zero_mul]; unfold Addr.add; rw [if_pos rfl]
  rw [hadd] at h1
  obtain ⟨hs, hb, _, _⟩ := abs_rd h1 hpos
  refine ⟨hs, hb, fun i hi => ?_⟩
  obtain ⟨cs, y, h1, h2, h3⟩ := one i hi
  obtain ⟨_, _, _, h4⟩ := abs_rd h1 hpos
  refine ⟨cs, y, ?_, h2, h3⟩
  rw [← h4]
  unfold Addr.add
  by_cases hz0 : i * z = 0
  · rw [if_pos hz0, hz0]; rfl
  · rw [if_neg hz0]

/-- pieces of a row, one behind the other -/
theorem rd_join {h : H} {b o z : Nat} {α : Type} {f : α → List V} (hf : ∀ a, (f a).length = z) : ∀ (l : List α) (c : Nat), (∀ i s, l[i]? = some s → h.rd b (o + (c + i) * z) z = some (f s)) → 0 < l.length → h.rd b (o + c * z) (l.length * z) = some (l.flatMap f)
  | [], _, _, h => by cases h
  | [s], c, hr, _ => by
    have := hr 0 s rfl
    rw [Nat.add_zero] at this
    rw [List.length_singleton, Nat.one_mul, this, List.flatMap_cons, List.flatMap_nil, List.append_nil]
  | s :: t :: l, c, hr, _ => by
    have h1 := hr 0 s rfl
    rw [Nat.add_zero] at h1
    have h2 := rd_join hf (t :: l) (c + 1) (fun i q hq => by have := hr (i + 1) q hq; rwa [show c + 1 + i = c + (i + 1) from by omega]) (Nat.succ_pos _)
    obtain ⟨cs, g1, l1, e1⟩ := rd_some h1
    obtain ⟨cs', g2, l2, e2⟩ := rd_some h2
    have : cs = cs' := by
      rcases g1 with g1 | g1 <;> rcases g2 with g2 | g2 <;> (rw [g1] at g2; cases g2 <;> rfl)
    subst this
    have hlen : (s :: t :: l).length * z = z + (t :: l).length * z := by rw [List.length_cons, Nat.succ_mul]; omega
    have hc1 : o + (c + 1) * z = o + c * z + z := by rw [Nat.succ_mul]; omega
    rw [hlen, List.flatMap_cons, e1, e2, hc1]
    rw [hc1] at l2
    unfold H.rd
    rcases g1 with g1 | g1
    all_goals
      rw [g1]
      dsimp only
      rw [if_pos (by omega)]
      congr 1
      rw [List.take_add, List.drop_drop]
end
end Go.Abs.Sy

namespace Go.Abs.Sy

section
variable {H0 : Type} {enc : TypeId × Value → H0} {P : Program} {w : World} {base : Nat} {held : Bool} {fuel : Nat} {cs : List Value} {x : DataW H0 × List MemPlace}
variable {tI tS tT tV tL tF tA : TypeId}

theorem pick {α : Type} {p : Nat → α → Prop} : ∀ (n : Nat), (∀ i, i < n → ∃ s, p i s) → ∃ l : List α, l.length = n ∧ ∀ i s, l[i]? = some s → p i s
  | 0, _ => ⟨[], rfl, fun i s h => by simp at h⟩
  | n + 1, h => by
    obtain ⟨l, hl, hp⟩ := pick n fun i hi => h i (by omega)
    obtain ⟨s, hs⟩ := h n (by omega)
    refine ⟨l ++ [s], by rw [List.length_append, hl]; rfl, fun i t ht => ?_⟩
    by_cases hi : i < l.length
    · rw [List.getElem?_append_left hi] at ht; exact hp i t ht
    · rw [List.getElem?_append_right (by omega)] at ht
      have : i - l.length = 0 := by
        rcases Nat.eq_zero_or_pos (i - l.length) with e | e
        · exact e
        · rw [List.getElem?_eq_none (by simp; omega)] at ht; cases ht
      rw [this] at ht
      cases ht
      rw [show i = n from by omega]; exact hs

def Cells0 (w : World) : Prop := ∃ c t fr, w.heap[0]? = some (.cells c t fr)

theorem rd_none {h : H} {b o n : Nat} {l : List V} (e : h.rd b o n = some l) : h.rd b o 0 = some [] := by
  obtain ⟨cs, g1, l1, _⟩ := rd_some e
  unfold H.rd
  rcases g1 with g1 | g1
  all_goals
    rw [g1]
    dsimp only
    rw [if_pos (by omega), List.take_zero]
theorem rd_zero (h : Cells0 w) : (absH w).rd 0 0 0 = some [] := by
  obtain ⟨c, t, fr, e⟩ := h
  unfold H.rd
  rw [absH_get, e]
  show (if 0 + 0 ≤ (c.toList.map (absV w.heap.size)).length then _ else _) = _
  rw [if_pos (Nat.zero_le _), List.take_zero]

theorem absV_sl (n : Nat) (a : Addr) (len cap : Nat) : absV n (.slice (some a) len cap) = if cap = 0 then (if len = 0 then .sl 0 0 0 (.k 0) else .bad)
    else if a.spot = none ∧ len ≤ cap ∧ a.block < n then .sl a.block a.off len (.k cap) else .bad := rfl

/-- a slice that is read: where its elements lie -/
theorem slice_of {α : Type} {f : α → List V} {z : Nat} {t te : TypeId} {q : DataW H0 → α → Prop} (ht : P.underlying t = some (.slice te)) (hz : P.cellsOf te = z) (hpos : 0 < z) (hc0 : Cells0 w) (hf : ∀ a, (f a).length = z)
    (hel : ∀ n0 cs y, DataW.trod enc P w base (fun _ => true) held n0 te cs = some y → ∃ s : α, cs.map (absV w.heap.size) = f s ∧ q y.1 s)
    {v : Value} (h : DataW.trod enc P w base (fun _ => true) held fuel t [v] = some x) :
    ∃ l : List α, ((absV w.heap.size v = .nils ∧ l = []) ∨ ∃ b o cap, absV w.heap.size v = .sl b o l.length cap ∧ (absH w).rd b o (l.length * z) = some (l.flatMap f)) ∧
      ((x.1 = .nil ∧ l = []) ∨ ∃ el sp : List (DataW H0), x.1 = .slice el sp ∧ el.length = l.length ∧ ∀ (i : Nat) (s : α) (d : DataW H0), l[i]? = some s → el[i]? = some d → q d s) := by
  rcases DataW.trod_slice ht h with ⟨hv, hx⟩ | ⟨a, len, cap, elems, rest, n0, _, hv, hx, _, hlc, _, hel1, hel2, hrest, _⟩
  · cases hv
    subst hx
    exact ⟨[], .inl ⟨rfl, rfl⟩, .inl ⟨rfl, rfl⟩⟩
  · injection hv with hv _
    subst hv hx
    rcases Nat.eq_zero_or_pos len with rfl | hlen
    · refine ⟨[], .inr ?_, .inr ⟨_, _, rfl, by rw [List.length_map, hel1]; rfl, fun i s d hs => by simp at hs⟩⟩
      by_cases hcap : cap = 0
      · subst hcap
        refine ⟨0, 0, .k 0, ?_, ?_⟩
        · rw [absV_sl, if_pos rfl, if_pos rfl]; rfl
        · rw [List.length_nil, Nat.zero_mul]; exact rd_zero hc0
      · obtain ⟨hrl, hrr⟩ := hrest rfl
        have h1 := hrr 0 (by omega)
        rw [List.getElem?_eq_getElem (by omega)] at h1
        obtain ⟨cs, h2, _⟩ := Option.bind_eq_some_iff.1 h1
        have hadd : a.add ((0 + 0) * P.cellsOf te) = a := by
          rw [Nat.zero_add, Nat.zero_mul]; unfold Addr.add; rw [if_pos rfl]
        rw [hadd, hz] at h2
        obtain ⟨hs, hb, _, hr⟩ := abs_rd h2 hpos
        refine ⟨a.block, a.off, .k cap, ?_, ?_⟩
        · rw [absV_sl, if_neg hcap, if_pos ⟨hs, Nat.zero_le _, hb⟩]; rfl
        · rw [List.length_nil, Nat.zero_mul]; exact rd_none hr
    · obtain ⟨hs, hb, hr⟩ := elems_rd hz hpos hlen hel1 hel2
      have hall : ∀ i, i < len → ∃ s : α, (absH w).rd a.block (a.off + i * z) z = some (f s) ∧ ∃ y, elems[i]? = some y ∧ q y.1 s := by
        intro i hi
        obtain ⟨cs, y, h1, h2, h3⟩ := hr i hi
        obtain ⟨s, h4, h5⟩ := hel n0 cs y h3
        exact ⟨s, by rw [← h4]; exact h1, y, h2, h5⟩
      obtain ⟨l, hl, hp⟩ := pick len hall
      refine ⟨l, .inr ⟨a.block, a.off, .k cap, ?_, ?_⟩, .inr ⟨_, _, rfl, by rw [List.length_map, hel1, hl], fun i s d h1 h2 => ?_⟩⟩
      · rw [absV_sl, if_neg (by omega), if_pos ⟨hs, hlc, hb⟩, hl]
      · have := rd_join (h := absH w) (b := a.block) (o := a.off) hf l 0 (fun i s h => by rw [Nat.zero_add]; exact (hp i s h).1) (by omega)
        rwa [Nat.zero_mul, Nat.add_zero] at this
      · obtain ⟨_, y, h3, h4⟩ := hp i s h1
        rw [List.getElem?_map, h3] at h2
        cases h2
        exact h4

theorem svals_of (T : Tys P tI tS tT tV tL tF tA) (hc0 : Cells0 w) {v : Value} (h : DataW.trod enc P w base (fun _ => true) held fuel tL [v] = some x) :
    ∃ l : List SV, SlR (absH w) (absV w.heap.size v) l ∧ LenOf x.1 l.length := by
  obtain ⟨l, h1, h2⟩ := slice_of (f := SV.cells) (q := fun _ _ => True) T.svals T.cV (by omega) hc0 (fun _ => rfl) (fun n0 cs y hy => by
    obtain ⟨s, rfl⟩ := sval_of T hy
    exact ⟨s, svC_abs _ s, trivial⟩) h
  refine ⟨l, h1, ?_⟩
  rcases h2 with ⟨h2, rfl⟩ | ⟨el, sp, h2, h3, _⟩
  · exact .inl ⟨h2, rfl⟩
  · exact .inr ⟨el, sp, h2, h3⟩

/-- a frame's reading -/
def FrD (d : DataW H0) (r : Row) : Prop := ∃ d0 d1 d2 d3 dv ds d6 d7, d = .agg [d0, d1, d2, d3, dv, ds, d6, d7] ∧ LenOf dv r.1.vars.length ∧ LenOf ds r.1.stack.length

theorem len8 {α : Type} : ∀ {l : List α}, l.length = 8 → ∃ a b c d e f g h, l = [a, b, c, d, e, f, g, h]
  | [a, b, c, d, e, f, g, h], _ => ⟨a, b, c, d, e, f, g, h, rfl⟩

theorem frame_of (T : Tys P tI tS tT tV tL tF tA) (hc0 : Cells0 w) (h : DataW.trod enc P w base (fun _ => true) held fuel tF cs = some x) :
    ∃ r : Row, cs.map (absV w.heap.size) = Row.cells r ∧ RowR (absH w) r ∧ FrD x.1 r := by
  obtain ⟨f0, f1, f2, f3, f4, f5, f6, f7, ht, h0, h1, h2, h3, h4, h5, h6, h7⟩ := T.frame
  simp only [Prod.mk.injEq] at h0 h1 h2 h3 h4 h5 h6 h7
  obtain ⟨xs, n, rfl, hx, hl, hxs, hf⟩ := DataW.trod_struct ht h
  rw [T.cF] at hl
  obtain ⟨c0, c1, c2, c3, c4, c5, c6, c7, c8, c9, c10, c11, c12, c13, c14, c15, c16, c17, rfl⟩ := len18 hl
  obtain ⟨y0, y1, y2, y3, y4, y5, y6, y7, rfl⟩ := len8 (show xs.length = 8 from hxs)
  have e0 := hf 0 f0 rfl
  have e1 := hf 1 f1 rfl
  have e2 := hf 2 f2 rfl
  have e3 := hf 3 f3 rfl
  have e4 := hf 4 f4 rfl
  have e5 := hf 5 f5 rfl
  have e6 := hf 6 f6 rfl
  have e7 := hf 7 f7 rfl
  rw [h0.1, h0.2, T.cI] at e0
  rw [h1.1, h1.2, T.cI] at e1
  rw [h2.1, h2.2, T.cV] at e2
  rw [h3.1, h3.2, T.cV] at e3
  rw [h4.1, h4.2, T.cL] at e4
  rw [h5.1, h5.2, T.cL] at e5
  rw [h6.1, h6.2, T.cI] at e6
  rw [h7.1, h7.2, T.cI] at e7
  obtain ⟨n0, q0, _⟩ := DataW.trod_int T.int (show _ = some y0 from e0)
  obtain ⟨n1, q1, _⟩ := DataW.trod_int T.int (show _ = some y1 from e1)
  obtain ⟨s2, q2⟩ := sval_of T (show _ = some y2 from e2)
  obtain ⟨s3, q3⟩ := sval_of T (show _ = some y3 from e3)
  obtain ⟨lv, q4, w4⟩ := svals_of T hc0 (v := c14) (show _ = some y4 from e4)
  obtain ⟨ls, q5, w5⟩ := svals_of T hc0 (v := c15) (show _ = some y5 from e5)
  obtain ⟨n6, q6, _⟩ := DataW.trod_int T.int (show _ = some y6 from e6)
  obtain ⟨n7, q7, _⟩ := DataW.trod_int T.int (show _ = some y7 from e7)
  simp only [svC, List.drop_zero, List.drop_succ_cons, List.take_succ_cons, List.take_zero, List.cons.injEq, and_true] at q0 q1 q2 q3 q6 q7
  obtain ⟨rfl, rfl, rfl, rfl, rfl, rfl⟩ := q2
  obtain ⟨rfl, rfl, rfl, rfl, rfl, rfl⟩ := q3
  subst q0 q1 q6 q7
  refine ⟨(⟨n0, n1, s2, s3, lv, ls, n6, n7⟩, absV w.heap.size c14, absV w.heap.size c15), rfl, ⟨q4, q5⟩, ?_⟩
  subst hx
  exact ⟨_, _, _, _, _, _, _, _, rfl, w4, w5⟩

theorem frames_of (T : Tys P tI tS tT tV tL tF tA) (hc0 : Cells0 w) {v : Value} (h : DataW.trod enc P w base (fun _ => true) held fuel tA [v] = some x) :
    ∃ g : List Row, FsR (absH w) (absV w.heap.size v) g ∧ ((x.1 = .nil ∧ g = []) ∨ ∃ el sp : List (DataW H0), x.1 = .slice el sp ∧ el.length = g.length ∧ ∀ (i : Nat) (r : Row) (d : DataW H0), g[i]? = some r → el[i]? = some d → FrD d r) := by
  obtain ⟨g, h1, h2⟩ := slice_of (f := Row.cells) (q := fun d r => RowR (absH w) r ∧ FrD d r) T.frames T.cF (by omega) hc0 Row.len (fun n0 cs y hy => by
    obtain ⟨r, a, b, c⟩ := frame_of T hc0 hy
    exact ⟨r, a, b, c⟩) h
  refine ⟨g, ⟨h1, ?_⟩, ?_⟩
  · intro r hr
    obtain ⟨i, hi⟩ := List.mem_iff_getElem?.1 hr
    rcases h2 with ⟨_, rfl⟩ | ⟨el, sp, _, h3, h4⟩
    · cases hr
    · have hlt : i < el.length := by rw [h3]; exact (List.getElem?_eq_some_iff.1 hi).1
      exact (h4 i r _ hi (List.getElem?_eq_getElem hlt)).1
  · rcases h2 with ⟨h2, rfl⟩ | ⟨el, sp, h2, h3, h4⟩
    · exact .inl ⟨h2, rfl⟩
    · exact .inr ⟨el, sp, h2, h3, fun i r d a b => (h4 i r d a b).2⟩
end
end Go.Abs.Sy

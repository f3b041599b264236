/-
  Library functions by what they give; runs of the program over parts of the heap.
-/
import Derived.Test.YtaaimcecdoeimaaGreatDoorMachJ
import Derived.Test.YtaaimcecdoeimaaGreatDoorTab
import Derived.Lib.Bytealg
namespace Go.Abs.Sy
def xRepeat : List V → H → Option (Ret × H)
  | [.str _, .int .i64 n], h => if n == 0 then some (.ret (.str []), h) else none
  | _, _ => none
def xCount : List V → H → Option (Ret × H)
  | [.str s, .str [c]], h => some (.ret (.int .i64 (Lib.countByte s c)), h)
  | _, _ => none
def xIndex : List V → H → Option (Ret × H)
  | [.str s, .str [c]], h => some (.ret (.int .i64 (Lib.indexByte s c)), h)
  | _, _ => none
def isFive : Option (List V) → Bool
  | some [.int .i64 5] => true
  | _ => false
def xText : List V → H → Option (Ret × H)
  | [.agg [.sl b o 1 _, .bool false]], h => match isFive (h.rd b o 1) with
    | true => some (.ret (.str [53]), h)
    | false => none
  | _, _ => none
/-- entries that are new, each of its own key -/
def insAll : List (V × V × Nat) → List (V × V) → Option (List (V × V))
  | [], acc => some acc
  | (k, v, _) :: r, acc => match keyOK (.one .str) k, findU (.one .str) k acc with
    | true, some none => insAll r (acc ++ [(k, v)])
    | _, _ => none
def toU : Option O → Option (List (V × V))
  | some (.map es _) => some (es.map fun e => (e.1, e.2.1))
  | o => um o
def nodupN : List Nat → Bool
  | [] => true
  | a :: l => l.all (fun b => !Nat.beq a b) && nodupN l
def two : V → Bool
  | .agg [a, b] => a.cellOK && b.cellOK
  | _ => false
def xMC : List V → H → Option (Ret × H)
  | [.map d, .map s], h => match h.get s, toU (h.get d) with
    | some (.map es cs), some ed => (match !Nat.beq d s && (es.all (fun x => Nat.blt x.2.2 cs && two x.2.1) && (nodupN (es.map (·.2.2)) && (insAll (ed.map fun p => (p.1, p.2, 0)) []).isSome)), insAll es ed with
      | true, some l => some (.ret (.tup []), { h.set d (.umap l) with next := h.next + 1 + es.length })
      | _, _ => none)
    | _, _ => none
  | _, _ => none
def xLib0 : List (Nat × (List V → H → Option (Ret × H))) := [(187, xRepeat), (243, xCount), (316, xIndex), (240, xMC)]
def eLib0 : EEnv := ⟨ft, look xLib0⟩
def xLib (f : FuncId) : Option (List V → H → Option (Ret × H)) := look ((369, xText) :: xLib0) f
def eLib : EEnv := ⟨ft, xLib⟩
def mItoa : Memo := ⟨[.int .i64 5], 8, [], .str [53]⟩
def mCode : Memo := ⟨[.sl 51 0 4 (.k 4)], 8, [none,
 none,
 none,
 none,
 none,
 none,
 none,
 none,
 none,
 none,
 none,
 none,
 none,
 none,
 none,
 none,
 none,
 none,
 none,
 none,
 none,
 none,
 none,
 none,
 some (.cells [.str [120], .str [121]]),
 none,
 some (.cells [.int (.i64) 4, .int (.i64) 1, .str []]),
 some (.cells [.str [120], .str [121], .str [118, 97, 108, 117, 101], .str [95, 73, 110, 116, 65, 100, 100, 58]]),
 none,
 some (.cells [.int (.i64) 4, .int (.i64) 0, .int (.i64) 0, .int (.i64) 0, .int (.i64) 4, .int (.i64) 1, .int (.i64) 0, .int (.i64) 0, .int (.i64) 3, .int (.i64) 2, .int (.i64) 0, .int (.i64) 0, .int (.i64) 6, .int (.i64) 3, .int (.i64) 1, .int (.i64) 0, .int (.i64) 9, .int (.i64) 0, .int (.i64) 0, .int (.i64) 0]),
 none,
 none,
 some (.cells [.int (.i64) 1, .int (.i64) 2, .str [], .int (.i64) 1, .int (.i64) 3, .str []]),
 some (.cells [.str [95, 73, 110, 116, 65, 100, 100, 58]]),
 some (.cells [.int (.i64) 1, .int (.i64) 0, .int (.i64) 0, .int (.i64) 0, .int (.i64) 1, .int (.i64) 1, .int (.i64) 0, .int (.i64) 0, .int (.i64) 6, .int (.i64) 0, .int (.i64) 1, .int (.i64) 0, .int (.i64) 9, .int (.i64) 0, .int (.i64) 0, .int (.i64) 0]),
 none,
 some (.cells [.str [118, 97, 108, 117, 101]]),
 some (.cells [.int (.i64) 7, .int (.i64) 3, .int (.i64) 0, .int (.i64) 0, .int (.i64) 3, .int (.i64) 0, .int (.i64) 0, .int (.i64) 0, .int (.i64) 9, .int (.i64) 0, .int (.i64) 0, .int (.i64) 0]),
 none,
 none,
 some (.cells [.int (.i64) 1, .int (.i64) 3, .str []]),
 some (.cells [.int (.i64) 1, .int (.i64) 0, .int (.i64) 0, .int (.i64) 0, .int (.i64) 9, .int (.i64) 0, .int (.i64) 0, .int (.i64) 0]),
 none,
 some (.cells [.str [109, 58], .bool false, .int (.i64) (-1), .int (.i64) 1, .sl 32 0 2 (.k 2), .sl 34 0 1 (.k 1), .nils, .sl 35 0 4 (.k 4), .sl 37 0 5 (.k 5), .str [102, 105, 118, 101], .bool false, .int (.i64) (-1), .int (.i64) 0, .nils, .nils, .sl 40 0 2 (.k 2), .sl 41 0 1 (.k 1), .sl 42 0 4 (.k 4), .str [116, 104, 114, 101, 101], .bool false, .int (.i64) (-1), .int (.i64) 0, .nils, .nils, .nils, .sl 44 0 1 (.k 1), .sl 45 0 3 (.k 3), .str [118, 97, 108, 117, 101], .bool true, .int (.i64) 2, .int (.i64) 0, .nils, .nils, .sl 48 0 1 (.k 1), .nils, .sl 49 0 2 (.k 2)])], .int .i64 0⟩
def mWorld : Memo := ⟨[.agg [.sl 30 0 10 (.u 6), .nils, .sl 51 0 4 (.k 4), .int (.i64) 11, .int (.i64) 1]], 8, [none,
 none,
 none,
 none,
 none,
 none,
 none,
 none,
 none,
 none,
 none,
 none,
 none,
 none,
 none,
 none,
 none,
 none,
 none,
 none,
 none,
 none,
 some (.cells [.int (.i64) 1, .int (.i64) 1, .sl 53 0 1 (.k 1), .nils, .int (.i64) 0, .int (.i64) 0, .int (.i64) 2, .int (.i64) 1, .nils, .nils, .int (.i64) 0, .int (.i64) 0, .int (.i64) 3, .int (.i64) 1, .nils, .nils, .int (.i64) 0, .int (.i64) 0, .int (.i64) 4, .int (.i64) 1, .nils, .nils, .int (.i64) 0, .int (.i64) 0, .int (.i64) 5, .int (.i64) 1, .nils, .nils, .int (.i64) 0, .int (.i64) 0, .int (.i64) 6, .int (.i64) 1, .nils, .nils, .int (.i64) 0, .int (.i64) 0, .int (.i64) 7, .int (.i64) 2, .nils, .nils, .int (.i64) 0, .int (.i64) 0, .int (.i64) 8, .int (.i64) 1, .nils, .nils, .int (.i64) 0, .int (.i64) 0, .int (.i64) 9, .int (.i64) 1, .nils, .nils, .int (.i64) 0, .int (.i64) 0, .int (.i64) 10, .int (.i64) 1, .nils, .nils, .int (.i64) 0, .int (.i64) 0]),
 none,
 some (.cells [.str [120], .str [121]]),
 none,
 some (.cells [.int (.i64) 4, .int (.i64) 1, .str []]),
 some (.cells [.str [120], .str [121], .str [118, 97, 108, 117, 101], .str [95, 73, 110, 116, 65, 100, 100, 58]]),
 none,
 some (.cells [.int (.i64) 4, .int (.i64) 0, .int (.i64) 0, .int (.i64) 0, .int (.i64) 4, .int (.i64) 1, .int (.i64) 0, .int (.i64) 0, .int (.i64) 3, .int (.i64) 2, .int (.i64) 0, .int (.i64) 0, .int (.i64) 6, .int (.i64) 3, .int (.i64) 1, .int (.i64) 0, .int (.i64) 9, .int (.i64) 0, .int (.i64) 0, .int (.i64) 0]),
 none,
 none,
 some (.cells [.int (.i64) 1, .int (.i64) 2, .str [], .int (.i64) 1, .int (.i64) 3, .str []]),
 some (.cells [.str [95, 73, 110, 116, 65, 100, 100, 58]]),
 some (.cells [.int (.i64) 1, .int (.i64) 0, .int (.i64) 0, .int (.i64) 0, .int (.i64) 1, .int (.i64) 1, .int (.i64) 0, .int (.i64) 0, .int (.i64) 6, .int (.i64) 0, .int (.i64) 1, .int (.i64) 0, .int (.i64) 9, .int (.i64) 0, .int (.i64) 0, .int (.i64) 0]),
 none,
 some (.cells [.str [118, 97, 108, 117, 101]]),
 some (.cells [.int (.i64) 7, .int (.i64) 3, .int (.i64) 0, .int (.i64) 0, .int (.i64) 3, .int (.i64) 0, .int (.i64) 0, .int (.i64) 0, .int (.i64) 9, .int (.i64) 0, .int (.i64) 0, .int (.i64) 0]),
 none,
 none,
 some (.cells [.int (.i64) 1, .int (.i64) 3, .str []]),
 some (.cells [.int (.i64) 1, .int (.i64) 0, .int (.i64) 0, .int (.i64) 0, .int (.i64) 9, .int (.i64) 0, .int (.i64) 0, .int (.i64) 0]),
 none,
 some (.cells [.str [109, 58], .bool false, .int (.i64) (-1), .int (.i64) 1, .sl 32 0 2 (.k 2), .sl 34 0 1 (.k 1), .nils, .sl 35 0 4 (.k 4), .sl 37 0 5 (.k 5), .str [102, 105, 118, 101], .bool false, .int (.i64) (-1), .int (.i64) 0, .nils, .nils, .sl 40 0 2 (.k 2), .sl 41 0 1 (.k 1), .sl 42 0 4 (.k 4), .str [116, 104, 114, 101, 101], .bool false, .int (.i64) (-1), .int (.i64) 0, .nils, .nils, .nils, .sl 44 0 1 (.k 1), .sl 45 0 3 (.k 3), .str [118, 97, 108, 117, 101], .bool true, .int (.i64) 2, .int (.i64) 0, .nils, .nils, .sl 48 0 1 (.k 1), .nils, .sl 49 0 2 (.k 2)]),
 none,
 some (.cells [.str [118, 97, 108, 117, 101], .int (.i64) 1, .int (.i64) 1, .int (.i64) 3, .str []])], .int .i64 0⟩

noncomputable def l1 : List (Nat × (List V → H → Option (Ret × H))) := (68, mCode.run) :: (369, xText) :: xLib0
noncomputable def e1 : EEnv := ⟨ft, look l1⟩
noncomputable def l2 : List (Nat × (List V → H → Option (Ret × H))) := (23, mWorld.run) :: l1
noncomputable def e2 : EEnv := ⟨ft, look l2⟩
def mAwake : Memo := ⟨[], 8, [], .bool true⟩
end Go.Abs.Sy

namespace Go.Abs.Sy

theorem code_succ (E : Env) (k : Nat) : (sems E (k + 1)).code = codeF E (sems E k) := rfl
theorem frame_succ (E : Env) (k : Nat) : (sems E (k + 1)).frame = frameF E (sems E k) := rfl

abbrev Es := List (V × V × Nat)
def kv (e : V × V × Nat) : V × V := (e.1, e.2.1)

theorem nodupN_pw : ∀ {l : List Nat}, nodupN l = true → l.Pairwise (· ≠ ·)
  | [], _ => .nil
  | a :: l, h => by
    simp only [nodupN, Bool.and_eq_true, List.all_eq_true] at h
    refine .cons ?_ (nodupN_pw h.2)
    intro b hb e
    have := h.1 b hb
    subst e
    simp at this

theorem leftOf_perm {es : Es} {seen : List Nat} (hn : (es.map (·.2.2)).Pairwise (· ≠ ·)) {x : V × V × Nat} (hx : x ∈ leftOf es seen) : (leftOf es seen).Perm (x :: leftOf es (seen ++ [x.2.2])) := by
  induction es with
  | nil => cases hx
  | cons a es ih =>
    rw [List.map_cons, List.pairwise_cons] at hn
    obtain ⟨h1, h2⟩ := hn
    have hsplit : ∀ y, (!(seen ++ [x.2.2]).contains y) = (!seen.contains y && !(y == x.2.2)) := fun y => by
      simp only [List.contains_eq_mem, List.mem_append, List.mem_singleton, Bool.decide_or, Bool.not_or]
      rfl
    unfold leftOf at hx ih ⊢
    rw [List.filter_cons] at hx
    rw [List.filter_cons, List.filter_cons, hsplit]
    by_cases ha : (!seen.contains a.2.2) = true
    · rw [if_pos ha] at hx ⊢
      rw [ha, Bool.true_and]
      rcases List.mem_cons.1 hx with rfl | hx
      · have : (!(x.2.2 == x.2.2)) = false := by simp
        rw [this, if_neg (by simp)]
        refine List.Perm.of_eq (congrArg _ (List.filter_congr fun y hy => ?_))
        rw [hsplit]
        have : y.2.2 ≠ x.2.2 := fun e => h1 y.2.2 (List.mem_map.2 ⟨y, hy, rfl⟩) e.symm
        have : (y.2.2 == x.2.2) = false := by simpa using this
        rw [this]; simp
      · have hne : a.2.2 ≠ x.2.2 := h1 x.2.2 (List.mem_map.2 ⟨x, (List.mem_filter.1 hx).1, rfl⟩)
        have : (a.2.2 == x.2.2) = false := by simpa using hne
        rw [this, if_pos (by simp)]
        exact ((ih h2 hx).cons a).trans (.swap _ _ _)
    · rw [if_neg ha] at hx ⊢
      have ha : (!seen.contains a.2.2) = false := Bool.eq_false_iff.2 ha
      rw [ha, Bool.false_and, if_neg (by simp)]
      exact ih h2 hx

theorem find_stamp {es : Es} (hn : (es.map (·.2.2)).Pairwise (· ≠ ·)) {x : V × V × Nat} (hx : x ∈ es) : es.find? (fun y => y.2.2 == x.2.2) = some x := by
  induction es with
  | nil => cases hx
  | cons a es ih =>
    rw [List.map_cons, List.pairwise_cons] at hn
    rw [List.find?_cons]
    rcases List.mem_cons.1 hx with rfl | hx
    · simp
    · have : (a.2.2 == x.2.2) = false := by simpa using hn.1 x.2.2 (List.mem_map.2 ⟨x, hx, rfl⟩)
      rw [this]
      exact ih hn.2 hx

/-- keys that are strings, each another one -/
def KeysOK (l : List (V × V)) : Prop := (∀ e ∈ l, ∃ a, e.1 = .str a) ∧ l.Pairwise fun e f => e.1 ≠ f.1

theorem KeysOK.perm {l l' : List (V × V)} (h : KeysOK l) (p : l.Perm l') : KeysOK l' :=
  ⟨fun e he => h.1 e (p.mem_iff.2 he), (p.pairwise_iff (fun h => Ne.symm h)).1 h.2⟩

theorem findU_new {k : V} {l : List (V × V)} (hk : ∃ a, k = .str a) (h1 : ∀ e ∈ l, ∃ a, e.1 = .str a) (h2 : ∀ e ∈ l, k ≠ e.1) : findU (.one .str) k l = some none := by
  induction l with
  | nil => rfl
  | cons e l ih =>
    obtain ⟨e1, e2⟩ := e
    unfold findU
    obtain ⟨a, rfl⟩ := hk
    obtain ⟨b, hb⟩ := h1 _ List.mem_cons_self
    simp only at hb
    subst hb
    have hne : a ≠ b := fun e => h2 (.str b, e2) List.mem_cons_self (by rw [e])
    have : eqD (.one .str) (.str a) (.str b) = some false := by
      simp only [eqD, eqCell, Option.some.injEq, beq_eq_false_iff_ne, ne_eq]; exact hne
    rw [this, ih (fun e he => h1 e (List.mem_cons_of_mem _ he)) (fun e he => h2 e (List.mem_cons_of_mem _ he))]

theorem findU_keys {k : V} {l : List (V × V)} (hok : keyOK (.one .str) k = true) (h : findU (.one .str) k l = some none) : ∀ e ∈ l, k ≠ e.1 ∧ ∃ a, e.1 = .str a := by
  intro e he
  have := findU_all h e he
  cases k <;> simp only [keyOK, okCell, Bool.false_eq_true] at hok
  rename_i a
  cases hb : e.1 <;> rw [hb] at this <;> simp only [eqD, eqCell, Option.some.injEq, reduceCtorEq] at this
  rename_i b
  refine ⟨fun e => ?_, b, rfl⟩
  cases e
  simp at this

theorem insAll_ok : ∀ {es : Es} {acc l : List (V × V)}, KeysOK acc → insAll es acc = some l → l = acc ++ es.map kv ∧ KeysOK l
  | [], acc, l, hk, h => by
    simp only [insAll, Option.some.injEq] at h
    subst h; simp; exact hk
  | (k, v, n) :: r, acc, l, hk, h => by
    unfold insAll at h
    split at h
    · rename_i h1 h2
      have hks := findU_keys h1 h2
      have hk' : KeysOK (acc ++ [(k, v)]) := by
        refine ⟨fun e he => ?_, ?_⟩
        · rcases List.mem_append.1 he with he | he
          · exact hk.1 e he
          · rw [List.mem_singleton.1 he]
            cases k <;> simp only [keyOK, okCell, Bool.false_eq_true] at h1
            exact ⟨_, rfl⟩
        · rw [List.pairwise_append]
          refine ⟨hk.2, List.pairwise_singleton _ _, ?_⟩
          intro e he f hf
          rw [List.mem_singleton.1 hf]
          exact Ne.symm (hks e he).1
      obtain ⟨a, b⟩ := insAll_ok hk' h
      refine ⟨?_, b⟩
      rw [a, List.map_cons, List.append_assoc]; rfl
    · cases h

/-! ### the round -/
def cpR1 : ACode := .region [⟨.t 8, .nextMap (.l 4), none, 0⟩, ⟨.t 9, .extract (.t 8) 0, none, 0⟩]
def cpRA : ACode := .region [⟨.t 10, .entry (.l 4), none, 0⟩, ⟨.t 11, .extract (.t 10) 0, none, 0⟩, ⟨.t 12, .extract (.t 10) 1, none, 0⟩,
  ⟨.l 3, .alloc [.int (.i64) 0, .nilf], none, 0⟩, ⟨.l 2, .mv (.t 11), none, 0⟩, ⟨.n, .store 2 (.l 3) (.t 12), none, 0⟩]
def cpRB : ACode := .region [⟨.t 13, .mv (.l 0), none, 0⟩, ⟨.t 14, .mv (.l 2), none, 0⟩, ⟨.t 15, .load true 2 (.l 3), none, 0⟩, ⟨.n, .mput (.one (.str)) (.t 13) (.t 14) (.t 15), none, 0⟩]
def cpB : ACode := .seq cpR1 (.seq (.cond (.t 9) .skip (.exit 0)) (.block 1 (.seq cpRA cpRB)))
theorem fn240_is : fn240 = ⟨2, 5, [0, 1, 4, 5, 7], none, .seq (.region [⟨.t 6, .mv (.l 1), none, 0⟩, ⟨.l 4, .rngMap (.t 6), none, 0⟩]) (.block 0 (.loop cpB)), []⟩ := rfl

structure Inv (h0 : H) (d s it : Nat) (es : Es) (cs : Nat) (ed : List (V × V)) (seen : List Nat) (hh : H) : Prop where
  iter : hh.get it = some (.miter (some s) cs seen cs)
  src : hh.get s = some (.map es cs)
  dst : ∃ t, hh.get d = some (.umap (ed ++ t)) ∧ (t ++ (leftOf es seen).map kv).Perm (es.map kv)
  next : hh.next + (leftOf es seen).length = it + 1 + es.length
  same : ∀ b, b < it → b ≠ d → hh.get b = h0.get b

structure Stat (d s it : Nat) (es : Es) (cs : Nat) (ed : List (V × V)) : Prop where
  dn : d < it
  sn : s < it
  ne : d ≠ s
  born : es.all (fun x => x.2.2 < cs) = true
  two : ∀ x ∈ es, ∃ a b, x.2.1 = .agg [a, b] ∧ a.cellOK = true ∧ b.cellOK = true
  stamps : (es.map (·.2.2)).Pairwise (· ≠ ·)
  keys : KeysOK (ed ++ es.map kv)

theorem leftOf_mem {es : Es} {seen : List Nat} {x : V × V × Nat} (h : x ∈ leftOf es seen) : x ∈ es := (List.mem_filter.1 h).1

theorem run_plain {CV : CVT} {cx : Cx} {op : AOp} {d : D} {bf : Nat} {r : List AOper} {st : St} {Q : X → St → Prop} {v : V} {h' : H}
    (he : evOp op (evA st.loc st.tl) st.h = some (v, h')) (hn : opsN CV cx r (({ st with h := h' } : St).put d v) Q) : opsN CV cx (⟨d, op, none, bf⟩ :: r) st Q := by
  show stepOp CV cx op st (fun v st' => opsN CV cx r (st'.put d v) Q) Q
  cases op <;> first | (cases he; done) | (unfold stepOp; dsimp only; rw [he]; exact hn)

theorem mput_umap {d : EqD} {m k v : A} {e : A → V} {h : H} {b : Nat} {es : List (V × V)} {kx vx : V} (hm : e m = .map b) (hke : e k = kx) (hve : e v = vx) (hk : keyOK d kx = true) (hg : h.get b = some (.umap es)) (hf : findU d kx es = some none) :
    evOp (.mput d m k v) e h = some (.tup [], h.set b (.umap (es ++ [(kx, vx)]))) := by
  simp only [evOp, hke, hve, hk, hm, hg, um, hf, Bool.not_true, Bool.false_eq_true, if_false]

theorem run_step {CV : CVT} {cx : Cx} {op : AOp} {d : D} {bf : Nat} {r : List AOper} {st : St} {Q : X → St → Prop}
    (h : stepOp CV cx op st (fun v st' => opsN CV cx r (st'.put d v) Q) Q) : opsN CV cx (⟨d, op, none, bf⟩ :: r) st Q := h

theorem seq_code {E : Env} {k : Nat} {cx : Cx} {a b : ACode} {st : St} {Q : X → St → Prop} (h : (sems E k).code cx a st fun x st' => match x with | .nrm => (sems E k).code cx b st' Q | x => Q x st') : (sems E (k + 1)).code cx (.seq a b) st Q := h
theorem region_code {E : Env} {k : Nat} {cx : Cx} {ops : List AOper} {st : St} {Q : X → St → Prop} (h : opsN (callV E (sems E k)) cx ops { st with tl := [] } Q) : (sems E (k + 1)).code cx (.region ops) st Q := h

theorem round {E : Env} {k : Nat} {cx : Cx} {h0 : H} {d s it : Nat} {es : Es} {cs : Nat} {ed : List (V × V)} (T : Stat d s it es cs ed) {seen : List Nat} {hh : H} (I : Inv h0 d s it es cs ed seen hh)
    (a b : V) (K : X → St → Prop) (h1 : leftOf es seen = [] → ∀ tl, K (.exit 0) ⟨[.map d, .map s, a, b, .ptr it 0], tl, [], hh⟩)
    (h2 : ∀ x ∈ leftOf es seen, ∀ tl a' b' hh', Inv h0 d s it es cs ed (seen ++ [x.2.2]) hh' → K .nrm ⟨[.map d, .map s, a', b', .ptr it 0], tl, [], hh'⟩) :
    (sems E (k + 10)).code cx cpB ⟨[.map d, .map s, a, b, .ptr it 0], [], [], hh⟩ K := by
  refine seq_code (k := k + 9) (region_code (k := k + 8) ?_)
  refine run_step ?_
  unfold stepOp
  simp only [evA, List.getD_cons_succ, List.getD_cons_zero, I.iter, I.src, T.born, true_and]
  refine ⟨fun hl => ?_, fun x hx => ?_⟩
  · refine run_plain (v := .bool false) (h' := hh) rfl ?_
    show (sems E (k + 9)).code cx (.seq (.cond (.t 9) .skip (.exit 0)) (.block 1 (.seq cpRA cpRB))) _ _
    refine seq_code (k := k + 8) ?_
    exact h1 hl _
  · have hxe := leftOf_mem hx
    refine run_plain (v := .bool true) rfl ?_
    show (sems E (k + 9)).code cx (.seq (.cond (.t 9) .skip (.exit 0)) (.block 1 (.seq cpRA cpRB))) _ _
    refine seq_code (k := k + 8) ?_
    show (sems E (k + 8)).code cx (.block 1 (.seq cpRA cpRB)) _ _
    show (sems E (k + 7)).code cx (.seq cpRA cpRB) _ _
    refine seq_code (k := k + 6) (region_code (k := k + 5) ?_)
    obtain ⟨c1, c2, ht, o1, o2⟩ := T.two x hxe
    have hsit : s ≠ it := Nat.ne_of_lt T.sn
    have hdit : d ≠ it := Nat.ne_of_lt T.dn
    refine run_plain (v := .tup [x.1, x.2.1]) (h' := hh.set it (.miter (some s) cs (seen ++ [x.2.2]) cs)) ?_ ?_
    · show evEntry (.ptr it 0) (hh.set it (.miter (some s) cs (seen ++ [x.2.2]) cs)) = _
      unfold evEntry
      simp only [H.get_set, if_true, if_neg hsit, I.src, List.getLast?_append, List.getLast?_singleton]
      rw [show (some x.2.2).or seen.getLast? = some x.2.2 from rfl]
      simp only [ne_eq, not_true_eq_false, if_false]
      rw [find_stamp T.stamps hxe]
    refine run_plain (v := x.1) rfl ?_
    refine run_plain (v := x.2.1) rfl ?_
    refine run_plain (v := .ptr hh.next 0) rfl ?_
    refine run_plain (v := x.1) rfl ?_
    have hnd : d ≠ hh.next := fun e => by
      have := I.next; have := T.dn
      have hl : (leftOf es seen).length ≤ es.length := List.length_filter_le _ _
      omega
    have hns : s ≠ hh.next := fun e => by
      have := I.next; have := T.sn
      have hl : (leftOf es seen).length ≤ es.length := List.length_filter_le _ _
      omega
    have hni : it ≠ hh.next := fun e => by
      have := I.next
      have hl : (leftOf es seen).length ≤ es.length := List.length_filter_le _ _
      omega
    refine run_plain (v := .tup []) (h' := ((hh.set it (.miter (some s) cs (seen ++ [x.2.2]) cs)).push (.cells [.int .i64 0, .nilf])).set hh.next (.cells [c1, c2])) ?_ ?_
    · show (match (V.ptr hh.next 0), (V.parts x.2.1) with
        | .ptr b o, some c => if c.length = 2 ∧ c.all V.cellOK = true then (H.wr ((hh.set it (.miter (some s) cs (seen ++ [x.2.2]) cs)).push (.cells [.int .i64 0, .nilf])) b o c).map fun h' => (V.tup [], h') else none
        | _, _ => none) = _
      rw [ht]
      show (if [c1, c2].length = 2 ∧ [c1, c2].all V.cellOK = true then _ else none) = _
      rw [if_pos ⟨rfl, by simp [o1, o2]⟩]
      unfold H.wr
      rw [H.get_push, if_pos (show hh.next = (hh.set it _).next from rfl)]
      rfl
    have g3 : (((hh.set it (.miter (some s) cs (seen ++ [x.2.2]) cs)).push (.cells [.int .i64 0, .nilf])).set hh.next (.cells [c1, c2])).next = hh.next + 1 := rfl
    have g4 : ∀ b, b ≠ it → b ≠ hh.next → (((hh.set it (.miter (some s) cs (seen ++ [x.2.2]) cs)).push (.cells [.int .i64 0, .nilf])).set hh.next (.cells [c1, c2])).get b = hh.get b := by
      intro b h1 h2
      rw [H.get_set, if_neg h2, H.get_push, if_neg (show ¬ b = (hh.set it _).next from h2), H.get_set, if_neg h1]
    have g5 : (((hh.set it (.miter (some s) cs (seen ++ [x.2.2]) cs)).push (.cells [.int .i64 0, .nilf])).set hh.next (.cells [c1, c2])).get it = some (.miter (some s) cs (seen ++ [x.2.2]) cs) := by
      rw [H.get_set, if_neg hni, H.get_push, if_neg (show ¬ it = (hh.set it _).next from hni), H.get_set, if_pos rfl]
    have g1 : (((hh.set it (.miter (some s) cs (seen ++ [x.2.2]) cs)).push (.cells [.int .i64 0, .nilf])).set hh.next (.cells [c1, c2])).rd hh.next 0 2 = some [c1, c2] := by
      unfold H.rd
      rw [H.get_set, if_pos rfl]
      rfl
    generalize (((hh.set it (.miter (some s) cs (seen ++ [x.2.2]) cs)).push (.cells [.int .i64 0, .nilf])).set hh.next (.cells [c1, c2])) = HH at g1 g3 g4 g5 ⊢
    show (sems E (k + 6)).code cx cpRB ⟨[.map d, .map s, x.1, .ptr hh.next 0, .ptr it 0], _, [], HH⟩ _
    refine region_code (k := k + 5) ?_
    show opsN _ cx _ ⟨[.map d, .map s, x.1, .ptr hh.next 0, .ptr it 0], [], [], HH⟩ _
    refine run_plain (v := .map d) (h' := HH) rfl ?_
    show opsN _ cx _ ⟨[.map d, .map s, x.1, .ptr hh.next 0, .ptr it 0], [(13, .map d)], [], HH⟩ _
    refine run_plain (v := x.1) (h' := HH) rfl ?_
    show opsN _ cx _ ⟨[.map d, .map s, x.1, .ptr hh.next 0, .ptr it 0], [(14, x.1), (13, .map d)], [], HH⟩ _
    refine run_plain (v := .agg [c1, c2]) (h' := HH) ?_ ?_
    · show (H.rd HH hh.next 0 2).map (fun c => (V.agg c, HH)) = _
      rw [g1]; rfl
    show opsN _ cx _ ⟨[.map d, .map s, x.1, .ptr hh.next 0, .ptr it 0], [(15, .agg [c1, c2]), (14, x.1), (13, .map d)], [], HH⟩ _
    obtain ⟨t, hd1, hd2⟩ := I.dst
    have hper := leftOf_perm T.stamps hx
    have hkeys : KeysOK (ed ++ (t ++ (leftOf es seen).map kv)) := T.keys.perm (List.Perm.append_left ed hd2.symm)
    have hxl : kv x ∈ (leftOf es seen).map kv := List.mem_map.2 ⟨x, hx, rfl⟩
    obtain ⟨ka, hka⟩ := hkeys.1 (kv x) (List.mem_append_right _ (List.mem_append_right _ hxl))
    have hkeys2 : KeysOK ((ed ++ t) ++ (leftOf es seen).map kv) := by rw [List.append_assoc]; exact hkeys
    have hfu : findU (.one .str) x.1 (ed ++ t) = some none := by
      refine findU_new ⟨ka, hka⟩ (fun e he => hkeys2.1 e (List.mem_append_left _ he)) ?_
      intro e he
      exact Ne.symm ((List.pairwise_append.1 hkeys2.2).2.2 e he (kv x) hxl)
    refine run_plain (v := .tup []) (h' := HH.set d (.umap ((ed ++ t) ++ [(x.1, .agg [c1, c2])]))) ?_ ?_
    · exact mput_umap (kx := x.1) (vx := .agg [c1, c2]) rfl rfl rfl (by rw [show x.1 = .str ka from hka]; rfl) (by rw [g4 d hdit hnd, hd1]) hfu
    refine h2 x hx _ x.1 (.ptr hh.next 0) _ ⟨?_, ?_, ?_, ?_, ?_⟩
    · rw [H.get_set, if_neg (Ne.symm hdit), g5]
    · rw [H.get_set, if_neg (Ne.symm T.ne), g4 s hsit hns, I.src]
    · refine ⟨t ++ [kv x], ?_, ?_⟩
      · rw [H.get_set, if_pos rfl, List.append_assoc]
        show some (O.umap (ed ++ (t ++ [(x.1, .agg [c1, c2])]))) = some (O.umap (ed ++ (t ++ [(x.1, x.2.1)])))
        rw [ht]
      · refine List.Perm.trans ?_ hd2
        rw [List.append_assoc]
        refine List.Perm.append_left t ?_
        show (kv x :: (leftOf es (seen ++ [x.2.2])).map kv).Perm _
        exact (hper.map kv).symm
    · have := I.next
      have hl := hper.length_eq
      simp only [List.length_cons] at hl
      rw [H.next_set, g3]
      omega
    · intro b hb hbd
      have hbn : b ≠ hh.next := fun e => by
        have := I.next
        have hl : (leftOf es seen).length ≤ es.length := List.length_filter_le _ _
        omega
      rw [H.get_set, if_neg hbd, g4 b (Nat.ne_of_lt hb) hbn, I.same b hb hbd]

theorem loop_code {E : Env} {k : Nat} {cx : Cx} {b : ACode} {st : St} {Q : X → St → Prop}
    (h : (sems E k).code cx b { st with tl := [] } fun x st' => match x with | .nrm => (sems E k).code cx (.loop b) st' Q | x => Q x st') : (sems E (k + 1)).code cx (.loop b) st Q := h

theorem frame_run {E : Env} {k : Nat} {f : FuncId} {args : List V} {pd : Option (Option V)} {h : H} {R : Ret → Bool → H → Prop} (hf : frameF E (sems E k) f args pd h R) : (sems E (k + 1)).frame f args pd h R := hf
theorem block_code {E : Env} {k : Nat} {cx : Cx} {id : Nat} {b : ACode} {st : St} {Q : X → St → Prop}
    (h : (sems E k).code cx b st fun x st' => match x with | .exit i => if i = id then Q .nrm { st' with tl := [] } else Q (.exit i) st' | x => Q x st') : (sems E (k + 1)).code cx (.block id b) st Q := h

theorem leftOf_nil (es : Es) : leftOf es [] = es := by
  unfold leftOf; exact List.filter_eq_self.2 fun a _ => rfl

end Go.Abs.Sy

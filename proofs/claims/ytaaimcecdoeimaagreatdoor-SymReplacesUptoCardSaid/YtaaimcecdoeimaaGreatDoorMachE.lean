/-
  One operation of a region, calls and all.
-/
import Derived.Test.YtaaimcecdoeimaaGreatDoorMachD
import Derived.RangeFuncLeaves
import Derived.RangeFuncNested
import Derived.OrdersIn
namespace Go.Abs

/-! ### an operation looks at what it names alone -/
theorem map_congr' {e e' : A → V} : ∀ {l : List A}, (∀ a ∈ l, e a = e' a) → l.map e = l.map e'
  | [], _ => rfl
  | a :: l, h => by simp only [List.map_cons]; rw [h a (by simp), map_congr' fun b hb => h b (by simp [hb])]

theorem fill_congr {e e' : A → V} : ∀ {ps : List (Nat × Nat × A)} {z : List V}, (∀ a ∈ ps.map (·.2.2), e a = e' a) → fill e z ps = fill e' z ps
  | [], _, _ => rfl
  | (off, sz, a) :: r, z, h => by
    simp only [fill]
    rw [h a (by simp)]
    split
    · rfl
    · split
      · exact fill_congr fun b hb => h b (by simp only [List.map_cons, List.mem_cons]; exact .inr hb)
      · rfl

theorem bndOf_congr {e e' : A → V} {d : Nat} {x : Option A} (h : ∀ a ∈ x.toList, e a = e' a) : bndOf e d x = bndOf e' d x := by
  cases x with
  | none => rfl
  | some a => simp only [bndOf]; rw [h a (by simp)]

theorem evOp_congr {op : AOp} {e e' : A → V} {h : H} (hh : ∀ a ∈ op.args, e a = e' a) : evOp op e h = evOp op e' h := by
  cases op
  case build z ps => simp only [evOp]; rw [fill_congr hh]
  case bslice z sz n ps => simp only [evOp]; rw [fill_congr hh]
  case mkFn f a b =>
    simp only [evOp]
    rw [map_congr' (l := a) fun x hx => hh x (by simp [AOp.args, hx]), map_congr' (l := b) fun x hx => hh x (by simp [AOp.args, hx])]
  case mkMap r =>
    cases r with
    | none => rfl
    | some a => simp only [evOp]; rw [hh a (by simp [AOp.args])]
  case slStr x lo hi =>
    simp only [evOp]
    rw [hh x (by simp [AOp.args])]
    simp only [bndOf_congr (e := e) (e' := e') (x := lo) fun a ha => hh a (by simp only [AOp.args, List.mem_cons, List.mem_append]; exact .inr (.inl ha)),
      bndOf_congr (e := e) (e' := e') (x := hi) fun a ha => hh a (by simp only [AOp.args, List.mem_cons, List.mem_append]; exact .inr (.inr ha))]
  case slSl sz x lo hi mx =>
    have h1 := fun d => bndOf_congr (e := e) (e' := e') (d := d) (x := lo) fun a ha => hh a (by simp only [AOp.args, List.mem_cons, List.mem_append]; exact .inr (.inl ha))
    have h2 := fun d => bndOf_congr (e := e) (e' := e') (d := d) (x := hi) fun a ha => hh a (by simp only [AOp.args, List.mem_cons, List.mem_append]; exact .inr (.inr (.inl ha)))
    have h3 := fun d => bndOf_congr (e := e) (e' := e') (d := d) (x := mx) fun a ha => hh a (by simp only [AOp.args, List.mem_cons, List.mem_append]; exact .inr (.inr (.inr ha)))
    simp only [evOp]
    rw [hh x (by simp [AOp.args])]
    cases mx with
    | none => simp only [h1, h2]; rfl
    | some q => simp only [h1, h2, h3]; rw [hh q (by simp [AOp.args])]
  case slArr n sz x lo hi mx =>
    have h1 := fun d => bndOf_congr (e := e) (e' := e') (d := d) (x := lo) fun a ha => hh a (by simp only [AOp.args, List.mem_cons, List.mem_append]; exact .inr (.inl ha))
    have h2 := fun d => bndOf_congr (e := e) (e' := e') (d := d) (x := hi) fun a ha => hh a (by simp only [AOp.args, List.mem_cons, List.mem_append]; exact .inr (.inr (.inl ha)))
    have h3 := fun d => bndOf_congr (e := e) (e' := e') (d := d) (x := mx) fun a ha => hh a (by simp only [AOp.args, List.mem_cons, List.mem_append]; exact .inr (.inr (.inr ha)))
    simp only [evOp]
    rw [hh x (by simp [AOp.args])]
    simp only [h1, h2, h3]
  case minmax mx xs => simp only [evOp]; rw [map_congr' (e := e) (e' := e') (l := xs) hh]
  all_goals first
    | rfl
    | (simp only [AOp.args, List.forall_mem_cons, List.not_mem_nil, false_implies, implies_true, and_true] at hh
       first
       | (simp only [evOp, hh]; done)
       | (obtain ⟨h1, h2⟩ := hh; simp only [evOp, h1, h2]; done)
       | (obtain ⟨h1, h2, h3⟩ := hh; simp only [evOp, h1, h2, h3]; done))

/-! ### the special ones -/
def isSpec : AOp → Bool
  | .call .. | .defer .. | .panic _ | .recover | .nextMap _ => true
  | _ => false

theorem stepOp_plain {CV : CVT} {cx : Cx} {op : AOp} {st : St} {K : V → St → Prop} {Q : X → St → Prop} (hs : isSpec op = false) (h : stepOp CV cx op st K Q) :
    ∃ v h', evOp op (evA st.loc st.tl) st.h = some (v, h') ∧ K v { st with h := h' } := by
  cases op <;> first
    | (simp only [isSpec, Bool.true_eq_false] at hs; done)
    | (simp only [stepOp] at h
       split at h
       · rename_i v h' he
         exact ⟨v, h', he, h⟩
       · exact h.elim)

section
variable {P : Program} {lm : List Nat}

theorem trBuilt_spec {b : Builtin} {t0 t1 : Option TypeId} {xs : List A} {aop : AOp} (h : trBuilt P b t0 t1 xs = some aop) : isSpec aop = false := by
  unfold trBuilt at h
  split at h
  · split at h <;> cases h <;> rfl
  · split at h <;> cases h <;> rfl
  · split at h
    · split at h
      · split at h <;> cases h; rfl
      · cases h
    · cases h
  · split at h
    · obtain ⟨n, _, rfl⟩ := omap h; rfl
    · cases h
  · cases h; rfl
  · cases h; rfl
  · split at h
    · obtain ⟨n, _, rfl⟩ := omap h; rfl
    · cases h
  · cases h

def SpecOp (P : Program) (lm : List Nat) (op : Op) (aop : AOp) : Prop :=
  (∃ c fo f xs, op = .call c ∧ c.callee = .value fo ∧ trCallee P lm fo = some f ∧ trAs P lm c.args.toList = some xs ∧ aop = .call f xs) ∨
  (∃ c fo f xs, op = .defer c ∧ c.callee = .value fo ∧ trCallee P lm fo = some f ∧ trAs P lm c.args.toList = some xs ∧ aop = .defer f xs) ∨
  (∃ x a, op = .panic x ∧ trA P lm x = some a ∧ aop = .panic a) ∨
  (∃ x a, op = .next x false ∧ trA P lm x = some a ∧ aop = .nextMap a)

theorem trOp_spec {op : Op} {aop : AOp} (ht : trOp P lm op = some aop) : isSpec aop = false ∧ (∀ c, op ≠ .defer c) ∨ SpecOp P lm op aop := by
  cases op <;> simp only [trOp] at ht
  case call c =>
    unfold trCall at ht
    split at ht
    · rename_i f xs hc hxs
      obtain ⟨f', hf, rfl⟩ := omap ht
      exact .inr (.inl ⟨c, _, _, _, rfl, hc, hf, hxs, rfl⟩)
    · exact .inl ⟨trBuilt_spec ht, by simp⟩
    · cases ht
  case defer c =>
    unfold trDefer at ht
    split at ht
    · rename_i f xs hc hxs
      obtain ⟨f', hf, rfl⟩ := omap ht
      exact .inr (.inr (.inl ⟨c, _, _, _, rfl, hc, hf, hxs, rfl⟩))
    · cases ht
  case panic x =>
    obtain ⟨a, ha, rfl⟩ := omap ht
    exact .inr (.inr (.inr (.inl ⟨x, a, rfl, ha, rfl⟩)))
  case next x b =>
    cases b <;> simp only [] at ht
    · obtain ⟨a, ha, rfl⟩ := omap ht
      exact .inr (.inr (.inr (.inr ⟨x, a, rfl, ha, rfl⟩)))
    · obtain ⟨a, ha, rfl⟩ := omap ht
      exact .inl ⟨rfl, by simp⟩
  case build t ps =>
    obtain ⟨z, _, ht⟩ := obind ht
    unfold trBuild at ht
    refine .inl ⟨?_, by simp⟩
    split at ht
    · split at ht
      · obtain ⟨l, _, rfl⟩ := omap ht; rfl
      · cases ht
    · split at ht
      · obtain ⟨l, _, rfl⟩ := omap ht; rfl
      · cases ht
    · cases ht
  case buildSlice t n ps =>
    unfold trBSlice at ht
    refine .inl ⟨?_, by simp⟩
    split at ht
    · split at ht
      · split at ht
        · obtain ⟨l, _, rfl⟩ := omap ht; rfl
        · cases ht
      · cases ht
    · cases ht
  case makeFunc f a b =>
    cases f <;> simp only [reduceCtorEq] at ht
    refine .inl ⟨?_, by simp⟩
    split at ht
    · split at ht <;> cases ht; rfl
    · cases ht
  case binOp op t x y yt =>
    refine .inl ⟨?_, by simp⟩
    split at ht
    · have cmp : ∀ {op neg a b}, trCmp P op neg t (isNilC x || isNilC y) a b = some aop → isSpec aop = false := by
        intro op neg a b ht
        unfold trCmp at ht
        split at ht
        · cases ht; rfl
        · cases ht; rfl
        · cases ht; rfl
        · obtain ⟨l, _, rfl⟩ := omap ht; rfl
        · split at ht <;> cases ht; rfl
        · cases ht; rfl
        · cases ht; rfl
        · cases ht; rfl
        · split at ht <;> cases ht <;> rfl
        · cases ht
      unfold trBin at ht
      split at ht
      · exact cmp ht
      · exact cmp ht
      · cases ht; rfl
    · cases ht
  case convert s d x =>
    obtain ⟨a, _, ht⟩ := obind ht
    refine .inl ⟨?_, by simp⟩
    unfold trConv at ht
    split at ht
    · cases ht; rfl
    · cases ht; rfl
    · cases ht; rfl
    · split at ht <;> cases ht; rfl
    · split at ht <;> cases ht; rfl
    · cases ht
  case makeSlice t l c =>
    refine .inl ⟨?_, by simp⟩
    split at ht
    · unfold trMkSlice at ht
      split at ht
      · split at ht
        · split at ht <;> cases ht; rfl
        · cases ht
      · cases ht
    · cases ht
  case slice t x lo hi mx =>
    refine .inl ⟨?_, by simp⟩
    split at ht
    · unfold trSlice at ht
      split at ht
      · split at ht <;> cases ht; rfl
      · split at ht
        · cases ht
        · obtain ⟨l, _, rfl⟩ := omap ht; rfl
      · split at ht
        · cases ht
        · obtain ⟨l, _, rfl⟩ := omap ht; rfl
      · split at ht
        · split at ht
          · cases ht
          · obtain ⟨l, _, rfl⟩ := omap ht; rfl
        · cases ht
      · cases ht
    · cases ht
  case fieldAddr t x f =>
    obtain ⟨a, _, ht⟩ := obind ht
    refine .inl ⟨?_, by simp⟩
    unfold trFAddr at ht
    split at ht
    · split at ht
      · split at ht <;> cases ht; rfl
      · cases ht
    · cases ht
  case field t x f =>
    obtain ⟨a, _, ht⟩ := obind ht
    refine .inl ⟨?_, by simp⟩
    unfold trField at ht
    split at ht
    · split at ht
      · split at ht
        · split at ht <;> cases ht; rfl
        · cases ht
      · cases ht
    · cases ht
  case indexAddr t x i =>
    refine .inl ⟨?_, by simp⟩
    split at ht
    · unfold trIAddr at ht
      split at ht
      · obtain ⟨l, _, rfl⟩ := omap ht; rfl
      · obtain ⟨l, _, rfl⟩ := omap ht; rfl
      · cases ht
    · cases ht
  case index t x i =>
    refine .inl ⟨?_, by simp⟩
    split at ht
    · unfold trIndex at ht
      split at ht
      · cases ht; rfl
      · split at ht
        · split at ht <;> cases ht; rfl
        · cases ht
      · cases ht
    · cases ht
  case range t x =>
    obtain ⟨a, _, ht⟩ := obind ht
    refine .inl ⟨?_, by simp⟩
    unfold trRange at ht
    split at ht <;> cases ht <;> rfl
  case typeAssert x xt t ok =>
    refine .inl ⟨?_, by simp⟩
    cases ok <;> simp only [reduceCtorEq] at ht
    split at ht
    · cases ht
    · split at ht <;> cases ht; rfl
  all_goals first
    | cases ht
    | (refine .inl ⟨?_, by simp⟩
       first
       | (obtain ⟨a, _, rfl⟩ := omap ht; rfl)
       | (split at ht <;> cases ht; rfl)
       | (split at ht
          · obtain ⟨a, _, rfl⟩ := omap ht; rfl
          · cases ht)
       | (split at ht
          · cases ht
          · obtain ⟨a, _, rfl⟩ := omap ht; rfl))
end
end Go.Abs

namespace Go.Abs
section
variable {P : Program} {lm : List Nat} {m : Mp} {h : H} {w : World} {ρ : Operand → Value}

/-! ### the next entry of a map -/
theorem filter_rel {p : V × V × Nat → Bool} {q : MapEntry → Bool} (hpq : ∀ x c, ER m x c → p x = q c) : ∀ {es : List (V × V × Nat)} {ces : List MapEntry}, ERs m es ces → ERs m (es.filter p) (ces.filter q)
  | [], _, h => by simp only [ERs] at h; subst h; simp [ERs]
  | x :: es, _, h => by
    simp only [ERs] at h
    obtain ⟨c, r, rfl, a, b⟩ := h
    simp only [List.filter_cons, hpq x c a]
    split
    · simp only [ERs]; exact ⟨c, _, rfl, a, filter_rel hpq b⟩
    · exact filter_rel hpq b

theorem ERs.getC {es : List (V × V × Nat)} {ces : List MapEntry} : ∀ (_ : ERs m es ces) {i : Nat} {c : MapEntry}, ces[i]? = some c → ∃ x, x ∈ es ∧ ER m x c := by
  induction es generalizing ces with
  | nil => intro h i c e; simp only [ERs] at h; subst h; simp at e
  | cons x es ih =>
    intro h i c e
    simp only [ERs] at h
    obtain ⟨c', r, rfl, a, b⟩ := h
    cases i with
    | zero => simp at e; subst e; exact ⟨x, by simp, a⟩
    | succ i => simp at e; obtain ⟨y, h1, h2⟩ := ih b e; exact ⟨y, by simp [h1], h2⟩

theorem ERs.all_lt {n : Nat} : ∀ {es : List (V × V × Nat)} {ces : List MapEntry}, ERs m es ces → (es.all fun x => x.2.2 < n) = true → ∀ c ∈ ces, c.born < n
  | [], _, h, _, c, hc => by simp only [ERs] at h; subst h; simp at hc
  | x :: es, _, h, e, c, hc => by
    simp only [ERs] at h
    obtain ⟨c', r, rfl, a, b⟩ := h
    simp only [List.all_cons, Bool.and_eq_true, decide_eq_true_eq] at e
    rcases List.mem_cons.1 hc with rfl | hc
    · rw [← a.2.2]; exact e.1
    · exact ERs.all_lt b e.2 c hc

def NextS (P : Program) (m : Mp) (h : H) (w : World) (r : Result Next) (b : Nat) (mm : Nat) (since : Nat) (seen : List Nat) (cl : Nat) (l : List (V × V × Nat)) : Prop :=
  (l = [] ∧ ∃ w', r = .ok (.value (.tuple #[.bool false])) w' ∧ w'.heap = w.heap ∧ (w'.tape = w.tape ∧ w'.os = w.os ∧ w'.output = w.output)) ∨
  (∃ x c w', x ∈ l ∧ ER m x c ∧ r = .ok (.value (.tuple #[.bool true, c.key, c.val])) w' ∧
    Sim P m (h.set b (.miter (some mm) since (seen ++ [x.2.2]) cl)).get (h.set b (.miter (some mm) since (seen ++ [x.2.2]) cl)).next w' ∧
    Ex m h.get h.next w m (h.set b (.miter (some mm) since (seen ++ [x.2.2]) cl)).get (h.set b (.miter (some mm) since (seen ++ [x.2.2]) cl)).next w')

theorem run_choose_map (n : Nat) (hn : 0 < n) : ∃ k w', k < n ∧ (choose (.mapNext n)).run P w = .ok k w' ∧ w'.heap = w.heap ∧ (w'.tape = w.tape ∧ w'.os = w.os ∧ w'.output = w.output) := by
  rw [run_choose]
  split
  · exact ⟨0, w, hn, rfl, rfl, rfl, rfl, rfl⟩
  · exact ⟨_, _, Nat.mod_lt _ hn, rfl, rfl, rfl, rfl, rfl⟩

theorem Sim.setW (s : Sim P m h.get h.next w) {w1 : World} (hw : w1.heap = w.heap) (hr : w1.tape = w.tape ∧ w1.os = w.os ∧ w1.output = w.output) :
    Sim P m h.get h.next w1 ∧ Ex m h.get h.next w m h.get h.next w1 := ⟨s.heap hw, Ex.heap s hw hr⟩

theorem next_none (s : Sim P m h.get h.next w) {o : Oper} {x : Operand} (ho : o.op = .next x false) {b : Nat} (hx : VR m (.ptr b 0) (ρ x)) {since st : Nat} {seen : List Nat} (hg : h.get b = some (.miter none since seen st)) :
    (execOp ρ o).run P w = .ok (.value (.tuple #[.bool false])) w := by
  obtain ⟨y, hy, hx⟩ := hx.ptr
  obtain ⟨co, h1, hsh, mm', rfl, h2⟩ := s.obj b y _ hy hg (by nofun)
  simp only at h2
  subst h2
  have hgo := run_getObj (P := P) h1 (by simp)
  simp only [execOp, ho, Instr.next, Sem.run_bind, Result.andThen_ok, hx, hsh, Nat.zero_add, hgo, Sem.run_pure]

theorem next_some (s : Sim P m h.get h.next w) {o : Oper} {x : Operand} (ho : o.op = .next x false) {b : Nat} (hx : VR m (.ptr b 0) (ρ x)) {since : Nat} {seen : List Nat} {mm : Nat} (hg : h.get b = some (.miter (some mm) since seen since))
    {es : List (V × V × Nat)} (hgm : h.get mm = some (.map es since)) (hall : (es.all fun x => x.2.2 < since) = true) :
    NextS P m h w ((execOp ρ o).run P w) b mm since seen since (leftOf es seen) := by
  obtain ⟨y, hy, hx⟩ := hx.ptr
  obtain ⟨co, h1, hsh, mm', rfl, h2⟩ := s.obj b y _ hy hg (by nofun)
  obtain ⟨z, hz, rfl⟩ := h2
  have hgo := run_getObj (P := P) h1 (by simp)
  obtain ⟨co2, h3, ces, rfl, h4⟩ := s.obj mm z _ hz hgm (by nofun)
  have hgo2 := run_getObj (P := P) h3 (by simp)
  have hlt := ERs.all_lt h4 hall
  have e0 : (!seen.toArray.isEmpty && !ces.isEmpty && ces.all (·.born ≥ since)) = false := by
    cases hc : ces.toList with
    | nil => have : ces = #[] := Array.toList_inj.1 (by simpa using hc); simp [this]
    | cons c r =>
      have h5 := hlt c (by rw [hc]; simp)
      have : ces.all (fun e => decide (e.born ≥ since)) = false := by
        rw [← Array.all_toList, hc]
        simp; omega
      simp only [ge_iff_le] at this ⊢
      rw [this]; simp
  have hleft : ERs m (leftOf es seen) (ces.filter fun e => !seen.toArray.contains e.born).toList := by
    rw [Array.toList_filter]
    refine filter_rel (fun x c hxc => ?_) h4
    rw [hxc.2.2]; simp
  generalize hle : (ces.filter fun e => !seen.toArray.contains e.born) = left at hleft
  have hold : left.filter (fun e => e.born < since) = left := by
    rw [Array.filter_eq_self]
    intro c hc
    have : c ∈ ces := by rw [← hle] at hc; exact (Array.mem_filter.1 hc).1
    simpa using hlt c (by simpa using this)
  have hnew : left.filter (fun e => e.born ≥ since) = #[] := by
    rw [Array.filter_eq_empty_iff]
    intro c hc
    have : c ∈ ces := by rw [← hle] at hc; exact (Array.mem_filter.1 hc).1
    have := hlt c (by simpa using this)
    simp; omega
  unfold NextS
  generalize hlf : leftOf es seen = lf at hleft
  cases lf with
  | nil =>
    have hl0 : left = #[] := by simp only [ERs] at hleft; exact Array.toList_inj.1 (by simpa using hleft)
    obtain ⟨k, w1, hk, hch, hw1, hr1⟩ := run_choose_map (P := P) (w := w) 1 (by omega)
    refine .inl ⟨rfl, w1, ?_, hw1, hr1⟩
    have hk0 : k = 0 := by omega
    subst hk0
    simp only [execOp, ho, Instr.next, Sem.run_bind, Result.andThen_ok, hx, hsh, Nat.zero_add, hgo, hgo2, e0, Bool.false_eq_true, if_false, hle, hold, hnew, Sem.run_pure]
    subst hl0
    simp [-run_choose, -run_choose_drew, hch]
  | cons x lf =>
    have hne : left.isEmpty = false := by
      simp only [ERs] at hleft
      obtain ⟨c, r, hr, _⟩ := hleft
      have : left ≠ #[] := fun e => by rw [e] at hr; simp at hr
      simpa using this
    have hpos : 0 < left.size := by
      have : left ≠ #[] := fun e => by rw [e] at hne; simp at hne
      exact Array.size_pos_iff.2 this
    obtain ⟨k, w1, hk, hch, hw1, hr1⟩ := run_choose_map (P := P) (w := w) left.size hpos
    have hc : left[k]? = some left[k] := by simp [hk]
    obtain ⟨x', hx'1, hx'2⟩ := hleft.getC (i := k) (c := left[k]) (by simp)
    obtain ⟨s1, ex1⟩ := s.setW hw1 hr1
    have hor : OR P m y (.miter (some mm) since (seen ++ [x'.2.2]) since) (.mapIter (some z.blk) since (seen.toArray.push left[k].born) since) := by
      refine ⟨hsh, some z.blk, ?_, z, hz, rfl⟩
      rw [hx'2.2.2]; simp
    have h1' : w1.heap[y.blk]? = some (.mapIter (some z.blk) since seen.toArray since) := by rw [hw1]; exact h1
    obtain ⟨a1, a2⟩ := sim_setObj s1 hy hg (by simp) (by nofun) h1' hor
    refine .inr ⟨x', left[k], _, hx'1, hx'2, ?_, a1, ex1.trans a2⟩
    simp only [execOp, ho, Instr.next, Sem.run_bind, Result.andThen_ok, hx, hsh, Nat.zero_add, hgo, hgo2, e0, Bool.false_eq_true, if_false, hle, hold, hnew, hne, Sem.run_pure]
    simp [-run_choose, -run_choose_drew, hch, hk, run_setObj h1' (by simp)]

end
end Go.Abs

namespace Go.Abs

/-! ### deferred calls; the marks of ranges over functions -/
inductive DfR (m : Mp) : List (V × List V) → List Deferred → Prop where
  | nil : DfR m [] []
  | mark {df : List (V × List V)} {ds : List Deferred} (r : Nat) : DfR m df ds → DfR m df ({ target := .collected r, args := #[] } :: ds)
  | call {df : List (V × List V)} {ds : List Deferred} {g : FuncId} {a b args : List V} {cap args' : Array Value} : VRs m b cap.toList → VRs m (a ++ args) args'.toList → DfR m df ds →
      DfR m ((.fn (.func g) a b, args) :: df) ({ target := .fn (.func g) cap, args := args' } :: ds)

theorem DfR.mono {m m' : Mp} (h : Mle m m') {df : List (V × List V)} {ds : List Deferred} (r : DfR m df ds) : DfR m' df ds := by
  induction r with
  | nil => exact .nil
  | mark r _ ih => exact .mark r ih
  | call h1 h2 _ ih => exact .call (h1.mono h) (h2.mono h) ih

def markOf (d : Deferred) : Option Nat :=
  match d.target with
  | .collected r => some r
  | _ => none

/-- a block that is out of the abstract machine's reach -/
def Out (m : Mp) (g : G) (r : Nat) : Prop := ∀ b x, m b = some x → live g b → x.blk ≠ r

def MarksOK (n0 : Nat) (m : Mp) (g : G) (w : World) (ds : List Deferred) : Prop :=
  n0 ≤ w.heap.size ∧ (ds.filterMap markOf).Nodup ∧ ∀ r ∈ ds.filterMap markOf, n0 ≤ r ∧ w.heap[r]? = some (.deferred (some [])) ∧ Out m g r

theorem lt_of_get {α : Type} {a : Array α} {i : Nat} {x : α} (h : a[i]? = some x) : i < a.size := (Array.getElem?_eq_some_iff.1 h).1

theorem Out.ex {m m' : Mp} {g g' : G} {nx nx' : Nat} {w w' : World} (e : Ex m g nx w m' g' nx' w') {r : Nat} (hr : r < w.heap.size) (h : Out m g r) : Out m' g' r := by
  intro b x hb hl
  by_cases hlt : b < nx
  · exact h b x ((e.old b hlt).symm.trans hb) (e.lv b hlt hl)
  · rcases e.new b x (by omega) hb with h1 | ⟨b0, x0, h0, l0, e0⟩
    · omega
    · rw [← e0]; exact h b0 x0 h0 l0

theorem MarksOK.ex {m m' : Mp} {g g' : G} {nx nx' : Nat} {w w' : World} (e : Ex m g nx w m' g' nx' w') {n0 : Nat} {ds : List Deferred} (h : MarksOK n0 m g w ds) : MarksOK n0 m' g' w' ds := by
  refine ⟨Nat.le_trans h.1 e.size, h.2.1, fun r hr => ?_⟩
  obtain ⟨h0, h1, h2⟩ := h.2.2 r hr
  exact ⟨h0, (e.keep r (lt_of_get h1) h2).trans h1, h2.ex e (lt_of_get h1)⟩

/-! ### how calls end -/
def EndR (m : Mp) : Ret → Ending → Prop
  | .ret v, .returned cv => VR m v cv
  | .pan v, .panicked chain => ∃ cv, chain = [{ v := cv, recovered := false }] ∧ VR m v cv
  | _, _ => False

def Post (P : Program) (m : Mp) (h : H) (w : World) (R : Ret → H → Prop) (e : Ending) (w' : World) : Prop :=
  ∃ r h' m', R r h' ∧ EndR m' r e ∧ Sim P m' h'.get h'.next w' ∧ Ex m h.get h.next w m' h'.get h'.next w'

/-- a call through a function value -/
def InvS (P : Program) (m : Mp) (h : H) (w : World) (R : Ret → H → Prop) (f' : Fn) (r : Result Next) : Prop :=
  (∃ g as, r = .ok (.enter g as) w ∧ CallsIn Fence.wide 0 P g as w (Post P m h w R)) ∨
  (∃ l g tmps assign body, (∃ y, f' = .yield y) ∧ r = .ok (.round l g tmps assign body) w ∧ RoundIn Fence.wide 0 P l g tmps assign body w (Post P m h w R))

def CVS (P : Program) (CV : CVT) : Prop :=
  ∀ (fv : V) (args : List V) (h : H) (R : Ret → H → Prop), CV fv args h R → ∃ f a b, fv = .fn f a b ∧
    ∀ (m : Mp) (w : World), Sim P m h.get h.next w → ∀ (f' : Fn) (cap args' : Array Value), FnR m f f' → VRs m b cap.toList → VRs m (a ++ args) args'.toList →
      InvS P m h w R f' ((invoke (.fn f' cap) args').run P w)

/-- the fences of frames: a function's; a round's -/
def WideF (F : Fence) : Prop := F = Fence.wide ∨ ∃ l, F = Fence.wide.inRound l

theorem WideF.fn {F : Fence} (h : WideF F) (f : FuncId) : F.fn f := by rcases h with rfl | ⟨l, rfl⟩ <;> trivial
theorem WideF.depth {F : Fence} (h : WideF F) : F.depth = none := by rcases h with rfl | ⟨l, rfl⟩ <;> rfl
theorem WideF.calls {F : Fence} (h : WideF F) {P : Program} {f : FuncId} {args : Array Value} {w : World} {R : Ending → World → Prop} (k : CallsIn Fence.wide 0 P f args w R) : CallsIn F 0 P f args w R := by
  rcases h with rfl | ⟨l, rfl⟩
  · exact k
  · exact k.inRound l
theorem WideF.rounds {F : Fence} (h : WideF F) {P : Program} {l : Nat} {f : FuncId} {tmps : Array Value} {assign body : Code} {w : World} {R : Ending → World → Prop} (k : RoundIn Fence.wide 0 P l f tmps assign body w R) :
    RoundIn F 0 P l f tmps assign body w R := by
  rcases h with rfl | ⟨l, rfl⟩
  · exact k
  · exact k

section
variable {P : Program} {lm : List Nat}

theorem trCallee_rel {m : Mp} {e : A → V} {ρ : Operand → Value} (hev : EvR P lm m e ρ) {fo : Operand} {f : A} (h : trCallee P lm fo = some f) (hf : ∀ n, e (.f n) = .fn (.func n) [] []) (hc : ∀ n, ρ (.func n) = .func (.func n) #[] #[]) : VR m (e f) (ρ fo) := by
  cases fo with
  | tmp t => exact hev _ _ h
  | func g =>
    simp only [trCallee] at h
    split at h
    · cases h
      rw [hf, hc]
      simp only [VR]
      exact ⟨_, _, _, rfl, rfl, VRs.nil, VRs.nil⟩
    · cases h
  | _ => simp [trCallee] at h

theorem VR.fn {m : Mp} {f : Fn} {a b : List V} {x : Value} (h : VR m (.fn f a b) x) : ∃ f' a' b', x = .func f' a' b' ∧ FnR m f f' ∧ VRs m a a'.toList ∧ VRs m b b'.toList := by
  simpa only [VR] using h

theorem resolve_rel {m : Mp} {e : A → V} {ρ : Operand → Value} {w : World} (hev : EvR P lm m e ρ) (c : Call) (ty : TypeId) {fo : Operand} (hc : c.callee = .value fo) {f : A} {xs : List A} (hf : VR m (e f) (ρ fo)) (hxs : trAs P lm c.args.toList = some xs)
    {f0 : Fn} {a b : List V} (he : e f = .fn f0 a b) : ∃ f' cap args', (resolve ρ c ty).run P w = .ok { target := .fn f' cap, args := args' } w ∧ FnR m f0 f' ∧ VRs m b cap.toList ∧ VRs m (a ++ xs.map e) args'.toList := by
  rw [he] at hf
  obtain ⟨f', a', b', hx, h1, h2, h3⟩ := hf.fn
  refine ⟨f', b', a' ++ c.args.map ρ, ?_, h1, h3, ?_⟩
  · simp [resolve, hc, hx, Deferred.ofValue]
  · have := trAs_rel hev hxs
    simp only [Array.toList_append, Array.toList_map]
    exact h2.append this

theorem OpS.iff {m : Mp} {h h' : H} {w : World} {r : Result Next} {v : V} (hs : OpS P m h w r v h') {F : Fence} {o : Oper} {a : Act} {next : Act → World → Prop} {QQ : Exit → Act → World → Prop}
    (hn : ∀ m' cv w', VR m' v cv → Sim P m' h'.get h'.next w' → Ex m h.get h.next w m' h'.get h'.next w' → next (a.put o.dst cv) w') : o.uponIn F 0 P a next QQ r := by
  obtain ⟨w', m', cv, n, rfl, hn', hv, hs', he⟩ := hs
  rcases hn' with rfl | ⟨rfl, rfl⟩
  · exact hn m' cv w' hv hs' he
  · exact hn m' _ w' hv hs' he

theorem stepOp_sound {CV : CVT} (hCV : CVS P CV) {F : Fence} (hF : WideF F) {cx : Cx} (hcx : cx.rnd = none → F = Fence.wide) {m : Mp} {st : St} {w : World} {a : Act} {o : Oper} {aop : AOp} {e : A → V}
    (s : Sim P m st.h.get st.h.next w) (hev : EvR P lm m e a.eval) (hef : ∀ n, e (.f n) = .fn (.func n) [] []) (hargs : ∀ x ∈ aop.args, evA st.loc st.tl x = e x) (hd : DfR m st.df a.defers) {n0 : Nat} (hm : MarksOK n0 m st.h.get w a.defers)
    (ht : trOp P lm o.op = some aop) {K : V → St → Prop} {Q : X → St → Prop} (hh : stepOp CV cx aop st K Q) {next : Act → World → Prop} {QQ : Exit → Act → World → Prop}
    (hn : ∀ v h' df' m' cv ds' w', K v { st with h := h', df := df' } → VR m' v cv → Sim P m' h'.get h'.next w' → Ex m st.h.get st.h.next w m' h'.get h'.next w' → DfR m' df' ds' → MarksOK n0 m' h'.get w' ds' →
      next (({ a with defers := ds' } : Act).put o.dst cv) w')
    (hq : ∀ v h' m' cv w', Q (.pan v) { st with h := h' } → VR m' v cv → Sim P m' h'.get h'.next w' → Ex m st.h.get st.h.next w m' h'.get h'.next w' → QQ (.panic [{ v := cv, recovered := false }]) a w') :
    o.wpIn F 0 P a w next QQ := by
  refine ⟨fun f _ => hF.fn f, ?_⟩
  have exec : (∀ c, o.op ≠ .defer c) → Oper.semAt F.round a.eval o = execOp a.eval o := fun hnd => Oper.semAt_eq _ _ _ hnd
  have exr : Ex m st.h.get st.h.next w m st.h.get st.h.next w := Ex.refl _ _ _ _ fun b x e => (s.dom b x e).1
  rcases trOp_spec ht with ⟨hns, hnd⟩ | hsp
  · rw [exec hnd]
    obtain ⟨v, h', hv, hk⟩ := stepOp_plain hns hh
    rw [evOp_congr hargs] at hv
    refine (evOp_sound s hev ht hv).iff fun m' cv w' h1 h2 h3 => ?_
    exact hn v h' st.df m' cv a.defers w' hk h1 h2 h3 (hd.mono (h3.le s)) (hm.ex h3)
  rcases hsp with ⟨c, fo, f, xs, ho, hc, hf, hxs, rfl⟩ | ⟨c, fo, f, xs, ho, hc, hf, hxs, rfl⟩ | ⟨x, ax, ho, hx, rfl⟩ | ⟨x, ax, ho, hx, rfl⟩
  · -- a call
    rw [exec (fun c' => by rw [ho]; simp)]
    simp only [stepOp] at hh
    have hef' : evA st.loc st.tl f = e f := hargs f (by simp [AOp.args])
    have hxe : xs.map (evA st.loc st.tl) = xs.map e := map_congr' fun x hx => hargs x (by simp [AOp.args, hx])
    rw [hef', hxe] at hh
    obtain ⟨f0, a0, b0, hfe, hcall⟩ := hCV _ _ _ _ hh
    have hfr := trCallee_rel hev hf hef (fun _ => rfl)
    obtain ⟨f', cap, args', hres, h1, h2, h3⟩ := resolve_rel (P := P) (w := w) hev c o.type hc hfr hxs hfe
    have hrun : (execOp a.eval o).run P w = (invoke (.fn f' cap) args').run P w := by
      simp only [execOp, ho, Sem.run_bind, hres, Result.andThen_ok]
    rw [hrun]
    have fin : ∀ {e : Ending} {w'' : World}, Post P m st.h w (fun r h' => match r with | .ret v => K v { st with h := h' } | .pan v => Q (.pan v) { st with h := h' }) e w'' →
        (match (motive := Ending → World → Prop) e, w'' with
         | .returned v, w'' => next (a.put o.dst v) w''
         | .panicked chain, w'' => QQ (.panic chain) a w''
         | .outgrown, _ => LetsOut QQ) := by
      intro e w'' hp
      obtain ⟨r, h', m', hR, hend, hs', hex⟩ := hp
      cases r with
      | ret v =>
        cases e with
        | returned cv => exact hn v h' st.df m' cv a.defers w'' hR hend hs' hex (hd.mono (hex.le s)) (hm.ex hex)
        | panicked _ => exact hend.elim
        | outgrown => exact hend.elim
      | pan v =>
        cases e with
        | returned cv => exact hend.elim
        | panicked chain =>
          obtain ⟨cv, rfl, hv⟩ := hend
          exact hq v h' m' cv w'' hR hv hs' hex
        | outgrown => exact hend.elim
    rcases hcall m w s f' cap args' h1 h2 h3 with ⟨g, as, hr, hci⟩ | ⟨l, g, tmps, as, bd, _, hr, hri⟩
    · rw [hr]
      exact ⟨(fun hsome => by rw [hF.depth] at hsome; cases hsome), (hF.calls hci).mono fun e w'' hp => fin hp⟩
    · rw [hr]
      exact ⟨(fun hsome => by rw [hF.depth] at hsome; cases hsome), (hF.rounds hri).mono fun e w'' hp => fin hp⟩
  · -- a deferred call
    simp only [stepOp] at hh
    have hef' : evA st.loc st.tl f = e f := hargs f (by simp [AOp.args])
    have hxe : xs.map (evA st.loc st.tl) = xs.map e := map_congr' fun x hx => hargs x (by simp [AOp.args, hx])
    rw [hef', hxe] at hh
    split at hh
    · rename_i g a0 b0 hr hfe
      obtain rfl := hcx hr
      have hfr := trCallee_rel hev hf hef (fun _ => rfl)
      obtain ⟨f', cap, args', hres, h1, h2, h3⟩ := resolve_rel (P := P) (w := w) hev c o.type hc hfr hxs hfe
      simp only [FnR] at h1
      subst h1
      have hrun : (Oper.semAt Fence.wide.round a.eval o).run P w = .ok (.defer { target := .fn (.func g) cap, args := args' }) w := by
        show (execOp a.eval o).run P w = _
        simp only [execOp, ho, Sem.run_bind, hres, Result.andThen_ok, Sem.run_pure]
      rw [hrun]
      refine hn (.tup []) st.h _ m undef ({ target := .fn (.func g) cap, args := args' } :: a.defers) w hh VR.undef s exr (.call h2 h3 hd) ?_
      exact hm
    · exact hh.elim
  · -- a panic
    rw [exec (fun c' => by rw [ho]; simp)]
    simp only [stepOp] at hh
    rw [hargs ax (by simp [AOp.args])] at hh
    have h1 := hev x ax hx
    split at hh
    · rename_i t v he
      rw [he] at h1
      have h1' := h1
      simp only [VR] at h1
      obtain ⟨x', hx', _⟩ := h1
      have hrun : (execOp a.eval o).run P w = .halt (.panic (a.eval x)) w := by
        simp only [execOp, ho, Instr.panic, hx', Sem.run_bind, run_goPanic, Result.andThen]
      rw [hrun]
      exact hq _ st.h m _ w hh h1' s exr
    · exact hh.elim
  · -- the next entry of a map
    rw [exec (fun c' => by rw [ho]; simp)]
    simp only [stepOp] at hh
    rw [hargs ax (by simp [AOp.args])] at hh
    have h1 := hev x ax hx
    split at hh
    · rename_i b he
      rw [he] at h1
      have tupF : ∀ {m : Mp}, VR m (.tup [.bool false]) (.tuple #[.bool false]) := by
        intro m; simp only [VR]; exact ⟨_, rfl, VRs.cons (by simp only [VR]) VRs.nil⟩
      split at hh
      · rename_i since seen stp hg
        rw [next_none s ho h1 hg]
        exact hn _ st.h st.df m _ a.defers w hh tupF s exr hd hm
      · rename_i mm since seen stp hg
        split at hh
        · rename_i es cl hgm
          obtain ⟨rfl, rfl, hall, hnil, hcons⟩ := hh
          rcases next_some s ho h1 hg hgm hall with ⟨hl, w', hr, hw', hr'⟩ | ⟨y, c, w', hy, hyc, hr, s', ex'⟩
          · rw [hr]
            obtain ⟨s1, ex1⟩ := s.setW hw' hr'
            exact hn _ st.h st.df m _ a.defers w' (hnil hl) tupF s1 ex1 hd (hm.ex ex1)
          · rw [hr]
            refine hn _ _ st.df m _ a.defers w' (hcons y hy) ?_ s' ex' hd (hm.ex ex')
            simp only [VR]
            exact ⟨_, rfl, VRs.cons (by simp only [VR]) (VRs.cons hyc.1 (VRs.cons hyc.2.1 VRs.nil))⟩
        · exact hh.elim
      · exact hh.elim
    · exact hh.elim
end
end Go.Abs

namespace Go.Abs

/-! ### places of locals -/
theorem idxOf_spec {t : Nat} : ∀ {l : List Nat} {k i : Nat}, idxOf t l k = some i → k ≤ i ∧ l[i - k]? = some t
  | [], _, _, h => by simp [idxOf] at h
  | s :: l, k, i, h => by
    simp only [idxOf] at h
    split at h
    · rename_i hs; cases h; subst hs; simp
    · obtain ⟨h1, h2⟩ := idxOf_spec h
      refine ⟨by omega, ?_⟩
      rw [show i - k = (i - (k + 1)) + 1 by omega]
      simpa using h2

theorem idxOf_get {t : Nat} {l : List Nat} {i : Nat} (h : idxOf t l 0 = some i) : l[i]? = some t := by simpa using (idxOf_spec h).2

theorem idxOf_lt {t : Nat} {l : List Nat} {i : Nat} (h : idxOf t l 0 = some i) : i < l.length := (List.getElem?_eq_some_iff.1 (idxOf_get h)).1

theorem idxOf_inj {t u : Nat} {l : List Nat} {i : Nat} (h : idxOf t l 0 = some i) (k : idxOf u l 0 = some i) : t = u := by
  have := (idxOf_get h).symm.trans (idxOf_get k)
  simpa using this

/-! ### states -/
structure SR (P : Program) (lm : List Nat) (nt n0 : Nat) (m : Mp) (st : St) (a : Act) (w : World) : Prop where
  sim : Sim P m st.h.get st.h.next w
  size : a.tmps.size = nt
  len : st.loc.length = lm.length
  env : EvR P lm m (evA st.loc st.tl) a.eval
  df : DfR m st.df a.defers
  mks : MarksOK n0 m st.h.get w a.defers

def XR (m : Mp) : X → Exit → Prop
  | .nrm, .normal => True
  | .exit i, .exit j => i = j
  | .ret, .ret => True
  | .pan v, .panic chain => ∃ cv, chain = [{ v := cv, recovered := false }] ∧ VR m v cv
  | _, _ => False

def CPost (P : Program) (lm : List Nat) (nt n0 : Nat) (m : Mp) (h : H) (w : World) (Q : X → St → Prop) (ex : Exit) (a' : Act) (w' : World) : Prop :=
  ∃ x st' m', Q x st' ∧ XR m' x ex ∧ SR P lm nt n0 m' st' a' w' ∧ Ex m h.get h.next w m' st'.h.get st'.h.next w'

section
variable {P : Program} {lm : List Nat} {nt n0 : Nat} {m m' : Mp} {st : St} {a : Act} {w w' : World}

theorem SR.refl (s : SR P lm nt n0 m st a w) : Ex m st.h.get st.h.next w m st.h.get st.h.next w := Ex.refl _ _ _ _ fun b x e => (s.sim.dom b x e).1

theorem SR.step (s : SR P lm nt n0 m st a w) {h' : H} {df' : List (V × List V)} {ds' : List Deferred} (hs : Sim P m' h'.get h'.next w') (he : Ex m st.h.get st.h.next w m' h'.get h'.next w')
    (hd : DfR m' df' ds') (hm : MarksOK n0 m' h'.get w' ds') : SR P lm nt n0 m' { st with h := h', df := df' } { a with defers := ds' } w' where
  sim := hs
  size := s.size
  len := s.len
  env x aa hx := (s.env x aa hx).mono (he.le s.sim)
  df := hd
  mks := hm

theorem SR.heap (s : SR P lm nt n0 m st a w) {h' : H} (hs : Sim P m' h'.get h'.next w') (he : Ex m st.h.get st.h.next w m' h'.get h'.next w') : SR P lm nt n0 m' { st with h := h' } a w' :=
  s.step hs he (s.df.mono (he.le s.sim)) (s.mks.ex he)

theorem St.put_df (st : St) (d : D) (v : V) : (st.put d v).df = st.df := by cases d <;> rfl
theorem St.put_h (st : St) (d : D) (v : V) : (st.put d v).h = st.h := by cases d <;> rfl
theorem St.put_len (st : St) (d : D) (v : V) : (st.put d v).loc.length = st.loc.length := by cases d <;> simp [St.put]
theorem Act.put_defers' (a : Act) (d : Option Tmp) (v : Value) : (a.put d v).defers = a.defers := by cases d <;> rfl
theorem Act.put_size (a : Act) (d : Option Tmp) (v : Value) : (a.put d v).tmps.size = a.tmps.size := by cases d <;> simp [Act.put]

/-- a put: what the environment gives -/
theorem evA_put {st : St} {d : D} {v : V} {x : A} (hl : ∀ i, d = .l i → i < st.loc.length) : evA (st.put d v).loc (st.put d v).tl x = if d.hits x then v else evA st.loc st.tl x := by
  cases d with
  | n => cases x <;> rfl
  | l i =>
    cases x with
    | l j =>
      simp only [St.put, evA, D.hits, beq_iff_eq]
      have := hl i rfl
      by_cases h : i = j
      · subst h; simp [this]
      · simp [h]
    | _ => rfl
  | t s =>
    cases x with
    | t u =>
      simp only [St.put, evA, D.hits, tget, beq_iff_eq]
    | _ => rfl

theorem trD_hits {dst : Option Tmp} {x : Operand} {aa : A} (hx : trA P lm x = some aa) : (trD lm dst).hits aa = true ↔ ∃ t, dst = some t ∧ x = .tmp t := by
  cases dst with
  | none => simp [trD, D.hits]
  | some t =>
    cases x with
    | tmp u =>
      simp only [trA] at hx
      cases ht : idxOf t lm 0 with
      | some i =>
        cases hu : idxOf u lm 0 with
        | some j =>
          rw [hu] at hx; cases hx
          simp only [trD, ht, D.hits, beq_iff_eq]
          constructor
          · rintro rfl; exact ⟨t, rfl, by rw [idxOf_inj ht hu]⟩
          · rintro ⟨t', h1, h2⟩; cases h1; cases h2; exact Option.some.inj (ht.symm.trans hu)
        | none =>
          rw [hu] at hx; cases hx
          simp only [trD, ht, D.hits]
          constructor
          · intro h; cases h
          · rintro ⟨t', h1, h2⟩; cases h1; cases h2; rw [ht] at hu; cases hu
      | none =>
        cases hu : idxOf u lm 0 with
        | some j =>
          rw [hu] at hx; cases hx
          simp only [trD, ht, D.hits]
          constructor
          · intro h; cases h
          · rintro ⟨t', h1, h2⟩; cases h1; cases h2; rw [ht] at hu; cases hu
        | none =>
          rw [hu] at hx; cases hx
          simp only [trD, ht, D.hits, beq_iff_eq]
          constructor
          · rintro rfl; exact ⟨t, rfl, rfl⟩
          · rintro ⟨t', h1, h2⟩; cases h1; cases h2; rfl
    | const v =>
      simp only [trA, Option.map_eq_some_iff] at hx
      obtain ⟨v', _, rfl⟩ := hx
      cases ht : idxOf t lm 0 <;> simp [trD, ht, D.hits]
    | global g =>
      simp only [trA] at hx
      split at hx
      · cases hx; cases ht : idxOf t lm 0 <;> simp [trD, ht, D.hits]
      · cases hx
    | func g =>
      cases hx; cases ht : idxOf t lm 0 <;> simp [trD, ht, D.hits]

theorem trD_lt {dst : Option Tmp} {i : Nat} (h : trD lm dst = .l i) : i < lm.length := by
  cases dst with
  | none => cases h
  | some t =>
    simp only [trD] at h
    split at h
    · rename_i j hj; cases h; exact idxOf_lt hj
    · cases h

theorem eval_put_hit {a : Act} {t : Tmp} {cv : Value} (hd : t < a.tmps.size) : (a.put (some t) cv).eval (.tmp t) = cv := by
  simp [Act.put, Act.eval, hd]

theorem eval_put_miss {a : Act} {dst : Option Tmp} {cv : Value} {x : Operand} (hx : ∀ t, dst = some t → x ≠ .tmp t) : (a.put dst cv).eval x = a.eval x :=
  Act.eval_put hx

theorem EvR.put {e e' : A → V} {dst : Option Tmp} {v : V} {cv : Value} (hev : EvR P lm m e a.eval) (he : ∀ x, e' x = if (trD lm dst).hits x then v else e x) (hd : dst.getD 0 < a.tmps.size) (hv : VR m v cv) :
    EvR P lm m e' (a.put dst cv).eval := by
  intro x aa hx
  rw [he]
  by_cases h : (trD lm dst).hits aa = true
  · rw [if_pos h]
    obtain ⟨t, rfl, rfl⟩ := (trD_hits hx).1 h
    rw [eval_put_hit (t := t) hd]; exact hv
  · rw [if_neg h, eval_put_miss fun t h1 h2 => h ((trD_hits hx).2 ⟨t, h1, h2⟩)]; exact hev x aa hx

theorem SR.put (s : SR P lm nt n0 m st a w) {dst : Option Tmp} {v : V} {cv : Value} (hd : dst.getD 0 < nt) (hv : VR m v cv) : SR P lm nt n0 m (st.put (trD lm dst) v) (a.put dst cv) w where
  sim := by rw [St.put_h]; exact s.sim
  size := by rw [Act.put_size]; exact s.size
  len := by rw [St.put_len]; exact s.len
  env := s.env.put (fun x => evA_put fun i hi => by rw [s.len]; exact trD_lt hi) (by rw [s.size]; exact hd) hv
  df := by rw [St.put_df, Act.put_defers']; exact s.df
  mks := by rw [St.put_h, Act.put_defers']; exact s.mks

/-! ### guards -/
def trGuard (P : Program) (lm : List Nat) (ops : Array Oper) (o : Oper) : Option (Option (A × Bool)) :=
  match o.guard with
  | none => some none
  | some (j, t) => match (ops[j]?).bind (·.dst) with
    | some d => (trA P lm (.tmp d)).map fun a => some (a, t)
    | none => none

theorem wanted_rel {ops : Array Oper} {o : Oper} {g : Option (A × Bool)} (hg : trGuard P lm ops o = some g) {e : A → V} {tmps : Array Value} (hev : ∀ x aa, trA P lm x = some aa → aa ∈ (g.map (·.1)).toList → VR m (e aa) (Act.eval ⟨tmps, []⟩ x))
    {st : St} (he : ∀ aa ∈ (g.map (·.1)).toList, evA st.loc st.tl aa = e aa) {b : Bool} (hw : wantedA st g = some b) : Region.wanted o (yielded ops tmps) = b := by
  unfold trGuard at hg
  unfold Region.wanted
  split at hg
  · rename_i h0
    cases hg
    rw [h0]
    simp only [wantedA, Option.some.injEq] at hw
    exact hw
  · rename_i j t h0
    rw [h0]
    split at hg
    · rename_i d hd
      obtain ⟨aa, ha, rfl⟩ := omap hg
      have h1 := hev _ _ ha (by simp)
      simp only [wantedA, he aa (by simp)] at hw
      simp only [yielded, hd, Option.bind_some]
      simp only [Act.eval, Array.getD_eq_getD_getElem?] at h1
      split at hw
      · rename_i bb hb
        cases hw
        rw [hb] at h1
        simp only [VR] at h1
        cases ht : tmps[d]? with
        | none => rw [ht] at h1; cases h1
        | some cv =>
          rw [ht] at h1
          simp only [Option.getD_some] at h1
          subst h1
          cases bb <;> cases t <;> rfl
      · rename_i hb
        cases hw
        rw [hb] at h1
        simp only [VR] at h1
        obtain ⟨arr, h1, _⟩ := h1
        cases ht : tmps[d]? with
        | none => rfl
        | some cv =>
          rw [ht] at h1
          simp only [Option.getD_some] at h1
          subst h1
          rfl
      · cases hw
    · cases hg

theorem trOpers_cons {ops : Array Oper} {bf : Array Nat} {o : Oper} {r : List Oper} {i : Nat} {al : List AOper} (h : trOpers P lm nt ops bf (o :: r) i = some al) :
    ∃ op g l, trOp P lm o.op = some op ∧ trGuard P lm ops o = some g ∧ trOpers P lm nt ops bf r (i + 1) = some l ∧ o.dst.getD 0 < nt ∧ al = { d := trD lm o.dst, op := op, grd := g, bf := bf.getD i 0 } :: l := by
  simp only [trOpers] at h
  split at h
  · rename_i op g l h1 h2 h3
    split at h
    · rename_i h4
      cases h
      exact ⟨op, g, l, h1, h2, h3, h4, rfl⟩
    · cases h
  · cases h

theorem opsN_sound {CV : CVT} (hCV : CVS P CV) {F : Fence} (hF : WideF F) {cx : Cx} (hcx : cx.rnd = none → F = Fence.wide) {ops : Array Oper} {bf : Array Nat} {m0 : Mp} {h0 : H} {w0 : World} {Q : X → St → Prop} :
    ∀ (l : List Oper) (i : Nat) (al : List AOper) (m : Mp) (st : St) (a : Act) (w : World), trOpers P lm nt ops bf l i = some al → (∀ j o, l[j]? = some o → ops[i + j]? = some o) →
      SR P lm nt n0 m st a w → Ex m0 h0.get h0.next w0 m st.h.get st.h.next w → opsN CV cx al st Q → wpOpsIn F 0 P ops (CPost P lm nt n0 m0 h0 w0 Q) (List.range' i l.length) a w
  | [], i, al, m, st, a, w, ht, _, s, ex, h => by
    cases ht
    exact ⟨.nrm, st, m, h, trivial, s, ex⟩
  | o :: r, i, al, m, st, a, w, ht, hl, s, ex, h => by
    obtain ⟨op, g, l, hop, hg, hr, hd, rfl⟩ := trOpers_cons ht
    have ho : ops[i]? = some o := by simpa using hl 0 o (by simp)
    have hl' : ∀ j o', r[j]? = some o' → ops[(i + 1) + j]? = some o' := fun j o' hj => by
      have := hl (j + 1) o' (by simpa using hj)
      rw [show i + 1 + j = i + (j + 1) by omega]; exact this
    simp only [List.length_cons, List.range'_succ, wpOpsIn, ho]
    simp only [opsN] at h
    have hw : ∀ b, wantedA st g = some b → Region.wanted o (yielded ops a.tmps) = b := fun b hb =>
      wanted_rel (m := m) hg (e := evA st.loc st.tl) (tmps := a.tmps) (fun x aa hx _ => by
        have := s.env x aa hx
        cases x <;> exact this) (fun _ _ => rfl) hb
    cases hb : wantedA st g with
    | none => rw [hb] at h; exact h.elim
    | some b =>
      rw [hb] at h
      rw [hw b hb]
      cases b with
      | false =>
        simp only at h
        simp only [Bool.false_eq_true, if_false]
        refine ⟨fun f _ => hF.fn f, opsN_sound hCV hF hcx r (i + 1) l m _ _ w hr hl' (s.put hd VR.undef) ?_ h⟩
        rw [St.put_h]; exact ex
      | true =>
        simp only at h
        simp only [if_true]
        refine stepOp_sound hCV hF hcx s.sim s.env (fun _ => rfl) (fun _ _ => rfl) s.df s.mks hop h ?_ ?_
        · intro v h' df' m' cv ds' w' hk hv hs' hex hdf hmk
          refine opsN_sound hCV hF hcx r (i + 1) l m' _ _ w' hr hl' ((s.step hs' hex hdf hmk).put hd hv) ?_ hk
          rw [St.put_h]; exact ex.trans hex
        · intro v h' m' cv w' hk hv hs' hex
          exact ⟨.pan v, _, m', hk, ⟨cv, rfl, hv⟩, s.heap hs' hex, ex.trans hex⟩
end
end Go.Abs

namespace Go.Abs
section
variable {P : Program} {lm : List Nat}

def isAllocOp : Op → Bool
  | .alloc _ | .box .. | .buildSlice .. | .makeMap .. | .makeSlice .. => true
  | _ => false

theorem trBuilt_alloc {b : Builtin} {t0 t1 : Option TypeId} {xs : List A} {aop : AOp} (h : trBuilt P b t0 t1 xs = some aop) : isAlloc aop = false := by
  unfold trBuilt at h
  split at h
  · split at h <;> cases h <;> rfl
  · split at h <;> cases h <;> rfl
  · split at h
    · split at h
      · split at h <;> cases h; rfl
      · cases h
    · cases h
  · split at h
    · obtain ⟨n, _, rfl⟩ := omap h; rfl
    · cases h
  · cases h; rfl
  · cases h; rfl
  · split at h
    · obtain ⟨n, _, rfl⟩ := omap h; rfl
    · cases h
  · cases h

theorem trOp_alloc {op : Op} {aop : AOp} (ht : trOp P lm op = some aop) : isAlloc aop = isAllocOp op := by
  cases op <;> simp only [trOp] at ht
  case call c =>
    unfold trCall at ht
    split at ht
    · rename_i f xs hc hxs
      obtain ⟨f', hf, rfl⟩ := omap ht
      rfl
    · exact trBuilt_alloc ht
    · cases ht
  case defer c =>
    unfold trDefer at ht
    split at ht
    · rename_i f xs hc hxs
      obtain ⟨f', hf, rfl⟩ := omap ht
      rfl
    · cases ht
  case panic x =>
    obtain ⟨a, ha, rfl⟩ := omap ht
    rfl
  case next x b =>
    cases b <;> simp only [] at ht
    · obtain ⟨a, ha, rfl⟩ := omap ht
      rfl
    · obtain ⟨a, ha, rfl⟩ := omap ht
      rfl
  case build t ps =>
    obtain ⟨z, _, ht⟩ := obind ht
    unfold trBuild at ht
    split at ht
    · split at ht
      · obtain ⟨l, _, rfl⟩ := omap ht; rfl
      · cases ht
    · split at ht
      · obtain ⟨l, _, rfl⟩ := omap ht; rfl
      · cases ht
    · cases ht
  case buildSlice t n ps =>
    unfold trBSlice at ht
    split at ht
    · split at ht
      · split at ht
        · obtain ⟨l, _, rfl⟩ := omap ht; rfl
        · cases ht
      · cases ht
    · cases ht
  case makeFunc f a b =>
    cases f <;> simp only [reduceCtorEq] at ht
    split at ht
    · split at ht <;> cases ht; rfl
    · cases ht
  case binOp op t x y yt =>
    split at ht
    · have cmp : ∀ {op neg a b}, trCmp P op neg t (isNilC x || isNilC y) a b = some aop → isAlloc aop = false := by
        intro op neg a b ht
        unfold trCmp at ht
        split at ht
        · cases ht; rfl
        · cases ht; rfl
        · cases ht; rfl
        · obtain ⟨l, _, rfl⟩ := omap ht; rfl
        · split at ht <;> cases ht; rfl
        · cases ht; rfl
        · cases ht; rfl
        · cases ht; rfl
        · split at ht <;> cases ht <;> rfl
        · cases ht
      unfold trBin at ht
      split at ht
      · exact cmp ht
      · exact cmp ht
      · cases ht; rfl
    · cases ht
  case convert s d x =>
    obtain ⟨a, _, ht⟩ := obind ht
    unfold trConv at ht
    split at ht
    · cases ht; rfl
    · cases ht; rfl
    · cases ht; rfl
    · split at ht <;> cases ht; rfl
    · split at ht <;> cases ht; rfl
    · cases ht
  case makeSlice t l c =>
    split at ht
    · unfold trMkSlice at ht
      split at ht
      · split at ht
        · split at ht <;> cases ht; rfl
        · cases ht
      · cases ht
    · cases ht
  case slice t x lo hi mx =>
    split at ht
    · unfold trSlice at ht
      split at ht
      · split at ht <;> cases ht; rfl
      · split at ht
        · cases ht
        · obtain ⟨l, _, rfl⟩ := omap ht; rfl
      · split at ht
        · cases ht
        · obtain ⟨l, _, rfl⟩ := omap ht; rfl
      · split at ht
        · split at ht
          · cases ht
          · obtain ⟨l, _, rfl⟩ := omap ht; rfl
        · cases ht
      · cases ht
    · cases ht
  case fieldAddr t x f =>
    obtain ⟨a, _, ht⟩ := obind ht
    unfold trFAddr at ht
    split at ht
    · split at ht
      · split at ht <;> cases ht; rfl
      · cases ht
    · cases ht
  case field t x f =>
    obtain ⟨a, _, ht⟩ := obind ht
    unfold trField at ht
    split at ht
    · split at ht
      · split at ht
        · split at ht <;> cases ht; rfl
        · cases ht
      · cases ht
    · cases ht
  case indexAddr t x i =>
    split at ht
    · unfold trIAddr at ht
      split at ht
      · obtain ⟨l, _, rfl⟩ := omap ht; rfl
      · obtain ⟨l, _, rfl⟩ := omap ht; rfl
      · cases ht
    · cases ht
  case index t x i =>
    split at ht
    · unfold trIndex at ht
      split at ht
      · cases ht; rfl
      · split at ht
        · split at ht <;> cases ht; rfl
        · cases ht
      · cases ht
    · cases ht
  case range t x =>
    obtain ⟨a, _, ht⟩ := obind ht
    unfold trRange at ht
    split at ht <;> cases ht <;> rfl
  case typeAssert x xt t ok =>
    cases ok <;> simp only [reduceCtorEq] at ht
    split at ht
    · cases ht
    · split at ht <;> cases ht; rfl
  all_goals first
    | cases ht
    | (first
       | (obtain ⟨a, _, rfl⟩ := omap ht; rfl)
       | (split at ht <;> cases ht; rfl)
       | (split at ht
          · obtain ⟨a, _, rfl⟩ := omap ht; rfl
          · cases ht)
       | (split at ht
          · cases ht
          · obtain ⟨a, _, rfl⟩ := omap ht; rfl))

variable {m : Mp} {w : World} {e : A → V} {ρ : Operand → Value}

def allocOf (op : AOp) (e : A → V) : Option ((Nat → V) × O) :=
  match op with
  | .alloc z => some (fun b => .ptr b 0, .cells z)
  | .box x => (e x).parts.map fun p => (fun b => .ptr b 0, .cells p)
  | .bslice z sz len ps => if z.length = sz then (fill e (reps z len) ps).map fun c => (fun b => .sl b 0 len (.k len), .cells c) else none
  | .mkMap r => match r with
    | none => some (.map, .map [] 0)
    | some a => match e a with
      | .int _ _ => some (.map, .map [] 0)
      | _ => none
  | .mkSlice z bytes l c => match natOf (e l), natOf (e c) with
    | some n, some m => if n ≤ m ∧ roomOK m bytes = true then some (fun b => .sl b 0 n (.k m), .cells (reps z m)) else none
    | _, _ => none
  | _ => none

theorem allocOf_ev {op : AOp} (ha : isAlloc op = true) {h h' : H} {v : V} (hv : evOp op e h = some (v, h')) : ∃ f o, allocOf op e = some (f, o) ∧ v = f h.next ∧ h' = h.push o := by
  cases op <;> simp only [isAlloc, Bool.false_eq_true] at ha <;> simp only [evOp] at hv
  · cases hv; exact ⟨_, _, rfl, rfl, rfl⟩
  · obtain ⟨p, hp, hv⟩ := omap hv
    cases hv
    exact ⟨fun b => .ptr b 0, _, by simp only [allocOf, hp, Option.map_some], rfl, rfl⟩
  · split at hv
    · rename_i hz
      obtain ⟨c, hc, hv⟩ := omap hv
      cases hv
      exact ⟨fun b => .sl b 0 _ (.k _), _, by simp only [allocOf, hz, if_true, hc, Option.map_some], rfl, rfl⟩
    · cases hv
  · split at hv
    · cases hv; exact ⟨_, _, rfl, rfl, rfl⟩
    · split at hv
      · rename_i hk
        cases hv; exact ⟨_, _, by simp only [allocOf, hk], rfl, rfl⟩
      · cases hv
  · split at hv
    · rename_i n k hn hk
      split at hv
      · rename_i hc
        cases hv
        exact ⟨fun b => .sl b 0 n (.k k), _, by simp only [allocOf, hn, hk, if_pos hc], rfl, rfl⟩
      · cases hv
    · cases hv

def NewAt (P : Program) (m : Mp) (w w1 : World) (x : MB) (o : O) : Prop :=
  ∃ co, w1.heap = w.heap.push co ∧ (w1.tape = w.tape ∧ w1.os = w.os ∧ w1.output = w.output) ∧ x.blk = w.heap.size ∧ OR P m x o co

def AllocS (P : Program) (m : Mp) (w : World) (r : Result Next) (f : Nat → V) (o : O) : Prop :=
  ∃ w1 x cv, r = .ok (.value cv) w1 ∧ NewAt P m w w1 x o ∧ x.sh = 0 ∧ ∀ b m', m' b = some x → VR m' (f b) cv

theorem alloc_row {c : List V} {cc : Array Value} (el : TypeId) (hc : VRs m c cc.toList) :
    ∃ w1, (newRow el cc).run P w = .ok ⟨w.heap.size, 0, none⟩ w1 ∧ NewAt P m w w1 ⟨w.heap.size, 0, c.length⟩ (.cells c) := by
  refine ⟨{ w with heap := w.heap.push (.cells cc el) }, by simp [newRow], .cells cc el, rfl, ⟨rfl, rfl, rfl⟩, rfl, cc, el, (0, 0), rfl, Nat.le_refl _, ?_, (fun i _ => by simp), ?_⟩
  · have := hc.length; simp at this ⊢; omega
  · have := hc.length
    simp only [List.drop_zero]
    rw [this, List.take_length]
    exact hc

theorem alloc_sound (hev : EvR P lm m e ρ) {o : Oper} {aop : AOp} (ht : trOp P lm o.op = some aop) {f : Nat → V} {ob : O} (ha : allocOf aop e = some (f, ob)) :
    AllocS P m w ((execOp ρ o).run P w) f ob := by
  have hal : isAlloc aop = true := by cases aop <;> first | rfl | (simp [allocOf] at ha; done)
  have hao := (trOp_alloc ht).symm.trans hal
  cases ho : o.op <;> rw [ho] at hao <;> simp only [isAllocOp, Bool.false_eq_true] at hao <;> rw [ho] at ht <;> simp only [trOp] at ht
  case alloc t =>
    obtain ⟨z, hz, rfl⟩ := omap ht
    cases ha
    obtain ⟨zv, h1, h2⟩ := run_zeroC hz
    obtain ⟨w1, h3, h4⟩ := alloc_row (P := P) (w := w) t (h2 m)
    refine ⟨w1, _, _, ?_, h4, rfl, fun b m' hb => VR.ptr0 hb rfl⟩
    simp only [execOp, ho, Instr.alloc, Sem.run_bind, h1, Result.andThen_ok, newVar, h3, Sem.run_pure]
  case box t x =>
    obtain ⟨a, hx, rfl⟩ := omap ht
    obtain ⟨p, hp, ha⟩ := omap (show (e a).parts.map _ = _ from ha)
    cases ha
    obtain ⟨w1, h3, h4⟩ := alloc_row (P := P) (w := w) t ((hev x a hx).parts hp)
    refine ⟨w1, _, _, ?_, h4, rfl, fun b m' hb => VR.ptr0 hb rfl⟩
    simp only [execOp, ho, Instr.box, Sem.run_bind, newVar, h3, Result.andThen_ok, Sem.run_pure]
  case buildSlice t len ps =>
    unfold trBSlice at ht
    split at ht
    · rename_i el hu
      split at ht
      · rename_i sz z hs hz
        split at ht
        · rename_i hcond
          obtain ⟨hzl, h0, hbig⟩ := hcond
          obtain ⟨l, hl, rfl⟩ := omap ht
          simp only [allocOf, hzl, if_true] at ha
          obtain ⟨c, hc, ha⟩ := omap ha
          cases ha
          obtain ⟨zv, h1, h2⟩ := run_zeroC hz
          have hsz : zv.cells.size = sz := by have := (h2 m).length; simpa [hzl] using this.symm
          have hzz : VRs m (reps z len) ((Array.range (len * sz)).map fun i => (if len * sz = 0 then #[] else zv.cells)[i % (if len * sz = 0 then (#[] : Array Value) else zv.cells).size]!).toList := by
            have := reps_rel (h2 m) len
            by_cases hn : len * sz = 0
            · have : len = 0 := by rcases Nat.mul_eq_zero.1 hn with k | k <;> omega
              subst this
              simpa [reps] using VRs.nil
            · simp only [if_neg hn]
              rw [Array.toList_map, Array.toList_range]
              rwa [hsz] at this ⊢
          obtain ⟨cc', a1, a2, a3⟩ := fill_sound (pl := fun i => some (i * sz, sz)) hev ps.toList l (reps z len) c _ (fun i o s hp => hp) hl hc hzz
          obtain ⟨w1, h3, h4⟩ := alloc_row (P := P) (w := w) el a2
          refine ⟨w1, _, .slice (some ⟨w.heap.size, 0, none⟩) len len, ?_, h4, rfl, fun b m' hb => ?_⟩
          · simp only [execOp, ho, Instr.buildSlice, Sem.run_bind, Result.andThen_ok, run_under hu, run_sizeOf hs]
            rw [if_neg (by omega)]
            by_cases hn : len * sz = 0
            · simp only [if_pos hn] at a1
              rw [if_pos hn]
              simp only [Sem.run_bind, Sem.run_pure, Result.andThen_ok, Array.toList_map]
              rw [a1]
              simp [h3]
            · simp only [if_neg hn] at a1
              rw [if_neg hn]
              simp only [Sem.run_bind, Sem.run_pure, Result.andThen_ok, h1, Array.toList_map]
              rw [a1]
              simp [h3]
          · simp only [VR]
            exact ⟨_, len, rfl, Nat.le_refl _, fun c hc => by cases hc; rfl, _, hb, .inr ⟨rfl, by simp⟩⟩
        · cases ht
      · cases ht
    · cases ht
  case makeMap t r =>
    split at ht
    · rename_i hm
      obtain ⟨ra, hra, rfl⟩ := omap ht
      unfold isMapT at hm
      split at hm
      · rename_i k el hu
        have fin : f = V.map ∧ ob = .map [] 0 ∧ (∀ a, ra = some a → ∃ k n, e a = .int k n) := by
          simp only [allocOf] at ha
          split at ha
          · cases ha; exact ⟨rfl, rfl, fun a ha => by cases ha⟩
          · split at ha
            · rename_i a k' n hk
              cases ha; exact ⟨rfl, rfl, fun b hb => by cases hb; exact ⟨k', n, hk⟩⟩
            · cases ha
        obtain ⟨rfl, rfl, hok⟩ := fin
        have h3 : (newObj (.map #[] 0)).run P w = .ok w.heap.size { w with heap := w.heap.push (.map #[] 0) } := rfl
        refine ⟨{ w with heap := w.heap.push (.map #[] 0) }, ⟨w.heap.size, 0, 0⟩, .map (some w.heap.size), ?_, ⟨.map #[] 0, rfl, ⟨rfl, rfl, rfl⟩, rfl, #[], rfl, by simp [ERs]⟩, rfl, fun b m' hb => by simp only [VR]; exact ⟨_, hb, rfl⟩⟩
        cases r with
        | none => simp only [execOp, ho, Instr.makeMap, Option.map_none, Sem.run_bind, h3, Result.andThen_ok, Sem.run_pure]
        | some y =>
          simp only [trOpt, Option.map_eq_some_iff] at hra
          obtain ⟨a, ha', rfl⟩ := hra
          obtain ⟨k', n, hkn⟩ := hok a rfl
          have := hev y a ha'
          rw [hkn] at this
          simp only [VR] at this
          simp only [execOp, ho, Instr.makeMap, Option.map_some, Sem.run_bind, run_under hu, Result.andThen_ok, this, asInt, asIntOf, Sem.run_pure, h3]
      · cases hm
    · cases ht
  case makeSlice t lx cx =>
    split at ht
    · rename_i la ca hla hca
      unfold trMkSlice at ht
      split at ht
      · rename_i el hu
        split at ht
        · rename_i z i hz hi
          split at ht
          · rename_i hcond
            obtain ⟨hzl, h0⟩ := hcond
            cases ht
            simp only [allocOf] at ha
            split at ha
            · rename_i n c hn hcn
              split at ha
              · rename_i hle
                obtain ⟨hle, hroom⟩ := hle
                cases ha
                have hl := hev lx la hla
                have hc := hev cx ca hca
                obtain ⟨k1, hl'⟩ := natOf_rel hl hn
                obtain ⟨k2, hc'⟩ := natOf_rel hc hcn
                obtain ⟨zv, hz1, hz2⟩ := run_zeroC hz
                have hsz : szOf P el = some i.size := by simp [szOf, hi]
                have hzs : zv.cells.size = i.size := by have := (hz2 m).length; simpa [hzl] using this.symm
                simp only [roomOK, decide_eq_true_eq] at hroom
                have hcb : c ≤ 2 ^ 46 := by
                  have h1 : 2 * c + 200 ≤ (2 * c + 200) * (i.bytes + 1) := Nat.le_mul_of_pos_right _ (by omega)
                  omega
                have hbc : i.bytes * c ≤ 2 ^ 46 := by
                  have h1 : c * i.bytes ≤ (2 * c + 200) * (i.bytes + 1) := Nat.mul_le_mul (by omega) (by omega)
                  rw [Nat.mul_comm]; omega
                have w1 : IntKind.i64.wrap (n : Int) = n := by simp [IntKind.wrap, IntKind.signed, IntKind.bits]; omega
                have w2 : IntKind.i64.wrap (c : Int) = c := by simp [IntKind.wrap, IntKind.signed, IntKind.bits]; omega
                have hrel : VRs m (reps z c) ((Array.range (c * i.size)).map fun j => (if c * i.size = 0 then (#[] : Array Value) else zv.cells)[j % (if c * i.size = 0 then (#[] : Array Value) else zv.cells).size]!).toList := by
                  by_cases hc0 : c * i.size = 0
                  · have : c = 0 := by rcases Nat.mul_eq_zero.1 hc0 with k | k <;> omega
                    subst this; simpa [reps] using VRs.nil
                  · simp only [if_neg hc0]
                    have := reps_rel (hz2 m) c
                    rw [Array.toList_map, Array.toList_range]
                    rwa [hzs] at this ⊢
                obtain ⟨w', h3, h4⟩ := alloc_row (P := P) (w := w) el hrel
                refine ⟨w', _, .slice (some ⟨w.heap.size, 0, none⟩) n c, ?_, h4, rfl, fun b m' hb => ?_⟩
                · have hb1 : ¬ ((c : Int) < 0) := by omega
                  have hb2 : ¬ ((i.bytes : Int) * (c : Int) > 2 ^ 48) := by
                    have : ((i.bytes * c : Nat) : Int) = (i.bytes : Int) * (c : Int) := by simp
                    omega
                  simp only [execOp, ho, Instr.makeSlice, Sem.run_bind, run_under hu, Result.andThen_ok, hl', hc', asInt, asIntOf, Sem.run_pure, run_typeInfo hi, w1, w2]
                  rw [if_neg (by simp [hb1]; omega)]
                  simp only [Sem.run_bind, run_askRoom, Result.andThen_ok, run_sizeOf hsz, Int.toNat_natCast]
                  by_cases hc0 : c * i.size = 0
                  · simp only [if_pos hc0] at h3
                    rw [if_pos hc0]
                    simp only [Sem.run_bind, Sem.run_pure, Result.andThen_ok, h3]
                  · simp only [if_neg hc0] at h3
                    rw [if_neg hc0]
                    simp only [Sem.run_bind, Sem.run_pure, Result.andThen_ok, hz1, h3]
                · simp only [VR]
                  exact ⟨_, c, rfl, hle, (fun c hc => by cases hc; rfl), _, hb, .inr ⟨rfl, by simp⟩⟩
              · cases ha
            · cases ha
          · cases ht
        · cases ht
      · cases ht
    · cases ht

/-- operations that are neither effects nor reads nor new blocks look at no memory -/
theorem evOp_still {op : AOp} (h1 : isEff op = false) (h2 : isRead op = false) (h3 : isAlloc op = false) (h k : H) : evOp op e k = (evOp op e h).map fun p => (p.1, k) := by
  cases op <;> first
    | (simp only [isEff, Bool.true_eq_false] at h1; done)
    | (simp only [isRead, Bool.true_eq_false] at h2; done)
    | (simp only [isAlloc, Bool.true_eq_false] at h3; done)
    | (simp only [evOp]; (repeat' split) <;> first | rfl | (simp [Function.comp_def]; done))

theorem evOp_pure {op : AOp} (h1 : isEff op = false) (h2 : isRead op = false) (h3 : isAlloc op = false) {h h' : H} {v : V} (hv : evOp op e h = some (v, h')) : h' = h ∧ ∀ k, evOp op e k = some (v, k) := by
  have h4 := evOp_still (e := e) h1 h2 h3 h h
  rw [hv] at h4
  simp only [Option.map_some, Option.some.injEq, Prod.mk.injEq, true_and] at h4
  exact ⟨h4, fun k => by rw [evOp_still h1 h2 h3 h k, hv]; rfl⟩

theorem evOp_read {op : AOp} (h2 : isRead op = true) {h h' : H} {v : V} (hv : evOp op e h = some (v, h')) : h' = h := by
  cases op <;> simp only [isRead, Bool.false_eq_true] at h2
  case load ag n x =>
    simp only [evOp] at hv
    split at hv
    · split at hv
      · obtain ⟨c, _, hv⟩ := omap hv; cases hv; rfl
      · split at hv
        · cases hv; rfl
        · cases hv
    · cases hv
  case lookup d z mm k ok => exact evOp_lookup_same hv
  case len k x =>
    simp only [evOp] at hv
    split at hv
    · obtain ⟨c, _, hv⟩ := omap hv; cases hv; rfl
    · cases hv
  case entry x => exact evOp_entry_same hv
  case cvBytes x =>
    simp only [evOp] at hv
    split at hv
    · cases hv
    · split at hv
      · obtain ⟨c, _, hv⟩ := omap hv; cases hv; rfl
      · cases hv

/-- reads of blocks that are as they were -/
theorem rd_more {h k : H} (hm : ∀ b o, h.get b = some o → o ≠ .dead → k.get b = some o) {b o n : Nat} {c : List V} (hv : h.rd b o n = some c) : k.rd b o n = some c := by
  unfold H.rd at hv ⊢
  split at hv
  · rename_i cc hg
    rw [hm _ _ hg (by nofun)]
    exact hv
  · rename_i cc hg
    rw [hm _ _ hg (by nofun)]
    exact hv
  · cases hv

theorem evOp_more {op : AOp} (h2 : isRead op = true) {h k : H} (hm : ∀ b o, h.get b = some o → o ≠ .dead → k.get b = some o) {v : V} (hv : evOp op e h = some (v, h)) : evOp op e k = some (v, k) := by
  cases op <;> simp only [isRead, Bool.false_eq_true] at h2
  case load ag n x =>
    simp only [evOp] at hv ⊢
    split at hv
    · rename_i b o hx
      split at hv
      · obtain ⟨c, hc, hv⟩ := omap hv
        cases hv
        rename_i hag
        rw [if_pos hag, rd_more hm hc]; rfl
      · rename_i hag
        rw [if_neg hag]
        split at hv
        · rename_i u hu
          cases hv
          rw [rd_more hm hu]
        · cases hv
    · cases hv
  case lookup d z mm kk ok =>
    simp only [evOp] at hv ⊢
    split at hv
    · cases hv
    · rename_i hk
      rw [if_neg hk]
      split at hv
      · rename_i hmm
        cases ok <;> cases hv <;> rfl
      · rename_i b hmm
        split at hv
        · rename_i es cl hg
          simp only [hm _ _ hg (by nofun)]
          split at hv
          · rename_i hf
            cases ok <;> cases hv <;> simp only [] <;> rfl
          · rename_i hf
            cases ok <;> cases hv <;> simp only [] <;> rfl
          · cases hv
        · split at hv
          · rename_i es hum
            have hg := um_some hum
            simp only [hm _ _ hg (by nofun)]
            have hum2 : um (some (O.umap es)) = some es := rfl
            split at hv
            · rename_i hf
              cases ok <;> cases hv <;> simp only [hum2, hf] <;> rfl
            · rename_i hf
              cases ok <;> cases hv <;> simp only [hum2, hf] <;> rfl
            · cases hv
          · cases hv
      · cases hv
  case len kk x =>
    simp only [evOp] at hv ⊢
    split at hv
    · rename_i hk
      rw [if_pos hk]
      obtain ⟨n, hn, hv⟩ := omap hv
      cases hv
      have : lenV k (e x) = some n := by
        unfold lenV at hn ⊢
        split at hn
        · exact hn
        · exact hn
        · exact hn
        · exact hn
        · split at hn
          · rename_i es cl hg
            rw [hm _ _ hg (by nofun)]; exact hn
          · obtain ⟨es, hum, hn⟩ := omap hn
            have hg := um_some hum
            rw [hm _ _ hg (by nofun)]
            simp only [um, Option.map_some, hn]
        · cases hn
      rw [this]; rfl
    · cases hv
  case entry x =>
    simp only [evOp, evEntry] at hv ⊢
    split at hv
    · rename_i b hx
      split at hv
      · rename_i mm since seen st hg
        split at hv
        · rename_i stamp es cl hs hg2
          split at hv
          · cases hv
          · rename_i hc
            split at hv
            · rename_i k' v' n hf
              cases hv
              simp only [hm _ _ hg (by nofun), hs, hm _ _ hg2 (by nofun), if_neg hc, hf]
            · cases hv
        · cases hv
      · cases hv
    · cases hv
  case cvBytes x =>
    simp only [evOp] at hv ⊢
    split at hv
    · cases hv
    · rename_i hns
      rw [if_neg hns]
      split at hv
      · rename_i n c hsrc
        obtain ⟨l, hl, hv⟩ := omap hv
        cases hv
        have : srcOf k 1 (e x) = some (n, c) := by
          unfold srcOf at hsrc ⊢
          split at hsrc
          · exact hsrc
          · obtain ⟨c', hc', hsrc⟩ := omap hsrc
            rw [rd_more hm hc']; cases hsrc; rfl
          · exact hsrc
          · cases hsrc
        rw [this]; simp only [hl]; rfl
      · cases hv
end
end Go.Abs

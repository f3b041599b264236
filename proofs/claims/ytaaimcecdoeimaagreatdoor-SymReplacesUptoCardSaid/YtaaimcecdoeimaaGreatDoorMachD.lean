/-
  Operations: maps and ranges.
-/
import Derived.Test.YtaaimcecdoeimaaGreatDoorMachC
namespace Go.Abs
section
variable {P : Program} {lm : List Nat} {m : Mp} {h : H} {w : World} {e : A → V} {ρ : Operand → Value}

theorem run_getObj {r : Nat} {o : Obj} (hr : w.heap[r]? = some o) (hn : ∀ c t f, o ≠ .cells c t f) : (getObj r).run P w = .ok o w := by
  simp only [getObj, Sem.run, hr]

theorem run_setObj {r : Nat} {o o' : Obj} (hr : w.heap[r]? = some o) (hn : ∀ c t f, o ≠ .cells c t f) : (setObj r o').run P w = .ok () { w with heap := w.heap.setIfInBounds r o' } := by
  simp only [setObj, Sem.run, hr]

/-- an object that is no row of cells is turned -/
theorem sim_setObj (s : Sim P m h.get h.next w) {b : Nat} {x : MB} {o o' : O} {co co' : Obj} (hb : m b = some x) (hg : h.get b = some o) (hl : o ≠ .dead) (hno : ∀ c, o ≠ .rcells c) (hw : w.heap[x.blk]? = some co) (ho : OR P m x o' co') :
    Sim P m (h.set b o').get (h.set b o').next { w with heap := w.heap.setIfInBounds x.blk co' } ∧ Ex m h.get h.next w m (h.set b o').get (h.set b o').next { w with heap := w.heap.setIfInBounds x.blk co' } := by
  have hlt : x.blk < w.heap.size := (Array.getElem?_eq_some_iff.1 hw).1
  have h1 : ({ w with heap := w.heap.setIfInBounds x.blk co' } : World).heap[x.blk]? = some co' := by simp [hlt]
  have h2 : ∀ k, k ≠ x.blk → ({ w with heap := w.heap.setIfInBounds x.blk co' } : World).heap[k]? = w.heap[k]? := by
    intro k hk
    simp [Ne.symm hk]
  rw [get_set_upd]
  exact ⟨s.set hb ⟨o, hg, hl⟩ (by simp) h1 h2 ho, Ex.set s hb ⟨o, hg, hl⟩ (by simp) h2 (fun c e => by rw [hg] at e; cases e; exact hno c rfl) ⟨rfl, rfl, rfl⟩⟩

/-! ### keys -/
theorem okCells_append : ∀ {k1 k2 : List CK} {a1 a2 : List V}, a1.length = k1.length → okCells (k1 ++ k2) (a1 ++ a2) = true → okCells k1 a1 = true ∧ okCells k2 a2 = true
  | [], _, a1, _, ha, h => by have := List.eq_nil_of_length_eq_zero ha; subst this; exact ⟨rfl, h⟩
  | _ :: _, _, [], _, ha, _ => by simp at ha
  | k :: k1, k2, x :: a1, a2, ha, h => by
    simp only [List.cons_append, okCells, Bool.and_eq_true] at h ⊢
    have := okCells_append (k1 := k1) (by simpa using ha) h.2
    exact ⟨⟨h.1, this.1⟩, this.2⟩

theorem okCells_length : ∀ {k : List CK} {a : List V}, okCells k a = true → a.length = k.length
  | [], [], _ => rfl
  | [], _ :: _, h => by simp [okCells] at h
  | _ :: _, [], h => by simp [okCells] at h
  | k :: ks, x :: a, h => by simp only [okCells, Bool.and_eq_true] at h; simp [okCells_length h.2]

theorem run_forM_list {α : Type} (body : α → PUnit → Sem (ForInStep PUnit)) : ∀ (l : List α), (∀ x ∈ l, ∀ u, (body x u).run P w = .ok (.yield ⟨⟩) w) → (forIn l PUnit.unit body : Sem PUnit).run P w = .ok ⟨⟩ w
  | [], _ => by simp
  | x :: l, h => by
    simp only [List.forIn_cons, Sem.run_bind, h x (by simp), Result.andThen_ok]
    exact run_forM_list body l (fun y hy => h y (by simp [hy]))

theorem checkKinds_run (empty : Bool) : ∀ (d : Nat) (t : TypeId) (ks : List CK), kindsT P d t = some ks → ∀ (D : Nat), d ≤ D → ∀ (as : List V) (xs : List Value), VRs m as xs → okCells ks as = true →
    ∃ ag, isAggT P t = some ag ∧ (ag = false → ks.length = 1) ∧ (Instr.checkKey empty D t (valOf ag xs)).run P w = .ok () w := by
  intro d
  induction d with
  | zero => intro t ks hk; simp [kindsT] at hk
  | succ d ih =>
    intro t ks hk D hD as xs ha hok
    obtain ⟨D, rfl⟩ : ∃ k, D = k + 1 := ⟨D - 1, by omega⟩
    have hla := okCells_length hok
    have one : ∀ (k : CK) (u : TypeDesc), ckDesc k u → P.underlying t = some u → isAggT P t = some false → ks = [k] →
        ∃ ag, isAggT P t = some ag ∧ (ag = false → ks.length = 1) ∧ (Instr.checkKey empty (D + 1) t (valOf ag xs)).run P w = .ok () w := by
      intro k u hku hu hag hks
      subst hks
      obtain ⟨v, x, rfl, rfl, h1⟩ := ha.one_of hla
      refine ⟨false, hag, fun _ => rfl, ?_⟩
      rw [Instr.checkKey]
      simp only [Sem.run_bind, run_under hu, Result.andThen_ok, valOf, Bool.false_eq_true, if_false, List.headD_cons]
      cases k <;> simp only [ckDesc] at hku
      · subst hku; rfl
      · obtain ⟨q, rfl⟩ := hku; rfl
      · subst hku; rfl
    simp only [kindsT] at hk
    split at hk
    · rename_i hu; cases hk; exact one .bool _ rfl hu (aggT_of hu) rfl
    · rename_i k hu; cases hk; exact one .int _ ⟨k, rfl⟩ hu (aggT_of hu) rfl
    · rename_i hu; cases hk; exact one .str _ rfl hu (aggT_of hu) rfl
    · rename_i fs hu
      split at hk
      · cases hk
      · refine ⟨true, aggT_of hu, (fun h => by cases h), ?_⟩
        rw [show valOf true xs = .agg xs.toArray from rfl]
        rw [Instr.checkKey]
        simp only [Sem.run_bind, run_under hu, Result.andThen_ok]
        have hxl := ha.length
        have key : ∀ (l : List Field) (at_ : Nat) (k : List CK), kindsF P (kindsT P d) l at_ = some k → at_ + k.length = ks.length → k = ks.drop at_ → okCells k (as.drop at_) = true →
            ∀ f ∈ l, (if f.name ≠ "_" then (do let x ← part f.type xs.toArray f.offset; Instr.checkKey empty D f.type x) else pure () : Sem Unit).run P w = .ok () w := by
          intro l
          induction l with
          | nil => intro _ _ _ _ _ _ f hf; cases hf
          | cons f l ihl =>
            intro at_ k hk hle hkd hok2 g hg
            simp only [kindsF] at hk
            split at hk
            · rename_i hf
              obtain ⟨hoff, hname⟩ := hf
              split at hk
              · rename_i k1 hk1
                split at hk
                · rename_i hsz
                  simp only [Option.map_eq_some_iff] at hk
                  obtain ⟨k2, hk2, rfl⟩ := hk
                  simp only [List.length_append] at hle
                  have ea : as.drop at_ = (as.drop at_).take k1.length ++ as.drop (at_ + k1.length) := by
                    rw [← List.drop_drop, List.take_append_drop]
                  rw [ea] at hok2
                  obtain ⟨o1, o2⟩ := okCells_append (by simp; omega) hok2
                  have hkd2 : k2 = ks.drop (at_ + k1.length) := by
                    rw [← List.drop_drop, ← hkd]; simp
                  rcases List.mem_cons.1 hg with rfl | hg'
                  · obtain ⟨ag, hag, hone, hrun⟩ := ih g.type k1 hk1 D (by omega) _ _ ((ha.drop at_).take k1.length) o1
                    have hp1 := run_part (P := P) (w := w) hag hsz hone (xs := xs) (off := at_) (by omega)
                    rw [if_pos hname]
                    simp only [Sem.run_bind, hoff, hp1, Result.andThen_ok, hrun]
                  · exact ihl (at_ + k1.length) k2 hk2 (by omega) hkd2 o2 g hg'
                · cases hk
              · cases hk
            · cases hk
        have hall := key fs.toList 0 ks hk (by simp) (by simp) (by simpa using hok)
        rw [← Array.forIn_toList]
        rw [run_forM_list (P := P) (w := w) _ fs.toList (fun f hf u => ?_)]
        · rfl
        · have := hall f hf
          split at this
          · rename_i hn
            rw [if_pos hn]
            simp only [Sem.run_bind] at this ⊢
            generalize (part f.type xs.toArray f.offset).run P w = q at this ⊢
            cases q with
            | ok a w1 =>
              simp only [Result.andThen_ok] at this ⊢
              rw [this]; rfl
            | halt x w1 => cases this
          · rename_i hn
            rw [if_neg hn]; rfl
    · cases hk

theorem checkKey_run {kt : TypeId} {d : EqD} (hd : trEqD P kt = some d) {k : V} {key : Value} (hk : VR m k key) (hok : keyOK d k = true) (empty : Bool) : (Instr.checkKey empty 10000 kt key).run P w = .ok () w := by
  unfold trEqD at hd
  have plain : ∀ u, P.underlying kt = some u → (∀ a b, u ≠ .array a b) → (∀ fs, u ≠ .struct fs) → (∀ ms, u ≠ .interface ms) → (Instr.checkKey empty (9999 + 1) kt key).run P w = .ok () w := by
    intro u hu h1 h2 h3
    rw [Instr.checkKey]
    simp only [Sem.run_bind, run_under hu, Result.andThen_ok]
    cases u <;> first | exact absurd rfl (h1 _ _) | exact absurd rfl (h2 _) | exact absurd rfl (h3 _) | rfl
  split at hd
  · rename_i hu; exact plain _ hu (by simp) (by simp) (by simp)
  · rename_i hu; exact plain _ hu (by simp) (by simp) (by simp)
  · rename_i hu; exact plain _ hu (by simp) (by simp) (by simp)
  · rename_i fs hu
    split at hd
    · cases hd
    · simp only [Option.map_eq_some_iff] at hd
      obtain ⟨ks, hks, rfl⟩ := hd
      cases k <;> simp only [keyOK, Bool.false_eq_true] at hok
      rename_i l
      simp only [VR] at hk
      obtain ⟨a, rfl, hl⟩ := hk
      obtain ⟨ag, hag, _, hrun⟩ := checkKinds_run (P := P) (w := w) empty 20 kt ks hks 10000 (by omega) l a.toList hl hok
      rw [aggT_of hu] at hag
      cases hag
      simpa [valOf] using hrun
  · cases hd

/-- what is found, and what is found there -/
def FoundR (m : Mp) : Option (Nat × V × V × Nat) → Option (Nat × Value) → Prop
  | none, r => r = none
  | some (i, _, v, _), r => ∃ cv, r = some (i, cv) ∧ VR m v cv

theorem findNow_run {kt : TypeId} {u : TypeDesc} {ck : CK} (hku : ckDesc ck u) {k : V} {key : Value} (hk : VR m k key) : ∀ {es : List (V × V × Nat)} {ces : List MapEntry} (i : Nat) {r : Option (Nat × V × V × Nat)}, ERs m es ces → findE (.one ck) k es i = some r →
    ∃ cr, Instr.findNow u key ces i = some cr ∧ FoundR m r cr
  | [], ces, i, r, he, hf => by
    simp only [ERs] at he; subst he
    simp only [findE, Option.some.injEq] at hf; subst hf
    exact ⟨none, rfl, rfl⟩
  | (k', v, n) :: es, ces, i, r, he, hf => by
    simp only [ERs] at he
    obtain ⟨x, ces', rfl, ⟨h1, h2, h3⟩, h4⟩ := he
    have hs : ∀ b, eqCell ck k k' = some b → Instr.sameNow u key x.key = some b := by
      intro b hb
      unfold eqCell at hb
      split at hb
      · cases hb; simp only [VR] at hk h1; subst hk; simp only [ckDesc] at hku; subst hku
        rw [h1]; rfl
      · simp only [VR] at hk h1; subst hk; obtain ⟨q, rfl⟩ := hku
        rw [h1]
        split at hb
        · rename_i hkk; cases hb; simp [Instr.sameNow, hkk]
        · cases hb
      · cases hb; simp only [VR] at hk h1
        obtain ⟨sa, rfl, rfl⟩ := hk
        obtain ⟨sb, h1, rfl⟩ := h1
        simp only [ckDesc] at hku; subst hku
        rw [h1]
        simp only [Instr.sameNow, Option.some.injEq]
        rw [beq_toListBytes, ByteArray.toList_eq, ByteArray.toList_eq]
      · cases hb
    simp only [findE, eqD] at hf
    split at hf
    · rename_i hb
      cases hf
      exact ⟨some (i, x.val), by simp [Instr.findNow, hs _ hb], x.val, rfl, h2⟩
    · rename_i hb
      obtain ⟨cr, h5, h6⟩ := findNow_run (kt := kt) hku hk (i + 1) h4 hf
      exact ⟨cr, by simp [Instr.findNow, hs _ hb, h5], h6⟩
    · cases hf

theorem findAsking_run {kt : TypeId} {d : EqD} (hd : trEqD P kt = some d) {k : V} {key : Value} (hk : VR m k key) : ∀ {es : List (V × V × Nat)} {ces : List MapEntry} (i : Nat) {r : Option (Nat × V × V × Nat)}, ERs m es ces → findE d k es i = some r →
    ∃ cr, (Instr.findAsking kt key ces i).run P w = .ok cr w ∧ FoundR m r cr
  | [], ces, i, r, he, hf => by
    simp only [ERs] at he; subst he
    simp only [findE, Option.some.injEq] at hf; subst hf
    exact ⟨none, rfl, rfl⟩
  | (k', v, n) :: es, ces, i, r, he, hf => by
    simp only [ERs] at he
    obtain ⟨x, ces', rfl, ⟨h1, h2, h3⟩, h4⟩ := he
    simp only [findE] at hf
    split at hf
    · rename_i hb
      cases hf
      refine ⟨some (i, x.val), ?_, x.val, rfl, h2⟩
      simp [Instr.findAsking, trEqD_run (P := P) (w := w) hd hk h1 hb]
    · rename_i hb
      obtain ⟨cr, h5, h6⟩ := findAsking_run hd hk (i + 1) h4 hf
      refine ⟨cr, ?_, h6⟩
      simp [Instr.findAsking, trEqD_run (P := P) (w := w) hd hk h1 hb, h5]
    · cases hf

theorem findKey_run {kt : TypeId} {d : EqD} (hd : trEqD P kt = some d) {k : V} {key : Value} (hk : VR m k key) {es : List (V × V × Nat)} {ces : List MapEntry} {r : Option (Nat × V × V × Nat)} (he : ERs m es ces) (hf : findE d k es 0 = some r) :
    ∃ cr, (Instr.findKey kt key ces).run P w = .ok cr w ∧ FoundR m r cr := by
  have hd' := hd
  unfold trEqD at hd
  have one : ∀ u ck, P.underlying kt = some u → ckDesc ck u → d = .one ck → ∃ cr, (Instr.findKey kt key ces).run P w = .ok cr w ∧ FoundR m r cr := by
    intro u ck hu hku hdd
    subst hdd
    obtain ⟨cr, h1, h2⟩ := findNow_run (kt := kt) hku hk 0 he hf
    exact ⟨cr, by simp [Instr.findKey, run_under hu, h1], h2⟩
  split at hd
  · rename_i hu; cases hd; exact one _ .bool hu rfl rfl
  · rename_i q hu; cases hd; exact one _ .int hu ⟨q, rfl⟩ rfl
  · rename_i hu; cases hd; exact one _ .str hu rfl rfl
  · rename_i fs hu
    cases es with
    | nil =>
      simp only [ERs] at he; subst he
      simp only [findE, Option.some.injEq] at hf; subst hf
      exact ⟨none, by simp [Instr.findKey, run_under hu, Instr.findNow], rfl⟩
    | cons e es =>
      obtain ⟨cr, h1, h2⟩ := findAsking_run (P := P) (w := w) hd' hk 0 he hf
      refine ⟨cr, ?_, h2⟩
      simp only [ERs] at he
      obtain ⟨x, ces', rfl, _, _⟩ := he
      simp [Instr.findKey, run_under hu, Instr.findNow, Instr.sameNow, h1]
  · cases hd

theorem findE_get {d : EqD} {k : V} : ∀ {es : List (V × V × Nat)} {i j : Nat} {k' v : V} {n : Nat}, findE d k es i = some (some (j, k', v, n)) → i ≤ j ∧ es[j - i]? = some (k', v, n) ∧ eqD d k k' = some true
  | [], i, j, k', v, n, h => by simp [findE] at h
  | (a, b, c) :: es, i, j, k', v, n, h => by
    simp only [findE] at h
    split at h
    · rename_i hb
      cases h
      exact ⟨Nat.le_refl _, by simp, hb⟩
    · obtain ⟨h1, h2, h3⟩ := findE_get h
      refine ⟨by omega, ?_, h3⟩
      rw [show j - i = (j - (i + 1)) + 1 from by omega]
      simpa using h2
    · cases h

theorem um_some {o : Option O} {es : List (V × V)} (h : um o = some es) : o = some (.umap es) := by
  unfold um at h
  split at h
  · cases h; rfl
  · cases h

theorem findU_all {d : EqD} {k : V} : ∀ {es : List (V × V)}, findU d k es = some none → ∀ e ∈ es, eqD d k e.1 = some false
  | [], _, e, he => by cases he
  | (k', v) :: r, h, e, he => by
    unfold findU at h
    split at h
    · cases h
    · rename_i h1 h2
      cases h
      rcases List.mem_cons.1 he with rfl | he
      · exact h1
      · exact findU_all h2 e he
    · cases h

theorem findU_one {d : EqD} {k v : V} : ∀ {es : List (V × V)}, findU d k es = some (some v) → (∀ e ∈ es, eqD d k e.1 = some false ∨ eqD d k e.1 = some true ∧ e.2 = v) ∧ ∃ e ∈ es, eqD d k e.1 = some true
  | [], h => by cases h
  | (k', v') :: r, h => by
    unfold findU at h
    split at h
    · rename_i h1 h2
      cases h
      refine ⟨fun e he => ?_, _, List.mem_cons_self, h1⟩
      rcases List.mem_cons.1 he with rfl | he
      · exact .inr ⟨h1, rfl⟩
      · exact .inl (findU_all h2 e he)
    · rename_i h1 h2
      cases h
      obtain ⟨a, e, he, hb⟩ := findU_one h2
      refine ⟨fun e he => ?_, e, List.mem_cons_of_mem _ he, hb⟩
      rcases List.mem_cons.1 he with rfl | he
      · exact .inl h1
      · exact a e he
    · cases h

theorem findE_all {d : EqD} {k : V} : ∀ {l : List (V × V × Nat)} {i : Nat}, (∀ e ∈ l, eqD d k e.1 = some false) → findE d k l i = some none
  | [], _, _ => rfl
  | (k', v, n) :: r, i, h => by
    unfold findE
    rw [h _ List.mem_cons_self]
    exact findE_all fun e he => h e (List.mem_cons_of_mem _ he)

theorem findE_one {d : EqD} {k v : V} : ∀ {l : List (V × V × Nat)} {i : Nat}, (∀ e ∈ l, eqD d k e.1 = some false ∨ eqD d k e.1 = some true ∧ e.2.1 = v) → (∃ e ∈ l, eqD d k e.1 = some true) →
    ∃ j k' n, findE d k l i = some (some (j, k', v, n))
  | [], _, _, h => by obtain ⟨e, he, _⟩ := h; cases he
  | (k', v', n) :: r, i, h, hx => by
    unfold findE
    rcases h _ List.mem_cons_self with h1 | ⟨h1, h2⟩
    · rw [h1]
      refine findE_one (fun e he => h e (List.mem_cons_of_mem _ he)) ?_
      obtain ⟨e, he, h3⟩ := hx
      rcases List.mem_cons.1 he with rfl | he
      · rw [h1] at h3; cases h3
      · exact ⟨e, he, h3⟩
    · rw [h1]
      simp only at h2
      subst h2
      exact ⟨_, _, _, rfl⟩

theorem findU_none {d : EqD} {k : V} {es : List (V × V)} {l : List (V × V × Nat)} {i : Nat} (hp : (l.map fun e => (e.1, e.2.1)).Perm es) (h : findU d k es = some none) : findE d k l i = some none :=
  findE_all fun e he => findU_all h (e.1, e.2.1) (hp.mem_iff.1 (List.mem_map.2 ⟨e, he, rfl⟩))

theorem findU_some {d : EqD} {k v : V} {es : List (V × V)} {l : List (V × V × Nat)} {i : Nat} (hp : (l.map fun e => (e.1, e.2.1)).Perm es) (h : findU d k es = some (some v)) : ∃ j k' n, findE d k l i = some (some (j, k', v, n)) := by
  obtain ⟨h1, e, he, h2⟩ := findU_one h
  refine findE_one (fun e he => h1 (e.1, e.2.1) (hp.mem_iff.1 (List.mem_map.2 ⟨e, he, rfl⟩))) ?_
  obtain ⟨e', he', rfl⟩ := List.mem_map.1 (hp.mem_iff.2 he)
  exact ⟨e', he', h2⟩

theorem os_lookup (s : Sim P m h.get h.next w) {o : Oper} {t kt et : TypeId} {mx kx : Operand} {ok : Bool} (ho : o.op = .lookup t mx kx ok) (ht : P.underlying t = some (.map kt et)) {d : EqD} (hd : trEqD P kt = some d) {z : V} (hz : zeroV P et = some z)
    {mv kv : V} (hm : VR m mv (ρ mx)) (hk : VR m kv (ρ kx)) {u : V} (hv : evOp (.lookup d z (.c mv) (.c kv) ok) (evA [] []) h = some (u, h)) : OpS P m h w ((execOp ρ o).run P w) u h := by
  obtain ⟨zv, hz1, hz2⟩ := run_zeroV hz
  simp only [evOp, evA] at hv
  by_cases hok' : keyOK d kv = true
  case neg => simp [hok'] at hv
  case pos =>
    simp only [hok', Bool.not_true, Bool.false_eq_true, if_false] at hv
    have out : ∀ (v : V) (cv : Value) (t' : Bool), VR m v cv → VR m (if ok then .tup [v, .bool t'] else v) (if ok then .tuple #[cv, .bool t'] else cv) := by
      intro v cv t' h1
      cases ok
      · exact h1
      · simp only [if_true, VR]; exact ⟨_, rfl, VRs.cons h1 (VRs.cons (by simp only [VR]) VRs.nil)⟩
    split at hv
    · cases hv
      simp only [VR] at hm
      refine OpS.val s ?_ (out z zv false (hz2 m))
      simp only [execOp, ho, Instr.lookup, Sem.run_bind, run_under ht, Result.andThen_ok, hm, Sem.run_pure]
      rw [checkKey_run (P := P) (w := w) hd hk hok']
      obtain ⟨cr, h1, h2⟩ := findKey_run (P := P) (w := w) hd hk (es := []) (ces := []) (r := none) rfl rfl
      simp only [FoundR] at h2; subst h2
      simp [h1, hz1]
    · rename_i b
      split at hv
      · rename_i es cl hg
        simp only [VR] at hm
        obtain ⟨y, hy, hm⟩ := hm
        obtain ⟨co, h1, ces, rfl, h2⟩ := s.obj b y _ hy hg (by simp)
        have hgo := run_getObj (P := P) h1 (by simp)
        split at hv
        · rename_i i k' v n hf
          cases hv
          obtain ⟨cr, h3, cv, rfl, h4⟩ := findKey_run (P := P) (w := w) hd hk h2 hf
          refine OpS.val s ?_ (out v cv true h4)
          simp only [execOp, ho, Instr.lookup, Sem.run_bind, run_under ht, Result.andThen_ok, hm, Sem.run_pure, hgo]
          rw [checkKey_run (P := P) (w := w) hd hk hok']
          simp [h3]
        · rename_i hf
          cases hv
          obtain ⟨cr, h3, h4⟩ := findKey_run (P := P) (w := w) hd hk h2 hf
          simp only [FoundR] at h4; subst h4
          refine OpS.val s ?_ (out z zv false (hz2 m))
          simp only [execOp, ho, Instr.lookup, Sem.run_bind, run_under ht, Result.andThen_ok, hm, Sem.run_pure, hgo]
          rw [checkKey_run (P := P) (w := w) hd hk hok']
          simp [h3, hz1]
        · cases hv
      · rename_i hno
        split at hv
        · rename_i es hum
          have hg := um_some hum
          simp only [VR] at hm
          obtain ⟨y, hy, hm⟩ := hm
          obtain ⟨co, h1, l, cl, ces, rfl, h2, hp⟩ := s.obj b y _ hy hg (by simp)
          have hgo := run_getObj (P := P) h1 (by simp)
          split at hv
          · rename_i v hf
            cases hv
            obtain ⟨j, k', n, hf⟩ := findU_some (i := 0) hp hf
            obtain ⟨cr, h3, cv, rfl, h4⟩ := findKey_run (P := P) (w := w) hd hk h2 hf
            refine OpS.val s ?_ (out v cv true h4)
            simp only [execOp, ho, Instr.lookup, Sem.run_bind, run_under ht, Result.andThen_ok, hm, Sem.run_pure, hgo]
            rw [checkKey_run (P := P) (w := w) hd hk hok']
            simp [h3]
          · rename_i hf
            cases hv
            obtain ⟨cr, h3, h4⟩ := findKey_run (P := P) (w := w) hd hk h2 (findU_none hp hf)
            simp only [FoundR] at h4; subst h4
            refine OpS.val s ?_ (out z zv false (hz2 m))
            simp only [execOp, ho, Instr.lookup, Sem.run_bind, run_under ht, Result.andThen_ok, hm, Sem.run_pure, hgo]
            rw [checkKey_run (P := P) (w := w) hd hk hok']
            simp [h3, hz1]
          · cases hv
        · cases hv
    · cases hv

end
end Go.Abs

namespace Go.Abs
section
variable {P : Program} {lm : List Nat} {m : Mp} {h : H} {w : World} {e : A → V} {ρ : Operand → Value}

theorem beq_data {a b : ByteArray} (h : (a.data.toList == b.data.toList) = true) : (a == b) = true := by
  rw [beq_toListBytes, ByteArray.toList_eq, ByteArray.toList_eq]; exact h

theorem sameBits_cell {k : CK} {a b : V} {x y : Value} (ha : VR m a x) (hb : VR m b y) (he : eqCell k a b = some true) (n : Nat) : Instr.sameBits n y x = true := by
  unfold eqCell at he
  split at he
  · simp only [VR] at ha hb; subst ha hb; simp only [Option.some.injEq, beq_iff_eq] at he; subst he
    cases n <;> simp [Instr.sameBits]
  · simp only [VR] at ha hb; subst ha hb
    split at he
    · rename_i hk; subst hk; simp only [Option.some.injEq, beq_iff_eq] at he; subst he
      cases n <;> simp [Instr.sameBits]
    · cases he
  · simp only [VR] at ha hb
    obtain ⟨sa, rfl, rfl⟩ := ha
    obtain ⟨sb, rfl, rfl⟩ := hb
    simp only [Option.some.injEq, beq_iff_eq] at he
    have := beq_data (a := sb) (b := sa) (by rw [he]; simp)
    cases n <;> simpa [Instr.sameBits] using this
  · cases he

theorem sameBits_cells : ∀ {ks : List CK} {as bs : List V} {xs ys : List Value}, VRs m as xs → VRs m bs ys → eqCells ks as bs = some true → ∀ n, xs.length = ys.length ∧ ((ys.zip xs).all fun (x, y) => Instr.sameBits n x y) = true
  | [], [], [], xs, ys, ha, hb, _, n => by simp only [VRs] at ha hb; subst ha hb; simp
  | [], _ :: _, _, _, _, _, _, h, _ => by simp [eqCells] at h
  | [], [], _ :: _, _, _, _, _, h, _ => by simp [eqCells] at h
  | _ :: _, [], _, _, _, _, _, h, _ => by simp [eqCells] at h
  | _ :: _, _ :: _, [], _, _, _, _, h, _ => by simp [eqCells] at h
  | k :: ks, a :: as, b :: bs, xs, ys, ha, hb, he, n => by
    simp only [VRs] at ha hb
    obtain ⟨x, xs', rfl, h1, h2⟩ := ha
    obtain ⟨y, ys', rfl, h3, h4⟩ := hb
    simp only [eqCells] at he
    split at he
    · rename_i hc
      obtain ⟨l, r⟩ := sameBits_cells h2 h4 he n
      simp only [List.length_cons, l, List.zip_cons_cons, List.all_cons, sameBits_cell h1 h3 hc n, r, Bool.and_self, and_self]
    · cases he
    · cases he

theorem keyStays {d : EqD} {k k' : V} {new old : Value} (hk : VR m k new) (hk' : VR m k' old) (he : eqD d k k' = some true) : (Instr.keyThatStays old new).run P w = .ok new w := by
  have hs : Instr.sameBits (9999 + 1) old new = true := by
    unfold eqD at he
    split at he
    · exact sameBits_cell hk hk' he _
    · split at he
      · rename_i hl
        simp only [VR] at hk hk'
        obtain ⟨a, rfl, h1⟩ := hk
        obtain ⟨b, rfl, h2⟩ := hk'
        obtain ⟨l, r⟩ := sameBits_cells h1 h2 he 9999
        simp only [Array.length_toList] at l
        simp only [Instr.sameBits, l, beq_self_eq_true, Bool.true_and]
        exact r
      · cases he
    · cases he
  have hs' : Instr.sameBits 10000 old new = true := hs
  simp [Instr.keyThatStays, hs']

theorem ERs.get : ∀ {es : List (V × V × Nat)} {ces : List MapEntry} {i : Nat} {x : V × V × Nat}, ERs m es ces → es[i]? = some x → ∃ c, ces[i]? = some c ∧ ER m x c
  | [], _, i, _, _, h => by simp at h
  | _ :: es, _, 0, _, h, e => by
    simp only [ERs] at h; obtain ⟨c, r, rfl, a, b⟩ := h
    simp at e; subst e; exact ⟨c, by simp, a⟩
  | _ :: es, _, i + 1, _, h, e => by
    simp only [ERs] at h; obtain ⟨c, r, rfl, a, b⟩ := h
    simp at e; simpa using ERs.get b e

theorem ERs.set : ∀ {es : List (V × V × Nat)} {ces : List MapEntry} (i : Nat) {x : V × V × Nat} {c : MapEntry}, ERs m es ces → ER m x c → ERs m (es.set i x) (ces.set i c)
  | [], _, _, _, _, h, _ => by simp only [ERs] at h; subst h; simp [ERs]
  | _ :: es, _, 0, _, _, h, k => by
    simp only [ERs] at h; obtain ⟨y, r, rfl, a, b⟩ := h
    simp only [List.set_cons_zero, ERs]; exact ⟨_, _, rfl, k, b⟩
  | _ :: es, _, i + 1, _, _, h, k => by
    simp only [ERs] at h; obtain ⟨y, r, rfl, a, b⟩ := h
    simp only [List.set_cons_succ, ERs]; exact ⟨_, _, rfl, a, ERs.set i b k⟩

theorem ERs.snoc : ∀ {es : List (V × V × Nat)} {ces : List MapEntry} {x : V × V × Nat} {c : MapEntry}, ERs m es ces → ER m x c → ERs m (es ++ [x]) (ces ++ [c])
  | [], _, _, _, h, k => by simp only [ERs] at h; subst h; simp only [List.nil_append, ERs]; exact ⟨_, _, rfl, k, rfl⟩
  | _ :: es, _, _, _, h, k => by
    simp only [ERs] at h; obtain ⟨y, r, rfl, a, b⟩ := h
    simp only [List.cons_append, ERs]; exact ⟨_, _, rfl, a, ERs.snoc b k⟩

theorem modify_toList {α : Type} (a : Array α) (i : Nat) (f : α → α) {x : α} (hx : a[i]? = some x) : (a.modify i f).toList = a.toList.set i (f x) := by
  obtain ⟨hlt, hxe⟩ := Array.getElem?_eq_some_iff.1 hx
  apply List.ext_getElem?
  intro j
  rw [Array.getElem?_toList, Array.getElem?_modify, List.getElem?_set]
  by_cases hij : i = j
  · subst hij; simp [hlt, hxe]
  · simp [hij]

/-- a map's entries are turned -/
theorem map_set (s : Sim P m h.get h.next w) {b : Nat} {y : MB} {es : List (V × V × Nat)} {cl : Nat} (hy : m b = some y) (hg : h.get b = some (.map es cl)) {ces : Array MapEntry} (hw : w.heap[y.blk]? = some (.map ces cl)) {es2 : List (V × V × Nat)} {ces2 : Array MapEntry} {cl2 : Nat}
    (h2 : ERs m es2 ces2.toList) : (setObj y.blk (.map ces2 cl2)).run P w = .ok () { w with heap := w.heap.setIfInBounds y.blk (.map ces2 cl2) } ∧
      Sim P m (h.set b (.map es2 cl2)).get (h.set b (.map es2 cl2)).next { w with heap := w.heap.setIfInBounds y.blk (.map ces2 cl2) } ∧
      Ex m h.get h.next w m (h.set b (.map es2 cl2)).get (h.set b (.map es2 cl2)).next { w with heap := w.heap.setIfInBounds y.blk (.map ces2 cl2) } := by
  have hor : OR P m y (.map es2 cl2) (.map ces2 cl2) := ⟨ces2, rfl, h2⟩
  obtain ⟨a1, a2⟩ := sim_setObj s (o' := .map es2 cl2) (co' := .map ces2 cl2) hy hg (by simp) (by nofun) hw hor
  exact ⟨run_setObj hw (by simp), a1, a2⟩

theorem mapUpdate_run (s : Sim P m h.get h.next w) {t kt et : TypeId} (ht : P.underlying t = some (.map kt et)) {d : EqD} (hd : trEqD P kt = some d) {mv kv vv : V} {mx kx vx : Value} (hm : VR m mv mx) (hk : VR m kv kx) (hv : VR m vv vx) {u : V} {h' : H}
    (hev : evOp (.mput d (.c mv) (.c kv) (.c vv)) (evA [] []) h = some (u, h')) :
    u = .tup [] ∧ ∃ w', (Instr.mapUpdate t mx kx vx).run P w = .ok () w' ∧ Sim P m h'.get h'.next w' ∧ Ex m h.get h.next w m h'.get h'.next w' := by
  simp only [evOp, evA] at hev
  by_cases hok : keyOK d kv = true
  case neg => simp [hok] at hev
  case pos =>
    simp only [hok, Bool.not_true, Bool.false_eq_true, if_false] at hev
    split at hev
    · rename_i b
      split at hev
      · rename_i es cl hg
        simp only [VR] at hm
        obtain ⟨y, hy, rfl⟩ := hm
        obtain ⟨co, h1, ces, rfl, h2⟩ := s.obj b y _ hy hg (by simp)
        have hgo := run_getObj (P := P) h1 (by simp)
        split at hev
        · rename_i i k' v n hf
          cases hev
          obtain ⟨cr, h3, cv, rfl, h4⟩ := findKey_run (P := P) (w := w) hd hk h2 hf
          obtain ⟨_, g1, g2⟩ := findE_get hf
          obtain ⟨c, c1, c2⟩ := h2.get (by simpa using g1)
          have c1' : ces[i]? = some c := by simpa using c1
          have hst := keyStays (P := P) (w := w) hk c2.1 g2
          have hset : ERs m (es.set i (kv, vv, n)) (ces.modify i fun e => { e with key := kx, val := vx }).toList := by
            rw [modify_toList _ _ _ c1']
            exact h2.set i ⟨hk, hv, c2.2.2⟩
          obtain ⟨r1, r2, r3⟩ := map_set s hy hg h1 (cl2 := cl) hset
          refine ⟨rfl, _, ?_, r2, r3⟩
          simp only [Instr.mapUpdate, Sem.run_bind, run_under ht, Result.andThen_ok, hgo]
          rw [checkKey_run (P := P) (w := w) hd hk hok]
          simp only [Result.andThen_ok, h3, c1', Option.map_some, Option.getD_some, Sem.run_bind, hst]
          exact r1
        · rename_i hf
          cases hev
          obtain ⟨cr, h3, h4⟩ := findKey_run (P := P) (w := w) hd hk h2 hf
          simp only [FoundR] at h4; subst h4
          have hset : ERs m (es ++ [(kv, vv, cl)]) (ces.push { key := kx, val := vx, born := cl }).toList := by
            rw [Array.toList_push]; exact h2.snoc ⟨hk, hv, rfl⟩
          obtain ⟨r1, r2, r3⟩ := map_set s hy hg h1 (cl2 := cl + 1) hset
          refine ⟨rfl, _, ?_, r2, r3⟩
          simp only [Instr.mapUpdate, Sem.run_bind, run_under ht, Result.andThen_ok, hgo]
          rw [checkKey_run (P := P) (w := w) hd hk hok]
          simp only [Result.andThen_ok, h3]
          exact r1
        · cases hev
      · rename_i hno
        split at hev
        · rename_i es hum
          split at hev
          · rename_i hf
            cases hev
            have hg := um_some hum
            simp only [VR] at hm
            obtain ⟨y, hy, rfl⟩ := hm
            obtain ⟨co, h1, l, cl, ces, rfl, h2, hp⟩ := s.obj b y _ hy hg (by simp)
            have hgo := run_getObj (P := P) h1 (by simp)
            obtain ⟨cr, h3, h4⟩ := findKey_run (P := P) (w := w) hd hk h2 (findU_none hp hf)
            simp only [FoundR] at h4; subst h4
            have hor : OR P m y (.umap (es ++ [(kv, vv)])) (.map (ces.push { key := kx, val := vx, born := cl }) (cl + 1)) :=
              ⟨l ++ [(kv, vv, cl)], cl + 1, _, rfl, by rw [Array.toList_push]; exact h2.snoc ⟨hk, hv, rfl⟩, by rw [List.map_append]; exact hp.append (List.Perm.refl _)⟩
            obtain ⟨a1, a2⟩ := sim_setObj s (o' := .umap (es ++ [(kv, vv)])) (co' := .map (ces.push { key := kx, val := vx, born := cl }) (cl + 1)) hy hg (by simp) (by nofun) h1 hor
            have r1 : (setObj y.blk (.map (ces.push { key := kx, val := vx, born := cl }) (cl + 1))).run P w = .ok () _ := run_setObj h1 (by simp)
            refine ⟨rfl, _, ?_, a1, a2⟩
            simp only [Instr.mapUpdate, Sem.run_bind, run_under ht, Result.andThen_ok, hgo]
            rw [checkKey_run (P := P) (w := w) hd hk hok]
            simp only [Result.andThen_ok, h3]
            exact r1
          · cases hev
        · cases hev
    · cases hev

theorem os_mput (s : Sim P m h.get h.next w) {o : Oper} {t kt et : TypeId} {mx kx vx : Operand} (ho : o.op = .mapUpdate t mx kx vx ∨ o.op = .insert t mx kx vx) (ht : P.underlying t = some (.map kt et)) {d : EqD} (hd : trEqD P kt = some d)
    {mv kv vv : V} (hm : VR m mv (ρ mx)) (hk : VR m kv (ρ kx)) (hv : VR m vv (ρ vx)) {u : V} {h' : H} (hev : evOp (.mput d (.c mv) (.c kv) (.c vv)) (evA [] []) h = some (u, h')) : OpS P m h w ((execOp ρ o).run P w) u h' := by
  obtain ⟨rfl, w', h1, h2, h3⟩ := mapUpdate_run s ht hd hm hk hv hev
  refine ⟨w', m, undef, .skip, ?_, .inr ⟨rfl, rfl⟩, VR.undef, h2, h3⟩
  rcases ho with ho | ho <;> simp [execOp, ho, h1]

theorem os_mentry (s : Sim P m h.get h.next w) {o : Oper} {t kt et : TypeId} {mx kx : Operand} (ho : o.op = .mapEntry t mx kx) (ht : P.underlying t = some (.map kt et)) {d : EqD} (hd : trEqD P kt = some d) {z : V} (hz : zeroV P et = some z)
    {mv kv : V} (hm : VR m mv (ρ mx)) (hk : VR m kv (ρ kx)) {u : V} {h' : H} (hev : evOp (.mentry d z (.c mv) (.c kv)) (evA [] []) h = some (u, h')) : OpS P m h w ((execOp ρ o).run P w) u h' := by
  obtain ⟨zv, hz1, hz2⟩ := run_zeroV hz
  have tup2 : ∀ {a b : V} {x y : Value}, VR m a x → VR m b y → VR m (.tup [a, b]) (.tuple #[x, y]) := fun h1 h2 => by
    simp only [VR]; exact ⟨_, rfl, VRs.cons h1 (VRs.cons h2 VRs.nil)⟩
  simp only [evOp, evA] at hev
  by_cases hok : keyOK d kv = true
  case neg => simp [hok] at hev
  case pos =>
    simp only [hok, Bool.not_true, Bool.false_eq_true, if_false] at hev
    split at hev
    · rename_i b
      split at hev
      · rename_i es cl hg
        simp only [VR] at hm
        obtain ⟨y, hy, hm⟩ := hm
        obtain ⟨co, h1, ces, rfl, h2⟩ := s.obj b y _ hy hg (by simp)
        have hgo := run_getObj (P := P) h1 (by simp)
        split at hev
        · rename_i i k' v n hf
          cases hev
          obtain ⟨cr, h3, cv, rfl, h4⟩ := findKey_run (P := P) (w := w) hd hk h2 hf
          obtain ⟨_, g1, g2⟩ := findE_get hf
          obtain ⟨c, c1, c2⟩ := h2.get (by simpa using g1)
          have c1' : ces[i]? = some c := by simpa using c1
          have hst := keyStays (P := P) (w := w) hk c2.1 g2
          have hcv : VR m v c.val := c2.2.1
          have hset : ERs m (es.set i (kv, v, n)) (ces.modify i fun e => { e with key := ρ kx }).toList := by
            rw [modify_toList _ _ _ c1']
            exact h2.set i ⟨hk, hcv, c2.2.2⟩
          obtain ⟨r1, r2, r3⟩ := map_set s hy hg h1 (cl2 := cl) hset
          have hn : n = c.born := c2.2.2
          refine ⟨_, m, .tuple #[cv, goInt c.born], _, ?_, .inl rfl, tup2 h4 (by simp only [VR, goInt, hn]), r2, r3⟩
          simp only [execOp, ho, Instr.mapEntry, Sem.run_bind, run_under ht, Result.andThen_ok, hm, hgo]
          rw [checkKey_run (P := P) (w := w) hd hk hok]
          simp only [Result.andThen_ok, h3, c1', Option.map_some, Option.getD_some, Sem.run_bind, hst, r1, Sem.run_pure]
        · rename_i hf
          cases hev
          obtain ⟨cr, h3, h4⟩ := findKey_run (P := P) (w := w) hd hk h2 hf
          simp only [FoundR] at h4; subst h4
          have hset : ERs m (es ++ [(kv, z, cl)]) (ces.push { key := ρ kx, val := zv, born := cl }).toList := by
            rw [Array.toList_push]; exact h2.snoc ⟨hk, hz2 m, rfl⟩
          obtain ⟨r1, r2, r3⟩ := map_set s hy hg h1 (cl2 := cl + 1) hset
          refine ⟨_, m, .tuple #[zv, goInt cl], _, ?_, .inl rfl, tup2 (hz2 m) (by simp only [VR, goInt]), r2, r3⟩
          simp only [execOp, ho, Instr.mapEntry, Sem.run_bind, run_under ht, Result.andThen_ok, hm, hgo]
          rw [checkKey_run (P := P) (w := w) hd hk hok]
          simp only [Result.andThen_ok, h3, hz1, Sem.run_bind, r1, Sem.run_pure]
        · cases hev
      · cases hev
    · cases hev

theorem findIdx_rel {n : Int} : ∀ {es : List (V × V × Nat)} {ces : List MapEntry}, ERs m es ces → es.findIdx? (fun x => (x.2.2 : Int) == n) = ces.findIdx? (fun e => (e.born : Int) == n)
  | [], _, h => by simp only [ERs] at h; subst h; rfl
  | x :: es, _, h => by
    simp only [ERs] at h
    obtain ⟨c, r, rfl, a, b⟩ := h
    rw [List.findIdx?_cons, List.findIdx?_cons, findIdx_rel b, a.2.2]

theorem os_mestore (s : Sim P m h.get h.next w) {o : Oper} {t : TypeId} {mx sx vx : Operand} (ho : o.op = .entryStore t mx sx vx) {mv sv vv : V} (hm : VR m mv (ρ mx)) (hs : VR m sv (ρ sx)) (hv : VR m vv (ρ vx)) {u : V} {h' : H}
    (hev : evOp (.mestore (.c mv) (.c sv) (.c vv)) (evA [] []) h = some (u, h')) : OpS P m h w ((execOp ρ o).run P w) u h' := by
  simp only [evOp, evA] at hev
  revert hm hs
  split at hev <;> intro hm hs
  · rename_i b k n
    split at hev
    · rename_i es cl hg
      split at hev
      · rename_i i hi
        split at hev
        · rename_i k' v' n' hes
          cases hev
          simp only [VR] at hm hs
          obtain ⟨y, hy, hm⟩ := hm
          obtain ⟨co, h1, ces, rfl, h2⟩ := s.obj b y _ hy hg (by simp)
          have hgo := run_getObj (P := P) h1 (by simp)
          obtain ⟨c, c1, c2⟩ := h2.get hes
          have c1' : ces[i]? = some c := by simpa using c1
          have hset : ERs m (es.set i (k', vv, n')) (ces.modify i fun e => { e with val := ρ vx }).toList := by
            rw [modify_toList _ _ _ c1']
            exact h2.set i ⟨c2.1, hv, c2.2.2⟩
          obtain ⟨r1, r2, r3⟩ := map_set s hy hg h1 (cl2 := cl) hset
          refine ⟨_, m, undef, .skip, ?_, .inr ⟨rfl, rfl⟩, VR.undef, r2, r3⟩
          have hfi : ces.findIdx? (fun e => (e.born : Int) == n) = some i := by
            rw [show ces = ces.toList.toArray from rfl, List.findIdx?_toArray, ← findIdx_rel h2]; exact hi
          simp only [execOp, ho, Instr.entryStore, Sem.run_bind, Result.andThen_ok, hm, hs, asInt, asIntOf, Sem.run_pure, hgo, hfi, r1]
        · cases hev
      · cases hev
    · cases hev
  · cases hev

/-! ### ranges -/
theorem os_rngStr (s : Sim P m h.get h.next w) {o : Oper} {t : TypeId} {x : Operand} (ho : o.op = .range t x) (ht : P.underlying t = some .string) {l : List UInt8} (hx : VR m (.str l) (ρ x)) :
    OpS P m h w ((execOp ρ o).run P w) (.ptr h.next 0) (h.push (.siter l 0)) := by
  simp only [VR] at hx
  obtain ⟨b, hx, rfl⟩ := hx
  obtain ⟨w', m', h3, h4, h5, h6⟩ := sim_newObj s (ob := .siter b.data.toList 0) (co := .stringIter b 0) (fun m' _ => ⟨rfl, b, rfl, rfl⟩)
  refine ⟨w', m', .pointer (some ⟨w.heap.size, 0, none⟩), _, ?_, .inl rfl, VR.ptr0 h4 rfl, h5, h6⟩
  simp only [execOp, ho, Instr.range, Sem.run_bind, run_under ht, Result.andThen_ok, hx, Sem.run_pure, h3]

theorem os_rngMap (s : Sim P m h.get h.next w) {o : Oper} {t k el : TypeId} {x : Operand} (ho : o.op = .range t x) (ht : P.underlying t = some (.map k el)) {v : V} (hx : VR m v (ρ x)) {u : V} {h' : H} (hev : evOp (.rngMap (.c v)) (evA [] []) h = some (u, h')) :
    OpS P m h w ((execOp ρ o).run P w) u h' := by
  simp only [evOp, evA] at hev
  split at hev
  · cases hev
    simp only [VR] at hx
    obtain ⟨w', m', h3, h4, h5, h6⟩ := sim_newObj s (ob := .miter none 0 [] 0) (co := .mapIter none 0 #[] 0) (fun m' _ => ⟨rfl, none, rfl, rfl⟩)
    refine ⟨w', m', .pointer (some ⟨w.heap.size, 0, none⟩), _, ?_, .inl rfl, VR.ptr0 h4 rfl, h5, h6⟩
    simp only [execOp, ho, Instr.range, Sem.run_bind, run_under ht, Result.andThen_ok, hx, Sem.run_pure, h3]
  · rename_i b
    split at hev
    · rename_i es cl hg
      cases hev
      simp only [VR] at hx
      obtain ⟨y, hy, hx⟩ := hx
      obtain ⟨co, h1, ces, rfl, h2⟩ := s.obj b y _ hy hg (by simp)
      have hgo := run_getObj (P := P) h1 (by simp)
      obtain ⟨w', m', h3, h4, h5, h6⟩ := sim_newObj s (ob := .miter (some b) cl [] cl) (co := .mapIter (some y.blk) cl #[] cl) (fun m' hm' => ⟨rfl, some y.blk, rfl, y, hm' _ _ hy, rfl⟩)
      refine ⟨w', m', .pointer (some ⟨w.heap.size, 0, none⟩), _, ?_, .inl rfl, VR.ptr0 h4 rfl, h5, h6⟩
      simp only [execOp, ho, Instr.range, Sem.run_bind, run_under ht, Result.andThen_ok, hx, Sem.run_pure, hgo, h3]
    · cases hev
  · cases hev

theorem os_nextStr (s : Sim P m h.get h.next w) {o : Oper} {x : Operand} (ho : o.op = .next x true) {v : V} (hx : VR m v (ρ x)) {u : V} {h' : H} (hev : evOp (.nextStr (.c v)) (evA [] []) h = some (u, h')) :
    OpS P m h w ((execOp ρ o).run P w) u h' := by
  simp only [evOp, evA] at hev
  split at hev
  · rename_i b
    split at hev
    · rename_i l p hg
      obtain ⟨y, hy, hx⟩ := hx.ptr
      obtain ⟨co, h1, hsh, bs, rfl, h2⟩ := s.obj b y _ hy hg (by nofun)
      have hgo := run_getObj (P := P) h1 (by simp)
      have hbs : bs = ⟨l.toArray⟩ := by
        obtain ⟨a⟩ := bs
        congr 1
        apply Array.ext'
        simpa using h2
      have hbl : bs.size = l.length := by rw [hbs]; simp [ByteArray.size]
      split at hev
      · rename_i hlt
        cases hev
        have hor : OR P m y (.siter l (p + (Utf8.decode ⟨l.toArray⟩ p).2)) (.stringIter bs (p + (Utf8.decode bs p).2)) := ⟨hsh, bs, by rw [← hbs], h2⟩
        obtain ⟨a1, a2⟩ := sim_setObj s hy hg (by simp) (by nofun) h1 hor
        refine ⟨_, m, .tuple #[.bool true, goInt p, .int .i32 (Utf8.decode bs p).1], _, ?_, .inl rfl, ?_, a1, a2⟩
        · simp only [execOp, ho, Instr.next, Sem.run_bind, Result.andThen_ok, hx, hsh, Nat.zero_add, hgo]
          rw [if_pos (by omega)]
          simp only [Sem.run_bind, run_setObj h1 (by simp), Result.andThen_ok, Sem.run_pure]
        · simp only [VR]
          refine ⟨_, rfl, VRs.cons (by simp only [VR]) (VRs.cons (by simp only [VR, goInt]) (VRs.cons (by simp only [VR]; rw [hbs]) VRs.nil))⟩
      · rename_i hge
        cases hev
        refine OpS.val s (cv := .tuple #[.bool false]) ?_ (by simp only [VR]; exact ⟨_, rfl, VRs.cons (by simp only [VR]) VRs.nil⟩)
        simp only [execOp, ho, Instr.next, Sem.run_bind, Result.andThen_ok, hx, hsh, Nat.zero_add, hgo]
        rw [if_neg (by omega)]
        rfl
    · cases hev
  · cases hev

theorem find_rel {n : Nat} : ∀ {es : List (V × V × Nat)} {ces : List MapEntry} {x : V × V × Nat}, ERs m es ces → es.find? (fun x => x.2.2 == n) = some x → ∃ c, ces.find? (fun e => e.born == n) = some c ∧ ER m x c
  | [], _, _, h, e => by simp at e
  | y :: es, _, x, h, e => by
    simp only [ERs] at h
    obtain ⟨c, r, rfl, a, b⟩ := h
    rw [List.find?_cons] at e ⊢
    rw [← a.2.2]
    cases hy : (y.2.2 == n) with
    | true => rw [hy] at e; cases e; exact ⟨c, rfl, a⟩
    | false => rw [hy] at e; exact find_rel b e

theorem os_entry (s : Sim P m h.get h.next w) {o : Oper} {x : Operand} (ho : o.op = .entry x) {v : V} (hx : VR m v (ρ x)) {u : V} (hev : evOp (.entry (.c v)) (evA [] []) h = some (u, h)) : OpS P m h w ((execOp ρ o).run P w) u h := by
  simp only [evOp, evEntry, evA] at hev
  split at hev
  · rename_i b
    split at hev
    · rename_i mm since seen st hg
      split at hev
      · rename_i stamp es cl hl hg2
        split at hev
        · cases hev
        · rename_i hcl
          split at hev
          · rename_i k v' n hf
            cases hev
            obtain ⟨y, hy, hx⟩ := hx.ptr
            obtain ⟨co, h1, hsh, mm', rfl, z, hz, rfl⟩ := s.obj b y _ hy hg (by nofun)
            have hgo := run_getObj (P := P) h1 (by simp)
            obtain ⟨co2, h3, ces, rfl, h4⟩ := s.obj mm z _ hz hg2 (by nofun)
            have hgo2 := run_getObj (P := P) h3 (by simp)
            obtain ⟨c, c1, c2⟩ := find_rel h4 hf
            refine OpS.val s (cv := .tuple #[c.key, c.val]) ?_ (by simp only [VR]; exact ⟨_, rfl, VRs.cons c2.1 (VRs.cons c2.2.1 VRs.nil)⟩)
            have hb : seen.toArray.back? = some stamp := by simpa [Array.back?, List.getLast?_eq_getElem?] using hl
            have hfa : ces.find? (fun e => e.born == stamp) = some c := by rw [← Array.find?_toList]; exact c1
            have hcl' : (cl != st) = false := by simpa using hcl
            simp only [execOp, ho, Instr.entry, Sem.run_bind, Result.andThen_ok, hx, hsh, Nat.zero_add, hgo, hb, hgo2, hcl', Bool.false_eq_true, if_false, hfa, Sem.run_pure]
          · cases hev
      · cases hev
    · cases hev
  · cases hev

end
end Go.Abs

namespace Go.Abs
section
variable {P : Program} {lm : List Nat} {m : Mp} {h : H} {w : World} {e : A → V} {ρ : Operand → Value}
  {o : Oper} {aop : AOp} {v : V} {h' : H}

theorem omap {α β : Type} {f : α → β} {x : Option α} {b : β} (h : x.map f = some b) : ∃ a, x = some a ∧ f a = b := by
  cases x with
  | none => cases h
  | some a => exact ⟨a, rfl, by simpa using h⟩

theorem obind {α β : Type} {f : α → Option β} {x : Option α} {b : β} (h : x.bind f = some b) : ∃ a, x = some a ∧ f a = some b := by
  cases x with
  | none => cases h
  | some a => exact ⟨a, rfl, h⟩

theorem ea_move (s : Sim P m h.get h.next w) (hev : EvR P lm m e ρ) {x : Operand} (ho : o.op = .move x) (ht : trOp P lm o.op = some aop) (hv : evOp aop e h = some (v, h')) : OpS P m h w ((execOp ρ o).run P w) v h' := by
  rw [ho] at ht
  simp only [trOp] at ht
  obtain ⟨a, ha, rfl⟩ := omap ht
  cases hv
  exact OpS.val s (by simp [execOp, ho]) (hev x a ha)

theorem ea_assign (s : Sim P m h.get h.next w) (hev : EvR P lm m e ρ) {x : Operand} (ho : o.op = .assign x) (ht : trOp P lm o.op = some aop) (hv : evOp aop e h = some (v, h')) : OpS P m h w ((execOp ρ o).run P w) v h' := by
  rw [ho] at ht
  simp only [trOp] at ht
  obtain ⟨a, ha, rfl⟩ := omap ht
  cases hv
  exact OpS.val s (by simp [execOp, ho]) (hev x a ha)

theorem ea_pick (s : Sim P m h.get h.next w) (hev : EvR P lm m e ρ) {c x y : Operand} (ho : o.op = .pick c x y) (ht : trOp P lm o.op = some aop) (hv : evOp aop e h = some (v, h')) : OpS P m h w ((execOp ρ o).run P w) v h' := by
  rw [ho] at ht
  simp only [trOp] at ht
  split at ht
  · rename_i d a b hd ha hb
    cases ht
    simp only [evOp] at hv
    have h1 := hev c d hd
    split at hv
    · rename_i t hc
      cases hv
      rw [hc] at h1
      simp only [VR] at h1
      refine OpS.val s (cv := if t then ρ x else ρ y) (by cases t <;> simp [execOp, ho, h1, asBool]) ?_
      cases t
      · exact hev y b hb
      · exact hev x a ha
    · cases hv
  · cases ht

theorem ea_alloc (s : Sim P m h.get h.next w) (_hev : EvR P lm m e ρ) {t : TypeId} (ho : o.op = .alloc t) (ht : trOp P lm o.op = some aop) (hv : evOp aop e h = some (v, h')) : OpS P m h w ((execOp ρ o).run P w) v h' := by
  rw [ho] at ht
  simp only [trOp] at ht
  obtain ⟨z, hz, rfl⟩ := omap ht
  cases hv
  exact os_alloc s ho hz

theorem ea_box (s : Sim P m h.get h.next w) (hev : EvR P lm m e ρ) {t : TypeId} {x : Operand} (ho : o.op = .box t x) (ht : trOp P lm o.op = some aop) (hv : evOp aop e h = some (v, h')) : OpS P m h w ((execOp ρ o).run P w) v h' := by
  rw [ho] at ht
  simp only [trOp] at ht
  obtain ⟨a, ha, rfl⟩ := omap ht
  obtain ⟨p, hp, hv⟩ := omap (show (e a).parts.map _ = _ from hv)
  cases hv
  exact os_box s ho (hev x a ha) hp

theorem ea_build (s : Sim P m h.get h.next w) (hev : EvR P lm m e ρ) {t : TypeId} {ps : Array (Nat × Operand)} (ho : o.op = .build t ps) (ht : trOp P lm o.op = some aop) (hv : evOp aop e h = some (v, h')) : OpS P m h w ((execOp ρ o).run P w) v h' := by
  rw [ho] at ht
  simp only [trOp] at ht
  obtain ⟨z, hz, ht⟩ := obind ht
  unfold trBuild at ht
  split at ht
  · rename_i fs hu
    split at ht
    · rename_i hall
      obtain ⟨l, hl, rfl⟩ := omap ht
      obtain ⟨c, hc, hv⟩ := omap (show (fill _ _ _).map _ = _ from hv)
      cases hv
      exact os_build s hev ho hz hu hall hl hc
    · cases ht
  · rename_i n el hu
    split at ht
    · rename_i sz hsz
      obtain ⟨l, hl, rfl⟩ := omap ht
      obtain ⟨c, hc, hv⟩ := omap (show (fill _ _ _).map _ = _ from hv)
      cases hv
      exact os_build_arr s hev ho hz hu hsz hl hc
    · cases ht
  · cases ht

theorem ea_buildSlice (s : Sim P m h.get h.next w) (hev : EvR P lm m e ρ) {t : TypeId} {n : Nat} {ps : Array (Nat × Operand)} (ho : o.op = .buildSlice t n ps) (ht : trOp P lm o.op = some aop) (hv : evOp aop e h = some (v, h')) : OpS P m h w ((execOp ρ o).run P w) v h' := by
  rw [ho] at ht
  simp only [trOp] at ht
  unfold trBSlice at ht
  split at ht
  · rename_i el hu
    split at ht
    · rename_i sz z hsz hz
      split at ht
      · rename_i hc
        obtain ⟨l, hl, rfl⟩ := omap ht
        simp only [evOp, hc.1, if_true] at hv
        obtain ⟨c, hcc, hv⟩ := omap hv
        cases hv
        exact os_bslice s hev ho hz hu hsz hc.2.1 hc.2.2 hc.1 hl hcc
      · cases ht
    · cases ht
  · cases ht

theorem ea_load (s : Sim P m h.get h.next w) (hev : EvR P lm m e ρ) {t : TypeId} {x : Operand} (ho : o.op = .load t x) (ht : trOp P lm o.op = some aop) (hv : evOp aop e h = some (v, h')) : OpS P m h w ((execOp ρ o).run P w) v h' := by
  rw [ho] at ht
  simp only [trOp] at ht
  split at ht
  · rename_i ag n a hag hn ha
    cases ht
    simp only [evOp] at hv
    have h1 := hev x a ha
    split at hv
    · rename_i b f hb
      rw [hb] at h1
      cases ag
      · simp only [Bool.false_eq_true, if_false] at hv
        split at hv
        · rename_i v' hr
          cases hv
          exact os_load_one s ho hag h1 hr
        · cases hv
      · simp only [if_true] at hv
        obtain ⟨c, hc, hv⟩ := omap hv
        cases hv
        exact os_load_agg s ho hag hn h1 hc
    · cases hv
  · cases ht

theorem ea_store (s : Sim P m h.get h.next w) (hev : EvR P lm m e ρ) {t : TypeId} {x y : Operand} (ho : o.op = .store t x y) (ht : trOp P lm o.op = some aop) (hv : evOp aop e h = some (v, h')) : OpS P m h w ((execOp ρ o).run P w) v h' := by
  rw [ho] at ht
  simp only [trOp] at ht
  split at ht
  · rename_i n a b hn ha hb
    cases ht
    simp only [evOp] at hv
    have h1 := hev x a ha
    have h2 := hev y b hb
    split at hv
    · rename_i bk f c hbk hc
      rw [hbk] at h1
      split at hv
      · rename_i hcond
        obtain ⟨h3, hwr, hv⟩ := omap hv
        cases hv
        exact os_store s ho hn h1 h2 hc hcond.1 hcond.2 hwr
      · cases hv
    · cases hv
  · cases ht

theorem ea_nilCheck (s : Sim P m h.get h.next w) (hev : EvR P lm m e ρ) {x : Operand} (ho : o.op = .nilCheck x) (ht : trOp P lm o.op = some aop) (hv : evOp aop e h = some (v, h')) : OpS P m h w ((execOp ρ o).run P w) v h' := by
  rw [ho] at ht
  simp only [trOp] at ht
  obtain ⟨a, ha, rfl⟩ := omap ht
  simp only [evOp] at hv
  split at hv
  · rename_i hk
    cases hv
    exact os_nilck s ho (hev x a ha) hk
  · cases hv

theorem trCmp_sound (s : Sim P m h.get h.next w) {op : BinOp} (hop : op = .eql ∨ op = .neq) {t yt : TypeId} {x y : Operand} (ho : o.op = .binOp op t x y yt) {a b : A} (h1 : VR m (e a) (ρ x)) (h2 : VR m (e b) (ρ y))
    (ht : trCmp P op (op == .neq) t (isNilC x || isNilC y) a b = some aop) (hv : evOp aop e h = some (v, h')) : OpS P m h w ((execOp ρ o).run P w) v h' := by
  unfold trCmp at ht
  split at ht
  · cases ht
    obtain ⟨u, hu, hv⟩ := omap (show (binV _ _ _).map _ = _ from hv)
    cases hv
    exact os_bin s ho h1 h2 hu
  · cases ht
    obtain ⟨u, hu, hv⟩ := omap (show (binV _ _ _).map _ = _ from hv)
    cases hv
    exact os_bin s ho h1 h2 hu
  · rename_i hu
    cases ht
    obtain ⟨r, hr, hv⟩ := omap (show (eqD _ _ _).map _ = _ from hv)
    cases hv
    exact os_eq s hop ho (d := .one .bool) (by simp [trEqD, hu]) (by simp) h1 h2 hr
  · rename_i fs hu
    obtain ⟨d, hd, rfl⟩ := omap ht
    obtain ⟨r, hr, hv⟩ := omap (show (eqD _ _ _).map _ = _ from hv)
    cases hv
    refine os_eq s hop ho hd ?_ h1 h2 hr
    unfold trEqD at hd
    rw [hu] at hd
    simp only [] at hd
    split at hd
    · cases hd
    · obtain ⟨ks, _, rfl⟩ := omap hd
      simp
  · rename_i el hu
    split at ht
    · cases ht
    · rename_i hz
      cases ht
      obtain ⟨r, hr, hv⟩ := omap (show (eqNil _ _ _).map _ = _ from hv)
      cases hv
      exact os_eqnil s hop ho hu (k := .ptr) ⟨el, rfl, hz⟩ (by simp) h1 h2 hr
  · rename_i el hu
    cases ht
    obtain ⟨r, hr, hv⟩ := omap (show (eqNil _ _ _).map _ = _ from hv)
    cases hv
    exact os_eqnil s hop ho hu (k := .sl) ⟨el, rfl⟩ (by simp) h1 h2 hr
  · rename_i k el hu
    cases ht
    obtain ⟨r, hr, hv⟩ := omap (show (eqNil _ _ _).map _ = _ from hv)
    cases hv
    exact os_eqnil s hop ho hu (k := .map) ⟨k, el, rfl⟩ (by simp) h1 h2 hr
  · rename_i p q r' hu
    cases ht
    obtain ⟨r, hr, hv⟩ := omap (show (eqNil _ _ _).map _ = _ from hv)
    cases hv
    exact os_eqnil s hop ho hu (k := .fn) ⟨p, q, r', rfl⟩ (by simp) h1 h2 hr
  · rename_i ms hu
    split at ht
    · rename_i hc
      cases ht
      obtain ⟨r, hr, hv⟩ := omap (show (eqNil _ _ _).map _ = _ from hv)
      cases hv
      exact os_eqnil s hop ho hu (k := .ifc) ⟨ms, rfl⟩ (fun _ => hc) h1 h2 hr
    · cases ht
      obtain ⟨r, hr, hv⟩ := omap (show (eqIface _ _ _).map _ = _ from hv)
      cases hv
      exact os_eqI s hop ho hu h1 h2 hr
  · cases ht

theorem ea_binOp (s : Sim P m h.get h.next w) (hev : EvR P lm m e ρ) {op : BinOp} {t yt : TypeId} {x y : Operand} (ho : o.op = .binOp op t x y yt) (ht : trOp P lm o.op = some aop) (hv : evOp aop e h = some (v, h')) : OpS P m h w ((execOp ρ o).run P w) v h' := by
  rw [ho] at ht
  simp only [trOp] at ht
  split at ht
  · rename_i a b ha hb
    have h1 := hev x a ha
    have h2 := hev y b hb
    unfold trBin at ht
    split at ht
    · exact trCmp_sound s (.inl rfl) ho h1 h2 ht hv
    · exact trCmp_sound s (.inr rfl) ho h1 h2 ht hv
    · cases ht
      obtain ⟨u, hu, hv⟩ := omap (show (binV _ _ _).map _ = _ from hv)
      cases hv
      exact os_bin s ho h1 h2 hu
  · cases ht

theorem ea_unOp (s : Sim P m h.get h.next w) (hev : EvR P lm m e ρ) {op : UnOp} {t : TypeId} {x : Operand} (ho : o.op = .unOp op t x) (ht : trOp P lm o.op = some aop) (hv : evOp aop e h = some (v, h')) : OpS P m h w ((execOp ρ o).run P w) v h' := by
  rw [ho] at ht
  simp only [trOp] at ht
  obtain ⟨a, ha, rfl⟩ := omap ht
  obtain ⟨u, hu, hv⟩ := omap (show (unV _ _).map _ = _ from hv)
  cases hv
  exact os_un s ho (hev x a ha) hu

theorem ea_convert (s : Sim P m h.get h.next w) (hev : EvR P lm m e ρ) {sr d : TypeId} {x : Operand} (ho : o.op = .convert sr d x) (ht : trOp P lm o.op = some aop) (hv : evOp aop e h = some (v, h')) : OpS P m h w ((execOp ρ o).run P w) v h' := by
  rw [ho] at ht
  simp only [trOp] at ht
  obtain ⟨a, ha, ht⟩ := obind ht
  have h1 := hev x a ha
  unfold trConv at ht
  split at ht
  · rename_i k0 k hs hd
    cases ht
    simp only [evOp] at hv
    split at hv
    · rename_i k' n hx
      rw [hx] at h1
      cases hv
      exact os_cvInt s ho hs hd h1
    · cases hv
  · rename_i k0 hs hd
    cases ht
    simp only [evOp] at hv
    split at hv
    · rename_i k' n hx
      rw [hx] at h1
      cases hv
      exact os_cvIntStr s ho hs hd h1
    · cases hv
  · rename_i hs hd
    cases ht
    simp only [evOp] at hv
    split at hv
    · rename_i l hx
      rw [hx] at h1
      cases hv
      exact os_cvStr s ho hs hd h1
    · cases hv
  · rename_i el hs hd
    split at ht
    · rename_i he
      cases ht
      simp only [evOp] at hv
      split at hv
      · cases hv
      · rename_i hns
        split at hv
        · rename_i n c hsrc
          obtain ⟨l, hl, hv⟩ := omap hv
          cases hv
          exact os_cvBytes s ho hs hd he h1 (fun l hl => hns (by rw [hl]; rfl)) hsrc hl
        · cases hv
    · cases ht
  · rename_i el hs hd
    split at ht
    · rename_i he
      cases ht
      simp only [evOp] at hv
      split at hv
      · rename_i l hx
        rw [hx] at h1
        split at hv
        · rename_i hlen
          cases hv
          exact os_cvToBytes s ho hs hd he h1 hlen
        · cases hv
      · cases hv
    · cases ht
  · cases ht

theorem not_iface {t : TypeId} (hi : ¬ isIfaceT P t = true) : ∃ d, P.underlying t = some d ∧ ∀ ms, d ≠ .interface ms := by
  unfold isIfaceT at hi
  cases hu : P.underlying t with
  | none => rw [hu] at hi; simp at hi
  | some d =>
    refine ⟨d, rfl, fun ms hd => ?_⟩
    subst hd
    rw [hu] at hi
    simp at hi

theorem ea_makeInterface (s : Sim P m h.get h.next w) (hev : EvR P lm m e ρ) {t : TypeId} {x : Operand} (ho : o.op = .makeInterface t x) (ht : trOp P lm o.op = some aop) (hv : evOp aop e h = some (v, h')) : OpS P m h w ((execOp ρ o).run P w) v h' := by
  rw [ho] at ht
  simp only [trOp] at ht
  split at ht
  · cases ht
  · rename_i hi
    obtain ⟨d, hd1, hd2⟩ := not_iface hi
    obtain ⟨a, ha, rfl⟩ := omap ht
    cases hv
    exact os_mkIface s ho hd1 hd2 (hev x a ha)

theorem ea_makeFunc (s : Sim P m h.get h.next w) (hev : EvR P lm m e ρ) {f : FuncId} {a b : Array Operand} (ho : o.op = .makeFunc (.func f) a b) (ht : trOp P lm o.op = some aop) (hv : evOp aop e h = some (v, h')) : OpS P m h w ((execOp ρ o).run P w) v h' := by
  rw [ho] at ht
  simp only [trOp] at ht
  split at ht
  · split at ht
    · rename_i la lb ha hb
      cases ht
      cases hv
      exact os_mkFn s hev ho ha hb
    · cases ht
  · cases ht

theorem ea_makeMap (s : Sim P m h.get h.next w) (hev : EvR P lm m e ρ) {t : TypeId} {r : Option Operand} (ho : o.op = .makeMap t r) (ht : trOp P lm o.op = some aop) (hv : evOp aop e h = some (v, h')) : OpS P m h w ((execOp ρ o).run P w) v h' := by
  rw [ho] at ht
  simp only [trOp] at ht
  split at ht
  · rename_i hm
    obtain ⟨ra, hra, rfl⟩ := omap ht
    unfold isMapT at hm
    split at hm
    · rename_i k el hu
      simp only [evOp] at hv
      split at hv
      · cases hv
        exact os_mkMap s hev ho hu hra (fun a ha => by cases ha)
      · rename_i a
        split at hv
        · rename_i k' n hk
          cases hv
          exact os_mkMap s hev ho hu hra (fun b hb => by cases hb; exact ⟨k', n, hk⟩)
        · cases hv
    · cases hm
  · cases ht

theorem ea_makeSlice (s : Sim P m h.get h.next w) (hev : EvR P lm m e ρ) {t : TypeId} {l c : Operand} (ho : o.op = .makeSlice t l c) (ht : trOp P lm o.op = some aop) (hv : evOp aop e h = some (v, h')) : OpS P m h w ((execOp ρ o).run P w) v h' := by
  rw [ho] at ht
  simp only [trOp] at ht
  split at ht
  · rename_i la ca hl hc
    unfold trMkSlice at ht
    split at ht
    · rename_i el hu
      split at ht
      · rename_i z i hz hi
        split at ht
        · rename_i hcond
          cases ht
          simp only [evOp] at hv
          split at hv
          · rename_i n c' hn hcn
            split at hv
            · rename_i hle
              cases hv
              exact os_mkSlice s ho hu hi hz hcond.1 hcond.2 (hev l la hl) (hev c ca hc) hn hcn hle.1 hle.2
            · cases hv
          · cases hv
        · cases ht
      · cases ht
    · cases ht
  · cases ht

theorem ea_slice (s : Sim P m h.get h.next w) (hev : EvR P lm m e ρ) {t : TypeId} {x : Operand} {lo hi mx : Option Operand} (ho : o.op = .slice t x lo hi mx) (ht : trOp P lm o.op = some aop) (hv : evOp aop e h = some (v, h')) : OpS P m h w ((execOp ρ o).run P w) v h' := by
  rw [ho] at ht
  simp only [trOp] at ht
  split at ht
  · rename_i a la ha ma hxa hlo hhi hmx
    have h1 := hev x a hxa
    have hnh : (!mx.isNone && hi.isNone) = false → mx.isSome = true → hi.isSome = true := by
      cases mx <;> cases hi <;> simp
    unfold trSlice at ht
    split at ht
    · rename_i hu
      split at ht
      · rename_i hmn
        cases mx with
        | some _ => simp at hmn
        | none =>
          cases ht
          simp only [evOp] at hv
          split at hv
          · rename_i l hx
            rw [hx] at h1
            split at hv
            · rename_i p q hp hq
              split at hv
              · rename_i hc
                cases hv
                exact os_slStr s hev ho hu hlo hhi h1 hp hq hc.1 hc.2
              · cases hv
            · cases hv
          · cases hv
      · cases ht
    · rename_i el hu
      split at ht
      · cases ht
      · rename_i hcond
        have hnh' := hnh (Bool.eq_false_iff.2 hcond)
        obtain ⟨sz, hsz, rfl⟩ := omap ht
        have hv' := hv
        simp only [evOp] at hv'
        split at hv'
        · rename_i hx
          rw [hx] at h1
          split at hv'
          · rename_i e1 e2 e3
            cases hv'
            exact os_slSl_nil s hev ho hu hsz hnh' hlo hhi hmx h1 e1 e2 e3
          · cases hv'
        · rename_i b f len cap hx
          rw [hx] at h1
          have : h' = h := by
            split at hv'
            · split at hv'
              · split at hv'
                · split at hv'
                  · cases hv'; rfl
                  · cases hv'
                · cases hv'
              · split at hv'
                · cases hv'; rfl
                · cases hv'
            · cases hv'
          subst this
          exact os_slSl s hev ho hu hsz hnh' hlo hhi hmx h1 hx hv
        · cases hv'
    · rename_i n el hu
      split at ht
      · cases ht
      · rename_i hcond
        have hnh' := hnh (Bool.eq_false_iff.2 hcond)
        obtain ⟨sz, hsz, rfl⟩ := omap ht
        simp only [evOp] at hv
        split at hv
        · rename_i b f hx
          rw [hx] at h1
          split at hv
          · rename_i p q r e1 e2 e3
            split at hv
            · rename_i hc
              cases hv
              exact os_slArr s hev ho (.inl hu) hsz hnh' hlo hhi hmx h1 e1 e2 e3 hc.1 hc.2.1 hc.2.2
            · cases hv
          · cases hv
        · cases hv
    · rename_i ar hu
      split at ht
      · rename_i n el hu2
        split at ht
        · cases ht
        · rename_i hcond
          have hnh' := hnh (Bool.eq_false_iff.2 hcond)
          obtain ⟨sz, hsz, rfl⟩ := omap ht
          simp only [evOp] at hv
          split at hv
          · rename_i b f hx
            rw [hx] at h1
            split at hv
            · rename_i p q r e1 e2 e3
              split at hv
              · rename_i hc
                cases hv
                exact os_slArr s hev ho (.inr ⟨ar, hu, hu2⟩) hsz hnh' hlo hhi hmx h1 e1 e2 e3 hc.1 hc.2.1 hc.2.2
              · cases hv
            · cases hv
          · cases hv
      · cases ht
    · cases ht
  · cases ht

theorem ea_fieldAddr (s : Sim P m h.get h.next w) (hev : EvR P lm m e ρ) {t : TypeId} {x : Operand} {f : Nat} (ho : o.op = .fieldAddr t x f) (ht : trOp P lm o.op = some aop) (hv : evOp aop e h = some (v, h')) : OpS P m h w ((execOp ρ o).run P w) v h' := by
  rw [ho] at ht
  simp only [trOp] at ht
  obtain ⟨a, ha, ht⟩ := obind ht
  have h1 := hev x a ha
  unfold trFAddr at ht
  split at ht
  · rename_i fs hu
    split at ht
    · rename_i fd hf
      split at ht
      · cases ht
      · rename_i hz
        cases ht
        simp only [evOp] at hv
        split at hv
        · rename_i b q hx
          rw [hx] at h1
          cases hv
          exact os_faddr s ho hu hf hz h1
        · cases hv
    · cases ht
  · cases ht

theorem ea_field (s : Sim P m h.get h.next w) (hev : EvR P lm m e ρ) {t : TypeId} {x : Operand} {f : Nat} (ho : o.op = .field t x f) (ht : trOp P lm o.op = some aop) (hv : evOp aop e h = some (v, h')) : OpS P m h w ((execOp ρ o).run P w) v h' := by
  rw [ho] at ht
  simp only [trOp] at ht
  obtain ⟨a, ha, ht⟩ := obind ht
  have h1 := hev x a ha
  unfold trField at ht
  split at ht
  · rename_i fs hu
    split at ht
    · rename_i fd hf
      split at ht
      · rename_i ag sz hag hsz
        split at ht
        · rename_i hag1
          cases ht
          simp only [evOp] at hv
          split at hv
          · rename_i l hx
            rw [hx] at h1
            split at hv
            · rename_i hle
              split at hv
              · rename_i hagt
                cases hv
                exact os_field s ho hu hf hag hsz hag1 h1 hle (by rw [if_pos hagt])
              · rename_i hagt
                obtain ⟨u, hu', hv⟩ := omap hv
                cases hv
                exact os_field s ho hu hf hag hsz hag1 h1 hle (by rw [if_neg hagt]; exact hu')
            · cases hv
          · cases hv
        · cases ht
      · cases ht
    · cases ht
  · cases ht

theorem ea_indexAddr (s : Sim P m h.get h.next w) (hev : EvR P lm m e ρ) {t : TypeId} {x i : Operand} (ho : o.op = .indexAddr t x i) (ht : trOp P lm o.op = some aop) (hv : evOp aop e h = some (v, h')) : OpS P m h w ((execOp ρ o).run P w) v h' := by
  rw [ho] at ht
  simp only [trOp] at ht
  split at ht
  · rename_i a ia ha hia
    have h1 := hev x a ha
    have h2 := hev i ia hia
    unfold trIAddr at ht
    split at ht
    · rename_i el hu
      obtain ⟨sz, hsz, rfl⟩ := omap ht
      simp only [evOp] at hv
      split at hv
      · rename_i b f len cap k n hx hi
        rw [hx] at h1
        rw [hi] at h2
        split at hv
        · rename_i hc
          cases hv
          exact os_iaddr s ho hu hsz h1 h2 hc.1 hc.2
        · cases hv
      · cases hv
    · rename_i len el hu
      obtain ⟨sz, hsz, rfl⟩ := omap ht
      simp only [evOp] at hv
      split at hv
      · rename_i b f k n hx hi
        rw [hx] at h1
        rw [hi] at h2
        split at hv
        · rename_i hc
          cases hv
          exact os_iaddrArr s ho hu hsz h1 h2 hc.1 hc.2
        · cases hv
      · cases hv
    · cases ht
  · cases ht

theorem ea_index (s : Sim P m h.get h.next w) (hev : EvR P lm m e ρ) {t : TypeId} {x i : Operand} (ho : o.op = .index t x i) (ht : trOp P lm o.op = some aop) (hv : evOp aop e h = some (v, h')) : OpS P m h w ((execOp ρ o).run P w) v h' := by
  rw [ho] at ht
  simp only [trOp] at ht
  split at ht
  · rename_i a ia ha hia
    have h1 := hev x a ha
    have h2 := hev i ia hia
    unfold trIndex at ht
    split at ht
    · rename_i hu
      cases ht
      simp only [evOp] at hv
      split at hv
      · rename_i l k n hx hi
        rw [hx] at h1
        rw [hi] at h2
        split at hv
        · rename_i hc
          obtain ⟨c, hc', hv⟩ := omap hv
          cases hv
          exact os_idxStr s ho hu h1 h2 hc hc'
        · cases hv
      · cases hv
    · rename_i len el hu
      split at ht
      · rename_i ag sz hag hsz
        split at ht
        · rename_i hag1
          cases ht
          simp only [evOp] at hv
          split at hv
          · rename_i l k n hx hi
            rw [hx] at h1
            rw [hi] at h2
            split at hv
            · rename_i hc
              split at hv
              · rename_i hagt
                cases hv
                exact os_idxArr s ho hu hag hsz hag1 h1 h2 hc.1 hc.2.1 hc.2.2 (by rw [if_pos hagt])
              · rename_i hagt
                obtain ⟨u, hu', hv⟩ := omap hv
                cases hv
                exact os_idxArr s ho hu hag hsz hag1 h1 h2 hc.1 hc.2.1 hc.2.2 (by rw [if_neg hagt]; exact hu')
            · cases hv
          · cases hv
        · cases ht
      · cases ht
    · cases ht
  · cases ht

theorem mapD_eq {t : TypeId} {d : EqD} {z : V} (hm : mapD P t = some (d, z)) : ∃ kt et, P.underlying t = some (.map kt et) ∧ trEqD P kt = some d ∧ zeroV P et = some z := by
  unfold mapD at hm
  split at hm
  · rename_i kt et hu
    split at hm
    · rename_i d' z' hd hz
      cases hm
      exact ⟨kt, et, hu, hd, hz⟩
    · cases hm
  · cases hm

theorem evOp_lookup_same {d : EqD} {z : V} {ma ka : A} {ok : Bool} {e : A → V} (hv : evOp (.lookup d z ma ka ok) e h = some (v, h')) : h' = h := by
  simp only [evOp] at hv
  split at hv
  · cases hv
  · split at hv
    · cases ok <;> cases hv <;> rfl
    · split at hv
      · split at hv
        · cases ok <;> cases hv <;> rfl
        · cases ok <;> cases hv <;> rfl
        · cases hv
      · split at hv
        · split at hv
          · cases ok <;> cases hv <;> rfl
          · cases ok <;> cases hv <;> rfl
          · cases hv
        · cases hv
    · cases hv

theorem evOp_entry_same {a : A} {e : A → V} (hv : evOp (.entry a) e h = some (v, h')) : h' = h := by
  simp only [evOp, evEntry] at hv
  split at hv
  · split at hv
    · split at hv
      · split at hv
        · cases hv
        · split at hv
          · cases hv; rfl
          · cases hv
      · cases hv
    · cases hv
  · cases hv

theorem evOp_tassert_same {a : A} {t : TypeId} {z : V} {e : A → V} (hv : evOp (.tassert a t z) e h = some (v, h')) : h' = h := by
  simp only [evOp] at hv
  split at hv
  · cases hv; rfl
  · cases hv; rfl
  · cases hv

theorem ea_lookup (s : Sim P m h.get h.next w) (hev : EvR P lm m e ρ) {t : TypeId} {mx kx : Operand} {ok : Bool} (ho : o.op = .lookup t mx kx ok) (ht : trOp P lm o.op = some aop) (hv : evOp aop e h = some (v, h')) : OpS P m h w ((execOp ρ o).run P w) v h' := by
  rw [ho] at ht
  simp only [trOp] at ht
  split at ht
  · rename_i d z ma ka hd hm hk
    cases ht
    obtain ⟨kt, et, hu, hd, hz⟩ := mapD_eq hd
    have := evOp_lookup_same hv
    subst this
    exact os_lookup s ho hu hd hz (hev mx ma hm) (hev kx ka hk) hv
  · cases ht

theorem ea_mapUpdate (s : Sim P m h.get h.next w) (hev : EvR P lm m e ρ) {t : TypeId} {mx kx vx : Operand} (ho : o.op = .mapUpdate t mx kx vx) (ht : trOp P lm o.op = some aop) (hv : evOp aop e h = some (v, h')) : OpS P m h w ((execOp ρ o).run P w) v h' := by
  rw [ho] at ht
  simp only [trOp] at ht
  split at ht
  · rename_i d z ma ka va hd hm hk hvv
    cases ht
    obtain ⟨kt, et, hu, hd, hz⟩ := mapD_eq hd
    exact os_mput s (.inl ho) hu hd (hev mx ma hm) (hev kx ka hk) (hev vx va hvv) hv
  · cases ht

theorem ea_insert (s : Sim P m h.get h.next w) (hev : EvR P lm m e ρ) {t : TypeId} {mx kx vx : Operand} (ho : o.op = .insert t mx kx vx) (ht : trOp P lm o.op = some aop) (hv : evOp aop e h = some (v, h')) : OpS P m h w ((execOp ρ o).run P w) v h' := by
  rw [ho] at ht
  simp only [trOp] at ht
  split at ht
  · rename_i d z ma ka va hd hm hk hvv
    cases ht
    obtain ⟨kt, et, hu, hd, hz⟩ := mapD_eq hd
    exact os_mput s (.inr ho) hu hd (hev mx ma hm) (hev kx ka hk) (hev vx va hvv) hv
  · cases ht

theorem ea_mapEntry (s : Sim P m h.get h.next w) (hev : EvR P lm m e ρ) {t : TypeId} {mx kx : Operand} (ho : o.op = .mapEntry t mx kx) (ht : trOp P lm o.op = some aop) (hv : evOp aop e h = some (v, h')) : OpS P m h w ((execOp ρ o).run P w) v h' := by
  rw [ho] at ht
  simp only [trOp] at ht
  split at ht
  · rename_i d z ma ka hd hm hk
    cases ht
    obtain ⟨kt, et, hu, hd, hz⟩ := mapD_eq hd
    exact os_mentry s ho hu hd hz (hev mx ma hm) (hev kx ka hk) hv
  · cases ht

theorem ea_entryStore (s : Sim P m h.get h.next w) (hev : EvR P lm m e ρ) {t : TypeId} {mx sx vx : Operand} (ho : o.op = .entryStore t mx sx vx) (ht : trOp P lm o.op = some aop) (hv : evOp aop e h = some (v, h')) : OpS P m h w ((execOp ρ o).run P w) v h' := by
  rw [ho] at ht
  simp only [trOp] at ht
  split at ht
  · rename_i ma sa va hm hs hvv
    cases ht
    exact os_mestore s ho (hev mx ma hm) (hev sx sa hs) (hev vx va hvv) hv
  · cases ht

theorem ea_range (s : Sim P m h.get h.next w) (hev : EvR P lm m e ρ) {t : TypeId} {x : Operand} (ho : o.op = .range t x) (ht : trOp P lm o.op = some aop) (hv : evOp aop e h = some (v, h')) : OpS P m h w ((execOp ρ o).run P w) v h' := by
  rw [ho] at ht
  simp only [trOp] at ht
  obtain ⟨a, ha, ht⟩ := obind ht
  have h1 := hev x a ha
  unfold trRange at ht
  split at ht
  · rename_i hu
    cases ht
    simp only [evOp] at hv
    split at hv
    · rename_i l hx
      rw [hx] at h1
      cases hv
      exact os_rngStr s ho hu h1
    · cases hv
  · rename_i k el hu
    cases ht
    exact os_rngMap s ho hu h1 hv
  · cases ht

theorem ea_nextStr (s : Sim P m h.get h.next w) (hev : EvR P lm m e ρ) {x : Operand} (ho : o.op = .next x true) (ht : trOp P lm o.op = some aop) (hv : evOp aop e h = some (v, h')) : OpS P m h w ((execOp ρ o).run P w) v h' := by
  rw [ho] at ht
  simp only [trOp] at ht
  obtain ⟨a, ha, rfl⟩ := omap ht
  exact os_nextStr s ho (hev x a ha) hv

theorem ea_entry (s : Sim P m h.get h.next w) (hev : EvR P lm m e ρ) {x : Operand} (ho : o.op = .entry x) (ht : trOp P lm o.op = some aop) (hv : evOp aop e h = some (v, h')) : OpS P m h w ((execOp ρ o).run P w) v h' := by
  rw [ho] at ht
  simp only [trOp] at ht
  obtain ⟨a, ha, rfl⟩ := omap ht
  have := evOp_entry_same hv
  subst this
  exact os_entry s ho (hev x a ha) hv

theorem ea_typeAssert (s : Sim P m h.get h.next w) (hev : EvR P lm m e ρ) {x : Operand} {xt t : TypeId} (ho : o.op = .typeAssert x xt t true) (ht : trOp P lm o.op = some aop) (hv : evOp aop e h = some (v, h')) : OpS P m h w ((execOp ρ o).run P w) v h' := by
  rw [ho] at ht
  simp only [trOp] at ht
  split at ht
  · cases ht
  · rename_i hi
    obtain ⟨d, hd1, hd2⟩ := not_iface hi
    split at ht
    · rename_i a z ha hz
      cases ht
      have := evOp_tassert_same hv
      subst this
      exact os_tassert s ho hd1 hd2 hz (hev x a ha) hv
    · cases ht

theorem ea_extract (s : Sim P m h.get h.next w) (hev : EvR P lm m e ρ) {x : Operand} {i : Nat} (ho : o.op = .extract x i) (ht : trOp P lm o.op = some aop) (hv : evOp aop e h = some (v, h')) : OpS P m h w ((execOp ρ o).run P w) v h' := by
  rw [ho] at ht
  simp only [trOp] at ht
  obtain ⟨a, ha, rfl⟩ := omap ht
  have h1 := hev x a ha
  simp only [evOp] at hv
  split at hv
  · rename_i l hx
    rw [hx] at h1
    obtain ⟨u, hu, hv⟩ := omap hv
    cases hv
    exact os_extract s ho h1 hu
  · cases hv

theorem trAs_cases {e : A → V} (hev : EvR P lm m e ρ) : ∀ {xs : List Operand} {l : List A}, trAs P lm xs = some l → (l = [] → xs = []) ∧ (∀ a, l = [a] → ∃ x, xs = [x] ∧ VR m (e a) (ρ x)) ∧ (∀ a b, l = [a, b] → ∃ x y, xs = [x, y] ∧ VR m (e a) (ρ x) ∧ VR m (e b) (ρ y))
  | [], l, ht => by cases ht; simp
  | [x], l, ht => by
    simp only [trAs] at ht
    cases hx : trA P lm x with
    | none => rw [hx] at ht; cases ht
    | some a =>
      rw [hx] at ht; cases ht
      exact ⟨fun h => (by cases h), fun a' ha' => (by cases ha'; exact ⟨x, rfl, hev x a hx⟩), fun a' b' h => (by cases h)⟩
  | [x, y], l, ht => by
    simp only [trAs] at ht
    cases hx : trA P lm x with
    | none => rw [hx] at ht; cases ht
    | some a =>
      cases hy : trA P lm y with
      | none => rw [hx, hy] at ht; cases ht
      | some b =>
        rw [hx, hy] at ht; cases ht
        exact ⟨fun h => (by cases h), fun a' h => (by cases h), fun a' b' h => (by cases h; exact ⟨x, y, rfl, hev x a hx, hev y b hy⟩)⟩
  | x :: y :: z :: r, l, ht => by
    simp only [trAs] at ht
    split at ht
    · rename_i a q _ hq
      cases ht
      split at hq
      · rename_i b q' _ hq'
        cases hq
        split at hq'
        · cases hq'; simp
        · cases hq'
      · cases hq
    · cases ht

theorem ea_built (s : Sim P m h.get h.next w) (hev : EvR P lm m e ρ) {c : Call} (ho : o.op = .call c) {b : Builtin} (hc : c.callee = .builtin b) {xs : List A} (hxs : trAs P lm c.args.toList = some xs)
    (ht : trBuilt P b c.argTypes[0]? c.argTypes[1]? xs = some aop) (hv : evOp aop e h = some (v, h')) : OpS P m h w ((execOp ρ o).run P w) v h' := by
  have hcs := trAs_cases hev hxs
  have hmm : ∀ mx : Bool, b = (if mx then .max else .min) → evOp (.minmax mx xs) e h = some (v, h') → OpS P m h w ((execOp ρ o).run P w) v h' := by
    intro mx hb hv
    have hr := trAs_rel hev hxs
    have hr : VRs m (xs.map e) (c.args.map ρ).toList := by rw [Array.toList_map]; exact hr
    simp only [evOp] at hv
    split at hv
    · cases hv
    · rename_i v0 r hr0
      obtain ⟨u, hu, hv⟩ := omap hv
      cases hv
      exact os_minmax s ho (mx := mx) (by rw [hc, hb]) hr hr0 hu
  unfold trBuilt at ht
  split at ht
  · rename_i t0 x ht0
    obtain ⟨xo, hxo, h1⟩ := hcs.2.1 x rfl
    have go : ∀ {k : LK} {d : TypeDesc}, P.underlying t0 = some d → (∀ v, lkOK k v = true → lenFit d v = true) → evOp (.len k x) e h = some (v, h') → OpS P m h w ((execOp ρ o).run P w) v h' := by
      intro k d hd hfit hv
      simp only [evOp] at hv
      split at hv
      · rename_i hk
        obtain ⟨n, hn, hv⟩ := omap hv
        cases hv
        exact os_len s ho hc ht0 hxo hd h1 (hfit _ hk) hn rfl
      · cases hv
    split at ht
    · rename_i hd
      cases ht
      exact go hd (fun v hk => by cases v <;> simp_all [lkOK, lenFit]) hv
    · rename_i el hd
      cases ht
      exact go hd (fun v hk => by cases v <;> simp_all [lkOK, lenFit]) hv
    · rename_i kt el hd
      cases ht
      exact go hd (fun v hk => by cases v <;> simp_all [lkOK, lenFit]) hv
    · cases ht
  · rename_i t0 x ht0
    obtain ⟨xo, hxo, h1⟩ := hcs.2.1 x rfl
    split at ht
    · rename_i el hd
      cases ht
      have : h' = h := by
        simp only [evOp] at hv
        split at hv
        · cases hv; rfl
        · cases hv; rfl
        · cases hv
      subst this
      exact os_cap s ho hc ht0 hxo hd h1 hv
    · cases ht
  · rename_i t0 sx x ht0
    obtain ⟨so, xo, hxo, h1, h2⟩ := hcs.2.2 sx x rfl
    split at ht
    · rename_i el t1 hd ht1
      split at ht
      · rename_i i z hi hz
        split at ht
        · rename_i hcond
          cases ht
          simp only [evOp] at hv
          split at hv
          · rename_i n cs hsrc
            exact os_append s ho hc ht0 hd ht1 hcond.1 hi hcond.2.2.1 hz hcond.2.2.2 hxo h1 h2 hsrc hv
          · cases hv
        · cases ht
      · cases ht
    · cases ht
  · rename_i t0 dx x ht0
    obtain ⟨so, xo, hxo, h1, h2⟩ := hcs.2.2 dx x rfl
    split at ht
    · rename_i el hd
      obtain ⟨sz, hsz, rfl⟩ := omap ht
      exact os_copy s ho hc ht0 hd hsz hxo h1 h2 hv
    · cases ht
  · cases ht
    exact hmm true rfl hv
  · cases ht
    exact hmm false rfl hv
  · rename_i t0 x ht0
    obtain ⟨xo, hxo, h1⟩ := hcs.2.1 x rfl
    split at ht
    · rename_i el hd
      obtain ⟨z, hz, rfl⟩ := omap ht
      exact os_clear s ho hc ht0 hd hz hxo h1 hv
    · cases ht
  · cases ht

theorem ea_call (s : Sim P m h.get h.next w) (hev : EvR P lm m e ρ) {c : Call} (ho : o.op = .call c) (ht : trOp P lm o.op = some aop) (hv : evOp aop e h = some (v, h')) : OpS P m h w ((execOp ρ o).run P w) v h' := by
  rw [ho] at ht
  simp only [trOp] at ht
  unfold trCall at ht
  split at ht
  · obtain ⟨f, _, rfl⟩ := omap ht
    cases hv
  · rename_i b xs hc hxs
    exact ea_built s hev ho hc hxs ht hv
  · cases ht

theorem evOp_sound (s : Sim P m h.get h.next w) (hev : EvR P lm m e ρ) (ht : trOp P lm o.op = some aop) (hv : evOp aop e h = some (v, h')) :
    OpS P m h w ((execOp ρ o).run P w) v h' := by
  cases ho : o.op
  case move => exact ea_move s hev ho ht hv
  case assign => exact ea_assign s hev ho ht hv
  case pick => exact ea_pick s hev ho ht hv
  case alloc => exact ea_alloc s hev ho ht hv
  case box => exact ea_box s hev ho ht hv
  case build => exact ea_build s hev ho ht hv
  case buildSlice => exact ea_buildSlice s hev ho ht hv
  case load => exact ea_load s hev ho ht hv
  case store => exact ea_store s hev ho ht hv
  case nilCheck => exact ea_nilCheck s hev ho ht hv
  case binOp => exact ea_binOp s hev ho ht hv
  case unOp => exact ea_unOp s hev ho ht hv
  case convert => exact ea_convert s hev ho ht hv
  case makeInterface => exact ea_makeInterface s hev ho ht hv
  case makeMap => exact ea_makeMap s hev ho ht hv
  case makeSlice => exact ea_makeSlice s hev ho ht hv
  case slice => exact ea_slice s hev ho ht hv
  case fieldAddr => exact ea_fieldAddr s hev ho ht hv
  case field => exact ea_field s hev ho ht hv
  case indexAddr => exact ea_indexAddr s hev ho ht hv
  case index => exact ea_index s hev ho ht hv
  case lookup => exact ea_lookup s hev ho ht hv
  case mapUpdate => exact ea_mapUpdate s hev ho ht hv
  case insert => exact ea_insert s hev ho ht hv
  case mapEntry => exact ea_mapEntry s hev ho ht hv
  case entryStore => exact ea_entryStore s hev ho ht hv
  case range => exact ea_range s hev ho ht hv
  case entry => exact ea_entry s hev ho ht hv
  case extract => exact ea_extract s hev ho ht hv
  case call => exact ea_call s hev ho ht hv
  case makeFunc f a b =>
    cases f with
    | func f => exact ea_makeFunc s hev ho ht hv
    | _ => rw [ho] at ht; simp [trOp] at ht
  case next x b =>
    cases b with
    | true => exact ea_nextStr s hev ho ht hv
    | false => rw [ho] at ht; simp only [trOp] at ht; obtain ⟨a, _, rfl⟩ := omap ht; cases hv
  case typeAssert x xt t b =>
    cases b with
    | true => exact ea_typeAssert s hev ho ht hv
    | false => rw [ho] at ht; simp [trOp] at ht
  case defer c =>
    rw [ho] at ht
    simp only [trOp, trDefer] at ht
    split at ht
    · obtain ⟨f, _, rfl⟩ := omap ht
      cases hv
    · cases ht
  case panic x => rw [ho] at ht; simp only [trOp] at ht; obtain ⟨a, _, rfl⟩ := omap ht; cases hv
  all_goals (rw [ho] at ht; simp [trOp] at ht)

end
end Go.Abs

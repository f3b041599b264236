/-
  What library functions give is true of the program.
-/
import Derived.Test.YtaaimcecdoeimaaGreatDoorLib
import Derived.Test.YtaaimcecdoeimaaGreatDoorShelf
import Derived.KernelRfl
import Derived.Test.YtaaimcecdoeimaaGreatDoorFtOk
import Derived.WalkKit
import Derived.BigCall
namespace Go.Abs.Sy
open Go.Proofs

theorem callable {P : Program} {f : FuncId} {F : Func} (h : P.funcs[f]? = some F) (hb : F.body.isSome = true) (hn : (F.name != "runtime.NumGoroutine") = true) : Callable P f :=
  ⟨F, h, hb, by simpa using hn⟩

/-- a call that gives a value and leaves the world as it is -/
theorem pure_post {P : Program} {m : Mp} {h : H} {w : World} (s : Sim P m h.get h.next w) {f : FuncId} {cargs : Array Value} {cv : Value} {v : V} (hc : Calls P f cargs w fun e w' => e = .returned cv ∧ w' = w)
    (hv : VR m v cv) {R : Ret → H → Prop} (hR : R (.ret v) h) : CallsIn Fence.wide 0 P f cargs w (Post P m h w R) := by
  refine callsIn_wide.2 (hc.mono ?_)
  rintro e w' ⟨rfl, rfl⟩
  exact ⟨.ret v, h, m, hR, hv, s, Ex.refl m h.get h.next _ fun b x e => (s.dom b x e).1⟩

theorem VR.str_inv {m : Mp} {l : List UInt8} {v : Value} (h : VR m (.str l) v) : v = .string ⟨l.toArray⟩ := by
  simp only [VR] at h
  obtain ⟨b, rfl, rfl⟩ := h
  rfl

theorem okRepeat : XOK Tryz.prog 187 xRepeat := by
  intro args h r h' hg R hR m w cargs s ha
  refine ⟨callable Tryz.func187 (by kernel_rfl) (by kernel_rfl), ?_⟩
  unfold xRepeat at hg
  split at hg
  · rename_i l n
    split at hg
    · rename_i hn
      have hn : n = 0 := by simpa using hn
      subst hn
      cases hg
      simp only [VRs] at ha
      obtain ⟨x, r', e1, hx, y, r2, e2, hy, e3⟩ := ha
      subst e3 e2
      have hx := VR.str_inv hx
      simp only [VR] at hy
      subst hx hy
      have hc : cargs = #[.string ⟨l.toArray⟩, .int .i64 0] := Array.toList_inj.1 e1
      subst hc
      exact pure_post s (Tryz.strings_Repeat_zero _ w) (by simp only [VR]; exact ⟨_, rfl, rfl⟩) hR
    · cases hg
  · cases hg

theorem two_str {m : Mp} {l k : List UInt8} {cargs : Array Value} (ha : VRs m [.str l, .str k] cargs.toList) : cargs = #[.string ⟨l.toArray⟩, .string ⟨k.toArray⟩] := by
  simp only [VRs] at ha
  obtain ⟨x, r', e1, hx, y, r2, e2, hy, e3⟩ := ha
  subst e3 e2
  rw [VR.str_inv hx, VR.str_inv hy] at e1
  exact Array.toList_inj.1 e1

theorem okCount : XOK Tryz.prog 243 xCount := by
  intro args h r h' hg R hR m w cargs s ha
  refine ⟨callable Tryz.func243 (by kernel_rfl) (by kernel_rfl), ?_⟩
  unfold xCount at hg
  split at hg
  · rename_i l c
    cases hg
    have hc := two_str ha
    subst hc
    exact pure_post s (Tryz.strings_Count_one _ c w) (by simp only [VR]) hR
  · cases hg

theorem okIndex : XOK Tryz.prog 316 xIndex := by
  intro args h r h' hg R hR m w cargs s ha
  refine ⟨callable Tryz.func316 (by kernel_rfl) (by kernel_rfl), ?_⟩
  unfold xIndex at hg
  split at hg
  · rename_i l c
    cases hg
    have hc := two_str ha
    subst hc
    exact pure_post s (Tryz.strings_Index_one _ c w) (by simp only [VR]) hR
  · cases hg
end Go.Abs.Sy

namespace Go.Abs.Sy
open Go.Proofs

theorem copyLoop {E : Env} {cx : Cx} {h0 : H} {d s it : Nat} {es : Es} {cs : Nat} {ed : List (V × V)} (T : Stat d s it es cs ed) {Q : X → St → Prop}
    (hQ : ∀ st seen, st.df = [] → Inv h0 d s it es cs ed seen st.h → leftOf es seen = [] → Q (.exit 0) st) :
    ∀ (n : Nat) (seen : List Nat) (hh : H) (a b : V) (tl : List (Nat × V)), (leftOf es seen).length = n → Inv h0 d s it es cs ed seen hh →
      (sems E (n + 11)).code cx (.loop cpB) ⟨[.map d, .map s, a, b, .ptr it 0], tl, [], hh⟩ Q := by
  intro n
  induction n with
  | zero =>
    intro seen hh a b tl hl I
    refine loop_code (k := 10) (round T (k := 0) I a b _ ?_ ?_)
    · intro hnil tl
      exact hQ _ seen rfl I hnil
    · intro x hx
      rw [List.length_eq_zero_iff.1 hl] at hx
      cases hx
  | succ n ih =>
    intro seen hh a b tl hl I
    refine loop_code (k := n + 11) (round T (k := n + 1) I a b _ ?_ ?_)
    · intro hnil tl
      exact hQ _ seen rfl I hnil
    · intro x hx tl' a' b' hh' I'
      have hp := (leftOf_perm T.stamps hx).length_eq
      simp only [List.length_cons] at hp
      exact ih _ _ _ _ _ (by omega) I'

theorem copyFrame {E : Env} (hE : E.ft = ft) {h : H} {d s : Nat} {es : Es} {cs : Nat} {ed : List (V × V)} (T : Stat d s h.next es cs ed) (hs : h.get s = some (.map es cs)) (hd : h.get d = some (.umap ed)) :
    (sems E (es.length + 14)).frame 240 [.map d, .map s] none h fun r _ h' => r = .ret (.tup []) ∧ h'.next = h.next + 1 + es.length ∧
      (∃ l, h'.get d = some (.umap l) ∧ l.Perm (ed ++ es.map kv)) ∧ ∀ b, b < h.next → b ≠ d → h'.get b = h.get b := by
  refine frame_run (k := es.length + 13) ?_
  unfold frameF
  rw [hE, show ft 240 = some fn240 from rfl, fn240_is]
  refine ⟨rfl, ?_⟩
  show (sems E (es.length + 13)).code _ (.seq _ _) ⟨[.map d, .map s, .tup [], .tup [], .tup []], [], [], h⟩ _
  refine seq_code (k := es.length + 12) (region_code (k := es.length + 11) ?_)
  show opsN _ _ _ ⟨[.map d, .map s, .tup [], .tup [], .tup []], [], [], h⟩ _
  refine run_plain (v := .map s) (h' := h) rfl ?_
  show opsN _ _ _ ⟨[.map d, .map s, .tup [], .tup [], .tup []], [(6, .map s)], [], h⟩ _
  refine run_plain (v := .ptr h.next 0) (h' := h.push (.miter (some s) cs [] cs)) ?_ ?_
  · show (match (V.map s) with
      | .nilm => some (V.ptr h.next 0, h.push (.miter none 0 [] 0))
      | .map b => (match h.get b with
        | some (.map _ cl) => some (V.ptr h.next 0, h.push (.miter (some b) cl [] cl))
        | _ => none)
      | _ => none) = _
    simp only [hs]
  show (sems E (es.length + 12)).code _ (.block 0 (.loop cpB)) ⟨[.map d, .map s, .tup [], .tup [], .ptr h.next 0], [(6, .map s)], [], h.push (.miter (some s) cs [] cs)⟩ _
  refine block_code (k := es.length + 11) ?_
  have hI : Inv h d s h.next es cs ed [] (h.push (.miter (some s) cs [] cs)) := by
    refine ⟨by rw [H.get_push, if_pos rfl], by rw [H.get_push, if_neg (Nat.ne_of_lt T.sn)]; exact hs, ⟨[], ?_, ?_⟩, ?_, ?_⟩
    · rw [H.get_push, if_neg (Nat.ne_of_lt T.dn), List.append_nil]; exact hd
    · rw [leftOf_nil]; exact List.Perm.refl _
    · rw [leftOf_nil]; rfl
    · intro b hb _; rw [H.get_push, if_neg (Nat.ne_of_lt hb)]
  refine copyLoop (E := E) (cx := ⟨240, none⟩) T ?_ (es.length) [] _ (.tup []) (.tup []) [(6, .map s)] ?_ hI
  · intro st seen hdf I hnil
    simp only [↓reduceIte, hdf, implies_true, true_and, leaveF, resAll, resList, Option.map_some]
    refine ⟨?_, ?_, ?_⟩
    · have := I.next
      rw [hnil] at this
      simpa using this
    · obtain ⟨t, h1, h2⟩ := I.dst
      rw [hnil, List.map_nil, List.append_nil] at h2
      exact ⟨_, h1, List.Perm.append_left ed h2⟩
    · exact I.same
  · rw [leftOf_nil]

/-- objects may be forgotten, and maps' orders -/
def Coarse (o o' : O) : Prop := o = o' ∨ (∃ es cl l, o = .map es cl ∧ o' = .umap l ∧ (es.map kv).Perm l) ∨ ∃ l l', o = .umap l ∧ o' = .umap l' ∧ l.Perm l'

theorem Coarse.or {P : Program} {m : Mp} {x : MB} {o o' : O} {co : Obj} (h : Coarse o o') (r : OR P m x o co) : OR P m x o' co := by
  rcases h with rfl | ⟨es, cl, l, rfl, rfl, hp⟩ | ⟨l, l', rfl, rfl, hp⟩
  · exact r
  · obtain ⟨es', a, b⟩ := r
    exact ⟨es, cl, es', a, b, hp⟩
  · obtain ⟨l0, cl, es', a, b, c⟩ := r
    exact ⟨l0, cl, es', a, b, c.trans hp⟩

theorem sim_coarse {P : Program} {m : Mp} {g g' : G} {nx : Nat} {w : World} (s : Sim P m g nx w) (hg : ∀ b o, g' b = some o → o ≠ .dead → ∃ o0, g b = some o0 ∧ o0 ≠ .dead ∧ Coarse o0 o) : Sim P m g' nx w := by
  have lv : ∀ b, live g' b → live g b := fun b ⟨o, e, ne⟩ => by
    obtain ⟨o0, h1, h2, _⟩ := hg b o e ne
    exact ⟨o0, h1, h2⟩
  refine ⟨s.dom, ?_, fun b b' x x' e e' l l' q => s.inj b b' x x' e e' (lv b l) (lv b' l') q, s.glob, fun b hb l => s.top b hb (lv b l)⟩
  intro b x o e k l
  obtain ⟨o0, h1, h2, h3⟩ := hg b o k l
  obtain ⟨co, h4, h5⟩ := s.obj b x o0 e h1 h2
  exact ⟨co, h4, h3.or h5⟩

theorem toU_coarse {o : Option O} {l : List (V × V)} (h : toU o = some l) : ∃ o0, o = some o0 ∧ o0 ≠ .dead ∧ Coarse o0 (.umap l) := by
  unfold toU at h
  split at h
  · rename_i es cl
    cases h
    exact ⟨_, rfl, by nofun, .inr (.inl ⟨es, cl, _, rfl, rfl, List.Perm.refl _⟩)⟩
  · have := um_some h
    subst this
    exact ⟨_, rfl, by nofun, .inl rfl⟩

theorem mixed : Tryz.prog.follows .mixedOrders = true := by kernel_rfl

theorem okMC : XOK Tryz.prog 240 xMC := by
  intro args h r h' hg R hR m w cargs s ha
  refine ⟨callable Tryz.func240 (by kernel_rfl) (by kernel_rfl), ?_⟩
  unfold xMC at hg
  split at hg
  · rename_i d sm
    split at hg
    · rename_i es cs ed hs hd
      split at hg
      · rename_i l hb hl
        cases hg
        simp only [Bool.and_eq_true, Bool.not_eq_true', List.all_eq_true] at hb
        obtain ⟨b1, b2, b3, b4⟩ := hb
        obtain ⟨o0, c1, c2, c3⟩ := toU_coarse hd
        have hne : d ≠ sm := fun e => by subst e; simp at b1
        obtain ⟨l0, hl0⟩ := Option.isSome_iff_exists.1 b4
        obtain ⟨e1, k1⟩ := insAll_ok (acc := []) ⟨(fun e he => by cases he), List.Pairwise.nil⟩ hl0
        have e2 : l0 = ed := by rw [e1, List.nil_append, List.map_map]; exact List.map_id' ed
        rw [e2] at k1
        obtain ⟨e3, k2⟩ := insAll_ok k1 hl
        have hsn : sm < h.next := Nat.lt_of_not_le fun hh => s.top sm hh ⟨_, hs, by nofun⟩
        have hdn : d < h.next := Nat.lt_of_not_le fun hh => s.top d hh ⟨_, c1, c2⟩
        have T : Stat d sm h.next es cs ed := by
          refine ⟨hdn, hsn, hne, ?_, ?_, nodupN_pw b3, by rw [← e3]; exact k2⟩
          · rw [List.all_eq_true]
            intro x hx
            have := blt_lt (b2 x hx).1
            simpa using this
          · intro x hx
            have := (b2 x hx).2
            unfold two at this
            split at this
            · rename_i a b e
              rw [Bool.and_eq_true] at this
              exact ⟨a, b, e, this.1, this.2⟩
            · cases this
        have hs1 : (h.set d (.umap ed)).get sm = some (.map es cs) := by rw [H.get_set, if_neg (Ne.symm hne)]; exact hs
        have hd1 : (h.set d (.umap ed)).get d = some (.umap ed) := by rw [H.get_set, if_pos rfl]
        have s1 : Sim Tryz.prog m (h.set d (.umap ed)).get (h.set d (.umap ed)).next w := by
          refine sim_coarse s fun b o e ne => ?_
          rw [H.get_set] at e
          by_cases hbd : b = d
          · rw [if_pos hbd] at e; cases e
            exact ⟨o0, by rw [hbd]; exact c1, c2, c3⟩
          · rw [if_neg hbd] at e
            exact ⟨o, e, ne, .inl rfl⟩
        have hf := copyFrame (E := (EEnv.env ⟨ft, fun _ => none⟩)) rfl (h := h.set d (.umap ed)) T hs1 hd1
        have hX : ExtS Tryz.prog (EEnv.env ⟨ft, fun _ => none⟩) := XtS.ext (E := ⟨ft, fun _ => none⟩) fun f g e => by cases e
        have hc := frame_calls mixed (ftS _ rfl) hX (by rfl) hf s1 ha
        refine callsIn_wide.2 (hc.mono ?_)
        rintro e w' ⟨r, h2, m', ⟨got, hr, hnext, ⟨l2, hl2, hp2⟩, hsame⟩, hend, s2, x2⟩
        subst hr
        refine ⟨.ret (.tup []), _, m', hR, hend, ?_, ?_⟩
        · have hn2 : h2.next = h.next + 1 + es.length := hnext
          show Sim Tryz.prog m' (h.set d (.umap l)).get (h.next + 1 + es.length) w'
          rw [← hn2]
          refine sim_coarse s2 fun b o e ne => ?_
          rw [H.get_set] at e
          by_cases hbd : b = d
          · rw [if_pos hbd] at e; cases e
            exact ⟨_, by rw [hbd]; exact hl2, by nofun, .inr (.inr ⟨l2, l, rfl, rfl, by rw [e3]; exact hp2⟩)⟩
          · rw [if_neg hbd] at e
            have hbn : b < h.next := Nat.lt_of_not_le fun hh => s.top b hh ⟨o, e, ne⟩
            refine ⟨o, ?_, ne, .inl rfl⟩
            rw [hsame b hbn hbd, H.get_set, if_neg hbd]; exact e
        · have lv1 : ∀ b, live (h.set d (.umap ed)).get b → live h.get b := fun b ⟨o, e, ne⟩ => by
            rw [H.get_set] at e
            by_cases hbd : b = d
            · rw [hbd]; exact ⟨o0, c1, c2⟩
            · rw [if_neg hbd] at e; exact ⟨o, e, ne⟩
          have hmd : ∃ y, m d = some y := by
            simp only [VRs, VR] at ha
            obtain ⟨x, r', _, ⟨y, hy, _⟩, _⟩ := ha
            exact ⟨y, hy⟩
          refine ⟨?_, x2.size, x2.old, ?_, ?_, ?_, ?_, ?_, x2.rest⟩
          · show h.next ≤ h.next + 1 + es.length
            omega
          · intro b x hb e
            rcases x2.new b x hb e with h3 | ⟨b0, x0, h3, h4, h5⟩
            · exact .inl h3
            · exact .inr ⟨b0, x0, h3, lv1 b0 h4, h5⟩
          · intro r hr hn
            exact x2.keep r hr fun b x e l => hn b x e (lv1 b l)
          · intro b hb e
            show (h.set d (.umap l)).get b = h.get b
            rw [H.get_set, if_neg (fun q => by obtain ⟨y, hy⟩ := hmd; rw [q, hy] at e; cases e)]
          · intro b hb l'
            obtain ⟨o, e, ne⟩ := l'
            have e : (h.set d (.umap l)).get b = some o := e
            rw [H.get_set] at e
            by_cases hbd : b = d
            · rw [hbd]; exact ⟨o0, c1, c2⟩
            · rw [if_neg hbd] at e; exact ⟨o, e, ne⟩
          · intro b x c hb hsz hm hgr hl
            have hbd : b ≠ d := by
              rintro rfl
              rw [c1] at hgr
              cases hgr
              rcases c3 with c3 | c3 | c3
              · cases c3
              · obtain ⟨_, _, _, c3, _⟩ := c3; cases c3
              · obtain ⟨_, _, c3, _⟩ := c3; cases c3
            have hg1 : (h.set d (.umap ed)).get b = some (.rcells c) := by rw [H.get_set, if_neg hbd]; exact hgr
            have hg2 : h2.get b = some (.rcells c) := by rw [hsame b hb hbd]; exact hg1
            exact ⟨by show (h.set d (.umap l)).get b = _; rw [H.get_set, if_neg hbd]; exact hgr, (x2.ro b x c hb hsz hm hg1 ⟨_, hg2, by nofun⟩).2⟩
      · cases hg
    · cases hg
  · cases hg
end Go.Abs.Sy

namespace Go.Proofs
def Tryz.hand_ren : Go.Shelf.Ren := ⟨fun | 166 => 247 | 240 => 319 | 276 => 357 | n => n, fun | 0 => 0 | 3 => 3 | 4 => 4 | 5 => 5 | 9 => 9 | 20 => 20 | 37 => 279 | 70 => 316 | 72 => 318 | 75 => 320 | 80 => 324 | 164 => 386 | 127 => 359 | n => n, fun | n => n⟩
theorem Tryz.handlays240 : Go.Proofs.Lays.n240 Tryz.prog Tryz.hand_ren := {
  mixed := by kernel_rfl
  f240 := Tryz.func319.trans (congrArg some (by kernel_rfl))
  f276 := Tryz.func357.trans (congrArg some (by kernel_rfl))
  t0 := Tryz.underlying0
  a0 := Tryz.isAgg0
  z0 := Tryz.sizeOf0
  v0 := Tryz.zeroValue0
  t4 := Tryz.underlying4
  a4 := Tryz.isAgg4
  z4 := Tryz.sizeOf4
  v4 := Tryz.zeroValue4
  t9 := Tryz.underlying9
  a9 := Tryz.isAgg9
  z9 := Tryz.sizeOf9
  v9 := Tryz.zeroValue9
  t20 := Tryz.underlying20
  a20 := Tryz.isAgg20
  z20 := Tryz.sizeOf20
  v20 := Tryz.zeroValue20
  t70 := Tryz.underlying316
  a70 := Tryz.isAgg316
  z70 := Tryz.sizeOf316
  v70 := Tryz.zeroValue316
  t72 := Tryz.underlying318
  a72 := Tryz.isAgg318
  z72 := Tryz.sizeOf318
  v72 := Tryz.zeroValue318
  t164 := Tryz.underlying386
  a164 := Tryz.isAgg386
  z164 := Tryz.sizeOf386
  v164 := Tryz.zeroValue386 }
theorem Tryz.handlays166 : Go.Proofs.Lays.n166 Tryz.prog Tryz.hand_ren := {
  mixed := by kernel_rfl
  f166 := Tryz.func247.trans (congrArg some (by kernel_rfl))
  f240 := Tryz.func319.trans (congrArg some (by kernel_rfl))
  f276 := Tryz.func357.trans (congrArg some (by kernel_rfl))
  t0 := Tryz.underlying0
  a0 := Tryz.isAgg0
  z0 := Tryz.sizeOf0
  v0 := Tryz.zeroValue0
  t3 := Tryz.underlying3
  a3 := Tryz.isAgg3
  z3 := Tryz.sizeOf3
  v3 := Tryz.zeroValue3
  t4 := Tryz.underlying4
  a4 := Tryz.isAgg4
  z4 := Tryz.sizeOf4
  v4 := Tryz.zeroValue4
  t9 := Tryz.underlying9
  a9 := Tryz.isAgg9
  z9 := Tryz.sizeOf9
  v9 := Tryz.zeroValue9
  t20 := Tryz.underlying20
  a20 := Tryz.isAgg20
  z20 := Tryz.sizeOf20
  v20 := Tryz.zeroValue20
  t37 := Tryz.underlying279
  a37 := Tryz.isAgg279
  z37 := Tryz.sizeOf279
  v37 := Tryz.zeroValue279
  t70 := Tryz.underlying316
  a70 := Tryz.isAgg316
  z70 := Tryz.sizeOf316
  v70 := Tryz.zeroValue316
  t72 := Tryz.underlying318
  a72 := Tryz.isAgg318
  z72 := Tryz.sizeOf318
  v72 := Tryz.zeroValue318
  t75 := Tryz.underlying320
  a75 := Tryz.isAgg320
  z75 := Tryz.sizeOf320
  v75 := Tryz.zeroValue320
  t164 := Tryz.underlying386
  a164 := Tryz.isAgg386
  z164 := Tryz.sizeOf386
  v164 := Tryz.zeroValue386 }
theorem Tryz.handExtra : Builder.Extra Tryz.prog Tryz.hand_ren := {
  sizeBuilder := by kernel_rfl
  liesBuilder := by kernel_rfl
  t5 := Tryz.underlying5
  a5 := Tryz.isAgg5
  z5 := Tryz.sizeOf5
  v5 := Tryz.zeroValue5
  infoByte := by kernel_rfl
  cellsByte := by kernel_rfl
  sizeByte := by kernel_rfl
  neB5 := by decide }
end Go.Proofs

namespace Go.Proofs
open Go.RowKit

theorem none1 (ca : Option Addr) (cp : Nat) (w : World) : Calls Tryz.prog 392 #[.slice ca 1 cp] w fun e w' => e = .returned (.bool false) ∧ w' = w := by
  go_enter Tryz.func392, Tryz.ntmps392
  go_wp2
  go_ret
  exact ⟨rfl, rfl⟩

set_option maxHeartbeats 4000000 in
theorem text1 (ca : Addr) (cp : Nat) (w : World) (hc : w.cell? ca = some (.int .i64 5)) (hlt : ca.block < w.heap.size)
    (hi : ∀ w : World, 8 ≤ w.heap.size → Calls Tryz.prog 327 #[.int .i64 5] w fun e w' => e = .returned (.string ⟨#[53]⟩) ∧ Below w.heap.size w w') (h8 : 8 ≤ w.heap.size) :
    Calls Tryz.prog 369 #[.agg #[.slice (some ca) 1 cp, .bool false]] w fun e w' => e = .returned (.string ⟨#[53]⟩) ∧ Below w.heap.size w w' := by
  go_enter Tryz.func369, Tryz.ntmps369
  go_wp2_with (go_at_call 392; refine (none1 _ _ _).mono ?_; rintro e w' ⟨rfl, rfl⟩)
  have e0 : (w.alloc (Obj.cells #[Value.slice (some ca) 1 cp, Value.bool false] 327)).heap.size = w.heap.size + 1 := by simp
  have hnew := Lib.fresh_isBuilder 318 5 (w.alloc (Obj.cells #[Value.slice (some ca) 1 cp, Value.bool false] 327))
  have hsz : ((w.alloc (Obj.cells #[Value.slice (some ca) 1 cp, Value.bool false] 327)).alloc (Obj.cells #[Value.pointer none, Value.slice none 0 0] 318)).heap.size = w.heap.size + 2 := by simp
  have hat : ((w.alloc (Obj.cells #[Value.slice (some ca) 1 cp, Value.bool false] 327)).alloc (Obj.cells #[Value.pointer none, Value.slice none 0 0] 318)).heap[w.heap.size + 1]? = some (Obj.cells #[Value.pointer none, Value.slice none 0 0] 318 (0, 0)) := by
    rw [← e0]; exact heap_alloc_new _ _
  have b0 : Below w.heap.size w ((w.alloc (Obj.cells #[Value.slice (some ca) 1 cp, Value.bool false] 327)).alloc (Obj.cells #[Value.pointer none, Value.slice none 0 0] 318)) :=
    ((Below.refl _ w).alloc (Nat.le_refl _) _).alloc (by rw [e0]; omega) _
  refine (hi _ (by rw [hsz]; omega)).mono ?_
  rintro e W1 ⟨rfl, b1⟩
  have b1' : Below w.heap.size w W1 := b0.trans ⟨b1.os, b1.tape, b1.output, b1.size, fun k hk => b1.block k (by rw [hsz]; omega)⟩
  have h1 : Lib.IsBuilder 318 5 w.heap.size (w.heap.size + 1) [] W1 :=
    Or.inl ⟨by omega, .slice none 0 0, (b1.block _ (by rw [hsz]; omega)).trans hat, World.ownsRow_nil _ _ _ _, by simp [Value.ownBlock]⟩
  dsimp only
  have hw := Any.Builder_WriteString Tryz.handlays166 Tryz.handExtra w.heap.size (w.heap.size + 1) [] ⟨#[53]⟩ W1 h1 (by decide) b1'.size
  go_wp2_with (go_at_call 247; refine hw.mono ?_)
  rintro e W2 ⟨rfl, h2, b2⟩
  have h2' : Lib.IsBuilder 318 5 w.heap.size (w.heap.size + 1) (Lib.byteCells [53]) W2 := Or.inr h2
  go_wp2
  go_loop [5] (fun iv => iv = .int .i64 (-1)) (fun _ => 0)
  case atStart => rfl
  case round =>
    subst hrel
    have hs := Tryz.Builder_String w.heap.size (w.heap.size + 1) [53] W2 h2' (by simp)
    go_wp2_with (go_at_call 249; refine hs.mono ?_; rintro e W3 ⟨rfl, b3⟩)
    go_ret
    exact ⟨rfl, b1'.trans (b2.trans b3)⟩
end Go.Proofs

namespace Go.Abs.Sy
open Go.Proofs Go.RowKit

theorem xt_list {P : Program} {l : List (Nat × (List V → H → Option (Ret × H)))} (h : ∀ p ∈ l, XOK P p.1 p.2) : XtS P ⟨ft, look l⟩ :=
  fun f g e => h (f, g) (look_mem l e)

theorem xLib0_ok : XtS Tryz.prog eLib0 := xt_list fun p hp => by
  simp only [xLib0, List.mem_cons, List.mem_nil_iff, or_false] at hp
  rcases hp with rfl | rfl | rfl | rfl
  · exact okRepeat
  · exact okCount
  · exact okIndex
  · exact okMC

theorem shownItoa : mItoa.shown eLib0 2000 327 = true := by decide +kernel

theorem okItoa : XOK Tryz.prog 327 mItoa.run := Memo.ok mixed (ftS _ rfl) xLib0_ok (by rfl) (by decide +kernel) shownItoa

/-- nothing is known but the package's variables -/
theorem sim0 (w : World) (h8 : 8 ≤ w.heap.size) : Sim Tryz.prog (fun b => if b < 8 then some ⟨b, 0, 0⟩ else none) (H.get ⟨.leaf, 8⟩) 8 w where
  dom b x e := by
    split at e
    · cases e; exact ⟨by assumption, by show b < _; omega⟩
    · cases e
  obj b x o _ k := by cases k
  inj b b' x x' _ _ l := by obtain ⟨o, e, _⟩ := l; cases e
  glob i hi := by
    have e : Tryz.prog.globals.size = 8 := by kernel_rfl
    exact ⟨⟨i, 0, 0⟩, if_pos (by omega), rfl, rfl⟩
  top b _ l := by obtain ⟨o, e, _⟩ := l; cases e

theorem itoa5 (w : World) (h8 : 8 ≤ w.heap.size) : Calls Tryz.prog 327 #[Value.int IntKind.i64 5] w fun e w' => e = .returned (.string ⟨#[53]⟩) ∧ Below w.heap.size w w' := by
  have hc := (okItoa [.int .i64 5] ⟨.leaf, 8⟩ (.ret (.str [53])) ⟨.leaf, 8⟩ (by rfl) (fun r _ => r = .ret (.str [53])) rfl _ w #[Value.int IntKind.i64 5] (sim0 w h8) (by simp only [VRs, VR]; exact ⟨_, _, rfl, rfl, rfl⟩)).2
  refine (callsIn_wide.1 hc).mono ?_
  rintro e w' ⟨r, h', m', rfl, hend, s', x⟩
  refine ⟨?_, ⟨x.rest.2.1, x.rest.1, x.rest.2.2, x.size, fun k hk => x.keep k hk fun b y _ l => ?_⟩⟩
  · cases e with
    | returned cv => exact congrArg Ending.returned (VR.str_inv (m := m') hend)
    | _ => exact False.elim hend
  · obtain ⟨o, e, _⟩ := l; cases e

/-- a call that gives a value and leaves every block as it is -/
theorem below_post {P : Program} {m : Mp} {h : H} {w : World} (s : Sim P m h.get h.next w) {f : FuncId} {cargs : Array Value} {cv : Value} {v : V} (hc : Calls P f cargs w fun e w' => e = .returned cv ∧ Below w.heap.size w w')
    (hv : VR m v cv) {R : Ret → H → Prop} (hR : R (.ret v) h) : CallsIn Fence.wide 0 P f cargs w (Post P m h w R) := by
  refine callsIn_wide.2 (hc.mono ?_)
  rintro e w' ⟨rfl, b⟩
  refine ⟨.ret v, h, m, hR, hv, ⟨fun b' x e => ⟨(s.dom b' x e).1, Nat.lt_of_lt_of_le (s.dom b' x e).2 b.size⟩, ?_, s.inj, s.glob, s.top⟩, ?_⟩
  · intro b' x o e k l
    obtain ⟨co, h1, h2⟩ := s.obj b' x o e k l
    exact ⟨co, by rw [b.block _ (s.dom b' x e).2]; exact h1, h2⟩
  · exact ⟨Nat.le_refl _, b.size, fun _ _ => rfl, fun b' x hb e => absurd (s.dom b' x e).1 (by omega), fun r hr _ => b.block r hr, fun _ _ _ => rfl, fun _ _ l => l, fun _ x _ _ hs _ hg _ => ⟨hg, b.block _ hs⟩, b.tape, b.os, b.output⟩

theorem rd1_cell {P : Program} {m : Mp} {h : H} {w : World} (s : Sim P m h.get h.next w) {b o : Nat} {x : MB} {v : V}
    (hb : m b = some x) (hr : h.rd b o 1 = some [v]) : ∃ cv : Value, VR m v cv ∧ w.cell? ⟨x.blk, x.sh + o, none⟩ = some cv := by
  obtain ⟨cs, hg, hle, hc⟩ := rd_some hr
  obtain ⟨cc, e, fr, hw, h1, h2, h3⟩ := s.rcells hb hg
  have hlt : x.sh + o < cc.size := by omega
  have := (h3.drop o).take 1
  rw [List.drop_take, List.drop_drop, List.take_take, Nat.min_eq_left (by omega), ← hc, List.drop_eq_getElem_cons (by simpa using hlt)] at this
  simp only [VRs, List.take_succ_cons, List.take_zero] at this
  obtain ⟨y, r', e1, e2, e3⟩ := this
  cases e1
  exact ⟨_, e2, by simp [World.cell?, hw, hlt]⟩

theorem isFive_eq {o : Option (List V)} (h : isFive o = true) : o = some [.int .i64 5] := by
  unfold isFive at h
  split at h
  · rfl
  · cases h

theorem okText : XOK Tryz.prog 369 xText := by
  intro args h r h' hg R hR m w cargs s ha
  refine ⟨callable Tryz.func369 (by kernel_rfl) (by kernel_rfl), ?_⟩
  unfold xText at hg
  split at hg
  · rename_i b o cap
    split at hg
    · rename_i h5
      cases hg
      have hrd := isFive_eq h5
      simp only [VRs, VR] at ha
      obtain ⟨x, r', e1, ⟨a, e2, y, r2, e3, ⟨ca, cp, e4, hle, hcap, z, hz, hcp⟩, y2, r3, e5, e6, e7⟩, e8⟩ := ha
      subst e7 e6 e5 e4 e8 e2
      have ea : a = #[.slice (some ca) 1 cp, .bool false] := Array.toList_inj.1 e3
      subst ea
      have ec : cargs = #[.agg #[.slice (some ca) 1 cp, .bool false]] := Array.toList_inj.1 e1
      subst ec
      have hca : ca = ⟨z.blk, z.sh + o, none⟩ := by
        rcases hcp with hcp | ⟨hcp, _⟩
        · omega
        · exact hcp
      obtain ⟨cv, hv, hcell⟩ := rd1_cell s hz hrd
      simp only [VR] at hv
      subst hv hca
      have h8 : 8 ≤ w.heap.size := by
        have e : Tryz.prog.globals.size = 8 := by kernel_rfl
        obtain ⟨x7, k1, k2, _⟩ := s.glob 7 (by omega)
        have := (s.dom 7 x7 k1).2
        omega
      exact below_post s (text1 _ cp w hcell (s.dom b z hz).2 itoa5 h8) (by simp only [VR]; exact ⟨_, rfl, rfl⟩) hR
    · cases hg
  · cases hg

theorem xLib_ok : XtS Tryz.prog eLib := xt_list (l := (369, xText) :: xLib0) fun p hp => by
  rcases List.mem_cons.1 hp with rfl | hp
  · exact okText
  · exact xLib0_ok p.1 p.2 (by
      simp only [xLib0, List.mem_cons, List.mem_nil_iff, or_false] at hp
      rcases hp with rfl | rfl | rfl | rfl <;> rfl)

end Go.Abs.Sy

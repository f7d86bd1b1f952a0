/- A checked evaluator: part 4 of what proves that a function of the program computes what is printed of it. It is sound at every world of the model. -/
import Derived.Test.YtggmomkohmcciabVx3
import Derived.Laws.Sem
import Derived.ChangeArms
import Derived.OpenShut
import Derived.Test.YtggmomkohmcciabVx2
import Derived.Shelf.RegionOpenPlain
import Derived.WalkKit
import Derived.Lib.Walk
import Derived.Lib.SliceRun
import Derived.Lib.JoinLaws
import Derived.Lib.AppendZeros
import Derived.Lib.AppendZerosOnto
import Derived.Laws.Externs
import Derived.Laws.IdiomCopy
import Derived.Laws.NewBlocks
/- VX, part 51: a function keeps its contract. -/
set_option linter.unusedVariables false
set_option linter.unusedSimpArgs false
namespace Go.VX

theorem shOut_in {ks : List Nat} {nf : Nat} (hk : ∀ k ∈ ks, k < nf) : ∀ s : Sh, shOut ks nf s = true → ShIn (· < nf) s
  | .tok k, h | .mref k, h => Nat.lt_of_lt_of_le (Nat.le_of_ble_eq_true h) (Nat.le_refl _)
  | .box k _ _, h => hk k (memNat_true h)
  | .elem _ _ _ _ _ _, h => by cases h
  | .pr a b, h => by
    simp only [shOut, Bool.and_eq_true] at h
    exact ⟨shOut_in hk a h.1, shOut_in hk b h.2⟩
  | .o, _ | .nilp, _ | .nils, _ => trivial
theorem plain_mkeys : ∀ (t : Ty) (s : Sh), s.plain = true → mkeys t s = []
  | .sl e, s, h => by cases s <;> first | rfl | cases h
  | .pr a b, s, h => by
    cases s <;> first
      | rfl
      | (simp only [Sh.plain, Bool.and_eq_true] at h
         simp only [mkeys, plain_mkeys a _ h.1, plain_mkeys b _ h.2, List.append_nil])
  | .tu a b, s, h => by
    cases s <;> first
      | rfl
      | (simp only [Sh.plain, Bool.and_eq_true] at h
         simp only [mkeys, plain_mkeys a _ h.1, plain_mkeys b _ h.2, List.append_nil])
  | .int _, _, _ | .bool, _, _ | .str, _, _ | .ptr, _, _ | .unit, _, _ | .ms _, _, _ | .fn _ _, _, _ | .rref _, _, _ | .eref, _, _ | .mh, _, _ | .nx, _, _ => rfl

structure WfO (c : Con) : Prop where
  bsh : shOut (upTo c.bs.length 0 ++ c.nb.map (·.1)) c.fr c.bsh = true
  bs : ∀ b ∈ c.bs, ∀ s, b.sout = some s → s.plain = true ∧ shOut (upTo c.bs.length 0 ++ c.nb.map (·.1)) c.fr s = true
  nb : ∀ b ∈ c.nb, b.2.1.std = true ∧ b.2.2.plain = true ∧ shOut (upTo c.bs.length 0 ++ c.nb.map (·.1)) c.fr b.2.2 = true
  tu : ∀ a b, c.B = .tu a b → wfA (.tu a b) = true
theorem wfO_spec {c : Con} (h : wfO c = true) : WfO c := by
  simp only [wfO, Bool.and_eq_true] at h
  obtain ⟨⟨⟨h1, h2⟩, h3⟩, h4⟩ := h
  refine ⟨h1, fun b hb s hs => ?_, fun b hb => ?_, fun a b e => by rw [e] at h4; exact h4⟩
  · have := List.all_eq_true.1 h2 b hb
    rw [hs] at this
    simpa using this
  · have := List.all_eq_true.1 h3 b hb
    simpa using this

/-- The state that a function hands back. -/
theorem out_rel {P : Program} {w0 : World} {I : Own} {nt : Nat} {U : Nat → Prop} {M : Mp} {st : St} {a : Act} {w : World} (h : Rel P w0 I nt U M st a w) {c : Con} (hw : WfC c) {y : c.R.D} {m1 mf : TM} {v : Value}
    (hres : ResOk st c.fr c.B c.bsh [] (conOut c.B (outL c.bs c.nb) y).1 m1) (hB : finB st c.fr c.bs c.nb 0 m1 = some ((conOut c.B (outL c.bs c.nb) y).2, mf))
    (hv : ∀ O' : Own, (∀ b o, O' b o → own st M b o) → (∀ k cv, look mf (c.fr + k) = some (some k) → look st.bx k = some (.rw cv) → isMs cv.ty = true → ∀ b o, inBox M k cv.ty b o → ¬ O' b o) → c.B ≠ .unit →
      RepV P c.B w O' (MpOut M mf (mkeys c.B c.bsh)) (conOut c.B (outL c.bs c.nb) y).1 c.bsh v) :
    Rel P w0 I 1 (· < c.fr) (MpOut M mf (mkeys c.B c.bsh)) (outSt c y) ⟨#[v], []⟩ w ∧ ∀ k, k < c.bs.length → (MpOut M mf (mkeys c.B c.bsh)).box k = M.box k := by
  have hO := wfO_spec hw.out
  obtain ⟨b1, b2, b3, b4⟩ := finB_mem _ _ _ _ _ _ hB
  have hinj : TmInj mf := b2 (hres.inj TmInj.nil)
  have hnd := nodupN_spec hw.nodup
  rw [← List.append_assoc, List.nodup_append] at hnd
  have hks : ∀ k ∈ upTo c.bs.length 0 ++ c.nb.map (·.1), k ∉ mkeys c.B c.bsh := fun k hk hm => hnd.2.2 k hk k hm rfl
  have hkf : ∀ k ∈ upTo c.bs.length 0 ++ c.nb.map (·.1), k < c.fr := fun k hk => by
    rcases List.mem_append.1 hk with hk | hk
    · have := mem_upTo.1 hk; have := hw.le; omega
    · exact hw.lt k (List.mem_append_left _ hk)
  have hmf : ∀ k ∈ mkeys c.B c.bsh, k < c.fr := fun k hk => hw.lt k (List.mem_append_right _ hk)
  have hbox : ∀ k, k < c.bs.length → (MpOut M mf (mkeys c.B c.bsh)).box k = M.box k := fun k hk => (MpOut_out (hks k (List.mem_append_left _ (mem_upTo.2 ⟨by omega, by omega⟩)))).2
  -- tokens
  have htok : ∀ k, look (outSt c y).tk k = some true → k < c.fr ∧ ∃ q, look mf k = some q ∧ ∀ t, q = some t → look st.tk t = some true := fun k hk => by
    obtain ⟨hk, _⟩ := look_true hk
    rcases List.mem_append.1 hk with hk | hk
    · obtain ⟨q, e1, e2⟩ := hres.toks k hk
      refine ⟨?_, q, b1.ext _ _ e1, e2⟩
      have := shOut_in hkf _ hO.bsh
      have key : ∀ s : Sh, ShIn (· < c.fr) s → ∀ k ∈ toksOf s, k < c.fr := by
        intro s
        induction s with
        | tok k => intro h k' hk'; simp only [toksOf, List.mem_singleton] at hk'; subst hk'; exact h
        | pr s t ihs iht => intro h k' hk'; rcases List.mem_append.1 hk' with hk' | hk'; exact ihs h.1 k' hk'; exact iht h.2 k' hk'
        | _ => intro h k' hk'; simp [toksOf] at hk'
      exact key _ this k hk
    · obtain ⟨q, e1, e2⟩ := b4 k hk
      refine ⟨?_, q, e1, e2⟩
      have key : ∀ s : Sh, ShIn (· < c.fr) s → ∀ k ∈ toksOf s, k < c.fr := by
        intro s
        induction s with
        | tok k => intro h k' hk'; simp only [toksOf, List.mem_singleton] at hk'; subst hk'; exact h
        | pr s t ihs iht => intro h k' hk'; rcases List.mem_append.1 hk' with hk' | hk'; exact ihs h.1 k' hk'; exact iht h.2 k' hk'
        | _ => intro h k' hk'; simp [toksOf] at hk'
      simp only [outToks] at hk
      rcases List.mem_append.1 hk with hk | hk
      · obtain ⟨b, hb, hk⟩ := List.mem_flatMap.1 hk
        cases hs : b.sout with
        | none => rw [hs] at hk; simp at hk
        | some s => rw [hs] at hk; exact key _ (shOut_in hkf _ (hO.bs b hb s hs).2) k hk
      · obtain ⟨b, hb, hk⟩ := List.mem_flatMap.1 hk
        exact key _ (shOut_in hkf _ (hO.nb b hb).2.2) k hk
  -- variables
  have hbx : ∀ n z, look (outSt c y).bx n = some z → (∃ t s yv cc mi mi', z = .rw ⟨t, yv, s⟩ ∧ t.std = true ∧ s.plain = true ∧ shOut (upTo c.bs.length 0 ++ c.nb.map (·.1)) c.fr s = true ∧ n ∈ upTo c.bs.length 0 ++ c.nb.map (·.1) ∧ look st.bx n = some (.rw cc) ∧ FinR st c.fr t s cc mi yv mi' ∧ TmExt mi' mf) ∨
      (∃ k e l sc, n ∈ mkeys c.B c.bsh ∧ look mf n = some (some k) ∧ look st.bx k = some (.rw ⟨.ms e, l, sc⟩) ∧ z = .rw ⟨.ms e, l, .o⟩) := fun n z hz => by
    rcases List.mem_append.1 (look_mem hz) with hm | hm
    · left
      obtain ⟨t, s, yv, cc, mi, mi', e1, e2, e3, e4, e5⟩ := b3 n z hm
      rcases e2 with ⟨b, g1, g2, g3, g4, g5⟩ | e2
      · refine ⟨t, s, yv, cc, mi, mi', e1, by rw [← g2]; exact hw.std b g1, (hO.bs b g1 s g3).1, (hO.bs b g1 s g3).2, List.mem_append_left _ (mem_upTo.2 ⟨by omega, by omega⟩), e3, e4, e5⟩
      · obtain ⟨g1, g2, g3⟩ := hO.nb _ e2
        exact ⟨t, s, yv, cc, mi, mi', e1, g1, g2, g3, List.mem_append_right _ (List.mem_map.2 ⟨_, e2, rfl⟩), e3, e4, e5⟩
    · right
      obtain ⟨k, e, l, sc, e1, e2, e3⟩ := hres.rows n z hm
      obtain ⟨k', _, _, g1, _, _, g4⟩ := msOf_mem 0 _ _ _ hm
      rw [Nat.zero_add] at g1
      subst g1
      exact ⟨k, e, l, sc, g4, b1.ext _ _ e1, e2, e3⟩
  -- where the places were
  have hreg : ∀ l b o, reg (outSt c y) (MpOut M mf (mkeys c.B c.bsh)) l b o → ∃ l0, reg st M l0 b o ∧ ((l = .s 0 ∧ l0 = .s 0) ∨ (∃ n cc, l = .b n ∧ l0 = .b n ∧ look st.bx n = some (.rw cc) ∧ isMs cc.ty = false) ∨ (∃ n k cc, l = .b n ∧ n ∈ mkeys c.B c.bsh ∧ look mf n = some (some k) ∧ l0 = .b k ∧ look st.bx k = some (.rw cc) ∧ isMs cc.ty = true) ∨
      (∃ j k, l = .t j ∧ look mf j = some (some k) ∧ l0 = .t k)) := by
    intro l b o hl
    rcases l with (_ | n) | n | j
    · exact ⟨.s 0, hl, .inl ⟨rfl, rfl⟩⟩
    · exact hl.elim
    · obtain ⟨v', hv', hin⟩ := hl
      rcases hbx n _ hv' with ⟨t, s, yv, cc, mi, mi', e1, e2, e3, e4, e5, e6, e7, e8⟩ | ⟨k, e, l, sc, e1, e2, e3, e4⟩
      · cases e1
        have hty := e7.ty
        have hms := (std_ms e2).1
        refine ⟨.b n, ⟨cc, e6, ?_⟩, .inr (.inl ⟨n, cc, rfl, rfl, e6, by rw [hty]; exact hms⟩)⟩
        rw [inBox.plain hms, (MpOut_out (hks n e5)).2] at hin
        rw [inBox.plain (by rw [hty]; exact hms), hty]
        exact hin
      · cases e4
        refine ⟨.b k, ⟨_, e3, ?_⟩, .inr (.inr (.inl ⟨n, k, _, rfl, e1, e2, rfl, e3, rfl⟩))⟩
        obtain ⟨r1, r2⟩ := MpOut_mk (M := M) e1 e2
        unfold inBox at hin ⊢
        dsimp only at hin ⊢
        rw [r1] at hin
        exact hin
    · obtain ⟨hk, hin⟩ := hl
      obtain ⟨_, q, hq, hq2⟩ := htok j hk
      cases q with
      | none =>
        obtain ⟨q, g1, _⟩ := hin
        rw [show (MpOut M mf (mkeys c.B c.bsh)).tok j = (M.named mf).tok j from rfl, named_none hq] at g1
        cases g1
      | some k =>
        refine ⟨.t k, ⟨hq2 k rfl, ?_⟩, .inr (.inr (.inr ⟨j, k, rfl, hq, rfl⟩))⟩
        unfold inTok at hin ⊢
        rw [show (MpOut M mf (mkeys c.B c.bsh)).tok j = (M.named mf).tok j from rfl, named_some hq] at hin
        exact hin
  have hown : ∀ b o, own (outSt c y) (MpOut M mf (mkeys c.B c.bsh)) b o → own st M b o := fun b o ⟨l, hl⟩ => by
    obtain ⟨l0, h1, _⟩ := hreg l b o hl
    exact ⟨l0, h1⟩
  have hdead : ∀ k cv, look mf (c.fr + k) = some (some k) → look st.bx k = some (.rw cv) → isMs cv.ty = true → ∀ b o, inBox M k cv.ty b o → ¬ own (outSt c y) (MpOut M mf (mkeys c.B c.bsh)) b o := by
    rintro k cv hk hcv hcm b o hin ⟨l, hl⟩
    obtain ⟨l0, h1, h2⟩ := hreg l b o hl
    have e := h.dis _ _ _ _ h1 (show reg st M (.b k) b o from ⟨cv, hcv, hin⟩)
    subst e
    rcases h2 with ⟨_, e⟩ | ⟨n, cc, e1, e2, e3, e4⟩ | ⟨n, k', cc, e1, e2, e3, e4, e5, e6⟩ | ⟨j, k', _, _, e⟩
    · cases e
    · cases e2
      rw [hcv] at e3
      cases e3
      rw [hcm] at e4
      cases e4
    · cases e4
      have := hinj.inj _ _ _ hk e3
      have := hmf n e2
      omega
    · cases e
  refine ⟨⟨fun n u hn => ?_, fun n u hn => ?_, fun n z u hn => ?_, fun k hk => (htok k hk).1, fun b o hb => h.live b o (hown b o hb), fun l l' b o h1 h2 => ?_, h.keep, rfl, rfl, fun n u hn ht => by rw [outSt_tup hw hn] at ht; cases ht⟩, hbox⟩
  · have key : c.B ≠ .unit ∧ n = 0 ∧ u = ⟨c.B, (conOut c.B (outL c.bs c.nb) y).1, c.bsh⟩ := by
      unfold outSt at hn
      clear hv hdead hown hreg hbx htok hbox hres hB
      obtain ⟨A, ash, bs, B, bsh, nb, fr, F⟩ := c
      dsimp only at *
      generalize (conOut B (outL bs nb) y).1 = z at *
      cases B <;> first
        | (cases hn; done)
        | (rw [look_cons] at hn
           split at hn
           · rename_i e; subst e; cases hn; exact ⟨by simp, rfl, rfl⟩
           · cases hn)
    obtain ⟨k1, rfl, rfl⟩ := key
    exact ⟨by simpa [Array.getD_eq_getD_getElem?] using hv _ hown hdead k1, shOut_in hkf _ hO.bsh⟩
  · rcases hbx n _ hn with ⟨t, s, yv, cc, mi, mi', e1, e2, e3, e4, e5, e6, e7, e8⟩ | ⟨k, e, l, sc, e1, e2, e3, e4⟩
    · cases e1
      have hty := e7.ty
      obtain ⟨hms, htu⟩ := std_ms e2
      have hb := (h.bx _ _ e6).1
      obtain ⟨ht, cs, r, k⟩ := (BoxOk.plain (by rw [hty]; exact hms)).1 hb
      have r' := e7.rep h hown hks hdead e8 (fun j hj => by rw [plain_mkeys _ _ e3] at hj; cases hj) e4 ht cs r
      refine ⟨(BoxOk.plain (v := ⟨t, yv, s⟩) hms).2 ⟨htu, cs, r', ?_⟩, shOut_in hkf _ e4, hkf n e5⟩
      rw [(MpOut_out (hks n e5)).2]
      exact k
    · cases e4
      obtain ⟨t0, a', n', c', k1, k2, k3, k4, k5⟩ := (h.bx _ _ e3).1
      obtain ⟨r1, r2⟩ := MpOut_mk (M := M) e1 e2
      refine ⟨⟨t0, a', n', c', r1.trans k1, k2, k3, k4, fun p hp => ⟨r2.trans (k5 p hp).1, fun i z hi => ?_⟩⟩, trivial, hmf n e1⟩
      obtain ⟨es, f1, f2, f3⟩ := (k5 p hp).2 i z hi
      exact ⟨es, f1, f2, f3.mono P _ (Ext.refl _ _) (fun b o _ => hown b o) trivial⟩
  · rcases hbx n _ hn with ⟨t, s, yv, cc, mi, mi', e1, _⟩ | ⟨k, e, l, sc, e1, e2, e3, e4⟩
    · cases e1
    · cases e4
  · obtain ⟨l0, k1, k2⟩ := hreg l b o h1
    obtain ⟨l0', k3, k4⟩ := hreg l' b o h2
    have e := h.dis _ _ _ _ k1 k3
    subst e
    rcases k2 with ⟨f1, f2⟩ | ⟨n, cc, f1, f2, f3, f4⟩ | ⟨n, k, cc, f1, f2, f3, f4, f5, f6⟩ | ⟨j, k, f1, f2, f3⟩ <;>
      rcases k4 with ⟨g1, g2⟩ | ⟨n', cc', g1, g2, g3, g4⟩ | ⟨n', k', cc', g1, g2, g3, g4, g5, g6⟩ | ⟨j', k', g1, g2, g3⟩
    · rw [f1, g1]
    · rw [f2] at g2; cases g2
    · rw [f2] at g4; cases g4
    · rw [f2] at g3; cases g3
    · rw [f2] at g2; cases g2
    · rw [f2] at g2; cases g2; rw [f1, g1]
    · rw [f2] at g4; cases g4
      rw [f3] at g5; cases g5
      rw [f4] at g6; cases g6
    · rw [f2] at g3; cases g3
    · rw [f4] at g2; cases g2
    · rw [f4] at g2; cases g2
      rw [f5] at g3; cases g3
      rw [f6] at g4; cases g4
    · rw [f4] at g4; cases g4
      rw [f1, g1, hinj.inj _ _ _ f3 g3]
    · rw [f4] at g3; cases g3
    · rw [f3] at g2; cases g2
    · rw [f3] at g2; cases g2
    · rw [f3] at g4; cases g4
    · rw [f3] at g3; cases g3
      rw [f1, g1, hinj.inj _ _ _ f2 g2]

end Go.VX
/- VX, part 52: a function keeps its contract: the theorem. -/
set_option linter.unusedVariables false
set_option linter.unusedSimpArgs false
namespace Go.VX

def resSem (tmps : Array Value) : ResultVar → Sem Value
  | .tmp t => pure (tmps.getD t undef)
  | .cell a t => do loadVar t (← asAddr (tmps.getD a undef))
theorem resL_run {P : Program} {E : Env} (hE : EnvOk P E) {w0 : World} {I : Own} {nt : Nat} {U : Nat → Prop} {M : Mp} {st : St} {a : Act} {w : World} (h : Rel P w0 I nt U M st a w) :
    ∀ (rs : List ResultVar) (vs : List Vl), resL E st rs = some vs → ∃ xs : List Value, ValsIn P w (own st M) M U vs xs ∧
      (List.mapM (resSem a.tmps) rs).run P w = .ok xs w
  | [], vs, hv => by
    cases hv
    exact ⟨[], trivial, by rw [List.mapM_nil]; rfl⟩
  | r :: rs, vs, hv => by
    simp only [resL] at hv
    split at hv
    · rename_i v vs' h1 h2
      cases hv
      obtain ⟨xs, k1, k2⟩ := resL_run hE h rs vs' h2
      have hone : ∃ x, RepV P v.ty w (own st M) M v.val v.sh x ∧ ShIn U v.sh ∧ (resSem a.tmps r).run P w = .ok x w := by
        cases r with
        | tmp t =>
          simp only [resOne] at h1
          split at h1
          · rename_i u hu
            cases h1
            obtain ⟨r, s⟩ := h.sl t v hu
            exact ⟨_, r, s, rfl⟩
          · cases h1
        | cell ad t =>
          simp only [resOne] at h1
          split at h1
          · rename_i z id path off hu
            split at h1
            · rename_i c hc
              split at h1
              · rename_i u hp
                split at h1
                · rename_i q1 q2
                  cases h1
                  have q1 := of_decide_eq_true q1
                  simp only [Bool.and_eq_true] at q2
                  obtain ⟨q2, q3⟩ := q2
                  have q2 := of_decide_eq_true q2
                  obtain ⟨r, s⟩ := h.sl ad _ hu
                  obtain ⟨pp, e1, e2⟩ := rep_ptr r
                  dsimp only [PtrSh] at e1 e2
                  have hchk := hE.ty _ _ q2
                  have hms : isMs c.ty = false := msP hp (ms_std q3)
                  obtain ⟨ht, cs, rc, k⟩ := box_cells h (.inl hc) hms
                  obtain ⟨n, g1, g2, g3, g4⟩ := getP_rep path rc ht hp
                  rw [q1] at g1
                  cases g1
                  refine ⟨valOf v.ty.agg ((cs.drop off).take v.ty.size), rep_val g4 g3, getP_in _ _ _ hp (h.bx _ _ hc).2.1, ?_⟩
                  simp only [resSem]
                  rw [e1, e2]
                  simp only [asAddr, Sem.run_bind, Sem.run_pure, Result.andThen_ok]
                  refine run_loadVar (chk_info hchk (chk_std hchk g3)) (g4.len g3) fun j u hj => ?_
                  have := k _ _ (drop_take_get hj)
                  rwa [← Nat.add_assoc] at this
                · cases h1
              · cases h1
            · cases h1
          · cases h1
      obtain ⟨x, r1, r2, r3⟩ := hone
      refine ⟨x :: xs, ⟨r1, r2, k1⟩, ?_⟩
      rw [List.mapM_cons]
      simp only [Sem.run_bind, Sem.run_pure, Result.andThen_ok]
      rw [r3]
      simp only [Result.andThen_ok]
      rw [k2]
      rfl
    · cases hv

theorem results_run {P : Program} {E : Env} (hE : EnvOk P E) {w0 : World} {I : Own} {nt : Nat} {U : Nat → Prop} {M : Mp} {st : St} {a : Act} {w : World} (h : Rel P w0 I nt U M st a w) {fn : Func} {vs : List Vl} (hv : resL E st fn.results.toList = some vs) :
    ∃ xs : List Value, ValsIn P w (own st M) M U vs xs ∧ (results fn a.tmps).run P w = .ok (if h : xs.toArray.size = 1 then xs.toArray[0] else .tuple xs.toArray) w := by
  obtain ⟨xs, h1, h2⟩ := resL_run hE h _ _ hv
  refine ⟨xs, h1, ?_⟩
  have e : results fn a.tmps = (do
      let vs ← fn.results.mapM (resSem a.tmps)
      pure (if h : vs.size = 1 then vs[0] else .tuple vs)) := by
    unfold results
    congr 1
  rw [e, Array.mapM_eq_mapM_toList]
  simp only [Sem.run_bind, map_eq_pure_bind]
  rw [h2]
  rfl

theorem conOut_conRes : ∀ (B : Ty) (l : List Ty) (y : B.D) (o : (tuL l).D), conOut B l (conRes B l y o) = (y, o)
  | _, [], _, () => rfl
  | _, _ :: _, _, _ => rfl

theorem dstOk_mono {n m : Nat} (h : n ≤ m) : ∀ c : Code, dstOk n c = true → dstOk m c = true := by
  intro c
  induction c with
  | region id ops draw =>
    intro k
    refine List.all_eq_true.2 fun o ho => ?_
    have := List.all_eq_true.1 k o ho
    cases hd : o.dst with
    | none => rfl
    | some d =>
      rw [hd] at this
      exact Nat.ble_eq_true_of_le (Nat.le_trans (Nat.le_of_ble_eq_true this) h)
  | seq a b iha ihb =>
    intro k
    simp only [dstOk, Bool.and_eq_true] at k ⊢
    exact ⟨iha k.1, ihb k.2⟩
  | cond c a b iha ihb =>
    intro k
    simp only [dstOk, Bool.and_eq_true] at k ⊢
    exact ⟨iha k.1, ihb k.2⟩
  | block id c ih => exact ih
  | loop c ih => exact ih
  | _ => intro _; rfl

theorem run_sound {P : Program} {E : Env} (hE : EnvOk P E) (hQ : EqsOk P E) (hm : P.follows .mixedOrders = true) {f : FuncId} {fn : Func} {code : Code} {c : Con} {n : Ann} (hf : P.funcs[f]? = some fn) (hb : fn.body = some code)
    (hname : (fn.name == "runtime.NumGoroutine") = false) (hw : wfC c = true) (hd : dstOk fn.ntmps code = true) (hF : ∀ x, run E fn n c x = c.F x) : SoundC P f c := by
  refine ⟨⟨fn, hf, hname, by rw [hb]; rfl⟩, fun w M args x hrel y hy => calls_of_wp hf hb ?_⟩
  have W := wfC_spec hw
  have hO := wfO_spec W.out
  rw [← hF] at hy
  unfold run at hy
  rw [hb] at hy
  dsimp only at hy
  have hsz : (args ++ Array.replicate (fn.ntmps - args.size) undef).size = args.size + (fn.ntmps - args.size) := by simp
  have hrel' : Rel P w (ownN (inSt c x) M) (args.size + (fn.ntmps - args.size)) (· < c.fr) M (inSt c x) ⟨args ++ Array.replicate (fn.ntmps - args.size) undef, []⟩ w := by
    refine ⟨fun n v hn => ?_, hrel.bx, hrel.ro, hrel.tk, hrel.live, hrel.dis, hrel.keep, hsz, rfl, hrel.ob⟩
    obtain ⟨r, s⟩ := hrel.sl n v hn
    refine ⟨?_, s⟩
    have : (args ++ Array.replicate (fn.ntmps - args.size) undef).getD n undef = args.getD n undef := by
      simp only [Array.getD_eq_getD_getElem?, Array.getElem?_append]
      split
      · rfl
      · rename_i hlt
        rw [Array.getElem?_eq_none (by omega : args.size ≤ n), Array.getElem?_replicate]
        split <;> rfl
    dsimp only
    rw [this]
    exact r
  refine ev_ok hE hQ hm code n (inSt c x) _ y (· < c.fr) M _ w _ hy (dstOk_mono (by omega) code hd) hrel' (fun k hk => by have : c.fr ≤ k := hk; omega) ?_
  intro e st' U' M' a' w' h1 h2 h3 h4 h5 h6
  have main : (match resL E st' fn.results.toList with
        | some vs => match finR st' c.fr c.B c.bsh vs [] with
          | some (y, m) => match finB st' c.fr c.bs c.nb 0 m with
            | some (o, _) => some (conRes c.B (outL c.bs c.nb) y o)
            | none => none
          | none => none
        | none => none) = some y → a'.defers = [] ∧ ∃ v, (results fn a'.tmps).run P w' = .ok v w' ∧ ∃ v_1 M'_1, Ending.returned v = .returned v_1 ∧ M'_1.fr = M.fr ∧ (∀ k, k < c.bs.length → M'_1.box k = M.box k) ∧
          Rel P w (ownN (inSt c x) M) 1 (· < c.fr) M'_1 (outSt c y) ⟨#[v_1], []⟩ w' := by
    intro h1
    split at h1
    · rename_i vs hvs
      split at h1
      · rename_i yv m1 hm1
        split at h1
        · rename_i o mf hmf
          cases h1
          obtain ⟨xs, k1, k2⟩ := results_run hE h5 hvs
          refine ⟨h5.defs, _, k2, _, MpOut M' mf (mkeys c.B c.bsh), rfl, h4.1, ?_⟩
          have hmf' : finB st' c.fr c.bs c.nb 0 m1 = some ((conOut c.B (outL c.bs c.nb) (conRes c.B (outL c.bs c.nb) yv o)).2, mf) := by rw [conOut_conRes]; exact hmf
          obtain ⟨b1, _⟩ := finB_mem _ _ _ _ _ _ hmf'
          have hnd := nodupN_spec W.nodup
          rw [← List.append_assoc, List.nodup_append] at hnd
          have hks : ∀ k ∈ upTo c.bs.length 0 ++ c.nb.map (·.1), k ∉ mkeys c.B c.bsh := fun k hk hm => hnd.2.2 k hk k hm rfl
          have hfinal : ResOk st' c.fr c.B c.bsh [] yv m1 ∧ (∀ O' : Own, (∀ b o, O' b o → own st' M' b o) → (∀ k cv, look mf (c.fr + k) = some (some k) → look st'.bx k = some (.rw cv) → isMs cv.ty = true → ∀ b o, inBox M' k cv.ty b o → ¬ O' b o) → c.B ≠ .unit →
              RepV P c.B w' O' (MpOut M' mf (mkeys c.B c.bsh)) yv c.bsh (if h : xs.toArray.size = 1 then xs.toArray[0] else .tuple xs.toArray)) := by
            have tup : ∀ (B : Ty) (z : B.D), FinLR st' c.fr B c.bsh vs [] z m1 → vs.length ≠ 1 → (∀ a b, B = .tu a b → wfA (.tu a b) = true) → (∀ j ∈ mkeys B c.bsh, j ∈ mkeys c.B c.bsh) → ResOk st' c.fr B c.bsh [] z m1 ∧ (∀ O' : Own, (∀ b o, O' b o → own st' M' b o) → (∀ k cv, look mf (c.fr + k) = some (some k) → look st'.bx k = some (.rw cv) → isMs cv.ty = true → ∀ b o, inBox M' k cv.ty b o → ¬ O' b o) → B ≠ .unit →
              RepV P B w' O' (MpOut M' mf (mkeys c.B c.bsh)) z c.bsh (if h : xs.toArray.size = 1 then xs.toArray[0] else .tuple xs.toArray)) := by
              intro B z hL hlen hwa hmk
              refine ⟨hL.resOk, fun O' hO' hdead hB => ?_⟩
              have hxl := k1.len
              have hne : ¬ xs.toArray.size = 1 := by simp; omega
              rw [dif_neg hne]
              cases B with
              | tu a b => exact ⟨xs, rfl, hL.rep h5 hO' hks hdead b1 hmk hO.bsh (hwa a b rfl) xs k1⟩
              | unit => exact (hB rfl).elim
              | _ => cases hL
            cases vs with
            | nil =>
              have : FinLR st' c.fr c.B c.bsh [] [] yv m1 := by
                unfold finR at hm1
                clear tup k1 k2 hvs hmf hmf' hd hF hy hrel hrel' h2 h3 h4 h5 h6 b1 hnd hks hO W hw
                obtain ⟨A, ash, bs, B, bsh, nb, fr, F⟩ := c
                dsimp only at *
                cases B <;> first | (cases hm1; done) | exact finL_R _ _ _ _ _ _ hm1
              exact tup c.B yv this (by simp) (fun a b e => hO.tu a b e) (fun j hj => hj)
            | cons v vs =>
              cases vs with
              | cons u us =>
                have : FinLR st' c.fr c.B c.bsh (v :: u :: us) [] yv m1 := by
                  unfold finR at hm1
                  clear tup k1 k2 hvs hmf hmf' hd hF hy hrel hrel' h2 h3 h4 h5 h6 b1 hnd hks hO W hw
                  obtain ⟨A, ash, bs, B, bsh, nb, fr, F⟩ := c
                  dsimp only at *
                  cases B <;> first | (cases hm1; done) | exact finL_R _ _ _ _ _ _ hm1
                exact tup c.B yv this (by simp) (fun a b e => hO.tu a b e) (fun j hj => hj)
              | nil =>
                have hR : FinR st' c.fr c.B c.bsh v [] yv m1 ∧ c.B.tup = false := by
                  unfold finR at hm1
                  clear tup k1 k2 hvs hmf hmf' hd hF hy hrel hrel' h2 h3 h4 h5 h6 b1 hnd hks hO W hw
                  obtain ⟨A, ash, bs, B, bsh, nb, fr, F⟩ := c
                  dsimp only at *
                  cases B <;> first | (cases hm1; done) | exact ⟨finV_R _ _ _ _ _ _ hm1, rfl⟩
                obtain ⟨hR, htu⟩ := hR
                refine ⟨hR.resOk, fun O' hO' hdead hB => ?_⟩
                cases xs with
                | nil => exact k1.elim
                | cons z zs =>
                  cases zs with
                  | cons _ _ => exact k1.2.2.elim
                  | nil =>
                    rw [dif_pos (by simp)]
                    have hvt := hR.ty
                    have hvu : v.ty.tup = false := by rw [hvt]; exact htu
                    have r1 := (repV_of hvu).1 k1.1
                    refine (repV_of htu).2 ?_
                    have e : v.ty.agg = c.B.agg := by rw [hvt]
                    rw [← e]
                    exact r1.imp fun cs hc => hR.rep h5 hO' hks hdead b1 (fun j hj => hj) hO.bsh hvu cs hc
          have hout := out_rel h5 W (y := conRes c.B (outL c.bs c.nb) yv o) (m1 := m1) (mf := mf) (v := (if h : xs.toArray.size = 1 then xs.toArray[0] else .tuple xs.toArray)) (by rw [conOut_conRes]; exact hfinal.1) hmf' (by rw [conOut_conRes]; exact hfinal.2)
          refine ⟨fun k hk => (hout.2 k hk).trans (h4.2 k (Nat.lt_of_lt_of_le hk W.le)).1, hout.1⟩
        · cases h1
      · cases h1
    · cases h1
  cases e with
  | exit id => cases h1
  | normal => exact main h1
  | ret => exact main h1

#print axioms run_sound
end Go.VX
/- VX, part 53: an environment is right: what a machine may check. -/
set_option linter.unusedVariables false
set_option linter.unusedSimpArgs false
namespace Go.VX

def isArrB (P : Program) (t : Nat) : Bool := match P.underlying t with
  | some (.array _ _) => true
  | _ => false
def limB (P : Program) (t n : Nat) : Bool := match P.underlying t with
  | some (.slice e) => match P.info? e with
    | some i => Nat.blt 0 i.bytes && Nat.ble (n * i.bytes) 140737488355328
    | none => false
  | _ => false
def eqsB (P : Program) (t : Nat) (τ : Ty) : Bool := (chkE P τ).ty t && Nat.ble (depT τ) 10000 && !P.eqGuardType P.depth t
def mpB (P : Program) (t kt vt : Nat) : Bool := match P.underlying t with
  | some (.map k v) => Nat.beq k kt && Nat.beq v vt
  | _ => false
def envB (P : Program) (eqs arr : List Nat) (mps : List (Nat × Nat × Nat)) (ty : List (Nat × Ty)) (lim : List (Nat × Nat)) : Bool :=
  ty.all (fun p => (chk P p.2).ty p.1 && (memNat arr p.1 == isArrB P p.1) && (!memNat eqs p.1 || eqsB P p.1 p.2)) && lim.all (fun p => limB P p.1 p.2) && mps.all (fun p => mpB P p.1 p.2.1 p.2.2)

/-- All of these contracts hold. -/
inductive ConsOk (P : Program) : List (Nat × Con) → Prop
  | nil : ConsOk P []
  | cons {k : Nat} {c : Con} {l : List (Nat × Con)} : SoundC P k c ∧ wfC c = true → ConsOk P l → ConsOk P ((k, c) :: l)
theorem ConsOk.look {P : Program} : ∀ {l : List (Nat × Con)}, ConsOk P l → ∀ k c, look l k = some c → SoundC P k c ∧ wfC c = true
  | _, .nil, k, c, h => by cases h
  | _, .cons h1 h2, k, c, h => by
    rw [look_cons] at h
    split at h
    · rename_i e; subst e; cases h; exact h1
    · exact h2.look k c h

/-- All of these are slices.Insert. -/
inductive InsAll (P : Program) : List (Nat × Nat) → Prop
  | nil : InsAll P []
  | cons {f t : Nat} {l : List (Nat × Nat)} : InsOk P f t → InsAll P l → InsAll P ((f, t) :: l)
theorem InsAll.look {P : Program} : ∀ {l : List (Nat × Nat)}, InsAll P l → ∀ f t, look l f = some t → InsOk P f t
  | _, .nil, f, t, h => by cases h
  | _, .cons h1 h2, f, t, h => by
    rw [look_cons] at h
    split at h
    · rename_i e; subst e; cases h; exact h1
    · exact h2.look f t h

theorem env_ok {P : Program} {E : Env} (h : envB P E.eqs E.arr E.mps E.ty E.lim = true) (hc : ConsOk P E.con) (hin : InsAll P E.ins) : EnvOk P E ∧ EqsOk P E := by
  simp only [envB, Bool.and_eq_true] at h
  obtain ⟨⟨h1, h2⟩, h3⟩ := h
  have hty : ∀ t τ, look E.ty t = some τ → ((chk P τ).ty t = true ∧ (memNat E.arr t == isArrB P t) = true) ∧ (!memNat E.eqs t || eqsB P t τ) = true := fun t τ ht => by
    have := List.all_eq_true.1 h1 _ (look_mem ht)
    simpa only [Bool.and_eq_true] using this
  refine ⟨⟨fun t τ ht => (hty t τ ht).1.1, fun t n ht => ?_, fun f c hf => (hc.look f c hf).1, fun f c hf => (hc.look f c hf).2, fun t τ ht => ?_, fun t kt vt ht => ?_, hin.look⟩, ⟨fun t τ he ht => ?_⟩⟩
  · have := List.all_eq_true.1 h2 _ (look_mem ht)
    unfold limB at this
    dsimp only at this
    split at this
    · rename_i e hu
      split at this
      · rename_i i hi
        simp only [Bool.and_eq_true] at this
        exact ⟨e, i, hu, hi, Nat.lt_of_lt_of_le (Nat.le_of_ble_eq_true this.1) (Nat.le_refl _), Nat.le_of_ble_eq_true this.2⟩
      · cases this
    · cases this
  · have := (hty t τ ht).1.2
    rw [beq_iff_eq] at this
    rw [this]
    unfold isArrB
    split
    · rename_i n e hu; exact ⟨fun _ => ⟨n, e, hu⟩, fun _ => rfl⟩
    · rename_i hne
      exact ⟨fun h => (by cases h), fun ⟨n, e, hu⟩ => (hne n e hu).elim⟩
  · have := List.all_eq_true.1 h3 _ (look_mem ht)
    unfold mpB at this
    dsimp only at this
    split at this
    · rename_i k v hu
      simp only [Bool.and_eq_true] at this
      rw [hu, Nat.eq_of_beq_eq_true this.1, Nat.eq_of_beq_eq_true this.2]
    · cases this
  · have := (hty t τ ht).2
    rw [he, Bool.not_true, Bool.false_or] at this
    unfold eqsB at this
    simp only [Bool.and_eq_true, Bool.not_eq_true'] at this
    exact ⟨this.1.1, Nat.le_of_ble_eq_true this.1.2, this.2⟩

/-- One function's theorem. -/
theorem sound_of {P : Program} {E : Env} (h : envB P E.eqs E.arr E.mps E.ty E.lim = true) (hc : ConsOk P E.con) (hm : P.follows .mixedOrders = true) {f : FuncId} {fn : Func} {code : Code} {c : Con} {n : Ann} (hf : P.funcs[f]? = some fn) (hb : fn.body = some code)
    (hk : ((!(fn.name == "runtime.NumGoroutine")) && dstOk fn.ntmps code && wfC c) = true) (hF : ∀ x, run E fn n c x = c.F x) (hin : InsAll P E.ins) : SoundC P f c ∧ wfC c = true := by
  simp only [Bool.and_eq_true, Bool.not_eq_true'] at hk
  obtain ⟨⟨h1, h2⟩, h3⟩ := hk
  obtain ⟨hE, hQ⟩ := env_ok h hc hin
  exact ⟨run_sound hE hQ hm hf hb h1 h3 h2 hF, h3⟩
def bodyB (fn : Func) (c : Con) : Bool := match fn.body with
  | some code => (!(fn.name == "runtime.NumGoroutine")) && dstOk fn.ntmps code && wfC c
  | none => false
theorem sound_any {P : Program} {E : Env} (h : envB P E.eqs E.arr E.mps E.ty E.lim = true) (hc : ConsOk P E.con) (hm : P.follows .mixedOrders = true) {f : FuncId} {fn : Func} {c : Con} {n : Ann} (hf : P.funcs[f]? = some fn)
    (hk : bodyB fn c = true) (hF : ∀ x, run E fn n c x = c.F x) (hin : InsAll P E.ins := by exact .nil) : SoundC P f c ∧ wfC c = true := by
  unfold bodyB at hk
  split at hk
  · rename_i code hb
    exact sound_of h hc hm hf hb hk hF hin
  · cases hk

end Go.VX
/- VX, part 56: functions that call themselves. -/
set_option linter.unusedVariables false
set_option linter.unusedSimpArgs false
namespace Go.VX

/-- What a function that calls itself comes to, if it comes to an end. -/
noncomputable def recP {α β : Type} (F : Nat → α → Option β) (x : α) : Option β :=
  match Classical.propDecidable (∃ n, (F n x).isSome = true) with
  | isTrue h => F (Classical.choose h) x
  | isFalse _ => none
theorem recP_some {α β : Type} {F : Nat → α → Option β} {x : α} {y : β} (h : recP F x = some y) : ∃ n, F n x = some y := by
  unfold recP at h
  split at h
  · exact ⟨_, h⟩
  · cases h
theorem recP_is {α β : Type} {F : Nat → α → Option β} {x : α} {v : β} (h : ∀ n y, F n x = some y → y = v) (n : Nat) (hn : F n x = some v) : recP F x = some v := by
  cases hr : recP F x with
  | some y =>
    obtain ⟨m, hm⟩ := recP_some hr
    rw [h m y hm]
  | none =>
    unfold recP at hr
    split at hr
    · rename_i hx _
      have := Classical.choose_spec hx
      rw [hr] at this
      cases this
    · rename_i hx _
      exact (hx ⟨n, by rw [hn]; rfl⟩).elim
theorem sound_none {P : Program} {f : FuncId} {fn : Func} {c : Con} (hf : P.funcs[f]? = some fn) (hk : bodyB fn c = true) (hF : ∀ x, c.F x = none) : SoundC P f c ∧ wfC c = true := by
  unfold bodyB at hk
  split at hk
  · rename_i code hb
    simp only [Bool.and_eq_true, Bool.not_eq_true'] at hk
    refine ⟨⟨⟨fn, hf, hk.1.1, by rw [hb]; rfl⟩, fun w M args x _ y hy => ?_⟩, hk.2⟩
    rw [hF] at hy
    cases hy
  · cases hk
theorem sound_rec {P : Program} {f : FuncId} {A : Ty} {ash : List Sh} {bs : _} {B : Ty} {bsh : _} {nb : _} {fr : Nat} {F : Nat → _} (h : ∀ n, SoundC P f ⟨A, ash, bs, B, bsh, nb, fr, F n⟩ ∧ wfC ⟨A, ash, bs, B, bsh, nb, fr, F n⟩ = true) :
    SoundC P f ⟨A, ash, bs, B, bsh, nb, fr, recP F⟩ ∧ wfC ⟨A, ash, bs, B, bsh, nb, fr, recP F⟩ = true := by
  refine ⟨⟨(h 0).1.1, fun w M args x hr y hy => ?_⟩, (h 0).2⟩
  obtain ⟨n, hn⟩ := recP_some hy
  exact (h n).1.2 w M args x hr y hn
end Go.VX
/- VX, part 58: functions with so much leave, that come to an end by reckoning: what they come to is what the functions come to. -/
set_option linter.unusedVariables false
set_option linter.unusedSimpArgs false
namespace Go.VX

def Up {α : Type} (x y : Option α) : Prop := ∀ v, x = some v → y = some v
theorem up_same {α : Type} (x : Option α) : Up x x := fun _ h => h
theorem up_none {α : Type} (x : Option α) : Up none x := fun _ h => by cases h
theorem up_bnd {α β : Type} {x x' : Option α} {f f' : α → Option β} (h : Up x x') (hf : ∀ a, Up (f a) (f' a)) : Up (bnd x f) (bnd x' f') := by
  intro v hv
  cases hx : x with
  | none => rw [hx] at hv; cases hv
  | some a =>
    rw [hx] at hv
    rw [h a hx]
    exact hf a v hv
theorem up_bndS {α β : Type} {x x' : Option (α ⊕ β)} {f f' : α → Option β} (h : Up x x') (hf : ∀ a, Up (f a) (f' a)) : Up (bndS x f) (bndS x' f') := by
  intro v hv
  cases hx : x with
  | none => rw [hx] at hv; cases hv
  | some a =>
    rw [hx] at hv
    rw [h a hx]
    cases a with
    | inl a => exact hf a v hv
    | inr r => exact hv
theorem up_cnd {α : Type} (b : Bool) {x x' y y' : Option α} (h : Up x x') (h' : Up y y') : Up (cnd b x y) (cnd b x' y') := by
  cases b
  · exact h'
  · exact h
theorem up_inr {α β : Type} {x x' : Option β} (h : Up x x') : Up (inrE (α := α) x) (inrE x') := by
  intro v hv
  cases hx : x with
  | none => rw [hx] at hv; cases hv
  | some a =>
    rw [hx] at hv
    rw [h a hx]
    exact hv
/-- Where both may be, none is reckoned. -/
def ambN {α : Type} (b : Bool) (k : Bool → Option α) : Option α :=
  match b with
  | true => none
  | false => k false
theorem up_amb {α : Type} (b : Bool) {k k' : Bool → Option α} (h : ∀ q, Up (k q) (k' q)) : Up (ambN b k) (amb b k') := by
  cases b
  · exact h false
  · exact up_none _
def lpN {σ ρ : Type} (n : Nat) (f : σ → Option (σ ⊕ ρ)) (s : σ) : Option ρ := loopN f n s
theorem loopN_up {σ ρ : Type} {f g : σ → Option (σ ⊕ ρ)} (h : ∀ s, Up (f s) (g s)) : ∀ n s, Up (loopN f n s) (loopN g n s)
  | 0, s => up_none _
  | n + 1, s => by
    intro v hv
    simp only [loopN] at hv ⊢
    cases hf : f s with
    | none => rw [hf] at hv; cases hv
    | some a =>
      rw [hf] at hv
      rw [h s a hf]
      cases a with
      | inl a => exact loopN_up h n a v hv
      | inr r => exact hv
theorem loopN_more {σ ρ : Type} {f : σ → Option (σ ⊕ ρ)} : ∀ n k s v, loopN f n s = some v → loopN f (n + k) s = some v
  | 0, k, s, v, h => by cases h
  | n + 1, k, s, v, h => by
    rw [Nat.succ_add]
    simp only [loopN] at h ⊢
    cases hf : f s with
    | none => rw [hf] at h; cases h
    | some a =>
      rw [hf] at h
      cases a with
      | inl a => exact loopN_more n k a v h
      | inr r => exact h
theorem loopP_one {σ ρ : Type} {f : σ → Option (σ ⊕ ρ)} {n : Nat} {s : σ} {v : ρ} (h : loopN f n s = some v) : loopP f s = some v := by
  unfold loopP
  split
  · rename_i hx _
    have hc := Classical.choose_spec hx
    cases hm : loopN f (Classical.choose hx) s with
    | none => rw [hm] at hc; cases hc
    | some y =>
      have h1 := loopN_more _ n s y hm
      have h2 := loopN_more n (Classical.choose hx) s v h
      rw [Nat.add_comm, h1] at h2
      exact h2
  · rename_i hx _
    exact (hx ⟨n, by rw [h]; rfl⟩).elim
theorem up_loop {σ ρ : Type} {f g : σ → Option (σ ⊕ ρ)} (n : Nat) (s : σ) (h : ∀ s, Up (f s) (g s)) : Up (lpN n f s) (loopP g s) :=
  fun v hv => loopP_one (loopN_up h n s v hv)
theorem up_loopP {σ ρ : Type} {f g : σ → Option (σ ⊕ ρ)} (s : σ) (h : ∀ s, Up (f s) (g s)) : Up (loopP f s) (loopP g s) := by
  intro v hv
  obtain ⟨n, hn⟩ : ∃ n, loopN f n s = some v := by
    unfold loopP at hv
    split at hv
    · exact ⟨_, hv⟩
    · cases hv
  exact loopP_one (loopN_up h n s v hn)
theorem up_rec {α β : Type} {F : Nat → α → Option β} (hm : ∀ n x, Up (F n x) (F (n + 1) x)) (n : Nat) (x : α) {c : Option β} (hc : Up c (F n x)) : Up c (recP F x) := by
  intro v h
  have up : ∀ (n k : Nat) x, Up (F n x) (F (n + k) x) := by
    intro n k x
    induction k with
    | zero => exact up_same _
    | succ k ih => exact fun v hv => hm (n + k) x v (ih v hv)
  refine recP_is (fun m y hy => ?_) n (hc v h)
  have h1 := up n m x v (hc v h)
  have h2 := up m n x y hy
  rw [Nat.add_comm m n, h1] at h2
  exact (Option.some.inj h2).symm
theorem up_clone {α : Type} (lim : Nat) (l : List α) : Up (app lim [] l) (amb l.isEmpty fun q => cnd q (some []) (bnd (app lim [] l) fun v => some v)) := by
  intro v hv
  cases l with
  | nil =>
    have e : app lim ([] : List α) [] = some [] := by unfold app; rw [if_pos (by simp)]; rfl
    rw [e] at hv ⊢
    cases hv
    show amb true _ = _
    unfold amb
    dsimp only
    split
    · rfl
    · rename_i h _
      exact (h rfl).elim
  | cons a l =>
    show bnd (app lim [] (a :: l)) (fun v => some v) = _
    rw [hv]; rfl
theorem up_some {α : Type} {x y : Option α} {v : α} (h : Up x y) (hx : x = some v) : y = some v := h v hx
end Go.VX
/- VX, part 54: a law's row: what is handed in. -/
set_option linter.unusedVariables false
set_option linter.unusedSimpArgs false
namespace Go.VX
open Go.RowKit (Below)

/-- Data that may lie in memory. -/
def Ty.wf : (t : Ty) → t.D → Prop
  | .int k, x => k.min ≤ x ∧ x ≤ k.max
  | .str, x => List.length x ≤ 9223372036854775807 ∧ ∀ b ∈ (x : List Int), 0 ≤ b ∧ b ≤ 255
  | .sl e, x => List.length x ≤ 9223372036854775807 ∧ ∀ y ∈ (x : List e.D), e.wf y
  | .pr a b, x => a.wf x.1 ∧ b.wf x.2
  | .tu a b, x => a.wf x.1 ∧ b.wf x.2
  | _, _ => True

theorem rep_wf {P : Program} : ∀ (t : Ty) {w : World} {O : Own} {M : Mp} {x : t.D} {cs : List Value}, RepC P t w O M x .o cs → t.wf x
  | .int k, _, _, _, x, _, r => ⟨r.2.1, r.2.2⟩
  | .str, _, _, _, x, _, r => by
    obtain ⟨s, _, rfl, hl⟩ := r
    refine ⟨hl, fun b hb => ?_⟩
    obtain ⟨u, _, rfl⟩ := List.mem_map.1 hb
    have := u.toNat_lt
    omega
  | .sl e, _, _, _, x, _, r => by
    obtain ⟨a, n, c, e1, e2, e3, e4, e5⟩ := r
    refine ⟨by rw [← e2]; exact e3.2, fun y hy => ?_⟩
    obtain ⟨i, hi⟩ := List.getElem?_of_mem hy
    cases ha : a with
    | none =>
      have := e4 ha
      have := (List.getElem?_eq_some_iff.1 hi).1
      have := e3.1
      omega
    | some p =>
      obtain ⟨es, _, _, r⟩ := e5 p ha i y hi
      exact rep_wf e r
  | .pr a b, _, _, _, x, _, r => by
    obtain ⟨c1, c2, _, _, _, _, _, r1, r2⟩ := r
    exact ⟨rep_wf a r1, rep_wf b r2⟩
  | .tu a b, _, _, _, x, _, r => by
    obtain ⟨v, vs, _, _, r1, r2⟩ := r
    refine ⟨?_, rep_wf b r2⟩
    unfold ValOf at r1
    split at r1
    · obtain ⟨cs, _, r1⟩ := r1; exact rep_wf a r1
    · exact rep_wf a r1
  | .bool, _, _, _, _, _, _ | .ptr, _, _, _, _, _, _ | .unit, _, _, _, _, _, _ | .ms _, _, _, _, _, _, _ | .fn _ _, _, _, _, _, _, _ | .rref _, _, _, _, _, _, _ | .eref, _, _, _, _, _, _ | .mh, _, _, _, _, _, _ | .nx, _, _, _, _, _, _ => trivial

/-- No slice of things without cells. -/
def szOk : Ty → Bool
  | .sl e => Nat.blt 0 e.size && szOk e
  | .pr a b => szOk a && szOk b
  | .int _ => true
  | .bool => true
  | .str => true
  | .ptr => true
  | .unit => true
  | _ => false
theorem szOk_tup {t : Ty} (h : szOk t = true) : t.tup = false := by cases t <;> first | rfl | cases h
theorem take_two {cs : List Value} {o a b : Nat} : (cs.drop o).take (a + b) = (cs.drop o).take a ++ (cs.drop (o + a)).take b := by
  rw [List.take_add, List.drop_drop]

theorem cellsOf_eq {P : Program} {τ : Ty} {t : TypeId} (h : infoB P τ t = true) : P.cellsOf t = τ.size := by
  obtain ⟨_, x, d, hx, _, hs, _⟩ := infoB_spec h
  simp [Program.cellsOf, hx, hs]

theorem cells_get {w : World} {a : Addr} : ∀ {n : Nat} {cs : List Value}, w.cells? 0 a n = some cs → cs.length = n ∧ ∀ j v, cs[j]? = some v → w.cell? (a.add j) = some v := by
  intro n cs h
  simp only [World.cells?, Nat.zero_le, if_true] at h
  have hl := mapM_some_length h
  refine ⟨by simpa using hl, fun j v hj => ?_⟩
  have hjn : j < n := by have := (List.getElem?_eq_some_iff.1 hj).1; simp at hl; omega
  have := mapM_some_get h j j (by simp [hjn])
  rw [this, hj]

/-- What is read opens. -/
structure Opens (P : Program) (w : World) (H : Type) (enc : TypeId × Value → H) (held : Bool) (τ : Ty) : Prop where
  ty : ∀ (t : TypeId) (fuel : Nat) (cs : List Value) x, (chk P τ).ty t = true → DataW.trod enc P w 0 (fun _ => true) held fuel t cs = some x → ∃ y : τ.D, RepC P τ w noOwn default y .o cs
  fs : ∀ (l : List Field) (off : Nat) (cs : List Value), (chk P τ).fs l off = true → off + τ.size ≤ cs.length → (∀ f ∈ l, ∃ n x, DataW.trod enc P w 0 (fun _ => true) held n f.type ((cs.drop f.offset).take (P.cellsOf f.type)) = some x) →
    ∃ y : τ.D, RepC P τ w noOwn default y .o ((cs.drop off).take τ.size)
  ar : ∀ (n : Nat) (e : TypeId) (k : Nat) (cs : List Value), (chk P τ).ar n e = true → k * P.cellsOf e + τ.size ≤ cs.length → (∀ i, k ≤ i → i < k + n → ∃ m x, DataW.trod enc P w 0 (fun _ => true) held m e ((cs.drop (i * P.cellsOf e)).take (P.cellsOf e)) = some x) →
    ∃ y : τ.D, RepC P τ w noOwn default y .o ((cs.drop (k * P.cellsOf e)).take τ.size)

theorem lit_in {k : IntKind} {n : Int} (h : (Lit.int k n).wf = true) : k.min ≤ n ∧ n ≤ k.max := by simpa [Lit.wf] using h

theorem list_of {α : Type} {R : Nat → α → Prop} : ∀ (n : Nat), (∀ i, i < n → ∃ y, R i y) → ∃ l : List α, l.length = n ∧ ∀ (i : Nat) y, l[i]? = some y → R i y
  | 0, _ => ⟨[], rfl, fun i y h => by simp at h⟩
  | n + 1, h => by
    obtain ⟨l, h1, h2⟩ := list_of n fun i hi => h i (by omega)
    obtain ⟨y, hy⟩ := h n (by omega)
    refine ⟨l ++ [y], by simp [h1], fun i z hz => ?_⟩
    rw [List.getElem?_append] at hz
    split at hz
    · exact h2 i z hz
    · rename_i hlt
      have : i = n := by
        have := (List.getElem?_eq_some_iff.1 hz).1
        simp at this
        omega
      subst this
      rw [h1, Nat.sub_self] at hz
      simp only [List.getElem?_cons_zero, Option.some.injEq] at hz
      subst hz
      exact hy

theorem opens {P : Program} {w : World} {H : Type} {enc : TypeId × Value → H} {held : Bool} : ∀ (τ : Ty), szOk τ = true → Opens P w H enc held τ := by
  intro τ
  induction τ with
  | int k =>
    intro _
    refine ⟨fun t fuel cs x hc h => ?_, fun l off cs h => by simp [chk] at h, fun n e k' cs h => by simp [chk] at h⟩
    obtain ⟨n, rfl, _, hw⟩ := DataW.trod_int (chk_int hc) h
    obtain ⟨h1, h2⟩ := lit_in hw
    exact ⟨n, rfl, h1, h2⟩
  | bool =>
    intro _
    refine ⟨fun t fuel cs x hc h => ?_, fun l off cs h => by simp [chk] at h, fun n e k' cs h => by simp [chk] at h⟩
    have hu : P.underlying t = some .bool := by
      simp only [chk, Bool.and_eq_true] at hc
      have := hc.2
      split at this
      · assumption
      · cases this
    obtain ⟨b, rfl, _⟩ := DataW.trod_bool hu h
    exact ⟨b, rfl⟩
  | str =>
    intro _
    refine ⟨fun t fuel cs x hc h => ?_, fun l off cs h => by simp [chk] at h, fun n e k' cs h => by simp [chk] at h⟩
    obtain ⟨s, rfl, _, hl⟩ := DataW.trod_string (chk_str hc) h
    refine ⟨strOf s, s, rfl, rfl, ?_⟩
    rw [strOf_length]
    exact hl
  | ptr =>
    intro _
    refine ⟨fun t fuel cs x hc h => ?_, fun l off cs h => by simp [chk] at h, fun n e k' cs h => by simp [chk] at h⟩
    obtain ⟨e, he⟩ := chk_ptr hc
    rcases DataW.trod_pointer he h with ⟨rfl, _⟩ | ⟨a, cs', y, n, _, rfl, _⟩
    · exact ⟨(), none, rfl, trivial⟩
    · exact ⟨(), some a, rfl, trivial⟩
  | unit =>
    intro _
    refine ⟨fun t fuel cs x hc h => ?_, fun l off cs h _ _ => ⟨(), by simp [RepC, Ty.size]⟩, fun n e k' cs h _ _ => ⟨(), by simp [RepC, Ty.size]⟩⟩
    have hi := chk_info hc rfl
    simp only [chk, Bool.and_eq_true] at hc
    have := hc.2
    split at this
    · rename_i fs hu
      obtain ⟨xs, n, _, _, hl, _⟩ := DataW.trod_struct hu h
      rw [cellsOf_eq hi] at hl
      exact ⟨(), List.eq_nil_of_length_eq_zero hl⟩
    · cases this
  | sl e ih =>
    intro hz
    simp only [szOk, Bool.and_eq_true] at hz
    have hpos : 0 < e.size := Nat.lt_of_lt_of_le (Nat.le_of_ble_eq_true hz.1) (Nat.le_refl _)
    have IH := ih hz.2
    refine ⟨fun t fuel cs x hc h => ?_, fun l off cs h => by simp [chk] at h, fun n e k' cs h => by simp [chk] at h⟩
    obtain ⟨j, hj, hjc, hjm⟩ := chk_sl hc
    have hsz := cellsOf_eq (chk_info hjc (mem_std hjm))
    rcases DataW.trod_slice hj h with ⟨rfl, _⟩ | ⟨a, len, cap, elems, rest, n, _, rfl, _, _, hlc, hcm, hel, he, hr, _⟩
    · exact ⟨[], none, 0, 0, .inl rfl, rfl, ⟨Nat.le_refl _, Nat.zero_le _⟩, fun _ => rfl, fun p hp => by cases hp⟩
    · rw [hsz] at he hr
      have hspot : 0 < cap → a = ⟨a.block, a.off, none⟩ := fun hcap => by
        have hcell : ∃ v, w.cell? a = some v := by
          have key : ∀ i, ((w.cells? 0 (a.add (0 * e.size)) e.size).bind (DataW.trod enc P w 0 (fun _ => true) held n j)) = some i → ∃ v, w.cell? a = some v := fun i hi => by
            obtain ⟨cs', h1, _⟩ := Option.bind_eq_some_iff.1 hi
            obtain ⟨hl, hg⟩ := cells_get h1
            have h0 : 0 < cs'.length := by omega
            have := hg 0 _ (List.getElem?_eq_getElem h0)
            simp only [Nat.zero_mul, Addr.add, if_true] at this
            exact ⟨_, this⟩
          rcases Nat.eq_zero_or_pos len with h0 | h0
          · subst h0
            obtain ⟨r1, r2⟩ := hr rfl
            have := r2 0 (by omega)
            rw [List.getElem?_eq_getElem (by omega)] at this
            exact key _ this
          · have := he 0 h0
            rw [List.getElem?_eq_getElem (by omega)] at this
            exact key _ this
        obtain ⟨v, hv⟩ := hcell
        obtain ⟨b, o, s⟩ := a
        simp only [World.cell?] at hv
        split at hv
        · cases s with
          | none => rfl
          | some s => simp at hv
        · cases hv
      have hall : ∀ i, i < len → ∃ (y : e.D), ∃ cs', w.cells? 0 (a.add (i * e.size)) e.size = some cs' ∧ RepC P e w noOwn default y .o cs' := fun i hi => by
        have := he i hi
        rw [List.getElem?_eq_getElem (by omega)] at this
        obtain ⟨cs', h1, h2⟩ := Option.bind_eq_some_iff.1 this
        obtain ⟨y, hy⟩ := IH.ty j n cs' _ hjc h2
        exact ⟨y, cs', h1, hy⟩
      obtain ⟨l, l1, l2⟩ := list_of len hall
      refine ⟨l, some (a.block, a.off), len, cap, ?_, l1.symm, ⟨hlc, by have : cap ≤ 2 ^ 63 - 1 := hcm; omega⟩, fun h => (by cases h), fun p hp i y hi => ?_⟩
      · rcases Nat.eq_zero_or_pos cap with h0 | h0
        · exact .inr ⟨rfl, h0, a, _, rfl, rfl⟩
        · left
          have := hspot h0
          rw [this]
          rfl
      · cases hp
        obtain ⟨cs', h1, h2⟩ := l2 i y hi
        obtain ⟨hl, hg⟩ := cells_get h1
        refine ⟨cs', hl, fun k u hk => ⟨?_, fun h => h⟩, h2⟩
        have hi' : i < len := by rw [← l1]; exact (List.getElem?_eq_some_iff.1 hi).1
        have hsp := hspot (by omega)
        have := hg k u hk
        rw [hsp, adr_add, adr_add] at this
        exact this
  | pr a b iha ihb =>
    intro hz
    simp only [szOk, Bool.and_eq_true] at hz
    have IHa := iha hz.1
    have IHb := ihb hz.2
    have FS : ∀ (l : List Field) (off : Nat) (cs : List Value), (chk P (.pr a b)).fs l off = true → off + (Ty.pr a b).size ≤ cs.length → (∀ f ∈ l, ∃ n x, DataW.trod enc P w 0 (fun _ => true) held n f.type ((cs.drop f.offset).take (P.cellsOf f.type)) = some x) →
        ∃ y : (Ty.pr a b).D, RepC P (.pr a b) w noOwn default y .o ((cs.drop off).take (Ty.pr a b).size) := fun l off cs h hl hf => by
      cases l with
      | nil => simp [chk] at h
      | cons f r =>
        simp only [chk, Bool.and_eq_true] at h
        obtain ⟨⟨h1, h2⟩, h3⟩ := h
        have h1 := Nat.eq_of_beq_eq_true h1
        obtain ⟨n, x, hx⟩ := hf f List.mem_cons_self
        have hat := szOk_tup hz.1
        have hbt := szOk_tup hz.2
        have hsa := cellsOf_eq (chk_info h2 (by cases a <;> first | rfl | cases hz.1))
        rw [hsa, h1] at hx
        simp only [Ty.size] at hl
        obtain ⟨y, hy⟩ := IHa.ty f.type n _ x h2 hx
        obtain ⟨z, hzz⟩ := IHb.fs r (off + a.size) cs h3 (by omega) fun f' hf' => hf f' (List.mem_cons_of_mem _ hf')
        refine ⟨(y, z), _, _, take_two, ?_, ?_, hat, hbt, hy, hzz⟩
        · rw [List.length_take, List.length_drop]; omega
        · rw [List.length_take, List.length_drop]; omega
    have AR : ∀ (n : Nat) (e : TypeId) (k : Nat) (cs : List Value), (chk P (.pr a b)).ar n e = true → k * P.cellsOf e + (Ty.pr a b).size ≤ cs.length → (∀ i, k ≤ i → i < k + n → ∃ m x, DataW.trod enc P w 0 (fun _ => true) held m e ((cs.drop (i * P.cellsOf e)).take (P.cellsOf e)) = some x) →
        ∃ y : (Ty.pr a b).D, RepC P (.pr a b) w noOwn default y .o ((cs.drop (k * P.cellsOf e)).take (Ty.pr a b).size) := fun n e k cs h hl hf => by
      cases n with
      | zero => simp [chk] at h
      | succ n =>
        simp only [chk, Bool.and_eq_true] at h
        obtain ⟨h2, h3⟩ := h
        obtain ⟨m, x, hx⟩ := hf k (Nat.le_refl _) (by omega)
        have hat := szOk_tup hz.1
        have hbt := szOk_tup hz.2
        have hsa := cellsOf_eq (chk_info h2 (by cases a <;> first | rfl | cases hz.1))
        simp only [Ty.size] at hl
        have hx' := hx
        rw [hsa] at hx'
        obtain ⟨y, hy⟩ := IHa.ty e m _ x h2 hx'
        have hk : (k + 1) * P.cellsOf e = k * P.cellsOf e + a.size := by rw [Nat.succ_mul, hsa]
        obtain ⟨z, hzz⟩ := IHb.ar n e (k + 1) cs h3 (by rw [hk]; omega) fun i h1 h2 => hf i (by omega) (by omega)
        rw [hk] at hzz
        refine ⟨(y, z), _, _, take_two, ?_, ?_, hat, hbt, by rw [hsa]; exact hy, hzz⟩
        · rw [List.length_take, List.length_drop]; omega
        · rw [List.length_take, List.length_drop]; omega
    refine ⟨fun t fuel cs x hc h => ?_, FS, AR⟩
    have hi := chk_info hc rfl
    have hsz := cellsOf_eq hi
    have hc2 : (match P.underlying t with
      | some (.struct l) => (chk P (.pr a b)).fs l.toList 0
      | some (.array n e) => (chk P (.pr a b)).ar n e
      | _ => false) = true := by
      simp only [chk, Bool.and_eq_true] at hc
      exact hc.2
    split at hc2
    · rename_i l hu
      obtain ⟨xs, n, _, _, hl, hxl, hget⟩ := DataW.trod_struct hu h
      obtain ⟨y, hy⟩ := FS l.toList 0 cs hc2 (by omega) fun f hf => by
        obtain ⟨i, hi⟩ := List.getElem?_of_mem hf
        have hi' : l[i]? = some f := by simpa using hi
        have := hget i f hi'
        have hil : i < xs.length := by rw [hxl]; exact (Array.getElem?_eq_some_iff.1 hi').1
        rw [List.getElem?_eq_getElem hil] at this
        exact ⟨n, _, this⟩
      refine ⟨y, ?_⟩
      have e : (cs.drop 0).take (Ty.pr a b).size = cs := by rw [List.drop_zero, List.take_of_length_le (by omega)]
      rw [e] at hy
      exact hy
    · rename_i n e hu
      obtain ⟨xs, m, _, _, hl, hxl, hget⟩ := DataW.trod_array hu h
      obtain ⟨y, hy⟩ := AR n e 0 cs hc2 (by rw [Nat.zero_mul]; omega) fun i _ hi => by
        have := hget i (by omega)
        rw [List.getElem?_eq_getElem (by omega)] at this
        exact ⟨m, _, this⟩
      refine ⟨y, ?_⟩
      have e : (cs.drop (0 * P.cellsOf e)).take (Ty.pr a b).size = cs := by rw [Nat.zero_mul, List.drop_zero, List.take_of_length_le (by omega)]
      rw [e] at hy
      exact hy
    · cases hc2
  | _ => intro h; cases h

/-- An argument opens. -/
theorem open_val {P : Program} {W : World} {H : Type} {enc : TypeId × Value → H} {r : Reach} {b0 : Nat} {t : TypeId} {v : Value} {d : DataW H} {ps : List MemPlace} {τ : Ty} (hc : ((chk P τ).ty t && szOk τ) = true) (hv : Value.okWide P W r b0 t v)
    (h : DataW.Trod enc P W 0 (fun _ => true) true t v d ps) : ∃ y : τ.D, RepV P τ W noOwn default y .o v ∧ τ.wf y := by
  simp only [Bool.and_eq_true] at hc
  obtain ⟨fuel, h⟩ := h
  obtain ⟨y, hy⟩ := (opens τ hc.2 (P := P) (w := W) (enc := enc) (held := true)).ty t fuel _ _ hc.1 h
  refine ⟨y, (repV_of (szOk_tup hc.2)).2 ?_, rep_wf τ hy⟩
  have hi := chk_info hc.1 (by cases τ <;> first | rfl | cases hc.2)
  obtain ⟨_, x, dd, hx, hd, hs, ha, _⟩ := infoB_spec hi
  unfold Value.okWide at hv
  rw [hd] at hv
  cases hag : τ.agg with
  | true =>
    rw [hag] at ha
    unfold ValOf
    cases dd <;> simp only [aggB] at ha <;> first
      | (cases ha; done)
      | (obtain ⟨cs, rfl, _⟩ := hv
         refine ⟨cs.toList, by simp, ?_⟩
         simpa [Value.cells] using hy)
  | false =>
    unfold ValOf
    have hl := hy.len (szOk_tup hc.2)
    have h1 : τ.size = 1 := size_one hag
    have hcell : v.cells.toList = [v] := by
      cases v with
      | agg cs =>
        exfalso
        rw [hag] at ha
        cases dd <;> simp only [aggB] at ha <;> first
          | (cases ha; done)
          | (simp only [Cell.okWide, hd, Cell.ok] at hv)
      | _ => rfl
    rw [hcell] at hy
    exact hy

/-- A law's call. -/
theorem law_calls {P : Program} {f : FuncId} {A : Ty} {ash : List Sh} {fr : Nat} {F : A.D → Option Bool} (hS : SoundC P f ⟨A, ash, [], .bool, .o, [], fr, F⟩) (hash : ash.all (fun s => decide (s = .o)) = true) {w : World} {args : List Value} {x : A.D}
    (ha : ArgsOk P w noOwn default A x ash args) (hF : F x = some true) : Calls P f args.toArray w fun e w' => e = .returned (.bool true) ∧ Below w.heap.size w w' := by
  have hown : own (inSt ⟨A, ash, [], .bool, .o, [], fr, F⟩ x) (default : Mp) = noOwn := own_nil rfl rfl
  have hownN : ownN (inSt ⟨A, ash, [], .bool, .o, [], fr, F⟩ x) (default : Mp) = noOwn := ownN_nil rfl rfl
  have hash' : ∀ h ∈ ash, h = Sh.o := fun h hh => of_decide_eq_true (List.all_eq_true.1 hash h hh)
  have hrel : Rel P w (ownN (inSt ⟨A, ash, [], .bool, .o, [], fr, F⟩ x) default) args.toArray.size (· < fr) default (inSt ⟨A, ash, [], .bool, .o, [], fr, F⟩ x) ⟨args.toArray, []⟩ w := by
    refine ⟨fun n v hn => ?_, fun id v hv => (by cases hv), fun id z v hv => (by cases hv), fun k hk => (by cases hk), fun b o hb => ?_, fun l l' b o h1 h2 => ?_, Keeps.refl _ _, rfl, rfl, fun id v hv => (by cases hv)⟩
    · obtain ⟨_, k2, k3, k4⟩ := initSl_look (U := (· < fr)) A x ash args 0 ha (fun h hh => by rw [hash' h hh]; trivial) n v hn
      rw [hown]
      refine ⟨?_, k4⟩
      have e : args.toArray.getD n undef = args.getD (n - 0) undef := by simp [Array.getD_eq_getD_getElem?, List.getD_eq_getElem?_getD]
      show RepV P v.ty w noOwn default v.val v.sh (args.toArray.getD n undef)
      rw [e]
      exact k3
    · rw [hown] at hb; exact hb.elim
    · rw [(reg_nil rfl rfl h1).1, (reg_nil rfl rfl h2).1]
  refine (hS.2 w default args.toArray x hrel true hF).mono fun e w' he => ?_
  obtain ⟨v, M', rfl, _, _, hout⟩ := he
  have hk := hout.keep
  rw [hownN] at hk
  refine ⟨?_, hk.below⟩
  have hv := (hout.sl 0 ⟨.bool, true, .o⟩ rfl).1
  have hv := rep_bool hv
  simp [Array.getD_eq_getD_getElem?] at hv
  rw [hv]

end Go.VX
/- VX, part 55: the words of what is printed: laws in plain Lean. -/
set_option linter.unusedVariables false
set_option linter.unusedSimpArgs false
namespace Go.VX

theorem bnd_mk {α β : Type} (a : α) (f : α → Option β) : bnd (some a) f = f a := rfl
theorem bnd_no {α β : Type} (f : α → Option β) : bnd none f = none := rfl
theorem cnd_t {α : Type} (x y : α) : cnd true x y = x := rfl
theorem cnd_f {α : Type} (x y : α) : cnd false x y = y := rfl
theorem bndS_l {α β : Type} (a : α) (f : α → Option β) : bndS (some (.inl a)) f = f a := rfl
theorem bndS_r {α β : Type} (b : β) (f : α → Option β) : bndS (some (.inr b)) f = some b := rfl
theorem inlE_mk {α β : Type} (a : α) : (inlE a : Option (α ⊕ β)) = some (.inl a) := rfl
theorem inrE_mk {α β : Type} (b : β) : (inrE (some b) : Option (α ⊕ β)) = some (.inr b) := rfl
theorem bnd_id {α : Type} (x : Option α) : bnd x some = x := by cases x <;> rfl
theorem bnd_eta {α : Type} (x : Option α) : (bnd x fun r => some r) = x := by cases x <;> rfl
theorem cnd_some_and (b c : Bool) : cnd b (some c) (some false) = some (b && c) := by cases b <;> rfl
theorem cnd_some_or (b c : Bool) : cnd (!b) (some c) (some true) = some (b || c) := by cases b <;> rfl

theorem loopN_mono {σ ρ : Type} {f : σ → Option (σ ⊕ ρ)} : ∀ {n m : Nat} {s : σ} {r : ρ}, loopN f n s = some r → n ≤ m → loopN f m s = some r
  | 0, _, s, r, h, _ => by cases h
  | n + 1, 0, s, r, h, hm => by omega
  | n + 1, m + 1, s, r, h, hm => by
    simp only [loopN] at h ⊢
    split at h
    · rename_i s' hs'
      exact loopN_mono h (by omega)
    · exact h
    · cases h
theorem loopP_of {σ ρ : Type} {f : σ → Option (σ ⊕ ρ)} {n : Nat} {s : σ} {r : ρ} (h : loopN f n s = some r) : loopP f s = some r := by
  unfold loopP
  split
  · rename_i hx _
    cases hc : loopN f (Classical.choose hx) s with
    | none => have := Classical.choose_spec hx; rw [hc] at this; cases this
    | some r' =>
      have h1 := loopN_mono hc (Nat.le_max_left _ n)
      have h2 := loopN_mono h (Nat.le_max_right (Classical.choose hx) n)
      rw [h1] at h2
      exact h2
  · rename_i hx _
    exact (hx ⟨n, by rw [h]; rfl⟩).elim

/-- A loop: what stands at its head, what becomes less, what it leaves with. -/
theorem loop_rule {σ ρ : Type} {f : σ → Option (σ ⊕ ρ)} (I : σ → Prop) (μ : σ → Nat) (Q : ρ → Prop) (hstep : ∀ s, I s → (∃ s', f s = some (.inl s') ∧ I s' ∧ μ s' < μ s) ∨ (∃ r, f s = some (.inr r) ∧ Q r)) (s : σ) (h0 : I s) :
    ∃ r, loopP f s = some r ∧ Q r := by
  have key : ∀ n s, I s → μ s < n → ∃ r, loopN f n s = some r ∧ Q r := by
    intro n
    induction n with
    | zero => intro s _ h; omega
    | succ n ih =>
      intro s hI hlt
      rcases hstep s hI with ⟨s', h1, h2, h3⟩ | ⟨r, h1, h2⟩
      · obtain ⟨r, k1, k2⟩ := ih s' h2 (by omega)
        exact ⟨r, by simp only [loopN, h1, k1], k2⟩
      · exact ⟨r, by simp only [loopN, h1], h2⟩
  obtain ⟨r, h1, h2⟩ := key _ s h0 (Nat.lt_succ_self _)
  exact ⟨r, loopP_of h1, h2⟩

theorem wr_id {x : Int} (h1 : -9223372036854775808 ≤ x) (h2 : x ≤ 9223372036854775807) : wr .i64 x = x := by
  simp only [wr, IntKind.wrap, IntKind.signed, IntKind.bits, Bool.true_and, if_true]
  split <;> (simp at *; omega)

theorem ati_get {α : Type} {l : List α} {i : Nat} (h : i < l.length) : ati l (i : Int) = some l[i] := by
  simp only [ati]
  rw [if_pos (by omega)]
  simp [h]
theorem ati_at {α : Type} {l : List α} {i : Int} (h0 : 0 ≤ i) (h : i < l.length) : ∃ hi : i.toNat < l.length, ati l i = some l[i.toNat] := by
  have hi : i.toNat < l.length := by omega
  refine ⟨hi, ?_⟩
  simp only [ati]
  rw [if_pos h0, List.getElem?_eq_getElem hi]
theorem app_ok {α : Type} {lim : Nat} {xs ys : List α} (h : xs.length + ys.length ≤ lim) : app lim xs ys = some (xs ++ ys) := if_pos h

theorem eqT_iff : ∀ (t : Ty), eqOk t = true → ∀ x y : t.D, eqT t x y = true ↔ x = y
  | .int _, _, x, y => by simp [eqT]
  | .bool, _, x, y => by simp [eqT]
  | .str, _, x, y => by simp [eqT]
  | .unit, _, x, y => by simp [eqT]
  | .pr a b, h, x, y => by
    simp only [eqOk, Bool.and_eq_true] at h
    obtain ⟨x1, x2⟩ := x
    obtain ⟨y1, y2⟩ := y
    simp only [eqT, Bool.and_eq_true, eqT_iff a h.1, eqT_iff b h.2, Prod.mk.injEq]

/-- Two lists, element by element. -/
theorem eq_loop {α β : Type} (eq : α → α → Bool) (he : ∀ x y, eq x y = true ↔ x = y) (a b : List α) (hab : a.length = b.length) (hl : a.length ≤ 9223372036854775807) (r0 : β) (K : Unit → Option β) :
    (a = b ∧ bndS (loopP (fun (s2 : Int × Unit) => cnd (decide (s2.1 < (a.length : Int))) (bnd (ati a s2.1) fun v3 => bnd (ati b s2.1) fun v4 => cnd (!eq v3 v4) (inrE (inrE (some r0))) (inlE (wr .i64 (s2.1 + 1), ()))) (inrE (inlE ()))) (0, ())) K = K ()) ∨
    (a ≠ b ∧ bndS (loopP (fun (s2 : Int × Unit) => cnd (decide (s2.1 < (a.length : Int))) (bnd (ati a s2.1) fun v3 => bnd (ati b s2.1) fun v4 => cnd (!eq v3 v4) (inrE (inrE (some r0))) (inlE (wr .i64 (s2.1 + 1), ()))) (inrE (inlE ()))) (0, ())) K = some r0) := by
  obtain ⟨r, h1, h2⟩ := loop_rule (f := fun (s2 : Int × Unit) => cnd (decide (s2.1 < (a.length : Int))) (bnd (ati a s2.1) fun v3 => bnd (ati b s2.1) fun v4 => cnd (!eq v3 v4) (inrE (inrE (some r0))) (inlE (wr .i64 (s2.1 + 1), ()))) (inrE (inlE ())))
    (fun s => 0 ≤ s.1 ∧ s.1 ≤ a.length ∧ ∀ i : Nat, i < s.1.toNat → a[i]? = b[i]?) (fun s => a.length - s.1.toNat) (fun r => (r = .inl () ∧ a = b) ∨ (r = .inr r0 ∧ a ≠ b)) (fun s ⟨i0, i1, i2⟩ => by
      by_cases hlt : s.1 < a.length
      · obtain ⟨ha, e1⟩ := ati_at i0 hlt
        obtain ⟨hb, e2⟩ := ati_at (l := b) i0 (by omega)
        rw [decide_eq_true hlt, cnd_t, e1, bnd_mk, e2, bnd_mk]
        cases hq : eq a[s.1.toNat] b[s.1.toNat] with
        | true =>
          left
          have hw : wr .i64 (s.1 + 1) = s.1 + 1 := wr_id (by omega) (by omega)
          refine ⟨(s.1 + 1, ()), by rw [hw]; rfl, ⟨by dsimp only; omega, by dsimp only; omega, fun i hi => ?_⟩, by dsimp only; omega⟩
          dsimp only at hi
          by_cases hi2 : i = s.1.toNat
          · subst hi2
            rw [List.getElem?_eq_getElem ha, List.getElem?_eq_getElem hb, (he _ _).1 hq]
          · exact i2 i (by omega)
        | false =>
          right
          refine ⟨.inr r0, rfl, .inr ⟨rfl, fun e => ?_⟩⟩
          subst e
          have := (he a[s.1.toNat] a[s.1.toNat]).2 rfl
          rw [hq] at this
          cases this
      · right
        rw [decide_eq_false hlt, cnd_f]
        refine ⟨.inl (), rfl, .inl ⟨rfl, List.ext_getElem? fun i => ?_⟩⟩
        by_cases hi : i < a.length
        · exact i2 i (by omega)
        · rw [List.getElem?_eq_none (by omega), List.getElem?_eq_none (by omega)]) (0, ()) ⟨Int.le_refl _, by simp, fun i hi => by simp at hi⟩
  rw [h1]
  rcases h2 with ⟨rfl, h2⟩ | ⟨rfl, h2⟩
  · exact .inl ⟨h2, rfl⟩
  · exact .inr ⟨h2, rfl⟩

theorem cnd_if {α : Type} (b : Bool) (x y : α) : cnd b x y = if b = true then x else y := by cases b <;> rfl
theorem ite_some {α : Type} (P : Prop) [Decidable P] (a b : α) : (if P then some a else some b) = some (if P then a else b) := by split <;> rfl
theorem inrE_ite {α β : Type} (b : β) : (inrE (some b) : Option (α ⊕ β)) = some (.inr b) := rfl
theorem bndS_ite {α β : Type} (P : Prop) [Decidable P] (a : α) (b : β) (f : α → Option β) : bndS (some (if P then .inl a else .inr b)) f = if P then f a else some b := by split <;> rfl

/-- A loop that goes on as long as what it asks holds of each place. -/
theorem all_loop {ρ : Type} (n : Nat) (p : Nat → Prop) [∀ i, Decidable (p i)] (f : Int × Unit → Option ((Int × Unit) ⊕ ρ)) (r0 r1 : ρ)
    (h1 : ∀ i : Nat, i < n → (∀ j, j < i → p j) → f ((i : Int), ()) = if p i then some (.inl ((i : Int) + 1, ())) else some (.inr r0))
    (h2 : (∀ j, j < n → p j) → f ((n : Int), ()) = some (.inr r1)) [Decidable (∀ j, j < n → p j)] :
    loopP f (0, ()) = some (if ∀ j, j < n → p j then r1 else r0) := by
  obtain ⟨r, e, h⟩ := loop_rule (f := f) (fun s => 0 ≤ s.1 ∧ s.1 ≤ n ∧ ∀ j : Nat, j < s.1.toNat → p j) (fun s => n - s.1.toNat) (fun r => r = if ∀ j, j < n → p j then r1 else r0) (fun s ⟨i0, i1, i2⟩ => by
    obtain ⟨i, _⟩ := s
    dsimp only at *
    obtain ⟨k, rfl⟩ : ∃ k : Nat, i = k := ⟨i.toNat, by omega⟩
    by_cases hk : k < n
    · have e := h1 k hk (fun j hj => i2 j (by omega))
      by_cases hp : p k
      · left
        rw [if_pos hp] at e
        refine ⟨_, e, ⟨by dsimp only; omega, by dsimp only; omega, fun j hj => ?_⟩, by dsimp only; omega⟩
        dsimp only at hj
        by_cases hjk : j = k
        · exact hjk ▸ hp
        · exact i2 j (by omega)
      · right
        rw [if_neg hp] at e
        refine ⟨_, e, ?_⟩
        rw [if_neg fun h => hp (h k hk)]
    · right
      have hkn : k = n := by omega
      subst hkn
      have ha : ∀ j, j < k → p j := fun j hj => i2 j (by omega)
      exact ⟨_, h2 ha, by rw [if_pos ha]⟩) (0, ()) ⟨Int.le_refl _, by dsimp only; omega, fun j hj => by simp at hj⟩
  rw [e, h]
theorem wr_succ {n i : Nat} (hi : i < n) (hn : n ≤ 9223372036854775807) : wr .i64 ((i : Int) + 1) = (i : Int) + 1 := wr_id (by omega) (by omega)
theorem lt_true {n i : Nat} (hi : i < n) : decide ((i : Int) < (n : Int)) = true := decide_eq_true (by omega)
theorem lt_false (n : Nat) : decide ((n : Int) < (n : Int)) = false := decide_eq_false (by omega)

/-- What stands at a place; else 'z'. -/
def nth {α : Type} (z : α) (l : List α) (i : Nat) : α := l.getD i z
theorem ati_d {α : Type} (z : α) {l : List α} {i : Nat} (h : i < l.length) : ati l (i : Int) = some (nth z l i) := by
  rw [ati_get h]; simp [nth, List.getD, h]
theorem ati_0 {α : Type} (z : α) {l : List α} (h : 0 < l.length) : ati l 0 = some (nth z l 0) := ati_d z h
theorem ati_last {α : Type} (z : α) {l : List α} (h : 0 < l.length) (hl : l.length ≤ 9223372036854775807) : ati l (wr .i64 ((l.length : Int) - 1)) = some (nth z l (l.length - 1)) := by
  rw [wr_id (by omega) (by omega), show (l.length : Int) - 1 = ((l.length - 1 : Nat) : Int) by omega]
  exact ati_d z (by omega)
theorem ati_pred {α : Type} (z : α) {l : List α} {i : Nat} (h0 : 0 < i) (h : i < l.length) (hl : l.length ≤ 9223372036854775807) : ati l (wr .i64 ((i : Int) - 1)) = some (nth z l (i - 1)) := by
  rw [wr_id (by omega) (by omega), show (i : Int) - 1 = ((i - 1 : Nat) : Int) by omega]
  exact ati_d z (by omega)
theorem eqT_dec (t : Ty) (h : eqOk t = true) (x y : t.D) [Decidable (x = y)] : eqT t x y = decide (x = y) := by
  rw [Bool.eq_iff_iff, eqT_iff t h, decide_eq_true_eq]

theorem if_swap {α : Type} {P Q : Prop} {_ : Decidable P} {_ : Decidable Q} {a b : α} (h : P ↔ ¬ Q) : (if P then a else b) = if Q then b else a := by
  by_cases q : Q
  · rw [if_pos q, if_neg fun p => h.1 p q]
  · rw [if_neg q, if_pos (h.2 q)]
theorem if_same {α : Type} {P Q : Prop} {_ : Decidable P} {_ : Decidable Q} {a b : α} (h : P ↔ Q) : (if P then a else b) = if Q then a else b := by
  by_cases q : Q
  · rw [if_pos q, if_pos (h.2 q)]
  · rw [if_neg q, if_neg fun p => q (h.1 p)]

theorem all_as {ρ : Type} (Q : Prop) [Decidable Q] (n : Nat) (p : Nat → Prop) [∀ i, Decidable (p i)] (f : Int × Unit → Option ((Int × Unit) ⊕ ρ)) (r0 r1 : ρ) (hQ : Q ↔ ∀ j, j < n → p j)
    (h1 : ∀ i : Nat, i < n → (∀ j, j < i → p j) → f ((i : Int), ()) = if p i then some (.inl ((i : Int) + 1, ())) else some (.inr r0))
    (h2 : (∀ j, j < n → p j) → f ((n : Int), ()) = some (.inr r1)) :
    loopP f (0, ()) = some (if Q then r1 else r0) := by
  haveI : Decidable (∀ j, j < n → p j) := Classical.propDecidable _
  rw [all_loop n p f r0 r1 h1 h2]
  exact congrArg some (if_same hQ.symm)

theorem nth_mem {α : Type} {z : α} {l : List α} {i : Nat} (h : i < l.length) : nth z l i ∈ l := by
  simp [nth, List.getD, h]

theorem ite_dec {A B C : Prop} {_ : Decidable A} {_ : Decidable B} {_ : Decidable (A ∧ C)} (h : B ↔ C) : (if A then decide B else false) = decide (A ∧ C) := by
  rw [Bool.eq_iff_iff]
  by_cases a : A
  · rw [if_pos a, decide_eq_true_eq, decide_eq_true_eq, h]
    exact ⟨fun c => ⟨a, c⟩, fun c => c.2⟩
  · rw [if_neg a, decide_eq_false fun c => a c.1]

end Go.VX
/- VX, part 61: slices.Insert: steps of its walk. -/
set_option linter.unusedVariables false
set_option linter.unusedSimpArgs false
namespace Go.VX
theorem info2 {P : Program} {e : TypeId} {s b : Nat} (h : (P.info? e).map (fun i => (i.size, i.bytes)) = some (s, b)) : ∃ i, P.info? e = some i ∧ i.size = s ∧ i.bytes = b := by
  cases hi : P.info? e with
  | none => rw [hi] at h; cases h
  | some i => rw [hi] at h; cases h; exact ⟨i, rfl, rfl, rfl⟩
theorem step_copyK {P : Program} {ops : Array Oper} {o : Oper} {a : Act} {w : World} {K : Act → World → Prop} {Q : Exit → Act → World → Prop} {E : Prop}
    (hg : o.guard = none) (d x : Operand) (dT sT : TypeId) (hop : o.op = Op.call { callee := Callee.builtin Builtin.copy, args := #[d, x], argTypes := #[dT, sT] })
    (v u : Value) (hd : a.eval d = v) (hx : a.eval x = u) {v' : Value} {w' : World} (hr : (Builtin.copy_ #[dT, sT] o.type #[v, u]).run P w = .ok v' w') (hK : K (a.put o.dst v') w') :
    if Region.wanted o (yielded ops a.tmps) = true then Oper.wp P o a w K Q else E := by
  have hw : Region.wanted o (yielded ops a.tmps) = true := by simp [Region.wanted, hg]
  rw [if_pos hw]
  unfold Oper.wp
  simp [execOp, hop, resolve, invoke, builtin, hd, hx, hr, Result.andThen]
  exact hK
theorem wpList_copyK {P : Program} (w : World) {ops : Array Oper} {rest : List Oper} {o : Oper} {a : Act} {Q : Exit → Act → World → Prop} (hgd : o.guard = none) (d s : Operand) (t t' : TypeId)
    (ho : o.op = .call { callee := .builtin .copy, args := #[d, s], argTypes := #[t, t'] }) (v u : Value) (hd : a.eval d = v) (hs : a.eval s = u) {v' : Value} {w' : World}
    (hr : (Builtin.copy_ #[t, t'] o.type #[v, u]).run P w = .ok v' w') (h : wpList P ops Q rest (a.put o.dst v') w') : wpList P ops Q (o :: rest) a w :=
  wpList_plain hgd fun _ hK => by
    unfold Oper.wp
    simp only [execOp, ho, resolve, invoke, builtin, Sem.run_bind, Sem.run_pure, Result.andThen_ok, List.map_toArray, List.map_cons, List.map_nil, hd, hs, hr]
    exact hK _ _ h

end Go.VX

/- rimeref26.Accounts: the loops, in the model; the contract. The same twice: yes. The same rows, the same accounts twice: yes. -/
import Derived.Test.YtadiphoihflmiaaGreatDoorZay
set_option linter.all false
set_option maxRecDepth 1000000
namespace Go.Abs
open Go.Proofs

theorem foldA_shared (r : SeenD) : ∀ (xs : List SeenD) (a : AcctD), (foldA r xs a).shared.length ≤ a.shared.length + xs.length
  | [], a => by simp [foldA]
  | x :: xs, a => by
    show (foldA r xs (if x.ses = r.ses then updD x a else a)).shared.length ≤ _
    have h1 := foldA_shared r xs (if x.ses = r.ses then updD x a else a)
    have h2 := updD_shared x a
    simp only [List.length_cons]
    split at h1 <;> rename_i hc <;> simp only [hc, if_true, if_false] <;> omega

theorem updD_8 {x : SeenD} {a : AcctD} (h : x.kind = 8) (hd : a.done = true) : updD x a = a := by
  have n1 : ¬ (x.kind = 8 ∧ a.done = false) := fun e => by rw [hd] at e; cases e.2
  have n2 : ¬ (x.kind = 9 ∧ a.failed = false) := fun e => by rw [h] at e; exact absurd e.1 (by decide)
  have n3 : ¬ x.kind = 5 := fun e => by rw [h] at e; exact absurd e (by decide)
  unfold updD
  rw [if_neg n1, if_neg n2, if_neg n3]
theorem updD_9 {x : SeenD} {a : AcctD} (h : x.kind = 9) (hd : a.failed = true) : updD x a = a := by
  have n1 : ¬ (x.kind = 8 ∧ a.done = false) := fun e => by rw [h] at e; exact absurd e.1 (by decide)
  have n2 : ¬ (x.kind = 9 ∧ a.failed = false) := fun e => by rw [hd] at e; cases e.2
  have n3 : ¬ x.kind = 5 := fun e => by rw [h] at e; exact absurd e (by decide)
  unfold updD
  rw [if_neg n1, if_neg n2, if_neg n3]
theorem innP_ok {l : List SeenD} {L : List AcctD} {i k : Int} {r x : SeenD} {B : AcctD} {KH : Hd → Prop} (q1 : roomy (0 + x.ids.length) 8 = true) (q2 : roomy (B.shared.length + 1) 8 = true)
    (h : KH (headI l L i r (if x.ses = r.ses then updD x B else B) (addT .i64 k (rawI .i64 1)))) : innP l L i k r x B KH := by
  unfold innP contI
  by_cases hs : x.ses = r.ses
  · rw [if_pos hs] at h
    rw [eqH_iff.2 hs]
    show br _ _ _
    cases h8 : eqT .i64 x.kind (rawI .i64 8) with
    | true =>
      have h8' : x.kind = 8 := eqI_iff.1 h8
      show br _ _ _
      cases hd : B.done with
      | false =>
        unfold updD at h
        rw [if_pos ⟨h8', hd⟩] at h
        exact h
      | true =>
        rw [updD_8 h8' hd] at h
        exact h
    | false =>
      have h8' : x.kind ≠ 8 := eqI_false.1 h8
      show br _ _ _
      cases h9 : eqT .i64 x.kind (rawI .i64 9) with
      | true =>
        have h9' : x.kind = 9 := eqI_iff.1 h9
        show br _ _ _
        cases hd : B.failed with
        | false =>
          unfold updD at h
          rw [if_neg fun e => h8' e.1, if_pos ⟨h9', hd⟩] at h
          show chk _ _
          rw [q1]
          exact h
        | true =>
          rw [updD_9 h9' hd] at h
          exact h
      | false =>
        have h9' : x.kind ≠ 9 := eqI_false.1 h9
        show br _ _ _
        unfold updD at h
        rw [if_neg fun e => h8' e.1, if_neg fun e => h9' e.1] at h
        cases h5 : eqT .i64 x.kind (rawI .i64 5) with
        | true =>
          have h5' : x.kind = 5 := eqI_iff.1 h5
          rw [if_pos h5'] at h
          show chk _ _
          rw [q2]
          exact h
        | false =>
          have h5' : x.kind ≠ 5 := eqI_false.1 h5
          rw [if_neg h5'] at h
          exact h
  · rw [if_neg hs] at h
    rw [eqH_false.2 hs]
    exact h

theorem take_drop_snoc {l : List SeenD} {i k : Nat} (h1 : i + 1 ≤ k) (h2 : k < l.length) : (l.drop (i + 1)).take (k + 1 - (i + 1)) = (l.drop (i + 1)).take (k - (i + 1)) ++ [l.getD k seenZ] := by
  rw [show k + 1 - (i + 1) = (k - (i + 1)) + 1 by omega, List.take_add_one]
  congr 1
  rw [List.getElem?_drop, show i + 1 + (k - (i + 1)) = k by omega]
  simp [List.getD, h2]

section
variable {Z0 Z : Zone} {ρ0 ρ : PMap} {H0 : Heap} {w0 w : World} {a : Act} {S : St} {n0 : Nat}

theorem headI_of {l : List SeenD} {L : List AcctD} {i : Int} {r : SeenD} (hs : Sync env Z0 Z ρ0 H0 w0 0 (headSt (headI0 l L i r)) ρ a w) : ∃ ρ', Sync env Z0 Z ρ0 H0 w0 0 (headSt (headI l L i r (newD r) (addT .i64 i (rawI .i64 1)))) ρ' a w := by
  have h1 : Sync env Z0 Z ρ0 H0 w0 0 (headSt (headI1 l L i r)) ρ a w := hs.leVar (k := 3) (root := .var 81) (v := acctNE r) (v' := acctME r) rfl
    (AVal.Le.ofList (l := [_, _, _, _, _, _, _, _, _]) (l' := [_, _, _, _, _, _, _, _, _]) ⟨.refl _, .refl _, .refl _, .refl _, .refl _, .refl _, .refl _, nilsl_vw .i64, .refl _, trivial⟩) rfl rfl rfl fun j hj => by
      match j, hj with
      | 0, _ | 1, _ | 2, _ => rfl
      | 3, hj => exact (hj rfl).elim
      | j + 4, _ => rfl
  refine ⟨_, h1.nilRow (k := 4) (e := 3) (c := .ints .i64 []) (T := headSt (headI l L i r (newD r) (addT .i64 i (rawI .i64 1)))) rfl (by omega) (by omega) ⟨_, td3⟩ rfl rfl trivial rfl rfl rfl (fun t v' h => ?_) rfl (fun j b' hj hb => ?_)⟩
  · match t, h with
    | 0, h => cases h; exact ⟨_, rfl, .refl _, by simp [AVal.keys, vS]⟩
    | 4, h | 5, h | 6, h | 7, h | 8, h | 9, h => cases h; exact ⟨_, rfl, .refl _, by simp [AVal.keys]⟩
    | 1, h | 2, h | 3, h => cases h
    | t + 10, h => exact (getL_noneL (n := 91) (t := t) h).elim
  · match j, hj, hb with
    | 0, _, hb => cases hb; exact ⟨_, rfl, rfl, .refl _, fun h => by cases h⟩
    | 1, _, hb => cases hb; exact ⟨_, rfl, rfl, .refl _, fun h => by cases h⟩
    | 2, _, hb => cases hb; exact ⟨_, rfl, rfl, .refl _, fun h => by cases h⟩
    | 3, _, hb =>
      cases hb
      exact ⟨_, rfl, rfl, .var (.pair (.refl _) (.pair (.refl _) (.pair (.refl _) (.pair (.refl _) (.pair (.refl _) (.pair (.refl _) (.pair (.refl _) (.pair (.refl _) (.pair .nil (.refl _)))))))))), fun h => by cases h⟩
    | 4, hj, _ => exact (hj rfl).elim
    | j + 5, _, hb => cases hb

theorem inner_sound {l : List SeenD} {L : List AcctD} {i : Nat} (hi : i ≤ l.length) (hq : rowsQ l = true) (hr : roomy l.length 344 = true) :
    SoundG Tryz.prog env Z0 ρ0 H0 w0 0 (sideX n0) (.loop (loopN 11 1)) (hkI l L (i : Int) (l.getD i seenZ) (aAt l i)) := by
  intro S g Z ρ a w KK Q hQ hs hj hk
  obtain ⟨rfl, hcan, hcase⟩ := hk
  have hrl : l.length * 345 ≤ 70368744177664 := by simpa [roomy] using hr
  have hC := tabN_ok env_ok mixed (tabL_ok baseRf_ok) (live := liveOf) (fuel := 5000) fnsOf_ok 0
  generalize hrr : l.getD i seenZ = r at *
  obtain ⟨S1, ρ1, h1, hs1⟩ := canon_sound (K := fun S' => S' = headSt (headI0 l L (i : Int) r)) hs (by rw [canon_D]; exact canonD_mono hcan fun h e => by rw [e])
  subst h1
  obtain ⟨ρ2, hs2⟩ := headI_of hs1
  rw [add1 (by omega)] at hs2
  obtain ⟨st, hst⟩ : ∃ st, st = max (i + 1) l.length := ⟨_, rfl⟩
  refine wp_loop_n (fun n a w => ∃ k Z ρ, k + n = st + 1 ∧ i + 1 ≤ k ∧ k ≤ st ∧ Sync env Z0 Z ρ0 H0 w0 0 (headSt (headI l L (i : Int) r (foldA r ((l.drop (i + 1)).take (k - (i + 1))) (newD r)) (k : Int))) ρ a w)
    (fun a w ⟨k, _, _, h1, _, h2, _⟩ => by omega) (fun n a w ⟨k, Z, ρ, hkn, hik, hkl, hs⟩ => ?_) (st + 1 - (i + 1)) ⟨i + 1, Z, ρ2, by omega, by omega, by omega, by rw [Nat.sub_self]; exact hs2⟩
  have hhk : HooksOk Tryz.prog env Z0 ρ0 H0 w0 0 (sideX n0) noHooks (loopN 11 1) := hooks_loops (fun _ => rfl) (loopN 11 1) (by rw [loops11I]; trivial)
  generalize hB : foldA r ((l.drop (i + 1)).take (k - (i + 1))) (newD r) = B at *
  have hsh : B.shared.length ≤ k := by
    have := foldA_shared r ((l.drop (i + 1)).take (k - (i + 1))) (newD r)
    rw [hB] at this
    simp only [newD, List.length_nil, List.length_take] at this
    omega
  have rnd : ∀ (KH : Hd → Prop) (KE : KInn), br (ltT .i64 (k : Int) (l.length : Int)) (innP l L (i : Int) (k : Int) r (l.getD k seenZ) B KH) (KE 2 [some (vS l), some (.ptr 0 []), some (.sw 1), some (.int .i64 (i : Int)), some (.ptr 3 [])] [some (courtB l), some ⟨.row 81, .recs acctC L⟩, some ⟨.var 81, .var (acctIE B 4)⟩, some ⟨.row 3, .ints .i64 B.shared⟩] 101) →
      (∀ e S g Z ρ a w, rndI KH KE e S g → Sync env Z0 Z ρ0 H0 w0 0 S ρ a w → sideX n0 g Z ρ S.heap w → Exit.then (fun a w => ∃ k Z ρ, k + n = st + 1 ∧ i + 1 ≤ k ∧ k ≤ st ∧ Sync env Z0 Z ρ0 H0 w0 0 (headSt (headI l L (i : Int) r (foldA r ((l.drop (i + 1)).take (k - (i + 1))) (newD r)) (k : Int))) ρ a w) Q e.to a w) →
      (loopN 11 1).wp Tryz.prog (Exit.then (fun a w => ∃ k Z ρ, k + n = st + 1 ∧ i + 1 ≤ k ∧ k ≤ st ∧ Sync env Z0 Z ρ0 H0 w0 0 (headSt (headI l L (i : Int) r (foldA r ((l.drop (i + 1)).take (k - (i + 1))) (newD r)) (k : Int))) ρ a w) Q) a w := by
    intro KH KE hbr hend
    have hev : evG baseRf noHooks 11 0 0 20 (loopN 11 1) (headSt (headI l L (i : Int) r B (k : Int))) [] (rndI KH KE) := by
      refine (stepI l L (i : Int) (k : Int) r B 10 KH KE []).mpr ?_
      rw [rowAt_nat]
      cases hlt : ltT .i64 (k : Int) (l.length : Int) with
      | true =>
        rw [hlt] at hbr
        have e2 : (!isNeg .i64 (k : Int)) = true := by show (!decide ((k : Int) < 0)) = true; simp
        have e3 : decide (toI .i64 (k : Int) < ((l.length : Nat) : Int)) = true := hlt
        rw [e2, e3]
        exact hbr
      | false =>
        rw [hlt] at hbr
        exact hbr
    unfold evG at hev
    exact codeG_sound (J := sideX n0) sideX_ok hC env_ok mixed (loopN 11 1) hhk hend hs sideX_nil hev
  by_cases hkl' : k < l.length
  · refine rnd (fun h => h = headI l L (i : Int) r (foldA r ((l.drop (i + 1)).take (k + 1 - (i + 1))) (newD r)) ((k + 1 : Nat) : Int)) (fun _ _ _ _ => False) ?_ (fun e S' g' Z' ρ' a' w' hK hs' _ => ?_)
    · rw [(idx_facts hkl').1]
      refine br_t (innP_ok ?_ ?_ ?_)
      · have : ∀ {l : List SeenD} {i : Nat}, rowsQ l = true → i < l.length → rowQ (l.getD i seenZ) = true := rowsQ_get
        have hrq := this hq hkl'
        simp only [rowQ, andB_iff] at hrq
        exact hrq.2.2.2
      · exact roomy_le hr (by omega) (by omega)
      · rw [add1 (by omega), take_drop_snoc hik hkl', foldA_snoc, hB]
    · cases e with
      | exit id => exact hK.elim
      | ret => exact hK.elim
      | normal =>
        obtain ⟨S3, ρ3, h3, hs3⟩ := canon_sound (K := fun S'' => S'' = headSt (headI l L (i : Int) r (foldA r ((l.drop (i + 1)).take (k + 1 - (i + 1))) (newD r)) ((k + 1 : Nat) : Int))) hs' (by
          rw [canon_D]
          exact canonD_mono (show canonD 0 (liveOf 11 12) S' (fun h => h = headI l L (i : Int) r (foldA r ((l.drop (i + 1)).take (k + 1 - (i + 1))) (newD r)) ((k + 1 : Nat) : Int)) from hK) fun h e => by rw [e])
        subst h3
        exact ⟨k + 1, Z', ρ3, by omega, by omega, by omega, hs3⟩
  · have hk : k = st := by omega
    refine rnd (fun _ => False) (fun id ts bs m => id = 2 ∧ ts = [some (vS l), some (.ptr 0 []), some (.sw 1), some (.int .i64 (i : Int)), some (.ptr 3 [])] ∧ bs = [some (courtB l), some ⟨.row 81, .recs acctC L⟩, some ⟨.var 81, .var (acctIE B 4)⟩, some ⟨.row 3, .ints .i64 B.shared⟩] ∧ m = 101) ?_ (fun e S' g' Z' ρ' a' w' hK hs' _ => ?_)
    · have hlt : ltT .i64 (k : Int) (l.length : Int) = false := ltI_false.2 (by omega)
      rw [hlt]
      exact ⟨rfl, rfl, rfl, rfl⟩
    · cases e with
      | normal => exact (canonD_false hK).elim
      | ret => exact hK.elim
      | exit id =>
        obtain ⟨rfl, hts, hbs, hm⟩ := hK
        simp only [List.cons.injEq, and_true] at hts hbs
        obtain ⟨t0, t4, t5, t6, t8⟩ := hts
        obtain ⟨b0, b1, b3, b4⟩ := hbs
        have hf := hs'.frz (k := 4) (x := .vw .i64 B.shared) b4 (fun cs h => vw_of_sw env_ok.size hs'.pre.heap b4 h) rfl rfl fun d t e ht => by simp [hasTy, ht]
        have hA : aAt l i = B := by
          unfold aAt
          rw [hrr, ← hB, List.take_of_length_le (by simp; omega)]
        rw [hA] at hcase
        refine hQ (.exit 2) (endI l L (i : Int) B) [] _ ρ' a' w' hcase (hf.drop ?_ (fun t v ht => ?_) (fun j b hb => ?_)) sideX_nil
        · simp only [St.frz, List.length_map]; rw [hm]; rfl
        · match t, ht with
          | 0, ht => cases ht; exact ⟨getL_map' t0, fun k hk => by simp [AVal.keys, vS] at hk⟩
          | 4, ht => cases ht; exact ⟨getL_map' t4, fun k hk => .inl (by simp [AVal.keys] at hk; omega)⟩
          | 5, ht => cases ht; exact ⟨getL_map' t5, fun k hk => .inl (by simp [AVal.keys] at hk; omega)⟩
          | 6, ht => cases ht; exact ⟨getL_map' t6, fun k hk => by simp [AVal.keys] at hk⟩
          | 8, ht => cases ht; exact ⟨getL_map' t8, fun k hk => .inl (by simp [AVal.keys] at hk; omega)⟩
          | 1, ht | 2, ht | 3, ht | 7, ht => cases ht
          | t + 9, ht => exact (getL_noneL (n := 92) (t := t) ht).elim
        · have hfz : ∀ j b, j ≠ 4 → S'.heap j = some b → (S'.frz 4 (.vw .i64 B.shared)).heap j = some (swapB 4 (.vw .i64 B.shared) b) := fun j b hj hb => by
            simp only [St.frz]
            rw [beq_false_of_ne hj, hb]
          match j, hb with
          | 0, hb => cases hb; exact ⟨hfz 0 _ (by omega) b0, .inl (by omega), fun k hk => by cases hk⟩
          | 1, hb => cases hb; exact ⟨hfz 1 _ (by omega) b1, .inl (by omega), fun k hk => by cases hk⟩
          | 3, hb => cases hb; exact ⟨hfz 3 _ (by omega) b3, .inl (by omega), fun k hk => by cases hk⟩
          | 2, hb => cases hb
          | j + 4, hb => cases hb

theorem outP_ok {l : List SeenD} {i : Nat} {KH : Hd → Prop} (hi : i < l.length) (hq : rowQ (l.getD i seenZ) = true) (hr : roomy l.length 344 = true) (hL : (refTo l i).length ≤ i) (h : KH (headO l (refTo l (i + 1)) ((i + 1 : Nat) : Int))) :
    outP l (refTo l i) (i : Int) (l.getD i seenZ) (aAt l i) [] KH := by
  have hrl : l.length * 345 ≤ 70368744177664 := by simpa [roomy] using hr
  unfold outP contO
  rw [add1 (by omega)]
  have hg : begGate l (i : Int) = true := by
    simp only [begGate, andB_iff]
    exact ⟨leI_iff.2 (by omega), leI_iff.2 (by omega), hr⟩
  simp only [rowQ, andB_iff] at hq
  rw [hg, hq.2.2.2, hq.2.2.1, roomy_le hr (show (refTo l i).length + 1 ≤ l.length by omega) (Nat.le_of_ble_eq_true bytes81)]
  simp only [refTo] at h
  have hst : refStart l i = andB (eqT .i64 (l.getD i seenZ).kind (rawI .i64 1)) (!(leT .i64 (rawI .i64 0) (begR l (i : Int) (l.getD i seenZ).ses))) := rfl
  cases h1 : eqT .i64 (l.getD i seenZ).kind (rawI .i64 1) with
  | false =>
    rw [h1] at hst
    have hst : refStart l i = false := hst
    rw [hst] at h
    exact ⟨rfl, h⟩
  | true =>
    rw [h1] at hst
    show br _ _ _
    cases h2 : leT .i64 (rawI .i64 0) (begR l (i : Int) (l.getD i seenZ).ses) with
    | true =>
      rw [h2] at hst
      have hst : refStart l i = false := hst
      rw [hst] at h
      exact ⟨rfl, h⟩
    | false =>
      rw [h2] at hst
      have hst : refStart l i = true := hst
      rw [hst] at h
      exact ⟨rfl, rfl, rfl, h⟩

theorem refTo_length (l : List SeenD) : ∀ i, (refTo l i).length ≤ i
  | 0 => Nat.le_refl _
  | i + 1 => by
    have := refTo_length l i
    simp only [refTo]
    split <;> simp <;> omega

theorem outer_sound {l : List SeenD} (hq : rowsQ l = true) (hr : roomy l.length 344 = true) : SoundG Tryz.prog env Z0 ρ0 H0 w0 0 (sideX n0) (.loop (loopN 11 0)) (hk11 l (refTo l l.length)) := by
  intro S g Z ρ a w KK Q hQ hs hj hk
  obtain ⟨rfl, hcan, hcase⟩ := hk
  have hrl : l.length * 345 ≤ 70368744177664 := by simpa [roomy] using hr
  have hC := tabN_ok env_ok mixed (tabL_ok baseRf_ok) (live := liveOf) (fuel := 5000) fnsOf_ok 0
  obtain ⟨S1, ρ1, h1, hs1⟩ := canon_sound (K := fun S' => S' = headSt (headO0 l)) hs (by rw [canon_D]; exact canonD_mono hcan fun h e => by rw [e])
  subst h1
  have hs2 := hs1.nilRow (k := 1) (e := 81) (c := .recs acctC []) (T := headSt (headO l [] 0)) rfl (by omega) (by omega) td81 rfl rfl ⟨fun v a h => decAcct_le h, fun a => rfl, fun vt h => by cases h; exact ⟨fun l => rfl, fun m => rfl⟩⟩ rfl rfl rfl (fun t v' h => by
    match t, h with
    | 0, h => cases h; exact ⟨_, rfl, .refl _, by simp [AVal.keys, vS]⟩
    | 4, h => cases h; exact ⟨_, rfl, .refl _, by simp [AVal.keys]⟩
    | 5, h => cases h; exact ⟨_, rfl, .nil, by simp [AVal.keys]⟩
    | 6, h => cases h; exact ⟨_, rfl, .refl _, by simp [AVal.keys]⟩
    | 1, h | 2, h | 3, h => cases h
    | t + 7, h => exact (getL_noneL (n := 94) (t := t) h).elim) rfl (fun j b' hj hb => by
    match j, hj, hb with
    | 0, _, hb => cases hb; exact ⟨_, rfl, rfl, .refl _, fun h => by cases h⟩
    | 1, hj, _ => exact (hj rfl).elim
    | j + 2, _, hb => cases hb)
  refine wp_loop_n (fun n a w => ∃ i Z ρ, i + n = l.length + 1 ∧ i ≤ l.length ∧ Sync env Z0 Z ρ0 H0 w0 0 (headSt (headO l (refTo l i) (i : Int))) ρ a w)
    (fun a w ⟨i, _, _, h1, h2, _⟩ => by omega) (fun n a w ⟨i, Z, ρ, hin, hil, hs⟩ => ?_) (l.length + 1) ⟨0, Z, _, by omega, by omega, hs2⟩
  have hhk : HooksOk Tryz.prog env Z0 ρ0 H0 w0 0 (sideX n0) (hooksI l (refTo l i) (i : Int) (rowAt l (i : Int)) (aAt l i)) (loopN 11 0) := by
    refine hooks_loops (fun _ => rfl) (loopN 11 0) ?_
    rw [loops11O]
    refine ⟨?_, trivial⟩
    show SoundG Tryz.prog env Z0 ρ0 H0 w0 0 (sideX n0) (.loop (loopN 11 1)) (hkI l (refTo l i) (i : Int) (rowAt l (i : Int)) (aAt l i))
    rw [rowAt_nat]
    exact fun hQ hs hj hk => inner_sound hil hq hr hQ hs hj hk
  have rnd : ∀ (KH : Hd → Prop) (KE : KOut), br (ltT .i64 (i : Int) (l.length : Int)) (outP l (refTo l i) (i : Int) (l.getD i seenZ) (aAt l i) [] KH) (KE 0 (some (.sw 1)) (some ⟨.row 81, .recs acctC (refTo l i)⟩) 101) →
      (∀ e S g Z ρ a w, rndO KH KE e S g → Sync env Z0 Z ρ0 H0 w0 0 S ρ a w → sideX n0 g Z ρ S.heap w → Exit.then (fun a w => ∃ i Z ρ, i + n = l.length + 1 ∧ i ≤ l.length ∧ Sync env Z0 Z ρ0 H0 w0 0 (headSt (headO l (refTo l i) (i : Int))) ρ a w) Q e.to a w) →
      (loopN 11 0).wp Tryz.prog (Exit.then (fun a w => ∃ i Z ρ, i + n = l.length + 1 ∧ i ≤ l.length ∧ Sync env Z0 Z ρ0 H0 w0 0 (headSt (headO l (refTo l i) (i : Int))) ρ a w) Q) a w := by
    intro KH KE hbr hend
    have hev : evG baseRf (hooksI l (refTo l i) (i : Int) (rowAt l (i : Int)) (aAt l i)) 11 0 0 20 (loopN 11 0) (headSt (headO l (refTo l i) (i : Int))) [] (rndO KH KE) := by
      refine (stepO l (refTo l i) (i : Int) (aAt l i) 10 KH KE []).mpr ?_
      rw [rowAt_nat]
      cases hlt : ltT .i64 (i : Int) (l.length : Int) with
      | true =>
        rw [hlt] at hbr
        have e2 : (!isNeg .i64 (i : Int)) = true := by show (!decide ((i : Int) < 0)) = true; simp
        have e3 : decide (toI .i64 (i : Int) < ((l.length : Nat) : Int)) = true := hlt
        rw [e2, e3]
        exact hbr
      | false =>
        rw [hlt] at hbr
        exact hbr
    unfold evG at hev
    exact codeG_sound (J := sideX n0) sideX_ok hC env_ok mixed (loopN 11 0) hhk hend hs sideX_nil hev
  by_cases hi : i < l.length
  · refine rnd (fun h => h = headO l (refTo l (i + 1)) ((i + 1 : Nat) : Int)) (fun _ _ _ _ => False) ?_ (fun e S' g' Z' ρ' a' w' hK hs' _ => ?_)
    · rw [(idx_facts hi).1]
      refine br_t (outP_ok hi ?_ hr (refTo_length l i) rfl)
      have : ∀ {l : List SeenD} {i : Nat}, rowsQ l = true → i < l.length → rowQ (l.getD i seenZ) = true := rowsQ_get
      exact this hq hi
    · cases e with
      | exit id => exact hK.elim
      | ret => exact hK.elim
      | normal =>
        obtain ⟨S3, ρ3, h3, hs3⟩ := canon_sound (K := fun S'' => S'' = headSt (headO l (refTo l (i + 1)) ((i + 1 : Nat) : Int))) hs' (by
          rw [canon_D]
          exact canonD_mono (show canonD 0 (liveOf 11 6) S' (fun h => h = headO l (refTo l (i + 1)) ((i + 1 : Nat) : Int)) from hK.2) fun h e => by rw [e])
        subst h3
        exact ⟨i + 1, Z', ρ3, by omega, by omega, hs3⟩
  · have hk : i = l.length := by omega
    refine rnd (fun _ => False) (fun id v b m => id = 0 ∧ v = some (.sw 1) ∧ b = some ⟨.row 81, .recs acctC (refTo l i)⟩ ∧ m = 101) ?_ (fun e S' g' Z' ρ' a' w' hK hs' _ => ?_)
    · have hlt : ltT .i64 (i : Int) (l.length : Int) = false := ltI_false.2 (by omega)
      rw [hlt]
      exact ⟨rfl, rfl, rfl, rfl⟩
    · cases e with
      | normal => exact (canonD_false hK.2).elim
      | ret => exact hK.elim
      | exit id =>
        obtain ⟨rfl, t5, b1, hm⟩ := hK
        rw [hk] at b1
        have hf := hs'.frz (k := 1) (x := vA (refTo l l.length)) b1 (fun cs h => vr_of_sw env_ok.size hs'.pre.heap b1 .acct (refTo l l.length) rfl h (dfltT .acct)) rfl rfl fun d t e ht => by simp [vA, hasTy, ht]
        refine hQ (.exit 0) (endO (refTo l l.length)) [] _ ρ' a' w' hcase (hf.drop ?_ (fun t v ht => ?_) (fun j b hb => by cases hb)) sideX_nil
        · simp only [St.frz, List.length_map]; rw [hm]; rfl
        · match t, ht with
          | 5, ht => cases ht; exact ⟨getL_map' t5, fun k hk => by simp [AVal.keys, vA] at hk⟩
          | 0, ht | 1, ht | 2, ht | 3, ht | 4, ht => cases ht
          | t + 6, ht => exact (getL_noneL (n := 95) (t := t) ht).elim
end

theorem ref0_ok : CtrOk Tryz.prog env 11 acc0C := ctr_of_G baseRf_ok (n := 0) acc0C_det fun {us bs K} hr => by
  cases bs with
  | cons b bs => exact hr.elim
  | nil =>
    obtain ⟨l, hl, hus, hr1⟩ := ob0_inv hr
    obtain ⟨hq, hr2⟩ := chk_inv hr1
    clear hr hr1
    subst hus
    simp only [accGate, andB_iff] at hq
    refine ⟨hooks11 l (refTo l l.length), 0 + 100, fun _ => rfl, fun {ρ Z w} => ?_, (run11 l (refTo l l.length) 0 K).mpr ?_⟩
    · rw [loops11]
      refine ⟨?_, trivial, trivial⟩
      show SoundG Tryz.prog env Z ρ (ofBlks 0 []) w 0 (sideX w.heap.size) (.loop (loopN 11 0)) (hk11 l (refTo l l.length))
      exact fun hQ hs hj hk => outer_sound hq.1 hq.2 hQ hs hj hk
    · rw [hq.2, ref_law]
      cases h : okRows l with
      | true => rw [h] at hr2; exact ⟨rfl, rfl, hr2⟩
      | false => rw [h] at hr2; exact hr2
theorem ref_ok : CtrOk Tryz.prog env 11 accC := (pre_ok ref0_ok rowsN_le).of accC_det fun {ρ Z w us bs xs K} hh hx hr => by
  cases bs with
  | cons b bs => exact hr.elim
  | nil =>
    obtain ⟨l, hl, hr⟩ := ob0_inv hr
    show ob (rowsN us) _
    simp only [rowsN, hl]
    exact ⟨rfl, hr⟩
end Go.Abs

namespace Go.Abs
open Go.Proofs

theorem eqT_self {k : IntKind} (x : TT k) : eqT k x x = true := by simp [eqT]
theorem eqL_self {k : IntKind} : ∀ (l : List (TT k)), eqL k l l = true
  | [] => rfl
  | x :: l => by simp only [eqL, eqT_self, eqL_self l]; rfl

def headSm (n : Nat) (v : AVal) (i : Int) : Hd := (some v :: some v :: none :: none :: none :: some (.int .i64 i) :: noneL n, [])
def inB (i : Int) (n : Nat) (p : Prop) : Prop := chk (!isNeg .i64 i) (chk (decide (toI .i64 i < ((n : Nat) : Int))) p)
theorem inB_ok {i n : Nat} {p : Prop} (h : i < n) (hp : p) : inB (i : Int) n p := by
  obtain ⟨-, h2, h3, -⟩ := idx_facts h
  unfold inB
  rw [h2, h3]
  exact hp

/-- Rounds of a loop over two lists that are one. -/
theorem steps_same {l : List (Nat × Ctr)} {f n : Nat} {v : AVal} {len : Nat} (hlen : len < 4611686018427387904) {fuel : Nat}
    (step : ∀ (i : Nat) (h : Hd), i < len → headSm n v ((i + 1 : Nat) : Int) = h → evC l f 0 0 (fuel + 10) (loopN f 0) (headSt (headSm n v (i : Int))) (backK f 4 h)) :
    ∀ (m i : Nat), i + m = len → Steps 0 (liveOf f 4) (evC l f 0 0 (fuel + 10) (loopN f 0)) m (headSm n v (i : Int)) (headSm n v (len : Int))
  | 0, i, h => by rw [show i = len by omega]; exact Steps.refl _
  | m + 1, i, h => Steps.step (step i _ (by omega) rfl) (steps_same hlen step m (i + 1) (by omega))

/-! ### numbers, bytes -/
theorem step70 (l : List Int) (i : Int) (h : Hd) (fuel : Nat) : evC [] 70 0 0 (fuel + 10) (loopN 70 0) (headSt (headSm 20 (.vw .i64 l) i)) (backK 70 4 h) =
  br (ltT .i64 i (l.length : Int)) (inB i l.length (inB i l.length (br (!eqT .i64 (l.getD (toI .i64 i).toNat (zeroT .i64)) (l.getD (toI .i64 i).toNat (zeroT .i64))) False (headSm 20 (.vw .i64 l) (addT .i64 i (rawI .i64 1)) = h)))) False := by kernel_rfl
theorem run70 (l : List Int) (i : Int) (fuel : Nat) (K : AVal → List (Nat × Blk) → Prop) : runJ [] (jump2 4 (headSm 20 (.vw .i64 l) 0) (headSm 20 (.vw .i64 l) i)) 70 0 (fuel + 100) [.vw .i64 l, .vw .i64 l] [] K =
  br (!eqT .i64 (l.length : Int) (l.length : Int)) (K (.bool false) []) (headSm 20 (.vw .i64 l) 0 = headSm 20 (.vw .i64 l) 0 ∧ br (ltT .i64 i (l.length : Int)) (inB i l.length (inB i l.length (br (!eqT .i64 (l.getD (toI .i64 i).toNat (zeroT .i64)) (l.getD (toI .i64 i).toNat (zeroT .i64))) (K (.bool false) []) False))) (K (.bool true) [])) := by kernel_rfl
theorem step71 (l : List UInt8) (i : Int) (h : Hd) (fuel : Nat) : evC [] 71 0 0 (fuel + 10) (loopN 71 0) (headSt (headSm 20 (.vw .u8 l) i)) (backK 71 4 h) =
  br (ltT .i64 i (l.length : Int)) (inB i l.length (inB i l.length (br (!eqT .u8 (l.getD (toI .i64 i).toNat (zeroT .u8)) (l.getD (toI .i64 i).toNat (zeroT .u8))) False (headSm 20 (.vw .u8 l) (addT .i64 i (rawI .i64 1)) = h)))) False := by kernel_rfl
theorem run71 (l : List UInt8) (i : Int) (fuel : Nat) (K : AVal → List (Nat × Blk) → Prop) : runJ [] (jump2 4 (headSm 20 (.vw .u8 l) 0) (headSm 20 (.vw .u8 l) i)) 71 0 (fuel + 100) [.vw .u8 l, .vw .u8 l] [] K =
  br (!eqT .i64 (l.length : Int) (l.length : Int)) (K (.bool false) []) (headSm 20 (.vw .u8 l) 0 = headSm 20 (.vw .u8 l) 0 ∧ br (ltT .i64 i (l.length : Int)) (inB i l.length (inB i l.length (br (!eqT .u8 (l.getD (toI .i64 i).toNat (zeroT .u8)) (l.getD (toI .i64 i).toNat (zeroT .u8))) (K (.bool false) []) False))) (K (.bool true) [])) := by kernel_rfl
def vC (l : List CommD) : AVal := .vr .comm 88 commE comm0 l
def eqC (c : CommD) : Bool := andB (eqT .i64 c.id c.id) (andB (eqL .u8 c.hid c.hid) (andB (eqL .u8 c.bin c.bin) true))
theorem step73 (l : List CommD) (i : Int) (h : Hd) (fuel : Nat) : evC [] 73 0 0 (fuel + 10) (loopN 73 0) (headSt (headSm 20 (vC l) i)) (backK 73 4 h) =
  br (ltT .i64 i (l.length : Int)) (inB i l.length (inB i l.length (br (!eqC (l.getD (toI .i64 i).toNat comm0)) False (headSm 20 (vC l) (addT .i64 i (rawI .i64 1)) = h)))) False := by kernel_rfl
theorem run73 (l : List CommD) (i : Int) (fuel : Nat) (K : AVal → List (Nat × Blk) → Prop) : runJ [] (jump2 4 (headSm 20 (vC l) 0) (headSm 20 (vC l) i)) 73 0 (fuel + 100) [vC l, vC l] [] K =
  br (!eqT .i64 (l.length : Int) (l.length : Int)) (K (.bool false) []) (headSm 20 (vC l) 0 = headSm 20 (vC l) 0 ∧ br (ltT .i64 i (l.length : Int)) (inB i l.length (inB i l.length (br (!eqC (l.getD (toI .i64 i).toNat comm0)) (K (.bool false) []) False))) (K (.bool true) [])) := by kernel_rfl
def vH (l : List (List UInt8)) : AVal := .vr .hash 76 hashE hash0 l
theorem step16 (l : List (List UInt8)) (i : Int) (h : Hd) (fuel : Nat) : evC [] 16 0 0 (fuel + 10) (loopN 16 0) (headSt (headSm 20 (vH l) i)) (backK 16 4 h) =
  br (ltT .i64 i (l.length : Int)) (inB i l.length (inB i l.length (br (!eqL .u8 (l.getD (toI .i64 i).toNat hash0) (l.getD (toI .i64 i).toNat hash0)) False (headSm 20 (vH l) (addT .i64 i (rawI .i64 1)) = h)))) False := by kernel_rfl
theorem run16 (l : List (List UInt8)) (i : Int) (fuel : Nat) (K : AVal → List (Nat × Blk) → Prop) : runJ [] (jump2 4 (headSm 20 (vH l) 0) (headSm 20 (vH l) i)) 16 0 (fuel + 100) [vH l, vH l] [] K =
  br (!eqT .i64 (l.length : Int) (l.length : Int)) (K (.bool false) []) (headSm 20 (vH l) 0 = headSm 20 (vH l) 0 ∧ br (ltT .i64 i (l.length : Int)) (inB i l.length (inB i l.length (br (!eqL .u8 (l.getD (toI .i64 i).toNat hash0) (l.getD (toI .i64 i).toNat hash0)) (K (.bool false) []) False))) (K (.bool true) [])) := by kernel_rfl
theorem loops70 : loopsOf (bodyF 70) = [(4, loopN 70 0)] := by kernel_rfl
theorem loops71 : loopsOf (bodyF 71) = [(4, loopN 71 0)] := by kernel_rfl
theorem loops73 : loopsOf (bodyF 73) = [(4, loopN 73 0)] := by kernel_rfl
theorem loops16 : loopsOf (bodyF 16) = [(4, loopN 16 0)] := by kernel_rfl

/-! ### contracts -/
theorem small_of {n : Nat} (h : roomy n 0 = true) : n < 4611686018427387904 := by
  simp only [roomy, decide_eq_true_eq] at h
  omega
def sameIC : Ctr := ⟨fun us bs K => match bs with
  | [] => match us with
    | [.vw .i64 l, .vw .i64 l'] => l = l' ∧ chk (roomy l.length 0) (K (.bool true) [])
    | _ => False
  | _ :: _ => False⟩
def sameBC : Ctr := ⟨fun us bs K => match bs with
  | [] => match us with
    | [.vw .u8 l, .vw .u8 l'] => l = l' ∧ chk (roomy l.length 0) (K (.bool true) [])
    | _ => False
  | _ :: _ => False⟩
theorem sameIC_det (us : List AVal) (bs : List Blk) : Det fun (K : Out → Prop) => sameIC.run us bs fun v h => K ⟨v, h⟩ := by
  unfold sameIC
  simp only
  split
  · split
    · exact det_and (det_chk (det_pure (⟨_, []⟩ : Out)))
    · exact det_false
  · exact det_false
theorem sameBC_det (us : List AVal) (bs : List Blk) : Det fun (K : Out → Prop) => sameBC.run us bs fun v h => K ⟨v, h⟩ := by
  unfold sameBC
  simp only
  split
  · split
    · exact det_and (det_chk (det_pure (⟨_, []⟩ : Out)))
    · exact det_false
  · exact det_false
theorem same70_ok : CtrOk Tryz.prog env 70 sameIC := ctr_of_runJ (l := []) trivial (n := 0) sameIC_det fun {ρ Z us bs xs K} hx hr => by
  cases bs with
  | cons b bs => exact hr.elim
  | nil =>
    unfold sameIC at hr
    simp only at hr
    split at hr
    · rename_i l l'
      obtain ⟨rfl, hr1⟩ := hr
      obtain ⟨hq, hK⟩ := chk_inv hr1
      have hl := small_of hq
      refine ⟨jump2 4 (headSm 20 (.vw .i64 l) 0) (headSm 20 (.vw .i64 l) (l.length : Int)), l.length + 100, ?_, (run70 l (l.length : Int) l.length K).mpr ?_⟩
      · rw [loops70]
        refine ⟨⟨l.length, by omega, steps_same hl (fun i h hi hh => (step70 l (i : Int) h (l.length + 90)).mpr ?_) l.length 0 (by omega)⟩, trivial⟩
        rw [(idx_facts hi).1]
        refine br_t (inB_ok hi (inB_ok hi ?_))
        rw [eqT_self, add1 (by omega)]
        exact hh
      · rw [eqT_self]
        refine ⟨rfl, ?_⟩
        rw [lt_irrefl]
        exact hK
    · exact hr.elim
theorem same71_ok : CtrOk Tryz.prog env 71 sameBC := ctr_of_runJ (l := []) trivial (n := 0) sameBC_det fun {ρ Z us bs xs K} hx hr => by
  cases bs with
  | cons b bs => exact hr.elim
  | nil =>
    unfold sameBC at hr
    simp only at hr
    split at hr
    · rename_i l l'
      obtain ⟨rfl, hr1⟩ := hr
      obtain ⟨hq, hK⟩ := chk_inv hr1
      have hl := small_of hq
      refine ⟨jump2 4 (headSm 20 (.vw .u8 l) 0) (headSm 20 (.vw .u8 l) (l.length : Int)), l.length + 100, ?_, (run71 l (l.length : Int) l.length K).mpr ?_⟩
      · rw [loops71]
        refine ⟨⟨l.length, by omega, steps_same hl (fun i h hi hh => (step71 l (i : Int) h (l.length + 90)).mpr ?_) l.length 0 (by omega)⟩, trivial⟩
        rw [(idx_facts hi).1]
        refine br_t (inB_ok hi (inB_ok hi ?_))
        rw [eqT_self, add1 (by omega)]
        exact hh
      · rw [eqT_self]
        refine ⟨rfl, ?_⟩
        rw [lt_irrefl]
        exact hK
    · exact hr.elim

/-- Two lists of records that are only read, of one type. -/
def vrE {t : VT} (e : Nat) (l : List t.ty) : AVal := .vr t e (encT t) (dfltT t) l
theorem vr_le {t : VT} {e : Nat} {enc : t.ty → AVal} {d d' : t.ty} {l : List t.ty} : AVal.Le (.vr t e enc d l) (.vr t e (encT t) d' l) := by
  refine ⟨fun _ h => by simp [AVal.keys] at h, rfl, fun h => ?_, fun {env d t'} h => ?_⟩
  · simp only [RepC] at h ⊢
    obtain ⟨rfl, h⟩ := h
    exact ⟨trivial, h⟩
  · cases d with
    | zero => simp [hasTy] at h
    | succ d =>
      cases htd : env.td t' with
      | none => simp [hasTy, htd] at h
      | some td => cases td <;> simp_all [hasTy, hasL] <;> (repeat' split at h) <;> simp_all [hasL]
def two (t : VT) (e : Nat) : List AVal → Option (List t.ty × List t.ty)
  | [.vr t1 e1 _ _ l, .vr t2 e2 _ _ l'] => match andB (Nat.beq e1 e) (Nat.beq e2 e), castV t t1 l, castV t t2 l' with
    | true, some m, some m' => some (m, m')
    | _, _, _ => none
  | _ => none
def twoN (t : VT) (e : Nat) (d : t.ty) (us : List AVal) : Option (List AVal) := match two t e us with
  | some p => some [.vr t e (encT t) d p.1, .vr t e (encT t) d p.2]
  | none => none
theorem castV_eq {t t' : VT} {l : List t.ty} {m : List t'.ty} (h : castV t' t l = some m) : ∃ e : t = t', e ▸ l = m := by
  cases t <;> cases t' <;> first | (cases h; exact ⟨rfl, rfl⟩) | cases h
theorem twoN_le {t : VT} {e : Nat} {d : t.ty} : ∀ us us', twoN t e d us = some us' → LeL us us' := fun us us' h => by
  unfold twoN at h
  split at h
  case h_2 => cases h
  rename_i p hp
  cases h
  unfold two at hp
  split at hp
  · split at hp
    · rename_i h1 h2 h3
      cases hp
      obtain ⟨b1, b2⟩ := andB_iff.1 h1
      have := beq_eq b1; subst this
      have := beq_eq b2; subst this
      obtain ⟨rfl, rfl⟩ := castV_eq h2
      obtain ⟨rfl, rfl⟩ := castV_eq h3
      exact ⟨vr_le, vr_le, trivial⟩
    · cases hp
  · cases hp
/-- What goes on where the two are one. -/
def sameVC (t : VT) (e : Nat) (q : List t.ty → Bool) : Ctr := ⟨fun us bs K => match bs with
  | [] => ob0 (two t e us) fun p => p.1 = p.2 ∧ chk (q p.1) (K (.bool true) [])
  | _ :: _ => False⟩
def same0C (t : VT) (e : Nat) (d : t.ty) (q : List t.ty → Bool) : Ctr := ⟨fun us bs K => match bs with
  | [] => ∃ l, us = [.vr t e (encT t) d l, .vr t e (encT t) d l] ∧ q l = true ∧ K (.bool true) []
  | _ :: _ => False⟩
theorem sameVC_det (t : VT) (e : Nat) (q : List t.ty → Bool) (us : List AVal) (bs : List Blk) : Det fun (K : Out → Prop) => (sameVC t e q).run us bs fun v h => K ⟨v, h⟩ := by
  cases bs with
  | nil => exact det_ob0 fun p => det_and (det_chk (det_pure (⟨_, []⟩ : Out)))
  | cons b bs => exact det_false
theorem same0C_det (t : VT) (e : Nat) (d : t.ty) (q : List t.ty → Bool) (us : List AVal) (bs : List Blk) : Det fun (K : Out → Prop) => (same0C t e d q).run us bs fun v h => K ⟨v, h⟩ := by
  cases bs with
  | nil => exact fun K ⟨l, h1, h2, h3⟩ => ⟨_, h3, fun K' h' => ⟨l, h1, h2, h'⟩⟩
  | cons b bs => exact det_false
theorem sameV_of {f : Nat} {t : VT} {e : Nat} {d : t.ty} {q : List t.ty → Bool} (h : CtrOk Tryz.prog env f (same0C t e d q)) : CtrOk Tryz.prog env f (sameVC t e q) := (pre_ok h twoN_le).of (sameVC_det t e q) fun {ρ Z w us bs xs K} hh hx hr => by
  cases bs with
  | cons b bs => exact hr.elim
  | nil =>
    obtain ⟨p, hp, he, hr1⟩ := ob0_inv hr
    obtain ⟨hq, hK⟩ := chk_inv hr1
    show ob (twoN t e d us) _
    simp only [twoN, hp]
    exact ⟨p.1, by rw [he], hq, hK⟩

def small0 {α : Type} (l : List α) : Bool := roomy l.length 0
theorem eqC_self (c : CommD) : eqC c = true := by unfold eqC; rw [eqT_self, eqL_self, eqL_self]; rfl
theorem same73_ok : CtrOk Tryz.prog env 73 (sameVC .comm 88 small0) := sameV_of (d := comm0) (ctr_of_runJ (l := []) trivial (n := 0) (same0C_det _ _ _ _) fun {ρ Z us bs xs K} hx hr => by
  cases bs with
  | cons b bs => exact hr.elim
  | nil =>
    obtain ⟨l, rfl, hq, hK⟩ := hr
    have hl := small_of hq
    refine ⟨jump2 4 (headSm 20 (vC l) 0) (headSm 20 (vC l) (l.length : Int)), l.length + 100, ?_, (run73 l (l.length : Int) l.length K).mpr ?_⟩
    · show AllL _ (loopsOf (bodyF 73))
      rw [loops73]
      refine ⟨⟨l.length, by omega, steps_same hl (fun i h hi hh => (step73 l (i : Int) h (l.length + 90)).mpr ?_) l.length 0 (by omega)⟩, trivial⟩
      rw [(idx_facts hi).1]
      refine br_t (inB_ok hi (inB_ok hi ?_))
      rw [eqC_self, add1 (by omega)]
      exact hh
    · rw [eqT_self]
      refine ⟨rfl, ?_⟩
      rw [lt_irrefl]
      exact hK)
theorem same16_ok : CtrOk Tryz.prog env 16 (sameVC .hash 76 small0) := sameV_of (d := hash0) (ctr_of_runJ (l := []) trivial (n := 0) (same0C_det _ _ _ _) fun {ρ Z us bs xs K} hx hr => by
  cases bs with
  | cons b bs => exact hr.elim
  | nil =>
    obtain ⟨l, rfl, hq, hK⟩ := hr
    have hl := small_of hq
    refine ⟨jump2 4 (headSm 20 (vH l) 0) (headSm 20 (vH l) (l.length : Int)), l.length + 100, ?_, (run16 l (l.length : Int) l.length K).mpr ?_⟩
    · show AllL _ (loopsOf (bodyF 16))
      rw [loops16]
      refine ⟨⟨l.length, by omega, steps_same hl (fun i h hi hh => (step16 l (i : Int) h (l.length + 90)).mpr ?_) l.length 0 (by omega)⟩, trivial⟩
      rw [(idx_facts hi).1]
      refine br_t (inB_ok hi (inB_ok hi ?_))
      rw [eqL_self, add1 (by omega)]
      exact hh
    · rw [eqT_self]
      refine ⟨rfl, ?_⟩
      rw [lt_irrefl]
      exact hK)

/-! ### packets, rows, accounts -/
def pkE (s d : Int) (b : List UInt8) : AVal := .pair (.int .i64 s) (.pair (.int .i64 d) (.pair (.vw .u8 b) .unit))
def packC : Ctr := ⟨fun us bs K => match bs with
  | [] => match us with
    | [.pair (.int .i64 s) (.pair (.int .i64 d) (.pair (.vw .u8 b) .unit)), .pair (.int .i64 s') (.pair (.int .i64 d') (.pair (.vw .u8 b') .unit))] => (s = s' ∧ d = d' ∧ b = b') ∧ chk (roomy b.length 0) (K (.bool true) [])
    | _ => False
  | _ :: _ => False⟩
theorem packC_det (us : List AVal) (bs : List Blk) : Det fun (K : Out → Prop) => packC.run us bs fun v h => K ⟨v, h⟩ := by
  unfold packC
  simp only
  split
  · split
    · exact det_and (det_chk (det_pure (⟨_, []⟩ : Out)))
    · exact det_false
  · exact det_false
def nF (K : AVal → List (Nat × Blk) → Prop) (b : Bool) (p : Prop) : Prop := br b p (K (.bool false) [])
theorem run72 (s d : Int) (b : List UInt8) (K : AVal → List (Nat × Blk) → Prop) : run [(71, sameBC)] 72 0 [pkE s d b, pkE s d b] [] K = nF K (eqT .i64 s s) (nF K (eqT .i64 d d) (b = b ∧ chk (roomy b.length 0) (K (.bool true) []))) := by kernel_rfl
theorem pack_ok : CtrOk Tryz.prog env 72 packC := (run_ok (l := [(71, sameBC)]) ⟨same71_ok, trivial⟩ 72 0).of packC_det fun {ρ Z w us bs xs K} hh hx hr => by
  cases bs with
  | cons b bs => exact hr.elim
  | nil =>
    unfold packC at hr
    simp only at hr
    split at hr
    · rename_i s d b s' d' b'
      obtain ⟨⟨rfl, rfl, rfl⟩, hr1⟩ := hr
      show run [(71, sameBC)] 72 0 [pkE s d b, pkE s d b] [] K
      rw [run72, eqT_self, eqT_self]
      exact ⟨rfl, hr1⟩
    · exact hr.elim
def small4 (s : SeenD) : Bool := andB (roomy s.bytes.length 0) (andB (roomy s.list.length 0) (andB (roomy s.text.length 0) (roomy s.ids.length 0)))
noncomputable def base37 : List (Nat × Ctr) := [(70, sameIC), (71, sameBC), (72, packC), (73, sameVC .comm 88 small0)]
theorem base37_ok : AllOk base37 := ⟨same70_ok, same71_ok, pack_ok, same73_ok, trivial⟩
theorem run37 (s : SeenD) (K : AVal → List (Nat × Blk) → Prop) : run base37 37 0 [seenE s, seenE s] [] K =
    nF K (eqT .i64 s.kind s.kind) (nF K (eqT .i64 s.event s.event) (nF K (eqT .i64 s.id s.id) (nF K (eqL .u8 s.ses s.ses)
      ((s.src = s.src ∧ s.dst = s.dst ∧ s.bytes = s.bytes) ∧ chk (roomy s.bytes.length 0) (nF K (eqC s.pair) (s.list = s.list ∧ chk (small0 s.list) (s.text = s.text ∧ chk (roomy s.text.length 0)
        (nF K (eqL .u8 s.share s.share) (nF K (eqL .u8 s.sig s.sig) (nF K (eqT .i64 s.code s.code) (s.ids = s.ids ∧ chk (roomy s.ids.length 0) (K (.bool true) [])))))))))))) := by kernel_rfl
def small5 (a : AcctD) : Bool := andB (roomy a.ids.length 0) (andB (roomy a.text.length 0) (andB (roomy a.culprits.length 0) (roomy a.shared.length 0)))
theorem run36 (a : AcctD) (K : AVal → List (Nat × Blk) → Prop) : run base37 36 0 [acctE a, acctE a] [] K =
    nF K (eqL .u8 a.ses a.ses) (a.ids = a.ids ∧ chk (roomy a.ids.length 0) (a.text = a.text ∧ chk (roomy a.text.length 0) (nF K (a.done == a.done) (nF K (eqL .u8 a.sig a.sig) (nF K (a.failed == a.failed) (nF K (eqT .i64 a.code a.code)
      (a.culprits = a.culprits ∧ chk (roomy a.culprits.length 0) (a.shared = a.shared ∧ chk (roomy a.shared.length 0) (K (.bool true) []))))))))) := by kernel_rfl
end Go.Abs

namespace Go.Abs
open Go.Proofs

def twoSeen : List AVal → Option (SeenD × SeenD)
  | [v, v'] => match decSeen v, decSeen v' with
    | some s, some s' => some (s, s')
    | _, _ => none
  | _ => none
def twoAcct : List AVal → Option (AcctD × AcctD)
  | [v, v'] => match decAcct v, decAcct v' with
    | some s, some s' => some (s, s')
    | _, _ => none
  | _ => none
def rowSmC : Ctr := ⟨fun us bs K => match bs with
  | [] => ob0 (twoSeen us) fun p => p.1 = p.2 ∧ chk (small4 p.1) (K (.bool true) [])
  | _ :: _ => False⟩
def accSmC : Ctr := ⟨fun us bs K => match bs with
  | [] => ob0 (twoAcct us) fun p => p.1 = p.2 ∧ chk (small5 p.1) (K (.bool true) [])
  | _ :: _ => False⟩
theorem rowSmC_det (us : List AVal) (bs : List Blk) : Det fun (K : Out → Prop) => rowSmC.run us bs fun v h => K ⟨v, h⟩ := by
  cases bs with
  | nil => exact det_ob0 fun p => det_and (det_chk (det_pure (⟨_, []⟩ : Out)))
  | cons b bs => exact det_false
theorem accSmC_det (us : List AVal) (bs : List Blk) : Det fun (K : Out → Prop) => accSmC.run us bs fun v h => K ⟨v, h⟩ := by
  cases bs with
  | nil => exact det_ob0 fun p => det_and (det_chk (det_pure (⟨_, []⟩ : Out)))
  | cons b bs => exact det_false
def twoSeenN (us : List AVal) : Option (List AVal) := match twoSeen us with
  | some p => some [seenE p.1, seenE p.2]
  | none => none
def twoAcctN (us : List AVal) : Option (List AVal) := match twoAcct us with
  | some p => some [acctE p.1, acctE p.2]
  | none => none
theorem twoSeenN_le : ∀ us us', twoSeenN us = some us' → LeL us us' := fun us us' h => by
  unfold twoSeenN at h
  split at h
  case h_2 => cases h
  rename_i p hp
  cases h
  unfold twoSeen at hp
  split at hp
  · split at hp
    · cases hp
      rename_i h1 h2
      exact ⟨decSeen_le h1, decSeen_le h2, trivial⟩
    · cases hp
  · cases hp
theorem twoAcctN_le : ∀ us us', twoAcctN us = some us' → LeL us us' := fun us us' h => by
  unfold twoAcctN at h
  split at h
  case h_2 => cases h
  rename_i p hp
  cases h
  unfold twoAcct at hp
  split at hp
  · split at hp
    · cases hp
      rename_i h1 h2
      exact ⟨decAcct_le h1, decAcct_le h2, trivial⟩
    · cases hp
  · cases hp
theorem rowSm_ok : CtrOk Tryz.prog env 37 rowSmC := (pre_ok (run_ok base37_ok 37 0) twoSeenN_le).of rowSmC_det fun {ρ Z w us bs xs K} hh hx hr => by
  cases bs with
  | cons b bs => exact hr.elim
  | nil =>
    obtain ⟨⟨s, s'⟩, hp, he, hr1⟩ := ob0_inv hr
    obtain ⟨hq, hK⟩ := chk_inv hr1
    simp only at he hq
    subst he
    show ob (twoSeenN us) _
    simp only [twoSeenN, hp]
    show run base37 37 0 [seenE s, seenE s] [] K
    simp only [small4, andB_iff] at hq
    obtain ⟨q1, q2, q3, q4⟩ := hq
    have q2' : small0 s.list = true := q2
    rw [run37, q1, q2', q3, q4]
    simp only [eqT_self, eqL_self, eqC_self]
    exact ⟨⟨trivial, trivial, trivial⟩, trivial, trivial, trivial, hK⟩
theorem accSm_ok : CtrOk Tryz.prog env 36 accSmC := (pre_ok (run_ok base37_ok 36 0) twoAcctN_le).of accSmC_det fun {ρ Z w us bs xs K} hh hx hr => by
  cases bs with
  | cons b bs => exact hr.elim
  | nil =>
    obtain ⟨⟨s, s'⟩, hp, he, hr1⟩ := ob0_inv hr
    obtain ⟨hq, hK⟩ := chk_inv hr1
    simp only at he hq
    subst he
    show ob (twoAcctN us) _
    simp only [twoAcctN, hp]
    show run base37 36 0 [acctE s, acctE s] [] K
    simp only [small5, andB_iff] at hq
    obtain ⟨q1, q2, q3, q4⟩ := hq
    rw [run36, q1, q2, q3, q4]
    simp only [eqT_self, eqL_self, beq_self_eq_true]
    exact ⟨trivial, trivial, trivial, trivial, hK⟩

def all4 : List SeenD → Bool
  | [] => true
  | s :: l => andB (small4 s) (all4 l)
def all5 : List AcctD → Bool
  | [] => true
  | s :: l => andB (small5 s) (all5 l)
theorem all4_get : ∀ {l : List SeenD} {i : Nat}, all4 l = true → i < l.length → small4 (l.getD i seenZ) = true
  | s :: l, 0, h, _ => (andB_iff.1 h).1
  | s :: l, i + 1, h, hi => by
    have := all4_get (i := i) (andB_iff.1 h).2 (by simpa using hi)
    simpa using this
  | [], i, _, hi => by simp at hi
theorem all5_get : ∀ {l : List AcctD} {i : Nat}, all5 l = true → i < l.length → small5 (l.getD i acct0) = true
  | s :: l, 0, h, _ => (andB_iff.1 h).1
  | s :: l, i + 1, h, hi => by
    have := all5_get (i := i) (andB_iff.1 h).2 (by simpa using hi)
    simpa using this
  | [], i, _, hi => by simp at hi
def gate4 (l : List SeenD) : Bool := andB (roomy l.length 0) (all4 l)
def gate5 (l : List AcctD) : Bool := andB (roomy l.length 0) (all5 l)
def accAt (l : List AcctD) (i : Int) : AcctD := l.getD (toI .i64 i).toNat acct0

noncomputable def base17 : List (Nat × Ctr) := [(37, rowSmC)]
noncomputable def base14 : List (Nat × Ctr) := [(36, accSmC)]
theorem step17 (l : List SeenD) (i : Int) (h : Hd) (fuel : Nat) : evC base17 17 0 0 (fuel + 10) (loopN 17 0) (headSt (headSm 21 (vS l) i)) (backK 17 4 h) =
  br (ltT .i64 i (l.length : Int)) (inB i l.length (inB i l.length (rowAt l i = rowAt l i ∧ chk (small4 (rowAt l i)) (headSm 21 (vS l) (addT .i64 i (rawI .i64 1)) = h)))) False := by kernel_rfl
theorem run17 (l : List SeenD) (i : Int) (fuel : Nat) (K : AVal → List (Nat × Blk) → Prop) : runJ base17 (jump2 4 (headSm 21 (vS l) 0) (headSm 21 (vS l) i)) 17 0 (fuel + 100) [vS l, vS l] [] K =
  br (!eqT .i64 (l.length : Int) (l.length : Int)) (K (.bool false) []) (headSm 21 (vS l) 0 = headSm 21 (vS l) 0 ∧ br (ltT .i64 i (l.length : Int)) (inB i l.length (inB i l.length (rowAt l i = rowAt l i ∧ chk (small4 (rowAt l i)) False))) (K (.bool true) [])) := by kernel_rfl
theorem step14 (l : List AcctD) (i : Int) (h : Hd) (fuel : Nat) : evC base14 14 0 0 (fuel + 10) (loopN 14 0) (headSt (headSm 21 (vA l) i)) (backK 14 4 h) =
  br (ltT .i64 i (l.length : Int)) (inB i l.length (inB i l.length (accAt l i = accAt l i ∧ chk (small5 (accAt l i)) (headSm 21 (vA l) (addT .i64 i (rawI .i64 1)) = h)))) False := by kernel_rfl
theorem run14 (l : List AcctD) (i : Int) (fuel : Nat) (K : AVal → List (Nat × Blk) → Prop) : runJ base14 (jump2 4 (headSm 21 (vA l) 0) (headSm 21 (vA l) i)) 14 0 (fuel + 100) [vA l, vA l] [] K =
  br (!eqT .i64 (l.length : Int) (l.length : Int)) (K (.bool false) []) (headSm 21 (vA l) 0 = headSm 21 (vA l) 0 ∧ br (ltT .i64 i (l.length : Int)) (inB i l.length (inB i l.length (accAt l i = accAt l i ∧ chk (small5 (accAt l i)) False))) (K (.bool true) [])) := by kernel_rfl
theorem loops17 : loopsOf (bodyF 17) = [(4, loopN 17 0)] := by kernel_rfl
theorem loops14 : loopsOf (bodyF 14) = [(4, loopN 14 0)] := by kernel_rfl
theorem accAt_nat (l : List AcctD) (i : Nat) : accAt l (i : Int) = l.getD i acct0 := by unfold accAt; rw [show (toI .i64 (i : Int)).toNat = i by simp [toI]]

theorem same17_ok : CtrOk Tryz.prog env 17 (sameVC .seen 92 gate4) := sameV_of (d := dfltT .seen) (ctr_of_runJ (l := base17) ⟨rowSm_ok, trivial⟩ (n := 0) (same0C_det _ _ _ _) fun {ρ Z us bs xs K} hx hr => by
  cases bs with
  | cons b bs => exact hr.elim
  | nil =>
    obtain ⟨l, rfl, hq, hK⟩ := hr
    obtain ⟨hq1, hq2⟩ := andB_iff.1 hq
    have hl := small_of hq1
    refine ⟨jump2 4 (headSm 21 (vS l) 0) (headSm 21 (vS l) (l.length : Int)), l.length + 100, ?_, (run17 l (l.length : Int) l.length K).mpr ?_⟩
    · show AllL _ (loopsOf (bodyF 17))
      rw [loops17]
      refine ⟨⟨l.length, by omega, steps_same hl (fun i h hi hh => (step17 l (i : Int) h (l.length + 90)).mpr ?_) l.length 0 (by omega)⟩, trivial⟩
      rw [(idx_facts hi).1]
      refine br_t (inB_ok hi (inB_ok hi ⟨rfl, ?_⟩))
      rw [rowAt_nat, all4_get hq2 hi, add1 (by omega)]
      exact hh
    · rw [eqT_self]
      refine ⟨rfl, ?_⟩
      rw [lt_irrefl]
      exact hK)
theorem same14_ok : CtrOk Tryz.prog env 14 (sameVC .acct 81 gate5) := sameV_of (d := dfltT .acct) (ctr_of_runJ (l := base14) ⟨accSm_ok, trivial⟩ (n := 0) (same0C_det _ _ _ _) fun {ρ Z us bs xs K} hx hr => by
  cases bs with
  | cons b bs => exact hr.elim
  | nil =>
    obtain ⟨l, rfl, hq, hK⟩ := hr
    obtain ⟨hq1, hq2⟩ := andB_iff.1 hq
    have hl := small_of hq1
    refine ⟨jump2 4 (headSm 21 (vA l) 0) (headSm 21 (vA l) (l.length : Int)), l.length + 100, ?_, (run14 l (l.length : Int) l.length K).mpr ?_⟩
    · show AllL _ (loopsOf (bodyF 14))
      rw [loops14]
      refine ⟨⟨l.length, by omega, steps_same hl (fun i h hi hh => (step14 l (i : Int) h (l.length + 90)).mpr ?_) l.length 0 (by omega)⟩, trivial⟩
      rw [(idx_facts hi).1]
      refine br_t (inB_ok hi (inB_ok hi ⟨rfl, ?_⟩))
      rw [accAt_nat, all5_get hq2 hi, add1 (by omega)]
      exact hh
    · rw [eqT_self]
      refine ⟨rfl, ?_⟩
      rw [lt_irrefl]
      exact hK)
end Go.Abs

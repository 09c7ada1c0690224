/- Pending. Numbers modulo L: contracts by values. Points as bytes. Numbers modulo L, on. The curve's doors. -/
import Derived.Test.YtadiphoihflmiaaGreatDoorZaz
import Derived.Test.YtadiphoihflmiaaGreatDoorZax
set_option linter.all false
set_option maxRecDepth 1000000
namespace Go.Abs
open Go.Proofs

def pendF : List AcctD → List (List UInt8)
  | [] => []
  | a :: L => match andB (!a.done) (!a.failed) with
    | true => a.ses :: pendF L
    | false => pendF L
theorem pendF_snoc (a : AcctD) : ∀ (L : List AcctD), pendF (L ++ [a]) = pendF L ++ (match andB (!a.done) (!a.failed) with
    | true => [a.ses]
    | false => [])
  | [] => by simp only [List.nil_append, pendF]
  | b :: L => by
    simp only [List.cons_append, pendF, pendF_snoc a L]
    split <;> simp
theorem pendF_length : ∀ (L : List AcctD), (pendF L).length ≤ L.length
  | [] => Nat.le_refl _
  | a :: L => by
    have := pendF_length L
    simp only [pendF]
    split <;> simp <;> omega

/-! ### contracts of functions of rows -/
def rowsC0 (F : List SeenD → (AVal → List (Nat × Blk) → Prop) → Prop) : Ctr := ⟨fun us bs K => match bs with
  | [] => ob0 (rowsOf us) fun l => us = [vS l] ∧ F l K
  | _ :: _ => False⟩
def rowsC (F : List SeenD → (AVal → List (Nat × Blk) → Prop) → Prop) : Ctr := ⟨fun us bs K => match bs with
  | [] => ob0 (rowsOf us) fun l => F l K
  | _ :: _ => False⟩
def DetF (F : List SeenD → (AVal → List (Nat × Blk) → Prop) → Prop) : Prop := ∀ l, Det fun (K : Out → Prop) => F l fun v h => K ⟨v, h⟩
theorem rowsC0_det {F : List SeenD → (AVal → List (Nat × Blk) → Prop) → Prop} (hF : DetF F) (us : List AVal) (bs : List Blk) : Det fun (K : Out → Prop) => (rowsC0 F).run us bs fun v h => K ⟨v, h⟩ := by
  cases bs with
  | nil => exact det_ob0 fun l => det_and (hF l)
  | cons b bs => exact det_false
theorem rowsC_det {F : List SeenD → (AVal → List (Nat × Blk) → Prop) → Prop} (hF : DetF F) (us : List AVal) (bs : List Blk) : Det fun (K : Out → Prop) => (rowsC F).run us bs fun v h => K ⟨v, h⟩ := by
  cases bs with
  | nil => exact det_ob0 fun l => hF l
  | cons b bs => exact det_false
theorem rows_of {f : Nat} {F : List SeenD → (AVal → List (Nat × Blk) → Prop) → Prop} (hF : DetF F) (h : CtrOk Tryz.prog env f (rowsC0 F)) : CtrOk Tryz.prog env f (rowsC F) := (pre_ok h rowsN_le).of (rowsC_det hF) fun {ρ Z w us bs xs K} hh hx hr => by
  cases bs with
  | cons b bs => exact hr.elim
  | nil =>
    obtain ⟨l, hl, hr⟩ := ob0_inv hr
    show ob (rowsN us) _
    simp only [rowsN, hl]
    exact ⟨rfl, hr⟩
theorem rows_mono {f : Nat} {F G : List SeenD → (AVal → List (Nat × Blk) → Prop) → Prop} (hG : DetF G) (hGF : ∀ l K, G l K → F l K) (h : CtrOk Tryz.prog env f (rowsC F)) : CtrOk Tryz.prog env f (rowsC G) := h.of (rowsC_det hG) fun {ρ Z w us bs xs K} hh hx hr => by
  cases bs with
  | cons b bs => exact hr.elim
  | nil =>
    obtain ⟨l, hl, hr⟩ := ob0_inv hr
    show ob0 (rowsOf us) _
    rw [hl]
    exact hGF l K hr
theorem rows_or {f : Nat} {F G E : List SeenD → (AVal → List (Nat × Blk) → Prop) → Prop} (hE : DetF E) (h1 : CtrOk Tryz.prog env f (rowsC F)) (h2 : CtrOk Tryz.prog env f (rowsC G)) (h : ∀ l K, E l K → F l K ∨ G l K) : CtrOk Tryz.prog env f (rowsC E) :=
  ⟨fun {ρ Z w us bs xs K} hh hx hk hb hr => by
    cases bs with
    | cons b bs => exact hr.elim
    | nil =>
      obtain ⟨l, hl, hr⟩ := ob0_inv hr
      rcases h l K hr with h3 | h3
      · refine h1.run hh hx hk hb ?_
        show ob0 (rowsOf us) _
        rw [hl]; exact h3
      · refine h2.run hh hx hk hb ?_
        show ob0 (rowsOf us) _
        rw [hl]; exact h3, rowsC_det hE⟩

def okF (v : List SeenD → AVal) (l : List SeenD) (K : AVal → List (Nat × Blk) → Prop) : Prop := chk (accGate l) (chk (okRows l) (K (vOk (v l)) []))
def errF (l : List SeenD) (K : AVal → List (Nat × Blk) → Prop) : Prop := chk (accGate l) (chk (!okRows l) (K vErr []))
def bothF (v : List SeenD → AVal) (l : List SeenD) (K : AVal → List (Nat × Blk) → Prop) : Prop := chk (accGate l) (br (okRows l) (K (vOk (v l)) []) (K vErr []))
theorem okF_det (v : List SeenD → AVal) : DetF (okF v) := fun l => det_chk (det_chk (det_pure (⟨_, []⟩ : Out)))
theorem errF_det : DetF errF := fun l => det_chk (det_chk (det_pure (⟨_, []⟩ : Out)))
theorem bothF_det (v : List SeenD → AVal) : DetF (bothF v) := fun l => det_chk (det_br (det_pure (⟨_, []⟩ : Out)) (det_pure (⟨_, []⟩ : Out)))
theorem both_ok {f : Nat} {v : List SeenD → AVal} (h : CtrOk Tryz.prog env f (rowsC (bothF v))) : CtrOk Tryz.prog env f (rowsC (okF v)) := rows_mono (okF_det v) (fun l K h => by
  obtain ⟨h1, h⟩ := chk_inv h
  obtain ⟨h2, h⟩ := chk_inv h
  unfold bothF; rw [h1, h2]; exact h) h
theorem both_err {f : Nat} {v : List SeenD → AVal} (h : CtrOk Tryz.prog env f (rowsC (bothF v))) : CtrOk Tryz.prog env f (rowsC errF) := rows_mono errF_det (fun l K h => by
  obtain ⟨h1, h⟩ := chk_inv h
  obtain ⟨h2, h⟩ := chk_inv h
  unfold bothF; rw [h1, show okRows l = false by simpa using h2]; exact h) h
theorem both_of {f : Nat} {v : List SeenD → AVal} (h1 : CtrOk Tryz.prog env f (rowsC (okF v))) (h2 : CtrOk Tryz.prog env f (rowsC errF)) : CtrOk Tryz.prog env f (rowsC (bothF v)) := rows_or (bothF_det v) h1 h2 fun l K h => by
  obtain ⟨h3, h⟩ := chk_inv h
  cases hq : okRows l with
  | true => rw [hq] at h; exact .inl (by unfold okF; rw [h3, hq]; exact h)
  | false => rw [hq] at h; exact .inr (by unfold errF; rw [h3, hq]; exact h)
def vAl (l : List SeenD) : AVal := vA (accF l)
def vPl (l : List SeenD) : AVal := vH (pendF (accF l))
theorem acc10_ok : CtrOk Tryz.prog env 10 (rowsC (bothF vAl)) := acc_ok
theorem acc11_ok : CtrOk Tryz.prog env 11 (rowsC (bothF vAl)) := ref_ok

/-! ### the loops -/
noncomputable def basePo (f : Nat) : List (Nat × Ctr) := [(f, rowsC (okF vAl))]
noncomputable def basePe (f : Nat) : List (Nat × Ctr) := [(f, rowsC errF)]
theorem basePo10_ok : AllOk (basePo 10) := ⟨both_ok acc10_ok, trivial⟩
theorem basePe10_ok : AllOk (basePe 10) := ⟨both_err acc10_ok, trivial⟩
theorem basePo11_ok : AllOk (basePo 11) := ⟨both_ok acc11_ok, trivial⟩
theorem basePe11_ok : AllOk (basePe 11) := ⟨both_err acc11_ok, trivial⟩
def tmpsP (L : List AcctD) (o : AVal) (i : Int) : List (Option AVal) := noneL 6 ++ (some o :: (noneL 10 ++ (some (vA L) :: some (.int .i64 (L.length : Int)) :: some (.int .i64 i) :: noneL 18)))
def headPd0 (L : List AcctD) : Hd := (tmpsP L .nilsl 0, [])
def headPd (L : List AcctD) (out : List (List UInt8)) (i : Int) : Hd := (tmpsP L (.sw 0) i, [(0, ⟨.row 76, .recs hashC out⟩)])
def tmpsQ (L : List AcctD) (o : AVal) (i : Int) : List (Option AVal) := noneL 4 ++ (some (vA L) :: some (.int .i64 (0 : Int)) :: some o :: some (.int .i64 i) :: noneL 35)
def headPr0 (L : List AcctD) : Hd := (tmpsQ L .nilsl 0, [])
def headPr (L : List AcctD) (out : List (List UInt8)) (i : Int) : Hd := (tmpsQ L (.sw 0) i, [(0, ⟨.row 76, .recs hashC out⟩)])
abbrev KPnd := Nat → List (Option AVal) → Option Blk → Nat → Prop
noncomputable def rndP (f r : Nat) (KH : Hd → Prop) (KE : KPnd) : XE → St → List Own → Prop := fun e S' g' => match e with
  | .normal => canonD 0 (liveOf f r) S' KH
  | .ret => False
  | .exit id => KE id [getL S'.tmps 5, getL S'.tmps 6] (S'.heap 0) S'.tmps.length
theorem step12 (L : List AcctD) (out : List (List UInt8)) (i : Int) (fuel : Nat) (KH : Hd → Prop) (KE : KPnd) (X : List Own) :
    evG (basePo 10) noHooks 12 0 0 (fuel + 10) (loopN 12 0) (headSt (headPd L out i)) X (rndP 12 6 KH KE) =
    br (ltT .i64 i (L.length : Int)) (inB i L.length (br (!(accAt L i).done) (br (!(accAt L i).failed) (chk (roomy (out.length + 1) (env.bytes 76)) (KH (headPd L (out ++ [(accAt L i).ses]) (addT .i64 i (rawI .i64 1))))) (KH (headPd L out (addT .i64 i (rawI .i64 1))))) (KH (headPd L out (addT .i64 i (rawI .i64 1))))))
      (KE 0 [none, some (.sw 0)] (some ⟨.row 76, .recs hashC out⟩) 38) := by kernel_rfl
theorem step13 (L : List AcctD) (out : List (List UInt8)) (i : Int) (fuel : Nat) (KH : Hd → Prop) (KE : KPnd) (X : List Own) :
    evG (basePo 11) noHooks 13 0 0 (fuel + 10) (loopN 13 0) (headSt (headPr L out i)) X (rndP 13 4 KH KE) =
    br (ltT .i64 i (L.length : Int)) (inB i L.length (br (!(accAt L i).done) (inB i L.length (br (!(accAt L i).failed) (inB i L.length (chk (roomy (out.length + 1) (env.bytes 76)) (KH (headPr L (out ++ [(accAt L i).ses]) (addT .i64 i (rawI .i64 1)))))) (KH (headPr L out (addT .i64 i (rawI .i64 1)))))) (KH (headPr L out (addT .i64 i (rawI .i64 1))))))
      (KE 0 [some (.int .i64 (0 : Int)), some (.sw 0)] (some ⟨.row 76, .recs hashC out⟩) 43) := by kernel_rfl
theorem loops12 : loopsOf (bodyF 12) = [(6, loopN 12 0)] := by kernel_rfl
theorem loops13 : loopsOf (bodyF 13) = [(4, loopN 13 0)] := by kernel_rfl
theorem loops12I : loopsOf (loopN 12 0) = [] := by kernel_rfl
theorem loops13I : loopsOf (loopN 13 0) = [] := by kernel_rfl
theorem bytes76 : Nat.ble (env.bytes 76) 344 = true := by kernel_rfl
theorem td76 : ∃ d, env.td 76 = some d := ⟨_, (by kernel_rfl : env.td 76 = some (.arr 32 5))⟩

def endPd (L : List AcctD) : St := ⟨noneL 6 ++ (some (vH (pendF L)) :: noneL 31), fun _ => none, fun _ => false⟩
def endPr (L : List AcctD) : St := ⟨noneL 5 ++ (some (.int .i64 (0 : Int)) :: some (vH (pendF L)) :: noneL 36), fun _ => none, fun _ => false⟩
noncomputable def hk12 (L : List AcctD) : HkG (List Own) := fun S X K => X = [] ∧ canonD 0 (liveOf 12 6) S (fun h => h = headPd0 L) ∧ K (.exit 0) (endPd L) []
noncomputable def hk13 (L : List AcctD) : HkG (List Own) := fun S X K => X = [] ∧ canonD 0 (liveOf 13 4) S (fun h => h = headPr0 L) ∧ K (.exit 0) (endPr L) []
noncomputable def hooks12 (L : List AcctD) : Hooks (List Own) := ⟨fun q => match Nat.beq q 6 with
  | true => some (hk12 L)
  | false => none, fun _ => none⟩
noncomputable def hooks13 (L : List AcctD) : Hooks (List Own) := ⟨fun q => match Nat.beq q 4 with
  | true => some (hk13 L)
  | false => none, fun _ => none⟩
theorem run12 (l : List SeenD) (fuel : Nat) (K : AVal → List (Nat × Blk) → Prop) : runS (basePo 10) (hooks12 (accF l)) 12 0 (fuel + 100) [vS l] [] K =
    chk (accGate l) (chk (okRows l) (([] : List Own) = [] ∧ headPd0 (accF l) = headPd0 (accF l) ∧ K (vOk (vPl l)) [])) := by kernel_rfl
theorem run12e (l : List SeenD) (fuel : Nat) (K : AVal → List (Nat × Blk) → Prop) : runS (basePe 10) noHooks 12 0 (fuel + 100) [vS l] [] K = chk (accGate l) (chk (!okRows l) (K vErr [])) := by kernel_rfl
theorem run13 (l : List SeenD) (fuel : Nat) (K : AVal → List (Nat × Blk) → Prop) : runS (basePo 11) (hooks13 (accF l)) 13 0 (fuel + 100) [vS l] [] K =
    chk (accGate l) (chk (okRows l) (([] : List Own) = [] ∧ headPr0 (accF l) = headPr0 (accF l) ∧ K (vOk (vPl l)) [])) := by kernel_rfl
theorem run13e (l : List SeenD) (fuel : Nat) (K : AVal → List (Nat × Blk) → Prop) : runS (basePe 11) noHooks 13 0 (fuel + 100) [vS l] [] K = chk (accGate l) (chk (!okRows l) (K vErr [])) := by kernel_rfl

section
variable {Z0 Z : Zone} {ρ0 ρ : PMap} {H0 : Heap} {w0 w : World} {a : Act} {S : St} {n0 : Nat}
theorem loop12_sound {L : List AcctD} (hr : roomy L.length 344 = true) : SoundG Tryz.prog env Z0 ρ0 H0 w0 0 (sideX n0) (.loop (loopN 12 0)) (hk12 L) := by
  intro S g Z ρ a w KK Q hQ hs hj hk
  obtain ⟨rfl, hcan, hcase⟩ := hk
  have hrl : L.length * 345 ≤ 70368744177664 := by simpa [roomy] using hr
  have hC := tabN_ok env_ok mixed (tabL_ok basePo10_ok) (live := liveOf) (fuel := 5000) fnsOf_ok 0
  obtain ⟨S1, ρ1, h1, hs1⟩ := canon_sound (K := fun S' => S' = headSt (headPd0 L)) hs (by rw [canon_D]; exact canonD_mono hcan fun h e => by rw [e])
  subst h1
  have hs2 := hs1.nilRow (k := 0) (e := 76) (c := .recs hashC []) (T := headSt (headPd L [] 0)) rfl (by omega) (by omega) td76 rfl rfl (env_ok.cod 76 hashC (by kernel_rfl) |> fun h => ⟨h.dec, h.keys, h.vt⟩) rfl rfl rfl (fun t v' h => by
    match t, h with
    | 6, h => cases h; exact ⟨_, rfl, .nil, by simp [AVal.keys]⟩
    | 17, h => cases h; exact ⟨_, rfl, .refl _, by simp [AVal.keys, vA]⟩
    | 18, h | 19, h => cases h; exact ⟨_, rfl, .refl _, by simp [AVal.keys]⟩
    | 0, h | 1, h | 2, h | 3, h | 4, h | 5, h | 7, h | 8, h | 9, h | 10, h | 11, h | 12, h | 13, h | 14, h | 15, h | 16, h => cases h
    | t + 20, h => exact (getL_noneL (n := 18) (t := t) h).elim) rfl (fun j b' hj hb => by
    match j, hj, hb with
    | 0, hj, _ => exact (hj rfl).elim
    | j + 1, _, hb => cases hb)
  refine wp_loop_n (fun n a w => ∃ i Z ρ, i + n = L.length + 1 ∧ i ≤ L.length ∧ Sync env Z0 Z ρ0 H0 w0 0 (headSt (headPd L (pendF (L.take i)) (i : Int))) ρ a w)
    (fun a w ⟨i, _, _, h1, h2, _⟩ => by omega) (fun n a w ⟨i, Z, ρ, hin, hil, hs⟩ => ?_) (L.length + 1) ⟨0, Z, _, by omega, by omega, hs2⟩
  have hhk : HooksOk Tryz.prog env Z0 ρ0 H0 w0 0 (sideX n0) noHooks (loopN 12 0) := hooks_loops (fun _ => rfl) (loopN 12 0) (by rw [loops12I]; trivial)
  have rnd : ∀ (KH : Hd → Prop) (KE : KPnd), (i < L.length → KH (headPd L (pendF (L.take (i + 1))) ((i + 1 : Nat) : Int))) → (i = L.length → KE 0 [none, some (.sw 0)] (some ⟨.row 76, .recs hashC (pendF (L.take i))⟩) 38) →
      (∀ e S g Z ρ a w, rndP 12 6 KH KE e S g → Sync env Z0 Z ρ0 H0 w0 0 S ρ a w → sideX n0 g Z ρ S.heap w → Exit.then (fun a w => ∃ i Z ρ, i + n = L.length + 1 ∧ i ≤ L.length ∧ Sync env Z0 Z ρ0 H0 w0 0 (headSt (headPd L (pendF (L.take i)) (i : Int))) ρ a w) Q e.to a w) →
      (loopN 12 0).wp Tryz.prog (Exit.then (fun a w => ∃ i Z ρ, i + n = L.length + 1 ∧ i ≤ L.length ∧ Sync env Z0 Z ρ0 H0 w0 0 (headSt (headPd L (pendF (L.take i)) (i : Int))) ρ a w) Q) a w := by
    intro KH KE hstp hlast hend
    have hev : evG (basePo 10) noHooks 12 0 0 20 (loopN 12 0) (headSt (headPd L (pendF (L.take i)) (i : Int))) [] (rndP 12 6 KH KE) := by
      refine (step12 L (pendF (L.take i)) (i : Int) 10 KH KE []).mpr ?_
      by_cases hi : i < L.length
      · rw [(idx_facts hi).1]
        have hK := hstp hi
        have hx : L[i] = L.getD i acct0 := by simp [List.getD, hi]
        rw [List.take_add_one, show L[i]?.toList = [L[i]] by simp [hi], pendF_snoc, hx] at hK
        have hro : roomy ((pendF (L.take i)).length + 1) (env.bytes 76) = true := roomy_le hr (by have := pendF_length (L.take i); simp only [List.length_take] at this; omega) (Nat.le_of_ble_eq_true bytes76)
        refine br_t (inB_ok hi ?_)
        rw [accAt_nat, add1 (by omega), hro]
        generalize L.getD i acct0 = x at *
        cases h1 : x.done with
        | true => rw [h1] at hK; simp only [Bool.not_true, andB, List.append_nil] at hK; exact hK
        | false =>
          rw [h1] at hK
          show br _ _ _
          cases h2 : x.failed with
          | true => rw [h2] at hK; simp only [Bool.not_false, Bool.not_true, andB, List.append_nil] at hK; exact hK
          | false => rw [h2] at hK; simp only [Bool.not_false, andB] at hK; exact hK
      · have hk : i = L.length := by omega
        rw [ltI_false.2 (show ¬ ((i : Nat) : Int) < ((L.length : Nat) : Int) by omega)]
        exact hlast hk
    unfold evG at hev
    exact codeG_sound (J := sideX n0) sideX_ok hC env_ok mixed (loopN 12 0) hhk hend hs sideX_nil hev
  by_cases hi : i < L.length
  · refine rnd (fun h => h = headPd L (pendF (L.take (i + 1))) ((i + 1 : Nat) : Int)) (fun _ _ _ _ => False) (fun _ => rfl) (fun h => by omega) (fun e S' g' Z' ρ' a' w' hK hs' _ => ?_)
    cases e with
    | exit id => exact hK.elim
    | ret => exact hK.elim
    | normal =>
      obtain ⟨S3, ρ3, h3, hs3⟩ := canon_sound (K := fun S'' => S'' = headSt (headPd L (pendF (L.take (i + 1))) ((i + 1 : Nat) : Int))) hs' (by
        rw [canon_D]
        exact canonD_mono (show canonD 0 (liveOf 12 6) S' (fun h => h = headPd L (pendF (L.take (i + 1))) ((i + 1 : Nat) : Int)) from hK) fun h e => by rw [e])
      subst h3
      exact ⟨i + 1, Z', ρ3, by omega, by omega, hs3⟩
  · have hk : i = L.length := by omega
    refine rnd (fun _ => False) (fun id ts b m => id = 0 ∧ ts = [none, some (.sw 0)] ∧ b = some ⟨.row 76, .recs hashC (pendF (L.take i))⟩ ∧ m = 38) (fun h => by omega) (fun _ => ⟨rfl, rfl, rfl, rfl⟩) (fun e S' g' Z' ρ' a' w' hK hs' _ => ?_)
    cases e with
    | normal => exact (canonD_false hK).elim
    | ret => exact hK.elim
    | exit id =>
      obtain ⟨rfl, hts, b0, hm⟩ := hK
      simp only [List.cons.injEq, and_true] at hts
      obtain ⟨t5, t6⟩ := hts
      rw [hk, List.take_length] at b0
      have hf := hs'.frz (k := 0) (x := vH (pendF L)) b0 (fun cs h => vr_of_sw env_ok.size hs'.pre.heap b0 .hash (pendF L) rfl h hash0) rfl rfl fun d t e ht => by simp [vH, hasTy, ht]
      refine hQ (.exit 0) (endPd L) [] _ ρ' a' w' hcase (hf.drop ?_ (fun t v ht => ?_) (fun j b hb => by cases hb)) sideX_nil
      · simp only [St.frz, List.length_map]; rw [hm]; rfl
      · match t, ht with
        | 6, ht => cases ht; exact ⟨getL_map' t6, fun k hk => by simp [AVal.keys, vH] at hk⟩
        | 0, ht | 1, ht | 2, ht | 3, ht | 4, ht | 5, ht => cases ht
        | t + 7, ht => exact (getL_noneL (n := 31) (t := t) ht).elim
end
theorem pend12_ok : CtrOk Tryz.prog env 12 (rowsC (bothF vPl)) := both_of
  (rows_of (okF_det vPl) (ctr_of_G basePo10_ok (n := 0) (rowsC0_det (okF_det vPl)) fun {us bs K} hr => by
    cases bs with
    | cons b bs => exact hr.elim
    | nil =>
      obtain ⟨l, hl, rfl, hr1⟩ := ob0_inv hr
      obtain ⟨hq, hr2⟩ := chk_inv hr1
      obtain ⟨ho, hK⟩ := chk_inv hr2
      have hq' := hq
      simp only [accGate, andB_iff] at hq
      refine ⟨hooks12 (accF l), 0 + 100, fun _ => rfl, fun {ρ Z w} => ?_, (run12 l 0 K).mpr ?_⟩
      · rw [loops12]
        refine ⟨?_, trivial⟩
        show SoundG Tryz.prog env Z ρ (ofBlks 0 []) w 0 (sideX w.heap.size) (.loop (loopN 12 0)) (hk12 (accF l))
        have hlen : roomy (accF l).length 344 = true := roomy_le hq.2 (by have := (accF_sizes l l.length (Nat.le_refl _)).1; rwa [List.take_length] at this) (Nat.le_refl _)
        intro S g Z' ρ' a w' KK Q hQ hs hj hk
        exact loop12_sound hlen hQ hs hj hk
      · rw [hq', ho]
        exact ⟨rfl, rfl, hK⟩))
  (rows_of errF_det (ctr_of_G basePe10_ok (n := 0) (rowsC0_det errF_det) fun {us bs K} hr => by
    cases bs with
    | cons b bs => exact hr.elim
    | nil =>
      obtain ⟨l, hl, rfl, hr1⟩ := ob0_inv hr
      refine ⟨noHooks, 0 + 100, fun _ => rfl, fun {ρ Z w} => ?_, (run12e l 0 K).mpr hr1⟩
      rw [loops12]
      exact ⟨trivial, trivial⟩))

section
variable {Z0 Z : Zone} {ρ0 ρ : PMap} {H0 : Heap} {w0 w : World} {a : Act} {S : St} {n0 : Nat}
theorem loop13_sound {L : List AcctD} (hr : roomy L.length 344 = true) : SoundG Tryz.prog env Z0 ρ0 H0 w0 0 (sideX n0) (.loop (loopN 13 0)) (hk13 L) := by
  intro S g Z ρ a w KK Q hQ hs hj hk
  obtain ⟨rfl, hcan, hcase⟩ := hk
  have hrl : L.length * 345 ≤ 70368744177664 := by simpa [roomy] using hr
  have hC := tabN_ok env_ok mixed (tabL_ok basePo11_ok) (live := liveOf) (fuel := 5000) fnsOf_ok 0
  obtain ⟨S1, ρ1, h1, hs1⟩ := canon_sound (K := fun S' => S' = headSt (headPr0 L)) hs (by rw [canon_D]; exact canonD_mono hcan fun h e => by rw [e])
  subst h1
  have hs2 := hs1.nilRow (k := 0) (e := 76) (c := .recs hashC []) (T := headSt (headPr L [] 0)) rfl (by omega) (by omega) td76 rfl rfl (env_ok.cod 76 hashC (by kernel_rfl) |> fun h => ⟨h.dec, h.keys, h.vt⟩) rfl rfl rfl (fun t v' h => by
    match t, h with
    | 4, h => cases h; exact ⟨_, rfl, .refl _, by simp [AVal.keys, vA]⟩
    | 5, h | 7, h => cases h; exact ⟨_, rfl, .refl _, by simp [AVal.keys]⟩
    | 6, h => cases h; exact ⟨_, rfl, .nil, by simp [AVal.keys]⟩
    | 0, h | 1, h | 2, h | 3, h => cases h
    | t + 8, h => exact (getL_noneL (n := 35) (t := t) h).elim) rfl (fun j b' hj hb => by
    match j, hj, hb with
    | 0, hj, _ => exact (hj rfl).elim
    | j + 1, _, hb => cases hb)
  refine wp_loop_n (fun n a w => ∃ i Z ρ, i + n = L.length + 1 ∧ i ≤ L.length ∧ Sync env Z0 Z ρ0 H0 w0 0 (headSt (headPr L (pendF (L.take i)) (i : Int))) ρ a w)
    (fun a w ⟨i, _, _, h1, h2, _⟩ => by omega) (fun n a w ⟨i, Z, ρ, hin, hil, hs⟩ => ?_) (L.length + 1) ⟨0, Z, _, by omega, by omega, hs2⟩
  have hhk : HooksOk Tryz.prog env Z0 ρ0 H0 w0 0 (sideX n0) noHooks (loopN 13 0) := hooks_loops (fun _ => rfl) (loopN 13 0) (by rw [loops13I]; trivial)
  have rnd : ∀ (KH : Hd → Prop) (KE : KPnd), (i < L.length → KH (headPr L (pendF (L.take (i + 1))) ((i + 1 : Nat) : Int))) → (i = L.length → KE 0 [some (.int .i64 (0 : Int)), some (.sw 0)] (some ⟨.row 76, .recs hashC (pendF (L.take i))⟩) 43) →
      (∀ e S g Z ρ a w, rndP 13 4 KH KE e S g → Sync env Z0 Z ρ0 H0 w0 0 S ρ a w → sideX n0 g Z ρ S.heap w → Exit.then (fun a w => ∃ i Z ρ, i + n = L.length + 1 ∧ i ≤ L.length ∧ Sync env Z0 Z ρ0 H0 w0 0 (headSt (headPr L (pendF (L.take i)) (i : Int))) ρ a w) Q e.to a w) →
      (loopN 13 0).wp Tryz.prog (Exit.then (fun a w => ∃ i Z ρ, i + n = L.length + 1 ∧ i ≤ L.length ∧ Sync env Z0 Z ρ0 H0 w0 0 (headSt (headPr L (pendF (L.take i)) (i : Int))) ρ a w) Q) a w := by
    intro KH KE hstp hlast hend
    have hev : evG (basePo 11) noHooks 13 0 0 20 (loopN 13 0) (headSt (headPr L (pendF (L.take i)) (i : Int))) [] (rndP 13 4 KH KE) := by
      refine (step13 L (pendF (L.take i)) (i : Int) 10 KH KE []).mpr ?_
      by_cases hi : i < L.length
      · rw [(idx_facts hi).1]
        have hK := hstp hi
        have hx : L[i] = L.getD i acct0 := by simp [List.getD, hi]
        rw [List.take_add_one, show L[i]?.toList = [L[i]] by simp [hi], pendF_snoc, hx] at hK
        have hro : roomy ((pendF (L.take i)).length + 1) (env.bytes 76) = true := roomy_le hr (by have := pendF_length (L.take i); simp only [List.length_take] at this; omega) (Nat.le_of_ble_eq_true bytes76)
        refine br_t (inB_ok hi ?_)
        rw [accAt_nat, add1 (by omega), hro]
        generalize L.getD i acct0 = x at *
        cases h1 : x.done with
        | true => rw [h1] at hK; simp only [Bool.not_true, andB, List.append_nil] at hK; exact hK
        | false =>
          rw [h1] at hK
          refine br_t (inB_ok hi ?_)
          cases h2 : x.failed with
          | true => rw [h2] at hK; simp only [Bool.not_false, Bool.not_true, andB, List.append_nil] at hK; exact hK
          | false => rw [h2] at hK; simp only [Bool.not_false, andB] at hK; exact inB_ok hi hK
      · have hk : i = L.length := by omega
        rw [ltI_false.2 (show ¬ ((i : Nat) : Int) < ((L.length : Nat) : Int) by omega)]
        exact hlast hk
    unfold evG at hev
    exact codeG_sound (J := sideX n0) sideX_ok hC env_ok mixed (loopN 13 0) hhk hend hs sideX_nil hev
  by_cases hi : i < L.length
  · refine rnd (fun h => h = headPr L (pendF (L.take (i + 1))) ((i + 1 : Nat) : Int)) (fun _ _ _ _ => False) (fun _ => rfl) (fun h => by omega) (fun e S' g' Z' ρ' a' w' hK hs' _ => ?_)
    cases e with
    | exit id => exact hK.elim
    | ret => exact hK.elim
    | normal =>
      obtain ⟨S3, ρ3, h3, hs3⟩ := canon_sound (K := fun S'' => S'' = headSt (headPr L (pendF (L.take (i + 1))) ((i + 1 : Nat) : Int))) hs' (by
        rw [canon_D]
        exact canonD_mono (show canonD 0 (liveOf 13 4) S' (fun h => h = headPr L (pendF (L.take (i + 1))) ((i + 1 : Nat) : Int)) from hK) fun h e => by rw [e])
      subst h3
      exact ⟨i + 1, Z', ρ3, by omega, by omega, hs3⟩
  · have hk : i = L.length := by omega
    refine rnd (fun _ => False) (fun id ts b m => id = 0 ∧ ts = [some (.int .i64 (0 : Int)), some (.sw 0)] ∧ b = some ⟨.row 76, .recs hashC (pendF (L.take i))⟩ ∧ m = 43) (fun h => by omega) (fun _ => ⟨rfl, rfl, rfl, rfl⟩) (fun e S' g' Z' ρ' a' w' hK hs' _ => ?_)
    cases e with
    | normal => exact (canonD_false hK).elim
    | ret => exact hK.elim
    | exit id =>
      obtain ⟨rfl, hts, b0, hm⟩ := hK
      simp only [List.cons.injEq, and_true] at hts
      obtain ⟨t5, t6⟩ := hts
      rw [hk, List.take_length] at b0
      have hf := hs'.frz (k := 0) (x := vH (pendF L)) b0 (fun cs h => vr_of_sw env_ok.size hs'.pre.heap b0 .hash (pendF L) rfl h hash0) rfl rfl fun d t e ht => by simp [vH, hasTy, ht]
      refine hQ (.exit 0) (endPr L) [] _ ρ' a' w' hcase (hf.drop ?_ (fun t v ht => ?_) (fun j b hb => by cases hb)) sideX_nil
      · simp only [St.frz, List.length_map]; rw [hm]; rfl
      · match t, ht with
        | 5, ht => cases ht; exact ⟨getL_map' t5, fun k hk => by simp [AVal.keys] at hk⟩
        | 6, ht => cases ht; exact ⟨getL_map' t6, fun k hk => by simp [AVal.keys, vH] at hk⟩
        | 0, ht | 1, ht | 2, ht | 3, ht | 4, ht => cases ht
        | t + 7, ht => exact (getL_noneL (n := 36) (t := t) ht).elim
end
theorem pend13_ok : CtrOk Tryz.prog env 13 (rowsC (bothF vPl)) := both_of
  (rows_of (okF_det vPl) (ctr_of_G basePo11_ok (n := 0) (rowsC0_det (okF_det vPl)) fun {us bs K} hr => by
    cases bs with
    | cons b bs => exact hr.elim
    | nil =>
      obtain ⟨l, hl, rfl, hr1⟩ := ob0_inv hr
      obtain ⟨hq, hr2⟩ := chk_inv hr1
      obtain ⟨ho, hK⟩ := chk_inv hr2
      have hq' := hq
      simp only [accGate, andB_iff] at hq
      refine ⟨hooks13 (accF l), 0 + 100, fun _ => rfl, fun {ρ Z w} => ?_, (run13 l 0 K).mpr ?_⟩
      · rw [loops13]
        refine ⟨?_, trivial⟩
        show SoundG Tryz.prog env Z ρ (ofBlks 0 []) w 0 (sideX w.heap.size) (.loop (loopN 13 0)) (hk13 (accF l))
        have hlen : roomy (accF l).length 344 = true := roomy_le hq.2 (by have := (accF_sizes l l.length (Nat.le_refl _)).1; rwa [List.take_length] at this) (Nat.le_refl _)
        intro S g Z' ρ' a w' KK Q hQ hs hj hk
        exact loop13_sound hlen hQ hs hj hk
      · rw [hq', ho]
        exact ⟨rfl, rfl, hK⟩))
  (rows_of errF_det (ctr_of_G basePe11_ok (n := 0) (rowsC0_det errF_det) fun {us bs K} hr => by
    cases bs with
    | cons b bs => exact hr.elim
    | nil =>
      obtain ⟨l, hl, rfl, hr1⟩ := ob0_inv hr
      refine ⟨noHooks, 0 + 100, fun _ => rfl, fun {ρ Z w} => ?_, (run13e l 0 K).mpr hr1⟩
      rw [loops13]
      exact ⟨trivial, trivial⟩))
end Go.Abs

namespace Go.Abs
open Go.Proofs

theorem list4 {α : Type} {l : List α} (h : l.length = 4) : ∃ a b c d, l = [a, b, c, d] := by
  match l, h with
  | [a, b, c, d], _ => exact ⟨a, b, c, d, rfl⟩

/-- A function of one list of four words. -/
def n1G (f : List UInt64 → AVal) : List AVal → Option AVal
  | [.arr .u64 k l] => match Nat.beq k 4 with
    | true => some (f l)
    | false => none
  | _ => none
def n2G (f : List UInt64 → List UInt64 → AVal) : List AVal → Option AVal
  | [.arr .u64 k a, .arr .u64 j b] => match Nat.beq k 4, Nat.beq j 4 with
    | true, true => some (f a b)
    | _, _ => none
  | _ => none
theorem n1_ok {l : List (Nat × Ctr)} (hl : AllOk l) {f n : Nat} {F : List UInt64 → AVal} (h : ∀ a0 a1 a2 a3 K, K (F [a0, a1, a2, a3]) [] → run l f n [.arr .u64 4 [a0, a1, a2, a3]] [] K) : CtrOk Tryz.prog env f (pureN (n1G F)) := pureN_of_run (n := n) hl fun {ρ Z us xs v} hx hg K hK => by
  unfold n1G at hg
  split at hg
  · split at hg <;> cases hg
    rename_i e
    have := beq_eq e; subst this
    obtain ⟨_, _, _, h1, _⟩ := hx
    obtain ⟨a0, a1, a2, a3, rfl⟩ := list4 (rep_arr h1)
    exact h _ _ _ _ K hK
  · cases hg
theorem n2_ok {l : List (Nat × Ctr)} (hl : AllOk l) {f n : Nat} {F : List UInt64 → List UInt64 → AVal} (h : ∀ a0 a1 a2 a3 b0 b1 b2 b3 K, K (F [a0, a1, a2, a3] [b0, b1, b2, b3]) [] → run l f n [.arr .u64 4 [a0, a1, a2, a3], .arr .u64 4 [b0, b1, b2, b3]] [] K) : CtrOk Tryz.prog env f (pureN (n2G F)) := pureN_of_run (n := n) hl fun {ρ Z us xs v} hx hg K hK => by
  unfold n2G at hg
  split at hg
  · split at hg
    · cases hg
      rename_i e e'
      have := beq_eq e; subst this
      have := beq_eq e'; subst this
      obtain ⟨_, _, _, h1, _, _, _, h2, _⟩ := hx
      obtain ⟨a0, a1, a2, a3, rfl⟩ := list4 (rep_arr h1)
      obtain ⟨b0, b1, b2, b3, rfl⟩ := list4 (rep_arr h2)
      exact h _ _ _ _ _ _ _ _ K hK
    · cases hg
  · cases hg

theorem sbbB_le (x y c : UInt64) : Nat.ble (UInt64.toNat (sbbB x y c)) 1 = true := by
  apply Nat.ble_eq_true_of_le
  rw [sbbB, UInt64.toNat_ofNat']
  split <;> simp

/-! ### less -/
def lsB (a0 a1 a2 a3 b0 b1 b2 b3 : UInt64) : UInt64 := sbbB a3 b3 (sbbB a2 b2 (sbbB a1 b1 (sbbB a0 b0 w0)))
def lsD (a0 a1 a2 a3 b0 b1 b2 b3 : UInt64) : List UInt64 :=
  [sbbD a0 b0 w0, sbbD a1 b1 (sbbB a0 b0 w0), sbbD a2 b2 (sbbB a1 b1 (sbbB a0 b0 w0)), sbbD a3 b3 (sbbB a2 b2 (sbbB a1 b1 (sbbB a0 b0 w0)))]
def le1 (x : UInt64) : Bool := Nat.ble (UInt64.toNat x) 1
def lessV : List UInt64 → List UInt64 → AVal
  | [a0, a1, a2, a3], [b0, b1, b2, b3] => .tup [.arr .u64 4 (lsD a0 a1 a2 a3 b0 b1 b2 b3), .int .u64 (lsB a0 a1 a2 a3 b0 b1 b2 b3)]
  | _, _ => .unit
theorem run_less (a0 a1 a2 a3 b0 b1 b2 b3 : UInt64) : ∀ K, run base9 156 0 [.arr .u64 4 [a0, a1, a2, a3], .arr .u64 4 [b0, b1, b2, b3]] [] K =
  chk (le1 (sbbB a0 b0 w0)) (chk (le1 (sbbB a1 b1 (sbbB a0 b0 w0))) (chk (le1 (sbbB a2 b2 (sbbB a1 b1 (sbbB a0 b0 w0)))) (K (lessV [a0, a1, a2, a3] [b0, b1, b2, b3]) []))) := by intro K; kernel_rfl
theorem less_ok : CtrOk Tryz.prog env 156 (pureN (n2G lessV)) := n2_ok base9_ok fun a0 a1 a2 a3 b0 b1 b2 b3 K hK =>
  (run_less a0 a1 a2 a3 b0 b1 b2 b3 K).mpr (chk_mk (sbbB_le _ _ _) (chk_mk (sbbB_le _ _ _) (chk_mk (sbbB_le _ _ _) hK)))

/-! ### bytes -/
def fromF (l : List UInt8) : List UInt64 := [ldA (l.take 8), ldA ((l.drop 8).take 8), ldA ((l.drop 16).take 8), ldA (l.drop 24)]
def backF : List UInt64 → List UInt8
  | [a, b, c, d] => stA a ++ stA b ++ stA c ++ stA d
  | _ => []
theorem run_from (x0 x1 x2 x3 x4 x5 x6 x7 x8 x9 x10 x11 x12 x13 x14 x15 x16 x17 x18 x19 x20 x21 x22 x23 x24 x25 x26 x27 x28 x29 x30 x31 : UInt8) : ∀ K, run base9 157 0 [.arr .u8 32 [x0, x1, x2, x3, x4, x5, x6, x7, x8, x9, x10, x11, x12, x13, x14, x15, x16, x17, x18, x19, x20, x21, x22, x23, x24, x25, x26, x27, x28, x29, x30, x31]] [] K = K (.arr .u64 4 (fromF [x0, x1, x2, x3, x4, x5, x6, x7, x8, x9, x10, x11, x12, x13, x14, x15, x16, x17, x18, x19, x20, x21, x22, x23, x24, x25, x26, x27, x28, x29, x30, x31])) [] := by intro K; kernel_rfl
theorem run_back (a b c d : UInt64) : ∀ K, run base9 220 0 [.arr .u64 4 [a, b, c, d]] [] K = K (.arr .u8 32 (backF [a, b, c, d])) [] := by intro K; kernel_rfl
def b32G (f : List UInt8 → AVal) : List AVal → Option AVal
  | [.arr .u8 k l] => match Nat.beq k 32 with
    | true => some (f l)
    | false => none
  | _ => none
theorem b32_ok {l : List (Nat × Ctr)} (hl : AllOk l) {f n : Nat} {F : List UInt8 → AVal} (h : ∀ a : List UInt8, a.length = 32 → ∀ K, K (F a) [] → run l f n [.arr .u8 32 a] [] K) : CtrOk Tryz.prog env f (pureN (b32G F)) := pureN_of_run (n := n) hl fun {ρ Z us xs v} hx hg K hK => by
  unfold b32G at hg
  split at hg
  · split at hg <;> cases hg
    rename_i e
    have := beq_eq e; subst this
    obtain ⟨_, _, _, h1, _⟩ := hx
    exact h _ (rep_arr h1) K hK
  · cases hg
theorem run_from' {l : List UInt8} (h : l.length = 32) (K : AVal → List (Nat × Blk) → Prop) (hK : K (.arr .u64 4 (fromF l)) []) : run base9 157 0 [.arr .u8 32 l] [] K := by
  match l, h with
  | [x0, x1, x2, x3, x4, x5, x6, x7, x8, x9, x10, x11, x12, x13, x14, x15, x16, x17, x18, x19, x20, x21, x22, x23, x24, x25, x26, x27, x28, x29, x30, x31], _ => exact (run_from x0 x1 x2 x3 x4 x5 x6 x7 x8 x9 x10 x11 x12 x13 x14 x15 x16 x17 x18 x19 x20 x21 x22 x23 x24 x25 x26 x27 x28 x29 x30 x31 K).mpr hK
theorem from_ok : CtrOk Tryz.prog env 157 (pureN (b32G fun l => .arr .u64 4 (fromF l))) := b32_ok base9_ok fun a h K hK => run_from' h K hK
theorem back_ok : CtrOk Tryz.prog env 220 (pureN (n1G fun l => .arr .u8 32 (backF l))) := n1_ok base9_ok fun a b c d K hK => (run_back a b c d K).mpr hK

def baseS1 : List (Nat × Ctr) := (156, pureN (n2G lessV)) :: (157, pureN (b32G fun l => .arr .u64 4 (fromF l))) :: (220, pureN (n1G fun l => .arr .u8 32 (backF l))) :: base9
theorem baseS1_ok : AllOk baseS1 := ⟨less_ok, from_ok, back_ok, base9_ok⟩
end Go.Abs

namespace Go.Abs
open Go.Proofs

theorem run_xy (p : Pt) : ∀ K, run base10 215 0 [p.v] [] K = K (.tup [.arr .u64 5 (mulF p.x (invF p.z)), .arr .u64 5 (mulF p.y (invF p.z))]) [] := by intro K; kernel_rfl
def base11 : List (Nat × Ctr) := (179, pureN mulG2) :: (215, pureN (pt1G fun p => .tup [.arr .u64 5 (mulF p.x (invF p.z)), .arr .u64 5 (mulF p.y (invF p.z))])) :: base10
theorem base11_ok : AllOk base11 := ⟨ptMul_ok, pt1_ok base10_ok run_xy, base10_ok⟩

/-! ### out -/
def signF (b : Bool) (l : List UInt8) : List UInt8 := match b with
  | true => l.set 31 (orT .u8 (l.getD 31 (zeroT .u8)) (rawI .u8 128))
  | false => l
def formF (p : Pt) : List UInt8 := signF (oddF (mulF p.x (invF p.z))) (bytesF (mulF p.y (invF p.z)))
theorem run_form (p : Pt) : ∀ K, run base11 180 0 [p.v] [] K = br (oddF (mulF p.x (invF p.z))) (K (.arr .u8 32 (signF true (bytesF (mulF p.y (invF p.z))))) []) (K (.arr .u8 32 (signF false (bytesF (mulF p.y (invF p.z))))) []) := by intro K; kernel_rfl
theorem form_run (p : Pt) (K : AVal → List (Nat × Blk) → Prop) : run base11 180 0 [p.v] [] K = K (.arr .u8 32 (formF p)) [] := by
  rw [run_form]
  unfold formF
  cases oddF (mulF p.x (invF p.z)) <;> rfl

/-! ### in -/
/-- A root, its two ends apart. -/
def rootCR (rt : List UInt64 → List UInt64 → List UInt64 × Bool) : Ctr := ⟨fun us bs K => match bs with
  | [] => ob (fe2G (fun u v => .tup [feB (rt u v).1 true, .bool (rt u v).2, feB (rt u v).1 false]) us) fun t => match t with
    | .tcons a (.tcons (.bool b) (.tcons c _)) => br b (K a []) (K c [])
    | _ => False
  | _ :: _ => False⟩
def rootC : Ctr := rootCR rootF
theorem rootC_ok : CtrOk Tryz.prog env 232 rootC := by
  refine root_ok.of (fun us bs => ?_) fun {ρ Z w us bs xs K} hh hx hr => ?_
  · cases bs with
    | cons b bs => exact det_false
    | nil =>
      refine det_ob fun t => ?_
      cases t <;> try exact det_false
      rename_i a t
      cases t <;> try exact det_false
      rename_i b t
      cases b <;> try exact det_false
      rename_i b
      cases t <;> try exact det_false
      exact det_br (det_pure (⟨_, []⟩ : Out)) (det_pure (⟨_, []⟩ : Out))
  · cases bs with
    | cons b bs => exact hr.elim
    | nil =>
      obtain ⟨t, ht, hr⟩ := ob_inv hr
      obtain ⟨u, v, rfl, hu, hv, rfl⟩ := fe2G_inv hx ht
      show ob (some (feB (rootF u v).1 (rootF u v).2)) fun v => K v []
      simp only [AVal.tup] at hr
      rcases br_inv hr with ⟨e, hr⟩ | ⟨e, hr⟩ <;> rw [e] <;> exact hr

def base12R (rt : List UInt64 → List UInt64 → List UInt64 × Bool) : List (Nat × Ctr) := (232, rootCR rt) :: (180, pureN (pt1G fun p => .arr .u8 32 (formF p))) :: base11
def base12 : List (Nat × Ctr) := (232, rootC) :: (180, pureN (pt1G fun p => .arr .u8 32 (formF p))) :: base11
theorem base12_ok : AllOk base12 := ⟨rootC_ok, pt1_ok base11_ok form_run, base11_ok⟩

def clrF (e : List UInt8) : List UInt8 := e.set 31 (andT .u8 (e.getD 31 (zeroT .u8)) (rawI .u8 127))
def topF (e : List UInt8) : Bool := eqT .u8 (shrT .u8 (e.getD 31 (zeroT .u8)) 7) (rawI .u8 1)
def ptB (p : Pt) (b : Bool) : AVal := .tup [p.v, .bool b]
def opU (y : List UInt64) : List UInt64 := subF (sqF y) oneF
def opV (y : List UInt64) : List UInt64 := addF (mulF dF (sqF y)) oneF
def mkPt (y x : List UInt64) : Pt := ⟨x, y, oneF, mulF x y⟩
def z32 : List UInt8 := List.replicate 32 (zeroT .u8)
def openX (e : List UInt8) (y x : List UInt64) : List UInt64 := match !(oddF x == topF e) with
  | true => subF zF x
  | false => x
def openF (e : List UInt8) : Pt × Bool := match eqL .u8 (bytesF (loadF (clrF e))) (clrF e) with
  | false => (ptZ, false)
  | true => match rootF (opU (loadF (clrF e))) (opV (loadF (clrF e))) with
    | (x, true) => match topF e && eqL .u8 (bytesF x) z32 with
      | true => (ptZ, false)
      | false => (mkPt (loadF (clrF e)) (openX e (loadF (clrF e)) x), true)
    | (_, false) => (ptZ, false)
def opFin (e : List UInt8) (y x : List UInt64) (K : AVal → List (Nat × Blk) → Prop) : Prop :=
  br (!(oddF x == topF e)) (K (ptB (mkPt y (subF zF x)) true) []) (K (ptB (mkPt y x) true) [])
def opAll (e : List UInt8) (y : List UInt64) (r : List UInt64 × Bool) (K : AVal → List (Nat × Blk) → Prop) : Prop :=
  br (!(eqL .u8 (bytesF y) (clrF e))) (K (ptB ptZ false) []) (br r.2
    (br (topF e) (br (eqL .u8 (bytesF r.1) z32) (K (ptB ptZ false) []) (opFin e y r.1 K)) (opFin e y r.1 K)) (K (ptB ptZ false) []))
theorem run_open (rt : List UInt64 → List UInt64 → List UInt64 × Bool) (e : List UInt8) : ∀ K, run (base12R rt) 199 0 [.arr .u8 32 e] [] K = opAll e (loadF (clrF e)) (rt (opU (loadF (clrF e))) (opV (loadF (clrF e)))) K := by intro K; kernel_rfl

theorem open_run (e : List UInt8) (K : AVal → List (Nat × Blk) → Prop) : run base12 199 0 [.arr .u8 32 e] [] K = K (ptB (openF e).1 (openF e).2) [] := by
  show run (base12R rootF) 199 0 _ [] K = _
  rw [run_open]
  unfold openF opAll
  cases eqL .u8 (bytesF (loadF (clrF e))) (clrF e) with
  | false => rfl
  | true =>
    generalize rootF (opU (loadF (clrF e))) (opV (loadF (clrF e))) = r
    obtain ⟨x, b⟩ := r
    simp only [Bool.not_true, br]
    cases b with
    | false => rfl
    | true =>
      simp only [opFin, openX]
      cases topF e <;> cases eqL .u8 (bytesF x) z32 <;> simp only [Bool.true_and, Bool.false_and] <;> cases !(oddF x == _) <;> rfl
theorem open_ok : CtrOk Tryz.prog env 199 (pureN (b32G fun e => ptB (openF e).1 (openF e).2)) := b32_ok base12_ok fun a _ K hK => (open_run a K).mpr hK
end Go.Abs

namespace Go.Abs
open Go.Proofs

def L0 : UInt64 := rawI .u64 6346243789798364141
def L1 : UInt64 := rawI .u64 1503914060200516822
def L3 : UInt64 := rawI .u64 1152921504606846976
def lowT (a0 a1 a2 a3 : UInt64) : List UInt64 := match eqT .u64 (lsB a0 a1 a2 a3 L0 L1 w0 L3) w0 with
  | true => lsD a0 a1 a2 a3 L0 L1 w0 L3
  | false => [a0, a1, a2, a3]
def lowF : List UInt64 → List UInt64
  | [a0, a1, a2, a3] => lowT a0 a1 a2 a3
  | l => l
theorem run_low (a0 a1 a2 a3 : UInt64) : ∀ K, run baseS1 218 1 [.arr .u64 4 [a0, a1, a2, a3]] [] K =
  br (eqT .u64 (lsB a0 a1 a2 a3 L0 L1 w0 L3) w0) (K (.arr .u64 4 (lsD a0 a1 a2 a3 L0 L1 w0 L3)) []) (K (.arr .u64 4 [a0, a1, a2, a3]) []) := by intro K; kernel_rfl
theorem low_ok : CtrOk Tryz.prog env 218 (pureN (n1G fun l => .arr .u64 4 (lowF l))) := n1_ok baseS1_ok fun a0 a1 a2 a3 K hK => by
  rw [run_low]
  simp only [lowF, lowT] at hK
  cases h : eqT .u64 (lsB a0 a1 a2 a3 L0 L1 w0 L3) w0 <;> rw [h] at hK <;> exact hK

/-- hi and lo of a b + x + c. -/
def maH (a b x c : UInt64) : UInt64 := addT .u64 (addT .u64 (mulH a b) (adcC (mulL a b) x w0)) (adcC (adcS (mulL a b) x w0) c w0)
def maL (a b x c : UInt64) : UInt64 := adcS (adcS (mulL a b) x w0) c w0
theorem run_ma (a b x c : UInt64) : ∀ K, run baseS1 264 0 [.int .u64 a, .int .u64 b, .int .u64 x, .int .u64 c] [] K = K (.tup [.int .u64 (maH a b x c), .int .u64 (maL a b x c)]) [] := by intro K; kernel_rfl
def maG : List AVal → Option AVal
  | [.int .u64 a, .int .u64 b, .int .u64 x, .int .u64 c] => some (.tup [.int .u64 (maH a b x c), .int .u64 (maL a b x c)])
  | _ => none
theorem ma_ok : CtrOk Tryz.prog env 264 (pureN maG) := pureN_of_run (n := 0) baseS1_ok fun {ρ Z us xs v} hx hg K hK => by
  unfold maG at hg
  split at hg <;> cases hg
  exact (run_ma _ _ _ _ K).mpr hK

def baseS2 : List (Nat × Ctr) := (218, pureN (n1G fun l => .arr .u64 4 (lowF l))) :: (264, pureN maG) :: baseS1
theorem baseS2_ok : AllOk baseS2 := ⟨low_ok, ma_ok, baseS1_ok⟩

/-! ### value -/
def lowN : Nat → List UInt64 → List UInt64
  | 0, a => a
  | n + 1, a => lowN n (lowF a)
def valF (l : List UInt8) : List UInt64 := lowN 16 (fromF l)
theorem run_val (l : List UInt8) : ∀ K, run baseS2 181 0 [.arr .u8 32 l] [] K = K (.arr .u64 4 (valF l)) [] := by intro K; kernel_rfl

/-! ### sums -/
def plC (a0 a1 a2 a3 b0 b1 b2 b3 : UInt64) : List UInt64 :=
  [adcS a0 b0 w0, adcS a1 b1 (adcC a0 b0 w0), adcS a2 b2 (adcC a1 b1 (adcC a0 b0 w0)), adcS a3 b3 (adcC a2 b2 (adcC a1 b1 (adcC a0 b0 w0)))]
def plF : List UInt64 → List UInt64 → List UInt64
  | [a0, a1, a2, a3], [b0, b1, b2, b3] => lowF (plC a0 a1 a2 a3 b0 b1 b2 b3)
  | l, _ => l
theorem run_pl (a0 a1 a2 a3 b0 b1 b2 b3 : UInt64) : ∀ K, run baseS2 221 0 [.arr .u64 4 [a0, a1, a2, a3], .arr .u64 4 [b0, b1, b2, b3]] [] K =
  chk (le1 (adcC a0 b0 w0)) (chk (le1 (adcC a1 b1 (adcC a0 b0 w0))) (chk (le1 (adcC a2 b2 (adcC a1 b1 (adcC a0 b0 w0)))) (K (.arr .u64 4 (plF [a0, a1, a2, a3] [b0, b1, b2, b3])) []))) := by intro K; kernel_rfl
theorem adcC_le1 {x y c : UInt64} (h : le1 c = true) : le1 (adcC x y c) = true := adcC_le x y c (Nat.le_of_ble_eq_true h)
theorem pl_ok : CtrOk Tryz.prog env 221 (pureN (n2G fun a b => .arr .u64 4 (plF a b))) := n2_ok baseS2_ok fun a0 a1 a2 a3 b0 b1 b2 b3 K hK => by
  have h0 : le1 w0 = true := by kernel_rfl
  exact (run_pl a0 a1 a2 a3 b0 b1 b2 b3 K).mpr (chk_mk (adcC_le1 h0) (chk_mk (adcC_le1 (adcC_le1 h0)) (chk_mk (adcC_le1 (adcC_le1 (adcC_le1 h0))) hK)))

def val_okG : List AVal → Option AVal := b32G fun l => .arr .u64 4 (valF l)
theorem val_ok : CtrOk Tryz.prog env 181 (pureN (b32G fun l => .arr .u64 4 (valF l))) := b32_ok baseS2_ok fun a _ K hK => (run_val a K).mpr hK

/-! ### Montgomery's product -/
def turn : UInt64 := rawI .u64 15183074304973897243
def mr5 (u4 u5 v0 v1 v2 d3 : UInt64) : List UInt64 := [v0, v1, v2, adcS u4 d3 w0, addT .u64 u5 (adcC u4 d3 w0)]
def mr4 (m u1 u2 u3 u4 u5 d0 : UInt64) : List UInt64 :=
  mr5 u4 u5 (maL m L1 u1 d0) (maL m w0 u2 (maH m L1 u1 d0)) (maL m L3 u3 (maH m w0 u2 (maH m L1 u1 d0))) (maH m L3 u3 (maH m w0 u2 (maH m L1 u1 d0)))
def mr3 (u0 u1 u2 u3 u4 u5 : UInt64) : List UInt64 := mr4 (mulT .u64 u0 turn) u1 u2 u3 u4 u5 (maH (mulT .u64 u0 turn) L0 u0 w0)
def mr2 (t4 u0 u1 u2 u3 c : UInt64) : List UInt64 := mr3 u0 u1 u2 u3 (adcS t4 c w0) (adcC t4 c w0)
def mr1 (a b0 b1 b2 b3 t0 t1 t2 t3 t4 c0 : UInt64) : List UInt64 :=
  mr2 t4 (maL a b0 t0 w0) (maL a b1 t1 c0) (maL a b2 t2 (maH a b1 t1 c0)) (maL a b3 t3 (maH a b2 t2 (maH a b1 t1 c0))) (maH a b3 t3 (maH a b2 t2 (maH a b1 t1 c0)))
def mrF (a b0 b1 b2 b3 : UInt64) : List UInt64 → List UInt64
  | [t0, t1, t2, t3, t4] => mr1 a b0 b1 b2 b3 t0 t1 t2 t3 t4 (maH a b0 t0 w0)
  | l => l
def take4 : List UInt64 → List UInt64
  | [a, b, c, d, _] => [a, b, c, d]
  | l => l
def montF : List UInt64 → List UInt64 → List UInt64
  | [a0, a1, a2, a3], [b0, b1, b2, b3] => lowF (take4 (mrF a3 b0 b1 b2 b3 (mrF a2 b0 b1 b2 b3 (mrF a1 b0 b1 b2 b3 (mrF a0 b0 b1 b2 b3 [w0, w0, w0, w0, w0])))))
  | l, _ => l
theorem run_mont (a0 a1 a2 a3 b0 b1 b2 b3 : UInt64) : ∀ K, run baseS2 249 1 [.arr .u64 4 [a0, a1, a2, a3], .arr .u64 4 [b0, b1, b2, b3]] [] K = K (.arr .u64 4 (montF [a0, a1, a2, a3] [b0, b1, b2, b3])) [] := by intro K; kernel_rfl

theorem mont_ok : CtrOk Tryz.prog env 249 (pureN (n2G fun a b => .arr .u64 4 (montF a b))) := n2_ok baseS2_ok fun a0 a1 a2 a3 b0 b1 b2 b3 K hK => (run_mont a0 a1 a2 a3 b0 b1 b2 b3 K).mpr hK
def baseS3 : List (Nat × Ctr) := (181, pureN (b32G fun l => .arr .u64 4 (valF l))) :: (221, pureN (n2G fun a b => .arr .u64 4 (plF a b))) :: (249, pureN (n2G fun a b => .arr .u64 4 (montF a b))) :: baseS2
theorem baseS3_ok : AllOk baseS3 := ⟨val_ok, pl_ok, mont_ok, baseS2_ok⟩

def radF : List UInt64 := [rawI .u64 11819153939886771969, rawI .u64 14991950615390032711, rawI .u64 14910419812499177061, rawI .u64 259310039853996605]
def tiF (a b : List UInt64) : List UInt64 := montF (montF a b) radF
theorem run_ti (a b : List UInt64) : ∀ K, run baseS3 230 1 [.arr .u64 4 a, .arr .u64 4 b] [] K = K (.arr .u64 4 (tiF a b)) [] := by intro K; kernel_rfl
theorem ti_ok : CtrOk Tryz.prog env 230 (pureN (n2G fun a b => .arr .u64 4 (tiF a b))) := n2_ok baseS3_ok fun a0 a1 a2 a3 b0 b1 b2 b3 K hK => (run_ti _ _ K).mpr hK

def ordF : List UInt64 := [L0, L1, w0, L3]
def zN : List UInt64 := List.replicate 4 (zeroT .u64)
def negF : List UInt64 → List UInt64
  | [a0, a1, a2, a3] => match eqL .u64 [a0, a1, a2, a3] zN with
    | true => [a0, a1, a2, a3]
    | false => lsD L0 L1 w0 L3 a0 a1 a2 a3
  | l => l
theorem run_neg (a0 a1 a2 a3 : UInt64) : ∀ K, run baseS3 262 1 [.arr .u64 4 [a0, a1, a2, a3]] [] K =
  br (eqL .u64 [a0, a1, a2, a3] zN) (K (.arr .u64 4 [a0, a1, a2, a3]) []) (K (.arr .u64 4 (lsD L0 L1 w0 L3 a0 a1 a2 a3)) []) := by intro K; kernel_rfl
theorem neg_ok : CtrOk Tryz.prog env 262 (pureN (n1G fun l => .arr .u64 4 (negF l))) := n1_ok baseS3_ok fun a0 a1 a2 a3 K hK => by
  rw [run_neg]
  simp only [negF] at hK
  cases h : eqL .u64 [a0, a1, a2, a3] zN <;> rw [h] at hK <;> exact hK
def baseS4 : List (Nat × Ctr) := (230, pureN (n2G fun a b => .arr .u64 4 (tiF a b))) :: (262, pureN (n1G fun l => .arr .u64 4 (negF l))) :: baseS3
theorem baseS4_ok : AllOk baseS4 := ⟨ti_ok, neg_ok, baseS3_ok⟩

/-! ### doors -/
def sAddF (a b : List UInt8) : List UInt8 := backF (plF (valF a) (valF b))
def sMulF (a b : List UInt8) : List UInt8 := backF (tiF (valF a) (valF b))
def sSubF (a b : List UInt8) : List UInt8 := backF (plF (valF a) (negF (valF b)))
theorem run_sAdd (a b : List UInt8) : ∀ K, run baseS4 183 0 [.arr .u8 32 a, .arr .u8 32 b] [] K = K (.arr .u8 32 (sAddF a b)) [] := by intro K; kernel_rfl
theorem run_sMul (a b : List UInt8) : ∀ K, run baseS4 198 0 [.arr .u8 32 a, .arr .u8 32 b] [] K = K (.arr .u8 32 (sMulF a b)) [] := by intro K; kernel_rfl
theorem run_sSub (a b : List UInt8) : ∀ K, run baseS4 247 0 [.arr .u8 32 a, .arr .u8 32 b] [] K = K (.arr .u8 32 (sSubF a b)) [] := by intro K; kernel_rfl
end Go.Abs

namespace Go.Abs
open Go.Proofs

def bxB : List UInt8 := [26, 213, 37, 143, 96, 45, 86, 201, 178, 167, 37, 149, 96, 199, 44, 105, 92, 220, 214, 253, 49, 226, 164, 192, 254, 83, 110, 205, 211, 54, 105, 33]
def byB : List UInt8 := 88 :: List.replicate 31 102
def basePt : Pt := ⟨loadF bxB, loadF byB, oneF, mulF (loadF bxB) (loadF byB)⟩
theorem run_base : ∀ K, run base12 178 0 [] [] K = K basePt.v [] := by intro K; kernel_rfl
/-- The doors' table, with any opening. -/
def baseD (op : List UInt8 → Pt × Bool) : List (Nat × Ctr) := (178, pureN (conG basePt.v)) :: (199, pureN (b32G fun e => ptB (op e).1 (op e).2)) :: base12
theorem baseD_ok : AllOk (baseD openF) := ⟨con_ok base12_ok run_base, open_ok, base12_ok⟩
theorem run_mulBase (op : List UInt8 → Pt × Bool) (k : List UInt8) : ∀ K, run (baseD op) 144 0 [.arr .u8 32 k] [] K = K (.arr .u8 32 (formF (ptMul basePt k))) [] := by intro K; kernel_rfl

def noE : AVal := .tup [.arr .u8 32 z32, .int .i64 (41 : Int)]
def okE (l : List UInt8) : AVal := .tup [.arr .u8 32 l, .int .i64 (0 : Int)]
theorem run_check (op : List UInt8 → Pt × Bool) (e : List UInt8) : ∀ K, run (baseD op) 165 0 [.arr .u8 32 e] [] K = br (!(op e).2) (K (.int .i64 (41 : Int)) []) (K (.int .i64 (0 : Int)) []) := by intro K; kernel_rfl
theorem run_mulE (op : List UInt8 → Pt × Bool) (k e : List UInt8) : ∀ K, run (baseD op) 166 2 [.arr .u8 32 k, .arr .u8 32 e] [] K = br (!(op e).2) (K noE []) (K (okE (formF (ptMul (op e).1 k))) []) := by intro K; kernel_rfl
theorem run_addE (op : List UInt8 → Pt × Bool) (a b : List UInt8) : ∀ K, run (baseD op) 168 2 [.arr .u8 32 a, .arr .u8 32 b] [] K =
  br (!(op a).2) (K noE []) (br (!(op b).2) (K noE []) (K (okE (formF (ptAdd (op a).1 (op b).1))) [])) := by intro K; kernel_rfl
theorem run_identE (op : List UInt8 → Pt × Bool) : ∀ K, run (baseD op) 194 0 [] [] K = K (.arr .u8 32 (formF ptId)) [] := by intro K; kernel_rfl

def bb2G (f : List UInt8 → List UInt8 → AVal) : List AVal → Option AVal
  | [.arr .u8 k a, .arr .u8 j b] => match Nat.beq k 32, Nat.beq j 32 with
    | true, true => some (f a b)
    | _, _ => none
  | _ => none
theorem bb2_ok {l : List (Nat × Ctr)} (hl : AllOk l) {f n : Nat} {F : List UInt8 → List UInt8 → AVal} (h : ∀ a b : List UInt8, ∀ K, K (F a b) [] → run l f n [.arr .u8 32 a, .arr .u8 32 b] [] K) : CtrOk Tryz.prog env f (pureN (bb2G F)) := pureN_of_run (n := n) hl fun {ρ Z us xs v} hx hg K hK => by
  unfold bb2G at hg
  split at hg
  · split at hg
    · cases hg
      rename_i e e'
      have := beq_eq e; subst this
      have := beq_eq e'; subst this
      exact h _ _ K hK
    · cases hg
  · cases hg

def checkF (e : List UInt8) : AVal := match (openF e).2 with
  | true => .int .i64 (0 : Int)
  | false => .int .i64 (41 : Int)
def mulE (k e : List UInt8) : AVal := match (openF e).2 with
  | true => okE (formF (ptMul (openF e).1 k))
  | false => noE
def addE (a b : List UInt8) : AVal := match (openF a).2 with
  | true => match (openF b).2 with
    | true => okE (formF (ptAdd (openF a).1 (openF b).1))
    | false => noE
  | false => noE
theorem check_ok : CtrOk Tryz.prog env 165 (pureN (b32G checkF)) := b32_ok baseD_ok fun e _ K hK => by
  rw [run_check]
  unfold checkF at hK
  cases h : (openF e).2 <;> rw [h] at hK <;> exact hK
theorem mulE_ok : CtrOk Tryz.prog env 166 (pureN (bb2G mulE)) := bb2_ok baseD_ok fun k e K hK => by
  rw [run_mulE]
  unfold mulE at hK
  cases h : (openF e).2 <;> rw [h] at hK <;> exact hK
theorem addE_ok : CtrOk Tryz.prog env 168 (pureN (bb2G addE)) := bb2_ok baseD_ok fun a b K hK => by
  rw [run_addE]
  unfold addE at hK
  cases h : (openF a).2 <;> cases h' : (openF b).2 <;> simp only [h, h'] at hK <;> exact hK
theorem mulB_ok : CtrOk Tryz.prog env 144 (pureN (b32G fun k => .arr .u8 32 (formF (ptMul basePt k)))) := b32_ok baseD_ok fun k _ K hK => (run_mulBase openF k K).mpr hK
theorem identE_ok : CtrOk Tryz.prog env 194 (pureN (conG (.arr .u8 32 (formF ptId)))) := con_ok baseD_ok (run_identE openF)
theorem sAdd_ok : CtrOk Tryz.prog env 183 (pureN (bb2G fun a b => .arr .u8 32 (sAddF a b))) := bb2_ok baseS4_ok fun a b K hK => (run_sAdd a b K).mpr hK
theorem sMul_ok : CtrOk Tryz.prog env 198 (pureN (bb2G fun a b => .arr .u8 32 (sMulF a b))) := bb2_ok baseS4_ok fun a b K hK => (run_sMul a b K).mpr hK
theorem sSub_ok : CtrOk Tryz.prog env 247 (pureN (bb2G fun a b => .arr .u8 32 (sSubF a b))) := bb2_ok baseS4_ok fun a b K hK => (run_sSub a b K).mpr hK
end Go.Abs

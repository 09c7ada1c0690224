/- Code, loops, functions: what the evaluator shows holds in the model. Functions: a contract by evaluation. -/
import Derived.Test.YtadiphoihflmiaaGreatDoorZao
set_option linter.all false
namespace Go.Abs

/-! ### blocks numbered anew -/
theorem reach_prefix {h : Heap} : ∀ {n : Nat} {ks seen : List Nat}, ∃ l, reach h n ks seen = seen ++ l
  | 0, ks, seen => ⟨[], by simp [reach]⟩
  | n + 1, [], seen => ⟨[], by simp [reach]⟩
  | n + 1, j :: ks, seen => by
    simp only [reach]
    cases memN j seen with
    | true => exact reach_prefix
    | false =>
      cases h j with
      | none =>
        obtain ⟨l, hl⟩ := reach_prefix (h := h) (n := n) (ks := ks) (seen := seen ++ [j])
        exact ⟨j :: l, by simp only [hl]; simp⟩
      | some b =>
        obtain ⟨l, hl⟩ := reach_prefix (h := h) (n := n) (ks := ks ++ b.c.keys) (seen := seen ++ [j])
        exact ⟨j :: l, by simp only [hl]; simp⟩

theorem upTo_range (i n : Nat) : upTo i n = List.range' i n := by
  induction n generalizing i with
  | zero => rfl
  | succ n ih => simp [upTo, ih, List.range'_succ]

theorem nthN_append : ∀ {l m : List Nat} {i : Nat}, i < l.length → nthN (l ++ m) i = nthN l i
  | [], m, i, h => by simp at h
  | x :: l, m, 0, _ => rfl
  | x :: l, m, i + 1, h => by simp only [List.cons_append, nthN]; exact nthN_append (by simpa using h)

theorem nthN_upTo : ∀ {n i j : Nat}, j < n → nthN (upTo i n) j = i + j
  | 0, i, j, h => by omega
  | n + 1, i, 0, _ => rfl
  | n + 1, i, j + 1, h => by simp only [upTo, nthN]; rw [nthN_upTo (by omega)]; omega

theorem listOf_spec {h : Heap} {r : Nat → Nat} : ∀ {ks : List Nat} {i j : Nat} {B : Blk}, lookL (listOf h r i ks) j = some B → i ≤ j ∧ j - i < ks.length ∧ ∃ b, h (nthN ks (j - i)) = some b ∧ B = b.rename r
  | [], i, j, B, hl => by simp [listOf, lookL] at hl
  | k :: ks, i, j, B, hl => by
    simp only [listOf] at hl
    cases hk : h k with
    | none =>
      rw [hk] at hl
      obtain ⟨h1, h2, b, h3, h4⟩ := listOf_spec hl
      refine ⟨by omega, by simp; omega, b, ?_, h4⟩
      rw [show j - i = (j - (i + 1)) + 1 by omega]; exact h3
    | some b =>
      rw [hk] at hl
      simp only [lookL] at hl
      cases hb : Nat.beq j i with
      | true =>
        have := beq_eq hb; subst this
        simp [hb] at hl
        exact ⟨Nat.le_refl _, by simp, b, by simpa [nthN] using hk, hl.symm⟩
      | false =>
        rw [hb] at hl
        obtain ⟨h1, h2, b', h3, h4⟩ := listOf_spec hl
        refine ⟨by omega, by simp; omega, b', ?_, h4⟩
        rw [show j - i = (j - (i + 1)) + 1 by omega]; exact h3

section
variable {P : Program} {env : Env} {C : Tab} {ρ ρ0 : PMap} {Z0 Z : Zone} {nb : Nat} {H H0 : Heap} {a : Act} {w w0 : World} {S : St} {ks : List Nat}

theorem HeapOk.renum (h : HeapOk env ρ Z w H) (hnd : ks.Nodup) (hsub : ∀ k, k ∈ keysAt H ks → k ∈ ks) : HeapOk env (fun i => ρ (nthN ks i)) Z w (lookL (listOf H (fun k => idxN k ks) 0 ks)) := by
  have inv : ∀ i B, lookL (listOf H (fun k => idxN k ks) 0 ks) i = some B → i < ks.length ∧ ∃ b, H (nthN ks i) = some b ∧ B = b.rename fun k => idxN k ks := fun i B hB => by
    obtain ⟨_, h1, b, h2, h3⟩ := listOf_spec hB
    exact ⟨by simpa using h1, b, by simpa using h2, h3⟩
  refine ⟨fun i B hB => ?_, fun i j B B' hne hB hB' => ?_, fun i B hB => ?_, h.zone, h.pos, h.gok⟩
  · obtain ⟨h1, b, h2, rfl⟩ := inv i B hB
    exact (h.blk _ b h2).rename fun k hk => by
      show ρ (nthN ks (idxN k ks)) = ρ k
      rw [(nth_idx (hsub k (keysAt_mem (nthN_mem h1) h2 hk))).1]
  · obtain ⟨h1, b, h2, rfl⟩ := inv i B hB
    obtain ⟨h3, b', h4, rfl⟩ := inv j B' hB'
    exact h.dis _ _ b b' (fun e => hne (nthN_inj hnd h1 h3 e)) h2 h4
  · obtain ⟨h1, b, h2, rfl⟩ := inv i B hB
    exact h.zdis _ b h2

theorem renum_keys (hsub : ∀ k, k ∈ keysAt H ks → k ∈ ks) {i : Nat} {B : Blk} (hB : lookL (listOf H (fun k => idxN k ks) 0 ks) i = some B) : i < ks.length ∧ ∀ k, k ∈ B.c.keys → k < ks.length := by
  obtain ⟨_, h1, b, h2, rfl⟩ := listOf_spec hB
  refine ⟨by simpa using h1, fun k hk => ?_⟩
  simp only [Blk.rename, cont_keys_rename, List.mem_map] at hk
  obtain ⟨j, hj, rfl⟩ := hk
  exact (nth_idx (hsub j (keysAt_mem (nthN_mem h1) h2 hj))).2

theorem reg_renum {w0 : World} (hreg : ∀ k b, H k = some b → ∀ i, (ρ k).lo ≤ i → i < (ρ k).hi → w0.heap.size ≤ (ρ k).block ∨ inReg ρ0 H0 (ρ k).block i) {i : Nat} {B : Blk} (hB : lookL (listOf H (fun k => idxN k ks) 0 ks) i = some B) :
    ∀ j, (ρ (nthN ks i)).lo ≤ j → j < (ρ (nthN ks i)).hi → w0.heap.size ≤ (ρ (nthN ks i)).block ∨ inReg ρ0 H0 (ρ (nthN ks i)).block j := by
  obtain ⟨_, h1, b, h2, rfl⟩ := listOf_spec hB
  exact hreg _ b (by simpa using h2)

theorem getL_keepT {live : List Nat} : ∀ {l : List (Option AVal)} {i t : Nat} {v : AVal}, getL (keepT live i l) t = some v → getL l t = some v
  | [], i, t, v, h => by simp [keepT, getL] at h
  | x :: l, i, 0, v, h => by
    simp only [keepT, getL] at h ⊢
    cases hm : memN i live <;> simp [hm] at h
    exact h
  | x :: l, i, t + 1, v, h => by simp only [keepT, getL] at h ⊢; exact getL_keepT h

theorem getL_renameO {r : Nat → Nat} : ∀ {l : List (Option AVal)} {t : Nat} {v : AVal}, getL (renameO r l) t = some v → ∃ u, getL l t = some u ∧ v = u.rename r
  | [], t, v, h => by simp [renameO, getL] at h
  | some x :: l, 0, v, h => by simp [renameO, getL] at h; exact ⟨x, rfl, h.symm⟩
  | none :: l, 0, v, h => by simp [renameO, getL] at h
  | some x :: l, t + 1, v, h => by simp only [renameO, getL] at h ⊢; exact getL_renameO h
  | none :: l, t + 1, v, h => by simp only [renameO, getL] at h ⊢; exact getL_renameO h

theorem keysO_mem : ∀ {l : List (Option AVal)} {t : Nat} {v : AVal} {k : Nat}, getL l t = some v → k ∈ v.keys → k ∈ keysO l
  | [], t, v, k, h, _ => by simp [getL] at h
  | some x :: l, 0, v, k, h, hk => by simp [getL] at h; subst h; simp [keysO, hk]
  | none :: l, 0, v, k, h, _ => by simp [getL] at h
  | some x :: l, t + 1, v, k, h, hk => by simp only [keysO, List.mem_append]; exact .inr (keysO_mem (by simpa [getL] using h) hk)
  | none :: l, t + 1, v, k, h, hk => by simp only [keysO]; exact keysO_mem (by simpa [getL] using h) hk

theorem length_keepT (live : List Nat) (i : Nat) (l : List (Option AVal)) : (keepT live i l).length = l.length := by
  induction l generalizing i with
  | nil => rfl
  | cons x l ih => simp [keepT, ih]

theorem length_renameO (r : Nat → Nat) (l : List (Option AVal)) : (renameO r l).length = l.length := by
  induction l with
  | nil => rfl
  | cons x l ih => cases x <;> simp [renameO, ih]

theorem canon_sound (hs : Sync env Z0 Z ρ0 H0 w0 nb S ρ a w) {live : List Nat} {K : St → Prop} (h : canon nb live S K) : ∃ S' ρ', K S' ∧ Sync env Z0 Z ρ0 H0 w0 nb S' ρ' a w := by
  unfold canon at h
  simp only at h
  obtain ⟨l, hl⟩ := reach_prefix (h := S.heap) (n := 512) (ks := keysAt S.heap (upTo 0 nb) ++ keysO (keepT live 0 S.tmps)) (seen := upTo 0 nb)
  generalize hks : reach S.heap 512 (keysAt S.heap (upTo 0 nb) ++ keysO (keepT live 0 S.tmps)) (upTo 0 nb) = ks at h hl
  clear hks
  obtain ⟨h1, h⟩ := chk_inv h
  obtain ⟨h2, h⟩ := chk_inv h
  obtain ⟨h3, h⟩ := chk_inv h
  obtain ⟨h4, h⟩ := chk_inv h
  have hnd := nodupN_iff.1 h1
  have hsub := subN_iff.1 h2
  have hsubH := subN_iff.1 h3
  have hlen := Nat.le_of_ble_eq_true h4
  refine ⟨_, fun i => ρ (nthN ks i), h, ⟨?_, ?_, hs.pre.heap.renum hnd hsubH, fun i B hB => ?_⟩, hs.keep, fun i B hB => ?_, fun k hk => ?_, hs.nb, hs.defers, hs.grow⟩
  · rw [length_renameO, length_keepT]; exact hs.pre.size
  · intro t v ht
    obtain ⟨u, hu, rfl⟩ := getL_renameO ht
    obtain ⟨g1, g2⟩ := hs.pre.tmps t u (getL_keepT hu)
    have hk : ∀ k, k ∈ u.keys → k ∈ ks := fun k hk => hsub k (keysO_mem hu hk)
    refine ⟨g1.rename fun k hm => ?_, fun k hm => ?_⟩
    · show ρ (nthN ks (idxN k ks)) = ρ k
      rw [(nth_idx (hk k hm)).1]
    · rw [keys_rename, List.mem_map] at hm
      obtain ⟨j, hj, rfl⟩ := hm
      have := (nth_idx (hk j hj)).2
      exact .inl (by omega)
  · obtain ⟨g1, g2⟩ := renum_keys hsubH hB
    exact ⟨.inl (by omega), fun k hk => .inl (by have := g2 k hk; omega)⟩
  · exact reg_renum hs.reg hB
  · show ρ (nthN ks k) = ρ0 k
    rw [hl, nthN_append (by simpa [upTo_range] using hk), nthN_upTo hk, Nat.zero_add]
    exact hs.old k hk

/-! ### code -/
def XE.to : XE → Exit
  | .normal => .normal
  | .exit id => .exit id
  | .ret => .ret

theorem wp_loop_n {c : Code} {Q : Exit → Act → World → Prop} (R : Nat → Act → World → Prop) (h0 : ∀ a w, ¬ R 0 a w) (round : ∀ n a w, R (n + 1) a w → c.wp P (Exit.then (fun a' w' => R n a' w') Q) a w) (n : Nat) (h : R n a w) :
    (Code.loop c).wp P Q a w := by
  intro b k cs
  have key : ∀ n a w, R n a w → ∃ e a' w', Q e a' w' ∧ Arrives P (lone (b.at a (.code c :: .inLoop c :: k)) cs w) b k cs e a' w' := by
    intro n
    induction n with
    | zero => intro a w hR; exact absurd hR (h0 a w)
    | succ n ih =>
      intro a w hR
      obtain ⟨e, a₁, w₁, hq, harr⟩ := round n a w hR b (.inLoop c :: k) cs
      cases e with
      | normal =>
        obtain ⟨e₂, a₂, w₂, hq₂, harr₂⟩ := ih a₁ w₁ hq
        exact ⟨e₂, a₂, w₂, hq₂, .of_steps (Steps.trans harr (.one step_inLoop)) harr₂⟩
      | exit id => exact ⟨_, a₁, w₁, hq, .pass (x := .inLoop c) rfl (fun _ _ => .inl (by simp)) harr⟩
      | goto l => exact ⟨_, a₁, w₁, hq, .pass (x := .inLoop c) rfl (fun _ _ => .inl (by simp)) harr⟩
      | ret => exact ⟨_, a₁, w₁, hq, .pass (x := .inLoop c) rfl (fun _ _ => .inl (by simp)) harr⟩
      | panic ch => exact ⟨_, a₁, w₁, hq, .pass (x := .inLoop c) rfl (fun _ _ => .inl (by simp)) harr⟩
      | outgrown => exact ⟨_, a₁, w₁, hq, .pass (x := .inLoop c) rfl (fun _ _ => .inl (by simp)) harr⟩
  obtain ⟨e, a', w', hq, harr⟩ := key n a w h
  exact ⟨e, a', w', hq, .of_steps (.one step_loop) harr⟩

theorem code_sound (hC : ∀ f c, C f = some c → CtrOk P env f c) (he : EnvOk P env) (hm : P.follows .mixedOrders = true) {live : Nat → List Nat} {fuel : Nat} : ∀ (c : Code) {S : St} {Z : Zone} {ρ : PMap} {a : Act} {w : World} {KK : XE → St → Prop} {Q : Exit → Act → World → Prop},
    (∀ e S Z ρ a w, KK e S → Sync env Z0 Z ρ0 H0 w0 nb S ρ a w → Q e.to a w) → Sync env Z0 Z ρ0 H0 w0 nb S ρ a w → evalCode env C nb live fuel c S KK → c.wp P Q a w := by
  intro c
  induction c with
  | skip => intro S Z ρ a w KK Q hQ hs h; exact wp_skip (hQ .normal S Z ρ a w h hs)
  | region id ops draw =>
    intro S Z ρ a w KK Q hQ hs h
    cases draw with
    | true =>
      obtain ⟨hB, h⟩ := chk_inv h
      exact draw_sound hC he hm (fun S Z ρ a w hK hs => hQ .normal S Z ρ a w hK hs) hB hs h
    | false => exact region_sound hC he (fun S Z ρ a w hK hs => hQ .normal S Z ρ a w hK hs) hs h
  | seq x y ihx ihy =>
    intro S Z ρ a w KK Q hQ hs h
    refine wp_seq (ihx (fun e S Z ρ a w hK hs => ?_) hs h)
    cases e with
    | normal => exact ihy hQ hs hK
    | exit id => exact hQ (.exit id) S Z ρ a w hK hs
    | ret => exact hQ .ret S Z ρ a w hK hs
  | cond c x y ihx ihy =>
    intro S Z ρ a w KK Q hQ hs h
    obtain ⟨v, hv, h⟩ := ob_inv h
    obtain ⟨g1, _⟩ := hs.pre.opVal hv
    cases v <;> try exact h.elim
    rename_i t
    rw [repV_bool] at g1
    rcases br_inv h with ⟨rfl, h⟩ | ⟨rfl, h⟩
    · exact wp_cond_true g1 (ihx hQ hs h)
    · exact wp_cond_false g1 (ihy hQ hs h)
  | block id c ih =>
    intro S Z ρ a w KK Q hQ hs h
    refine wp_block (ih (fun e S Z ρ a w hK hs => ?_) hs h)
    cases e with
    | normal => exact hQ .normal S Z ρ a w hK hs
    | exit i =>
      simp only at hK
      simp only [XE.to, Exit.inBlock]
      cases hb : Nat.beq i id with
      | true => rw [hb] at hK; rw [if_pos (beq_eq hb)]; exact hQ .normal S Z ρ a w hK hs
      | false => rw [hb] at hK; rw [if_neg (Nat.ne_of_beq_eq_false hb)]; exact hQ (.exit i) S Z ρ a w hK hs
    | ret => exact hQ .ret S Z ρ a w hK hs
  | loop c ih =>
    intro S Z ρ a w KK Q hQ hs h
    generalize hlv : (match firstRegion c with
      | some r => live r
      | none => []) = lv at h
    refine wp_loop_n (fun n a w => ∃ S Z ρ, Sync env Z0 Z ρ0 H0 w0 nb S ρ a w ∧ evalLoop nb lv (fun S K => evalCode env C nb live fuel c S K) n S KK) (fun a w ⟨_, _, _, _, h⟩ => h) (fun n a w ⟨S, Z, ρ, hs, h⟩ => ?_) fuel ⟨S, Z, ρ, hs, ?_⟩
    · obtain ⟨S', ρ', hK, hs'⟩ := canon_sound hs h
      refine ih (fun e S Z ρ a w hK hs => ?_) hs' hK
      cases e with
      | normal => exact ⟨S, Z, ρ, hs, hK⟩
      | exit id => exact hQ (.exit id) S Z ρ a w hK hs
      | ret => exact hQ .ret S Z ρ a w hK hs
    · subst hlv; exact h
  | exit id => intro S Z ρ a w KK Q hQ hs h; exact wp_exit (hQ (.exit id) S Z ρ a w h hs)
  | ret => intro S Z ρ a w KK Q hQ hs h; exact wp_ret (hQ .ret S Z ρ a w h hs)
  | _ => intro S Z ρ a w KK Q hQ hs h; exact h.elim
end
end Go.Abs

namespace Go.Abs

/-! ### one outcome, of code -/
structure Out2 : Type 1 where
  e : XE
  s : St

section
variable {P : Program} {env : Env} {C : Tab} {rid nb : Nat}

theorem det_guarded {α : Type 1} {ops : List Oper} {tmps : List (Option AVal)} {o : Oper} {F G : (α → Prop) → Prop} (h : Det F) (h' : Det G) : Det fun K => guarded ops tmps o (F K) (G K) := fun K hK => by
  rcases guarded_gval.1 hK with ⟨g, hK⟩ | ⟨g, hK⟩
  · obtain ⟨a, h1, h2⟩ := h K hK
    exact ⟨a, h1, fun K' h' => guarded_gval.2 (.inl ⟨g, h2 K' h'⟩)⟩
  · obtain ⟨a, h1, h2⟩ := h' K hK
    exact ⟨a, h1, fun K' h' => guarded_gval.2 (.inr ⟨g, h2 K' h'⟩)⟩

theorem det_guardedS {α : Type 1} {ops : List Oper} {S : St} {o : Oper} {F G : St → (α → Prop) → Prop} (h : ∀ S, Det (F S)) (h' : ∀ S, Det (G S)) : Det fun K => guardedS ops S o (fun S => F S K) (fun S => G S K) := by
  unfold guardedS
  cases o.guard with
  | none => exact h S
  | some jw =>
    obtain ⟨j, want⟩ := jw
    simp only
    cases opAt ops j with
    | none => exact det_false
    | some g =>
      simp only
      cases g.dst with
      | none => exact det_false
      | some d =>
        simp only
        cases getL S.tmps d with
        | none => exact det_false
        | some v =>
          cases v
          case bool b => cases want <;> first | exact det_br (h' _) (h _) | exact det_br (h _) (h' _)
          case tnil => exact h' S
          all_goals exact det_false

theorem det_evalOps (hC : ∀ f c, C f = some c → CtrOk P env f c) {ops : List Oper} : ∀ (os : List Oper) (i : Nat) (S : St), Det (evalOps env C rid ops os i S)
  | [], i, S => det_pure S
  | o :: os, i, S => det_guardedS (fun _ => det_chk (det_bind (det_evalOp hC) fun e => det_evalOps hC os (i + 1) _)) (fun _ => det_evalOps hC os (i + 1) _)

theorem det_evalDraw (hC : ∀ f c, C f = some c → CtrOk P env f c) {ops : List Oper} : ∀ (os : List Oper) (i : Nat) (ms : List Mark) (S : St), Det (evalDraw env C rid ops os i ms S)
  | [], i, ms, S => det_pure S
  | o :: os, i, ms, S => det_guardedS (fun _ => det_chk (det_bind (det_evalOp hC) fun e => det_chk (det_evalDraw hC os (i + 1) _ _))) (fun _ => det_evalDraw hC os (i + 1) _ _)

theorem det_canon {live : List Nat} {S : St} : Det (canon nb live S) := det_chk (det_chk (det_chk (det_chk (det_pure _))))

/-- A state on its way out. -/
def K2 (K : Out2 → Prop) : XE → St → Prop := fun e s => K ⟨e, s⟩

theorem det_evalLoop {live : List Nat} {body : St → (XE → St → Prop) → Prop} (hb : ∀ S, Det fun K => body S (K2 K)) : ∀ (n : Nat) (S : St), Det fun K => evalLoop nb live body n S (K2 K)
  | 0, S => det_false
  | n + 1, S => by
    refine det_bind (F := canon nb live S) (G := fun S K => body S fun e S' => match e with
      | .normal => evalLoop nb live body n S' (K2 K)
      | .exit id => K2 K (.exit id) S'
      | .ret => K2 K .ret S') det_canon fun S => ?_
    refine det_bind (F := fun K => body S (K2 K)) (G := fun o K => match o.e with
      | .normal => evalLoop nb live body n o.s (K2 K)
      | .exit id => K2 K (.exit id) o.s
      | .ret => K2 K .ret o.s) (hb S) fun o => ?_
    obtain ⟨e, s⟩ := o
    cases e with
    | normal => exact det_evalLoop hb n s
    | exit id => exact det_pure (⟨.exit id, s⟩ : Out2)
    | ret => exact det_pure (⟨.ret, s⟩ : Out2)

theorem det_evalCode (hC : ∀ f c, C f = some c → CtrOk P env f c) {live : Nat → List Nat} {fuel : Nat} : ∀ (c : Code) (S : St), Det fun K => evalCode env C nb live fuel c S (K2 K) := by
  intro c
  induction c with
  | skip => intro S; exact det_pure (⟨.normal, S⟩ : Out2)
  | region id ops draw =>
    intro S
    cases draw with
    | true => exact det_chk (det_comp (fun s => (⟨.normal, s⟩ : Out2)) (det_evalDraw hC _ _ _ _))
    | false => exact det_comp (fun s => (⟨.normal, s⟩ : Out2)) (det_evalOps hC _ _ _)
  | seq x y ihx ihy =>
    intro S
    refine det_bind (F := fun K => evalCode env C nb live fuel x S (K2 K)) (G := fun o K => match o.e with
      | .normal => evalCode env C nb live fuel y o.s (K2 K)
      | .exit id => K2 K (.exit id) o.s
      | .ret => K2 K .ret o.s) (ihx S) fun o => ?_
    obtain ⟨e, s⟩ := o
    cases e with
    | normal => exact ihy s
    | exit id => exact det_pure (⟨.exit id, s⟩ : Out2)
    | ret => exact det_pure (⟨.ret, s⟩ : Out2)
  | cond c x y ihx ihy =>
    intro S
    refine det_ob fun v => ?_
    cases v <;> first | exact det_br (ihx S) (ihy S) | exact det_false
  | block id c ih =>
    intro S
    refine det_bind (F := fun K => evalCode env C nb live fuel c S (K2 K)) (G := fun o K => match o.e with
      | .normal => K2 K .normal o.s
      | .exit i => match Nat.beq i id with
        | true => K2 K .normal o.s
        | false => K2 K (.exit i) o.s
      | .ret => K2 K .ret o.s) (ih S) fun o => ?_
    obtain ⟨e, s⟩ := o
    cases e with
    | normal => exact det_pure (⟨.normal, s⟩ : Out2)
    | exit i =>
      simp only
      cases Nat.beq i id with
      | true => exact det_pure (⟨.normal, s⟩ : Out2)
      | false => exact det_pure (⟨.exit i, s⟩ : Out2)
    | ret => exact det_pure (⟨.ret, s⟩ : Out2)
  | loop c ih =>
    intro S
    exact det_evalLoop ih fuel S
  | exit id => intro S; exact det_pure (⟨.exit id, S⟩ : Out2)
  | ret => intro S; exact det_pure (⟨.ret, S⟩ : Out2)
  | _ => intro S; exact det_false

theorem det_finish {h : Heap} {v : AVal} : Det fun (K : Out → Prop) => finish nb h v fun v h => K ⟨v, h⟩ := det_chk (det_chk (det_chk (det_pure (⟨_, _⟩ : Out))))

theorem det_evalFn (hC : ∀ f c, C f = some c → CtrOk P env f c) {live : Nat → List Nat} {fn : Func} {body : Code} {fuel : Nat} {args : List AVal} {bs : List Blk} : Det fun (K : Out → Prop) => evalFn env C live fn body fuel args bs fun v h => K ⟨v, h⟩ := by
  refine det_chk ?_
  refine det_bind (F := fun K => evalCode env C bs.length live fuel body ⟨someL args (fn.ntmps - args.length), ofBlks 0 bs, fun _ => false⟩ (K2 K)) (G := fun o (K : Out → Prop) => match o.e with
    | .exit _ => False
    | _ => ob (resVals env o.s fn.results.toList) fun vs => finish bs.length o.s.heap (oneOf vs) fun v h => K ⟨v, h⟩) (det_evalCode hC body _) fun o => ?_
  obtain ⟨e, s⟩ := o
  cases e with
  | exit id => exact det_false
  | _ => exact det_ob fun vs => det_finish
end

/-! ### results -/
section
variable {P : Program} {env : Env} {C : Tab} {ρ ρ0 : PMap} {Z0 Z : Zone} {nb : Nat} {H H0 : Heap} {a : Act} {w w0 : World} {S : St}

theorem res_one (he : EnvOk P env) (hs : Sync env Z0 Z ρ0 H0 w0 nb S ρ a w) {key t : Nat} {p : List Step} {b : Blk} {v : AVal} {x : Nat} (ha : getL S.tmps x = some (.ptr key p)) (hb : S.heap key = some b) (ht : b.root.type env p = some t) (hg : b.c.get p = some v) :
    ∃ y, (do loadVar t (← asAddr (a.tmps.getD x undef)) : Sem Value).run P w = .ok y w ∧ RepV env ρ Z v y ∧ ∀ k, k ∈ v.keys → known S.used k := by
  obtain ⟨g1, _⟩ := hs.pre.tmps x _ ha
  obtain ⟨g2, g3⟩ := ptr_inv g1
  obtain ⟨y, h1, h2, _, h3⟩ := load_blk he hs.pre hb ht hg g2
  exact ⟨y, by rw [g3]; simp [asAddr, h1], h2, h3⟩

theorem resVals_sound (he : EnvOk P env) (hs : Sync env Z0 Z ρ0 H0 w0 nb S ρ a w) : ∀ {rs : List ResultVar} {vs : List AVal}, resVals env S rs = some vs →
    ∃ ys : List Value, (rs.mapM fun r => (match r with
      | .tmp t => pure (a.tmps.getD t undef)
      | .cell x t => do loadVar t (← asAddr (a.tmps.getD x undef)) : Sem Value)).run P w = .ok ys w ∧ RepVs env ρ Z vs ys ∧ ∀ k, k ∈ keysL vs → known S.used k
  | [], vs, h => by simp [resVals] at h; subst h; exact ⟨[], by simp [List.mapM_nil], by simp [RepVs], by simp [keysL]⟩
  | .tmp t :: rs, vs, h => by
    simp only [resVals] at h
    cases ht : getL S.tmps t with
    | none => simp [ht] at h
    | some v =>
      cases hr : resVals env S rs with
      | none => simp [ht, hr] at h
      | some vs' =>
        simp [ht, hr] at h; subst h
        obtain ⟨ys, h1, h2, h3⟩ := resVals_sound he hs hr
        obtain ⟨g1, g2⟩ := hs.pre.tmps t v ht
        refine ⟨_ :: ys, ?_, ⟨_, _, rfl, g1, h2⟩, fun k hk => by simp only [keysL, List.mem_append] at hk; exact hk.elim (g2 k) (h3 k)⟩
        rw [List.mapM_cons]
        simp only [Sem.run_bind, Sem.run_pure, Result.andThen_ok, h1]
  | .cell x t :: rs, vs, h => by
    simp only [resVals] at h
    cases ha : getL S.tmps x with
    | none => simp [ha] at h
    | some v0 =>
      cases v0 <;> simp [ha] at h
      rename_i key p
      cases hb : S.heap key with
      | none => simp [hb] at h
      | some b =>
        cases hu : b.root.type env p with
        | none => simp [hb, hu] at h
        | some u =>
          cases hq : Nat.beq t u with
          | false => simp [hb, hu, hq] at h
          | true =>
            have := beq_eq hq; subst this
            cases hg : b.c.get p with
            | none => simp [hb, hu, hq, hg] at h
            | some v =>
              cases hr : resVals env S rs with
              | none => simp [hb, hu, hq, hg, hr] at h
              | some vs' =>
                simp [hb, hu, hq, hg, hr] at h; subst h
                obtain ⟨ys, h1, h2, h3⟩ := resVals_sound he hs hr
                obtain ⟨y, g1, g2, g3⟩ := res_one he hs ha hb hu hg
                refine ⟨y :: ys, ?_, ⟨_, _, rfl, g2, h2⟩, fun k hk => by simp only [keysL, List.mem_append] at hk; exact hk.elim (g3 k) (h3 k)⟩
                rw [List.mapM_cons]
                simp only [Sem.run_bind, Sem.run_pure, Result.andThen_ok] at g1 ⊢
                rw [g1]
                simp only [Result.andThen_ok, h1]

theorem RepVs.tup : ∀ {vs : List AVal} {ys : List Value}, RepVs env ρ Z vs ys → RepA env ρ Z (.tup vs) ys
  | [], ys, h => by simpa [AVal.tup, RepA, RepVs] using h
  | v :: vs, ys, h => by
    obtain ⟨x, xs, rfl, h1, h2⟩ := h
    simp only [AVal.tup, RepA]
    exact ⟨x, xs, rfl, h1, h2.tup⟩

theorem keys_tup (vs : List AVal) : (AVal.tup vs).keys = keysL vs := by
  induction vs with
  | nil => rfl
  | cons v vs ih => simp [AVal.tup, AVal.keys, keysL, ih]

theorem RepVs.length : ∀ {vs : List AVal} {ys : List Value}, RepVs env ρ Z vs ys → ys.length = vs.length
  | [], ys, h => by simp only [RepVs] at h; simp [h]
  | v :: vs, ys, h => by
    obtain ⟨x, xs, rfl, h1, h2⟩ := h
    simp [h2.length]

theorem repV_tupOf {vs : List AVal} {ys : List Value} (h : RepVs env ρ Z vs ys) : RepV env ρ Z (.tup vs) (.tuple ys.toArray) := by
  cases vs with
  | nil =>
    simp only [RepVs] at h; subst h
    simp [AVal.tup, RepV, AVal.isAgg, RepC]
  | cons v vs =>
    obtain ⟨x, xs, rfl, h1, h2⟩ := h
    simp only [AVal.tup, RepV, AVal.isAgg, RepC]
    exact ⟨_, rfl, x, xs, by simp, h1, h2.tup⟩

theorem oneOf_rep {vs : List AVal} {ys : List Value} (h : RepVs env ρ Z vs ys) : RepV env ρ Z (oneOf vs) (if h : ys.toArray.size = 1 then ys.toArray[0] else .tuple ys.toArray) := by
  have hl := h.length
  match vs, ys, h with
  | [v], ys, h =>
    obtain ⟨x, xs, rfl, h1, h2⟩ := h
    simp only [RepVs] at h2; subst h2
    simpa [oneOf] using h1
  | [], ys, h =>
    have : ¬ ys.toArray.size = 1 := by simp at hl; simp [hl]
    simp only [oneOf, dif_neg this]
    exact repV_tupOf h
  | v :: v' :: vs, ys, h =>
    have : ¬ ys.toArray.size = 1 := by simp at hl; simp [hl]
    simp only [oneOf, dif_neg this]
    exact repV_tupOf h

theorem keys_oneOf {vs : List AVal} {k : Nat} (h : k ∈ (oneOf vs).keys) : k ∈ keysL vs := by
  match vs, h with
  | [v], h => simpa [oneOf, keysL] using h
  | [], h => simp [oneOf, AVal.tup, AVal.keys] at h
  | v :: v' :: vs, h => rw [oneOf, keys_tup] at h; exact h; exact fun v h => by cases h

theorem results_sound (he : EnvOk P env) (hs : Sync env Z0 Z ρ0 H0 w0 nb S ρ a w) {fn : Func} {vs : List AVal} (h : resVals env S fn.results.toList = some vs) :
    ∃ y, (results fn a.tmps).run P w = .ok y w ∧ RepV env ρ Z (oneOf vs) y ∧ ∀ k, k ∈ (oneOf vs).keys → known S.used k := by
  obtain ⟨ys, h1, h2, h3⟩ := resVals_sound he hs h
  refine ⟨_, ?_, oneOf_rep h2, fun k hk => h3 k (keys_oneOf hk)⟩
  unfold results
  rw [Array.mapM_eq_mapM_toList]
  simp only [Sem.run_bind, Functor.map, Sem.run_pure]
  have hb : ∀ {α β : Type} (x : Sem α) (f : α → Sem β), x.bind f = x >>= f := fun _ _ => rfl
  rw [hb, Sem.run_bind]
  have h1' : ∀ F : ResultVar → Sem Value, (∀ r, F r = (match r with
      | .tmp t => pure (a.tmps.getD t undef)
      | .cell x t => do loadVar t (← asAddr (a.tmps.getD x undef)) : Sem Value)) → (fn.results.toList.mapM F).run P w = .ok ys w := fun F hF => by
    rw [show F = _ from funext hF]; exact h1
  rw [h1' _ (fun r => by cases r <;> rfl)]
  rfl

/-! ### a function -/
theorem length_noneL {α : Type 1} (n : Nat) : (noneL n : List (Option α)).length = n := by
  induction n with
  | zero => rfl
  | succ n ih => simp [noneL, ih]

theorem length_someL (vs : List AVal) (n : Nat) : (someL vs n).length = vs.length + n := by
  induction vs with
  | nil => simp [someL, length_noneL]
  | cons v vs ih => simp [someL, ih]; omega

theorem getL_noneL {n t : Nat} {v : AVal} (h : getL (noneL n) t = some v) : False := by
  induction n generalizing t with
  | zero => simp [noneL, getL] at h
  | succ n ih =>
    cases t with
    | zero => simp [noneL, getL] at h
    | succ t => simp only [noneL, getL] at h; exact ih h

theorem getL_someL : ∀ {vs : List AVal} {ys : List Value} {n t : Nat} {v : AVal}, RepVs env ρ Z vs ys → getL (someL vs n) t = some v → ∃ y, ys[t]? = some y ∧ RepV env ρ Z v y ∧ ∀ k, k ∈ v.keys → k ∈ keysL vs
  | [], ys, n, t, v, h, hg => (getL_noneL (by simpa [someL] using hg)).elim
  | u :: vs, ys, n, t, v, h, hg => by
    obtain ⟨x, xs, rfl, h1, h2⟩ := h
    cases t with
    | zero => simp [someL, getL] at hg; subst hg; exact ⟨x, rfl, h1, fun k hk => by simp [keysL, hk]⟩
    | succ t =>
      simp only [someL, getL] at hg
      obtain ⟨y, g1, g2, g3⟩ := getL_someL h2 hg
      exact ⟨y, by simpa using g1, g2, fun k hk => by simp [keysL, g3 k hk]⟩

theorem fn_ctr (hC : ∀ f c, C f = some c → CtrOk P env f c) (he : EnvOk P env) (hm : P.follows .mixedOrders = true) {f : Nat} {fn : Func} {body : Code} {live : Nat → List Nat} {fuel : Nat} (hf : P.funcs[f]? = some fn) (hb : fn.body = some body)
    (hc : ∀ args w, (callFunc f args).run P w = .ok (.enter f args) w) : CtrOk P env f ⟨evalFn env C live fn body fuel⟩ := by
  refine ⟨fun {ρ Z w us bs xs K} hh hx hk hkH h => ?_, fun us bs => det_evalFn hC⟩
  rw [hc]
  show Calls P f xs w _
  obtain ⟨hn, h⟩ := chk_inv h
  have hn := Nat.le_of_ble_eq_true hn
  refine calls_of_wp hf hb ?_
  have hl := hx.length
  have hs : Sync env Z Z ρ (ofBlks 0 bs) w bs.length ⟨someL us (fn.ntmps - us.length), ofBlks 0 bs, fun _ => false⟩ ρ { tmps := xs ++ Array.replicate (fn.ntmps - xs.size) undef, defers := [] } w := by
    refine ⟨⟨?_, fun t v ht => ?_, hh, fun k b hb => ?_⟩, Keeps.refl _ _, fun k b hb i h1 h2 => .inr ⟨k, b, hb, rfl, h1, h2⟩, fun _ _ => rfl, hn, rfl, Grow.refl _ _ _⟩
    · rw [length_someL]
      simp at hl ⊢
      omega
    · obtain ⟨y, g1, g2, g3⟩ := getL_someL hx ht
      have hy : (xs ++ Array.replicate (fn.ntmps - xs.size) undef).getD t undef = y := by
        have hlt : t < xs.size := by
          have := (List.getElem?_eq_some_iff.1 g1).1
          simpa using this
        have g1' : xs[t]? = some y := by simpa using g1
        rw [Array.getD_eq_getD_getElem?, Array.getElem?_append_left hlt, g1']
        rfl
      exact ⟨by rw [hy]; exact g2, fun k hm => .inl (by have := hk k (g3 k hm); omega)⟩
    · have hlt : k < bs.length := by
        have := (ofBlks_spec.1 hb).2
        have := (List.getElem?_eq_some_iff.1 this).1
        omega
      exact ⟨.inl (by omega), fun k' hk' => .inl (by have := hkH k b hb k' hk'; omega)⟩
  have done : ∀ S Z' ρ' a w', ob (resVals env S fn.results.toList) (fun vs => finish bs.length S.heap (oneOf vs) K) → Sync env Z Z' ρ (ofBlks 0 bs) w bs.length S ρ' a w' →
      a.defers = [] ∧ ∃ v, (results fn a.tmps).run P w' = .ok v w' ∧ ∃ x, Ending.returned v = .returned x ∧ ∃ v' h2 Z'' ρ'', K v' h2 ∧ Grow (inReg ρ (ofBlks 0 bs)) w Z Z'' ∧ ResOk env ρ ρ'' Z'' bs.length w (ofBlks 0 bs) v' h2 x w' := by
    intro S Z' ρ' a w' hr hs
    obtain ⟨vs, hvs, hr⟩ := ob_inv hr
    obtain ⟨y, h1, h2, h3⟩ := results_sound he hs hvs
    refine ⟨hs.defers, y, h1, y, rfl, ?_⟩
    unfold finish at hr
    simp only at hr
    obtain ⟨l, hl⟩ := reach_prefix (h := S.heap) (n := 512) (ks := keysAt S.heap (upTo 0 bs.length) ++ (oneOf vs).keys) (seen := upTo 0 bs.length)
    generalize hks : reach S.heap 512 (keysAt S.heap (upTo 0 bs.length) ++ (oneOf vs).keys) (upTo 0 bs.length) = ks at hr hl
    clear hks
    obtain ⟨k1, hr⟩ := chk_inv hr
    obtain ⟨k2, hr⟩ := chk_inv hr
    obtain ⟨k3, hr⟩ := chk_inv hr
    have hnd := nodupN_iff.1 k1
    have hsub := subN_iff.1 k2
    have hsubH := subN_iff.1 k3
    refine ⟨_, _, Z', fun i => ρ' (nthN ks i), hr, hs.grow, ?_, hs.pre.heap.renum hnd hsubH, fun k hk => ?_, hs.keep, fun i B hB => reg_renum hs.reg hB⟩
    · exact h2.rename fun k hm => by
        show ρ' (nthN ks (idxN k ks)) = ρ' k
        rw [(nth_idx (hsub k hm)).1]
    · show ρ' (nthN ks k) = ρ k
      rw [hl, nthN_append (by simpa [upTo_range] using hk), nthN_upTo hk, Nat.zero_add]
      exact hs.old k hk
  refine code_sound hC he hm body (fun e S Z' ρ' a w' hr hs => ?_) hs h
  cases e with
  | normal => exact done S Z' ρ' a w' hr hs
  | exit id => exact hr.elim
  | ret => exact done S Z' ρ' a w' hr hs

/-! ### a table by depth -/
/-- What is known by hand, and else a function's own evaluation, so many calls deep. -/
def tabN (env : Env) (base : Tab) (fns : Nat → Option (Func × Code)) (live : Nat → Nat → List Nat) (fuel : Nat) : Nat → Tab
  | 0 => base
  | n + 1 => fun f => match base f with
    | some c => some c
    | none => match fns f with
      | some (fn, body) => some ⟨evalFn env (tabN env base fns live fuel n) (live f) fn body fuel⟩
      | none => none

theorem tabN_ok (he : EnvOk P env) (hm : P.follows .mixedOrders = true) {base : Tab} {fns : Nat → Option (Func × Code)} {live : Nat → Nat → List Nat} {fuel : Nat} (hb : ∀ f c, base f = some c → CtrOk P env f c)
    (hf : ∀ f fn body, fns f = some (fn, body) → P.funcs[f]? = some fn ∧ fn.body = some body ∧ ∀ args w, (callFunc f args).run P w = .ok (.enter f args) w) : ∀ (n f : Nat) (c : Ctr), tabN env base fns live fuel n f = some c → CtrOk P env f c
  | 0, f, c, h => hb f c h
  | n + 1, f, c, h => by
    simp only [tabN] at h
    cases hbf : base f with
    | some c' => rw [hbf] at h; cases h; exact hb f _ hbf
    | none =>
      rw [hbf] at h
      cases hff : fns f with
      | none => rw [hff] at h; cases h
      | some p =>
        obtain ⟨fn, body⟩ := p
        rw [hff] at h
        cases h
        obtain ⟨h1, h2, h3⟩ := hf f fn body hff
        exact fn_ctr (tabN_ok he hm hb hf n) he hm h1 h2 h3
end
end Go.Abs

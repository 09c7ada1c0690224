/- A call: what a contract says in the model, and what it comes to for the caller. All operations in one. One outcome: each operation that goes on with an outcome goes on with one. The evaluator's state and the model's, side by side: one step; regions in their order. -/
import Derived.Test.YtadiphoihflmiaaGreatDoorZg
set_option linter.all false
namespace Go.Abs

/-! ### one outcome -/
/-- What goes on with an outcome goes on with one, and that one serves whatever follows. -/
def Det {α : Type 1} (F : (α → Prop) → Prop) : Prop := ∀ K, F K → ∃ a, K a ∧ ∀ K', K' a → F K'

structure Out : Type 1 where
  v : AVal
  h : List (Nat × Blk)

/-- What a call leaves. -/
structure ResOk (env : Env) (ρ ρ' : PMap) (Z : Zone) (n : Nat) (w : World) (H0 : Heap) (v : AVal) (h2 : List (Nat × Blk)) (x : Value) (w' : World) : Prop where
  val : RepV env ρ' Z v x
  heap : HeapOk env ρ' Z w' (lookL h2)
  old : ∀ k, k < n → ρ' k = ρ k
  keep : Keeps (inReg ρ H0) w w'
  reg : ∀ k b, lookL h2 k = some b → ∀ i, (ρ' k).lo ≤ i → i < (ρ' k).hi → w.heap.size ≤ (ρ' k).block ∨ inReg ρ H0 (ρ' k).block i

def CallPost (P : Program) (R : Value → World → Prop) : Result Next → Prop
  | .ok (.enter g args) w1 => Calls P g args w1 fun en w' => ∃ x, en = .returned x ∧ R x w'
  | .ok (.value x) w' => R x w'
  | _ => False

theorem CallPost.mono {P : Program} {R R' : Value → World → Prop} (h : ∀ x w, R x w → R' x w) : ∀ {r : Result Next}, CallPost P R r → CallPost P R' r
  | .ok (.enter g args) w1, hr => Calls.mono hr fun en w' ⟨x, e, hx⟩ => ⟨x, e, h _ _ hx⟩
  | .ok (.value x) w', hr => h _ _ hr

structure CtrOk (P : Program) (env : Env) (f : Nat) (c : Ctr) : Prop where
  run : ∀ {ρ : PMap} {Z : Zone} {w : World} {us : List AVal} {bs : List Blk} {xs : Array Value} {K : AVal → List (Nat × Blk) → Prop}, HeapOk env ρ Z w (ofBlks 0 bs) → RepVs env ρ Z us xs.toList → (∀ k, k ∈ keysL us → k < bs.length) →
    (∀ i b, ofBlks 0 bs i = some b → ∀ k, k ∈ b.c.keys → k < bs.length) → c.run us bs K →
    CallPost P (fun x w' => ∃ v h2 ρ', K v h2 ∧ ResOk env ρ ρ' Z bs.length w (ofBlks 0 bs) v h2 x w') ((callFunc f xs).run P w)
  det : ∀ us bs, Det fun (K : Out → Prop) => c.run us bs fun v h => K ⟨v, h⟩

section
variable {P : Program} {env : Env} {C : Tab} {ρ : PMap} {Z : Zone} {u : Nat → Bool} {base : Nat} {tmps : List (Option AVal)} {H : Heap} {a : Act} {w : World} {K : Eff → Prop}

theorem call_sound {f : Nat} {c : Ctr} (hC : CtrOk P env f c) (hp : Pre env ρ Z u tmps H a w) (hbase : ∀ k, inBase base k → ¬ known u k) {us : List AVal} {xs : Array Value} (hx : RepVs env ρ Z us xs.toList) (hku : ∀ k, k ∈ keysL us → known u k)
    (h : callBase c base H us fun v upd => K ⟨some v, upd⟩) : CallPost P (fun x w' => ∃ e, K e ∧ EffOk env ρ Z u base H w e x w') ((callFunc f xs).run P w) := by
  unfold callBase at h
  generalize hks : reach H 512 (keysL us) [] = ks at h
  clear hks
  obtain ⟨h1, h⟩ := chk_inv h
  obtain ⟨h2, h⟩ := chk_inv h
  obtain ⟨h3, h⟩ := chk_inv h
  obtain ⟨bs, h4, h⟩ := ob_inv h
  have hnd := nodupN_iff.1 h1
  have hsub := subN_iff.1 h2
  have hsubH := subN_iff.1 h3
  obtain ⟨hbl, hbs⟩ := blksOf_spec h4
  -- the places, by the callee's numbers
  have hblk : ∀ i B, ofBlks 0 bs i = some B → i < ks.length ∧ ∃ b, H (nthN ks i) = some b ∧ B = b.rename fun k => idxN k ks := fun i B hB => by
    have hB := (ofBlks_spec.1 hB).2
    simp only [Nat.sub_zero] at hB
    have hi : i < ks.length := by rw [← hbl]; exact (List.getElem?_eq_some_iff.1 hB).1
    obtain ⟨b, g1, g2⟩ := hbs i hi
    rw [g2] at hB; cases hB
    exact ⟨hi, b, g1, rfl⟩
  have hkH : ∀ i b k, i < ks.length → H (nthN ks i) = some b → k ∈ b.c.keys → k ∈ ks := fun i b k hi hb hk => hsubH k (keysAt_mem (nthN_mem hi) hb hk)
  have hknown : ∀ k, k ∈ ks → ∃ b, H k = some b := fun k hk => by
    obtain ⟨e1, e2⟩ := nth_idx hk
    obtain ⟨b, g1, _⟩ := hbs _ e2
    rw [e1] at g1; exact ⟨b, g1⟩
  have hkk : ∀ k, k ∈ ks → known u k := fun k hk => let ⟨b, hb⟩ := hknown k hk; (hp.keysH k b hb).1
  have hH0 : HeapOk env (fun i => ρ (nthN ks i)) Z w (ofBlks 0 bs) := by
    refine ⟨fun i B hB => ?_, fun i j B B' hne hB hB' => ?_, fun i B hB => ?_, hp.heap.zone, hp.heap.pos, hp.heap.gok⟩
    · obtain ⟨hi, b, g1, rfl⟩ := hblk i B hB
      exact (hp.heap.blk _ b g1).rename fun k hk => by
        show ρ (nthN ks (idxN k ks)) = ρ k
        rw [(nth_idx (hkH i b k hi g1 hk)).1]
    · obtain ⟨hi, b, g1, rfl⟩ := hblk i B hB
      obtain ⟨hj, b', g2, rfl⟩ := hblk j B' hB'
      exact hp.heap.dis _ _ b b' (fun e => hne (nthN_inj hnd hi hj e)) g1 g2
    · obtain ⟨hi, b, g1, rfl⟩ := hblk i B hB
      exact hp.heap.zdis _ b g1
  have hus : RepVs env (fun i => ρ (nthN ks i)) Z (renameL (fun k => idxN k ks) us) xs.toList := hx.rename fun k hk => by
    show ρ (nthN ks (idxN k ks)) = ρ k
    rw [(nth_idx (hsub k hk)).1]
  have hlt : ∀ k, k ∈ keysL (renameL (fun k => idxN k ks) us) → k < bs.length := fun k hk => by
    rw [keysL_rename, List.mem_map] at hk
    obtain ⟨j, hj, rfl⟩ := hk
    rw [hbl]; exact (nth_idx (hsub j hj)).2
  have hltH : ∀ i B, ofBlks 0 bs i = some B → ∀ k, k ∈ B.c.keys → k < bs.length := fun i B hB k hk => by
    obtain ⟨hi, b, g1, rfl⟩ := hblk i B hB
    simp only [Blk.rename, cont_keys_rename, List.mem_map] at hk
    obtain ⟨j, hj, rfl⟩ := hk
    rw [hbl]; exact (nth_idx (hkH i b j hi g1 hj)).2
  refine (hC.run hH0 hus hlt hltH h).mono ?_
  rintro x w' ⟨v, l2, ρ', hK, hr⟩
  obtain ⟨k1, hK⟩ := chk_inv hK
  obtain ⟨k2, hK⟩ := chk_inv hK
  obtain ⟨k3, hK⟩ := chk_inv hK
  obtain ⟨k4, hK⟩ := chk_inv hK
  have k1 := nodupN_iff.1 k1
  have k2 := allLt_iff.1 k2
  have k3 := allLt_iff.1 k3
  have k4 := allLt_iff.1 k4
  refine ⟨_, hK, ?_⟩
  clear hK h
  -- the places, by the caller's
  have hc : ∃ ρc : PMap, (∀ k, ¬ inBase base k → ρc k = ρ k) ∧ ∀ k, base ≤ k → k < base + 256 → ρc k = ρ' (ks.length + (k - base)) := by
    classical
    refine ⟨fun k => if base ≤ k ∧ k < base + 256 then ρ' (ks.length + (k - base)) else ρ k, fun k hk => if_neg hk, fun k h1 h2 => if_pos ⟨h1, h2⟩⟩
  obtain ⟨ρc, rc1, rc2⟩ := hc
  have nb : ∀ k, known u k → ¬ inBase base k := fun k hk hb => hbase k hb hk
  have back1 : ∀ j, j < ks.length → backOf ks ks.length base j = nthN ks j := fun j hj => by
    have : Nat.blt j ks.length = true := by simpa [Nat.blt_eq] using hj
    simp [backOf, this]
  have back2 : ∀ j, ¬ j < ks.length → backOf ks ks.length base j = base + (j - ks.length) := fun j hj => by
    have : Nat.blt j ks.length = false := by
      cases hb : Nat.blt j ks.length with
      | false => rfl
      | true => exact absurd (by simpa [Nat.blt_eq] using hb) hj
    simp [backOf, this]
  have fA : ∀ j, j < ks.length + 256 → ρc (backOf ks ks.length base j) = ρ' j := fun j hj => by
    by_cases hj' : j < ks.length
    · rw [back1 j hj', rc1 _ (nb _ (hkk _ (nthN_mem hj')))]
      exact (hr.old j (by rw [hbl]; exact hj')).symm
    · rw [back2 j hj', rc2 _ (by omega) (by omega)]
      congr 1; omega
  have fB : ∀ j, j < ks.length + 256 → known u (backOf ks ks.length base j) ∨ inBase base (backOf ks ks.length base j) := fun j hj => by
    by_cases hj' : j < ks.length
    · rw [back1 j hj']; exact .inl (hkk _ (nthN_mem hj'))
    · rw [back2 j hj']; exact .inr ⟨by omega, by omega⟩
  have hl : ∀ j b, lookL l2 j = some b → j < ks.length + 256 ∧ ∀ k, k ∈ b.c.keys → k < ks.length + 256 := fun j b hj => by
    obtain ⟨m1, m2⟩ := lookL_mem hj
    exact ⟨k2 j m2, fun k hk => k3 k (keysB_mem m1 hk)⟩
  have regOld : ∀ b i, inReg (fun i => ρ (nthN ks i)) (ofBlks 0 bs) b i → ∃ k B, k ∈ ks ∧ H k = some B ∧ (ρ k).block = b ∧ (ρ k).lo ≤ i ∧ i < (ρ k).hi := fun b i ⟨j, B, hB, e1, e2, e3⟩ => by
    obtain ⟨hi, b', g1, rfl⟩ := hblk j B hB
    exact ⟨_, b', nthN_mem hi, g1, e1, e2, e3⟩
  have regUp : ∀ b i, inReg (fun i => ρ (nthN ks i)) (ofBlks 0 bs) b i → inReg ρ H b i := fun b i hR => by
    obtain ⟨k, B, _, g1, g2⟩ := regOld b i hR
    exact ⟨k, B, g1, g2⟩
  -- what stands in the caller's memory behind the call
  have hupd : ∀ k B, updL H (goneOf l2 0 ks ++ putsOf (backOf ks ks.length base) l2) k = some B →
      (∃ j b, lookL l2 j = some b ∧ k = backOf ks ks.length base j ∧ B = b.rename (backOf ks ks.length base)) ∨ (H k = some B ∧ k ∉ ks) := fun k B hB => by
    rw [updL_append] at hB
    rcases updL_puts k1 hB with h | ⟨g1, g2⟩
    · exact .inl h
    · obtain ⟨g3, g4⟩ := updL_gone hnd g2
      refine .inr ⟨g3, fun hk => ?_⟩
      obtain ⟨b, hb⟩ := g4 hk
      simp only [Nat.zero_add] at hb
      refine g1 _ (lookL_mem hb).2 ?_
      rw [back1 _ (nth_idx hk).2, (nth_idx hk).1]
  have apart2 : ∀ j b k B, lookL l2 j = some b → H k = some B → k ∉ ks → Apart (ρ' j) (ρ k) := fun j b k B hj hk hnk i e h1 h2 h3 h4 => by
    rcases hr.reg j b hj i h1 h2 with h | h
    · have := (hp.heap.blk k B hk).there
      rw [e] at h; omega
    · obtain ⟨k', B', g1, g2, g3, g4, g5⟩ := regOld _ _ h
      refine hp.heap.dis k' k B' B ?_ g2 hk i (by rw [g3, e]) g4 g5 h3 h4
      rintro rfl; exact hnk g1
  have keepsOff : ∀ k B, H k = some B → k ∉ ks → ∀ i, (ρ k).lo ≤ i → i < (ρ k).hi → ¬ inReg (fun i => ρ (nthN ks i)) (ofBlks 0 bs) (ρ k).block i := fun k B hk hnk i h1 h2 hR => by
    obtain ⟨k', B', g1, g2, g3, g4, g5⟩ := regOld _ _ hR
    exact hp.heap.dis k' k B' B (by rintro rfl; exact hnk g1) g2 hk i g3 g4 g5 h1 h2
  refine ⟨ρc, ?_, ?_, fun k hk => rc1 k (nb k hk), ?_, hr.keep.mono fun b i _ h => regUp b i h, ?_, ?_⟩
  · intro v' e; cases e
    refine ⟨hr.val.rename fun k hk => fA k (k4 k hk), fun k hk => ?_⟩
    rw [keys_rename, List.mem_map] at hk
    obtain ⟨j, hj, rfl⟩ := hk
    exact fB j (k4 j hj)
  · refine ⟨fun k B hB => ?_, fun k k' B B' hne hB hB' => ?_, fun k B hB => ?_, hr.heap.zone, hr.heap.pos, hr.heap.gok⟩
    · rcases hupd k B hB with ⟨j, b, g1, rfl, rfl⟩ | ⟨g1, g2⟩
      · obtain ⟨m1, m2⟩ := hl j b g1
        rw [fA j m1]
        exact (hr.heap.blk j b g1).rename fun k hk => fA k (m2 k hk)
      · have := (hp.heap.blk k B g1).keeps hr.keep (keepsOff k B g1 g2)
        rw [rc1 k (nb k (hp.keysH k B g1).1)]
        exact this.congr fun j hj => rc1 j (nb j ((hp.keysH k B g1).2 j hj))
    · rcases hupd k B hB with ⟨j, b, g1, rfl, rfl⟩ | ⟨g1, g2⟩ <;> rcases hupd k' B' hB' with ⟨j', b', g3, rfl, rfl⟩ | ⟨g3, g4⟩
      · rw [fA j (hl j b g1).1, fA j' (hl j' b' g3).1]
        exact hr.heap.dis j j' b b' (by rintro rfl; exact hne rfl) g1 g3
      · rw [fA j (hl j b g1).1, rc1 k' (nb k' (hp.keysH k' B' g3).1)]
        exact apart2 j b k' B' g1 g3 g4
      · rw [fA j' (hl j' b' g3).1, rc1 k (nb k (hp.keysH k B g1).1)]
        exact (apart2 j' b' k B g3 g1 g2).symm
      · rw [rc1 k (nb k (hp.keysH k B g1).1), rc1 k' (nb k' (hp.keysH k' B' g3).1)]
        exact hp.heap.dis k k' B B' hne g1 g3
    · rcases hupd k B hB with ⟨j, b, g1, rfl, rfl⟩ | ⟨g1, g2⟩
      · rw [fA j (hl j b g1).1]; exact hr.heap.zdis j b g1
      · rw [rc1 k (nb k (hp.keysH k B g1).1)]; exact hp.heap.zdis k B g1
  · intro k b hm
    rw [List.mem_append] at hm
    rcases hm with hm | hm
    · have := (goneOf_mem hm).2; cases this
    · obtain ⟨j, b', m1, m2, rfl, e⟩ := putsOf_mem hm
      cases e
      refine ⟨fB j (k2 j m2), fun k' hk' => ?_⟩
      simp only [Blk.rename, cont_keys_rename, List.mem_map] at hk'
      obtain ⟨i, hi, rfl⟩ := hk'
      exact fB i (k3 i (keysB_mem m1 hi))
  · intro k B hB i h1 h2
    rcases hupd k B hB with ⟨j, b, g1, rfl, rfl⟩ | ⟨g1, g2⟩
    · rw [fA j (hl j b g1).1] at h1 h2 ⊢
      exact (hr.reg j b g1 i h1 h2).imp id (regUp _ _)
    · rw [rc1 k (nb k (hp.keysH k B g1).1)] at h1 h2 ⊢
      exact .inr ⟨k, B, g1, rfl, h1, h2⟩
  · intro k o hm
    rw [List.mem_append] at hm
    rcases hm with hm | hm
    · obtain ⟨m1, _⟩ := goneOf_mem hm
      obtain ⟨b, hb⟩ := hknown k m1
      exact .inl (by rw [hb]; simp)
    · obtain ⟨j, b', m1, m2, rfl, e⟩ := putsOf_mem hm
      by_cases hj : j < ks.length
      · rw [back1 j hj]
        obtain ⟨b, hb⟩ := hknown _ (nthN_mem hj)
        exact .inl (by rw [hb]; simp)
      · have := k2 j m2
        rw [back2 j hj]; exact .inr ⟨by omega, by omega⟩
end
end Go.Abs

namespace Go.Abs
section
variable {P : Program} {env : Env} {C : Tab} {ρ : PMap} {Z : Zone} {u : Nat → Bool} {base : Nat} {tmps : List (Option AVal)} {H : Heap} {a : Act} {w : World} {K : Eff → Prop}

theorem RepVs.append : ∀ {vs us : List AVal} {xs ys : List Value}, RepVs env ρ Z vs xs → RepVs env ρ Z us ys → RepVs env ρ Z (vs ++ us) (xs ++ ys)
  | [], us, xs, ys, h, h' => by simp only [RepVs] at h; subst h; exact h'
  | v :: vs, us, xs, ys, h, h' => by
    obtain ⟨x, xs', rfl, h1, h2⟩ := h
    exact ⟨x, xs' ++ ys, rfl, h1, h2.append h'⟩

theorem RepA_toList : ∀ {v : AVal} {xs : List Value}, RepA env ρ Z v xs → (∃ vs, v = .ofList vs) → RepVs env ρ Z v.toList xs := by
  intro v
  induction v with
  | unit => intro xs h _; simpa [RepA, AVal.toList, RepVs] using h
  | pair a b iha ihb =>
    rintro xs h ⟨vs, e⟩
    cases vs with
    | nil => cases e
    | cons v vs =>
      cases e
      simp only [RepA] at h
      obtain ⟨x, ys, rfl, h1, h2⟩ := h
      exact ⟨x, ys, rfl, h1, ihb h2 ⟨vs, rfl⟩⟩
  | _ => rintro xs h ⟨vs, e⟩; cases vs <;> cases e

theorem isList_of : ∀ {v : AVal}, isList v = true → ∃ vs, v = .ofList vs := by
  intro v
  induction v with
  | unit => exact fun _ => ⟨[], rfl⟩
  | pair a b iha ihb => intro h; obtain ⟨vs, e⟩ := ihb h; exact ⟨a :: vs, by rw [e]; rfl⟩
  | _ => intro h; simp [isList] at h

theorem RepA_isList : ∀ {v : AVal} {xs : List Value}, RepA env ρ Z v xs → (∃ vs, v = .ofList vs) ∨ ∃ a b, v = .tcons a b ∨ v = .tnil ∨ ∃ c, v = .pair c b := by
  intro v xs h
  cases v <;> simp only [RepA] at h
  · exact .inl ⟨[], rfl⟩
  · exact .inr ⟨.unit, _, .inr (.inr ⟨_, rfl⟩)⟩
  · exact .inr ⟨.unit, .unit, .inr (.inl rfl)⟩
  · exact .inr ⟨_, _, .inl rfl⟩

theorem keys_toList : ∀ {v : AVal} {k : Nat}, k ∈ keysL v.toList → k ∈ v.keys := by
  intro v
  induction v with
  | pair a b iha ihb =>
    intro k h
    simp only [AVal.toList, keysL, List.mem_append] at h
    simp only [AVal.keys, List.mem_append]
    exact h.imp id ihb
  | _ => intro k h; simp [AVal.toList, keysL] at h

theorem keysL_append (l m : List AVal) : keysL (l ++ m) = keysL l ++ keysL m := by
  induction l with
  | nil => rfl
  | cons v l ih => simp [keysL, ih]

theorem OpPost.of_call {r : Result Next} (h : CallPost P (fun x w' => ∃ e, K e ∧ EffOk env ρ Z u base H w e x w') r) : OpPost P env ρ Z u base H w K (fun _ _ => False) r := by
  cases r with
  | halt => exact h
  | ok n w' =>
    cases n with
    | value x => exact h
    | enter g args => exact Calls.mono h fun en w' ⟨x, e, e', hK, he⟩ => .inl ⟨e', x, e, hK, he⟩
    | _ => exact h.elim

theorem op_builtin (he : EnvOk P env) (hp : Pre env ρ Z u tmps H a w) (hbase : ∀ k, inBase base k → ¬ known u k) {o : Oper} {c : Call} {b : Builtin} (ho : o.op = .call c) (hc : c.callee = .builtin b) {vs : List AVal}
    (hv : opVals tmps c.args.toList = some vs) (h : evalBuiltin env base H b c.argTypes.toList vs K) : OpPost P env ρ Z u base H w K (fun _ _ => False) ((execOp a.eval o).run P w) := by
  unfold evalBuiltin at h
  split at h
  · rename_i t ts v hts
    exact op_len he hp ho hc hts hv h
  · exact op_min hp ho hc hv h
  · rename_i t t2 s x hts
    exact op_append he hp hbase ho hc hts hv h
  · exact h.elim

theorem op_any (hC : ∀ f c, C f = some c → CtrOk P env f c) (he : EnvOk P env) (hp : Pre env ρ Z u tmps H a w) {o : Oper} (hb : makes o = true → ∀ k, inBase base k → ¬ known u k)
    (h : evalOp env C base tmps H o K) : OpPost P env ρ Z u base H w K (fun _ _ => False) ((execOp a.eval o).run P w) := by
  unfold evalOp at h
  split at h
  all_goals rename_i ho
  · exact op_move hp (.inl ho) h
  · exact op_move hp (.inr ho) h
  · exact op_pick hp ho h
  · exact op_alloc he hp (hb (by simp [makes, ho])) ho h
  · exact op_box he hp (hb (by simp [makes, ho])) ho h
  · exact op_build he hp ho h
  · exact op_buildSlice he hp (hb (by simp [makes, ho])) ho h
  · exact op_load he hp ho h
  · exact op_store he hp ho h
  · exact op_nilCheck hp ho h
  · exact op_binOp2 he hp ⟨_, ho⟩ h
  · exact op_unOp hp ho h
  · exact op_convert he hp (hb (by simp [makes, ho])) ho h
  · exact op_s2ap he hp ho h
  · exact op_makeInterface he hp ho h
  · exact op_makeFunc hp ho h
  · exact op_makeSlice he hp (hb (by simp [makes, ho])) ho h
  · rename_i t x lo hi mx
    cases mx with
    | none => exact op_slice he hp ho h
    | some _ => exact h.elim
  · exact op_fieldAddr he hp ho h
  · exact op_field he hp ho h
  · exact op_indexAddr he hp ho h
  · exact op_index he hp ho h
  · rename_i t r
    cases r with
    | none => exact op_makeMap he hp (hb (by simp [makes, ho])) ho h
    | some _ => exact h.elim
  · exact op_lookup he hp ho h
  · exact op_mapUpdate he hp ho h
  · rename_i x xt t ok
    refine op_typeAssert he hp ho ?_
    revert h
    generalize env.td t = d
    cases ok with
    | false => exact id
    | true =>
      cases d with
      | none => exact id
      | some td => cases td <;> exact id
  · exact op_extract hp ho h
  · rename_i c
    have hbase := hb (by simp [makes, ho])
    obtain ⟨vs, hvs, q1⟩ := ob_inv h
    obtain ⟨g1, g2⟩ := hp.opVals hvs
    cases hc : c.callee with
    | builtin b => rw [hc] at q1; exact op_builtin he hp hbase ho hc hvs q1
    | value f =>
      rw [hc] at q1
      obtain ⟨fv, hf, q2⟩ := ob_inv q1
      obtain ⟨f1, f2⟩ := hp.opVal hf
      cases fv <;> try exact q2.elim
      rename_i fn x y
      cases fn <;> try exact q2.elim
      rename_i g
      obtain ⟨hl, q3⟩ := chk_inv q2
      obtain ⟨ct, hct, q4⟩ := ob_inv q3
      obtain ⟨xs, ys, e, hx, hy⟩ := repV_fn.1 f1
      have hl1 : isList x = true := by cases hx' : isList x <;> simp [hx', andB] at hl ⊢
      have hl2 : isList y = true := by cases hx' : isList x <;> simp [hx', andB] at hl ⊢; exact hl
      have hrep : RepVs env ρ Z (x.toList ++ vs ++ y.toList) (xs ++ c.args.map a.eval ++ ys).toList := by
        simp only [Array.toList_append, Array.toList_map]
        exact ((RepA_toList hx (isList_of hl1)).append g1).append (RepA_toList hy (isList_of hl2))
      have hk : ∀ k, k ∈ keysL (x.toList ++ vs ++ y.toList) → known u k := fun k hk => by
        rw [keysL_append, keysL_append] at hk
        simp only [List.mem_append] at hk
        rcases hk with (hk | hk) | hk
        · exact f2 k (by simp only [AVal.keys, List.mem_append]; exact .inl (keys_toList hk))
        · exact g2 k hk
        · exact f2 k (by simp only [AVal.keys, List.mem_append]; exact .inr (keys_toList hk))
      have := call_sound (hC g ct hct) hp hbase hrep hk q4
      have hrun : (execOp a.eval o).run P w = (callFunc g (xs ++ c.args.map a.eval ++ ys)).run P w := by
        simp only [execOp, ho, resolve, hc, e, Deferred.ofValue, pure_bind, invoke]
      rw [hrun]
      exact OpPost.of_call this
    | invoke r name =>
      rw [hc] at q1
      obtain ⟨rv, hr, q2⟩ := ob_inv q1
      obtain ⟨r1, r2⟩ := hp.opVal hr
      cases rv <;> try exact q2.elim
      rename_i t v
      obtain ⟨g, hg, q3⟩ := ob0_inv q2
      obtain ⟨ct, hct, q4⟩ := ob_inv q3
      obtain ⟨x, e, hx⟩ := repV_iface.1 r1
      have hrep : RepVs env ρ Z (v :: vs) (#[x] ++ c.args.map a.eval).toList := by
        simp only [Array.toList_append, Array.toList_map]
        exact ⟨x, _, rfl, hx, g1⟩
      have hk : ∀ k, k ∈ keysL (v :: vs) → known u k := fun k hk => by
        simp only [keysL, List.mem_append] at hk
        exact hk.elim (fun h => r2 k (by simpa [AVal.keys] using h)) (g2 k)
      have := call_sound (hC g ct hct) hp hbase hrep hk q4
      have hm := he.meth t name g hg x w
      have hrun : (execOp a.eval o).run P w = (callFunc g (#[x] ++ c.args.map a.eval)).run P w := by
        simp only [execOp, ho, resolve, hc, pure_bind, invoke, e]
        simp only [Array.getElem?_append, List.size_toArray, List.length_singleton, Nat.lt_one_iff, if_true, callMethod]
        have hx0 : (#[Value.iface t x] ++ Array.map a.eval c.args).extract 1 (#[Value.iface t x] ++ Array.map a.eval c.args).size = Array.map a.eval c.args := by
          apply Array.ext'
          simp only [Array.toList_extract, Array.toList_append, Array.toList_map]
          simp [List.extract, List.take_of_length_le]
        simp only [hx0]
        simp [Sem.run_bind, hm]
      rw [hrun]
      exact OpPost.of_call this
  · exact h.elim
end
end Go.Abs

namespace Go.Abs
section
variable {α β : Type 1} {γ : Type}

theorem det_pure (a : α) : Det fun K => K a := fun K h => ⟨a, h, fun _ h => h⟩
theorem det_false : Det fun (_ : α → Prop) => False := fun K h => h.elim
theorem det_ob {x : Option β} {F : β → (α → Prop) → Prop} (h : ∀ b, Det (F b)) : Det fun K => ob x fun b => F b K := fun K hK => by
  cases x with
  | none => exact hK.elim
  | some b => exact h b K hK
theorem det_ob0 {x : Option γ} {F : γ → (α → Prop) → Prop} (h : ∀ b, Det (F b)) : Det fun K => ob0 x fun b => F b K := fun K hK => by
  cases x with
  | none => exact hK.elim
  | some b => exact h b K hK
theorem det_chk {b : Bool} {F : (α → Prop) → Prop} (h : Det F) : Det fun K => chk b (F K) := fun K hK => by
  cases b with
  | false => exact hK.elim
  | true => exact h K hK
theorem det_br {b : Bool} {F G : (α → Prop) → Prop} (h : Det F) (h' : Det G) : Det fun K => br b (F K) (G K) := fun K hK => by
  cases b with
  | false => exact h' K hK
  | true => exact h K hK
theorem det_ix {v : AVal} {n : Nat} {F : Nat → (α → Prop) → Prop} (h : ∀ j, Det (F j)) : Det fun K => ix v n fun j => F j K := fun K hK => by
  unfold ix at *
  cases v <;> try exact hK.elim
  exact det_chk (det_chk (h _)) K hK
theorem det_bd {v : AVal} {n : Nat} {F : Nat → (α → Prop) → Prop} (h : ∀ j, Det (F j)) : Det fun K => bd v n fun j => F j K := fun K hK => by
  unfold bd at *
  cases v <;> try exact hK.elim
  exact det_chk (det_chk (h _)) K hK
theorem det_bdO {v : Option AVal} {d n : Nat} {F : Nat → (α → Prop) → Prop} (h : ∀ j, Det (F j)) : Det fun K => bdO v d n fun j => F j K := fun K hK => by
  cases v with
  | none => exact h d K hK
  | some v => exact det_bd h K hK
theorem det_comp {F : (β → Prop) → Prop} (g : β → α) (h : Det F) : Det fun (K : α → Prop) => F fun b => K (g b) := fun K hK => by
  obtain ⟨b, h1, h2⟩ := h _ hK
  exact ⟨g b, h1, fun K' h' => h2 _ h'⟩
theorem det_k1 {F : (AVal → Prop) → Prop} (h : Det F) : Det fun (K : Eff → Prop) => F (K1 K) := det_comp (fun v => (⟨some v, []⟩ : Eff)) h
theorem det_of {F : (α → Prop) → Prop} (h : ∀ K, F K → ∃ G : (α → Prop) → Prop, Det G ∧ G K ∧ ∀ K', G K' → F K') : Det F := fun K hK => by
  obtain ⟨G, h1, h2, h3⟩ := h K hK
  obtain ⟨a, h4, h5⟩ := h1 K h2
  exact ⟨a, h4, fun K' h' => h3 _ (h5 _ h')⟩
/-- A continuation that is a function of what comes. -/
theorem det_bind {F : (β → Prop) → Prop} {G : β → (α → Prop) → Prop} (h : Det F) (hg : ∀ b, Det (G b)) : Det fun K => F fun b => G b K := fun K hK => by
  obtain ⟨b, h1, h2⟩ := h _ hK
  obtain ⟨a, h3, h4⟩ := hg b K h1
  exact ⟨a, h3, fun K' h' => h2 _ (h4 _ h')⟩
end

section
variable {P : Program} {env : Env} {C : Tab} {base : Nat} {tmps : List (Option AVal)} {H : Heap}

theorem det_binInt {op : BinOp} {k : IntKind} {x y : TT k} : Det (binInt op k x y) := by
  cases op <;> first | exact det_pure _ | exact det_chk (det_pure _) | exact det_false

theorem det_binOpA {op : BinOp} {t : Nat} {X Y : Operand} {a b : AVal} : Det (binOpA env op t X Y a b) := by
  cases a with
  | int k x =>
    cases b with
    | int k' y => cases op <;> first | exact det_chk (det_pure _) | exact det_ob0 fun y => det_binInt
    | _ => cases op <;> first | exact det_ob0 fun y => det_pure _ | exact det_false
  | str s =>
    cases b with
    | str s' => cases op <;> first | exact det_chk (det_pure _) | exact det_pure _ | exact det_false
    | _ => cases op <;> first | exact det_ob0 fun y => det_pure _ | exact det_false
  | _ => cases op <;> first | exact det_ob0 fun y => det_pure _ | exact det_false

theorem det_unOpA {op : UnOp} {a : AVal} : Det (unOpA op a) := by
  refine det_of fun K h => ?_
  unfold unOpA at h
  split at h
  · exact ⟨_, det_pure _, h, fun K' h' => h'⟩
  · exact ⟨_, det_pure _, h, fun K' h' => h'⟩
  · exact ⟨_, det_pure _, h, fun K' h' => h'⟩
  · exact h.elim

theorem det_sliceA {t : Nat} {x : AVal} {lo hi : Option AVal} : Det (sliceA env H t x lo hi) := by
  unfold sliceA
  generalize env.td t = td
  cases td with
  | none => exact det_false
  | some td =>
    cases td with
    | str => cases x <;> first | exact det_bdO fun b => det_bdO fun a => det_pure _ | exact det_false
    | slice e =>
      cases x with
      | nilsl => exact det_bdO fun b => det_bdO fun a => det_pure _
      | sw key =>
        simp only
        generalize H key = b
        cases b with
        | none => exact det_false
        | some b =>
          obtain ⟨root, c⟩ := b
          cases root with
          | row e' => exact det_chk (det_ob fun q => det_bdO fun b => det_bdO fun a => det_pure _)
          | _ => exact det_false
      | sl key p off n => exact det_ob0 fun _ => det_chk (det_bdO fun b => det_bdO fun a => det_pure _)
      | vw k l => exact det_chk (det_bdO fun b => det_bdO fun a => det_pure _)
      | vr e' enc d l => exact det_chk (det_bdO fun b => det_bdO fun a => det_pure _)
      | _ => exact det_false
    | arr n e => cases x <;> first | exact det_ob fun _ => det_ob0 fun _ => det_chk (det_bdO fun b => det_bdO fun a => det_pure _) | exact det_false
    | ptr u =>
      cases x with
      | ptr key p =>
        refine det_ob fun _ => det_ob0 fun _ => det_chk ?_
        generalize env.td u = td
        cases td with
        | none => exact det_false
        | some td => cases td <;> first | exact det_bdO fun b => det_bdO fun a => det_pure _ | exact det_false
      | _ => exact det_false
    | _ => exact det_false

theorem det_loadA {t : Nat} {a : AVal} : Det (loadA env H t a) := by
  unfold loadA
  cases a with
  | ptr key p => exact det_ob fun b => det_ob0 fun u => det_chk (det_ob fun v => det_pure v)
  | vp v => exact det_chk (det_pure _)
  | kp key p off n =>
    simp only
    generalize env.td t = td
    cases td with
    | none => exact det_false
    | some td =>
      cases td with
      | arr n' e =>
        refine det_chk (det_ob fun q => ?_)
        cases q <;> first | exact det_chk (det_pure _) | exact det_false
      | _ => exact det_false
  | _ => exact det_false

theorem det_storeA {t : Nat} {a v : AVal} : Det (storeA env H t a v) := by
  unfold storeA
  cases a with
  | ptr key p => exact det_ob fun b => det_ob0 fun u => det_chk (det_chk (det_ob fun v => det_pure _))
  | _ => exact det_false

theorem det_splitN {α : Type 1} {F : Nat → (α → Prop) → Prop} (h : ∀ j, Det (F j)) : ∀ (n s m : Nat), Det fun K => splitN n s m fun j => F j K
  | 0, s, m => det_false
  | n + 1, s, m => by
    simp only [splitN]
    cases Nat.beq m s with
    | true => exact h s
    | false => exact det_splitN h n _ m
theorem det_pickI {α : Type 1} {e n j : Nat} {F : Nat → (α → Prop) → Prop} (h : ∀ j, Det (F j)) : Det fun K => pickI env e n j fun j => F j K := by
  unfold pickI
  split
  · exact h j
  · exact det_splitN h _ _ _
theorem det_indexAddrA {t : Nat} {x i : AVal} : Det (indexAddrA env H t x i) := by
  unfold indexAddrA
  generalize env.td t = td
  cases td with
  | none => exact det_false
  | some td =>
    cases td with
    | arr n e =>
      cases x with
      | ptr key p => exact det_ob fun _ => det_ob0 fun _ => det_chk (det_ix fun j => det_pickI fun j => det_pure _)
      | vp v => cases v <;> first | exact det_chk (det_ix fun j => det_pure _) | exact det_false
      | _ => exact det_false
    | slice e =>
      cases x with
      | sw key =>
        simp only
        generalize H key = b
        cases b with
        | none => exact det_false
        | some b =>
          obtain ⟨root, c⟩ := b
          cases root with
          | row e' => exact det_chk (det_ob fun q => det_ix fun j => det_pure _)
          | _ => exact det_false
      | sl key p off n => exact det_ob0 fun _ => det_chk (det_ix fun j => det_pure _)
      | vw k l => exact det_chk (det_ix fun j => det_pure _)
      | vr e' enc d l => exact det_chk (det_ix fun j => det_pure _)
      | _ => exact det_false
    | _ => exact det_false

theorem det_convertA {src dst : Nat} {x : AVal} : Det (convertA env base H src dst x) := by
  unfold convertA
  generalize env.td src = s
  generalize env.td dst = d
  cases s with
  | none => cases d <;> exact det_false
  | some s =>
    cases d with
    | none => cases s <;> exact det_false
    | some d =>
      cases d with
      | int k' => cases s <;> cases x <;> first | exact det_pure _ | exact det_false
      | str =>
        cases x with
        | str s' => cases s <;> exact det_pure _
        | _ => cases s <;> first | exact det_chk (det_ob fun q => det_ob0 fun l => det_pure _) | exact det_false
      | slice e => cases s <;> first | (cases x <;> first | exact det_chk (det_chk (det_pure _)) | exact det_false) | exact det_false
      | _ => cases s <;> exact det_false

theorem det_s2apA {t : Nat} {x : AVal} : Det (s2apA env H t x) := by
  unfold s2apA
  generalize env.td t = td
  cases td with
  | none => exact det_false
  | some td =>
    cases td with
    | arr n e =>
      refine det_chk ?_
      cases x with
      | vw k l => exact det_chk (det_chk (det_pure _))
      | sw key =>
        simp only
        generalize H key = b
        cases b with
        | none => exact det_false
        | some b =>
          obtain ⟨root, c⟩ := b
          cases root with
          | row e' => exact det_chk (det_ob fun q => det_chk (det_pure _))
          | _ => exact det_false
      | sl key p off m => exact det_ob0 fun _ => det_chk (det_chk (det_pure _))
      | _ => exact det_false
    | _ => exact det_false

theorem det_keyOf {α : Type 1} {kt : Nat} {kc : Codec} {k : AVal} {F : (kc.α → kc.α → Bool) → kc.α → (α → Prop) → Prop} (h : ∀ f a, Det (F f a)) : Det fun K => keyOf env kt kc k fun f a => F f a K := by
  unfold keyOf
  generalize kc.eq = f
  generalize kc.dec k = x
  generalize env.codec kt = c
  cases f <;> cases x <;> cases c <;> first | exact h _ _ | exact det_false

theorem det_evalLookup {t : Nat} {m k : AVal} {ok : Bool} : Det (evalLookup env H t m k ok) := by
  unfold evalLookup
  generalize env.td t = td
  cases td with
  | none => exact det_false
  | some td =>
    cases td with
    | map kt vt =>
      cases m with
      | nilmap => exact det_ob fun kc => det_keyOf fun f a => det_ob fun z => det_pure _
      | mp key =>
        refine det_ob fun b => ?_
        obtain ⟨root, c⟩ := b
        cases root with
        | map kt' vt' =>
          cases c with
          | map kc vc l => exact det_chk (det_chk (det_keyOf fun f a => det_pure _))
          | mapv kc l =>
            refine det_chk (det_chk (det_keyOf fun f a => det_ob fun z => ?_))
            cases findM f a l with
            | none => exact det_pure _
            | some v => exact det_pure _
          | _ => exact det_false
        | _ => exact det_false
      | _ => exact det_false
    | _ => exact det_false

theorem det_evalMapUpdate {t : Nat} {m k v : AVal} : Det (evalMapUpdate env H t m k v) := by
  unfold evalMapUpdate
  generalize env.td t = td
  cases td with
  | none => exact det_false
  | some td =>
    cases td with
    | map kt vt =>
      refine det_chk (det_chk ?_)
      cases m with
      | mp key =>
        refine det_ob fun b => ?_
        obtain ⟨root, c⟩ := b
        cases root with
        | map kt' vt' =>
          cases c with
          | map kc vc l => exact det_chk (det_chk (det_keyOf fun f a => det_ob0 fun x => det_pure _))
          | mapv kc l => exact det_chk (det_chk (det_keyOf fun f a => det_pure _))
          | _ => exact det_false
        | _ => exact det_false
      | _ => exact det_false
    | _ => exact det_false

theorem det_evalMakeMap {t : Nat} : Det (evalMakeMap env base t) := by
  unfold evalMakeMap
  generalize env.td t = td
  cases td with
  | none => exact det_false
  | some td =>
    cases td with
    | map kt vt =>
      refine det_ob fun kc => ?_
      generalize env.codec vt = c
      cases kc.eq with
      | none => exact det_false
      | some f => cases c <;> exact det_pure _
    | _ => exact det_false

theorem det_evalAppend {st : Nat} {s x : AVal} : Det (evalAppend env base H st s x) := by
  unfold evalAppend
  generalize env.td st = td
  cases td with
  | none => exact det_false
  | some td =>
    cases td with
    | slice e => exact det_ob fun c => det_ob fun q => det_ob fun c' => det_ob fun _ => det_chk (det_pure _)
    | _ => exact det_false

theorem det_evalBuiltin {b : Builtin} {ts : List Nat} {vs : List AVal} : Det (evalBuiltin env base H b ts vs) := by
  refine det_of fun K h => ?_
  unfold evalBuiltin at h
  split at h
  · exact ⟨_, det_ob0 fun n => det_pure _, h, fun K' h' => h'⟩
  · exact ⟨_, det_ob0 fun y => det_br (det_pure _) (det_pure _), h, fun K' h' => h'⟩
  · exact ⟨_, det_chk det_evalAppend, h, fun K' h' => h'⟩
  · exact h.elim

theorem det_call (hC : ∀ f c, C f = some c → CtrOk P env f c) {f : Nat} {vs : List AVal} : Det (evalCall C base H f vs) := by
  unfold evalCall callBase
  intro K h
  obtain ⟨c, hc, h⟩ := ob_inv h
  obtain ⟨h1, h⟩ := chk_inv h
  obtain ⟨h2, h⟩ := chk_inv h
  obtain ⟨h3, h⟩ := chk_inv h
  obtain ⟨bs, h4, h⟩ := ob_inv h
  generalize hks : reach H 512 (keysL vs) [] = ks at *
  obtain ⟨⟨v, l⟩, h5, h6⟩ := (hC f c hc).det _ _ (fun o => chk (nodupN (fstH o.h)) (chk (allLt (ks.length + 256) (fstH o.h)) (chk (allLt (ks.length + 256) (keysB o.h)) (chk (allLt (ks.length + 256) o.v.keys)
    (K ⟨some (o.v.rename (backOf ks ks.length base)), goneOf o.h 0 ks ++ putsOf (backOf ks ks.length base) o.h⟩))))) h
  obtain ⟨g1, h5⟩ := chk_inv h5
  obtain ⟨g2, h5⟩ := chk_inv h5
  obtain ⟨g3, h5⟩ := chk_inv h5
  obtain ⟨g4, h5⟩ := chk_inv h5
  refine ⟨_, h5, fun K' h' => ?_⟩
  have := h6 (fun o => chk (nodupN (fstH o.h)) (chk (allLt (ks.length + 256) (fstH o.h)) (chk (allLt (ks.length + 256) (keysB o.h)) (chk (allLt (ks.length + 256) o.v.keys)
    (K' ⟨some (o.v.rename (backOf ks ks.length base)), goneOf o.h 0 ks ++ putsOf (backOf ks ks.length base) o.h⟩))))) (by simp only [g1, g2, g3, g4, chk]; exact h')
  simp only [hc, ob, hks, h1, h2, h3, h4, chk]
  exact this

theorem det_evalOp (hC : ∀ f c, C f = some c → CtrOk P env f c) {o : Oper} : Det (evalOp env C base tmps H o) := by
  unfold evalOp
  cases o.op with
  | move x => exact det_ob fun v => det_pure _
  | assign x => exact det_ob fun v => det_pure _
  | pick c a b =>
    refine det_ob fun c => ?_
    cases c <;> first | exact det_br (det_ob fun v => det_pure _) (det_ob fun v => det_pure _) | exact det_false
  | alloc t => exact det_ob fun c => det_pure _
  | box t x => exact det_ob fun v => det_chk (det_pure _)
  | build t ps =>
    refine det_ob fun vs => det_ob fun z => ?_
    generalize env.td t = td
    cases td with
    | none => exact det_false
    | some td => cases td <;> first | exact det_ob fun v => det_pure _ | exact det_false
  | buildSlice t n ps =>
    simp only
    generalize env.td t = td
    cases td with
    | none => exact det_false
    | some td => cases td <;> first | exact det_ob fun vs => det_ob fun c => det_ob fun c => det_chk (det_pure _) | exact det_false
  | load t a => exact det_ob fun a => det_k1 det_loadA
  | store t a x => exact det_ob fun a => det_ob fun v => det_storeA
  | nilCheck x =>
    refine det_ob fun v => ?_
    cases v with
    | fn f a b => cases f <;> first | exact det_pure _ | exact det_false
    | ptr | kp | vp | gp | iface => exact det_pure _
    | _ => exact det_false
  | binOp op t x y _ =>
    refine det_ob fun a => det_ob fun b => ?_
    generalize nilCmp env H op t a b = r
    cases r with
    | none => exact det_k1 det_binOpA
    | some r => exact det_pure _
  | unOp op _ x => exact det_ob fun a => det_k1 det_unOpA
  | convert src dst x => exact det_ob fun a => det_convertA
  | sliceToArrayPointer t x => exact det_ob fun a => det_k1 det_s2apA
  | makeInterface t x =>
    refine det_ob fun a => ?_
    generalize env.td t = td
    cases td with
    | none => exact det_false
    | some td => cases td <;> first | exact det_chk (det_pure _) | exact det_false
  | makeFunc f first captured => exact det_ob fun a => det_ob fun b => det_pure _
  | makeSlice t n c =>
    simp only
    generalize env.td t = td
    cases td with
    | none => exact det_false
    | some td =>
      cases td with
      | slice e =>
        refine det_of fun K h => ?_
        refine ⟨_, det_ob (F := fun n K => ob (opVal tmps c) fun c => match n, c with
          | AVal.int .i64 n, AVal.int .i64 c => chk (decide (0 ≤ n)) (chk (decide (n ≤ c)) (chk (decide (c * (env.bytes e : Int) ≤ 70368744177664)) (chk (decide (c ≤ 70368744177664)) (ob (zeroRow env e n.toNat) fun r =>
            K ⟨some (.sw base), [(base, some ⟨.row e, r⟩)]⟩))))
          | _, _ => False) fun n => det_ob fun c => ?_, h, fun K' h' => h'⟩
        refine det_of fun K h => ?_
        split at h
        · exact ⟨_, det_chk (det_chk (det_chk (det_chk (det_ob fun r => det_pure _)))), h, fun K' h' => h'⟩
        · exact h.elim
      | _ => exact det_false
  | slice t x lo hi mx =>
    cases mx with
    | none => exact det_ob fun x => det_ob fun lo => det_ob fun hi => det_k1 det_sliceA
    | some _ => exact det_false
  | fieldAddr s x f =>
    refine det_ob fun x => ?_
    generalize env.td s = td
    cases td with
    | none => exact det_false
    | some td =>
      cases td with
      | struct fs =>
        refine det_ob0 fun u => ?_
        cases Nat.beq (env.sz u) 0 with
        | true => exact det_false
        | false =>
          simp only
          generalize gpv env x = x
          cases x with
          | ptr key p => exact det_ob fun b => det_ob0 fun t => det_chk (det_pure _)
          | vp v => exact det_chk (det_ob fun w => det_pure _)
          | _ => exact det_false
      | _ => exact det_false
  | field s x f =>
    refine det_ob fun x => det_chk ?_
    generalize env.td s = td
    cases td with
    | none => exact det_false
    | some td => cases td <;> first | exact det_ob fun v => det_pure _ | exact det_false
  | indexAddr t x i => exact det_ob fun x => det_ob fun i => det_k1 det_indexAddrA
  | index t x i =>
    refine det_ob fun x => det_ob fun i => ?_
    generalize env.td t = td
    cases td with
    | none => exact det_false
    | some td =>
      cases td with
      | arr n e => cases x <;> first | exact det_chk (det_ix fun j => det_pure _) | exact det_false
      | str => cases x <;> first | exact det_ix fun j => det_pure _ | exact det_false
      | _ => exact det_false
  | makeMap t r =>
    cases r with
    | none => exact det_evalMakeMap
    | some _ => exact det_false
  | lookup t x k ok => exact det_ob fun m => det_ob fun k => det_k1 det_evalLookup
  | mapUpdate t x k v => exact det_ob fun m => det_ob fun k => det_ob fun v => det_evalMapUpdate
  | typeAssert x xt t ok =>
    simp only
    generalize env.td t = td
    cases ok with
    | false => exact det_false
    | true =>
      cases td with
      | none => exact det_false
      | some td =>
        have other : Det fun (K : Eff → Prop) => ob (opVal tmps x) fun x => ob (zeroV env 8 t) fun z => match x with
          | .nilIface => K1 K (.tup [z, .bool false])
          | .iface u v => match Nat.beq u t with
            | true => K1 K (.tup [v, .bool true])
            | false => K1 K (.tup [z, .bool false])
          | _ => False := det_ob fun x => det_ob fun z => by
            cases x with
            | nilIface => exact det_pure _
            | iface u v =>
              simp only
              cases Nat.beq u t with
              | true => exact det_pure _
              | false => exact det_pure _
            | _ => exact det_false
        cases td with
        | iface =>
          refine det_ob fun x => ?_
          cases x with
          | nilIface => exact det_pure _
          | iface u v => exact det_ob0 fun r => det_br (det_pure _) (det_pure _)
          | _ => exact det_false
        | _ => exact other
  | extract x i => exact det_ob fun x => det_ob fun v => det_pure _
  | call c =>
    refine det_ob fun vs => ?_
    cases c.callee with
    | builtin b => exact det_evalBuiltin
    | value f =>
      refine det_ob fun f => ?_
      cases f with
      | fn f a b => cases f <;> first | exact det_chk (det_call hC) | exact det_false
      | _ => exact det_false
    | invoke r name =>
      refine det_ob fun r => ?_
      cases r with
      | iface t v => exact det_ob0 fun f => det_call hC
      | _ => exact det_false
  | _ => exact det_false
end
end Go.Abs

namespace Go.Abs

theorem getL_putT {tmps : List (Option AVal)} {d : Option Nat} {x : Option AVal} {t : Nat} {v : AVal} (h : getL (putT tmps d x) t = some v) : (d = some t ∧ x = some v) ∨ (d ≠ some t ∧ getL tmps t = some v) := by
  cases d with
  | none => exact .inr ⟨by simp, h⟩
  | some d =>
    simp only [putT] at h
    have key : ∀ (l : List (Option AVal)) (d t : Nat), getL (setL l d x) t = some v → (d = t ∧ x = some v) ∨ (d ≠ t ∧ getL l t = some v) := by
      intro l
      induction l with
      | nil => intro d t h; simp [setL, getL] at h
      | cons y ys ih =>
        intro d t h
        cases d with
        | zero =>
          cases t with
          | zero => simp [setL, getL] at h; exact .inl ⟨rfl, h⟩
          | succ t => simp [setL, getL] at h; exact .inr ⟨by omega, by simpa [getL] using h⟩
        | succ d =>
          cases t with
          | zero => simp [setL, getL] at h; exact .inr ⟨by omega, by simpa [getL] using h⟩
          | succ t =>
            simp [setL, getL] at h
            rcases ih d t h with ⟨e, h⟩ | ⟨e, h⟩
            · exact .inl ⟨by omega, h⟩
            · exact .inr ⟨by omega, by simpa [getL] using h⟩
    rcases key _ _ _ h with ⟨e, h⟩ | ⟨e, h⟩
    · exact .inl ⟨by rw [e], h⟩
    · exact .inr ⟨by simpa using e, h⟩

theorem length_putT (tmps : List (Option AVal)) (d : Option Nat) (x : Option AVal) : (putT tmps d x).length = tmps.length := by
  cases d with
  | none => rfl
  | some d =>
    simp only [putT]
    induction tmps generalizing d with
    | nil => rfl
    | cons y ys ih => cases d <;> simp [setL, ih]

theorem updL_some : ∀ {us : List (Nat × Option Blk)} {H : Heap} {k : Nat} {b : Blk}, updL H us k = some b → (k, some b) ∈ us ∨ H k = some b
  | [], H, k, b, h => .inr h
  | (j, o) :: us, H, k, b, h => by
    simp only [updL] at h
    rcases updL_some h with h | h
    · exact .inl (by simp [h])
    · rcases upd1_inv h with ⟨rfl, e⟩ | ⟨_, e⟩
      · exact .inl (by simp [e])
      · exact .inr e

theorem ObjKeeps.comp {R R' : Nat → Prop} (hr : ∀ i, R' i → R i) {o o1 o2 : Obj} (h : ObjKeeps R o o1) (h' : ObjKeeps R' o1 o2) : ObjKeeps R o o2 := by
  cases o with
  | cells c e fr =>
    cases o1 with
    | cells c1 e1 fr1 =>
      cases o2 with
      | cells c2 e2 fr2 =>
        simp only [ObjKeeps] at *
        exact ⟨h'.1.trans h.1, h'.2.1.trans h.2.1, h'.2.2.1.trans h.2.2.1, fun j hj => (h'.2.2.2 j fun h => hj (hr j h)).trans (h.2.2.2 j hj)⟩
      | _ => simp [ObjKeeps] at h'
    | _ => simp [ObjKeeps] at h
  | map e c =>
    cases o1 with
    | map e1 c1 =>
      cases o2 with
      | map e2 c2 =>
        simp only [ObjKeeps] at *
        exact fun hn => ⟨(h' fun h => hn (hr 0 h)).1.trans (h hn).1, (h' fun h => hn (hr 0 h)).2.trans (h hn).2⟩
      | _ => simp [ObjKeeps] at h'
    | _ => simp [ObjKeeps] at h
  | _ =>
    simp only [ObjKeeps] at h
    subst h
    simp only [ObjKeeps] at h'
    subst h'
    simp only [ObjKeeps]

theorem Keeps.then {R R' : Nat → Nat → Prop} {a b c : World} (h : Keeps R a b) (k : Keeps R' b c) (hr : ∀ x i, x < a.heap.size → R' x i → R x i) : Keeps R a c := by
  refine ⟨k.os.trans h.os, k.tape.trans h.tape, k.output.trans h.output, Nat.le_trans h.size k.size, fun i o ho => ?_⟩
  have hi : i < a.heap.size := (Array.getElem?_eq_some_iff.1 ho).1
  obtain ⟨o1, h1, h2⟩ := h.obj i o ho
  obtain ⟨o2, h3, h4⟩ := k.obj i o1 h1
  exact ⟨o2, h3, h2.comp (hr i · hi) h4⟩

section
variable {P : Program} {env : Env} {C : Tab} {ρ ρ0 : PMap} {Z : Zone} {u : Nat → Bool} {base nb : Nat} {tmps : List (Option AVal)} {H H0 : Heap} {a : Act} {w w0 : World} {S : St}

structure Sync (env : Env) (Z : Zone) (ρ0 : PMap) (H0 : Heap) (w0 : World) (nb : Nat) (S : St) (ρ : PMap) (a : Act) (w : World) : Prop where
  pre : Pre env ρ Z S.used S.tmps S.heap a w
  keep : Keeps (inReg ρ0 H0) w0 w
  reg : ∀ k b, S.heap k = some b → ∀ i, (ρ k).lo ≤ i → i < (ρ k).hi → w0.heap.size ≤ (ρ k).block ∨ inReg ρ0 H0 (ρ k).block i
  old : ∀ k, k < nb → ρ k = ρ0 k
  nb : nb ≤ 256
  defers : a.defers = []

theorem known_use {u : Nat → Bool} {b k : Nat} (h : known u k) : known (use u b) k := by
  rcases h with h | h
  · exact .inl h
  · refine .inr ?_
    unfold use
    cases Nat.beq (256 * (k / 256)) b
    · exact h
    · rfl

theorem known_new {u : Nat → Bool} {rid i k : Nat} (h : inBase (keyAt rid i) k) : known (use u (keyAt rid i)) k := by
  obtain ⟨h1, h2⟩ := h
  refine .inr ?_
  have : 256 * (k / 256) = keyAt rid i := by unfold keyAt at *; omega
  rw [this]
  simp [use]

theorem fresh_base {u : Nat → Bool} {rid i : Nat} (h : u (keyAt rid i) = false) : ∀ k, inBase (keyAt rid i) k → ¬ known u k := by
  rintro k ⟨h1, h2⟩ hk
  have h0 : 256 ≤ keyAt rid i := by unfold keyAt; omega
  rcases hk with hk | hk
  · omega
  · have : 256 * (k / 256) = keyAt rid i := by unfold keyAt at *; omega
    rw [this, h] at hk; cases hk

theorem put_getD {a : Act} {d : Option Tmp} {x : Value} {t : Nat} (hn : d ≠ some t) : (a.put d x).tmps.getD t undef = a.tmps.getD t undef := by
  cases d with
  | none => rfl
  | some d =>
    have : d ≠ t := fun e => hn (by rw [e])
    simp [Act.put, Array.getD_eq_getD_getElem?, Array.getElem?_setIfInBounds_ne this]

theorem put_getD_same {a : Act} {x : Value} {t : Nat} (ht : t < a.tmps.size) : (a.put (some t) x).tmps.getD t undef = x := by
  simp [Act.put, Array.getD_eq_getD_getElem?, ht]

theorem put_size {a : Act} {d : Option Tmp} {x : Value} : (a.put d x).tmps.size = a.tmps.size := by cases d <;> simp [Act.put]
theorem put_defers {a : Act} {d : Option Tmp} {x : Value} : (a.put d x).defers = a.defers := by cases d <;> rfl

/-- One step. -/
theorem Sync.after (h : Sync env Z ρ0 H0 w0 nb S ρ a w) {o : Oper} {rid i : Nat} {e : Eff} {x : Value} {w' : World} (he : EffOk env ρ Z S.used (keyAt rid i) S.heap w e x w') :
    ∃ ρ', Sync env Z ρ0 H0 w0 nb (S.after o (keyAt rid i) e) ρ' (a.put o.dst x) w' := by
  obtain ⟨ρ', he⟩ := he
  have old : ∀ k, known S.used k → ρ' k = ρ k := he.old
  have kn : ∀ {k}, known S.used k ∨ inBase (keyAt rid i) k → known (use S.used (keyAt rid i)) k := fun hk => hk.elim known_use known_new
  refine ⟨ρ', ⟨?_, ?_, he.heap, ?_⟩, ?_, ?_, ?_, h.nb, ?_⟩
  · show (a.put o.dst x).tmps.size = (putT S.tmps o.dst e.val).length
    rw [put_size, length_putT]; exact h.pre.size
  · intro t v ht
    rcases getL_putT ht with ⟨e1, e2⟩ | ⟨e1, e2⟩
    · have hlt : t < a.tmps.size := by
        have := getL_lt ht
        rw [show (S.after o (keyAt rid i) e).tmps = putT S.tmps o.dst e.val from rfl, length_putT, ← h.pre.size] at this
        exact this
      rw [e1, put_getD_same hlt]
      obtain ⟨g1, g2⟩ := he.val v e2
      exact ⟨g1, fun k hk => kn (g2 k hk)⟩
    · rw [put_getD e1]
      obtain ⟨g1, g2⟩ := h.pre.tmps t v e2
      exact ⟨g1.lift g2 old, fun k hk => known_use (g2 k hk)⟩
  · intro k b hb
    rcases updL_some hb with hm | hm
    · obtain ⟨g1, g2⟩ := he.keysU k b hm
      exact ⟨kn g1, fun k' hk' => kn (g2 k' hk')⟩
    · obtain ⟨g1, g2⟩ := h.pre.keysH k b hm
      exact ⟨known_use g1, fun k' hk' => known_use (g2 k' hk')⟩
  · refine h.keep.then he.keep fun b i hb hR => ?_
    obtain ⟨k, B, g1, rfl, g3, g4⟩ := hR
    rcases h.reg k B g1 i g3 g4 with h | h
    · omega
    · exact h
  · intro k b hb j h1 h2
    rcases he.reg k b hb j h1 h2 with hr | hr
    · exact .inl (Nat.le_trans h.keep.size hr)
    · obtain ⟨k', B, g1, g2, g3, g4⟩ := hr
      rw [← g2]
      exact h.reg k' B g1 j g3 g4
  · intro k hk
    have := h.nb
    rw [old k (.inl (by omega)), h.old k hk]
  · rw [put_defers]; exact h.defers

theorem Sync.skip (h : Sync env Z ρ0 H0 w0 nb S ρ a w) (o : Oper) : Sync env Z ρ0 H0 w0 nb (S.skip o) ρ (a.put o.dst undef) w := by
  refine ⟨⟨?_, ?_, h.pre.heap, h.pre.keysH⟩, h.keep, h.reg, h.old, h.nb, by rw [put_defers]; exact h.defers⟩
  · show (a.put o.dst undef).tmps.size = (putT S.tmps o.dst (some .tnil)).length
    rw [put_size, length_putT]; exact h.pre.size
  · intro t v ht
    rcases getL_putT ht with ⟨e1, e2⟩ | ⟨e1, e2⟩
    · have hlt : t < a.tmps.size := by
        have := getL_lt ht
        rw [show (S.skip o).tmps = putT S.tmps o.dst (some .tnil) from rfl, length_putT, ← h.pre.size] at this
        exact this
      cases e2
      rw [e1, put_getD_same hlt]
      exact ⟨by simp [RepV, AVal.isAgg, RepC, undef], fun k hk => by simp [AVal.keys] at hk⟩
    · rw [put_getD e1]; exact h.pre.tmps t v e2

/-! ### guards -/
theorem opAt_eq (l : List Oper) (i : Nat) : opAt l i = l[i]? := by
  induction l generalizing i with
  | nil => rfl
  | cons o l ih => cases i <;> simp [opAt, ih]

theorem guarded_inv {ops : Array Oper} (hp : Pre env ρ Z u tmps H a w) {o : Oper} {yes no : Prop} (h : guarded ops.toList tmps o yes no) :
    (Region.wanted o (yielded ops a.tmps) = true ∧ yes) ∨ (Region.wanted o (yielded ops a.tmps) = false ∧ no) := by
  unfold guarded at h
  unfold Region.wanted
  cases hg : o.guard with
  | none => rw [hg] at h; exact .inl ⟨rfl, h⟩
  | some jw =>
    obtain ⟨j, want⟩ := jw
    rw [hg] at h
    simp only [opAt_eq] at h
    cases hj : ops.toList[j]? with
    | none => rw [hj] at h; exact h.elim
    | some g =>
      rw [hj] at h
      simp only at h
      cases hd : g.dst with
      | none => rw [hd] at h; exact h.elim
      | some d =>
        rw [hd] at h
        simp only at h
        cases hv : getL tmps d with
        | none => rw [hv] at h; exact h.elim
        | some v =>
          rw [hv] at h
          cases v <;> try exact h.elim
          case bool b =>
            obtain ⟨g1, _⟩ := hp.tmps d _ hv
            rw [repV_bool] at g1
            have hlt : d < a.tmps.size := by rw [hp.size]; exact getL_lt hv
            have hy : yielded ops a.tmps j = some b := by
              unfold yielded
              have hj' : ops[j]? = some g := by simpa using hj
              simp only [hj', Option.bind_some, hd]
              have : a.tmps[d]? = some (.bool b) := by
                rw [Array.getD_eq_getD_getElem?, Array.getElem?_eq_getElem hlt] at g1
                rw [Array.getElem?_eq_getElem hlt]
                simpa using g1
              rw [this]
            show (yielded ops a.tmps j == some want) = true ∧ yes ∨ (yielded ops a.tmps j == some want) = false ∧ no
            rw [hy]
            cases want <;> simp only at h
            · rcases br_inv h with ⟨rfl, h⟩ | ⟨rfl, h⟩
              · exact .inr ⟨rfl, h⟩
              · exact .inl ⟨rfl, h⟩
            · rcases br_inv h with ⟨rfl, h⟩ | ⟨rfl, h⟩
              · exact .inl ⟨rfl, h⟩
              · exact .inr ⟨rfl, h⟩
          case tnil =>
            obtain ⟨g1, _⟩ := hp.tmps d _ hv
            have g1 : a.tmps.getD d undef = .tuple #[] := by simpa [RepV, AVal.isAgg, RepC] using g1
            have hlt : d < a.tmps.size := by rw [hp.size]; exact getL_lt hv
            have hy : yielded ops a.tmps j = none := by
              unfold yielded
              have hj' : ops[j]? = some g := by simpa using hj
              simp only [hj', Option.bind_some, hd]
              have : a.tmps[d]? = some (.tuple #[]) := by
                rw [Array.getD_eq_getD_getElem?, Array.getElem?_eq_getElem hlt] at g1
                rw [Array.getElem?_eq_getElem hlt]
                simpa using g1
              rw [this]
            show (yielded ops a.tmps j == some want) = true ∧ yes ∨ (yielded ops a.tmps j == some want) = false ∧ no
            rw [hy]
            exact .inr ⟨rfl, h⟩

/-- What an operation comes to is what the region goes on with. -/
theorem wp_of_post {K : Eff → Prop} {o : Oper} {next : Act → World → Prop} {Q : Exit → Act → World → Prop} (h : OpPost P env ρ Z u base H w K (fun _ _ => False) ((execOp a.eval o).run P w))
    (hn : ∀ e x w', K e → EffOk env ρ Z u base H w e x w' → next (a.put o.dst x) w') : o.wp P a w next Q := by
  unfold Oper.wp
  revert h
  generalize (execOp a.eval o).run P w = r
  intro h
  cases r with
  | halt => exact h.elim
  | ok n w' =>
    cases n with
    | value x => obtain ⟨e, hK, he⟩ := h; exact hn e x w' hK he
    | skip => obtain ⟨e, hK, he⟩ := h; exact hn e undef w' hK he
    | enter f args =>
      refine Calls.mono h fun en w'' hh => ?_
      rcases hh with ⟨e, x, rfl, hK, he⟩ | ⟨_, _, _, _, hf, _⟩
      · exact hn e x w'' hK he
      · exact hf.elim
    | _ => exact h.elim

theorem setL_same {α : Type 1} : ∀ {l : List (Option α)} {d : Nat} {v : α}, getL l d = some v → setL l d (some v) = l
  | [], d, v, h => by simp [getL] at h
  | x :: l, 0, v, h => by simp only [getL] at h; simp [setL, h]
  | x :: l, d + 1, v, h => by simp only [getL] at h; simp [setL, setL_same h]

theorem guardedS_inv {ops : List Oper} {S : St} {o : Oper} {yes no : St → Prop} (h : guardedS ops S o yes no) : guarded ops S.tmps o (yes S) (no S) := by
  unfold guardedS at h
  unfold guarded
  cases hg : o.guard with
  | none => rw [hg] at h; exact h
  | some jw =>
    obtain ⟨j, want⟩ := jw
    rw [hg] at h
    simp only at h ⊢
    cases hj : opAt ops j with
    | none => rw [hj] at h; exact h.elim
    | some g =>
      rw [hj] at h
      simp only at h ⊢
      cases hd : g.dst with
      | none => rw [hd] at h; exact h.elim
      | some d =>
        rw [hd] at h
        simp only at h ⊢
        cases hv : getL S.tmps d with
        | none => rw [hv] at h; exact h.elim
        | some v =>
          rw [hv] at h
          cases v <;> try exact h.elim
          case bool b =>
            have hk : S.know d b = S := by unfold St.know; rw [setL_same hv]
            cases want <;> cases b <;> simp only [br, hk] at h ⊢ <;> exact h
          case tnil => exact h

theorem evalOps_sound (hC : ∀ f c, C f = some c → CtrOk P env f c) (he : EnvOk P env) {rid : Nat} {ops : Array Oper} {K : St → Prop} {Q : Exit → Act → World → Prop}
    (hQ : ∀ S ρ a w, K S → Sync env Z ρ0 H0 w0 nb S ρ a w → Q .normal a w) : ∀ (os : List Oper) (i : Nat) (S : St) (ρ : PMap) (a : Act) (w : World), ops.toList.drop i = os → Sync env Z ρ0 H0 w0 nb S ρ a w →
      evalOps env C rid ops.toList os i S K → wpOps P ops Q (List.range' i os.length) a w
  | [], i, S, ρ, a, w, _, hs, h => hQ S ρ a w h hs
  | o :: os, i, S, ρ, a, w, hd, hs, h => by
    have ho : ops[i]? = some o := by
      have : (ops.toList.drop i)[0]? = some o := by rw [hd]; rfl
      simpa using this
    have hd' : ops.toList.drop (i + 1) = os := by rw [← List.drop_drop (i := 1) (j := i), hd]; rfl
    simp only [List.length_cons, List.range'_succ, wpOps, ho]
    simp only [evalOps] at h
    rcases guarded_inv hs.pre (guardedS_inv h) with ⟨hw, h⟩ | ⟨hw, h⟩
    · rw [hw]
      simp only [if_true]
      obtain ⟨hu, h⟩ := chk_inv h
      have hu : S.used (keyAt rid i) = false := by simpa using hu
      refine .inl (wp_of_post (op_any hC he hs.pre (fun _ => fresh_base hu) h) fun e x w' hK hE => ?_)
      obtain ⟨ρ', hs'⟩ := hs.after (o := o) hE
      exact evalOps_sound hC he hQ os (i + 1) _ ρ' _ w' hd' hs' hK
    · rw [hw]
      simp only [Bool.false_eq_true, if_false]
      exact evalOps_sound hC he hQ os (i + 1) _ ρ _ w hd' (hs.skip o) h

theorem region_sound (hC : ∀ f c, C f = some c → CtrOk P env f c) (he : EnvOk P env) {rid : Nat} {ops : Array Oper} {K : St → Prop} {Q : Exit → Act → World → Prop}
    (hQ : ∀ S ρ a w, K S → Sync env Z ρ0 H0 w0 nb S ρ a w → Q .normal a w) (hs : Sync env Z ρ0 H0 w0 nb S ρ a w) (h : evalOps env C rid ops.toList ops.toList 0 S K) : (Code.region rid ops false).wp P Q a w := by
  refine wp_region ?_
  rw [List.range_eq_range', ← Array.length_toList]
  exact evalOps_sound hC he hQ ops.toList 0 S ρ a w rfl hs h
end
end Go.Abs

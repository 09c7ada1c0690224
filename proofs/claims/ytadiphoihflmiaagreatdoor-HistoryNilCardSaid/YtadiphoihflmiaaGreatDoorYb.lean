/- errors.As at a target of the type **history.Broken: Go's own text, walked (after the guide's worked example of errors.As). errors.As as a contract: the target gets the error's own pointer. -/
import Derived.Test.YtadiphoihflmiaaGreatDoorZn
import Derived.WalkKit
import Derived.LaidEql
import Derived.Stop.Asserts
import Derived.RowKitTokens
import Derived.Stop.LaidErr
set_option linter.all false
namespace Go.Abs
open Go Go.Proofs Go.RowKit Go.Extern.Stop Go.Stop Go.Extern

/-! ### CLOSED FACTS ON THE MODEL's ENTRIES FOR internal/reflectlite, at this program's types: 25: *p.E · 27: **p.E · 23: error · 45: reflectlite's rtype · 1: how many package-level variables the dump has -/
theorem az_valueOf27 (t : Addr) (w : World) : (ReflectliteValue.unpack (.iface 107 (.pointer (some t)))).run Tryz.prog w
    = .ok (.agg #[.pointer (some ⟨18, 107, none⟩), .pointer (some ⟨w.heap.size, 0, none⟩), .int .u64 150]) (w.alloc (.cells #[.pointer (some t)] 107)) := by kernel_rfl
theorem az_type27 (a : Addr) (w : World) : (ReflectliteValue.methodAny (ReflectliteValue.valueError "reflectlite.Value.Type" 0) (fun t _ _ _ => ReflectliteType.toType t) #[.agg #[.pointer (some ⟨18, 107, none⟩), .pointer (some a), .int .u64 150]]).run Tryz.prog w
    = .ok (.iface 211 (.agg #[.pointer (some ⟨18, 107, none⟩)])) w := by kernel_rfl
theorem az_methodKind (h : Value) (w : World) : (Go.method 597 211 (.agg #[h]) "Kind").run Tryz.prog w = .ok (282, h) w := by kernel_rfl
theorem az_kind27 (w : World) : ((ReflectliteType.abiMethod fun t => (fun a : Nat => Value.int IntKind.u8 (a : Int)) <$> Rtype.kind t) #[.pointer (some ⟨18, 107, none⟩)]).run Tryz.prog w = .ok (.int .u8 22) w := by kernel_rfl
theorem az_kind25 (w : World) : ((ReflectliteType.abiMethod fun t => (fun a : Nat => Value.int IntKind.u8 (a : Int)) <$> Rtype.kind t) #[.pointer (some ⟨18, 94, none⟩)]).run Tryz.prog w = .ok (.int .u8 22) w := by kernel_rfl

/-! ### THE ENTRIES THAT READ OR WRITE MEMORY: laws with a premise on the cell (after Derived/Lib/ReflectliteSlice.lean's manner: each unfolding a lemma of its own, by rfl) -/
theorem rlm (z : Sem Value) (f : TypeId → Addr → Nat → Nat → Sem Value) (v : Value) :
    ReflectliteValue.method z f #[v] = (do match ← ReflectliteValue.parts v with | none => z | some (t, a, fl) => f t a fl (fl % 32)) := rfl
theorem az_parts27 (a : Addr) (w : World) : (ReflectliteValue.parts (.agg #[.pointer (some ⟨18, 107, none⟩), .pointer (some a), .int .u64 150])).run Tryz.prog w = .ok (some (107, a, 150)) w := by kernel_rfl
/-- (Value).IsNil at the Value of a **p.E that is not nil. -/
theorem az_isNil27 (a p : Addr) (W : World) (ha : W.cell? a = some (.pointer (some p))) :
    (ReflectliteValue.method (ReflectliteValue.valueError "reflectlite.Value.IsNil" 0) ReflectliteValue.isNil #[.agg #[.pointer (some ⟨18, 107, none⟩), .pointer (some a), .int .u64 150]]).run Tryz.prog W = .ok (.bool false) W := by
  rw [rlm]
  simp only [Sem.run_bind, az_parts27, Result.andThen]
  simp [ReflectliteValue.isNil, loadVar, isAgg, underlying, Tryz.underlying107, ha, Result.andThen]

theorem az_methodElem (h : Value) (w : World) : (Go.method 597 211 (.agg #[h]) "Elem").run Tryz.prog w = .ok (293, .agg #[h]) w := by kernel_rfl
theorem az_methodImplements (h : Value) (w : World) : (Go.method 597 211 (.agg #[h]) "Implements").run Tryz.prog w = .ok (294, .agg #[h]) w := by kernel_rfl
theorem az_methodAssignableTo (h : Value) (w : World) : (Go.method 597 211 (.agg #[h]) "AssignableTo").run Tryz.prog w = .ok (291, .agg #[h]) w := by kernel_rfl
theorem az_elem27 (w : World) : (ReflectliteType.method ReflectliteType.elem #[.agg #[.pointer (some ⟨18, 107, none⟩)]]).run Tryz.prog w = .ok (.iface 211 (.agg #[.pointer (some ⟨18, 94, none⟩)])) w := by kernel_rfl
theorem az_implements25 (w : World) : (ReflectliteType.relation "Implements" ReflectliteType.implements_ #[.agg #[.pointer (some ⟨18, 94, none⟩)], .iface 211 (.agg #[.pointer (some ⟨18, 96, none⟩)])]).run Tryz.prog w = .ok (.bool true) w := by kernel_rfl
theorem az_typeOf25 (v : Value) (w : World) : (ReflectliteType.typeOf #[.iface 94 v]).run Tryz.prog w = .ok (.iface 211 (.agg #[.pointer (some ⟨18, 94, none⟩)])) w := by kernel_rfl
theorem az_assignable25 (w : World) : (ReflectliteType.relation "AssignableTo" ReflectliteType.assignableTo #[.agg #[.pointer (some ⟨18, 94, none⟩)], .iface 211 (.agg #[.pointer (some ⟨18, 94, none⟩)])]).run Tryz.prog w = .ok (.bool true) w := by kernel_rfl
theorem az_valueOf25 (e : Addr) (w : World) : (ReflectliteValue.unpack (.iface 94 (.pointer (some e)))).run Tryz.prog w
    = .ok (.agg #[.pointer (some ⟨18, 94, none⟩), .pointer (some ⟨w.heap.size, 0, none⟩), .int .u64 150]) (w.alloc (.cells #[.pointer (some e)] 94)) := by kernel_rfl

theorem az_elemOf27 (w : World) : (Rtype.elem? 107).run Tryz.prog w = .ok (some 94) w := by kernel_rfl
theorem az_mk25 (p : Addr) (w : World) : (ReflectliteValue.mk 94 p ReflectliteValue.flagAddr).run Tryz.prog w = .ok (.agg #[.pointer (some ⟨18, 94, none⟩), .pointer (some p), .int .u64 406]) w := by kernel_rfl
/-- (Value).Elem at the Value of a **p.E that is not nil: the Value of the *p.E variable that it points to, addressable. -/
theorem az_elemV27 (a p : Addr) (W : World) (ha : W.cell? a = some (.pointer (some p))) :
    (ReflectliteValue.method (ReflectliteValue.valueError "reflectlite.Value.Elem" 0) ReflectliteValue.elem #[.agg #[.pointer (some ⟨18, 107, none⟩), .pointer (some a), .int .u64 150]]).run Tryz.prog W
      = .ok (.agg #[.pointer (some ⟨18, 94, none⟩), .pointer (some p), .int .u64 406]) W := by
  rw [rlm]
  simp only [Sem.run_bind, az_parts27, Result.andThen]
  simp [ReflectliteValue.elem, loadVar, isAgg, underlying, Tryz.underlying107, ha, Result.andThen, az_elemOf27, az_mk25]
theorem rls (v x : Value) : ReflectliteValue.set #[v, x] = (do
    let (some (dst, a, fl), some (src, b, _)) := (← ReflectliteValue.parts v, ← ReflectliteValue.parts x)
      | unsupported (.noEntry "extern/(internal/reflectlite.Value).Set.zeroValue")
    if fl / ReflectliteValue.flagAddr % 2 == 0 then unsupported (.noEntry "extern/(internal/reflectlite.Value).Set.unaddressable")
    let val ← loadVar src b
    if ← Rtype.directlyAssignable dst src then storeVar dst a val
    else if ← Rtype.implements dst src then
      if (← Rtype.kind src) == 20 then
        match val with
        | .nilIface => unsupported (.noEntry "extern/reflectlite: a nil value of one interface type handed on as a value of another")
        | _ => storeVar dst a val
      else storeVar dst a (.iface src val)
    else panicString ("reflectlite.Set: value of type " ++ (← Rtype.spelt src) ++ " is not assignable to type " ++ (← Rtype.spelt dst))
    pure (.tuple #[])) := rfl
theorem az_parts25a (a : Addr) (w : World) : (ReflectliteValue.parts (.agg #[.pointer (some ⟨18, 94, none⟩), .pointer (some a), .int .u64 406])).run Tryz.prog w = .ok (some (94, a, 406)) w := by kernel_rfl
theorem az_parts25 (a : Addr) (w : World) : (ReflectliteValue.parts (.agg #[.pointer (some ⟨18, 94, none⟩), .pointer (some a), .int .u64 150])).run Tryz.prog w = .ok (some (94, a, 150)) w := by kernel_rfl
theorem az_direct25 (w : World) : (Rtype.directlyAssignable 94 94).run Tryz.prog w = .ok true w := by kernel_rfl
theorem az_size25 (w : World) : (sizeOf 94).run Tryz.prog w = .ok 1 w := by kernel_rfl
/-- (Value).Set: the *p.E variable at 'ta' gets what the Value's own variable 'b' holds. -/
theorem az_set25 (ta b e : Addr) (old : Value) (W : World) (hb : W.cell? b = some (.pointer (some e))) (ht : W.cell? ta = some old) (hf : W.frozen? ta = false) :
    (ReflectliteValue.set #[.agg #[.pointer (some ⟨18, 94, none⟩), .pointer (some ta), .int .u64 406], .agg #[.pointer (some ⟨18, 94, none⟩), .pointer (some b), .int .u64 150]]).run Tryz.prog W
      = .ok (.tuple #[]) (W.setCell ta (.pointer (some e))) := by
  rw [rls]
  simp only [Sem.run_bind, az_parts25a, az_parts25, Result.andThen]
  simp [ReflectliteValue.flagAddr, loadVar, isAgg, underlying, Tryz.underlying94, hb, Result.andThen, az_direct25, storeVar, Value.cells, storeCells, Addr.add]
  rw [run_store Tryz.prog W ta _ _ (by rfl)]
  simp [ht, hf]

set_option maxHeartbeats 4000000 in
theorem as_hit (e t : Addr) (old : Value) (w : World) (hg : w.cell? ⟨14, 0, none⟩ = some (.iface 211 (.agg #[.pointer (some ⟨18, 96, none⟩)]))) (ht0 : w.cell? t = some old) (hf0 : w.frozen? t = false) :
    Calls Tryz.prog 26 #[.iface 94 (.pointer (some e)), .iface 107 (.pointer (some t))] w fun ev w' => ev = .returned (.bool true) ∧ w' = ((((w.alloc (.cells #[.pointer (some t)] 107)).alloc (.cells #[.pointer (some ⟨18, 107, none⟩), .pointer (some ⟨w.heap.size, 0, none⟩), .int .u64 150] 134)).alloc (.cells #[.pointer (some ⟨18, 107, none⟩), .pointer (some ⟨w.heap.size, 0, none⟩), .int .u64 150] 134)).alloc (.cells #[.pointer (some e)] 94)).setCell t (.pointer (some e)) := by
  have h6 := @run_callFunc_extern Tryz.prog 62 _ (fun args => ReflectliteValue.unpack (args.getD 0 (.tuple #[]))) Tryz.func62 (by kernel_rfl) (by kernel_rfl) (by kernel_rfl) (by kernel_rfl)
  have h7 := @run_callFunc_extern Tryz.prog 63 _ (ReflectliteValue.methodAny (ReflectliteValue.valueError "reflectlite.Value.Type" 0) (fun t _ _ _ => ReflectliteType.toType t)) Tryz.func63 (by kernel_rfl) (by kernel_rfl) (by kernel_rfl) (by kernel_rfl)
  have h8 := @run_callFunc_extern Tryz.prog 64 _ (ReflectliteValue.method (ReflectliteValue.valueError "reflectlite.Value.IsNil" 0) ReflectliteValue.isNil) Tryz.func64 (by kernel_rfl) (by kernel_rfl) (by kernel_rfl) (by kernel_rfl)
  have h27 := @run_callFunc_extern Tryz.prog 282 _ (ReflectliteType.abiMethod fun t => do pure (.int .u8 (← Rtype.kind t))) Tryz.func282 (by kernel_rfl) (by kernel_rfl) (by kernel_rfl) (by kernel_rfl)
  have h37 := @run_callFunc_extern Tryz.prog 293 _ (ReflectliteType.method ReflectliteType.elem) Tryz.func293 (by kernel_rfl) (by kernel_rfl) (by kernel_rfl) (by kernel_rfl)
  have h38 := @run_callFunc_extern Tryz.prog 294 _ (ReflectliteType.relation "Implements" ReflectliteType.implements_) Tryz.func294 (by kernel_rfl) (by kernel_rfl) (by kernel_rfl) (by kernel_rfl)
  have h10 := @run_callFunc_extern Tryz.prog 60 _ ReflectliteType.typeOf Tryz.func60 (by kernel_rfl) (by kernel_rfl) (by kernel_rfl) (by kernel_rfl)
  have h35 := @run_callFunc_extern Tryz.prog 291 _ (ReflectliteType.relation "AssignableTo" ReflectliteType.assignableTo) Tryz.func291 (by kernel_rfl) (by kernel_rfl) (by kernel_rfl) (by kernel_rfl)
  have h11 := @run_callFunc_extern Tryz.prog 96 _ (ReflectliteValue.method (ReflectliteValue.valueError "reflectlite.Value.Elem" 0) ReflectliteValue.elem) Tryz.func96 (by kernel_rfl) (by kernel_rfl) (by kernel_rfl) (by kernel_rfl)
  have h12 := @run_callFunc_extern Tryz.prog 97 _ ReflectliteValue.set Tryz.func97 (by kernel_rfl) (by kernel_rfl) (by kernel_rfl) (by kernel_rfl)
  have tO := az_typeOf25
  have mA := az_methodAssignableTo
  have a25 := az_assignable25
  have v25 := az_valueOf25
  have f6 := az_valueOf27
  have f7 := az_type27
  have mK := az_methodKind
  have mE := az_methodElem
  have mI := az_methodImplements
  have k27 := az_kind27
  have k25 := az_kind25
  have e27 := az_elem27
  have i25 := az_implements25
  have n8 := az_isNil27 ⟨w.heap.size, 0, none⟩ t ((w.alloc (.cells #[.pointer (some t)] 107)).alloc (.cells #[.pointer (some ⟨18, 107, none⟩), .pointer (some ⟨w.heap.size, 0, none⟩), .int .u64 150] 134)) (by simp)
  have hlt : 14 < w.heap.size := by
    rcases Nat.lt_or_ge 14 w.heap.size with h | h
    · exact h
    · simp [World.cell?, Array.getElem?_eq_none h] at hg
  have hg2 : ((w.alloc (.cells #[.pointer (some t)] 107)).alloc (.cells #[.pointer (some ⟨18, 107, none⟩), .pointer (some ⟨w.heap.size, 0, none⟩), .int .u64 150] 134)).cell? ⟨14, 0, none⟩ = some (.iface 211 (.agg #[.pointer (some ⟨18, 96, none⟩)])) := by
    rw [World.cell?_alloc_lt _ _ ⟨14, 0, none⟩ (by simp; omega), World.cell?_alloc_lt _ _ ⟨14, 0, none⟩ hlt]; exact hg
  have htl : t.block < w.heap.size := by
    rcases Nat.lt_or_ge t.block w.heap.size with h | h
    · exact h
    · simp [World.cell?, Array.getElem?_eq_none h] at ht0
  have el := az_elemV27 ⟨w.heap.size, 0, none⟩ t (((w.alloc (.cells #[.pointer (some t)] 107)).alloc (.cells #[.pointer (some ⟨18, 107, none⟩), .pointer (some ⟨w.heap.size, 0, none⟩), .int .u64 150] 134)).alloc (.cells #[.pointer (some ⟨18, 107, none⟩), .pointer (some ⟨w.heap.size, 0, none⟩), .int .u64 150] 134)) (by rw [World.cell?_alloc_lt _ _ ⟨w.heap.size, 0, none⟩ (by simp; omega)]; simp)
  have st := az_set25 t ⟨w.heap.size + 1 + 1 + 1, 0, none⟩ e old ((((w.alloc (.cells #[.pointer (some t)] 107)).alloc (.cells #[.pointer (some ⟨18, 107, none⟩), .pointer (some ⟨w.heap.size, 0, none⟩), .int .u64 150] 134)).alloc (.cells #[.pointer (some ⟨18, 107, none⟩), .pointer (some ⟨w.heap.size, 0, none⟩), .int .u64 150] 134)).alloc (.cells #[.pointer (some e)] 94))
    (by rw [World.cell?_alloc_at _ _ _ _ (by simp)]; rfl)
    (by rw [World.cell?_alloc_lt _ _ t (by simp; omega), World.cell?_alloc_lt _ _ t (by simp; omega), World.cell?_alloc_lt _ _ t (by simp; omega), World.cell?_alloc_lt _ _ t htl]; exact ht0)
    (by rw [World.frozen?_alloc_old _ _ t (by simp; omega), World.frozen?_alloc_old _ _ t (by simp; omega), World.frozen?_alloc_old _ _ t (by simp; omega), World.frozen?_alloc_old _ _ t (Nat.ne_of_lt htl)]; exact hf0)
  go_enter Tryz.func26, Tryz.ntmps26
  go_wp2
  refine wp_loop_rounds 1 ?_
  rw [rounds_succ]
  go_wp2
  go_ret
  exact ⟨rfl, rfl⟩

end Go.Abs

namespace Go.Abs
open Go Go.Proofs

def isNilP : List Step → Bool
  | [] => true
  | _ :: _ => false
def asRun (us : List AVal) (bs : List Blk) (K : AVal → List (Nat × Blk) → Prop) : Prop := match us with
  | [.iface t (.ptr k p), .iface t2 (.ptr k2 q)] => chk (Nat.beq t 94) (chk (Nat.beq t2 107) (chk (isNilP q) (ob (ofBlks 0 bs k2) fun b => match b with
    | ⟨.var t3, .var _⟩ => chk (Nat.beq t3 94) (K (.bool true) (enumB 0 (bs.set k2 ⟨.var 94, .var (.ptr k p)⟩)))
    | _ => False)))
  | _ => False
def asC : Ctr := ⟨asRun⟩

theorem as_det (us : List AVal) (bs : List Blk) : Det fun (K : Out → Prop) => asC.run us bs fun v h => K ⟨v, h⟩ := by
  show Det fun (K : Out → Prop) => asRun us bs fun v h => K ⟨v, h⟩
  unfold asRun
  split
  · refine det_chk (det_chk (det_chk (det_ob fun b => ?_)))
    split
    · exact det_chk (det_pure (⟨_, _⟩ : Out))
    · exact det_false
  · exact det_false

theorem ofBlks_set (b : Blk) : ∀ (bs : List Blk) (i k : Nat), k < bs.length → ofBlks i (bs.set k b) = upd1 (ofBlks i bs) (i + k) (some b)
  | [], i, k, h => by simp at h
  | c :: bs, i, 0, h => by
    funext j
    simp only [List.set_cons_zero, ofBlks, upd1, Nat.add_zero]
    cases Nat.beq j i <;> rfl
  | c :: bs, i, k + 1, h => by
    funext j
    simp only [List.set_cons_succ, ofBlks]
    rw [ofBlks_set b bs (i + 1) k (by simpa using h)]
    simp only [upd1, show i + 1 + k = i + (k + 1) by omega]
    cases h1 : Nat.beq j i with
    | false => rfl
    | true =>
      have := beq_eq h1; subst this
      rw [beq_false_of_ne (by omega)]

theorem setCell_self {w : World} {b o : Nat} {v x : Value} (h : w.cell? ⟨b, o, none⟩ = some v) : (w.setCell ⟨b, o, none⟩ x).cell? ⟨b, o, none⟩ = some x := by
  simp [World.cell?, World.setCell] at h ⊢
  cases hb : w.heap[b]? with
  | none => simp [hb] at h
  | some ob =>
    cases ob with
    | cells c t fr =>
      simp [hb] at h ⊢
      have : o < c.size := (Array.getElem?_eq_some_iff.1 h).1
      simp [Array.getElem?_modify, hb, this]
    | _ => simp [hb] at h

theorem gv14 : env.gv 14 = some (128, .iface 211 (.pair (.th 96) .unit)) := by kernel_rfl

theorem et_cell {ρ : PMap} {Z : Zone} {w : World} {H : Heap} (h : HeapOk env ρ Z w H) : w.cell? ⟨14, 0, none⟩ = some (.iface 211 (.agg #[.pointer (some ⟨18, 96, none⟩)])) := by
  obtain ⟨_, ecs, h1, h2⟩ := h.gok.cont 14 _ _ gv14
  have h1 := h1 ρ
  obtain ⟨x, rfl, ar, rfl, c1, c2, e, g1, g2⟩ := h1
  simp only [RepC] at g1 g2
  subst g1 g2
  have ea : ar = #[.pointer (some ⟨18, 96, none⟩)] := by apply Array.ext'; rw [e]; rfl
  subst ea
  have h2 := h2 0 _ rfl
  rw [h.gok.glob 14 (by omega)] at h2
  exact h.zone _ _ _ h2

theorem sz94 : env.sz 94 = 1 := by kernel_rfl
theorem td94 : env.td 94 = some (.ptr 98) := by kernel_rfl

theorem fns26 : (fnsOf 26).isSome = true := by kernel_rfl

theorem as_ok : CtrOk Tryz.prog env 26 asC := by
  refine ⟨fun {ρ Z w us bs xs K} hh hx hk hkH h => ?_, as_det⟩
  have hent : (callFunc 26 xs).run Tryz.prog w = .ok (.enter 26 xs) w := by
    cases hf : fnsOf 26 with
    | none => have := fns26; rw [hf] at this; cases this
    | some p => exact (fnsOf_ok 26 p.1 p.2 hf).2.2 xs w
  rw [hent]
  show Calls Tryz.prog 26 xs w _
  replace h : asRun us bs K := h
  unfold asRun at h
  split at h
  · rename_i t k p t2 k2 q
    obtain ⟨e1, ha1⟩ := chk_inv h
    obtain ⟨e2, ha2⟩ := chk_inv ha1
    obtain ⟨e3, ha3⟩ := chk_inv ha2
    obtain ⟨b, hb, hm⟩ := ob_inv ha3
    clear ha3 ha2 ha1 h
    have := beq_eq e1; subst this
    have := beq_eq e2; subst this
    have : q = [] := by cases q <;> first | rfl | cases e3
    subst this
    split at hm
    · rename_i t3 old
      obtain ⟨e4, h⟩ := chk_inv hm
      have := beq_eq e4; subst this
      -- the arguments
      obtain ⟨x1, xs1, g1, g2, x2, xs2, rfl, g3, g4⟩ := hx
      simp only [RepVs] at g4; subst g4
      obtain ⟨y1, rfl, q2⟩ := repV_iface.1 g2
      obtain ⟨y2, rfl, q3⟩ := repV_iface.1 g3
      obtain ⟨v1, rfl⟩ : ∃ a, y1 = .pointer (some a) := by
        simp only [RepV, AVal.isAgg, RepC] at q2; exact ⟨_, (List.cons.inj q2.2).1⟩
      have hy2 : y2 = .pointer (some ⟨(ρ k2).block, (ρ k2).lo, none⟩) := by
        have g3 := (ptr_inv q3).2
        rw [g3, (hh.blk k2 _ hb).root]
        rfl
      subst hy2
      have hxs : xs = #[.iface 94 (.pointer (some v1)), .iface 107 (.pointer (some ⟨(ρ k2).block, (ρ k2).lo, none⟩))] := by
        apply Array.ext'; rw [g1]
      subst hxs
      -- the target
      have hB := hh.blk k2 _ hb
      obtain ⟨cs, c1, c2, c3⟩ := hB.cells rfl
      obtain ⟨ht, hr⟩ := c1
      have hlen : cs.length = 1 := by rw [(show HT env 94 old from ht).len env_ok.size hr, sz94]
      obtain ⟨o, rfl⟩ : ∃ o, cs = [o] := by
        match cs, hlen with
        | [o], _ => exact ⟨o, rfl⟩
      have hcell := c2 0 o rfl
      simp only [List.length_singleton] at c3
      have hfr := (hB.own rfl (ρ k2).lo (Nat.le_refl _) (by omega)).2
      have hk2 : k2 < bs.length := by
        have := (ofBlks_spec.1 hb).2
        have := (List.getElem?_eq_some_iff.1 this).1
        omega
      refine (as_hit v1 ⟨(ρ k2).block, (ρ k2).lo, none⟩ o w (et_cell hh) (by simpa using hcell) hfr).mono fun ev w' ⟨he, hw⟩ => ?_
      have hkeep : Keeps (fun x i => x = (ρ k2).block ∧ (ρ k2).lo ≤ i ∧ i < (ρ k2).hi) w w' := by
        rw [hw]
        exact (((((Keeps.alloc w _).trans (Keeps.alloc _ _)).trans (Keeps.alloc _ _)).trans (Keeps.alloc _ _)).trans (Keeps.setCell _ _ _ _ ⟨rfl, Nat.le_refl _, by omega⟩))
      have hnew : w'.cell? ⟨(ρ k2).block, (ρ k2).lo, none⟩ = some (.pointer (some v1)) := by
        rw [hw]
        have h4 : ((((w.alloc (.cells #[.pointer (some ⟨(ρ k2).block, (ρ k2).lo, none⟩)] 107)).alloc (.cells #[.pointer (some ⟨18, 107, none⟩), .pointer (some ⟨w.heap.size, 0, none⟩), .int .u64 150] 134)).alloc (.cells #[.pointer (some ⟨18, 107, none⟩), .pointer (some ⟨w.heap.size, 0, none⟩), .int .u64 150] 134)).alloc (.cells #[.pointer (some v1)] 94)).cell? ⟨(ρ k2).block, (ρ k2).lo, none⟩ = some o :=
          cell?_alloc_old _ (cell?_alloc_old _ (cell?_alloc_old _ (cell?_alloc_old _ (by simpa using hcell))))
        exact setCell_self h4
      have hrep : RepC env ρ Z (.ptr k p) [.pointer (some v1)] := by simpa [RepV, AVal.isAgg] using q2
      have hB' : BlkOk env ρ Z w' (ρ k2) ⟨.var 94, .var (.ptr k p)⟩ := by
        refine ⟨hB.root, fun _ => ⟨[.pointer (some v1)], ⟨⟨1, by simp [hasTy, td94]⟩, hrep⟩, fun i c hc => ?_, by simpa using c3⟩, fun _ i h1 h2 => ⟨hkeep.cellSome (hB.own rfl i h1 h2).1, ?_⟩, Nat.lt_of_lt_of_le hB.there hkeep.size, fun hm => by cases hm⟩
        · cases i with
          | zero => simp at hc; subst hc; simpa using hnew
          | succ i => simp at hc
        · rw [hkeep.frozen hB.there]; exact (hB.own rfl i h1 h2).2
      refine ⟨.bool true, he, .bool true, _, ρ, h, by rw [repV_bool], ?_, fun _ _ => rfl, hkeep.mono fun b i _ ⟨h1, h2, h3⟩ => ⟨k2, _, hb, h1.symm, h2, h3⟩, fun j B hB i h1 h2 => ?_⟩
      · rw [lookL_enum, ofBlks_set _ _ _ _ hk2, Nat.zero_add]
        exact hh.turn hb hkeep hB'
      · right
        rw [lookL_enum, ofBlks_set _ _ _ _ hk2, Nat.zero_add] at hB
        rcases upd1_inv hB with ⟨rfl, e⟩ | ⟨hj, e⟩
        · exact ⟨j, _, hb, rfl, h1, h2⟩
        · exact ⟨j, _, e, rfl, h1, h2⟩
    · exact hm.elim
  · exact h.elim
end Go.Abs

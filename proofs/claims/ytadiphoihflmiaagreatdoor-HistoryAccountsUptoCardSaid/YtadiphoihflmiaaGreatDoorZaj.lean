/- Operations: conversions. Operations: the built-in functions len and min. Operations: the built-in function append. -/
import Derived.Test.YtadiphoihflmiaaGreatDoorZai
import Derived.Laws.AppendOwn
set_option linter.all false
namespace Go.Abs
section
variable {P : Program} {env : Env} {C : Tab} {ρ : PMap} {Z : Zone} {u : Nat → Bool} {base : Nat} {tmps : List (Option AVal)} {H : Heap} {a : Act} {w : World} {K : Eff → Prop} {KP : AVal → List (Nat × Option Blk) → Prop}

theorem foldl_push : ∀ (l : List UInt8) (acc : List UInt8), (l.map fun b => ((UInt8.toNat b : Nat) : Int)).foldl (fun r n => r.push (UInt8.ofNat n.toNat)) (⟨acc.toArray⟩ : ByteArray) = ⟨(acc ++ l).toArray⟩
  | [], acc => by simp
  | b :: l, acc => by
    simp only [List.map_cons, List.foldl_cons]
    have : (⟨acc.toArray⟩ : ByteArray).push (UInt8.ofNat ((b.toNat : Int)).toNat) = ⟨(acc ++ [b]).toArray⟩ := by
      simp [ByteArray.push]
    rw [this, foldl_push l (acc ++ [b])]
    simp

theorem toInts_u8 {q : Seq} {l : List UInt8} (h : q.toInts .u8 = some l) : q = .ints .u8 l ∨ (q = .vals [] ∧ l = []) := by
  cases q with
  | ints k m => simp only [Seq.toInts] at h; obtain ⟨rfl, rfl⟩ := castL_some h; exact .inl rfl
  | recs enc d m => simp [Seq.toInts] at h
  | views t m => simp [Seq.toInts] at h
  | vals m => cases m <;> simp [Seq.toInts] at h; exact .inr ⟨rfl, h⟩

/-- The string of a slice of bytes. -/
theorem run_b2s (he : EnvOk P env) (hp : Pre env ρ Z u tmps H a w) {e : Nat} {v : AVal} {q : Seq} {x : Value} {l : List UInt8} (hq : seqOf env H e v = some q) (hl : q.toInts .u8 = some l) (hx : RepV env ρ Z v x) :
    (Conv.bytesToString x).run P w = .ok (.string ⟨l.toArray⟩) w := by
  obtain ⟨ao, cap, rfl, hle, hs⟩ := seq_rep he hp hq hx
  have hlen : q.len = l.length := by
    rcases toInts_u8 hl with rfl | ⟨rfl, rfl⟩ <;> rfl
  have fin : ∀ ad, (loadCells ad q.len).run P w = .ok ((l.map fun b => ((UInt8.toNat b : Nat) : Int)).map (Value.int .u8)).toArray w → (Conv.bytesToString (.slice (some ad) q.len cap)).run P w = .ok (.string ⟨l.toArray⟩) w := fun ad h => by
    rw [run_bytesToString w ad q.len cap _ h]
    have := foldl_push l []
    simp only [List.nil_append] at this
    rw [← this]; rfl
  cases ao with
  | none =>
    have h0 : l = [] := by
      by_cases h : q.len = 0
      · exact List.eq_nil_of_length_eq_zero (by omega)
      · obtain ⟨_, _, e1, _⟩ := hs h; cases e1
    subst h0
    rfl
  | some ad =>
    refine fin ad ?_
    by_cases h : q.len = 0
    · have h0 : l = [] := List.eq_nil_of_length_eq_zero (by omega)
      subst h0
      rw [h]; rfl
    · obtain ⟨b, o', e1, cs, f1, f2, f3⟩ := hs h
      cases e1
      rcases toInts_u8 hl with rfl | ⟨rfl, rfl⟩
      · have hcs := f1.ints_inv
        have hcl : cs.length = l.length := by rw [hcs]; simp
        show (loadCells ⟨b, o', none⟩ l.length).run P w = _
        rw [← hcl, run_loadCells_list w ⟨b, o', none⟩ cs (fun j v hj => by rw [add_addr]; exact f2 j v hj), hcs]
        congr 2
        simp [toI]
      · exact absurd rfl h

theorem RepEl.ints {e : Nat} {k : IntKind} (h : env.td e = some (.int k)) : ∀ (l : List (TT k)), RepEl env ρ Z e (l.map (AVal.int k)) (l.map fun x => Value.int k (toI k x))
  | [] => by simp [RepEl]
  | x :: xs => ⟨[.int k (toI k x)], xs.map fun x => Value.int k (toI k x), by simp, ⟨1, by simp [hasTy, h, same_refl]⟩, by simp [RepC], RepEl.ints h xs⟩

theorem freeze_new (w : World) (cs : Array Value) (e n : Nat) : ((w.alloc (.cells cs e)).freeze ⟨w.heap.size, n, none⟩ 1).heap = w.heap.push (.cells cs e (n, n + 1)) ∧
    ((w.alloc (.cells cs e)).freeze ⟨w.heap.size, n, none⟩ 1).os = w.os ∧ ((w.alloc (.cells cs e)).freeze ⟨w.heap.size, n, none⟩ 1).tape = w.tape ∧ ((w.alloc (.cells cs e)).freeze ⟨w.heap.size, n, none⟩ 1).output = w.output := by
  refine ⟨?_, rfl, rfl, rfl⟩
  unfold World.freeze World.alloc
  simp only [Nat.succ_ne_zero, if_false]
  apply Array.ext
  · simp
  · intro i hi1 hi2
    simp only [Array.getElem_modify, Array.getElem_push]
    by_cases h : i < w.heap.size
    · simp [h, Nat.ne_of_gt h]
    · have : i = w.heap.size := by simp at hi1; omega
      subst this
      simp

theorem op_convert (he : EnvOk P env) (hp : Pre env ρ Z u tmps H a w) (hbase : ∀ k, inBase base k → ¬ known u k) {o : Oper} {src dst : Nat} {X : Operand} (ho : o.op = .convert src dst X)
    (h : ob (opVal tmps X) fun a => convertA env base H src dst a K) : OpPost P env ρ Z u base H w K KP ((execOp a.eval o).run P w) := by
  obtain ⟨v, hv, q1⟩ := ob_inv h
  obtain ⟨h1, h2⟩ := hp.opVal hv
  unfold convertA at q1
  cases hs : env.td src with
  | none => rw [hs] at q1; cases hd : env.td dst <;> rw [hd] at q1 <;> exact q1.elim
  | some ts =>
    have us := he.und src ts hs
    cases hd : env.td dst with
    | none => rw [hs, hd] at q1; cases ts <;> exact q1.elim
    | some td =>
      have ud := he.und dst td hd
      rw [hs, hd] at q1
      have undS : ∃ d, (underlying src).run P w = .ok d w := by
        cases ts with
        | struct fs => obtain ⟨_, hu, _⟩ := us; exact ⟨_, run_underlying' hu w⟩
        | func => obtain ⟨_, _, _, hu⟩ := us; exact ⟨_, run_underlying' hu w⟩
        | iface => obtain ⟨_, hu⟩ := us; exact ⟨_, run_underlying' hu w⟩
        | _ => simp only [UndOk] at us; exact ⟨_, run_underlying' us w⟩
      obtain ⟨d, hds⟩ := undS
      have toInt : ∀ k', td = .int k' → (∃ k x, v = .int k x ∧ K ⟨some (.int k' (convT k k' x)), []⟩) → OpPost P env ρ Z u base H w K KP ((execOp a.eval o).run P w) := by
        rintro k' rfl ⟨k, x, rfl, hK⟩
        simp only [UndOk] at ud
        rw [repV_int] at h1
        refine OpPost.val hp (x := .int k' (k'.wrap (toI k x))) ?_ hK (by rw [repV_int, toI_convT]) (by simp [AVal.keys])
        simp only [execOp, ho, h1, Go.convert, Sem.run_bind, hds, Result.andThen_ok, run_underlying' ud]
        cases d <;> rfl
      have toStr : td = .str → (∃ s, v = .str s ∧ K ⟨some (.str s), []⟩) → OpPost P env ρ Z u base H w K KP ((execOp a.eval o).run P w) := by
        rintro rfl ⟨s, rfl, hK⟩
        simp only [UndOk] at ud
        have h1' := h1
        rw [repV_str] at h1'
        refine OpPost.val hp (x := a.eval X) ?_ hK h1 h2
        simp only [execOp, ho, h1', Go.convert, Sem.run_bind, hds, Result.andThen_ok, run_underlying' ud]
        cases d <;> rfl
      have b2s : ∀ e, ts = .slice e → td = .str → (chk (isInt env e .u8) (ob (seqOf env H e v) fun q => ob0 (q.toInts .u8) fun l => K ⟨some (.str l), []⟩)) → OpPost P env ρ Z u base H w K KP ((execOp a.eval o).run P w) := by
        rintro e rfl rfl q2
        simp only [UndOk] at us ud
        obtain ⟨hi, q3⟩ := chk_inv q2
        obtain ⟨q, hq, q4⟩ := ob_inv q3
        obtain ⟨l, hl, hK⟩ := ob0_inv q4
        have hr := run_b2s (P := P) he hp hq hl h1
        obtain ⟨ao, cap, hx, -⟩ := seq_rep he hp hq h1
        have ue := he.und e _ (isInt_td hi)
        simp only [UndOk] at ue
        refine OpPost.val hp (x := .string ⟨l.toArray⟩) ?_ hK (by rw [repV_str]) (by simp [AVal.keys])
        rw [hx] at hr
        simp only [execOp, ho, hx, Go.convert, Sem.run_bind, run_underlying' us, Result.andThen_ok, run_underlying' ud, run_underlying' ue, hr, Sem.run_pure]
      have s2b : ∀ e, ts = .str → td = .slice e → (∃ s, v = .str s ∧ isInt env e .u8 = true ∧ K ⟨some (.sw base), [(base, some ⟨.row e, .ints .u8 s⟩)]⟩) → OpPost P env ρ Z u base H w K KP ((execOp a.eval o).run P w) := by
        rintro e rfl rfl ⟨s, rfl, hi, hK⟩
        simp only [UndOk] at us ud
        rw [repV_str] at h1
        have ue := he.und e _ (isInt_td hi)
        simp only [UndOk] at ue
        have hs1 := sz_int he.size (isInt_td hi)
        have hsz : (⟨s.toArray⟩ : ByteArray).size = s.length := by simp [ByteArray.size]
        obtain ⟨c, hc, hcap⟩ : ∃ c, s.length ≤ c ∧ (choose (.appendCap s.length 0 e)).run P w = .ok c { w with drawn := w.drawn + 1 } :=
          ⟨_, Nat.le_add_right _ _, by rw [run_choose]; rfl⟩
        have hcs : ((s.toArray.map fun (b : UInt8) => Value.int .u8 (b.toNat : Int)) ++ Array.replicate (c - s.length) (Value.int .u8 0)).size = c := by simp; omega
        generalize hcd : (s.toArray.map fun (b : UInt8) => Value.int .u8 (b.toNat : Int)) ++ Array.replicate (c - s.length) (Value.int .u8 0) = cs at hcs
        obtain ⟨f1, f2, f3, f4⟩ := freeze_new { w with drawn := w.drawn + 1 } cs e c
        have hsh : (({ w with drawn := w.drawn + 1 } : World).alloc (.cells cs e)).shape? w.heap.size = some (e, c) := by
          simp [World.shape?, World.alloc, hcs]
        have hrun : (execOp a.eval o).run P w = .ok (.value (.slice (some ⟨w.heap.size, 0, none⟩) s.length c)) ((({ w with drawn := w.drawn + 1 } : World).alloc (.cells cs e)).freeze ⟨w.heap.size, c, none⟩ 1) := by
          have hnew : ∀ w0 : World, (newObj (.cells cs e)).run P w0 = .ok w0.heap.size (w0.alloc (.cells cs e)) := fun w0 => by rw [run_newObj]; rfl
          simp only [execOp, ho, h1, Go.convert, Sem.run_bind, run_underlying' us, Result.andThen_ok, run_underlying' ud, run_underlying' ue, Conv.stringToBytes, hsz, hcap, hcd, newRow, hnew, Sem.run_pure, markStringish, run_shape, hsh, run_freeze]
        rw [hrun]
        refine ⟨_, hK, EffOk.made (t := e) (b := ⟨.row e, .ints .u8 s⟩) (len := s.length) (cs := cs) hp hbase f1 ⟨_, rfl, fun i hi => by simp; omega⟩ f2 f3 f4 (n := s.length) (by omega) ?_ (by simp [Cont.keys]) (sw_new hc (by rw [hs1, hcs]; omega)) (by simp [AVal.keys])⟩
        have : cs.toList.take s.length = s.map fun b => Value.int .u8 (toI .u8 b) := by
          rw [← hcd]
          simp [toI]
        rw [this]
        exact ⟨⟨_, isInt_td hi⟩, by simp [Cont.elems], RepEl.ints (isInt_td hi) s, trivial⟩
      cases td with
      | int k' => cases v <;> first | exact toInt k' rfl ⟨_, _, rfl, by cases ts <;> exact q1⟩ | (cases ts <;> exact q1.elim)
      | str => cases v <;> first | exact toStr rfl ⟨_, rfl, by cases ts <;> exact q1⟩ | (cases ts <;> first | exact q1.elim | exact b2s _ rfl rfl q1)
      | slice e =>
        cases ts <;> try exact q1.elim
        cases v <;> try exact q1.elim
        obtain ⟨hi, q2⟩ := chk_inv q1
        obtain ⟨_, q3⟩ := chk_inv q2
        exact s2b e rfl rfl ⟨_, rfl, hi, q3⟩
      | _ => cases ts <;> exact q1.elim
end
end Go.Abs

namespace Go.Abs
section
variable {P : Program} {env : Env} {C : Tab} {ρ : PMap} {Z : Zone} {u : Nat → Bool} {base : Nat} {tmps : List (Option AVal)} {H : Heap} {a : Act} {w : World} {K : Eff → Prop} {KP : AVal → List (Nat × Option Blk) → Prop}

theorem run_builtin {o : Oper} {c : Call} {b : Builtin} (ho : o.op = .call c) (hc : c.callee = .builtin b) (w : World) :
    (execOp a.eval o).run P w = (builtin b c.argTypes o.type (c.args.map fun | .const _ => true | _ => false) (c.args.map a.eval)).run P w := by
  simp only [execOp, ho, resolve, hc, pure_bind, invoke]
  rfl

theorem args_one {xs : Array Operand} {v : AVal} (hp : Pre env ρ Z u tmps H a w) (h : opVals tmps xs.toList = some [v]) : ∃ x, xs.map a.eval = #[x] ∧ RepV env ρ Z v x ∧ ∀ k, k ∈ v.keys → known u k := by
  obtain ⟨h1, h2⟩ := hp.opVals h
  obtain ⟨x, ys, e, hx, hys⟩ := h1
  simp only [RepVs] at hys; subst hys
  exact ⟨x, Array.ext' (by simpa using e), hx, fun k hk => h2 k (by simp [keysL, hk])⟩

theorem args_two {xs : Array Operand} {v v' : AVal} (hp : Pre env ρ Z u tmps H a w) (h : opVals tmps xs.toList = some [v, v']) :
    ∃ x y, xs.map a.eval = #[x, y] ∧ RepV env ρ Z v x ∧ RepV env ρ Z v' y ∧ (∀ k, k ∈ v.keys → known u k) ∧ ∀ k, k ∈ v'.keys → known u k := by
  obtain ⟨h1, h2⟩ := hp.opVals h
  obtain ⟨x, ys, e, hx, y, zs, e2, hy, hzs⟩ := h1
  simp only [RepVs] at hzs; subst hzs; subst e2
  exact ⟨x, y, Array.ext' (by simpa using e), hx, hy, fun k hk => h2 k (by simp [keysL, hk]), fun k hk => h2 k (by simp [keysL, hk])⟩

theorem op_len (he : EnvOk P env) (hp : Pre env ρ Z u tmps H a w) {o : Oper} {c : Call} (ho : o.op = .call c) (hc : c.callee = .builtin .len) {t : Nat} {ts : List Nat} {v : AVal} (hts : c.argTypes.toList = t :: ts) (hv : opVals tmps c.args.toList = some [v])
    (h : ob0 (lenV env H t v) fun n => K1 K (.int .i64 (n : Int))) : OpPost P env ρ Z u base H w K KP ((execOp a.eval o).run P w) := by
  obtain ⟨n, hn, hK⟩ := ob0_inv h
  obtain ⟨x, hx, hr, -⟩ := args_one hp hv
  have ht : c.argTypes[0]? = some t := by rw [← Array.getElem?_toList, hts]; rfl
  refine OpPost.val hp (x := .int .i64 (n : Int)) ?_ hK (by rw [repV_int]; rfl) (by simp [AVal.keys])
  rw [run_builtin ho hc, hx]
  simp only [builtin, Sem.run_bind, len_rep he hp ht hn hr, Result.andThen_ok, Sem.run_pure]

theorem op_min (hp : Pre env ρ Z u tmps H a w) {o : Oper} {c : Call} (ho : o.op = .call c) (hc : c.callee = .builtin .min) {k k' : IntKind} {x : TT k} {y : TT k'} (hv : opVals tmps c.args.toList = some [.int k x, .int k' y])
    (h : ob0 (castT k k' y) fun y => br (ltT k y x) (K1 K (.int k y)) (K1 K (.int k x))) : OpPost P env ρ Z u base H w K KP ((execOp a.eval o).run P w) := by
  obtain ⟨y', hy, q⟩ := ob0_inv h
  obtain ⟨rfl, ey⟩ := cast_int hy
  obtain ⟨X, Y, hX, hr, hr', -, -⟩ := args_two hp hv
  rw [repV_int] at hr hr'
  subst hr; subst hr'
  have run : (execOp a.eval o).run P w = .ok (.value (.int k' (if toI k' y < toI k' x then toI k' y else toI k' x))) w := by
    rw [run_builtin ho hc, hX]
    simp [builtin, Builtin.min_, Builtin.min2]
  rw [ey] at run
  rcases br_inv q with ⟨hlt, hK⟩ | ⟨hlt, hK⟩
  · have : toI k' y' < toI k' x := of_decide_eq_true hlt
    rw [if_pos this] at run
    exact OpPost.val hp run hK (by rw [repV_int]) (by simp [AVal.keys])
  · have : ¬ toI k' y' < toI k' x := of_decide_eq_false hlt
    rw [if_neg this] at run
    exact OpPost.val hp run hK (by rw [repV_int]) (by simp [AVal.keys])
end
end Go.Abs

namespace Go.Abs
section
variable {P : Program} {env : Env} {C : Tab} {ρ : PMap} {Z : Zone} {u : Nat → Bool} {base : Nat} {tmps : List (Option AVal)} {H : Heap} {a : Act} {w : World} {K : Eff → Prop} {KP : AVal → List (Nat × Option Blk) → Prop}

/-! ### the model's append, whatever is appended -/
theorem run_append_room {t t2 ty e : TypeId} {i : TypeInfo} {d2 : TypeDesc} {x : Value} {ad : Addr} {n m cap : Nat} {news : Array Value} {w' : World}
    (ht : P.underlying t = some (.slice e)) (hi : P.info? e = some i) (h2 : P.underlying t2 = some d2) (hd : d2 = .string ∨ ∃ e2, d2 = .slice e2)
    (hl : (Builtin.lenOf x).run P w = .ok m w) (hf : (Builtin.firstCells i.size m x).run P w = .ok news w) (hc : n + m ≤ cap)
    (hst : (storeCells (ad.add (n * i.size)) news.toList).run P w = .ok () w') :
    (Builtin.append_ #[t, t2] ty #[.slice (some ad) n cap, x]).run P w = .ok (.slice (some ad) (n + m) cap) w' := by
  rcases hd with rfl | ⟨e2, rfl⟩ <;> simp [Builtin.append_, run_underlying ht, run_underlying h2, sizeOf, typeInfo, hi, hl, hc, hf, hst]

theorem run_append_none {t t2 ty e : TypeId} {i : TypeInfo} {d2 : TypeDesc} {x : Value} {news : Array Value}
    (ht : P.underlying t = some (.slice e)) (hi : P.info? e = some i) (h2 : P.underlying t2 = some d2) (hd : d2 = .string ∨ ∃ e2, d2 = .slice e2)
    (hl : (Builtin.lenOf x).run P w = .ok 0 w) (hf : (Builtin.firstCells i.size 0 x).run P w = .ok news w) :
    (Builtin.append_ #[t, t2] ty #[.slice none 0 0, x]).run P w = .ok (.slice none 0 0) w := by
  rcases hd with rfl | ⟨e2, rfl⟩ <;> simp [Builtin.append_, run_underlying ht, run_underlying h2, sizeOf, typeInfo, hi, hl, hf]

theorem run_append_more {t t2 ty e : TypeId} {i : TypeInfo} {z : Value} {d2 : TypeDesc} {x : Value} {ao : Option Addr} {n m cap : Nat} {olds news : Array Value}
    (ht : P.underlying t = some (.slice e)) (hi : P.info? e = some i) (hz : i.zero = some z) (h2 : P.underlying t2 = some d2) (hd : d2 = .string ∨ ∃ e2, d2 = .slice e2)
    (hl : (Builtin.lenOf x).run P w = .ok m w) (hf : (Builtin.firstCells i.size m x).run P w.drew = .ok news w.drew)
    (ho : (Builtin.firstCells i.size n (.slice ao n cap)).run P w.drew = .ok olds w.drew) (hc : cap < n + m) (hr : (n + m) * (i.bytes + 1) ≤ 70368744177664) :
    (Builtin.append_ #[t, t2] ty #[.slice ao n cap, x]).run P w = .ok (.slice (some ⟨w.heap.size, 0, none⟩) (n + m) (grownCap w (n + m) cap e))
      (w.drew.alloc (.cells (olds ++ news ++ Builtin.zeroCells z.cells (grownCap w (n + m) cap e - (n + m))) e)) := by
  have hn : ¬ (n + m ≤ cap) := by omega
  rw [Nat.mul_add] at hr
  have h63' : ¬ (9223372036854775807 < ((n : Int) + (m : Int))) := by omega
  have h48' : ¬ (281474976710656 < Builtin.nextslicecap (n + m) cap * i.bytes) := by
    have := growslice_fits (need := n + m) (old := cap) (bytes := i.bytes) (by omega) (by omega)
    omega
  rcases hd with rfl | ⟨e2, rfl⟩ <;> simp [Builtin.append_, run_underlying ht, run_underlying h2, sizeOf, typeInfo, zeroValue, hi, hz, hl, hn, h63', h48', Question.forced, hf, ho, newRow, grownCap]

/-! ### elements -/
theorem RepE.append {e : Nat} : ∀ {l m : List AVal} {cs ds : List Value}, RepE env ρ Z e l cs → RepE env ρ Z e m ds → RepE env ρ Z e (l ++ m) (cs ++ ds)
  | [], m, cs, ds, h, h' => by simp [RepE] at h; simpa [h] using h'
  | v :: vs, m, cs, ds, h, h' => by
    obtain ⟨c1, c2, rfl, h1, h2, h3⟩ := h
    exact ⟨c1, c2 ++ ds, by simp, h1, h2, h3.append h'⟩

theorem RepE.toEl {e : Nat} : ∀ {l : List AVal} {cs : List Value}, RepE env ρ Z e l cs → (∀ v, v ∈ l → HT env e v) → RepEl env ρ Z e l cs
  | [], _, h, _ => h
  | v :: vs, cs, h, ht => by
    obtain ⟨c1, c2, rfl, h1, h2, h3⟩ := h
    exact ⟨c1, c2, rfl, ht v (by simp), h2, h3.toEl fun u hu => ht u (by simp [hu])⟩

theorem allTy_spec {e : Nat} : ∀ {l : List AVal}, allTy env e l = true → ∀ v, v ∈ l → HT env e v
  | [], _, v, hv => by cases hv
  | x :: xs, h, v, hv => by
    cases hx : hasTy env 8 e x with
    | false => simp [allTy, hx] at h
    | true =>
      simp [allTy, hx] at h
      cases hv with
      | head => exact ⟨8, hx⟩
      | tail _ hm => exact allTy_spec h v hm

theorem encAll_map {α : Type} (enc : α → AVal) (l : List α) : encAll enc l = l.map enc := by
  induction l with
  | nil => rfl
  | cons a l ih => simp [encAll, ih]

theorem toVals_elems {q : Seq} {l : List AVal} (h : q.toVals = some l) : q.elems = l := by
  cases q <;> simp [Seq.toVals] at h
  · rw [← h, encAll_map]; rfl
  · rw [← h, encAll_map]; rfl
  · exact h

def LeL : List AVal → List AVal → Prop
  | [], [] => True
  | v :: vs, w :: ws => AVal.Le v w ∧ LeL vs ws
  | _, _ => False
theorem LeL.refl : ∀ (l : List AVal), LeL l l
  | [] => trivial
  | v :: vs => ⟨AVal.Le.refl v, LeL.refl vs⟩
theorem LeL.length : ∀ {l m : List AVal}, LeL l m → m.length = l.length
  | [], [], _ => rfl
  | v :: vs, w :: ws, h => by simp [LeL.length h.2]
  | [], _ :: _, h => h.elim
  | _ :: _, [], h => h.elim
theorem RepEl.le {env : Env} {ρ : PMap} {Z : Zone} {e : Nat} : ∀ {l m : List AVal} {cs : List Value}, RepEl env ρ Z e l cs → LeL l m → RepEl env ρ Z e m cs
  | [], [], _, h, _ => h
  | v :: vs, w :: ws, cs, h, hl => by
    obtain ⟨c1, c2, rfl, h1, h2, h3⟩ := h
    exact ⟨c1, c2, rfl, h1.le hl.1, hl.1.rep h2, h3.le hl.2⟩
  | [], _ :: _, _, _, h => h.elim
  | _ :: _, [], _, _, h => h.elim
theorem decAll_spec {c : Codec} (hg : ∀ v a, c.dec v = some a → AVal.Le v (c.enc a)) : ∀ {l : List AVal} {m : List c.α}, decAll c l = some m → LeL l (m.map c.enc)
  | [], m, h => by simp [decAll] at h; subst h; exact trivial
  | v :: vs, m, h => by
    cases hv : c.dec v with
    | none => simp [decAll, hv] at h
    | some a =>
      cases hm : decAll c vs with
      | none => simp [decAll, hv, hm] at h
      | some m' =>
        simp [decAll, hv, hm] at h
        subst h
        exact ⟨hg v a hv, decAll_spec hg hm⟩

theorem castV_map {t' t : VT} {m : List t.ty} {m' : List t'.ty} (h : castV t' t m = some m') : m'.map (encT t') = m.map (encT t) := by
  cases t' <;> cases t <;> simp only [castV, Option.some.injEq, reduceCtorEq] at h <;> subst h <;> rfl
theorem castV_tag {t' t : VT} {m : List t.ty} {m' : List t'.ty} (h : castV t' t m = some m') : t' = t := by
  cases t' <;> cases t <;> first | rfl | simp [castV] at h
theorem viewsIn_spec {env : Env} {e : Nat} {c : Codec} {q : Seq} {m : List c.α} (hco : ∀ t c, env.codec t = some c → CodOk env t c) (h : viewsIn env e c q = some m)
    (hg : ∀ vt, c.vt = some vt → (∀ l, (vt.2.1 l).map (encT vt.1) = l.map c.enc) ∧ ∀ m, (vt.2.2 m).map c.enc = m.map (encT vt.1)) : q.elems = m.map c.enc ∧ ∀ v, v ∈ q.elems → HT env e v := by
  cases q <;> try (simp [viewsIn] at h; done)
  rename_i t l
  simp only [viewsIn] at h
  split at h <;> try cases h
  rename_i c' hc'
  split at h <;> try cases h
  rename_i vt' hvt'
  split at h <;> try cases h
  rename_i l1 hl1
  split at h <;> try cases h
  rename_i vt hvt
  split at h <;> try cases h
  rename_i l2 hl2
  refine ⟨?_, fun v hv => ?_⟩
  · rw [(hg vt hvt).2 l2, castV_map hl2]; rfl
  · obtain ⟨x, -, rfl⟩ := List.mem_map.1 hv
    have := castV_tag hl1
    subst this
    exact ⟨8, (hco e c' hc').vty vt' hvt' x⟩

/-- What stands there behind an append. -/
theorem join_spec {e : Nat} {c c' : Cont} {q : Seq} (h : c.join env e q = some c') (hg : c.good) (hco : ∀ t c, env.codec t = some c → CodOk env t c) :
    ∃ es, LeL q.elems es ∧ c'.elems = c.elems ++ es ∧ c'.good ∧ c'.isVar = false ∧ (∀ v, v ∈ q.elems → HT env e v) ∧ (∀ k, k ∈ c'.keys → k ∈ c.keys ∨ ∃ v, v ∈ q.elems ∧ k ∈ v.keys) ∧ c.count + q.len = c'.elems.length ∧ c.isVar = false := by
  cases c with
  | ints k l =>
    simp only [Cont.join] at h
    cases hi : isInt env e k with
    | false => simp [hi] at h
    | true =>
      cases hm : q.toInts k with
      | none => simp [hi, hm] at h
      | some m =>
        simp [hi, hm] at h
        subst h
        have hq : q.elems = m.map (AVal.int k) := by
          cases q with
          | ints k' l' => simp only [Seq.toInts] at hm; obtain ⟨rfl, rfl⟩ := castL_some hm; rfl
          | recs enc d l' => simp [Seq.toInts] at hm
          | views t l' => simp [Seq.toInts] at hm
          | vals l' => cases l' <;> simp [Seq.toInts] at hm; subst hm; rfl
        have hlen : q.len = m.length := by rw [← Seq.len_elems, hq]; simp
        refine ⟨q.elems, LeL.refl _, by simp [Cont.elems, hq], trivial, rfl, fun v hv => ?_, fun k hk => by simp [Cont.keys] at hk, by simp [Cont.count, Cont.elems, hlen], rfl⟩
        rw [hq] at hv
        simp at hv
        obtain ⟨x, _, rfl⟩ := hv
        exact ⟨1, by simp [hasTy, isInt_td hi, same_refl]⟩
  | recs c l =>
    simp only [Cont.join] at h
    cases hvi : viewsIn env e c q with
    | some m =>
      simp only [hvi, Option.some.injEq] at h
      subst h
      obtain ⟨hq, hty⟩ := viewsIn_spec hco hvi hg.2.2
      have hlen : q.len = m.length := by rw [← Seq.len_elems, hq]; simp
      exact ⟨m.map c.enc, hq ▸ LeL.refl _, by simp [Cont.elems], hg, rfl, hty, fun k hk => by simp [Cont.keys] at hk, by simp [Cont.count, Cont.elems, hlen], rfl⟩
    | none =>
    simp only [hvi] at h
    cases hv : q.toVals with
    | none => simp [hv] at h
    | some vs =>
      cases ha : allTy env e vs with
      | false => simp [hv, ha] at h
      | true =>
        cases hd : decAll c vs with
        | none => simp [hv, ha, hd] at h
        | some m =>
          simp [hv, ha, hd] at h
          subst h
          have hq := toVals_elems hv
          have hm := decAll_spec hg.1 hd
          have hlen : q.len = m.length := by rw [← Seq.len_elems, hq, ← hm.length]; simp
          exact ⟨m.map c.enc, hq ▸ hm, by simp [Cont.elems], hg, rfl, fun v hv' => allTy_spec ha v (hq ▸ hv'), fun k hk => by simp [Cont.keys] at hk, by simp [Cont.count, Cont.elems, hlen], rfl⟩
  | vals l =>
    simp only [Cont.join] at h
    cases hv : q.toVals with
    | none => simp [hv] at h
    | some vs =>
      cases ha : allTy env e vs with
      | false => simp [hv, ha] at h
      | true =>
        simp [hv, ha] at h
        subst h
        have hq := toVals_elems hv
        have hlen : q.len = vs.length := by rw [← Seq.len_elems, hq]
        refine ⟨q.elems, LeL.refl _, by simp [Cont.elems, hq], trivial, rfl, fun v hv' => allTy_spec ha v (hq ▸ hv'), fun k hk => ?_, by simp [Cont.count, Cont.elems, hlen], rfl⟩
        simp only [Cont.keys] at hk ⊢
        obtain ⟨v, hv', hkv⟩ := (keysL_map _ _).1 hk
        rw [List.mem_append] at hv'
        rcases hv' with h | h
        · exact .inl ((keysL_map _ _).2 ⟨v, h, hkv⟩)
        · exact .inr ⟨v, hq ▸ h, hkv⟩
  | var v => simp [Cont.join] at h
  | map k v l => simp [Cont.join] at h
  | mapv k l => simp [Cont.join] at h

/-- What is appended or copied, in the model. -/
theorem src_rep (he : EnvOk P env) (hp : Pre env ρ Z u tmps H a w) {e : Nat} {v : AVal} {q : Seq} {x : Value} (hq : srcOf env H e v = some q) (hx : RepV env ρ Z v x) :
    (∀ w', (Builtin.lenOf x).run P w' = .ok q.len w') ∧ ∃ news : List Value, RepE env ρ Z e q.elems news ∧ (∀ v, v ∈ q.elems → ∀ k, k ∈ v.keys → known u k) ∧
      ∀ w', w'.heap = w.heap → (Builtin.firstCells (env.sz e) q.len x).run P w' = .ok news.toArray w' := by
  have slice : ∀ {q}, seqOf env H e v = some q → (∀ w', (Builtin.lenOf x).run P w' = .ok q.len w') ∧ ∃ news : List Value, RepE env ρ Z e q.elems news ∧ (∀ v, v ∈ q.elems → ∀ k, k ∈ v.keys → known u k) ∧
      ∀ w', w'.heap = w.heap → (Builtin.firstCells (env.sz e) q.len x).run P w' = .ok news.toArray w' := fun {q} hq => by
    obtain ⟨ao, cap, rfl, hle, hs⟩ := seq_rep he hp hq hx
    refine ⟨fun w' => rfl, ?_⟩
    by_cases h0 : q.len = 0
    · have hel : q.elems = [] := List.eq_nil_of_length_eq_zero (by rw [Seq.len_elems]; exact h0)
      refine ⟨[], by rw [hel]; simp [RepE], by simp [hel], fun w' _ => ?_⟩
      rw [h0]
      cases ao with
      | none => rfl
      | some ad => simp only [Builtin.firstCells, Nat.zero_mul]; rfl
    · obtain ⟨b, o', rfl, cs, f1, f2, f3⟩ := hs h0
      refine ⟨cs, f1, f3, fun w' hw => ?_⟩
      exact run_firstCells_some w' _ _ _ _ _ cs (by rw [f1.len, Seq.len_elems]) (fun j c hj => by
        rw [add_addr]
        have := f2 j c hj
        unfold World.cell? at *
        rw [hw]; exact this)
  cases v with
  | str s =>
    simp only [srcOf] at hq
    cases hi : isInt env e .u8 with
    | false => simp [hi] at hq
    | true =>
      simp [hi] at hq; subst hq
      rw [repV_str] at hx; subst hx
      have hsz : (⟨s.toArray⟩ : ByteArray).size = s.length := by simp [ByteArray.size]
      refine ⟨fun w' => by simp [Builtin.lenOf, hsz, Seq.len], s.map fun x => Value.int .u8 (toI .u8 x), RepE.ints (k := .u8) (sz_int he.size (isInt_td hi)) s, fun v hv k hk => ?_, fun w' _ => ?_⟩
      · simp [Seq.elems] at hv; obtain ⟨y, _, rfl⟩ := hv; simp [AVal.keys] at hk
      · simp only [Builtin.firstCells, Seq.len, Sem.run_pure]
        congr 1
        apply Array.ext'
        simp [ByteArray.extract, ByteArray.copySlice, toI]
  | _ => exact slice hq
end
end Go.Abs

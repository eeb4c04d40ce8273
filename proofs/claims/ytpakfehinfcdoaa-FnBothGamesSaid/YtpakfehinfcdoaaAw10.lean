/- Operations that make memory, as the model runs them. -/
import Derived.Test.YtpakfehinfcdoaaAw9
namespace Go.Aw
open Go.RowKit

section
variable {P : Program} {Γ : Tys} {w0 : Base} {w w' : World} {ob : Nat → Prop} {st : St} {a : Act} {η : Env}

theorem init_cells (zv : Value) (n : Nat) : (Array.range n).map (fun i => (#[zv] : Array Value)[i % (#[zv] : Array Value).size]!) = (List.replicate n zv).toArray := by
  apply Array.ext
  · simp
  · intro i h1 h2
    simp [Nat.mod_one]

theorem fill_cons {i : Nat} {v : Value} {cs : List Value} {vs : List (Nat × Value)} (hv : v.cells = #[v]) (hi : i < cs.length) :
    Instr.fill (fun i => some (i * 1, 1)) cs.toArray ((i, v) :: vs) = Instr.fill (fun i => some (i * 1, 1)) (cs.set i v).toArray vs := by
  simp only [Instr.fill, hv]
  simp
  intro h
  omega

/-- what 'buildSlice' makes -/
theorem run_buildSlice {t e len : Nat} {ti : TI} {zv : Value} (ht : P.underlying t = some (.slice e)) (he : TyOk P e ti) (h1 : ti.size = 1) (hz : ti.zero = [zv]) (hlen : len ≤ 65536) {vs : Array (Nat × Value)} {cs : List Value}
    (hf : Instr.fill (fun i => some (i * 1, 1)) (List.replicate len zv).toArray vs.toList = some cs.toArray) :
    (Instr.buildSlice t len vs).run P w = .ok (.slice (some ⟨w.heap.size, 0, none⟩) len len) (w.alloc (.cells cs.toArray e)) := by
  obtain ⟨i, z, g1, g2, g3, g4, g5, g6, g7, g8⟩ := run_typeInfo he
  rw [hz] at g5
  rw [h1] at g7
  have hle : ¬ (len * 1 > 2 ^ 24) := by omega
  by_cases h0 : len = 0
  · subst h0
    have hc : (Array.range 0).map (fun _ => (default : Value)) = #[] := by simp [Array.range]
    simp only [List.replicate_zero, Nat.mul_one] at hf
    simp [Instr.buildSlice, run_underlying ht, g7, newRow, hc, hf]
  · have hc := init_cells zv len
    have hl1 : len * 1 = len := Nat.mul_one _
    simp only [Instr.buildSlice, Sem.run_bind, run_underlying ht, Result.andThen_ok, g7]
    rw [if_neg hle, if_neg (by omega)]
    simp only [Sem.run_bind, g8, Result.andThen_ok, Sem.run_pure, g5, hl1]
    have hc' : (Array.range len).map (fun i => ([zv].toArray : Array Value)[i % ([zv].toArray : Array Value).size]!) = (List.replicate len zv).toArray := hc
    rw [hc', hf]
    simp [newRow]

theorem setInts_head {l l' : List Int} {i : Nat} {x : AVal} {r : List (Nat × AVal)} {k : IntKind} (h : setInts l ((i, x) :: r) k = some l') : ∃ k1 n, x = .c (.int k1 n) := by
  cases x with
  | c v => cases v <;> first | exact ⟨_, _, rfl⟩ | (simp [setInts] at h)
  | _ => simp [setInts] at h

theorem setInts_sound {k : IntKind} {bad : Nat → Prop} {hp : List (Nat × ARow)} {nx : Nat} : ∀ {ps : List (Nat × AVal)} {l l' : List Int} {vs : List (Nat × Value)},
    F2 (fun (p : Nat × AVal) (q : Nat × Value) => p.1 = q.1 ∧ VRep w bad hp nx η p.2 q.2) ps vs → setInts l ps k = some l' →
    l'.length = l.length ∧ Instr.fill (fun i => some (i * 1, 1)) (l.map (Value.int k)).toArray vs = some (l'.map (Value.int k)).toArray
  | [], l, l', [], _, h => by simp only [setInts, Option.some.injEq] at h; subst h; exact ⟨rfl, rfl⟩
  | (i, x) :: ps, l, l', (j, v) :: vs, ⟨⟨hij, hv⟩, hr⟩, h => by
    simp only at hij hv
    subst hij
    obtain ⟨k1, n1, rfl⟩ := setInts_head h
    · simp only [setInts] at h
      split at h
      case h_2 => cases h
      case h_1 hq =>
        have hk := keq_spec hq
        subst hk
        split at h
        case h_2 => cases h
        case h_1 hlt =>
          have hlt' : i < l.length := Nat.le_of_ble_eq_true hlt
          obtain ⟨rfl, _⟩ := hv
          obtain ⟨h1, h2⟩ := setInts_sound hr h
          refine ⟨by simpa using h1, ?_⟩
          rw [fill_cons rfl (by simpa using hlt')]
          simpa [List.map_set] using h2
  | [], _, _, _ :: _, h, _ => h.elim
  | _ :: _, _, _, [], h, _ => h.elim

/-- parts that come in their order fill the row -/
theorem fill_seq {zv : Value} : ∀ {vs : List (Nat × Value)} {pre : List Value} {us : List Value}, vs = (us.zipIdx pre.length).map (fun (u, i) => (i, u)) → (∀ u, u ∈ us → u.cells = #[u]) →
    Instr.fill (fun i => some (i * 1, 1)) (pre ++ List.replicate us.length zv).toArray vs = some (pre ++ us).toArray
  | [], pre, us, h, _ => by
    have : us = [] := by cases us with | nil => rfl | cons u r => simp at h
    subst this
    simp [Instr.fill]
  | (i, v) :: vs, pre, us, h, hc => by
    cases us with
    | nil => simp at h
    | cons u r =>
      simp only [List.zipIdx_cons, List.map_cons, List.cons.injEq, Prod.mk.injEq] at h
      obtain ⟨⟨rfl, rfl⟩, h2⟩ := h
      rw [fill_cons (hc v (by simp)) (by simp)]
      have ih := fill_seq (zv := zv) (vs := vs) (pre := pre ++ [v]) (us := r) (by simpa using h2) (fun u hu => hc u (by simp [hu]))
      have e : (pre ++ List.replicate (v :: r).length zv).set pre.length v = pre ++ [v] ++ List.replicate r.length zv := by
        rw [List.set_append_right _ _ (Nat.le_refl _)]
        simp [List.replicate_succ]
      rw [e, ih]
      simp

theorem fold_set : ∀ (cs pre rest : List Value), rest.length = cs.length →
    (cs.zipIdx pre.length).foldl (fun (a : Array Value) (p : Value × Nat) => a.setIfInBounds (0 + p.2) p.1) (pre ++ rest).toArray = (pre ++ cs).toArray
  | [], pre, rest, h => by
    have : rest = [] := List.eq_nil_of_length_eq_zero (by simpa using h)
    subst this; rfl
  | c :: cs, pre, rest, h => by
    cases rest with
    | nil => simp at h
    | cons y r =>
      simp only [List.zipIdx_cons, List.foldl_cons]
      have e : (pre ++ y :: r).toArray.setIfInBounds (0 + pre.length) c = (pre ++ [c] ++ r).toArray := by
        simp [List.set_append_right]
      rw [e]
      have := fold_set cs (pre ++ [c]) r (by simpa using h)
      simpa using this

theorem fill_one {sz : Nat} {base cs : List Value} (hb : base.length = sz) (hc : cs.length = sz) : Instr.fill (fun i => some (i * sz, sz)) base.toArray [(0, .agg cs.toArray)] = some cs.toArray := by
  have h := fold_set cs [] base (by omega)
  simp only [List.nil_append, List.length_nil] at h
  have hs : ¬ ((Value.agg cs.toArray).cells.size ≠ sz || 0 * sz + (Value.agg cs.toArray).cells.size > base.toArray.size) = true := by
    simp [Value.cells, hb, hc]
  simp only [Instr.fill]
  rw [if_neg hs]
  simp only [Value.cells, Nat.zero_mul]
  rw [← Array.foldl_toList, Array.toList_zipIdx]
  exact congrArg some h

theorem run_buildSlice0 {t e : Nat} {ti : TI} (ht : P.underlying t = some (.slice e)) (he : TyOk P e ti) :
    (Instr.buildSlice t 0 #[]).run P w = .ok (.slice (some ⟨w.heap.size, 0, none⟩) 0 0) (w.alloc (.cells #[] e)) := by
  obtain ⟨i, z, g1, g2, g3, g4, g5, g6, g7, g8⟩ := run_typeInfo he
  have hc : (Array.range 0).map (fun _ => (default : Value)) = #[] := by simp [Array.range]
  simp [Instr.buildSlice, run_underlying ht, g7, newRow, Instr.fill, hc]

theorem run_buildSlice1 {t e : Nat} {ti : TI} (ht : P.underlying t = some (.slice e)) (he : TyOk P e ti) (hpos : 0 < ti.size) (hle : ti.size ≤ 64) (hz : ti.zero.length = ti.size) {cs : List Value} (hc : cs.length = ti.size) :
    (Instr.buildSlice t 1 #[(0, .agg cs.toArray)]).run P w = .ok (.slice (some ⟨w.heap.size, 0, none⟩) 1 1) (w.alloc (.cells cs.toArray e)) := by
  obtain ⟨i, z, g1, g2, g3, g4, g5, g6, g7, g8⟩ := run_typeInfo he
  have hle' : ¬ (1 * ti.size > 2 ^ 24) := by omega
  simp only [Instr.buildSlice, Sem.run_bind, run_underlying ht, Result.andThen_ok, g7]
  rw [if_neg hle', if_neg (by omega)]
  simp only [Sem.run_bind, g8, Result.andThen_ok, Sem.run_pure, g5]
  generalize hbase : (Array.range (1 * ti.size)).map (fun x => ti.zero.toArray[x % ti.zero.toArray.size]!) = base
  have hb : base.toList.length = ti.size := by rw [← hbase]; simp
  have := fill_one (base := base.toList) hb hc
  simp only [Array.toArray_toList] at this
  rw [this]
  simp [newRow]

theorem recOf_spec {w : World} {bad : Nat → Prop} {hp : List (Nat × ARow)} {nx : Nat} {η : Env} : ∀ {l : List AVal} {xs : List Int} {m : List (List Int)} {cs : List Value}, recOf l = some (xs, m) → VReps w bad hp nx η l cs → SRec w bad xs.length (xs, m) cs
  | [.t (.rows m0)], xs, m, [u], h, hv => by
    simp only [recOf, Option.some.injEq, Prod.mk.injEq] at h
    obtain ⟨rfl, rfl⟩ := h
    exact ⟨rfl, u, rfl, hv.1⟩
  | .c (.int .i64 n) :: y :: r, xs, m, u :: cs, h, hv => by
    simp only [recOf] at h
    split at h
    case h_2 => cases h
    case h_1 xs' m' hr =>
      simp only [Option.some.injEq, Prod.mk.injEq] at h
      obtain ⟨rfl, rfl⟩ := h
      obtain ⟨h1, u', h2, h3⟩ := recOf_spec hr hv.2
      obtain ⟨rfl, _⟩ := hv.1
      exact ⟨by simp, u', by rw [h2]; rfl, h3⟩
  | [], _, _, _, h, _ => by simp [recOf] at h
  | [.c (.int .i64 n)], _, _, _, h, _ => by simp [recOf] at h
  | [.t (.rows _)], _, _, [], _, hv => hv.elim
  | [.t (.rows _)], _, _, _ :: _ :: _, _, hv => hv.2.elim
  | .c (.int .i64 n) :: _ :: _, _, _, [], _, hv => hv.elim

/-- does it write where something was? -/
def nbOp (o : Oper) : Bool :=
  match o.op with
  | .store .. => true
  | .call ⟨.builtin .append, _, _⟩ => true
  | _ => false

def ANOut (P : Program) (w0 : Base) (ob : Nat → Prop) (st : St) (a : Act) (w : World) (o : Oper) (K : AVal → St → Prop) : Prop :=
  ∃ v x st' w' η', K x st' ∧ st'.sz = st.sz ∧ SRep w0 ob st' a w' η' ∧ VR w' ob st' η' x v ∧
    ((execOp a.eval o).run P w = .ok (.value v) w' ∨ ((execOp a.eval o).run P w = .ok .skip w' ∧ v = undef)) ∧ (nbOp o = false → Below w.heap.size w w')

theorem abuildSlice_sound (hΓ : TysOk P Γ) (h : SRep w0 ob st a w η) {t len : Nat} {ps : List (Nat × AVal)} {vs : Array (Nat × Value)}
    (hps : F2 (fun (p : Nat × AVal) (q : Nat × Value) => p.1 = q.1 ∧ VR w ob st η p.2 q.2) ps vs.toList) {K : AVal → St → Prop} (hk : abuildSlice Γ st t len ps K) :
    ∃ v x st' w' η', K x st' ∧ st'.sz = st.sz ∧ SRep w0 ob st' a w' η' ∧ VR w' ob st' η' x v ∧ (Instr.buildSlice t len vs).run P w = .ok v w' ∧ Below w.heap.size w w' := by
  unfold abuildSlice at hk
  split at hk
  case h_2 => exact hk.elim
  case h_1 e s1 s2 s3 hti =>
    have ht := (hΓ.at hti).desc
    simp only [TD.is] at ht
    split at hk
    case h_4 => exact hk.elim
    case h_3 fs sz d2 z hei =>
      have hte := hΓ.at hei
      split at hk
      case h_2 => exact hk.elim
      case h_1 hzl =>
        have hzl' := Nat.eq_of_beq_eq_true hzl
        split at hk
        case h_3 => exact hk.elim
        case h_1 =>
          split at hk
          case h_2 => exact hk.elim
          case h_1 =>
            split at hk
            case h_2 => exact hk.elim
            case h_1 s =>
              split at hk
              case h_2 => exact hk.elim
              case h_1 =>
                have hvs : vs = #[] := by
                  obtain ⟨vl⟩ := vs
                  cases vl with
                  | nil => rfl
                  | cons _ _ => exact hps.elim
                subst hvs
                obtain ⟨η', hs, hv⟩ := h.newRecs (e := e) (s := s) (L := []) (css := []) (by simp) trivial
                exact ⟨_, _, _, _, η', hk, rfl, hs, hv, run_buildSlice0 ht hte, below_alloc _ _⟩
        case h_2 l =>
          split at hk
          case h_2 => exact hk.elim
          case h_1 =>
            split at hk
            case h_2 => exact hk.elim
            case h_1 xs m hro =>
              split at hk
              case h_2 => exact hk.elim
              case h_1 hsz =>
                have hsz' := Nat.eq_of_beq_eq_true hsz
                split at hk
                case h_2 => exact hk.elim
                case h_1 h64 =>
                  have h64' := Nat.le_of_ble_eq_true h64
                  obtain ⟨vl⟩ := vs
                  match vl, hps with
                  | [(j, v)], ⟨⟨hj, hv⟩, _⟩ =>
                    simp only at hj hv
                    subst hj
                    obtain ⟨cs, rfl, hr⟩ := hv
                    have hrec := recOf_spec hro hr
                    have hcl : cs.length = sz := by
                      obtain ⟨_, u, h2, _⟩ := hrec
                      rw [h2]; simp; omega
                    obtain ⟨η', hs, hv⟩ := h.newRecs (e := e) (s := xs.length) (L := [(xs, m)]) (css := [cs]) (by simp; unfold maxLen; omega) ⟨hrec, trivial⟩
                    simp only [List.flatten_cons, List.flatten_nil, List.append_nil, List.length_cons, List.length_nil, Nat.zero_add] at hs hv
                    exact ⟨_, _, _, _, η', hk, rfl, hs, hv, run_buildSlice1 ht hte (by simp only; omega) h64' hzl' hcl, below_alloc _ _⟩
                  | [], hps => exact hps.elim
                  | _ :: _ :: _, hps => exact hps.2.elim
    case h_1 k d2 k2 hei =>
      have hte := hΓ.at hei
      split at hk
      case h_2 => exact hk.elim
      case h_1 hq =>
        have hkk := keq_spec hq
        subst hkk
        split at hk
        case h_2 => exact hk.elim
        case h_1 hle =>
          have hle' := Nat.le_of_ble_eq_true hle
          split at hk
          case h_2 => exact hk.elim
          case h_1 l hl =>
            obtain ⟨h1, h2⟩ := setInts_sound hps hl
            simp only [List.length_replicate] at h1
            have hrun := run_buildSlice (w := w) ht hte rfl rfl hle' (vs := vs) (by simpa using h2)
            obtain ⟨η', hs, hv⟩ := h.newInts (e := e) (k := k) (l := l) (by unfold maxLen; omega)
            rw [h1] at hv
            exact ⟨_, _, _, _, η', hk, rfl, hs, hv, hrun, below_alloc _ _⟩
    case h_2 e1 d2 hei =>
      have hte := hΓ.at hei
      split at hk
      case h_2 => exact hk.elim
      case h_1 hle =>
        have hle' := Nat.le_of_ble_eq_true hle
        split at hk
        case h_1 st' m htk =>
          split at hk
          case h_2 => exact hk.elim
          case h_1 hml =>
            have hml' := Nat.eq_of_beq_eq_true hml
            obtain ⟨ks, a1, a2, a3, a4, a5, a6, a7, a8⟩ := takeRows_spec htk
            have hkl : ks.length = m.length := F2.length a7
            -- the parts' values are the rows' own
            have hval : ∀ {ks : List Nat} {n : Nat} {vs : List (Nat × Value)}, (∀ k, k ∈ ks → ∃ r, look st.hp k = some r) →
                F2 (fun (p : Nat × AVal) (q : Nat × Value) => p.1 = q.1 ∧ VR w ob st η p.2 q.2) ((ks.zipIdx n).map fun (k, i) => (i, AVal.own k)) vs → vs = ((ks.map η.val).zipIdx n).map (fun (u, i) => (i, u)) := by
              intro ks
              induction ks with
              | nil => intro n vs _ hf; cases vs with | nil => rfl | cons _ _ => exact hf.elim
              | cons k ks ih =>
                intro n vs hl hf
                cases vs with
                | nil => exact hf.elim
                | cons q vs =>
                  obtain ⟨⟨h1, h2⟩, h3⟩ := hf
                  obtain ⟨r, hr⟩ := hl k (by simp)
                  have := (h2.2 r hr).2
                  simp only [List.map_cons, List.zipIdx_cons, List.cons.injEq]
                  exact ⟨Prod.ext h1.symm this, ih (fun j hj => hl j (by simp [hj])) h3⟩
            have hlk : ∀ k, k ∈ ks → ∃ r, look st.hp k = some r := fun k hk => by
              obtain ⟨i, hi⟩ := List.getElem?_of_mem hk
              obtain ⟨l, _, hl⟩ := F2.at a7 hi
              exact ⟨_, hl⟩
            have hvs := hval hlk (a8 ▸ hps)
            have hrow : ∀ k l, look st.hp k = some (.ints e1 .i64 l) → OwnInts w w0.B e1 .i64 l (η.val k) := fun k l hr => (h.heap.row k _ hr).1
            have hF : F2 (OwnInts w w0.B e1 .i64) m (ks.map η.val) := by
              have : ∀ {ks : List Nat} {m : List (List Int)}, F2 (fun k l => look st.hp k = some (.ints e1 .i64 l)) ks m → F2 (OwnInts w w0.B e1 .i64) m (ks.map η.val) := by
                intro ks
                induction ks with
                | nil => intro m hf; cases m with | nil => trivial | cons _ _ => exact hf.elim
                | cons k ks ih => intro m hf; cases m with | nil => exact hf.elim | cons l m => exact ⟨hrow k l hf.1, ih hf.2⟩
              exact this a7
            have hcell : ∀ u, u ∈ ks.map η.val → u.cells = #[u] := fun u hu => by
              obtain ⟨i, hi⟩ := List.getElem?_of_mem hu
              obtain ⟨l, _, ho⟩ := F2.at' hF hi
              obtain ⟨b, c, hu'⟩ := len_own ho
              rw [hu']; rfl
            have hfill := fill_seq (zv := .slice none 0 0) (pre := []) (us := ks.map η.val) hvs hcell
            simp only [List.nil_append, List.length_map] at hfill
            have hrun := run_buildSlice (w := w) ht hte rfl rfl hle' (vs := vs) (cs := ks.map η.val) (by rw [← hml', ← hkl]; exact hfill)
            have hmem : ∀ b, b ∈ (ks.map η.val).flatMap blk → ∃ k l, k ∈ ks ∧ look st.hp k = some (.ints e1 .i64 l) ∧ b ∈ blk (η.val k) := fun b hb => by
              obtain ⟨u, hu, hb⟩ := List.mem_flatMap.1 hb
              obtain ⟨k, hk, rfl⟩ := List.mem_map.1 hu
              obtain ⟨i, hi⟩ := List.getElem?_of_mem hk
              obtain ⟨l, _, hl⟩ := F2.at a7 hi
              exact ⟨k, l, hk, hl, hb⟩
            have hbs : ∀ k l, look st.hp k = some (.ints e1 .i64 l) → bsOf η k (.ints e1 .i64 l) = blk (η.val k) := fun k l _ => by simp [bsOf, ARow.kind]
            have hnd : ((ks.map η.val).flatMap blk).Nodup := by
              have : ∀ {ks : List Nat} {m : List (List Int)}, ks.Nodup → F2 (fun k l => look st.hp k = some (.ints e1 .i64 l)) ks m → ((ks.map η.val).flatMap blk).Nodup ∧ ∀ b, b ∈ (ks.map η.val).flatMap blk → ∃ k l, k ∈ ks ∧ look st.hp k = some (.ints e1 .i64 l) ∧ b ∈ blk (η.val k) := by
                intro ks
                induction ks with
                | nil => intro m _ _; simp
                | cons k ks ih =>
                  intro m hn hf
                  cases m with
                  | nil => exact hf.elim
                  | cons l m =>
                    obtain ⟨hn1, hn2⟩ := List.nodup_cons.1 hn
                    obtain ⟨i1, i2⟩ := ih hn2 hf.2
                    have hb1 := hbs k l hf.1
                    simp only [List.map_cons, List.flatMap_cons]
                    refine ⟨?_, fun b hb => ?_⟩
                    · rw [List.nodup_append]
                      refine ⟨hb1 ▸ h.heap.nodup k _ hf.1, i1, fun b hb b' hb' e => ?_⟩
                      subst e
                      obtain ⟨k', l', hk', hl', hbb⟩ := i2 b hb'
                      exact h.heap.apart k _ k' _ hf.1 hl' (fun e => hn1 (e ▸ hk')) b (hb1 ▸ hb) (hbs k' l' hl' ▸ hbb)
                    · rcases List.mem_append.1 hb with hb | hb
                      · exact ⟨k, l, by simp, hf.1, hb⟩
                      · obtain ⟨k', l', hk', rest⟩ := i2 b hb
                        exact ⟨k', l', by simp [hk'], rest⟩
              exact (this a6 a7).1
            obtain ⟨η', hs, hv⟩ := h.newRows (hp1 := st'.hp) a4 (e := e) (e1 := e1) (m := m) (cs := ks.map η.val) (by unfold maxLen; omega) hF hnd (fun b hb => by
              obtain ⟨k, l, hk, hl, hbb⟩ := hmem b hb
              exact ⟨k, _, hl, (hbs k l hl).symm ▸ hbb, a5 k hk⟩)
            have hst : st'.new (.rows e e1 true m) = { st with hp := (st.nx, .rows e e1 true m) :: st'.hp, nx := st.nx + 1 } := by
              simp only [St.new, a1, a2, a3]
            rw [hst, a3] at hk
            rw [hml'] at hv
            exact ⟨_, _, _, _, η', hk, rfl, hs, hv, hrun, below_alloc _ _⟩
        case h_2 htk =>
          split at hk
          case h_2 =>
            split at hk
            case h_2 => exact hk.elim
            case h_1 L hmat =>
              split at hk
              case h_2 => exact hk.elim
              case h_1 hml =>
                have hml' := Nat.eq_of_beq_eq_true hml
                have spec : ∀ {ps : List (Nat × AVal)} {n : Nat} {L : List (List Int × List (List Int))} {vs : List (Nat × Value)}, shMats n ps = some L → F2 (fun (p : Nat × AVal) (q : Nat × Value) => p.1 = q.1 ∧ VR w ob st η p.2 q.2) ps vs →
                    ∃ us : List Value, vs = (us.zipIdx n).map (fun (u, i) => (i, u)) ∧ F2 (SRec w (badOf ob st.hp η) 0) L (us.map fun u => [u]) ∧ ∀ u, u ∈ us → u.cells = #[u] := by
                  intro ps
                  induction ps with
                  | nil =>
                    intro n L vs hs hf
                    cases vs with
                    | cons _ _ => exact hf.elim
                    | nil => simp only [shMats, Option.some.injEq] at hs; subst hs; exact ⟨[], rfl, trivial, fun u hu => by simp at hu⟩
                  | cons p ps ih =>
                    intro n L vs hs hf
                    cases vs with
                    | nil => exact hf.elim
                    | cons q vs =>
                      obtain ⟨⟨h1, h2⟩, h3⟩ := hf
                      obtain ⟨i, x⟩ := p
                      unfold shMats at hs
                      split at hs
                      case h_1 heq => cases heq
                      case h_2 i' l r heq =>
                        simp only [List.cons.injEq, Prod.mk.injEq] at heq
                        obtain ⟨⟨rfl, rfl⟩, rfl⟩ := heq
                        split at hs
                        case h_2 => cases hs
                        case h_1 hin =>
                          have := Nat.eq_of_beq_eq_true hin
                          subst this
                          split at hs
                          case h_2 => cases hs
                          case h_1 m' hm' =>
                            simp only [Option.some.injEq] at hs
                            subst hs
                            obtain ⟨us, e1, e2, e3⟩ := ih hm' h3
                            refine ⟨q.2 :: us, ?_, ⟨⟨rfl, q.2, rfl, h2⟩, e2⟩, fun u hu => ?_⟩
                            · simp only [List.zipIdx_cons, List.map_cons, List.cons.injEq]
                              exact ⟨Prod.ext h1.symm rfl, e1⟩
                            · rcases List.mem_cons.1 hu with rfl | hu
                              · obtain ⟨b, c, hu', _⟩ := h2
                                rw [hu']; rfl
                              · exact e3 u hu
                      case h_3 => cases hs
                obtain ⟨us, hvs, hF, hcell⟩ := spec hmat hps
                have hul : L.length = us.length := by have := F2.length hF; simpa using this
                have hfill := fill_seq (zv := .slice none 0 0) (pre := []) (us := us) hvs hcell
                simp only [List.nil_append] at hfill
                have hrun := run_buildSlice (w := w) ht hte rfl rfl hle' (vs := vs) (cs := us) (by rw [← hml', hul]; exact hfill)
                obtain ⟨η', hs, hv⟩ := h.newRecs (e := e) (s := 0) (L := L) (css := us.map fun u => [u]) (by unfold maxLen; omega) hF
                have hfl : (us.map fun u => [u]).flatten = us := by
                  clear hvs hF hcell hul hfill hrun hs hv
                  induction us with
                  | nil => rfl
                  | cons u r ih => simp [ih]
                rw [hfl] at hs hv
                rw [hml'] at hv
                exact ⟨_, _, _, _, η', hk, rfl, hs, hv, hrun, below_alloc _ _⟩
          case h_1 m hsh =>
            split at hk
            case h_2 => exact hk.elim
            case h_1 hml =>
              have hml' := Nat.eq_of_beq_eq_true hml
              have spec : ∀ {ps : List (Nat × AVal)} {n : Nat} {m : List (List Int)} {vs : List (Nat × Value)}, shRows st n ps = some m → F2 (fun (p : Nat × AVal) (q : Nat × Value) => p.1 = q.1 ∧ VR w ob st η p.2 q.2) ps vs →
                  ∃ us : List Value, vs = (us.zipIdx n).map (fun (u, i) => (i, u)) ∧ F2 (SInts w (badOf ob st.hp η) .i64) m us := by
                intro ps
                induction ps with
                | nil =>
                  intro n m vs hs hf
                  cases vs with
                  | cons _ _ => exact hf.elim
                  | nil => simp only [shRows, Option.some.injEq] at hs; subst hs; exact ⟨[], rfl, trivial⟩
                | cons p ps ih =>
                  intro n m vs hs hf
                  cases vs with
                  | nil => exact hf.elim
                  | cons q vs =>
                    obtain ⟨⟨h1, h2⟩, h3⟩ := hf
                    obtain ⟨i, x⟩ := p
                    unfold shRows at hs
                    split at hs
                    case h_1 heq => cases heq
                    case h_2 i' l r heq =>
                      simp only [List.cons.injEq, Prod.mk.injEq] at heq
                      obtain ⟨⟨rfl, rfl⟩, rfl⟩ := heq
                      split at hs
                      case h_2 => cases hs
                      case h_1 hin =>
                        have := Nat.eq_of_beq_eq_true hin
                        subst this
                        split at hs
                        case h_2 => cases hs
                        case h_1 m' hm' =>
                          simp only [Option.some.injEq] at hs
                          subst hs
                          obtain ⟨us, e1, e2⟩ := ih hm' h3
                          refine ⟨q.2 :: us, ?_, h2, e2⟩
                          simp only [List.zipIdx_cons, List.map_cons, List.cons.injEq]
                          exact ⟨Prod.ext h1.symm rfl, e1⟩
                    case h_3 => cases hs
              obtain ⟨us, hvs, hF⟩ := spec hsh hps
              have hul := F2.length hF
              have hfill := fill_seq (zv := .slice none 0 0) (pre := []) (us := us) hvs (fun u hu => by
                obtain ⟨i, hi⟩ := List.getElem?_of_mem hu
                obtain ⟨l, _, ho⟩ := F2.at' hF hi
                obtain ⟨b, c, hu', _⟩ := ho
                rw [hu']; rfl)
              simp only [List.nil_append] at hfill
              have hrun := run_buildSlice (w := w) ht hte rfl rfl hle' (vs := vs) (cs := us) (by rw [← hml', hul]; exact hfill)
              obtain ⟨η', hs, hv⟩ := h.newShared (e := e) (e1 := e1) (m := m) (cs := us) (by unfold maxLen; omega) hF
              rw [hml'] at hv
              exact ⟨_, _, _, _, η', hk, rfl, hs, hv, hrun, below_alloc _ _⟩
end
end Go.Aw

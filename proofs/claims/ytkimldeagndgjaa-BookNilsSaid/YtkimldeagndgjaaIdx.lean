/- The index of IDs: a map with keys that are structs, and a count: words. -/
import Derived.Test.YtkimldeagndgjaaProg
import Derived.Test.YtkimldeagndgjaaMem
import Derived.Test.YtkimldeagndgjaaUntil
import Derived.MapKept
import Derived.ChangeMaps5
import Derived.Carry
namespace Go.Proofs.Ytkimldeagndgjaa
set_option linter.unusedVariables false
set_option linter.unusedSimpArgs false
open Go.RowKit Go.ChangeMaps

def keyV (id : Int) : Value := .agg #[.int .i64 0, .int .i64 id]
/-- Block b is a map of these entries. -/
def MBlk (w : World) (b : Nat) (es : Array MapEntry) (clock : Nat) : Prop := w.heap[b]? = some (.map es clock)
section
variable {a w : World} {S : List Nat} {b clock : Nat} {es : Array MapEntry}
theorem MBlk.via (hf : Fr S a w) (hg : b ∉ S) (h : MBlk a b es clock) : MBlk w b es clock := (hf.block b (Array.getElem?_eq_some_iff.1 h).1 hg).trans h
theorem MBlk.lt (h : MBlk w b es clock) : b < w.heap.size := (Array.getElem?_eq_some_iff.1 h).1
theorem MBlk.ne {g : Nat} {t : TypeId} {cs : Array Value} (h : MBlk w b es clock) (h' : Blk w g t cs) : b ≠ g := by
  rintro rfl
  unfold MBlk at h; unfold Blk at h'
  rw [h] at h'; cases h'
theorem MBlk.set (h : MBlk w b es clock) (es' : Array MapEntry) (clock' : Nat) : MBlk (setBlock w b (.map es' clock')) b es' clock' := heap_setBlock_same h _
theorem MBlk.fr (h : MBlk w b es clock) (o : Obj) : Fr [b] w (setBlock w b o) :=
  ⟨rfl, rfl, rfl, by simp [setBlock], fun k _ hk => heap_setBlock_other h o (by simpa using hk)⟩
end

theorem check_key (w : World) (e : Bool) (id : Int) : (Instr.checkKey e 10000 148 (keyV id)).run Try.prog w = .ok () w := by kernel_rfl
theorem check_int (w : World) (e : Bool) (id : Int) : (Instr.checkKey e 10000 3 (.int .i64 id)).run Try.prog w = .ok () w := by kernel_rfl
theorem equal_key (w : World) (a b : Int) : (Op.equal 148 (keyV a) (keyV b)).run Try.prog w = .ok (a == b) w := by
  unfold Op.equal Op.maxDepth keyV
  rw [run_equalIn_agg _ _ _ _ _ (by kernel_rfl) (by kernel_rfl)]
  go_simp
  by_cases h : a = b <;> simp [h]
theorem zero_int (w : World) : (zeroValue 3).run Try.prog w = .ok (.int .i64 0) w := by kernel_rfl

abbrev Ent := Int × Nat × Nat
def ent (p : Ent) : MapEntry := ⟨keyV p.1, .int .i64 p.2.1, p.2.2⟩
def posE (id : Int) : List Ent → Nat → Option (Nat × Value)
  | [], _ => none
  | p :: r, i => if id == p.1 then some (i, .int .i64 p.2.1) else posE id r (i + 1)
theorem find_asking (w : World) (id : Int) : ∀ (l : List Ent) (i : Nat), (Instr.findAsking 148 (keyV id) (l.map ent) i).run Try.prog w = .ok (posE id l i) w
  | [], i => by simp [Instr.findAsking, posE]
  | p :: r, i => by
    simp only [List.map_cons, Instr.findAsking, Sem.run_bind, ent, equal_key, Result.andThen_ok, posE]
    split
    · simp
    · exact find_asking w id r (i + 1)
theorem und_key : ∃ fs, Try.prog.underlying 148 = some (.struct fs) := by
  refine ⟨Try.prog.fieldsOf 148, ?_⟩
  kernel_rfl
theorem find_key (w : World) (id : Int) (l : List Ent) : (Instr.findKey 148 (keyV id) (l.map ent)).run Try.prog w = .ok (posE id l 0) w := by
  obtain ⟨fs, hu⟩ := und_key
  unfold Instr.findKey
  rw [Sem.run_bind, run_underlying hu]
  cases l with
  | nil => simp [Instr.findNow, posE]
  | cons p r =>
    simp only [List.map_cons, Instr.findNow, Instr.sameNow, Result.andThen_ok]
    exact find_asking w id (p :: r) 0
theorem posE_none {id : Int} : ∀ {l : List Ent} {i : Nat}, (∀ p ∈ l, p.1 ≠ id) → posE id l i = none
  | [], _, _ => rfl
  | p :: r, i, h => by
    have h1 := h p (by simp)
    unfold posE
    rw [if_neg (by simpa using fun e => h1 e.symm)]
    exact posE_none fun q hq => h q (by simp [hq])
theorem posE_some {id : Int} {s b : Nat} : ∀ {l1 : List Ent} {l2 : List Ent} {i : Nat}, (∀ p ∈ l1, p.1 ≠ id) → posE id (l1 ++ (id, s, b) :: l2) i = some (i + l1.length, .int .i64 s)
  | [], _, _, _ => by simp [posE]
  | p :: r, l2, i, h => by
    have h1 := h p (by simp)
    simp only [List.cons_append]
    unfold posE
    rw [if_neg (by simpa using fun e => h1 e.symm), posE_some fun q hq => h q (by simp [hq])]
    simp; omega

theorem lookS (w : World) (b : Nat) (l : List Ent) (clock : Nat) (hb : MBlk w b (l.map ent).toArray clock) (id : Int) :
    (Instr.lookup 196 (.map (some b)) (keyV id) true).run Try.prog w = .ok (match posE id l 0 with | some (_, v) => .tuple #[v, .bool true] | none => .tuple #[.int .i64 0, .bool false]) w := by
  simp only [Instr.lookup, Sem.run_bind, run_underlying Try.underlying196, Result.andThen_ok, MapKept.run_getObj_map hb, Sem.run_pure, check_key, find_key]
  cases posE id l 0 with
  | none => simp [zero_int]
  | some p => simp
theorem updS (w : World) (b : Nat) (l : List Ent) (clock : Nat) (hb : MBlk w b (l.map ent).toArray clock) (id : Int) (s : Nat) (hn : ∀ p ∈ l, p.1 ≠ id) :
    (Instr.mapUpdate 196 (.map (some b)) (keyV id) (.int .i64 s)).run Try.prog w = .ok () (setBlock w b (.map ((l ++ [(id, s, clock)]).map ent).toArray (clock + 1))) := by
  simp only [Instr.mapUpdate, Sem.run_bind, run_underlying Try.underlying196, Result.andThen_ok, MapKept.run_getObj_map hb, check_key, find_key, posE_none hn, MapKept.run_setObj_map _ hb]
  simp [setBlock, ent]
theorem delS (w : World) (b : Nat) (l1 l2 : List Ent) (clock : Nat) (id : Int) (s n : Nat) (hb : MBlk w b ((l1 ++ (id, s, n) :: l2).map ent).toArray clock) (hn : ∀ p ∈ l1, p.1 ≠ id) (ty : TypeId) :
    (Builtin.delete_ #[196, 148] ty #[.map (some b), keyV id]).run Try.prog w = .ok (.tuple #[]) (setBlock w b (.map ((l1 ++ l2).map ent).toArray clock)) := by
  have e : (((l1 ++ (id, s, n) :: l2).map ent).toArray.eraseIdxIfInBounds l1.length) = ((l1 ++ l2).map ent).toArray := by
    unfold Array.eraseIdxIfInBounds
    rw [dif_pos (by simp)]
    simp [List.eraseIdx_append_of_length_le]
  simp only [Builtin.delete_, List.getElem?_toArray, List.getElem?_cons_zero, List.getElem?_cons_succ, Sem.run_bind, run_underlying Try.underlying196, Result.andThen_ok, MapKept.run_getObj_map hb, check_key, find_key, posE_some hn, Nat.zero_add, MapKept.run_setObj_map _ hb, e, Sem.run_pure]
  simp [setBlock]
/-- .. the count: a map of one entry at most. -/
def cntE (n born : Nat) : Array MapEntry := if n = 0 then #[] else #[⟨.int .i64 0, .int .i64 n, born⟩]
theorem lookC (w : World) (b n born clock : Nat) (hb : MBlk w b (cntE n born) clock) :
    (Instr.lookup 197 (.map (some b)) (.int .i64 0) false).run Try.prog w = .ok (.int .i64 n) w := by
  by_cases hn : n = 0
  · subst hn
    simp only [Instr.lookup, Sem.run_bind, run_underlying Try.underlying197, Result.andThen_ok, MapKept.run_getObj_map hb, Sem.run_pure, check_int, Instr.findKey, run_underlying Try.underlying3]
    simp [cntE, Instr.findNow, zero_int]
  · simp only [Instr.lookup, Sem.run_bind, run_underlying Try.underlying197, Result.andThen_ok, MapKept.run_getObj_map hb, Sem.run_pure, check_int, Instr.findKey, run_underlying Try.underlying3]
    simp [cntE, hn, Instr.findNow, Instr.sameNow]
theorem updC (w : World) (b n born clock : Nat) (hb : MBlk w b (cntE n born) clock) (k : Nat) (hk : k ≠ 0) :
    ∃ born' clock', (Instr.mapUpdate 197 (.map (some b)) (.int .i64 0) (.int .i64 k)).run Try.prog w = .ok () (setBlock w b (.map (cntE k born') clock')) := by
  by_cases hn : n = 0
  · subst hn
    refine ⟨clock, clock + 1, ?_⟩
    simp only [Instr.mapUpdate, Sem.run_bind, run_underlying Try.underlying197, Result.andThen_ok, MapKept.run_getObj_map hb, check_int, Instr.findKey, run_underlying Try.underlying3]
    simp [cntE, Instr.findNow, MapKept.run_setObj_map _ hb, setBlock, hk]
  · refine ⟨born, clock, ?_⟩
    simp only [Instr.mapUpdate, Sem.run_bind, run_underlying Try.underlying197, Result.andThen_ok, MapKept.run_getObj_map hb, check_int, Instr.findKey, run_underlying Try.underlying3]
    simp [cntE, hn, Instr.findNow, Instr.sameNow, Instr.keyThatStays, Instr.sameBits, MapKept.run_setObj_map _ hb, setBlock, hk]
/-- .. a count of 0, on its way to be deleted. -/
theorem updC0 (w : World) (b n born clock : Nat) (hb : MBlk w b (cntE n born) clock) (hn : n ≠ 0) :
    (Instr.mapUpdate 197 (.map (some b)) (.int .i64 0) (.int .i64 0)).run Try.prog w = .ok () (setBlock w b (.map #[⟨.int .i64 0, .int .i64 0, born⟩] clock)) := by
  unfold cntE at hb
  rw [if_neg hn] at hb
  simp only [Instr.mapUpdate, Sem.run_bind, run_underlying Try.underlying197, Result.andThen_ok, MapKept.run_getObj_map hb, check_int, Instr.findKey, run_underlying Try.underlying3]
  simp [Instr.findNow, Instr.sameNow, Instr.keyThatStays, Instr.sameBits, MapKept.run_setObj_map _ hb, setBlock]
theorem lookC0 (w : World) (b born clock : Nat) (hb : MBlk w b #[⟨.int .i64 0, .int .i64 0, born⟩] clock) :
    (Instr.lookup 197 (.map (some b)) (.int .i64 0) false).run Try.prog w = .ok (.int .i64 0) w := by
  simp only [Instr.lookup, Sem.run_bind, run_underlying Try.underlying197, Result.andThen_ok, MapKept.run_getObj_map hb, Sem.run_pure, check_int, Instr.findKey, run_underlying Try.underlying3]
  simp [Instr.findNow, Instr.sameNow]
theorem delC0 (w : World) (b born clock : Nat) (hb : MBlk w b #[⟨.int .i64 0, .int .i64 0, born⟩] clock) (ty : TypeId) :
    (Builtin.delete_ #[197, 3] ty #[.map (some b), .int .i64 0]).run Try.prog w = .ok (.tuple #[]) (setBlock w b (.map (cntE 0 0) clock)) := by
  simp only [Builtin.delete_, List.getElem?_toArray, List.getElem?_cons_zero, List.getElem?_cons_succ, Sem.run_bind, run_underlying Try.underlying197, Result.andThen_ok, MapKept.run_getObj_map hb, check_int, Instr.findKey, run_underlying Try.underlying3]
  simp [Instr.findNow, Instr.sameNow, MapKept.run_setObj_map _ hb, setBlock, cntE, Array.eraseIdxIfInBounds]

section
variable {P : Program} {ops : Array Oper} {rest : List Oper} {o : Oper} {a : Act} {w w' : World} {Q : Exit → Act → World → Prop}
theorem wpList_update (hgd : o.guard = none) (t : TypeId) (x y z : Operand) (ho : o.op = .mapUpdate t x y z) (m k v : Value) (hm : a.eval x = m) (hk : a.eval y = k) (hv : a.eval z = v)
    (hrun : (Instr.mapUpdate t m k v).run P w = .ok () w') (h : wpList P ops Q rest (a.put o.dst undef) w') : wpList P ops Q (o :: rest) a w := by
  refine wpList_plain hgd fun Kq hKq => ?_
  unfold Oper.wp
  simp [execOp, ho, hm, hk, hv, hrun, Result.andThen]
  exact hKq _ _ h
theorem wpList_delete (hgd : o.guard = none) (x y : Operand) (t1 t2 : TypeId) (ho : o.op = .call { callee := .builtin .delete, args := #[x, y], argTypes := #[t1, t2] }) (m k : Value) (hm : a.eval x = m) (hk : a.eval y = k)
    (hrun : (Builtin.delete_ #[t1, t2] o.type #[m, k]).run P w = .ok (.tuple #[]) w') (h : wpList P ops Q rest (a.put o.dst (.tuple #[])) w') : wpList P ops Q (o :: rest) a w := by
  refine wpList_plain hgd fun Kq hKq => ?_
  unfold Oper.wp execOp
  simp only [ho, resolve, invoke, builtin, Sem.run_bind, Sem.run_pure, Result.andThen_ok, List.map_toArray, List.map_cons, List.map_nil, hm, hk, hrun]
  exact hKq _ _ h
end
end Go.Proofs.Ytkimldeagndgjaa

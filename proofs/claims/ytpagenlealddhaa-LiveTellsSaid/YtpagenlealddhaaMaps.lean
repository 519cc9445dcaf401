/- m[k]++ where the look-up and the entry come up in any order. Conditions: the map's key is of a kind that can be looked up. -/
import Derived.Test.YtpagenlealddhaaHeldB
import Derived.Maps.OwnSet
import Derived.Maps.OwnOps
import Derived.WideKeyEntry
namespace Go.Proofs.Ytpagenlealddhaa
open Go.RowKit Go.Maps Go.MapKept Go.ChangeMaps Go.WideElems Go.ChangeShapes

/-- Ways that meet again ahead of the last part: told once. -/
theorem scrEnd {P : Program} {ops : Array Oper} {Q : Exit → Act → World → Prop} {S : World → Prop} {T : Scr} (Tend : Scr) {a0 : Act} {w0 : World} (F : Act → Act → World → Prop) (hF : ∀ a' w', F a0 a' w' → S w' → wpScr P ops Q S Tend a' w')
    (h : Hid (∀ a' w', F a0 a' w' → S w' → wpScr P ops Q S Tend a' w') → wpScr P ops Q S T a0 w0) : wpScr P ops Q S T a0 w0 := h hF

/-- An operation that is not wanted. -/
theorem tkSkip {P : Program} {ops : Array Oper} {Q : Exit → Act → World → Prop} {S : World → Prop} {i : Nat} {r : Scr} {a : Act} {w : World} {o : Oper} (ho : nth ops.toList i = some o) (hw : Region.wanted o (yielded ops a.tmps) = false) (hS : S w)
    (h : wpScr P ops Q S r (a.put o.dst undef) w) : wpScr P ops Q S (.take i r) a w :=
  ⟨o, undef, nth_ops ho, .inr ⟨hw, rfl⟩, hS, h⟩

section
variable {H : Type} {P : Program} {k t e : TypeId} {R : Value → Option (DataW H × List MemPlace)} {w : World} {b n : Nat} {D : DataW H}

theorem grown_set {es : Array MapEntry} {clock : Nat} (hb : w.heap[b]? = some (.map es clock)) (o : Obj) : w.grownBy (setBlock w b o) (some b) ∧ (setBlock w b o).heap.size = w.heap.size :=
  ⟨⟨rfl, rfl, rfl, by simp [setBlock], fun i _ hi => heap_setBlock_other hb _ (fun e => hi (by rw [e]))⟩, by simp [setBlock]⟩
theorem ownsMap_of_block {w' : World} (h : w.ownsMap P k R b n D) (hb : w'.heap[b]? = w.heap[b]?) : w'.ownsMap P k R b n D := by
  obtain ⟨es, clock, h1, h2, h3, h4⟩ := h
  exact ⟨es, clock, hb.trans h1, h2, h3, h4⟩

/-- The entry at a key, and what is stored into it, whatever else was done between. -/
theorem own_entry (h : w.ownsMap P k R b n D) (K : Keyed P k) (ht : P.underlying t = some (.map k e)) (hn : n < maxLen) {z : Value} (hz : ∀ u : World, (zeroValue e).run P u = .ok z u) {zd : DataW H} {zp : List MemPlace} (hzd : R z = some (zd, zp))
    {key : Value} {kl : Lit} (hkey : keyOf P k key = some kl) :
    ∃ (v0 : Value) (st : Nat) (w1 : World), (Instr.mapEntry t (.map (some b)) key).run P w = .ok (.tuple #[v0, goInt st]) w1 ∧ w.grownBy w1 (some b) ∧ w1.heap.size = w.heap.size ∧
      (∃ D1, w1.ownsMap P k R b (n + 1) D1 ∧ D1.atKey kl zd = D.atKey kl zd) ∧
      ∀ (w2 : World) (val : Value) (d : DataW H) (ps : List MemPlace), w2.heap[b]? = w1.heap[b]? → R val = some (d, ps) →
        ∃ w3, (Instr.entryStore t (.map (some b)) (goInt st) val).run P w2 = .ok () w3 ∧ w3.ownsMap P k R b (n + 1) (D.put kl d) ∧ w2.grownBy w3 (some b) ∧ w3.heap.size = w2.heap.size := by
  have hown := h
  obtain ⟨es, clock, hb, F, hs, hD⟩ := h
  obtain ⟨s1, s2, _⟩ := F.stamped
  have same : ∀ {w2 w' : World} {es' : Array MapEntry} {clock' : Nat} {d : DataW H}, w'.ownsMap P k R b (n + 1) (D.put kl d) → w' = setBlock w b (.map es' clock') → (∃ es2 c2, w2.heap[b]? = some (.map es2 c2)) → (setBlock w2 b (.map es' clock')).ownsMap P k R b (n + 1) (D.put kl d) := by
    rintro w2 w' es' clock' d h1 rfl ⟨es2, c2, h2⟩
    exact ownsMap_of_block h1 ((heap_setBlock_same h2 _).trans (heap_setBlock_same hb _).symm)
  rcases K.find w hkey es.toList F.keys with ⟨h1, h2⟩ | ⟨j, e0, h1, h2, h3⟩
  · -- a new entry
    obtain ⟨wz, z1, z2, z3⟩ := hown.update K ht hn hkey hzd
    have up : ∀ val : Value, (Instr.mapUpdate t (.map (some b)) key val).run P w = .ok () (setBlock w b (.map (es.push ⟨key, val, clock⟩) (clock + 1))) := fun val => by
      simp [Instr.mapUpdate, run_underlying ht, MapKept.run_getObj_map hb, K.check w false hkey, h1, MapKept.run_setObj_map _ hb, Result.andThen, setBlock]
    have ez : wz = setBlock w b (.map (es.push ⟨key, z, clock⟩) (clock + 1)) := by
      rw [up z] at z1
      injection z1 with _ z1
      exact z1.symm
    have miss : D.atKey kl zd = zd := by
      rcases Maps.fit_look false K ht (hz w) hb F hkey with ⟨_, _, hat⟩ | ⟨e1, y, he1, hk1, _⟩
      · rw [hD]; exact hat zd
      · exact absurd hk1 (h2 e1 he1)
    refine ⟨z, clock, wz, ?_, z3, by rw [ez]; exact (grown_set hb _).2, ⟨D.put kl zd, z2, ?_⟩, fun w2 val d ps hw2 hv => ?_⟩
    · rw [ez]
      simp [Instr.mapEntry, run_underlying ht, MapKept.run_getObj_map hb, K.check w false hkey, h1, hz, MapKept.run_setObj_map _ hb, Result.andThen, setBlock]
    · rw [miss, hD]
      exact Maps.atKey_put_same ⟨_, rfl⟩ (K.key hkey) _ _
    · have hw2' : w2.heap[b]? = some (.map (es.push ⟨key, z, clock⟩) (clock + 1)) := by rw [hw2, ez]; exact heap_setBlock_same hb _
      have hidx : (es.push ⟨key, z, clock⟩).findIdx? (fun e => ((e.born : Nat) : Int) == ((clock : Nat) : Int)) = some es.size := by
        rw [findIdx_arr]
        refine findIdx_born (l := (es.push ⟨key, z, clock⟩).toList) (j := es.size) (e0 := ⟨key, z, clock⟩) ?_ (by simp)
        simp only [Array.toList_push, List.map_append, List.map_cons, List.map_nil]
        refine List.nodup_append.2 ⟨s2, by simp, fun a ha c hc e1 => ?_⟩
        simp only [List.mem_singleton] at hc
        obtain ⟨x, hx, rfl⟩ := List.mem_map.1 ha
        have := s1 x hx
        omega
      have hmod : (es.push ⟨key, z, clock⟩).modify es.size (fun e => { e with val := val }) = es.push ⟨key, val, clock⟩ := by
        apply Array.ext'
        rw [Array.toList_modify, Array.toList_push, Array.toList_push, ← Array.length_toList, modify_last]
      obtain ⟨wv, v1, v2, _⟩ := hown.update K ht hn hkey hv
      rw [up val] at v1
      injection v1 with _ v1
      refine ⟨setBlock w2 b (.map (es.push ⟨key, val, clock⟩) (clock + 1)), ?_, same v2 v1.symm ⟨_, _, hw2'⟩, (grown_set hw2' _).1, (grown_set hw2' _).2⟩
      simp [Instr.entryStore, MapKept.run_getObj_map hw2', asInt, asIntOf, goInt, hidx, hmod, MapKept.run_setObj_map _ hw2', Result.andThen, setBlock]
  · -- the entry is there
    have hj : es[j]? = some e0 := by simpa using h2
    have hsame : es.modify j (fun e => { e with key := key }) = es := by
      apply Array.ext'
      rw [Array.toList_modify, modify_eq_set _ _ _ _ h2]
      have : ({ e0 with key := key } : MapEntry) = e0 := by rw [← h3]
      rw [this]
      exact set_self _ _ _ h2
    have hw1 : (setBlock w b (.map es clock)).heap[b]? = some (.map es clock) := heap_setBlock_same hb _
    refine ⟨e0.val, e0.born, setBlock w b (.map es clock), ?_, (grown_set hb _).1, (grown_set hb _).2, ⟨D, (ownsMap_of_block hown (hw1.trans hb.symm)).mono (Nat.le_succ _), rfl⟩, fun w2 val d ps hw2 hv => ?_⟩
    · simp [Instr.mapEntry, run_underlying ht, MapKept.run_getObj_map hb, K.check w false hkey, h1, hj, h3, K.stays w hkey, hsame, MapKept.run_setObj_map _ hb, Result.andThen, setBlock]
    · have hw2' : w2.heap[b]? = some (.map es clock) := hw2.trans hw1
      have hidx : es.findIdx? (fun e => ((e.born : Nat) : Int) == ((e0.born : Nat) : Int)) = some j := by
        rw [findIdx_arr]
        exact findIdx_born s2 h2
      have hmod : es.modify j (fun e => { e with val := val }) = es.modify j (fun e' => { e' with key := key, val := val }) := by
        apply Array.ext'
        rw [Array.toList_modify, Array.toList_modify, modify_eq_set _ _ _ _ h2, modify_eq_set _ _ _ _ h2, ← h3]
      obtain ⟨wv, v1, v2, _⟩ := hown.update K ht hn hkey hv
      have up : (Instr.mapUpdate t (.map (some b)) key val).run P w = .ok () (setBlock w b (.map (es.modify j (fun e' => { e' with key := key, val := val })) clock)) := by
        simp [Instr.mapUpdate, run_underlying ht, MapKept.run_getObj_map hb, K.check w false hkey, h1, hj, h3, K.stays w hkey, MapKept.run_setObj_map _ hb, Result.andThen, setBlock]
      rw [up] at v1
      injection v1 with _ v1
      refine ⟨setBlock w2 b (.map (es.modify j (fun e' => { e' with key := key, val := val })) clock), ?_, same v2 v1.symm ⟨_, _, hw2'⟩, (grown_set hw2' _).1, (grown_set hw2' _).2⟩
      simp [Instr.entryStore, MapKept.run_getObj_map hw2', asInt, asIntOf, goInt, hidx, hmod, MapKept.run_setObj_map _ hw2', Result.andThen, setBlock]
end
end Go.Proofs.Ytpagenlealddhaa

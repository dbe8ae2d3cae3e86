/- Communication in one goroutine, for the kit's walk: a region in which a select of one send (with a default), a plain or a comma-ok receive stands. Conditions: the channel has room; it holds something; it is closed and empty. -/
import Derived.Conc.LoneSelect
import Derived.Tactics
namespace Go.Proofs.Ytfojhmobnedekaa
open Go.RowKit Go.Conc

/-- From within a region. -/
def RunsAt (P : Program) (ops : Array Oper) (Q : Exit → Act → World → Prop) (l : List Nat) (a : Act) (w : World) : Prop :=
  ∀ (b : Frame) (k : List Item) (cs : List Frame), ∃ e a' w', Q e a' w' ∧ Arrives P (lone (b.at a (.inRegion ops l :: k)) cs w) b k cs e a' w'

section
variable {P : Program} {ops : Array Oper} {Q : Exit → Act → World → Prop} {a : Act} {w w' : World} {i : Nat} {rest : List Nat} {o : Oper}
theorem RunsAt.region {id : Nat} (h : RunsAt P ops Q (List.range ops.size) a w) : (Code.region id ops false).wp P Q a w :=
  fun b k cs => let ⟨e, a', w', q, r⟩ := h b k cs; ⟨e, a', w', q, .of_steps (.one step_region) r⟩
theorem RunsAt.of_ops {l : List Nat} (h : wpOps P ops Q l a w) : RunsAt P ops Q l a w := wp_ops l a w h
theorem RunsAt.nil (h : Q .normal a w) : RunsAt P ops Q [] a w := fun _ _ _ => ⟨.normal, a, w, h, .one step_region_end⟩
theorem fin_at {b : Frame} {k : List Item} (ho : ops[i]? = some o) (v : Value) : (b.at a (.inRegion ops (i :: rest) :: k)).finish v = b.at (a.put o.dst v) (.inRegion ops rest :: k) := by
  rw [Frame.finish_at, ho]; rfl
theorem RunsAt.value {v : Value} (ho : ops[i]? = some o) (hw : Region.wanted o (yielded ops a.tmps) = true) (hr : (execOp a.eval o).run P w = .ok (.value v) w')
    (h : RunsAt P ops Q rest (a.put o.dst v) w') : RunsAt P ops Q (i :: rest) a w := by
  intro b k cs
  obtain ⟨e, a', w'', hq, harr⟩ := h b k cs
  refine ⟨e, a', w'', hq, .of_steps (.one (step_lone_go ?_)) harr⟩
  rw [stepG_op ho hw, ← fin_at ho]; simp [stepG.apply, hr]
theorem RunsAt.skip (ho : ops[i]? = some o) (hw : Region.wanted o (yielded ops a.tmps) = true) (hr : (execOp a.eval o).run P w = .ok .skip w')
    (h : RunsAt P ops Q rest (a.put o.dst undef) w') : RunsAt P ops Q (i :: rest) a w := by
  intro b k cs
  obtain ⟨e, a', w'', hq, harr⟩ := h b k cs
  refine ⟨e, a', w'', hq, .of_steps (.one (step_lone_go ?_)) harr⟩
  rw [stepG_op ho hw, ← fin_at ho]; simp [stepG.apply, hr]
theorem comm_step {cases : Array CommCase} {blocking : Bool} {shape : CommShape} (ho : ops[i]? = some o) (hw : Region.wanted o (yielded ops a.tmps) = true)
    (hr : (execOp a.eval o).run P w = .ok (.comm cases blocking shape) w') (b : Frame) (k : List Item) (cs : List Frame) :
    ∃ es, stepG P true (G (b.at a (.inRegion ops (i :: rest) :: k)) cs) w = .comm (G (b.at a (.inRegion ops (i :: rest) :: k)) cs) cases blocking shape w' es := by
  rw [stepG_oper ho hw]
  simp [stepG.apply, hr, G, Frame.at, GStep.after]
theorem RunsAt.comm {v : Value} {w₁ : World} {cases : Array CommCase} {blocking : Bool} {shape : CommShape} (ho : ops[i]? = some o) (hw : Region.wanted o (yielded ops a.tmps) = true)
    (hr : (execOp a.eval o).run P w = .ok (.comm cases blocking shape) w₁)
    (hs : ∀ (fr : Frame) (cs : List Frame) (es : Array Event), stepG P true (G fr cs) w = .comm (G fr cs) cases blocking shape w₁ es → step P (solo (G fr cs) w) = .next (solo (G (fr.finish v) cs) w'))
    (h : RunsAt P ops Q rest (a.put o.dst v) w') : RunsAt P ops Q (i :: rest) a w := by
  intro b k cs
  obtain ⟨es, he⟩ := comm_step (rest := rest) ho hw hr b k cs
  obtain ⟨e, a', w'', hq, harr⟩ := h b k cs
  refine ⟨e, a', w'', hq, .of_steps (.one ?_) harr⟩
  have := hs _ cs es he
  rw [fin_at ho] at this
  exact this
theorem RunsAt.select_send {c cap s r : Nat} {buf : Array Value} {v z : Value} {tm : Bool} (ho : ops[i]? = some o) (hw : Region.wanted o (yielded ops a.tmps) = true)
    (hr : (execOp a.eval o).run P w = .ok (.comm #[scase c v z] false .select) w) (hc : w.heap[c]? = some (.chan cap buf false s r tm)) (hroom : buf.size < cap)
    (h : RunsAt P ops Q rest (a.put o.dst (.tuple #[goInt 0, .bool false])) (w.setChan c cap (buf.push v) false (s + 1) r tm)) : RunsAt P ops Q (i :: rest) a w :=
  RunsAt.comm ho hw hr (fun _ _ _ he => step_lone_select_send_room he hc hroom) h
theorem RunsAt.recv_buf {c cap s r : Nat} {buf : Array Value} {z : Value} {tm closed : Bool} (ok : Bool) (ho : ops[i]? = some o) (hw : Region.wanted o (yielded ops a.tmps) = true)
    (hr : (execOp a.eval o).run P w = .ok (.comm #[rcase c z] true (.recv ok)) w) (hc : w.heap[c]? = some (.chan cap buf closed s r tm)) (hsome : 0 < buf.size)
    (h : RunsAt P ops Q rest (a.put o.dst (got ok (buf.getD 0 undef) true)) (w.setChan c cap (buf.extract 1 buf.size) closed s (r + 1) tm)) : RunsAt P ops Q (i :: rest) a w :=
  RunsAt.comm ho hw hr (fun _ _ _ he => step_lone_recv_buf ok he hc hsome) h
theorem RunsAt.recv_shut {c cap s r : Nat} {z : Value} {tm : Bool} (ok : Bool) (ho : ops[i]? = some o) (hw : Region.wanted o (yielded ops a.tmps) = true)
    (hr : (execOp a.eval o).run P w = .ok (.comm #[rcase c z] true (.recv ok)) w) (hc : w.heap[c]? = some (.chan cap #[] true s r tm))
    (h : RunsAt P ops Q rest (a.put o.dst (got ok z false)) w) : RunsAt P ops Q (i :: rest) a w :=
  RunsAt.comm ho hw hr (fun _ _ _ he => step_lone_recv_shut ok he hc) h
end
end Go.Proofs.Ytfojhmobnedekaa

/-
  The marks of every struct. Printed by my program types.py.
-/
import Derived.Test.YtfdhfnoljejkkaaSepW
set_option linter.unusedVariables false
namespace Go.Sep
open Go Go.RowKit
def mkI (x : Int) (k : Int) : Int := k
def cI (x : Int) : Nat := 1
def mkB (x : Bool) (k : Int) : Bool := decide ((k).tmod 3 = 0)
def cB (x : Bool) : Nat := 1
def mkT (x : ByteArray) (k : Int) : ByteArray := mText (k)
def cT (x : ByteArray) : Nat := 1
def mkCell (x : SCell) (k : Int) : SCell := { rune := k, style := { fore := k + 1, back := k + 1 + 1, bold := decide ((k + 1 + 1 + 1).tmod 3 = 0), under := decide ((k + 1 + 1 + 1 + 1).tmod 3 = 0), turned := decide ((k + 1 + 1 + 1 + 1 + 1).tmod 3 = 0) }, part := k + 1 + 1 + 1 + 1 + 1 + 1 }
def cCell (x : SCell) : Nat := 7
def mkvGrid (x : SGrid) (k : Int) : SGrid := { cols := x.cols, rows := mkL (fun y j => mkL mkCell cCell y j) (fun y => cntL cCell y) x.rows (k) }
def cvGrid (x : SGrid) : Nat := 0 + cntL (fun y => cntL cCell y) x.rows
def mkvParser (x : SParser) (k : Int) : SParser := { state := x.state, params := mkL mkI cI x.params (k), mark_ := x.mark_, text_ := mkL mkI cI x.text_ (k + (cntL cI x.params : Nat)) }
def cvParser (x : SParser) : Nat := 0 + cntL cI x.params + cntL cI x.text_
def mkvTerm (x : STerm) (k : Int) : STerm := { grid := mkvGrid x.grid (k), other := mkvGrid x.other (k + (cvGrid x.grid : Nat)), row := x.row, col := x.col, style := x.style, top := x.top, bottom := x.bottom, full := x.full, wrap := x.wrap, away := x.away, hidden := x.hidden, savedRow := x.savedRow, savedCol := x.savedCol, savedStyle := x.savedStyle, title := mkL mkI cI x.title (k + (cvGrid x.grid : Nat) + (cvGrid x.other : Nat)), parser := mkvParser x.parser (k + (cvGrid x.grid : Nat) + (cvGrid x.other : Nat) + (cntL cI x.title : Nat)), feeder := x.feeder }
def cvTerm (x : STerm) : Nat := 0 + cvGrid x.grid + cvGrid x.other + cntL cI x.title + cvParser x.parser
def mkAction (x : SAction) (k : Int) : SAction := { kind := k, rune := k + 1, params := mkL mkI cI x.params (k + 1 + 1), mark_ := k + 1 + 1 + (cntL cI x.params : Nat), text_ := mkL mkI cI x.text_ (k + 1 + 1 + (cntL cI x.params : Nat) + 1) }
def cAction (x : SAction) : Nat := 3 + cntL cI x.params + cntL cI x.text_
def mkvAction (x : SAction) (k : Int) : SAction := { kind := x.kind, rune := x.rune, params := mkL mkI cI x.params (k), mark_ := x.mark_, text_ := mkL mkI cI x.text_ (k + (cntL cI x.params : Nat)) }
def cvAction (x : SAction) : Nat := 0 + cntL cI x.params + cntL cI x.text_
def mkEdit (x : SEdit) (k : Int) : SEdit := { kind := k, at_ := k + 1, value := k + 1 + 1 }
def cEdit (x : SEdit) : Nat := 3
def mkChange (x : SChange) (k : Int) : SChange := { row := k, from_ := k + 1, cells := mkL mkCell cCell x.cells (k + 1 + 1) }
def cChange (x : SChange) : Nat := 2 + cntL cCell x.cells
def mkvPatch (x : SPatch) (k : Int) : SPatch := { cols := x.cols, rows := x.rows, changes := mkL mkChange cChange x.changes (k) }
def cvPatch (x : SPatch) : Nat := 0 + cntL cChange x.changes
def mkvHistory (x : SHistory) (k : Int) : SHistory := { limit := x.limit, lines := mkL mkT cT x.lines (k), gone := x.gone }
def cvHistory (x : SHistory) : Nat := 0 + cntL cT x.lines
def mkKey (x : SKey) (k : Int) : SKey := { kind := k, rune := k + 1, alt := decide ((k + 1 + 1).tmod 3 = 0) }
def cKey (x : SKey) : Nat := 3
def mkvWindow (x : SWindow) (k : Int) : SWindow := { top := x.top, seen := mkL mkI cI x.seen (k) }
def cvWindow (x : SWindow) : Nat := 0 + cntL cI x.seen
def mkServer (x : SServer) (k : Int) : SServer := { log := mkL mkT cT x.log (k), sure := k + (cntL cT x.log : Nat) }
def cServer (x : SServer) : Nat := 1 + cntL cT x.log
def mkvChain (x : SChain) (k : Int) : SChain := { servers := mkL mkServer cServer x.servers (k), down := mkL (fun y j => mkL mkT cT y j) (fun y => cntL cT y) x.down (k + (cntL cServer x.servers : Nat)), up := mkL (fun y j => mkL mkI cI y j) (fun y => cntL cI y) x.up (k + (cntL cServer x.servers : Nat) + (cntL (fun y => cntL cT y) x.down : Nat)) }
def cvChain (x : SChain) : Nat := 0 + cntL cServer x.servers + cntL (fun y => cntL cT y) x.down + cntL (fun y => cntL cI y) x.up
def mkvSession (x : SSession) (k : Int) : SSession := { term := mkvTerm x.term (k), typed := x.typed, lasts := mkL mkI cI x.lasts (k + (cvTerm x.term : Nat)), count := x.count }
def cvSession (x : SSession) : Nat := 0 + cvTerm x.term + cntL cI x.lasts
def mkClient (x : SClient) (k : Int) : SClient := { id := k, queue := mkL mkT cT x.queue (k + 1), first := k + 1 + (cntL cT x.queue : Nat), screen := { cols := k + 1 + (cntL cT x.queue : Nat) + 1, rows := mkL (fun y j => mkL mkCell cCell y j) (fun y => cntL cCell y) x.screen.rows (k + 1 + (cntL cT x.queue : Nat) + 1 + 1) }, number := k + 1 + (cntL cT x.queue : Nat) + 1 + 1 + (cntL (fun y => cntL cCell y) x.screen.rows : Nat), window := { top := k + 1 + (cntL cT x.queue : Nat) + 1 + 1 + (cntL (fun y => cntL cCell y) x.screen.rows : Nat) + 1, seen := mkL mkI cI x.window.seen (k + 1 + (cntL cT x.queue : Nat) + 1 + 1 + (cntL (fun y => cntL cCell y) x.screen.rows : Nat) + 1 + 1) }, sends := k + 1 + (cntL cT x.queue : Nat) + 1 + 1 + (cntL (fun y => cntL cCell y) x.screen.rows : Nat) + 1 + 1 + (cntL cI x.window.seen : Nat) }
def cClient (x : SClient) : Nat := 6 + cntL cT x.queue + cntL (fun y => cntL cCell y) x.screen.rows + cntL cI x.window.seen
def mkvClient (x : SClient) (k : Int) : SClient := { id := x.id, queue := mkL mkT cT x.queue (k), first := x.first, screen := mkvGrid x.screen (k + (cntL cT x.queue : Nat)), number := x.number, window := mkvWindow x.window (k + (cntL cT x.queue : Nat) + (cvGrid x.screen : Nat)), sends := x.sends }
def cvClient (x : SClient) : Nat := 0 + cntL cT x.queue + cvGrid x.screen + cvWindow x.window
def mkvFrame (x : SFrame) (k : Int) : SFrame := { number := x.number, base := x.base, known := x.known, patch := mkvPatch x.patch (k) }
def cvFrame (x : SFrame) : Nat := 0 + cvPatch x.patch
def mkDatagram (x : SDatagram) (k : Int) : SDatagram := { to_ := k, text_ := mText (k + 1) }
def cDatagram (x : SDatagram) : Nat := 2
def mkvWorld (x : SWorld) (k : Int) : SWorld := { chain := mkvChain x.chain (k), clients := mkL mkClient cClient x.clients (k + (cvChain x.chain : Nat)), net := mkL mkT cT x.net (k + (cvChain x.chain : Nat) + (cntL cClient x.clients : Nat)), frames := mkL mkDatagram cDatagram x.frames (k + (cvChain x.chain : Nat) + (cntL cClient x.clients : Nat) + (cntL cT x.net : Nat)) }
def cvWorld (x : SWorld) : Nat := 0 + cvChain x.chain + cntL cClient x.clients + cntL cT x.net + cntL cDatagram x.frames
def mkAct (x : SAct) (k : Int) : SAct := { kind := k, who := k + 1, at_ := k + 1 + 1, text_ := mText (k + 1 + 1 + 1) }
def cAct (x : SAct) : Nat := 4
end Go.Sep

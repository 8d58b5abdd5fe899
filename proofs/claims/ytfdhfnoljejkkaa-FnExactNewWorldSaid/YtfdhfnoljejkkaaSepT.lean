/-
  The structs that the program and the laws name, as records; how they stand in memory. Printed by my program types.py.
-/
import Derived.Test.YtfdhfnoljejkkaaSepN
set_option linter.unusedVariables false
set_option linter.unusedSimpArgs false
namespace Go.Sep
open Go Go.RowKit

theorem one_of {cs : List Value} (h : cs.all (·.oneCell') = true) : AllOne cs := fun u hu => List.all_eq_true.1 h u hu
def encI (x : Int) : List Value := [.int .i64 x]
abbrev kI : K Int := K.flat encI 1 (fun _ => rfl) (fun _ => one_of rfl)
def encB (x : Bool) : List Value := [.bool x]
abbrev kB : K Bool := K.flat encB 1 (fun _ => rfl) (fun _ => one_of rfl)
def encT (x : ByteArray) : List Value := [.string x]
abbrev kT : K ByteArray := K.flat encT 1 (fun _ => rfl) (fun _ => one_of rfl)
structure SFeeder where
  held : ByteArray
def encFeeder (x : SFeeder) : List Value := [.string x.held]
abbrev kFeeder : K SFeeder := K.flat encFeeder 1 (fun _ => rfl) (fun _ => one_of rfl)
structure SStyle where
  fore : Int
  back : Int
  bold : Bool
  under : Bool
  turned : Bool
def encStyle (x : SStyle) : List Value := [.int .i64 x.fore, .int .i64 x.back, .bool x.bold, .bool x.under, .bool x.turned]
abbrev kStyle : K SStyle := K.flat encStyle 5 (fun _ => rfl) (fun _ => one_of rfl)
structure SCell where
  rune : Int
  style : SStyle
  part : Int
def encCell (x : SCell) : List Value := [.int .i64 x.rune, .int .i64 x.style.fore, .int .i64 x.style.back, .bool x.style.bold, .bool x.style.under, .bool x.style.turned, .int .i64 x.part]
abbrev kCell : K SCell := K.flat encCell 7 (fun _ => rfl) (fun _ => one_of rfl)
structure SGrid where
  cols : Int
  rows : (List (List SCell))
abbrev kGrid : K SGrid := K.struct [⟨_, kI, SGrid.cols⟩, ⟨_, (kS (kS kCell)), SGrid.rows⟩]
structure SParser where
  state : Int
  params : (List Int)
  mark_ : Int
  text_ : (List Int)
abbrev kParser : K SParser := K.struct [⟨_, kI, SParser.state⟩, ⟨_, (kS kI), SParser.params⟩, ⟨_, kI, SParser.mark_⟩, ⟨_, (kS kI), SParser.text_⟩]
structure STerm where
  grid : SGrid
  other : SGrid
  row : Int
  col : Int
  style : SStyle
  top : Int
  bottom : Int
  full : Bool
  wrap : Bool
  away : Bool
  hidden : Bool
  savedRow : Int
  savedCol : Int
  savedStyle : SStyle
  title : (List Int)
  parser : SParser
  feeder : SFeeder
abbrev kTerm : K STerm := K.struct [⟨_, kGrid, STerm.grid⟩, ⟨_, kGrid, STerm.other⟩, ⟨_, kI, STerm.row⟩, ⟨_, kI, STerm.col⟩, ⟨_, kStyle, STerm.style⟩, ⟨_, kI, STerm.top⟩, ⟨_, kI, STerm.bottom⟩, ⟨_, kB, STerm.full⟩, ⟨_, kB, STerm.wrap⟩, ⟨_, kB, STerm.away⟩, ⟨_, kB, STerm.hidden⟩, ⟨_, kI, STerm.savedRow⟩, ⟨_, kI, STerm.savedCol⟩, ⟨_, kStyle, STerm.savedStyle⟩, ⟨_, (kS kI), STerm.title⟩, ⟨_, kParser, STerm.parser⟩, ⟨_, kFeeder, STerm.feeder⟩]
structure SAction where
  kind : Int
  rune : Int
  params : (List Int)
  mark_ : Int
  text_ : (List Int)
abbrev kAction : K SAction := K.struct [⟨_, kI, SAction.kind⟩, ⟨_, kI, SAction.rune⟩, ⟨_, (kS kI), SAction.params⟩, ⟨_, kI, SAction.mark_⟩, ⟨_, (kS kI), SAction.text_⟩]
structure SEdit where
  kind : Int
  at_ : Int
  value : Int
def encEdit (x : SEdit) : List Value := [.int .i64 x.kind, .int .i64 x.at_, .int .i64 x.value]
abbrev kEdit : K SEdit := K.flat encEdit 3 (fun _ => rfl) (fun _ => one_of rfl)
structure SChange where
  row : Int
  from_ : Int
  cells : (List SCell)
abbrev kChange : K SChange := K.struct [⟨_, kI, SChange.row⟩, ⟨_, kI, SChange.from_⟩, ⟨_, (kS kCell), SChange.cells⟩]
structure SPatch where
  cols : Int
  rows : Int
  changes : (List SChange)
abbrev kPatch : K SPatch := K.struct [⟨_, kI, SPatch.cols⟩, ⟨_, kI, SPatch.rows⟩, ⟨_, (kS kChange), SPatch.changes⟩]
structure SHistory where
  limit : Int
  lines : (List ByteArray)
  gone : Int
abbrev kHistory : K SHistory := K.struct [⟨_, kI, SHistory.limit⟩, ⟨_, (kS kT), SHistory.lines⟩, ⟨_, kI, SHistory.gone⟩]
structure SKey where
  kind : Int
  rune : Int
  alt : Bool
def encKey (x : SKey) : List Value := [.int .i64 x.kind, .int .i64 x.rune, .bool x.alt]
abbrev kKey : K SKey := K.flat encKey 3 (fun _ => rfl) (fun _ => one_of rfl)
structure SWindow where
  top : Int
  seen : (List Int)
abbrev kWindow : K SWindow := K.struct [⟨_, kI, SWindow.top⟩, ⟨_, (kS kI), SWindow.seen⟩]
structure SServer where
  log : (List ByteArray)
  sure : Int
abbrev kServer : K SServer := K.struct [⟨_, (kS kT), SServer.log⟩, ⟨_, kI, SServer.sure⟩]
structure SChain where
  servers : (List SServer)
  down : (List (List ByteArray))
  up : (List (List Int))
abbrev kChain : K SChain := K.struct [⟨_, (kS kServer), SChain.servers⟩, ⟨_, (kS (kS kT)), SChain.down⟩, ⟨_, (kS (kS kI)), SChain.up⟩]
structure SEntry where
  kind : Int
  client : Int
  seq : Int
  text_ : ByteArray
def encEntry (x : SEntry) : List Value := [.int .i64 x.kind, .int .i64 x.client, .int .i64 x.seq, .string x.text_]
abbrev kEntry : K SEntry := K.flat encEntry 4 (fun _ => rfl) (fun _ => one_of rfl)
structure SSession where
  term : STerm
  typed : ByteArray
  lasts : (List Int)
  count : Int
abbrev kSession : K SSession := K.struct [⟨_, kTerm, SSession.term⟩, ⟨_, kT, SSession.typed⟩, ⟨_, (kS kI), SSession.lasts⟩, ⟨_, kI, SSession.count⟩]
structure SClient where
  id : Int
  queue : (List ByteArray)
  first : Int
  screen : SGrid
  number : Int
  window : SWindow
  sends : Int
abbrev kClient : K SClient := K.struct [⟨_, kI, SClient.id⟩, ⟨_, (kS kT), SClient.queue⟩, ⟨_, kI, SClient.first⟩, ⟨_, kGrid, SClient.screen⟩, ⟨_, kI, SClient.number⟩, ⟨_, kWindow, SClient.window⟩, ⟨_, kI, SClient.sends⟩]
structure SFrame where
  number : Int
  base : Int
  known : Int
  patch : SPatch
abbrev kFrame : K SFrame := K.struct [⟨_, kI, SFrame.number⟩, ⟨_, kI, SFrame.base⟩, ⟨_, kI, SFrame.known⟩, ⟨_, kPatch, SFrame.patch⟩]
structure SDatagram where
  to_ : Int
  text_ : ByteArray
def encDatagram (x : SDatagram) : List Value := [.int .i64 x.to_, .string x.text_]
abbrev kDatagram : K SDatagram := K.flat encDatagram 2 (fun _ => rfl) (fun _ => one_of rfl)
structure SWorld where
  chain : SChain
  clients : (List SClient)
  net : (List ByteArray)
  frames : (List SDatagram)
abbrev kWorld : K SWorld := K.struct [⟨_, kChain, SWorld.chain⟩, ⟨_, (kS kClient), SWorld.clients⟩, ⟨_, (kS kT), SWorld.net⟩, ⟨_, (kS kDatagram), SWorld.frames⟩]
structure SAct where
  kind : Int
  who : Int
  at_ : Int
  text_ : ByteArray
def encAct (x : SAct) : List Value := [.int .i64 x.kind, .int .i64 x.who, .int .i64 x.at_, .string x.text_]
abbrev kAct : K SAct := K.flat encAct 4 (fun _ => rfl) (fun _ => one_of rfl)
attribute [go_sem] encI encB encT encFeeder encStyle encCell encEdit encKey encEntry encDatagram encAct
end Go.Sep
